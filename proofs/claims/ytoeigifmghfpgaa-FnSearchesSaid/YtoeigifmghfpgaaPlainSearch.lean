/-
  The plain law of searches: the price of sections by a scan over the first opening, with no program in sight.
-/
import Derived.Test.YtoeigifmghfpgaaLib
namespace Go.Proofs.Ytoeigifmghfpgaa.Plain

/-- One first opening tried: the least price yet, and its opening, -1 if there is none yet. -/
def tryOne (cost : Nat → Int) (acc : Int × Int) (k : Nat) : Int × Int := if acc.2 < 0 ∨ cost k < acc.1 then (cost k, (k : Int)) else acc
def scan (cost : Nat → Int) (lo : Nat) : Nat → Int × Int
  | 0 => (0, -1)
  | n + 1 => tryOne cost (scan cost lo n) (lo + n)

theorem scan_cases (cost : Nat → Int) (lo n : Nat) : (n = 0 ∧ scan cost lo n = (0, -1)) ∨ ∃ k, lo ≤ k ∧ k < lo + n ∧ scan cost lo n = (cost k, (k : Int)) := by
  induction n with
  | zero => exact .inl ⟨rfl, rfl⟩
  | succ n ih =>
    right
    simp only [scan, tryOne]
    split
    · exact ⟨lo + n, by omega, by omega, rfl⟩
    · rename_i h
      rcases ih with ⟨rfl, e⟩ | ⟨k, h1, h2, e⟩
      · rw [e] at h; simp at h
      · exact ⟨k, h1, by omega, e⟩

/-- The price of sections lo to hi with so much fuel; c gives the price of a first opening k out of those of the two parts. -/
def price (c : Nat → Nat → Nat → Int → Int → Int) : Nat → Nat → Nat → Int × Int
  | 0, _, _ => (0, -1)
  | f + 1, lo, hi => scan (fun k => c lo hi k (price c f lo k).1 (price c f (k + 1) hi).1) lo (hi - lo)

/-- What a first opening k costs. -/
def cost (c : Nat → Nat → Nat → Int → Int → Int) (f lo hi : Nat) (k : Nat) : Int := c lo hi k (price c f lo k).1 (price c f (k + 1) hi).1
theorem price_succ (c : Nat → Nat → Nat → Int → Int → Int) (f lo hi : Nat) : price c (f + 1) lo hi = scan (cost c f lo hi) lo (hi - lo) := rfl

def cWorst (xs : List Int) (_ _ k : Nat) (a b : Int) : Int := xs.getD k 0 + max a b
def cMean (xs ws : List Int) (lo hi k : Nat) (a b : Int) : Int := xs.getD k 0 * sumI ((ws.take (hi + 1)).drop lo) + a + b

/-- The opening lies among the sections. -/
theorem price_best (c : Nat → Nat → Nat → Int → Int → Int) (f lo hi : Nat) (h : lo < hi) (hf : 0 < f) : ∃ k, lo ≤ k ∧ k < hi ∧ (price c f lo hi).2 = (k : Int) := by
  cases f with
  | zero => omega
  | succ f =>
    simp only [price]
    rcases scan_cases (fun k => c lo hi k (price c f lo k).1 (price c f (k + 1) hi).1) lo (hi - lo) with ⟨h0, _⟩ | ⟨k, h1, h2, e⟩
    · omega
    · exact ⟨k, h1, by omega, by rw [e]⟩

theorem price_le (c : Nat → Nat → Nat → Int → Int → Int) (B : Nat → Int) (h0 : ∀ f, 0 ≤ B f) (N : Nat)
    (hc : ∀ f lo hi k a b, k < N → hi ≤ N → lo ≤ k → k < hi → 0 ≤ a → a ≤ B f → 0 ≤ b → b ≤ B f → 0 ≤ c lo hi k a b ∧ c lo hi k a b ≤ B (f + 1)) :
    ∀ f lo hi, hi ≤ N → 0 ≤ (price c f lo hi).1 ∧ (price c f lo hi).1 ≤ B f := by
  intro f
  induction f with
  | zero => intro lo hi _; exact ⟨Int.le_refl _, h0 0⟩
  | succ f ih =>
    intro lo hi hN
    simp only [price]
    rcases scan_cases (fun k => c lo hi k (price c f lo k).1 (price c f (k + 1) hi).1) lo (hi - lo) with ⟨_, e⟩ | ⟨k, h1, h2, e⟩
    · rw [e]; exact ⟨Int.le_refl _, h0 _⟩
    · rw [e]
      have a := ih lo k (by omega)
      have b := ih (k + 1) hi hN
      exact hc f lo hi k _ _ (by omega) hN h1 (by omega) a.1 a.2 b.1 b.2

/-- Enough fuel is enough. -/
theorem price_fuel (c : Nat → Nat → Nat → Int → Int → Int) : ∀ f lo hi, hi - lo ≤ f → price c (f + 1) lo hi = price c f lo hi := by
  have sc : ∀ (c1 c2 : Nat → Int) (lo n : Nat), (∀ k, lo ≤ k → k < lo + n → c1 k = c2 k) → scan c1 lo n = scan c2 lo n := by
    intro c1 c2 lo n h
    induction n with
    | zero => rfl
    | succ n ih =>
      simp only [scan, ih (fun k h1 h2 => h k h1 (by omega)), tryOne, h (lo + n) (by omega) (by omega)]
  intro f
  induction f with
  | zero =>
    intro lo hi h
    simp only [price, show hi - lo = 0 by omega, scan]
  | succ f ih =>
    intro lo hi h
    show scan (fun k => c lo hi k (price c (f + 1) lo k).1 (price c (f + 1) (k + 1) hi).1) lo (hi - lo) = scan (fun k => c lo hi k (price c f lo k).1 (price c f (k + 1) hi).1) lo (hi - lo)
    refine sc _ _ _ _ fun k h1 h2 => ?_
    rw [ih lo k (by omega), ih (k + 1) hi (by omega)]

/-- The openings that are made for a section, and the sum of their prices: B gives the next opening. -/
def findR (B : Nat → Nat → Nat) (xs : List Int) (sec : Int) : Nat → Nat → Nat → List Int × Int
  | 0, _, _ => ([], 0)
  | f + 1, lo, hi => if lo < hi then (if sec ≤ (B lo hi : Int) then ((B lo hi : Int) :: (findR B xs sec f lo (B lo hi)).1, xs.getD (B lo hi) 0 + (findR B xs sec f lo (B lo hi)).2) else ((B lo hi : Int) :: (findR B xs sec f (B lo hi + 1) hi).1, xs.getD (B lo hi) 0 + (findR B xs sec f (B lo hi + 1) hi).2)) else ([], 0)

theorem findR_done (B : Nat → Nat → Nat) (xs : List Int) (sec : Int) (f lo hi : Nat) (h : ¬ lo < hi) : findR B xs sec f lo hi = ([], 0) := by
  cases f with
  | zero => rfl
  | succ f => simp only [findR, if_neg h]

theorem findR_bounds (B : Nat → Nat → Nat) (xs : List Int) (sec : Int) (hx : ∀ k, k < xs.length → 1 ≤ xs.getD k 0 ∧ xs.getD k 0 ≤ 1000) (hB : ∀ lo hi, lo < hi → hi ≤ xs.length → lo ≤ B lo hi ∧ B lo hi < hi) :
    ∀ f lo hi, hi ≤ xs.length → 0 ≤ (findR B xs sec f lo hi).2 ∧ (findR B xs sec f lo hi).2 ≤ 1000 * f ∧ (findR B xs sec f lo hi).1.length ≤ f := by
  intro f
  induction f with
  | zero => intro lo hi _; simp [findR]
  | succ f ih =>
    intro lo hi hh
    by_cases h : lo < hi
    · have hb := hB lo hi h hh
      have hp := hx (B lo hi) (by omega)
      simp only [findR, if_pos h]
      split
      · have := ih lo (B lo hi) (by omega)
        simp only [List.length_cons]; omega
      · have := ih (B lo hi + 1) hi hh
        simp only [List.length_cons]; omega
    · rw [findR_done B xs sec (f + 1) lo hi h]; simp; omega

/-- The next opening by the worst price, and by the mean one. -/
def bWorst (xs : List Int) (lo hi : Nat) : Nat := (price (cWorst xs) 9 lo hi).2.toNat
def bMean (xs ws : List Int) (lo hi : Nat) : Nat := (price (cMean xs ws) 9 lo hi).2.toNat
theorem bWorst_mem (xs : List Int) (lo hi : Nat) (h : lo < hi) : lo ≤ bWorst xs lo hi ∧ bWorst xs lo hi < hi ∧ (price (cWorst xs) 9 lo hi).2 = (bWorst xs lo hi : Int) := by
  obtain ⟨k, h1, h2, h3⟩ := price_best (cWorst xs) 9 lo hi h (by omega)
  have e : bWorst xs lo hi = k := by unfold bWorst; rw [h3]; simp
  rw [e]; exact ⟨h1, h2, h3⟩
theorem bMean_mem (xs ws : List Int) (lo hi : Nat) (h : lo < hi) : lo ≤ bMean xs ws lo hi ∧ bMean xs ws lo hi < hi ∧ (price (cMean xs ws) 9 lo hi).2 = (bMean xs ws lo hi : Int) := by
  obtain ⟨k, h1, h2, h3⟩ := price_best (cMean xs ws) 9 lo hi h (by omega)
  have e : bMean xs ws lo hi = k := by unfold bMean; rw [h3]; simp
  rw [e]; exact ⟨h1, h2, h3⟩

end Go.Proofs.Ytoeigifmghfpgaa.Plain
