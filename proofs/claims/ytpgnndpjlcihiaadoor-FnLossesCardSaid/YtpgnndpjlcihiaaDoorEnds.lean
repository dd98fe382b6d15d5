/-
  What both sides answer out of their tables at the end: least and greatest leaks, late leaks. In plain Lean, no program in sight.
-/
import Derived.Test.YtpgnndpjlcihiaaDoorInit
namespace Go.Proofs.YtpgnndpjlcihiaaDoor

theorem end_stg {s : Nat} (hs : s ≤ 9) (tf : Nat → Bool) {xs : List (Int × Int × Int)} (hx : fitT s xs) (hok : okA s tf xs = true) :
    small (initA s tf xs) ∧ fine (initA s tf xs) (s + 1) ∧ ∀ a b, a < s + 1 → b < s + 1 → endA s tf xs a b = stg (initA s tf xs) (s + 1) a b := by
  obtain ⟨h1, h2, h3⟩ := alike_init tf hx
  have hsame : same (s + 1) (initA s tf xs) (initB s tf xs) := fun a b ha hb => by
    obtain ⟨q1, q2⟩ := h3 a b ha hb
    refine ⟨fun hab => ?_, q2⟩
    rcases q1 hab with q | ⟨q, q', q''⟩
    · exact .inl q
    · exact .inr ⟨q, by omega, by omega⟩
  rcases side_by_side (show s + 1 ≤ 10 by omega) h1 (fun a _ => h2 a) hsame (s + 1) (Nat.le_refl _) with ⟨k1, k2, k3, k4⟩ | ⟨⟨a, ha, k1⟩, _⟩
  · exact ⟨h1, k1, k3⟩
  · exfalso
    unfold okA at hok
    rw [List.all_eq_true] at hok
    have := hok a (List.mem_range.2 ha)
    simp only [decide_eq_true_eq] at this
    unfold endA at this
    omega

theorem boundF_le (f : Nat → Nat → Int) (i k : Nat) (x : Int) (a b : Nat) : boundF f i k x a b ≤ f a b := by
  unfold boundF
  by_cases e : a = i ∧ b = k
  · obtain ⟨rfl, rfl⟩ := e
    rw [upd_at]; omega
  · rw [upd_else _ _ _ _ _ _ e]; omega
theorem testsF_le (xs : List (Int × Int × Int)) : ∀ (f : Nat → Nat → Int) (a b : Nat), testsF f xs a b ≤ f a b := by
  induction xs with
  | nil => intro f a b; exact Int.le_refl _
  | cons x xs ih =>
    intro f a b
    refine Int.le_trans (ih (testF f x) a b) ?_
    unfold testF
    exact Int.le_trans (boundF_le _ _ _ _ _ _) (boundF_le _ _ _ _ _ _)
theorem init_step (s : Nat) (tf : Nat → Bool) (xs : List (Int × Int × Int)) (k : Nat) (hk : k < s) : initA s tf xs (k + 1) k ≤ 0 := by
  refine Int.le_trans (testsF_le xs _ _ _) ?_
  rw [edgeA_val, if_pos (.inl ⟨rfl, hk⟩)]
  exact Int.le_refl _
theorem end_step {s : Nat} (hs : s ≤ 9) (tf : Nat → Bool) {xs : List (Int × Int × Int)} (hx : fitT s xs) (hok : okA s tf xs = true) (k : Nat) (hk : k < s) : endA s tf xs (k + 1) k ≤ 0 := by
  obtain ⟨_, _, h3⟩ := end_stg hs tf hx hok
  rw [h3 _ _ (by omega) (by omega)]
  exact Int.le_trans (stg_le _ _ _ _) (init_step s tf xs k hk)
theorem end_zero {s : Nat} (hs : s ≤ 9) (tf : Nat → Bool) {xs : List (Int × Int × Int)} (hx : fitT s xs) (hok : okA s tf xs = true) : ∀ k, k < s → endA s tf xs (k + 1) 0 ≤ 0 := by
  have hI : INF = 1099511627776 := rfl
  obtain ⟨h1, h2, h3⟩ := end_stg hs tf hx hok
  intro k
  induction k with
  | zero => intro hk; exact end_step hs tf hx hok 0 hk
  | succ k ih =>
    intro hk
    have a1 := ih (by omega)
    have a2 := end_step hs tf hx hok (k + 1) hk
    rw [h3 _ _ (by omega) (by omega)] at a1 a2 ⊢
    have := stg_tri h1 (show s + 1 ≤ 10 by omega) h2 (show k + 1 < s + 1 by omega) (i := k + 1 + 1) (k := 0) (by omega) (by omega)
    omega

/-- The program's table of no tight sections, its diagonal none. -/
def openT : Nat → Bool := fun _ => false
def DA (s : Nat) (xs : List (Int × Int × Int)) : Nat → Nat → Int := fun a b => if a = b then 0 else endA s openT xs a b
def DB (s : Nat) (xs : List (Int × Int × Int)) : Nat → Nat → Int := endB s openT xs
def valLow (s : Nat) (xs : List (Int × Int × Int)) (k : Nat) : Int := -(DA s xs (k + 1) k)
def valHigh (s : Nat) (xs : List (Int × Int × Int)) (k : Nat) : Int := if INF ≤ DA s xs k (k + 1) then -1 else DA s xs k (k + 1)
def valLate (s : Nat) (xs : List (Int × Int × Int)) (k : Nat) : Int := DA s xs k 0 - DA s xs (k + 1) 0

section
variable {s : Nat} {xs : List (Int × Int × Int)} (hs : s ≤ 9) (hx : fitT s xs) (hok : okA s openT xs = true)
include hs hx hok
theorem D_same {a b : Nat} (ha : a < s + 1) (hb : b < s + 1) : (DA s xs a b = INF ∧ DB s xs a b = FAR) ∨ (DA s xs a b = DB s xs a b ∧ -110000 ≤ DB s xs a b ∧ DB s xs a b ≤ 110000) := by
  rcases end_cases hs openT hx with ⟨_, _, h⟩ | ⟨h, _⟩
  · obtain ⟨q1, q2⟩ := h a b ha hb
    unfold DA DB
    by_cases e : a = b
    · rw [if_pos e, q2 e]; right; omega
    · rw [if_neg e]; exact q1 e
  · rw [h] at hok; cases hok
theorem low_eq {k : Nat} (hk : k < s) : DA s xs (k + 1) k = DB s xs (k + 1) k ∧ -110000 ≤ DB s xs (k + 1) k ∧ DB s xs (k + 1) k ≤ 0 := by
  have hI : INF = 1099511627776 := rfl
  have h := end_step hs openT hx hok k hk
  have h2 : DA s xs (k + 1) k ≤ 0 := by unfold DA; rw [if_neg (by omega)]; exact h
  rcases D_same hs hx hok (a := k + 1) (b := k) (by omega) (by omega) with ⟨q, _⟩ | ⟨q, q1, q2⟩
  · omega
  · exact ⟨q, q1, by omega⟩
theorem high_eq {k : Nat} (hk : k < s) : (if FAR ≤ DB s xs k (k + 1) then -1 else DB s xs k (k + 1)) = valHigh s xs k ∧ -110000 ≤ valHigh s xs k ∧ valHigh s xs k ≤ 110000 := by
  have hI : INF = 1099511627776 := rfl
  have hF : FAR = 1000000 := rfl
  unfold valHigh
  rcases D_same hs hx hok (a := k) (b := k + 1) (by omega) (by omega) with ⟨q, q1⟩ | ⟨q, q1, q2⟩
  · rw [q, q1, if_pos (Int.le_refl _), if_pos (Int.le_refl _)]; omega
  · rw [q, if_neg (by omega), if_neg (by omega)]; omega
theorem zero_eq {k : Nat} (hk : k < s + 1) : DA s xs k 0 = DB s xs k 0 ∧ -110000 ≤ DB s xs k 0 ∧ DB s xs k 0 ≤ 0 := by
  have hI : INF = 1099511627776 := rfl
  have h2 : DA s xs k 0 ≤ 0 := by
    unfold DA
    by_cases e : k = 0
    · rw [if_pos e]; omega
    · rw [if_neg e]
      have := end_zero hs openT hx hok (k - 1) (by omega)
      rwa [show k - 1 + 1 = k by omega] at this
  rcases D_same hs hx hok (a := k) (b := 0) (by omega) (by omega) with ⟨q, _⟩ | ⟨q, q1, q2⟩
  · omega
  · exact ⟨q, q1, by omega⟩
theorem tight_eq {k : Nat} (hk : k < s) : (DB s xs k (k + 1) = 0) ↔ valHigh s xs k = 0 := by
  have hI : INF = 1099511627776 := rfl
  have hF : FAR = 1000000 := rfl
  unfold valHigh
  rcases D_same hs hx hok (a := k) (b := k + 1) (by omega) (by omega) with ⟨q, q1⟩ | ⟨q, q1, q2⟩
  · rw [q, q1, if_pos (Int.le_refl _)]; omega
  · rw [q, if_neg (by omega)]
end

end Go.Proofs.YtpgnndpjlcihiaaDoor
