/-
  The mean price is the sum over all sections by their weights, and no other search has a lesser one. In plain Lean, no program in sight.
-/
import Derived.Test.YtoeigifmghfpgaaPlainSearch
namespace Go.Proofs.Ytoeigifmghfpgaa.Plain

/-- The sum over n sections from lo on of what each costs, by its weight. -/
def wsum (ws : List Int) (c : Int → Int) (lo : Nat) : Nat → Int
  | 0 => 0
  | n + 1 => wsum ws c lo n + ws.getD (lo + n) 0 * c ((lo + n : Nat) : Int)

theorem wsum_congr {ws : List Int} {c d : Int → Int} {lo n : Nat} (h : ∀ i, i < n → c ((lo + i : Nat) : Int) = d ((lo + i : Nat) : Int)) : wsum ws c lo n = wsum ws d lo n := by
  induction n with
  | zero => rfl
  | succ n ih => simp only [wsum]; rw [ih (fun i hi => h i (by omega)), h n (by omega)]
theorem wsum_zero {ws : List Int} {c : Int → Int} {lo n : Nat} (h : ∀ i, i < n → c ((lo + i : Nat) : Int) = 0) : wsum ws c lo n = 0 := by
  induction n with
  | zero => rfl
  | succ n ih => simp only [wsum]; rw [ih (fun i hi => h i (by omega)), h n (by omega), Int.mul_zero]; rfl
theorem wsum_split (ws : List Int) (c : Int → Int) (lo a b : Nat) : wsum ws c lo (a + b) = wsum ws c lo a + wsum ws c (lo + a) b := by
  induction b with
  | zero => simp [wsum]
  | succ b ih =>
    show wsum ws c lo (a + b) + ws.getD (lo + (a + b)) 0 * c ((lo + (a + b) : Nat) : Int) = wsum ws c lo a + (wsum ws c (lo + a) b + ws.getD (lo + a + b) 0 * c ((lo + a + b : Nat) : Int))
    rw [ih, Nat.add_assoc lo a b, Int.add_assoc]
theorem wsum_one {ws : List Int} {lo n : Nat} (h : lo + n ≤ ws.length) : wsum ws (fun _ => 1) lo n = sumI ((ws.take (lo + n)).drop lo) := by
  induction n with
  | zero =>
    have : (ws.take (lo + 0)).drop lo = [] := List.drop_eq_nil_of_le (by simp; omega)
    rw [this]; rfl
  | succ n ih =>
    have e : (ws.take (lo + (n + 1))).drop lo = (ws.take (lo + n)).drop lo ++ [ws.getD (lo + n) 0] := by
      rw [← Nat.add_assoc, take_snoc ws (lo + n) (by omega), List.drop_append_of_le_length (by simp; omega)]
    rw [e, sumI_snoc, ← ih (by omega)]
    simp [wsum]
theorem wsum_add (ws : List Int) (x : Int) (c : Int → Int) (lo n : Nat) : wsum ws (fun s => x + c s) lo n = x * wsum ws (fun _ => 1) lo n + wsum ws c lo n := by
  induction n with
  | zero => simp [wsum]
  | succ n ih =>
    simp only [wsum]
    rw [ih, Int.mul_add, Int.mul_add, Int.mul_one, Int.mul_comm x (ws.getD (lo + n) 0)]
    omega

theorem scan_min (cost : Nat → Int) (lo n : Nat) : ∀ k, lo ≤ k → k < lo + n → (scan cost lo n).1 ≤ cost k := by
  induction n with
  | zero => intro k h1 h2; omega
  | succ n ih =>
    intro k h1 h2
    simp only [scan, tryOne]
    by_cases hc : (scan cost lo n).2 < 0 ∨ cost (lo + n) < (scan cost lo n).1
    · rw [if_pos hc]
      by_cases e : k = lo + n
      · rw [e]; exact Int.le_refl _
      · rcases hc with hc | hc
        · rcases scan_cases cost lo n with ⟨h0, _⟩ | ⟨j, _, _, hj⟩
          · omega
          · rw [hj] at hc; simp only at hc; omega
        · have := ih k h1 (by omega)
          simp only; omega
    · rw [if_neg hc]
      by_cases e : k = lo + n
      · rw [e]; omega
      · exact ih k h1 (by omega)

theorem price_nine (c : Nat → Nat → Nat → Int → Int → Int) {f lo hi : Nat} (hf : hi - lo ≤ f) (h9 : f ≤ 9) : price c 9 lo hi = price c f lo hi := by
  obtain ⟨d, hd⟩ : ∃ d, 9 = f + d := ⟨9 - f, by omega⟩
  rw [hd]
  clear h9 hd
  induction d with
  | zero => rfl
  | succ d ih => rw [← ih, ← Nat.add_assoc]; exact price_fuel c (f + d) lo hi (by omega)

theorem price_none (c : Nat → Nat → Nat → Int → Int → Int) (f lo : Nat) : (price c f lo lo).1 = 0 := by
  cases f with
  | zero => rfl
  | succ f => simp only [price, Nat.sub_self]; rfl

/-- One opening parts the sections. -/
theorem wsum_step (B : Nat → Nat → Nat) (xs ws : List Int) (f lo hi : Nat) (h : lo < hi) (hB : lo ≤ B lo hi ∧ B lo hi < hi) (hw : hi + 1 ≤ ws.length) :
    wsum ws (fun s => (findR B xs s (f + 1) lo hi).2) lo (hi + 1 - lo) =
      xs.getD (B lo hi) 0 * sumI ((ws.take (hi + 1)).drop lo) + wsum ws (fun s => (findR B xs s f lo (B lo hi)).2) lo (B lo hi + 1 - lo) + wsum ws (fun s => (findR B xs s f (B lo hi + 1) hi).2) (B lo hi + 1) (hi + 1 - (B lo hi + 1)) := by
  generalize hk : B lo hi = k at hB
  obtain ⟨h1, h2⟩ := hB
  obtain ⟨a, ha⟩ : ∃ a, k + 1 - lo = a := ⟨_, rfl⟩
  obtain ⟨b, hb⟩ : ∃ b, hi + 1 - (k + 1) = b := ⟨_, rfl⟩
  have e1 : hi + 1 - lo = a + b := by omega
  have e2 : lo + a = k + 1 := by omega
  have c1 : wsum ws (fun s => (findR B xs s (f + 1) lo hi).2) lo a = wsum ws (fun s => xs.getD k 0 + (findR B xs s f lo k).2) lo a := by
    refine wsum_congr fun i hi2 => ?_
    simp only [findR, if_pos h, hk]
    rw [if_pos (by omega)]
  have c2 : wsum ws (fun s => (findR B xs s (f + 1) lo hi).2) (lo + a) b = wsum ws (fun s => xs.getD k 0 + (findR B xs s f (k + 1) hi).2) (lo + a) b := by
    refine wsum_congr fun i hi2 => ?_
    simp only [findR, if_pos h, hk]
    rw [if_neg (by omega)]
  have c3 : sumI ((ws.take (hi + 1)).drop lo) = wsum ws (fun _ => 1) lo a + wsum ws (fun _ => 1) (lo + a) b := by
    rw [← wsum_split, wsum_one (by omega), show lo + (a + b) = hi + 1 by omega]
  rw [ha, hb, e1, wsum_split, c1, c2, wsum_add, wsum_add, c3, e2, Int.mul_add]
  omega

/-- No search has a lesser mean price. -/
theorem mean_least (B : Nat → Nat → Nat) (xs ws : List Int) (hB : ∀ lo hi, lo < hi → hi ≤ xs.length → lo ≤ B lo hi ∧ B lo hi < hi) (hw : ws.length = xs.length + 1) :
    ∀ f lo hi, lo ≤ hi → hi ≤ xs.length → hi - lo ≤ f → (price (cMean xs ws) f lo hi).1 ≤ wsum ws (fun s => (findR B xs s f lo hi).2) lo (hi + 1 - lo) := by
  intro f
  induction f with
  | zero =>
    intro lo hi h1 h2 h3
    obtain rfl : lo = hi := by omega
    rw [price_none, wsum_zero (fun i _ => by rw [findR_done _ _ _ _ _ _ (by omega)])]
    exact Int.le_refl _
  | succ f ih =>
    intro lo hi h1 h2 h3
    by_cases h : lo < hi
    · have hb := hB lo hi h h2
      rw [wsum_step B xs ws f lo hi h hb (by omega)]
      have i1 := ih lo (B lo hi) hb.1 (by omega) (by omega)
      have i2 := ih (B lo hi + 1) hi (by omega) h2 (by omega)
      have hm : (price (cMean xs ws) (f + 1) lo hi).1 ≤ cMean xs ws lo hi (B lo hi) (price (cMean xs ws) f lo (B lo hi)).1 (price (cMean xs ws) f (B lo hi + 1) hi).1 :=
        scan_min _ lo (hi - lo) (B lo hi) hb.1 (by omega)
      unfold cMean at hm i1 i2 ⊢
      omega
    · obtain rfl : lo = hi := by omega
      rw [price_none, wsum_zero (fun i _ => by rw [findR_done _ _ _ _ _ _ (by omega)])]
      exact Int.le_refl _

/-- The mean price is that of the search. -/
theorem mean_sum (xs ws : List Int) (hw : ws.length = xs.length + 1) :
    ∀ f lo hi, lo ≤ hi → hi ≤ xs.length → hi - lo ≤ f → f ≤ 9 → (price (cMean xs ws) f lo hi).1 = wsum ws (fun s => (findR (bMean xs ws) xs s f lo hi).2) lo (hi + 1 - lo) := by
  intro f
  induction f with
  | zero =>
    intro lo hi h1 h2 h3 _
    obtain rfl : lo = hi := by omega
    rw [price_none, wsum_zero (fun i _ => by rw [findR_done _ _ _ _ _ _ (by omega)])]
  | succ f ih =>
    intro lo hi h1 h2 h3 h9
    by_cases h : lo < hi
    · obtain ⟨b1, b2, b3⟩ := bMean_mem xs ws lo hi h
      rw [wsum_step (bMean xs ws) xs ws f lo hi h ⟨b1, b2⟩ (by omega)]
      rw [← ih lo (bMean xs ws lo hi) b1 (by omega) (by omega) (by omega), ← ih (bMean xs ws lo hi + 1) hi (by omega) h2 (by omega) (by omega)]
      rw [price_nine (cMean xs ws) h3 h9] at b3
      rw [price_succ] at b3 ⊢
      rcases scan_cases (cost (cMean xs ws) f lo hi) lo (hi - lo) with ⟨h0, _⟩ | ⟨k, _, _, hk⟩
      · omega
      · rw [hk] at b3 ⊢
        simp only at b3 ⊢
        have : k = bMean xs ws lo hi := by omega
        rw [this]; rfl
    · obtain rfl : lo = hi := by omega
      rw [price_none, wsum_zero (fun i _ => by rw [findR_done _ _ _ _ _ _ (by omega)])]

theorem findR_first (B : Nat → Nat → Nat) (xs : List Int) (sec : Int) (f lo hi : Nat) (h : lo < hi) : ∃ t, (findR B xs sec (f + 1) lo hi).1 = (B lo hi : Int) :: t := by
  simp only [findR, if_pos h]
  split
  · exact ⟨_, rfl⟩
  · exact ⟨_, rfl⟩
theorem wsum_bound {ws : List Int} {c : Int → Int} {lo n : Nat} (h : ∀ i, i < n → 0 ≤ ws.getD (lo + i) 0 * c ((lo + i : Nat) : Int) ∧ ws.getD (lo + i) 0 * c ((lo + i : Nat) : Int) ≤ 900000) : 0 ≤ wsum ws c lo n ∧ wsum ws c lo n ≤ 900000 * n := by
  induction n with
  | zero => simp [wsum]
  | succ n ih =>
    have h1 := ih (fun i hi => h i (by omega))
    have h2 := h n (by omega)
    simp only [wsum]
    omega
theorem mul_in {x y : Int} (hx : 0 ≤ x ∧ x ≤ 100) (hy : 0 ≤ y ∧ y ≤ 9000) : 0 ≤ x * y ∧ x * y ≤ 900000 := by
  have h1 : 0 ≤ x * y := Int.mul_nonneg hx.1 hy.1
  have h2 : x * y ≤ 100 * 9000 := Int.mul_le_mul hx.2 hy.2 hy.1 (by omega)
  omega

end Go.Proofs.Ytoeigifmghfpgaa.Plain
