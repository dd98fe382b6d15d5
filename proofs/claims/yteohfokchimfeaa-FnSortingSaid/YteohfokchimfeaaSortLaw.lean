/-
  What the laws on sorting say, in plain Lean: rising chains, inversions, rounds, shifts.
-/
import Derived.Test.YteohfokchimfeaaRoundsPlain
import Derived.Test.YteohfokchimfeaaRise
import Derived.Test.YteohfokchimfeaaInv
namespace Go.Proofs.Yteohfokchimfeaa
open Go.RowKit

/-- How long a rising chain is at most that ends with place i. -/
def rise (xs : List Int) (i : Nat) : Int := riseAt xs (riseTo xs i) i i
theorem riseTo_at (xs : List Int) (n i : Nat) (h : i < n) : (riseTo xs n).getD i 0 = rise xs i := by
  induction n with
  | zero => omega
  | succ n ih =>
    show (riseTo xs n ++ [riseAt xs (riseTo xs n) n n]).getD i 0 = rise xs i
    by_cases e : i = n
    · subst e
      simp [List.getD, riseTo_length, rise]
    · rw [← ih (by omega)]
      simp only [List.getD]
      rw [List.getElem?_append_left (by rw [riseTo_length]; omega)]
theorem riseAt_spec (xs out : List Int) (i k : Nat) : 1 ≤ riseAt xs out i k ∧ (∀ j, j < k → xs.getD j 0 < xs.getD i 0 → out.getD j 0 + 1 ≤ riseAt xs out i k) ∧ (riseAt xs out i k = 1 ∨ ∃ j, j < k ∧ xs.getD j 0 < xs.getD i 0 ∧ riseAt xs out i k = out.getD j 0 + 1) := by
  induction k with
  | zero => exact ⟨Int.le_refl _, fun j hj => absurd hj (Nat.not_lt_zero _), .inl rfl⟩
  | succ k ih =>
    obtain ⟨h1, h2, h3⟩ := ih
    simp only [riseAt]
    by_cases hk : xs.getD k 0 < xs.getD i 0
    · rw [if_pos hk]
      refine ⟨by omega, fun j hj hx => ?_, ?_⟩
      · by_cases e : j = k
        · subst e; omega
        · have := h2 j (by omega) hx; omega
      · by_cases hm : riseAt xs out i k ≤ out.getD k 0 + 1
        · exact .inr ⟨k, by omega, hk, by omega⟩
        · rcases h3 with h3 | ⟨j, hj, hx, h3⟩
          · exact .inl (by omega)
          · exact .inr ⟨j, by omega, hx, by omega⟩
    · rw [if_neg hk]
      refine ⟨h1, fun j hj hx => ?_, ?_⟩
      · by_cases e : j = k
        · subst e; exact absurd hx hk
        · exact h2 j (by omega) hx
      · rcases h3 with h3 | ⟨j, hj, hx, h3⟩
        · exact .inl h3
        · exact .inr ⟨j, by omega, hx, h3⟩
theorem rise_pos (xs : List Int) (i : Nat) : 1 ≤ rise xs i := (riseAt_spec xs _ i i).1
theorem rise_lt {xs : List Int} {i j : Nat} (hj : j < i) (hx : xs.getD j 0 < xs.getD i 0) : rise xs j + 1 ≤ rise xs i := by
  have := (riseAt_spec xs (riseTo xs i) i i).2.1 j hj hx
  rw [riseTo_at xs i j hj] at this
  exact this
theorem rise_from (xs : List Int) (i : Nat) : rise xs i = 1 ∨ ∃ j, j < i ∧ xs.getD j 0 < xs.getD i 0 ∧ rise xs i = rise xs j + 1 := by
  rcases (riseAt_spec xs (riseTo xs i) i i).2.2 with h | ⟨j, hj, hx, h⟩
  · exact .inl h
  · rw [riseTo_at xs i j hj] at h
    exact .inr ⟨j, hj, hx, h⟩

theorem maxI_spec (ys : List Int) (h : ∀ y ∈ ys, 0 ≤ y) : (∀ y ∈ ys, y ≤ maxI ys) ∧ (ys = [] ∨ maxI ys ∈ ys) := by
  have : ∀ (l : List Int) (a : Int), (∀ y ∈ l, y ≤ l.foldl max a) ∧ a ≤ l.foldl max a ∧ (l.foldl max a = a ∨ l.foldl max a ∈ l) := by
    intro l
    induction l with
    | nil => intro a; exact ⟨by simp, Int.le_refl _, .inl rfl⟩
    | cons y l ih =>
      intro a
      obtain ⟨h1, h2, h3⟩ := ih (max a y)
      refine ⟨fun z hz => ?_, ?_, ?_⟩
      · rw [List.foldl_cons]
        rcases List.mem_cons.1 hz with rfl | hz
        · omega
        · exact h1 z hz
      · rw [List.foldl_cons]; omega
      · rw [List.foldl_cons]
        rcases h3 with h3 | h3
        · by_cases hm : y ≤ a
          · left; rw [h3]; omega
          · right; rw [h3]; exact List.mem_cons.2 (.inl (by omega))
        · exact .inr (List.mem_cons.2 (.inr h3))
  obtain ⟨h1, h2, h3⟩ := this ys 0
  refine ⟨h1, ?_⟩
  cases ys with
  | nil => exact .inl rfl
  | cons y l =>
    right
    rcases h3 with h3 | h3
    · have a := h1 y (by simp)
      have b := h y (by simp)
      have : y = 0 := by rw [h3] at a; omega
      unfold maxI
      rw [h3, ← this]; simp
    · exact h3
theorem longest_ge {xs : List Int} {i : Nat} (hi : i < xs.length) : rise xs i ≤ longest xs := by
  refine (maxI_spec (riseTo xs xs.length) (fun y hy => by have := riseTo_bounds xs _ y hy; omega)).1 _ ?_
  rw [← riseTo_at xs xs.length i hi]
  have hl : i < (riseTo xs xs.length).length := by rw [riseTo_length]; exact hi
  simp only [List.getD, List.getElem?_eq_getElem hl, Option.getD_some]; exact List.getElem_mem hl
theorem longest_at {xs : List Int} (hx : 0 < xs.length) : ∃ i, i < xs.length ∧ rise xs i = longest xs := by
  rcases (maxI_spec (riseTo xs xs.length) (fun y hy => by have := riseTo_bounds xs _ y hy; omega)).2 with h | h
  · have := riseTo_length xs xs.length
    rw [h] at this
    simp at this; omega
  · obtain ⟨i, hi, he⟩ := List.mem_iff_getElem.1 h
    rw [riseTo_length] at hi
    refine ⟨i, hi, ?_⟩
    rw [← riseTo_at xs xs.length i hi]
    have hl : i < (riseTo xs xs.length).length := by rw [riseTo_length]; exact hi
    rw [List.getD, List.getElem?_eq_getElem hl, Option.getD_some]
    exact he
theorem longest_nil : longest [] = 0 := rfl

/-! ### shifts and inversions -/
theorem cnt_pos {p : Nat → Bool} {k j : Nat} (hj : j < k) (h : p j = true) : 1 ≤ cnt p k := by
  induction k with
  | zero => omega
  | succ k ih =>
    simp only [cnt]
    by_cases e : j = k
    · subst e; rw [if_pos h]; omega
    · have := ih (by omega); omega
theorem cnt_none {p : Nat → Bool} {k : Nat} (h : ∀ j, j < k → p j = false) : cnt p k = 0 := by
  induction k with
  | zero => rfl
  | succ k ih => simp only [cnt]; rw [ih (fun j hj => h j (by omega)), h k (by omega)]; rfl
theorem inv_shift {xs : List Int} (hok : okOrder xs = true) (i : Nat) (h1 : 1 ≤ i) (hi : i ≤ xs.length) : ∃ m, m < i ∧ (∀ j, j < i → xs.getD j 0 ≤ xs.getD m 0) ∧ (i : Int) ≤ rise xs m + invTo xs i := by
  induction i with
  | zero => omega
  | succ i ih =>
    by_cases h0 : i = 0
    · subst h0
      exact ⟨0, by omega, fun j hj => by obtain rfl : j = 0 := by omega
                                         exact Int.le_refl _, by have := rise_pos xs 0; simp only [invTo]; omega⟩
    · obtain ⟨m, hm, hall, hle⟩ := ih (by omega) (by omega)
      have hne := order_inj hok (show i < xs.length by omega) hm
      simp only [invTo]
      by_cases hx : xs.getD m 0 < xs.getD i 0
      · refine ⟨i, by omega, fun j hj => ?_, ?_⟩
        · by_cases e : j = i
          · subst e; exact Int.le_refl _
          · have := hall j (by omega); omega
        · have := rise_lt hm hx
          omega
      · have hp : 1 ≤ cnt (isInv xs i) i := cnt_pos hm (by unfold isInv; exact decide_eq_true (by omega))
        refine ⟨m, by omega, fun j hj => ?_, by omega⟩
        by_cases e : j = i
        · subst e; omega
        · exact hall j (by omega)
/-- No more are to be put in elsewhere than there are inversions. -/
theorem shifts_le {xs : List Int} (hok : okOrder xs = true) : (xs.length : Int) - longest xs ≤ invTo xs xs.length := by
  by_cases h0 : xs.length = 0
  · have := longest_bounds xs
    omega
  · obtain ⟨m, hm, _, hle⟩ := inv_shift hok xs.length (by omega) (Nat.le_refl _)
    have := longest_ge hm
    omega

/-! ### rounds -/
theorem rd_step (xs : List Int) (k : Nat) : rd xs (k + 1) = rd xs k + (if pos xs k < prev xs k then 1 else 0) := rfl
theorem prev_succ (xs : List Int) (k : Nat) : prev xs (k + 1) = pos xs (k : Nat) := by
  unfold prev
  rw [if_neg (by omega), Nat.add_sub_cancel]
theorem rd_up (xs : List Int) (u d : Nat) : rd xs (u + 1) ≤ rd xs (u + d + 1) ∧ rd xs (u + d + 1) ≤ rd xs (u + 1) + d ∧ (1 ≤ d → rd xs (u + d + 1) = rd xs (u + 1) + d → pos xs ((u + d : Nat) : Int) < pos xs (u : Nat)) ∧ (rd xs (u + d + 1) = rd xs (u + 1) → pos xs (u : Nat) ≤ pos xs ((u + d : Nat) : Int)) := by
  induction d with
  | zero => exact ⟨Int.le_refl _, by simp, fun h => absurd h (by omega), fun _ => Int.le_refl _⟩
  | succ d ih =>
    obtain ⟨h1, h2, h3, h4⟩ := ih
    have hs : rd xs (u + (d + 1) + 1) = rd xs (u + d + 1) + (if pos xs ((u + d + 1 : Nat) : Int) < pos xs ((u + d : Nat) : Int) then 1 else 0) := by
      show rd xs (u + d + 1 + 1) = _
      rw [rd_step, prev_succ]
    rw [hs]
    have e : u + (d + 1) = u + d + 1 := by omega
    rw [e]
    by_cases hp : pos xs ((u + d + 1 : Nat) : Int) < pos xs ((u + d : Nat) : Int)
    · rw [if_pos hp]
      refine ⟨by omega, by omega, fun _ he => ?_, fun he => by omega⟩
      by_cases hd : 1 ≤ d
      · have := h3 hd (by omega); omega
      · obtain rfl : d = 0 := by omega
        simpa using hp
    · rw [if_neg hp]
      refine ⟨by omega, by omega, fun _ he => by omega, fun he => ?_⟩
      have := h4 (by omega)
      omega
theorem rise_rd {xs : List Int} (hok : okOrder xs = true) (i : Nat) (hi : i < xs.length) : ∀ v : Nat, xs.getD i 0 = v → rise xs i + rd xs (v + 1) ≤ v + 2 := by
  induction i using Nat.strongRecOn with
  | ind i ih =>
    intro v hv
    rcases rise_from xs i with h | ⟨j, hj, hx, h⟩
    · have := (rd_bound xs (v + 1)).2
      rw [h]; omega
    · have hju := (okOrder_at hok j (by omega)).1
      obtain ⟨u, hu⟩ : ∃ u : Nat, xs.getD j 0 = u := ⟨(xs.getD j 0).toNat, by omega⟩
      have ihj := ih j hj (by omega) u hu
      have huv : u < v := by omega
      have hup := rd_up xs u (v - u)
      rw [show u + (v - u) = v by omega] at hup
      have p1 : pos xs (v : Nat) = i := by rw [← hv]; exact pos_at hok hi
      have p2 : pos xs (u : Nat) = j := by rw [← hu]; exact pos_at hok (by omega)
      have hne : rd xs (v + 1) ≠ rd xs (u + 1) + ((v - u : Nat) : Int) := fun e => by
        have := hup.2.2.1 (by omega) e
        rw [p1, p2] at this
        omega
      have := hup.2.1
      rw [h]
      omega
/-- No more rounds than shifts, and one. -/
theorem rounds_le {xs : List Int} (hok : okOrder xs = true) : rd xs xs.length ≤ (xs.length : Int) - longest xs + 1 := by
  by_cases h0 : xs.length = 0
  · have := (rd_bound xs xs.length).2
    have := longest_bounds xs
    omega
  · obtain ⟨i, hi, he⟩ := longest_at (xs := xs) (by omega)
    have hv := (okOrder_at hok i hi).1
    obtain ⟨v, hv2⟩ : ∃ v : Nat, xs.getD i 0 = v := ⟨(xs.getD i 0).toNat, by omega⟩
    have h1 := rise_rd hok i hi v hv2
    have hup := (rd_up xs v (xs.length - 1 - v)).2.1
    rw [show v + (xs.length - 1 - v) + 1 = xs.length by omega] at hup
    omega
/-- One round at most: nothing is inverted. -/
theorem one_round {xs : List Int} (hok : okOrder xs = true) (h : rd xs xs.length ≤ 1) : invTo xs xs.length = 0 := by
  have key : ∀ i, i < xs.length → ∀ j, j < i → isInv xs i j = false := fun i hi j hj => by
    cases hq : isInv xs i j with
    | false => rfl
    | true =>
      unfold isInv at hq
      have hx : xs.getD i 0 < xs.getD j 0 := of_decide_eq_true hq
      have b1 := (okOrder_at hok i hi).1
      have b2 := (okOrder_at hok j (by omega)).1
      obtain ⟨u, hu⟩ : ∃ u : Nat, xs.getD i 0 = u := ⟨(xs.getD i 0).toNat, by omega⟩
      obtain ⟨v, hv⟩ : ∃ v : Nat, xs.getD j 0 = v := ⟨(xs.getD j 0).toNat, by omega⟩
      have p1 : pos xs (u : Nat) = i := by rw [← hu]; exact pos_at hok hi
      have p2 : pos xs (v : Nat) = j := by rw [← hv]; exact pos_at hok (by omega)
      have hup := rd_up xs u (v - u)
      rw [show u + (v - u) = v by omega] at hup
      have hne : rd xs (v + 1) ≠ rd xs (u + 1) := fun e => by
        have := hup.2.2.2 e
        rw [p1, p2] at this
        omega
      have h1 : 1 ≤ rd xs (u + 1) := by
        have a := (rd_up xs 0 u).1
        rw [show 0 + u + 1 = u + 1 by omega] at a
        have b : rd xs (0 + 1) = 1 := by
          rw [rd_step]
          have : pos xs ((0 : Nat) : Int) < prev xs 0 := by
            unfold prev
            rw [if_pos rfl]
            exact (pos_all hok (show 0 < xs.length by omega)).2
          rw [if_pos this]; rfl
        omega
      have h2 := (rd_up xs v (xs.length - 1 - v)).1
      rw [show v + (xs.length - 1 - v) + 1 = xs.length by omega] at h2
      have := hup.1
      omega
  have : ∀ i, i ≤ xs.length → invTo xs i = 0 := fun i hi => by
    induction i with
    | zero => rfl
    | succ i ih => simp only [invTo]; rw [ih (by omega), cnt_none (key i (by omega))]
  exact this _ (Nat.le_refl _)
/-- All that FnSorting says of one order. -/
theorem sorting_facts {xs : List Int} (hok : okOrder xs = true) : ((invTo xs xs.length : Int) = 0 ↔ (xs.length : Int) - longest xs = 0) ∧ ((invTo xs xs.length : Int) = 0 ↔ rd xs xs.length ≤ 1) ∧ (xs.length : Int) - longest xs ≤ invTo xs xs.length ∧ rd xs xs.length ≤ (xs.length : Int) - longest xs + 1 := by
  have h1 := shifts_le hok
  have h2 := rounds_le hok
  have h3 := @one_round xs hok
  have h4 := longest_bounds xs
  refine ⟨⟨fun h => by omega, fun h => ?_⟩, ⟨fun h => by omega, fun h => ?_⟩, h1, h2⟩
  · have := h3 (by omega); omega
  · have := h3 h; omega

end Go.Proofs.Yteohfokchimfeaa
