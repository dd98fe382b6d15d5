/-
  What the law on sorting says of the carriers that are left, and of branches. In plain Lean.
-/
import Derived.Test.YteohfokchimfeaaSortLaw
import Derived.Test.YteohfokchimfeaaOut
import Derived.Test.YteohfokchimfeaaTargets
namespace Go.Proofs.Yteohfokchimfeaa
open Go.RowKit

theorem hasB_full {n i : Nat} (hi : i < n) : hasB ((2 ^ n - 1 : Nat) : Int) (i : Nat) = true := by
  have h := Nat.testBit_two_pow_sub_one n i
  rw [Nat.testBit_eq_decide_div_mod_eq, decide_eq_true hi, decide_eq_true_iff] at h
  unfold hasB
  rw [beq_iff_eq, Int.toNat_natCast]
  have e : (((2 ^ n - 1 : Nat) : Int) / 2 ^ i) = (((2 ^ n - 1) / 2 ^ i : Nat) : Int) := by rw [Int.natCast_ediv, Int.natCast_pow]; rfl
  rw [e]
  omega
theorem rest_full (xs : List Int) (n : Nat) : restTo xs ((2 ^ n - 1 : Nat) : Int) n = [] := by
  unfold restTo
  rw [List.map_eq_nil_iff, List.filter_eq_nil_iff]
  intro a ha
  rw [hasB_full (List.mem_range.1 ha)]
  simp
theorem bst_some {xs : List Int} {st : Int} (hst : 0 ≤ st) : ∃ s : Nat, (bst xs st (2 ^ xs.length)).1 = outTo s xs.length ∧ longest (restTo xs s xs.length) ≤ st := by
  have key : ∀ k, (bst xs st k).2 = true → ∃ s : Nat, (bst xs st k).1 = outTo s xs.length ∧ longest (restTo xs s xs.length) ≤ st := by
    intro k
    induction k with
    | zero => intro h; cases h
    | succ k ih =>
      by_cases hc : longest (restTo xs k xs.length) ≤ st ∧ ((bst xs st k).2 = false ∨ lessL (outTo k xs.length) (bst xs st k).1 = true)
      · rw [bst_yes hc.1 hc.2]
        exact fun _ => ⟨k, rfl, hc.1⟩
      · rw [bst_no hc]
        exact ih
  refine key _ ?_
  have h1 : 1 ≤ 2 ^ xs.length := Nat.one_le_two_pow
  rw [show 2 ^ xs.length = (2 ^ xs.length - 1) + 1 by omega]
  cases hb : (bst xs st (2 ^ xs.length - 1)).2 with
  | false => rw [bst_yes (by rw [rest_full, longest_nil]; exact hst) (.inl hb)]
  | true =>
    by_cases hc : longest (restTo xs ((2 ^ xs.length - 1 : Nat) : Int) xs.length) ≤ st ∧ ((bst xs st (2 ^ xs.length - 1)).2 = false ∨ lessL (outTo ((2 ^ xs.length - 1 : Nat) : Int) xs.length) (bst xs st (2 ^ xs.length - 1)).1 = true)
    · rw [bst_yes hc.1 hc.2]
    · rw [bst_no hc]; exact hb
theorem mem_outTo {s : Int} {n i : Nat} (hi : i < n) : decide ((i : Int) ∈ outTo s n) = hasB s i := by
  rw [Bool.eq_iff_iff, decide_eq_true_iff]
  unfold outTo
  rw [List.mem_map]
  constructor
  · rintro ⟨a, ha, he⟩
    have := (List.mem_filter.1 ha).2
    rw [show a = i by omega] at this
    exact this
  · intro h
    exact ⟨i, List.mem_filter.2 ⟨List.mem_range.2 hi, h⟩, rfl⟩

/-! ### counting -/
theorem cnt_succ (p : Nat → Bool) (k : Nat) : cnt p (k + 1) = cnt p k + (if p k = true then 1 else 0) := rfl
theorem cnt_mono {p q : Nat → Bool} {n : Nat} (h : ∀ k, k < n → p k = true → q k = true) : cnt p n ≤ cnt q n := by
  induction n with
  | zero => exact Nat.le_refl _
  | succ n ih =>
    have := ih (fun k hk => h k (by omega))
    rw [cnt_succ, cnt_succ]
    by_cases hp : p n = true
    · rw [if_pos hp, if_pos (h n (by omega) hp)]; omega
    · rw [if_neg hp]; omega
theorem cnt_lt {p q : Nat → Bool} {n j : Nat} (h : ∀ k, k < n → p k = true → q k = true) (hj : j < n) (hp : p j = false) (hq : q j = true) : cnt p n < cnt q n := by
  induction n with
  | zero => omega
  | succ n ih =>
    rw [cnt_succ, cnt_succ]
    by_cases e : j = n
    · subst e
      have := cnt_mono (n := j) (fun k hk => h k (by omega))
      rw [if_neg (by rw [hp]; decide), if_pos hq]; omega
    · have := ih (fun k hk => h k (by omega)) (by omega)
      by_cases hp2 : p n = true
      · rw [if_pos hp2, if_pos (h n (by omega) hp2)]; omega
      · rw [if_neg hp2]; omega
theorem cnt_filter (p : Nat → Bool) (n : Nat) : ((List.range n).filter p).length = cnt p n := by
  induction n with
  | zero => rfl
  | succ n ih =>
    rw [List.range_succ, List.filter_append, List.length_append, ih, cnt_succ]
    by_cases h : p n = true
    · simp [h]
    · simp [h]

/-- Does place k stay, with a lesser number than x? -/
def lessB (xs : List Int) (s : Int) (x : Int) (k : Nat) : Bool := !hasB s (k : Nat) && decide (xs.getD k 0 < x)
def rankC (xs : List Int) (s : Int) (n i : Nat) : Nat := cnt (lessB xs s (xs.getD i 0)) n
def denseTo (xs : List Int) (s : Int) (n m : Nat) : List Int := ((List.range m).filter fun i => !hasB s (i : Nat)).map fun i => (rankC xs s n i : Int)
theorem dense_yes {xs : List Int} {s : Int} {n m : Nat} (h : hasB s m = false) : denseTo xs s n (m + 1) = denseTo xs s n m ++ [(rankC xs s n m : Int)] := by
  unfold denseTo
  rw [List.range_succ, List.filter_append, List.map_append, List.filter_cons_of_pos (by simp [h])]
  rfl
theorem dense_no {xs : List Int} {s : Int} {n m : Nat} (h : hasB s m = true) : denseTo xs s n (m + 1) = denseTo xs s n m := by
  unfold denseTo
  rw [List.range_succ, List.filter_append, List.map_append, List.filter_cons_of_neg (by simp [h])]
  simp
theorem dense_len (xs : List Int) (s : Int) (n m : Nat) : (denseTo xs s n m).length ≤ m := by
  unfold denseTo; rw [List.length_map]; exact Nat.le_trans (List.length_filter_le _ _) (by simp)
theorem dense_out (xs : List Int) (s : Int) (n m : Nat) : (denseTo xs s n m).length + (outTo s m).length = m := by
  induction m with
  | zero => rfl
  | succ m ih =>
    cases h : hasB s m with
    | true => rw [dense_no h, outTo_yes h, List.length_append]; simp; omega
    | false => rw [dense_yes h, outTo_no h, List.length_append]; simp; omega
theorem rank_lt {xs : List Int} {s : Int} {n i : Nat} (hi : i < n) (hk : hasB s i = false) : rankC xs s n i < cnt (fun k => !hasB s (k : Nat)) n := by
  refine cnt_lt (j := i) (fun k _ h => ?_) hi ?_ (by rw [hk]; rfl)
  · unfold lessB at h
    rw [Bool.and_eq_true] at h
    exact h.1
  · unfold lessB
    rw [decide_eq_false (by omega), Bool.and_false]
theorem rank_iff {xs : List Int} {s : Int} {n i j : Nat} (hi : i < n) (hk : hasB s i = false) : xs.getD i 0 < xs.getD j 0 ↔ rankC xs s n i < rankC xs s n j := by
  constructor
  · intro h
    refine cnt_lt (j := i) (fun k _ hq => ?_) hi ?_ ?_
    · unfold lessB at hq ⊢
      rw [Bool.and_eq_true, decide_eq_true_iff] at hq
      rw [Bool.and_eq_true, decide_eq_true_iff]
      exact ⟨hq.1, by omega⟩
    · unfold lessB
      rw [decide_eq_false (by omega), Bool.and_false]
    · unfold lessB
      rw [hk, decide_eq_true h]; rfl
  · intro h
    refine Classical.byContradiction fun hn => ?_
    have : rankC xs s n j ≤ rankC xs s n i := cnt_mono fun k _ hq => by
      unfold lessB at hq ⊢
      rw [Bool.and_eq_true, decide_eq_true_iff] at hq
      rw [Bool.and_eq_true, decide_eq_true_iff]
      exact ⟨hq.1, by omega⟩
    omega

/-- Chains look at nothing but which number is less. -/
theorem riseTo_cmp {A B : List Int} (hl : A.length = B.length) (h : ∀ i j, i < A.length → j < A.length → (A.getD i 0 < A.getD j 0 ↔ B.getD i 0 < B.getD j 0)) (m : Nat) (hm : m ≤ A.length) : riseTo A m = riseTo B m := by
  induction m with
  | zero => rfl
  | succ m ih =>
    have ih := ih (by omega)
    show riseTo A m ++ [riseAt A (riseTo A m) m m] = riseTo B m ++ [riseAt B (riseTo B m) m m]
    rw [ih]
    have : ∀ k, k ≤ m → riseAt A (riseTo B m) m k = riseAt B (riseTo B m) m k := by
      intro k hk
      induction k with
      | zero => rfl
      | succ k ihk =>
        have e := ihk (by omega)
        simp only [riseAt]
        by_cases hx : A.getD k 0 < A.getD m 0
        · rw [if_pos hx, if_pos ((h k m (by omega) (by omega)).1 hx), e]
        · rw [if_neg hx, if_neg (fun hy => hx ((h k m (by omega) (by omega)).2 hy)), e]
    rw [this m (Nat.le_refl _)]
theorem longest_cmp {A B : List Int} (hl : A.length = B.length) (h : ∀ i j, i < A.length → j < A.length → (A.getD i 0 < A.getD j 0 ↔ B.getD i 0 < B.getD j 0)) : longest A = longest B := by
  unfold longest
  rw [riseTo_cmp hl h A.length (Nat.le_refl _), hl]
theorem map_getD {L : List Nat} {f : Nat → Int} {p : Nat} (hp : p < L.length) : (L.map f).getD p 0 = f (L[p]'hp) := by
  simp [List.getD, List.getElem?_eq_getElem hp]

/-- What is left, with its numbers made dense: an order, with chains as long. -/
theorem dense_facts {xs : List Int} (hok : okOrder xs = true) (s : Int) : okOrder (denseTo xs s xs.length xs.length) = true ∧ longest (denseTo xs s xs.length xs.length) = longest (restTo xs s xs.length) := by
  have hlen := cnt_filter (fun k => !hasB s (k : Nat)) xs.length
  have hA : restTo xs s xs.length = ((List.range xs.length).filter fun i => !hasB s (i : Nat)).map fun i => xs.getD i 0 := rfl
  have hB : denseTo xs s xs.length xs.length = ((List.range xs.length).filter fun i => !hasB s (i : Nat)).map fun i => (rankC xs s xs.length i : Int) := rfl
  obtain ⟨L, hLd⟩ : ∃ L, L = (List.range xs.length).filter (fun i => !hasB s (i : Nat)) := ⟨_, rfl⟩
  have hin : ∀ x ∈ L, x < xs.length ∧ hasB s (x : Nat) = false := fun x hx => by
    rw [hLd] at hx
    have := List.mem_filter.1 hx
    exact ⟨List.mem_range.1 this.1, by simpa using this.2⟩
  have hpw : L.Pairwise (· < ·) := by rw [hLd]; exact List.Pairwise.filter _ List.pairwise_lt_range
  rw [hA, hB, ← hLd]
  rw [← hLd] at hlen
  clear hA hB hLd
  have hmem : ∀ p (hp : p < L.length), (L[p]'hp) < xs.length ∧ hasB s ((L[p]'hp : Nat)) = false := fun p hp => hin _ (List.getElem_mem hp)
  have hup : ∀ a b (ha : a < b) (hb : b < L.length), (L[a]'(by omega)) < (L[b]'hb) := fun a b ha hb => List.pairwise_iff_getElem.1 hpw a b (by omega) hb ha
  have l40 := okOrder_len hok
  have hL : L.length ≤ xs.length := by rw [hlen]; exact cnt_le _ _
  refine ⟨?_, ?_⟩
  · unfold okOrder
    rw [Bool.and_eq_true, decide_eq_true_iff, List.length_map]
    refine ⟨?_, by omega⟩
    unfold okTo
    rw [List.all_eq_true]
    intro b hb
    have hb := List.mem_range.1 hb
    obtain ⟨m1, m2⟩ := hmem b hb
    rw [List.length_map, map_getD hb, Bool.and_eq_true, Bool.not_eq_true']
    have hr := rank_lt (xs := xs) m1 m2
    rw [← hlen] at hr
    refine ⟨by unfold inB; simp; omega, ?_⟩
    cases hh : hasI ((L.map fun i => (rankC xs s xs.length i : Int)).take b) (rankC xs s xs.length L[b] : Int) with
    | false => rfl
    | true =>
      have hm := hasI_iff.1 hh
      obtain ⟨a, ha, he⟩ := List.mem_iff_getElem.1 hm
      have hab : a < b := by simp at ha; omega
      rw [List.getElem_take, List.getElem_map] at he
      obtain ⟨q1, q2⟩ := hmem a (by omega)
      have hlt := hup a b hab hb
      have hne := order_inj hok m1 hlt
      have i1 := rank_iff (xs := xs) (j := L[b]) q1 q2
      have i2 := rank_iff (xs := xs) (j := L[a]'(by omega)) m1 m2
      omega
  · refine longest_cmp (by rw [List.length_map, List.length_map]) fun i j hi hj => ?_
    rw [List.length_map] at hi hj
    rw [map_getD hi, map_getD hj, map_getD hi, map_getD hj]
    obtain ⟨m1, m2⟩ := hmem i hi
    have := rank_iff (xs := xs) (j := L[j]) m1 m2
    rw [this]
    omega

/-! ### branches -/
theorem sum_set (l : List Int) (p : Nat) (hp : p < l.length) : sumI (l.set p (l.getD p 0 + 1)) = sumI l + 1 := by
  induction l generalizing p with
  | nil => simp at hp
  | cons y l ih =>
    cases p with
    | zero => rw [List.set_cons_zero, sumI_cons, sumI_cons]; simp; omega
    | succ p =>
      have := ih p (by simpa using hp)
      rw [List.set_cons_succ, sumI_cons, sumI_cons]
      simp only [List.getD_cons_succ]
      rw [this]; omega
theorem counts_sum {b : Nat} {xs : List Int} (h : ∀ x ∈ xs, 0 ≤ x ∧ x ≤ (b : Int) - 1) (k : Nat) (hk : k ≤ xs.length) : sumI (countsTo b xs k) = k := by
  induction k with
  | zero =>
    simp only [countsTo]
    induction b with
    | zero => rfl
    | succ b ih => rw [List.replicate_succ, sumI_cons]; clear ih h; induction b with
      | zero => rfl
      | succ b ih => rw [List.replicate_succ, sumI_cons]; omega
  | succ k ih =>
    have hm : xs.getD k 0 ∈ xs := by
      have hk2 : k < xs.length := by omega
      simp only [List.getD, List.getElem?_eq_getElem hk2, Option.getD_some]; exact List.getElem_mem hk2
    have := h _ hm
    simp only [countsTo]
    rw [sum_set _ _ (by rw [countsTo_length]; omega), ih (by omega)]
    omega
theorem branch_facts {xs : List Int} {b : Int} (h : (valBranches xs b).2 = 0) : sumI (valBranches xs b).1 = xs.length := by
  unfold valBranches at h ⊢
  by_cases hb : okBranches xs b = true
  · rw [if_pos hb]
    simp only
    unfold okBranches at hb
    rw [Bool.and_eq_true] at hb
    obtain ⟨h1, h2⟩ := okTargets_iff hb.2
    have h3 := hb.1
    unfold inB at h3
    simp at h3
    exact counts_sum (fun x hx => by have := h1 x hx; omega) xs.length (Nat.le_refl _)
  · rw [if_neg hb] at h
    simp at h
theorem turns_facts {xs : List Int} (h : (valTurns xs).2 = 0) : (valTurns xs).1 ≤ xs.length := by
  unfold valTurns at h ⊢
  by_cases hb : okTargets xs 2 = true
  · rw [if_pos hb]
    exact (turnsTo_le xs xs.length).2
  · rw [if_neg hb] at h
    simp at h

end Go.Proofs.Yteohfokchimfeaa
