/-
  Runs through stuck switches, in plain Lean: a run of a run is itself; what is lost. No program in sight.
-/
import Derived.Test.YtejnfngnofilfaaLost
namespace Go.Proofs.Ytejnfngnofilfaa
open Go.RowKit

theorem rp_grow {n : Int} {xs : List (Int × Int)} (h : okStuck n xs = true) (a : Int) (k m : Nat) : ∃ t : Int, 0 ≤ t ∧ t < 2 ^ m ∧ runAt n xs a (k + m) = 2 ^ m * runAt n xs a k + t := by
  induction m with
  | zero => exact ⟨0, by omega, by simp, by simp⟩
  | succ m ih =>
    obtain ⟨t, t0, t1, ht⟩ := ih
    have hg := goes_01 h (runAt n xs a (k + m)) (dig n a ((k + m : Nat) : Int)) (dig_01 _ _ _)
    refine ⟨2 * t + goes xs (runAt n xs a (k + m)) (dig n a ((k + m : Nat) : Int)), by omega, ?_, ?_⟩
    · rw [Int.pow_succ]; omega
    · show 2 * runAt n xs a (k + m) + goes xs (runAt n xs a (k + m)) (dig n a ((k + m : Nat) : Int)) = _
      rw [Int.pow_succ]
      have e : (2 ^ m * 2 * runAt n xs a k : Int) = 2 * (2 ^ m * runAt n xs a k) := by rw [Int.mul_comm (2 ^ m) 2, Int.mul_assoc]
      rw [e]
      generalize goes xs (runAt n xs a (k + m)) (dig n a ((k + m : Nat) : Int)) = g
      omega
theorem rp_dig {n : Nat} {xs : List (Int × Int)} (h : okStuck n xs = true) (a : Int) (k : Nat) (hk : k < n) : dig n (runE n xs a) k = goes xs (runAt n xs a k) (dig n a k) := by
  obtain ⟨m, hm⟩ : ∃ m, n = k + 1 + m := ⟨n - k - 1, by omega⟩
  obtain ⟨t, t0, t1, ht⟩ := rp_grow h a (k + 1) m
  have hg := goes_01 h (runAt n xs a k) (dig n a k) (dig_01 _ _ _)
  have hE : runE n xs a = 2 ^ m * (runAt n xs a (k + 1) - 2 ^ (k + 1)) + t := by
    unfold runE ex
    have e2 : (2 : Int) ^ n = 2 ^ m * 2 ^ (k + 1) := by rw [← Int.pow_add]; congr 1; omega
    rw [Int.toNat_natCast]
    have e3 : runAt n xs a n = runAt n xs a (k + 1 + m) := by rw [← hm]
    rw [e3, ht, e2, Int.mul_sub]; omega
  have hp : (0 : Int) < 2 ^ m := Int.pow_pos (by omega)
  have hd : runE n xs a / 2 ^ m = runAt n xs a (k + 1) - 2 ^ (k + 1) := by
    rw [hE, Int.add_comm, Int.add_mul_ediv_left _ _ (by omega), Int.ediv_eq_zero_of_lt t0 t1]; omega
  have e4 : ((n : Int) - 1 - k).toNat = m := by omega
  have hdg : dig n (runE n xs a) k = runE n xs a / 2 ^ m % 2 := by unfold dig; rw [e4]
  rw [hdg, hd]
  show (2 * runAt n xs a k + goes xs (runAt n xs a k) (dig n a k) - 2 ^ (k + 1)) % 2 = _
  rw [Int.pow_succ]
  generalize goes xs (runAt n xs a k) (dig n a k) = g at hg
  omega
theorem goes_goes (xs : List (Int × Int)) (v dg : Int) : goes xs v (goes xs v dg) = goes xs v dg := by
  unfold goes
  split <;> rfl
/-- A run through what a run has met leads there again. -/
theorem run_again {n : Nat} {xs : List (Int × Int)} (h : okStuck n xs = true) (a : Int) : runE n xs (runE n xs a) = runE n xs a := by
  have : ∀ k, k ≤ n → runAt n xs (runE n xs a) k = runAt n xs a k := by
    intro k
    induction k with
    | zero => intro _; rfl
    | succ k ih =>
      intro hk
      show 2 * runAt n xs (runE n xs a) k + goes xs (runAt n xs (runE n xs a) k) (dig n (runE n xs a) k) = 2 * runAt n xs a k + goes xs (runAt n xs a k) (dig n a k)
      rw [ih (by omega), rp_dig h a k (by omega), goes_goes]
  unfold runE
  rw [Int.toNat_natCast]
  exact congrArg (fun z => z - ex n) (this n (Nat.le_refl _))
/-- Without stuck switches the run is the way. -/
theorem run_nil (n a : Int) (k : Nat) : runAt n [] a k = wayAt n a k := by
  induction k with
  | zero => rfl
  | succ k ih =>
    show 2 * runAt n [] a k + goes [] (runAt n [] a k) (dig n a k) = 2 * wayAt n a k + dig n a k
    rw [ih]; rfl
theorem way_end {n a : Nat} (hn : 1 ≤ n ∧ n ≤ 4) (ha : a < 2 ^ n) : wayAt n a n - ex n = a := by
  obtain ⟨h1, h2⟩ := hn
  have h4 := pow4 h2
  have : ∀ n : Fin 5, ∀ a : Fin 16, 1 ≤ n.val → a.val < 2 ^ n.val → wayAt (n.val : Int) (a.val : Int) n.val - ex (n.val : Int) = (a.val : Int) := by decide +kernel
  exact this ⟨n, by omega⟩ ⟨a, by omega⟩ h1 ha
theorem run_free {n a : Nat} (hn : 1 ≤ n ∧ n ≤ 4) (ha : a < 2 ^ n) : runE n [] a = a := by
  unfold runE
  rw [Int.toNat_natCast, run_nil]
  exact way_end hn ha

/-! ### what is lost -/
theorem met_iff (n : Nat) (xs : List (Int × Int)) (h : okStuck n xs = true) (k e : Nat) (he : e < 2 ^ n) : (metL n xs k).getD e false = true ↔ ∃ a : Nat, a < k ∧ runE n xs a = e := by
  induction k with
  | zero => simp [metL, List.getD, he]
  | succ k ih =>
    have hb := runE_bound h (k : Int)
    rw [metL_succ]
    by_cases e1 : runE n xs k = e
    · have e2 : (runE n xs k).toNat = e := by omega
      rw [e2]
      constructor
      · intro _; exact ⟨k, by omega, e1⟩
      · intro _
        simp [List.getD, metL_length, he]
    · have e2 : (runE n xs k).toNat ≠ e := by omega
      have e3 : ((metL n xs k).set (runE n xs k).toNat true).getD e false = (metL n xs k).getD e false := by simp [List.getD, List.getElem?_set, e2]
      rw [e3, ih]
      constructor
      · rintro ⟨a, h1, h2⟩; exact ⟨a, by omega, h2⟩
      · rintro ⟨a, h1, h2⟩
        refine ⟨a, ?_, h2⟩
        by_cases e4 : a = k
        · subst e4; exact absurd h2 e1
        · omega
def lostL (n : Nat) (xs : List (Int × Int)) : List Int := lostTo (metL n xs (2 ^ n)) (2 ^ n)
theorem lost_mem {n : Nat} {xs : List (Int × Int)} (h : okStuck n xs = true) (x : Int) : x ∈ lostL n xs ↔ ∃ e : Nat, x = e ∧ e < 2 ^ n ∧ ¬ ∃ a : Nat, a < 2 ^ n ∧ runE n xs a = e := by
  unfold lostL lostTo
  rw [List.mem_map]
  constructor
  · rintro ⟨e, he, rfl⟩
    obtain ⟨h1, h2⟩ := List.mem_filter.1 he
    have h3 := List.mem_range.1 h1
    refine ⟨e, rfl, h3, fun h4 => ?_⟩
    rw [(met_iff n xs h (2 ^ n) e h3).2 h4] at h2
    cases h2
  · rintro ⟨e, rfl, he, hn⟩
    refine ⟨e, List.mem_filter.2 ⟨List.mem_range.2 he, ?_⟩, rfl⟩
    cases hq : (metL n xs (2 ^ n)).getD e false with
    | false => rfl
    | true => exact absurd ((met_iff n xs h (2 ^ n) e he).1 hq) hn
theorem lost_not {n : Nat} {xs : List (Int × Int)} (h : okStuck n xs = true) {a : Nat} (ha : a < 2 ^ n) : runE n xs a ∉ lostL n xs := fun hm => by
  obtain ⟨e, h1, _, h2⟩ := (lost_mem h _).1 hm
  exact h2 ⟨a, ha, h1⟩
theorem lost_sorted (n : Nat) (xs : List (Int × Int)) : (lostL n xs).Pairwise (· < ·) := by
  unfold lostL lostTo
  rw [List.pairwise_map]
  refine List.Pairwise.filter _ ?_
  exact (List.pairwise_lt_range (n := 2 ^ n)).imp (fun h => by omega)
theorem lost_none {n : Nat} (hd : inB 1 4 (n : Int) = true) : lostL n [] = [] := by
  have hn : 1 ≤ n ∧ n ≤ 4 := by simp [inB] at hd; omega
  have hok : okStuck n [] = true := okStuck_yes (fun j hj => by simp at hj) hd
  rw [List.eq_nil_iff_forall_not_mem]
  intro x hx
  obtain ⟨e, rfl, he, hno⟩ := (lost_mem hok x).1 hx
  exact hno ⟨e, he, run_free hn he⟩
/-- To each side of each switch there is an exit. -/
theorem way_there {n v : Nat} {s : Int} (hn : 1 ≤ n ∧ n ≤ 4) (hv : 1 ≤ v ∧ v < 2 ^ n) (hs : s = 0 ∨ s = 1) : ∃ a k : Nat, a < 2 ^ n ∧ k < n ∧ wayAt n a k = v ∧ dig n a k = s := by
  obtain ⟨h1, h2⟩ := hn
  have h4 := pow4 h2
  have key : ∀ n : Fin 5, ∀ v : Fin 16, 1 ≤ n.val → 1 ≤ v.val → v.val < 2 ^ n.val → ∀ s : Fin 2, ∃ a : Fin 16, ∃ k : Fin 4, a.val < 2 ^ n.val ∧ k.val < n.val ∧ wayAt (n.val : Int) (a.val : Int) k.val = (v.val : Int) ∧ dig (n.val : Int) (a.val : Int) (k.val : Int) = (s.val : Int) := by decide +kernel
  obtain ⟨s', hs'⟩ : ∃ s' : Fin 2, s = (s'.val : Int) := by
    rcases hs with rfl | rfl
    · exact ⟨0, rfl⟩
    · exact ⟨1, rfl⟩
  obtain ⟨a, k, q1, q2, q3, q4⟩ := key ⟨n, by omega⟩ ⟨v, by omega⟩ h1 hv.1 hv.2 s'
  exact ⟨a.val, k.val, q1, q2, q3, by rw [hs']; exact q4⟩
theorem lost_some {n : Nat} {xs : List (Int × Int)} (h : okStuck n xs = true) (hx : xs ≠ []) : lostL n xs ≠ [] := by
  intro hnil
  have hd := okStuck_depth h
  have hn : 1 ≤ n ∧ n ≤ 4 := by simp [inB] at hd; omega
  have hE : ex (n : Int) = ((2 ^ n : Nat) : Int) := by simp [ex]
  -- each exit runs to itself
  have hid : ∀ e : Nat, e < 2 ^ n → runE n xs e = e := by
    intro e he
    by_cases hm : ∃ a : Nat, a < 2 ^ n ∧ runE n xs a = e
    · obtain ⟨a, _, h2⟩ := hm
      have := run_again h (a : Int)
      rw [h2] at this
      exact this
    · have : (e : Int) ∈ lostL n xs := (lost_mem h _).2 ⟨e, rfl, he, hm⟩
      rw [hnil] at this
      cases this
  have hp : 0 < xs.length := List.length_pos_iff.2 hx
  have hok := okStuck_at h hp
  simp only [okS, Bool.and_eq_true] at hok
  have hsw := hok.1.1
  simp only [inB, Bool.and_eq_true, decide_eq_true_eq, hE] at hsw
  have hsd := okStuck_side h hp
  have hF : sideF xs (xs.getD 0 (0, 0)).1 = (xs.getD 0 (0, 0)).2 := sideF_hit hp rfl (fun j hj => absurd hj (Nat.not_lt_zero _))
  generalize xs.getD 0 (0, 0) = p at hsw hsd hF
  obtain ⟨v, sd⟩ := p
  simp only at hsw hsd hF
  obtain ⟨V, rfl⟩ : ∃ V : Nat, v = V := ⟨v.toNat, by omega⟩
  obtain ⟨a, k, ha, hk, hw, hg⟩ := way_there (v := V) (s := 1 - sd) hn ⟨by omega, by omega⟩ (by omega)
  have hrun : ∀ j, j ≤ n → runAt n xs a j = wayAt n a j := by
    intro j
    induction j with
    | zero => intro _; rfl
    | succ j ih =>
      intro hj
      have hdg := rp_dig h (a : Int) j (by omega)
      rw [hid a ha] at hdg
      show 2 * runAt n xs a j + goes xs (runAt n xs a j) (dig n a j) = 2 * wayAt n a j + dig n a j
      rw [← hdg, ih (by omega)]
  have hdg := rp_dig h (a : Int) k hk
  rw [hid a ha, hrun k (by omega), hw, hg] at hdg
  unfold goes at hdg
  rw [hF, if_neg (by omega)] at hdg
  omega

end Go.Proofs.Ytejnfngnofilfaa
