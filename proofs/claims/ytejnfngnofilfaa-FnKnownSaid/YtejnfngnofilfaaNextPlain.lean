/-
  The least address that can tell more, in plain Lean. No program in sight.
-/
import Derived.Test.YtejnfngnofilfaaKnown
namespace Go.Proofs.Ytejnfngnofilfaa
open Go.RowKit

theorem run_grow {n : Int} {xs : List (Int × Int)} (h : okStuck n xs = true) (a : Int) (k m : Nat) : ∃ t : Int, 0 ≤ t ∧ t < 2 ^ m ∧ runAt n xs a (k + m) = 2 ^ m * runAt n xs a k + t := by
  induction m with
  | zero => exact ⟨0, by omega, by simp, by simp⟩
  | succ m ih =>
    obtain ⟨t, t0, t1, ht⟩ := ih
    have hg := goes_01 h (runAt n xs a (k + m)) (dig n a ((k + m : Nat) : Int)) (dig_01 _ _ _)
    refine ⟨2 * t + goes xs (runAt n xs a (k + m)) (dig n a ((k + m : Nat) : Int)), by omega, ?_, ?_⟩
    · rw [Int.pow_succ]; omega
    · show 2 * runAt n xs a (k + m) + goes xs (runAt n xs a (k + m)) (dig n a ((k + m : Nat) : Int)) = _
      rw [Int.pow_succ]
      have e : (2 ^ m * 2 * runAt n xs a k : Int) = 2 * (2 ^ m * runAt n xs a k) := by rw [Int.mul_comm (2 ^ m) 2, Int.mul_assoc]
      rw [e]
      generalize goes xs (runAt n xs a (k + m)) (dig n a ((k + m : Nat) : Int)) = g
      omega

theorem dig_run {n : Nat} {xs : List (Int × Int)} (h : okStuck n xs = true) (a : Int) (k : Nat) (hk : k < n) : dig n (runE n xs a) k = goes xs (runAt n xs a k) (dig n a k) := by
  obtain ⟨m, hm⟩ : ∃ m, n = k + 1 + m := ⟨n - k - 1, by omega⟩
  obtain ⟨t, t0, t1, ht⟩ := run_grow h a (k + 1) m
  have hg := goes_01 h (runAt n xs a k) (dig n a k) (dig_01 _ _ _)
  have hE : runE n xs a = 2 ^ m * (runAt n xs a (k + 1) - 2 ^ (k + 1)) + t := by
    unfold runE ex
    have e2 : (2 : Int) ^ n = 2 ^ m * 2 ^ (k + 1) := by rw [← Int.pow_add]; congr 1; omega
    rw [Int.toNat_natCast]
    have e3 : runAt n xs a n = runAt n xs a (k + 1 + m) := by rw [← hm]
    rw [e3, ht, e2, Int.mul_sub]; omega
  have hp : (0 : Int) < 2 ^ m := Int.pow_pos (by omega)
  have hd : runE n xs a / 2 ^ m = runAt n xs a (k + 1) - 2 ^ (k + 1) := by
    rw [hE, Int.add_comm, Int.add_mul_ediv_left _ _ (by omega), Int.ediv_eq_zero_of_lt t0 t1]; omega
  have e4 : ((n : Int) - 1 - k).toNat = m := by omega
  have hdg : dig n (runE n xs a) k = runE n xs a / 2 ^ m % 2 := by unfold dig; rw [e4]
  rw [hdg, hd]
  show (2 * runAt n xs a k + goes xs (runAt n xs a k) (dig n a k) - 2 ^ (k + 1)) % 2 = _
  rw [Int.pow_succ]
  generalize goes xs (runAt n xs a k) (dig n a k) = g at hg
  omega

/-- The way to the exit where a carrier runs is the way that it runs. -/
theorem way_run {n : Nat} {xs : List (Int × Int)} (h : okStuck n xs = true) (a : Int) (k : Nat) (hk : k ≤ n) : wayAt n (runE n xs a) k = runAt n xs a k := by
  induction k with
  | zero => rfl
  | succ k ih =>
    show 2 * wayAt n (runE n xs a) k + dig n (runE n xs a) k = 2 * runAt n xs a k + goes xs (runAt n xs a k) (dig n a k)
    rw [ih (by omega), dig_run h a k (by omega)]

theorem fewTo_mem {N : Nat} {st : List B4} (hf : fit4 N st) {k : Nat} {x : Int × Int} (hx : x ∈ fewTo st k) : 1 ≤ x.1 ∧ x.1 < k ∧ 0 ≤ x.2 ∧ x.2 ≤ 1 := by
  unfold fewTo at hx
  obtain ⟨v, hv, rfl⟩ := List.mem_map.1 hx
  obtain ⟨h1, h2⟩ := List.mem_filter.1 hv
  have h3 := List.mem_range.1 h1
  have h4 : v ≠ 0 := by
    intro e
    subst e
    rw [hf.2.2] at h2
    simp [wrong4, z4] at h2
  refine ⟨by simp only; omega, by simp only; omega, ?_⟩
  simp only [side4]
  split <;> omega
theorem fewTo_sorted (st : List B4) (k : Nat) : (fewTo st k).Pairwise (fun a b => a.1 < b.1) := by
  unfold fewTo
  rw [List.pairwise_map]
  refine List.Pairwise.filter _ ?_
  exact (List.pairwise_lt_range (n := k)).imp (fun h => by simp only; omega)
theorem fewTo_ok {n : Nat} (hd : inB 1 4 (n : Int) = true) {st : List B4} (hf : fit4 (2 ^ n) st) : okStuck n (fewTo st (2 ^ n)) = true := by
  have hE : ex (n : Int) = ((2 ^ n : Nat) : Int) := by simp [ex]
  refine okStuck_yes (fun j hj => ?_) hd
  have hm := fewTo_mem hf (List.getElem_mem hj)
  have hg : (fewTo st (2 ^ n)).getD j (0, 0) = (fewTo st (2 ^ n))[j] := by simp [List.getD, hj]
  have hs : (decide (j = 0) || decide (((fewTo st (2 ^ n)).getD (j - 1) (0, 0)).1 < ((fewTo st (2 ^ n)).getD j (0, 0)).1)) = true := by
    by_cases h0 : j = 0
    · simp [h0]
    · have := List.pairwise_iff_getElem.1 (fewTo_sorted st (2 ^ n)) (j - 1) j (by omega) hj (by omega)
      rw [hg, show (fewTo st (2 ^ n)).getD (j - 1) (0, 0) = (fewTo st (2 ^ n))[j - 1]'(by omega) by simp [List.getD, show j - 1 < (fewTo st (2 ^ n)).length by omega]]
      simp [this]
  simp only [okS, hs, Bool.and_true]
  rw [hg, hE]
  simp only [inB, Bool.and_eq_true, decide_eq_true_eq]
  omega

/-- Does a letter leave something open? -/
def newL (c : Int) : Bool := c == 63 || c == 97 || c == 98
/-- Does an address lead through a switch of which not all is known? -/
def newAt (n : Nat) (xs : List (Int × Int)) (ls : List Int) (a : Int) : Bool := (List.range n).any fun k => newL (ls.getD (runAt n xs a k).toNat 0)
def tried (ts : List (Int × Int)) (a : Int) : Bool := ts.any fun t => t.1 == a
theorem newAt_way {n : Nat} {xs : List (Int × Int)} (h : okStuck n xs = true) (ls : List Int) (a : Int) : ((way n (runE n xs a)).any fun v => newL (ls.getD v.toNat 0)) = newAt n xs ls a := by
  unfold way newAt
  rw [List.any_map, Int.toNat_natCast]
  rw [Bool.eq_iff_iff, List.any_eq_true, List.any_eq_true]
  constructor
  · rintro ⟨k, hk, h1⟩
    refine ⟨k, hk, ?_⟩
    rw [← way_run h a k (by have := List.mem_range.1 hk; omega)]; exact h1
  · rintro ⟨k, hk, h1⟩
    refine ⟨k, hk, ?_⟩
    show newL (ls.getD (wayAt n (runE n xs a) k).toNat 0) = true
    rw [way_run h a k (by have := List.mem_range.1 hk; omega)]; exact h1

def goodA (n : Nat) (ts xs : List (Int × Int)) (ls : List Int) (a : Nat) : Bool := !tried ts a && newAt n xs ls a
def nextA (d : Int) (ts : List (Int × Int)) : Option Nat := (List.range (2 ^ d.toNat)).find? (goodA d.toNat ts (fewTo (seenTo d ts) (2 ^ d.toNat)) (lettersTo (seenTo d ts) (2 ^ d.toNat)))
def valNext (d : Int) (ts : List (Int × Int)) : Int × Int := if codeF d ts = 0 then (match nextA d ts with | some a => ((a : Int), 0) | none => (0, 3)) else (0, codeF d ts)
theorem next_hit {d : Int} {ts : List (Int × Int)} (h : codeF d ts = 0) {k : Nat} (hk : k < 2 ^ d.toNat) (hc : goodA d.toNat ts (fewTo (seenTo d ts) (2 ^ d.toNat)) (lettersTo (seenTo d ts) (2 ^ d.toNat)) k = true)
    (hn : ∀ j, j < k → goodA d.toNat ts (fewTo (seenTo d ts) (2 ^ d.toNat)) (lettersTo (seenTo d ts) (2 ^ d.toNat)) j = false) : valNext d ts = ((k : Int), 0) := by
  have : nextA d ts = some k := by
    unfold nextA
    rw [List.find?_range_eq_some]
    exact ⟨hc, by simpa using hk, fun j hj => by simp [hn j hj]⟩
  simp [valNext, h, this]
theorem next_miss {d : Int} {ts : List (Int × Int)} (h : codeF d ts = 0) (hn : ∀ j, j < 2 ^ d.toNat → goodA d.toNat ts (fewTo (seenTo d ts) (2 ^ d.toNat)) (lettersTo (seenTo d ts) (2 ^ d.toNat)) j = false) : valNext d ts = (0, 3) := by
  have : nextA d ts = none := by
    unfold nextA
    rw [List.find?_range_eq_none]
    exact fun j hj => by simp [hn j hj]
  simp [valNext, h, this]

theorem letter_small (s : B4) : 0 ≤ letter4 s ∧ letter4 s < 256 := by
  unfold letter4
  split
  · omega
  · split
    · omega
    · split
      · omega
      · split
        · omega
        · split <;> omega
theorem lettersTo_small (st : List B4) (k i : Nat) : 0 ≤ (lettersTo st k).getD i 0 ∧ (lettersTo st k).getD i 0 < 256 := by
  by_cases hi : i < k
  · have : (lettersTo st k).getD i 0 = letter4 (st.getD i z4) := by simp [lettersTo, List.getD, hi]
    rw [this]; exact letter_small _
  · have : (lettersTo st k).getD i 0 = 0 := by simp [lettersTo, List.getD, List.getElem?_eq_none, hi]
    rw [this]; omega
/-- A byte of the letters as a string. -/
theorem known_byte (st : List B4) (k j : Nat) (hs : j < (strOfNums ((lettersTo st k).drop 1)).size) : ((((strOfNums ((lettersTo st k).drop 1))[j]'hs).toNat : Nat) : Int) = (lettersTo st k).getD (j + 1) 0 := by
  have hl := lettersTo_small st k (j + 1)
  have hsz := strOfNums_size ((lettersTo st k).drop 1)
  have hj : j < ((lettersTo st k).drop 1).length := by omega
  have e : (strOfNums ((lettersTo st k).drop 1))[j]'hs = UInt8.ofNat (((lettersTo st k).drop 1)[j]).toNat := by
    show ((((lettersTo st k).drop 1).map fun n => UInt8.ofNat n.toNat).toArray)[j]'(by simpa using hj) = _
    simp
  rw [e]
  have e2 : ((lettersTo st k).drop 1)[j] = (lettersTo st k).getD (j + 1) 0 := by
    rw [List.getElem_drop]
    have : 1 + j < (lettersTo st k).length := by simp at hj; omega
    simp [List.getD, show j + 1 < (lettersTo st k).length by omega, Nat.add_comm 1 j]
  rw [e2]
  generalize (lettersTo st k).getD (j + 1) 0 = c at hl
  simp only [UInt8.toNat_ofNat']
  omega

end Go.Proofs.Ytejnfngnofilfaa
