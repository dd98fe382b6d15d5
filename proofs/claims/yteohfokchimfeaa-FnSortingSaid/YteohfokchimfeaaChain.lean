/-
  StacksNeeded and FewestShifts of both sides.
-/
import Derived.Test.YteohfokchimfeaaRise
import Derived.Test.YteohfokchimfeaaInv
namespace Go.Proofs.Yteohfokchimfeaa
open Go.RowKit

theorem maxI_take_bounds (ys : List Int) (B : Int) (hB : 0 ≤ B) (h : ∀ y ∈ ys, 1 ≤ y ∧ y ≤ B) (k : Nat) : 0 ≤ maxI (ys.take k) ∧ maxI (ys.take k) ≤ B :=
  maxI_bounds _ _ hB (fun y hy => (h y (List.mem_of_mem_take hy)).2)

theorem l17Longest_any (v : Value) (xs : List Int) (w : World) (hv : RI w v xs) (hs : xs.length ≤ 1048576) :
    Calls Try.prog 63 #[v] w fun e w' => e = .returned (.int .i64 (longest xs)) ∧ Below w.heap.size w w' := by
  have HV := Lib.hid hv
  clear hv
  go_enter Try.func63, Try.ntmps63
  go_wp2_with fail
  refine (l17Rise_any _ xs _ HV.out hs).mono ?_
  rintro e w1 ⟨v1, rfl, ho1, hb1⟩
  have h1 := ho1.ri
  obtain ⟨a1, cap1, rfl⟩ := h1.shape
  have hlr := riseTo_length xs xs.length
  rw [hlr]
  have HLR := Lib.hid hlr
  have H1 := Lib.hid h1
  clear ho1 h1 hlr
  have hl : xs.length ≤ 1048576 := hs
  go_wp2_with fail
  go_loop [4, 5] (fun m i => ∃ k : Nat, k ≤ xs.length ∧ i = .int .i64 k ∧ m = .int .i64 (maxI ((riseTo xs xs.length).take k))) (fun _ i => xs.length - (intOf i).toNat)
  case atStart => exact ⟨0, Nat.zero_le _, rfl, rfl⟩
  case round =>
    obtain ⟨k, hk, rfl, rfl⟩ := hrel
    by_cases hlt : k < xs.length
    · have h1 := H1.out
      rw [HLR.out] at h1
      obtain ⟨b, off, rfl, hbl, hc⟩ := h1.cells (by rw [HLR.out]; omega)
      have g := hc k (by rw [HLR.out]; omega)
      have S1 : maxI ((riseTo xs xs.length).take (k + 1)) = max (maxI ((riseTo xs xs.length).take k)) ((riseTo xs xs.length).getD k 0) := by rw [take_snoc _ k (by rw [HLR.out]; omega), maxI_snoc]
      have HS := Lib.hid S1
      clear hc S1 h1
      go_wp2_with (go_at_call 87; refine (l00Max_any _ _ _).mono ?_; rintro e w' ⟨rfl, rfl⟩)
      go_round
      case rel => exact ⟨k + 1, by omega, by go_num, by rw [HS.out]; simp [List.getD]⟩
      case measure => simp [intOf]; omega
    · go_wp2_with fail
      go_ret
      exact ⟨ret_int (by rw [longest, List.take_of_length_le (by rw [HLR.out]; omega)]), hb1⟩

theorem longestChain_any (v : Value) (xs : List Int) (w : World) (hv : RI w v xs) (hs : xs.length ≤ 1048576) :
    Calls Try.prog 64 #[v] w fun e w' => e = .returned (.int .i64 (longest xs)) ∧ Below w.heap.size w w' := by
  have HV := Lib.hid hv
  clear hv
  go_enter Try.func64, Try.ntmps64
  go_wp2_with fail
  refine (chainEnds_any _ xs _ HV.out hs).mono ?_
  rintro e w1 ⟨v1, rfl, ho1, hb1⟩
  have h1 := ho1.ri
  obtain ⟨a1, cap1, rfl⟩ := h1.shape
  have hlr := riseTo_length xs xs.length
  rw [hlr]
  have HLR := Lib.hid hlr
  have H1 := Lib.hid h1
  clear ho1 h1 hlr
  have hl : xs.length ≤ 1048576 := hs
  go_wp2_with fail
  go_loop [3, 9] (fun m i => ∃ k : Nat, k ≤ xs.length ∧ i = .int .i64 k ∧ m = .int .i64 (maxI ((riseTo xs xs.length).take k))) (fun _ i => xs.length - (intOf i).toNat)
  case atStart => exact ⟨0, Nat.zero_le _, rfl, rfl⟩
  case round =>
    obtain ⟨k, hk, rfl, rfl⟩ := hrel
    by_cases hlt : k < xs.length
    · have h1 := H1.out
      rw [HLR.out] at h1
      obtain ⟨b, off, rfl, hbl, hc⟩ := h1.cells (by rw [HLR.out]; omega)
      have g := hc k (by rw [HLR.out]; omega)
      have S1 : maxI ((riseTo xs xs.length).take (k + 1)) = max (maxI ((riseTo xs xs.length).take k)) ((riseTo xs xs.length).getD k 0) := by rw [take_snoc _ k (by rw [HLR.out]; omega), maxI_snoc]
      have HS := Lib.hid S1
      clear hc S1 h1
      generalize (riseTo xs xs.length).getD k 0 = z at *
      obtain ⟨m, hm⟩ : ∃ m, m = max (maxI ((riseTo xs xs.length).take k)) z := ⟨_, rfl⟩
      have HM := Lib.hid hm
      generalize maxI ((riseTo xs xs.length).take k) = q at *
      have hm1 : (if q < z then z else q) = m := by rw [hm]; split <;> omega
      clear hm
      go_wp2_with fail
      go_round
      case rel => exact ⟨k + 1, by omega, by go_num, by rw [HS.out, HM.out]⟩
      case measure => simp [intOf]; omega
    · go_wp2_with fail
      go_ret
      exact ⟨ret_int (by rw [longest, List.take_of_length_le (by rw [HLR.out]; omega)]), hb1⟩

def valStacks (xs : List Int) : Int × Int := if okOrder xs = true then (longest xs, 0) else (0, 1)
def valShifts (xs : List Int) : Int × Int := if okOrder xs = true then (xs.length - longest xs, 0) else (0, 1)

theorem specStacksNeeded_any (v : Value) (xs : List Int) (w : World) (hv : RI w v xs) (hs : xs.length ≤ 1048576) :
    Calls Try.prog 33 #[v] w fun e w' => e = .returned (.tuple #[.int .i64 (valStacks xs).1, .int .i64 (valStacks xs).2]) ∧ Below w.heap.size w w' := by
  obtain ⟨a, cap, rfl⟩ := hv.shape
  have HV := Lib.hid hv
  clear hv
  cases hok : okOrder xs with
  | false =>
    have HE : Hid (valStacks xs = (0, 1)) := if_neg (by rw [hok]; simp)
    go_enter Try.func33, Try.ntmps33
    go_wp2_with (go_at_call 57; refine (l17Ok_any _ xs _ HV.out).mono ?_; rintro e w1 ⟨rfl, hb1⟩)
    go_ret2
    exact ⟨ret_ii (by rw [HE.out]) (by rw [HE.out]), by assumption⟩
  | true =>
    have l40 := okOrder_len hok
    have HE : Hid (valStacks xs = (longest xs, 0)) := if_pos hok
    have C1 := l17Ok_any _ xs w HV.out
    rw [hok] at C1
    have D1 := Lib.hid C1
    have lb := longest_bounds xs
    clear C1 hok
    go_enter Try.func33, Try.ntmps33
    go_wp2_with fail
    refine D1.out.mono ?_
    rintro e w1 ⟨rfl, hb1⟩
    go_wp2_with fail
    refine (l17Longest_any _ xs _ (HV.out.below hb1) hs).mono ?_
    rintro e w2 ⟨rfl, hb2⟩
    go_wp2_with fail
    go_ret2
    exact ⟨ret_ii (by rw [HE.out]) (by rw [HE.out]), bthen hb1 hb2⟩

theorem specFewestShifts_any (v : Value) (xs : List Int) (w : World) (hv : RI w v xs) (hs : xs.length ≤ 1048576) :
    Calls Try.prog 31 #[v] w fun e w' => e = .returned (.tuple #[.int .i64 (valShifts xs).1, .int .i64 (valShifts xs).2]) ∧ Below w.heap.size w w' := by
  obtain ⟨a, cap, rfl⟩ := hv.shape
  have HV := Lib.hid hv
  clear hv
  cases hok : okOrder xs with
  | false =>
    have HE : Hid (valShifts xs = (0, 1)) := if_neg (by rw [hok]; simp)
    go_enter Try.func31, Try.ntmps31
    go_wp2_with (go_at_call 57; refine (l17Ok_any _ xs _ HV.out).mono ?_; rintro e w1 ⟨rfl, hb1⟩)
    go_ret2
    exact ⟨ret_ii (by rw [HE.out]) (by rw [HE.out]), by assumption⟩
  | true =>
    have l40 := okOrder_len hok
    have HE : Hid (valShifts xs = (xs.length - longest xs, 0)) := if_pos hok
    have C1 := l17Ok_any _ xs w HV.out
    rw [hok] at C1
    have D1 := Lib.hid C1
    have lb := longest_bounds xs
    clear C1 hok
    go_enter Try.func31, Try.ntmps31
    go_wp2_with fail
    refine D1.out.mono ?_
    rintro e w1 ⟨rfl, hb1⟩
    go_wp2_with fail
    refine (l17Longest_any _ xs _ (HV.out.below hb1) hs).mono ?_
    rintro e w2 ⟨rfl, hb2⟩
    go_wp2_with fail
    go_ret2
    exact ⟨ret_ii (by rw [HE.out]) (by rw [HE.out]), bthen hb1 hb2⟩

theorem implStacksNeeded_any (v : Value) (xs : List Int) (w : World) (hv : RI w v xs) (hs : xs.length ≤ 1048576) :
    Calls Try.prog 34 #[v] w fun e w' => e = .returned (.tuple #[.int .i64 (valStacks xs).1, .int .i64 (valStacks xs).2]) ∧ Below w.heap.size w w' := by
  obtain ⟨a, cap, rfl⟩ := hv.shape
  have HV := Lib.hid hv
  clear hv
  cases hok : okOrder xs with
  | false =>
    have HE : Hid (valStacks xs = (0, 1)) := if_neg (by rw [hok]; simp)
    go_enter Try.func34, Try.ntmps34
    go_wp2_with (go_at_call 19; refine (implValidOrder_any _ xs _ HV.out (by omega)).mono ?_; rintro e w1 ⟨rfl, hb1⟩)
    go_ret2
    exact ⟨ret_ii (by rw [HE.out]) (by rw [HE.out]), by assumption⟩
  | true =>
    have l40 := okOrder_len hok
    have HE : Hid (valStacks xs = (longest xs, 0)) := if_pos hok
    have C1 := implValidOrder_any _ xs w HV.out (by omega)
    rw [hok] at C1
    have D1 := Lib.hid C1
    have lb := longest_bounds xs
    clear C1 hok
    go_enter Try.func34, Try.ntmps34
    go_wp2_with fail
    refine D1.out.mono ?_
    rintro e w1 ⟨rfl, hb1⟩
    go_wp2_with fail
    refine (longestChain_any _ xs _ (HV.out.below hb1) hs).mono ?_
    rintro e w2 ⟨rfl, hb2⟩
    go_wp2_with fail
    go_ret2
    exact ⟨ret_ii (by rw [HE.out]) (by rw [HE.out]), bthen hb1 hb2⟩

theorem implFewestShifts_any (v : Value) (xs : List Int) (w : World) (hv : RI w v xs) (hs : xs.length ≤ 1048576) :
    Calls Try.prog 32 #[v] w fun e w' => e = .returned (.tuple #[.int .i64 (valShifts xs).1, .int .i64 (valShifts xs).2]) ∧ Below w.heap.size w w' := by
  obtain ⟨a, cap, rfl⟩ := hv.shape
  have HV := Lib.hid hv
  clear hv
  cases hok : okOrder xs with
  | false =>
    have HE : Hid (valShifts xs = (0, 1)) := if_neg (by rw [hok]; simp)
    go_enter Try.func32, Try.ntmps32
    go_wp2_with (go_at_call 19; refine (implValidOrder_any _ xs _ HV.out (by omega)).mono ?_; rintro e w1 ⟨rfl, hb1⟩)
    go_ret2
    exact ⟨ret_ii (by rw [HE.out]) (by rw [HE.out]), by assumption⟩
  | true =>
    have l40 := okOrder_len hok
    have HE : Hid (valShifts xs = (xs.length - longest xs, 0)) := if_pos hok
    have C1 := implValidOrder_any _ xs w HV.out (by omega)
    rw [hok] at C1
    have D1 := Lib.hid C1
    have lb := longest_bounds xs
    clear C1 hok
    go_enter Try.func32, Try.ntmps32
    go_wp2_with fail
    refine D1.out.mono ?_
    rintro e w1 ⟨rfl, hb1⟩
    go_wp2_with fail
    refine (longestChain_any _ xs _ (HV.out.below hb1) hs).mono ?_
    rintro e w2 ⟨rfl, hb2⟩
    go_wp2_with fail
    go_ret2
    exact ⟨ret_ii (by rw [HE.out]) (by rw [HE.out]), bthen hb1 hb2⟩

end Go.Proofs.Yteohfokchimfeaa
