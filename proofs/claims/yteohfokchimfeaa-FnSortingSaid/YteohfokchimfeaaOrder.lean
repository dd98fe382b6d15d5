/-
  ValidOrder of the reference and of the program.
-/
import Derived.Test.YteohfokchimfeaaCut
import Derived.Test.YteohfokchimfeaaBools
namespace Go.Proofs.Yteohfokchimfeaa
open Go.RowKit

/-- Has a list a number? -/
def hasI (xs : List Int) (n : Int) : Bool := xs.any fun x => x == n
theorem hasI_snoc (xs : List Int) (x n : Int) : hasI (xs ++ [x]) n = (hasI xs n || x == n) := by simp [hasI]
theorem hasI_iff {xs : List Int} {n : Int} : hasI xs n = true ↔ n ∈ xs := by
  unfold hasI; rw [List.any_eq_true]
  exact ⟨fun ⟨x, h, e⟩ => by rw [beq_iff_eq] at e; exact e ▸ h, fun h => ⟨n, h, by simp⟩⟩

/-- The first k elements are different numbers of an order. -/
def okTo (xs : List Int) (k : Nat) : Bool := (List.range k).all fun i => inB 0 (xs.length - 1) (xs.getD i 0) && !hasI (xs.take i) (xs.getD i 0)
theorem okTo_succ (xs : List Int) (k : Nat) : okTo xs (k + 1) = (okTo xs k && (inB 0 (xs.length - 1) (xs.getD k 0) && !hasI (xs.take k) (xs.getD k 0))) := by
  simp [okTo, List.range_succ]
theorem okTo_false (xs : List Int) (k n : Nat) (h : k ≤ n) (hk : okTo xs k = false) : okTo xs n = false := by
  induction n with
  | zero => have e : k = 0 := by omega
            rw [← e]; exact hk
  | succ n ih =>
    by_cases e : k = n + 1
    · subst e; exact hk
    · rw [okTo_succ, ih (by omega), Bool.false_and]
/-- An order. -/
def okOrder (xs : List Int) : Bool := okTo xs xs.length && decide (xs.length ≤ 40)

theorem l00Has_any (v : Value) (xs : List Int) (n : Int) (w : World) (hv : RI w v xs) :
    Calls Try.prog 84 #[v, .int .i64 n] w fun e w' => e = .returned (.bool (hasI xs n)) ∧ w = w' := by
  obtain ⟨a, cap, rfl⟩ := hv.shape
  have hl := hv.len
  have HV := Lib.hid hv
  clear hv
  go_enter Try.func84, Try.ntmps84
  go_wp2
  go_loop [5] (fun i => ∃ k : Nat, k ≤ xs.length ∧ i = .int .i64 k ∧ hasI (xs.take k) n = false) (fun i => xs.length - (intOf i).toNat)
  case atStart => exact ⟨0, Nat.zero_le _, rfl, rfl⟩
  case round =>
    obtain ⟨k, hk, rfl, hno⟩ := hrel
    have HN := Lib.hid hno
    clear hno
    by_cases hlt : k < xs.length
    · obtain ⟨b, off, rfl, hb, hc⟩ := HV.out.cells (by omega)
      have g := hc k hlt
      clear hc
      have S1 := hasI_snoc (xs.take k) (xs.getD k 0) n
      rw [← take_snoc xs k hlt, HN.out, Bool.false_or] at S1
      have hmem : xs.getD k 0 ∈ xs := by simp only [List.getD, List.getElem?_eq_getElem hlt, Option.getD_some]; exact List.getElem_mem hlt
      generalize xs.getD k 0 = x at g S1 hmem
      have H1 := Lib.hid S1
      have HM := Lib.hid hmem
      clear S1 hmem
      by_cases hx : x = n
      · have hq : (x == n) = true := by rw [beq_iff_eq]; exact hx
        have HX := Lib.hid hx
        clear hx
        go_wp2
        go_ret
        exact ⟨ret_bool (hasI_iff.2 (HX.out ▸ HM.out)).symm, rfl⟩
      · have hq : (x == n) = false := by rw [beq_eq_false_iff_ne]; exact hx
        have HQ := Lib.hid (H1.out.trans hq)
        clear hx
        go_wp2
        go_round
        case rel => exact ⟨k + 1, by omega, by go_num, HQ.out⟩
        case measure => simp [intOf]; omega
    · go_wp2
      go_ret
      refine ⟨ret_bool ?_, rfl⟩
      have := HN.out
      rw [List.take_of_length_le (by omega)] at this
      exact this.symm

set_option maxHeartbeats 1000000 in
theorem l17Ok_any (v : Value) (xs : List Int) (w : World) (hv : RI w v xs) :
    Calls Try.prog 57 #[v] w fun e w' => e = .returned (.bool (okOrder xs)) ∧ Below w.heap.size w w' := by
  obtain ⟨a, cap, rfl⟩ := hv.shape
  have hl := hv.len
  have HV := Lib.hid hv
  clear hv
  go_enter Try.func57, Try.ntmps57
  go_wp2
  go_loopw [4] (fun i wr => ∃ k : Nat, k ≤ xs.length ∧ i = .int .i64 k ∧ okTo xs k = true ∧ Below w.heap.size w wr) (fun i _ => xs.length - (intOf i).toNat)
  case atStart => exact ⟨0, Nat.zero_le _, rfl, rfl, Below.refl _ _⟩
  case round =>
    obtain ⟨k, hk, rfl, hok, hb⟩ := hrel
    have HO := Lib.hid hok
    clear hok
    by_cases hlt : k < xs.length
    · obtain ⟨v1, hv1, hcut⟩ := cutToI HV.out k hk
      obtain ⟨b, off, rfl, hbl, hc⟩ := HV.out.cells (by omega)
      have g := (hb.cell (p := ⟨b, off + k, none⟩) hbl).trans (hc k hlt)
      clear hc
      have S1 := okTo_succ xs k
      rw [HO.out, Bool.true_and] at S1
      have HV1 := Lib.hid (fun W B => hv1.below (w' := W) B)
      have hcut' := fun W => hcut W (k : Int) rfl
      clear hv1 hcut
      have hgd := HV.out.getD k
      unfold Good at hgd
      generalize xs.getD k 0 = x at g S1 hgd
      have hkx : (k : Int) < xs.length := by omega
      have hw : IntKind.i64.wrap ((xs.length : Int) - 1) = (xs.length : Int) - 1 := IntWalk.i64_in _ (by omega)
      cases hx : inB 0 (xs.length - 1) x with
      | false =>
        have HS := Lib.hid (S1.trans (by rw [hx, Bool.false_and]))
        clear S1
        go_wp2
        go_quiet ((go_at_call 59; exact quiet_eq (l00In_any _ _ _ _)))
        go_wp2
        go_ret
        refine ⟨ret_bool ?_, below_drewN hb _⟩
        rw [okOrder, okTo_false xs (k + 1) xs.length (by omega) HS.out, Bool.false_and]
      | true =>
        have S2 := S1.trans (by rw [hx, Bool.true_and])
        clear S1
        cases hy : hasI (xs.take k) x with
        | true =>
          have HS := Lib.hid (S2.trans (by rw [hy]))
          clear S2
          go_wp2
          go_quiet ((first | (go_at_call 59; exact quiet_eq (l00In_any _ _ _ _)) | (go_at_call 84; exact quiet_eq (l00Has_any _ _ _ _ (HV1.out _ (bthen0 hb _))))))
          go_wp2
          go_ret
          refine ⟨ret_bool ?_, below_drewN hb _⟩
          rw [okOrder, okTo_false xs (k + 1) xs.length (by omega) HS.out, Bool.false_and]
        | false =>
          have HS := Lib.hid (S2.trans (by rw [hy]))
          clear S2
          go_wp2
          go_quiet ((first | (go_at_call 59; exact quiet_eq (l00In_any _ _ _ _)) | (go_at_call 84; exact quiet_eq (l00Has_any _ _ _ _ (HV1.out _ (bthen0 hb _))))))
          go_wp2
          go_roundw
          case rel => exact ⟨k + 1, by omega, by go_num, HS.out, below_drewN hb _⟩
          case measure => simp [intOf]; omega
    · go_wp2
      go_ret
      refine ⟨ret_bool ?_, hb⟩
      obtain rfl : k = xs.length := by omega
      rw [okOrder, HO.out, Bool.true_and]
      rw [decide_eq_decide]; omega

theorem specValidOrder_any (v : Value) (xs : List Int) (w : World) (hv : RI w v xs) :
    Calls Try.prog 17 #[v] w fun e w' => e = .returned (.bool (okOrder xs)) ∧ Below w.heap.size w w' := by
  have HV := Lib.hid hv
  clear hv
  go_enter Try.func17, Try.ntmps17
  go_wp2_with fail
  refine (l17Ok_any v xs _ HV.out).mono ?_
  rintro e w' ⟨rfl, hb⟩
  go_wp2
  go_ret
  exact ⟨rfl, hb⟩

theorem infoBool : (Try.prog.info? 4).map (fun i => (i.zero, i.size, i.bytes)) = some (some (.bool false), 1, 1) := by kernel_rfl

/-- Which numbers are among some. -/
def metOf (n : Nat) (ys : List Int) : List Bool := (List.range n).map fun (j : Nat) => hasI ys (j : Int)
theorem metOf_length (n : Nat) (ys : List Int) : (metOf n ys).length = n := by simp [metOf]
theorem metOf_getD (n : Nat) (ys : List Int) (j : Nat) (h : j < n) : (metOf n ys).getD j false = hasI ys (j : Int) := by simp [metOf, List.getD, h]
theorem metOf_nil (n : Nat) : metOf n [] = List.replicate n false := by
  apply List.ext_getElem?
  intro i
  by_cases hi : i < n
  · simp [metOf, hi, hasI]
  · simp [metOf, hi]
theorem metOf_set (n : Nat) (ys : List Int) (j : Nat) (h : j < n) : (metOf n ys).set j true = metOf n (ys ++ [(j : Int)]) := by
  apply List.ext_getElem?
  intro i
  rw [List.getElem?_set]
  by_cases e : j = i
  · subst e
    rw [if_pos rfl, if_pos (by rw [metOf_length]; exact h)]
    simp [metOf, h, hasI_snoc]
  · rw [if_neg e]
    by_cases hi : i < n
    · have e2 : ((j : Int) == (i : Int)) = false := by rw [beq_eq_false_iff_ne]; omega
      simp [metOf, hi, hasI_snoc, e2]
    · simp [metOf, hi]

set_option maxHeartbeats 1000000 in
theorem implValidOrder_any (v : Value) (xs : List Int) (w : World) (hv : RI w v xs) (hs : xs.length ≤ 1099511627776) :
    Calls Try.prog 19 #[v] w fun e w' => e = .returned (.bool (okOrder xs)) ∧ Below w.heap.size w w' := by
  obtain ⟨a, cap, rfl⟩ := hv.shape
  have hl := hv.len
  have HV := Lib.hid hv
  clear hv
  obtain ⟨i0, hi, hz0, hz1, hz2⟩ := info_parts infoBool
  have HI := Lib.hid hi
  clear hi
  go_enter Try.func19, Try.ntmps19
  go_wp2_with (at_make; refine wpList_make_full _ rfl _ _ 43 rfl w.heap.size 4 i0 (.bool false) 1 Try.underlying43 HI.out hz0 hz1 .i64 .i64 _ _ xs.length rfl rfl rfl rfl (by rw [hz2]; omega) (by unfold maxLen; omega) (Nat.le_refl _) ?_; intro w1 hown hgr)
  have hb1 : Below w.heap.size w w1 := (Below.refl _ _).grown hgr (Nat.le_refl _) (by simp)
  have HO := Lib.hid (OB.made hown)
  clear hown hgr
  go_loopw [11] (fun i wr => ∃ k : Nat, k ≤ xs.length ∧ i = .int .i64 k ∧ okTo xs k = true ∧ Below w.heap.size w wr ∧ OB 4 wr w.heap.size (.slice (some ⟨w.heap.size, 0, none⟩) xs.length xs.length) (metOf xs.length (xs.take k))) (fun i _ => xs.length - (intOf i).toNat)
  case atStart => exact ⟨0, Nat.zero_le _, rfl, rfl, hb1, by rw [List.take_zero, metOf_nil]; exact HO.out⟩
  case round =>
    obtain ⟨k, hk, rfl, hok, hb, ho⟩ := hrel
    have HO2 := Lib.hid ho
    have HK := Lib.hid hok
    clear ho hok
    by_cases hlt : k < xs.length
    · obtain ⟨b, off, rfl, hbl, hc⟩ := HV.out.cells (by omega)
      have g := (hb.cell (p := ⟨b, off + k, none⟩) hbl).trans (hc k hlt)
      clear hc
      have S1 := okTo_succ xs k
      rw [HK.out, Bool.true_and] at S1
      have S0 := take_snoc xs k hlt
      have hgd := HV.out.getD k
      unfold Good at hgd
      generalize xs.getD k 0 = x at g S1 S0 hgd
      have H0 := Lib.hid S0
      clear S0
      cases hx : inB 0 (xs.length - 1) x with
      | false =>
        have HS := Lib.hid (S1.trans (by rw [hx, Bool.false_and]))
        clear S1
        go_wp2_with (go_at_call 58; refine (within_any _ _ _ _).mono ?_; rintro e w' ⟨rfl, rfl⟩)
        go_ret
        refine ⟨ret_bool ?_, hb⟩
        rw [okOrder, okTo_false xs (k + 1) xs.length (by omega) HS.out, Bool.false_and]
      | true =>
        have S2 := S1.trans (by rw [hx, Bool.true_and])
        clear S1
        have hx2 : 0 ≤ x ∧ x ≤ xs.length - 1 := by simpa [inB] using hx
        obtain ⟨m, rfl⟩ := Int.eq_ofNat_of_zero_le hx2.1
        have hm : m < xs.length := by omega
        obtain ⟨g2, f2⟩ := HO2.out.cell m (by rw [metOf_length]; exact hm)
        rw [metOf_getD _ _ _ hm] at g2
        have HSet := Lib.hid (HO2.out.set m true)
        cases hy : hasI (xs.take k) m with
        | true =>
          have HS := Lib.hid (S2.trans (by rw [hy]))
          clear S2
          go_wp2_with (go_at_call 58; refine (within_any _ _ _ _).mono ?_; rintro e w' ⟨rfl, rfl⟩)
          go_ret
          refine ⟨ret_bool ?_, hb⟩
          rw [okOrder, okTo_false xs (k + 1) xs.length (by omega) HS.out, Bool.false_and]
        | false =>
          have HS := Lib.hid (S2.trans (by rw [hy]))
          clear S2
          go_wp2_with (go_at_call 58; refine (within_any _ _ _ _).mono ?_; rintro e w' ⟨rfl, rfl⟩)
          go_roundw
          case rel =>
            obtain ⟨a1, a2⟩ := HSet.out
            exact ⟨k + 1, by omega, by go_num, HS.out, hb.grown a2 hb.size (by simp), by rw [H0.out, ← metOf_set _ _ _ hm]; exact a1⟩
          case measure => simp [intOf]; omega
    · go_wp2
      go_ret
      refine ⟨ret_bool ?_, hb⟩
      obtain rfl : k = xs.length := by omega
      rw [okOrder, HK.out, Bool.true_and]
      rw [decide_eq_decide]; omega

end Go.Proofs.Yteohfokchimfeaa
