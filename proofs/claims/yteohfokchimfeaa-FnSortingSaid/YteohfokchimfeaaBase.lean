/-
  The functions that nearly all laws of this claim go through: the copy of a list of int64, the comparison of two, their marks. Each by a contract.
-/
import Derived.Test.YteohfokchimfeaaProg
import Derived.Test.YteohfokchimfeaaLib
import Derived.Test.YteohfokchimfeaaIn
import Derived.Outline
namespace Go.Proofs.Yteohfokchimfeaa
open Go.RowKit

/-- eqInt64S: are two lists equal? -/
theorem eqI_any (va vb : Value) (xs ys : List Int) (w : World) (ha : RI w va xs) (hb : RI w vb ys) :
    Calls Try.prog 20 #[va, vb] w fun e w' => e = .returned (.bool (decide (xs = ys))) ∧ Below w.heap.size w w' := by
  obtain ⟨a, ca, rfl⟩ := ha.shape
  obtain ⟨b, cb, rfl⟩ := hb.shape
  have la := ha.len
  have lb := hb.len
  have HA := Lib.hid ha
  have HB := Lib.hid hb
  clear ha hb
  by_cases hl : xs.length = ys.length
  · have hl1 : ((xs.length : Int) != (ys.length : Int)) = false := by rw [hl]; simp
    have HL := Lib.hid hl
    clear hl
    go_enter Try.func20, Try.ntmps20
    go_wp2
    go_loopw [4, 5] (fun r i wr => ∃ k : Nat, k ≤ xs.length ∧ r = .bool false ∧ i = .int .i64 k ∧ Below w.heap.size w wr ∧ xs.take k = ys.take k) (fun _ i _ => xs.length - (intOf i).toNat)
    case atStart => exact ⟨0, Nat.zero_le _, rfl, rfl, Below.refl _ _, rfl⟩
    case round =>
      obtain ⟨k, hk, rfl, rfl, hw, ht⟩ := hrel
      have HT := Lib.hid ht
      clear ht
      by_cases hlt : k < xs.length
      · obtain ⟨b1, o1, rfl, h1, c1⟩ := HA.out.cells (by omega)
        obtain ⟨b2, o2, rfl, h2, c2⟩ := HB.out.cells (by have := HL.out; omega)
        have g1 := (hw.cell (p := ⟨b1, o1 + k, none⟩) h1).trans (c1 k hlt)
        have g2 := (hw.cell (p := ⟨b2, o2 + k, none⟩) h2).trans (c2 k (by have := HL.out; omega))
        have hky : (k : Int) < ys.length := by have := HL.out; omega
        have hkx : (k : Int) < xs.length := by omega
        have hk0 : (0 : Int) ≤ k := by omega
        clear c1 c2
        have S1 := take_snoc xs k hlt
        have S2 := take_snoc ys k (by omega)
        generalize xs.getD k 0 = x at g1 S1
        generalize ys.getD k 0 = y at g2 S2
        have HS1 := Lib.hid S1
        have HS2 := Lib.hid S2
        clear S1 S2
        go_wp2
        go_quiet (fail)
        by_cases hxy : x = y
        · have hn : (x != y) = false := by simp [hxy]
          have HXY := Lib.hid hxy
          clear hxy
          go_wp2
          go_roundw
          case rel => exact ⟨k + 1, by omega, rfl, by go_num, below_drewN hw _, by rw [HS1.out, HS2.out, HT.out, HXY.out]⟩
          case measure => simp [intOf]; omega
        · have hn : (x != y) = true := by simp [hxy]
          have HXY := Lib.hid hxy
          clear hxy
          go_wp2
          go_ret
          refine ⟨ret_bool ?_, below_drewN hw _⟩
          symm
          rw [decide_eq_false_iff_not]
          intro e
          have e2 := HS1.out.symm.trans ((congrArg (List.take (k + 1)) e).trans HS2.out)
          rw [HT.out] at e2
          exact HXY.out (by simpa using e2)
      · go_wp2
        go_ret
        refine ⟨ret_bool ?_, hw⟩
        symm
        rw [decide_eq_true_iff]
        have := HT.out
        rwa [List.take_of_length_le (by omega), List.take_of_length_le (by have := HL.out; omega)] at this
  · have hl1 : ((xs.length : Int) != (ys.length : Int)) = true := by rw [bne_iff_ne]; omega
    have hne : decide (xs = ys) = false := by
      rw [decide_eq_false_iff_not]; intro e; exact hl (by rw [e])
    have HN := Lib.hid hne
    clear hne hl
    go_enter Try.func20, Try.ntmps20
    go_wp2
    go_ret
    exact ⟨ret_bool HN.out.symm, Below.refl _ _⟩

theorem toI_any (v : Value) (xs : List Int) (w : World) (hv : RI w v xs) (hs : xs.length ≤ 1099511627776) :
    Calls Try.prog 18 #[v] w fun e w' => ∃ v', e = .returned v' ∧ OI 2 w' w.heap.size v' xs ∧ Below w.heap.size w w' := by
  obtain ⟨a, cap, rfl⟩ := hv.shape
  have hl := hv.len
  have HV := Lib.hid hv
  clear hv
  obtain ⟨i0, hi, hz0, hz1, hz2⟩ := info_parts info64
  have HI := Lib.hid hi
  clear hi
  go_enter Try.func18, Try.ntmps18
  go_wp2_with (at_make; refine wpList_make_full _ rfl _ _ 22 rfl w.heap.size 2 i0 (.int .i64 0) 1 Try.underlying22 HI.out hz0 hz1 .i64 .i64 _ _ xs.length rfl rfl rfl rfl (by rw [hz2]; omega) (by unfold maxLen; omega) (Nat.le_refl _) ?_; intro w1 hown hgr)
  have hb1 : Below w.heap.size w w1 := (Below.refl _ _).grown hgr (Nat.le_refl _) (by simp)
  have HO := Lib.hid (OI.made hown)
  clear hown hgr
  go_loopw [4] (fun i wr => ∃ k : Nat, k ≤ xs.length ∧ i = .int .i64 k ∧ Below w.heap.size w wr ∧ OI 2 wr w.heap.size (.slice (some ⟨w.heap.size, 0, none⟩) xs.length xs.length) (xs.take k ++ List.replicate (xs.length - k) 0)) (fun i _ => xs.length - (intOf i).toNat)
  case atStart => exact ⟨0, Nat.zero_le _, rfl, hb1, by simpa using HO.out⟩
  case round =>
    obtain ⟨k, hk, rfl, hw, ho⟩ := hrel
    by_cases hlt : k < xs.length
    · obtain ⟨b1, o1, rfl, h1, c1⟩ := HV.out.cells (by omega)
      have g1 := (hw.cell (p := ⟨b1, o1 + k, none⟩) h1).trans (c1 k hlt)
      obtain ⟨g2, f2⟩ := ho.cell k (by simp; omega)
      clear c1
      have HO2 := Lib.hid (ho.set k (xs.getD k 0) (HV.out.getD k))
      have HS := Lib.hid (set_fill xs k xs.length rfl hlt)
      clear ho
      generalize xs.getD k 0 = x at g1 HO2 HS
      go_wp2
      go_roundw
      case rel =>
        obtain ⟨a1, a2⟩ := HO2.out
        exact ⟨k + 1, by omega, by go_num, hw.grown a2 hw.size (by simp), by rw [← HS.out]; exact a1⟩
      case measure => simp [intOf]; omega
    · have HO2 := Lib.hid ho
      clear ho
      go_wp2
      go_ret
      refine ⟨_, rfl, ?_, hw⟩
      have := HO2.out
      rwa [List.take_of_length_le (by omega), show xs.length - k = 0 by omega, List.replicate_zero, List.append_nil] at this

/-- markInt64S: the elements of an owned list become k, k + 1, .. -/
theorem markI_any (v : Value) (xs : List Int) (base k0 : Nat) (kk : Int) (hkk : kk = (k0 : Int)) (w : World) (ho : OI 2 w base v xs) (hs : xs.length ≤ 1099511627776) (hk0 : k0 ≤ 1099511627776) :
    Calls Try.prog 25 #[v, .int .i64 kk] w fun e w' => e = .returned (.int .i64 ((k0 + xs.length : Nat) : Int)) ∧ OI 2 w' base v (marks k0 xs.length) ∧ w.grownBy w' v.ownBlock := by
  subst hkk
  rcases ho.shape with ⟨rfl, rfl⟩ | ⟨g, cap, rfl, hbg, hg⟩
  · go_enter Try.func25, Try.ntmps25
    go_wp2
    go_loopw [1, 5] (fun k i wr => k = .int .i64 k0 ∧ i = .int .i64 0 ∧ wr = w) (fun _ _ _ => 0)
    case atStart => exact ⟨rfl, rfl, rfl⟩
    case round =>
      obtain ⟨rfl, rfl, rfl⟩ := hrel
      go_wp2
      go_ret
      exact ⟨by simp, OI.nil _ _ _, World.grownBy.refl _ _⟩
  · have HO := Lib.hid ho
    clear ho
    go_enter Try.func25, Try.ntmps25
    go_wp2
    go_loopw [1, 5] (fun k i wr => ∃ j : Nat, j ≤ xs.length ∧ k = .int .i64 ((k0 + j : Nat) : Int) ∧ i = .int .i64 j ∧ w.grownBy wr (some g) ∧ OI 2 wr base (.slice (some ⟨g, 0, none⟩) xs.length cap) (marks k0 j ++ xs.drop j)) (fun _ i _ => xs.length - (intOf i).toNat)
    case atStart => exact ⟨0, Nat.zero_le _, rfl, rfl, World.grownBy.refl _ _, by simpa [marks] using HO.out⟩
    case round =>
      obtain ⟨j, hj, rfl, rfl, hgr, ho⟩ := hrel
      by_cases hlt : j < xs.length
      · obtain ⟨g2, f2⟩ := ho.cell j (by simp [marks_length]; omega)
        have HO2 := Lib.hid (ho.set j ((k0 + j : Nat) : Int) (by unfold Good; omega))
        have HG := Lib.hid hgr
        clear ho hgr
        generalize (marks k0 j ++ xs.drop j).getD j 0 = y at g2
        have hk1 : (0 : Int) ≤ (k0 : Int) + j := by omega
        go_wp2
        go_roundw
        case rel => 
          obtain ⟨a1, a2⟩ := HO2.out
          refine ⟨j + 1, by omega, by go_num, by go_num, grownBy_trans HG.out a2, ?_⟩
          rw [← marks_set xs k0 j hlt]
          exact a1
        case measure => simp [intOf]; omega
      · have HO2 := Lib.hid ho
        have HG := Lib.hid hgr
        clear ho hgr
        go_wp2
        go_ret
        have hj2 : j = xs.length := by omega
        subst hj2
        refine ⟨by simp, ?_, HG.out⟩
        have := HO2.out
        rwa [List.drop_length, List.append_nil] at this

/-- heldInt64S at such a list: the count goes on. -/
theorem heldI_any (v : Value) (n k0 : Nat) (kk : Int) (hkk : kk = (k0 : Int)) (w : World) (hv : RI w v (marks k0 n)) (hn : n ≤ 1099511627776) (hk0 : k0 ≤ 1099511627776) :
    Calls Try.prog 26 #[v, .int .i64 kk] w fun e w' => e = .returned (.int .i64 ((k0 + n : Nat) : Int)) ∧ w = w' := by
  subst hkk
  obtain ⟨a, cap, rfl⟩ := hv.shape
  have HV := Lib.hid hv
  clear hv
  have hml : (marks k0 n).length = n := marks_length k0 n
  rw [hml]
  clear hml
  go_enter Try.func26, Try.ntmps26
  go_wp2
  go_loop [1, 5] (fun k i => ∃ j : Nat, j ≤ n ∧ k = .int .i64 ((k0 + j : Nat) : Int) ∧ i = .int .i64 j) (fun _ i => n - (intOf i).toNat)
  case atStart => exact ⟨0, Nat.zero_le _, rfl, rfl⟩
  case round =>
    obtain ⟨j, hj, rfl, rfl⟩ := hrel
    by_cases hlt : j < n
    · have HV' := HV.out
      obtain ⟨b, off, rfl, hb, hc⟩ := HV'.cells (by rw [marks_length]; omega)
      have g1 := hc j (by rw [marks_length]; omega)
      rw [marks_getD k0 n j hlt] at g1
      clear hc HV'
      have hne : ((((k0 + j : Nat) : Int)) != ((k0 + j : Nat) : Int)) = false := by simp
      go_wp2
      go_round
      case rel => exact ⟨j + 1, by omega, by go_num, by go_num⟩
      case measure => simp [intOf]; omega
    · go_wp2
      go_ret
      have hj2 : j = n := by omega
      subst hj2
      exact ⟨by simp, rfl⟩

end Go.Proofs.Yteohfokchimfeaa
