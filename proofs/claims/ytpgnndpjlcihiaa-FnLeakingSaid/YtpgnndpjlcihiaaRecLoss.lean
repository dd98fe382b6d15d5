/-
  Lists of records of type Loss: the copy, the size, the comparison, by contracts.
-/
import Derived.Test.YtpgnndpjlcihiaaRec3
import Derived.Test.YtpgnndpjlcihiaaIn
import Derived.Deep.RegionWith
namespace Go.Proofs.Ytpgnndpjlcihiaa
open Go.RowKit

theorem infoLoss : (Try.prog.info? 46).map (fun i => (i.zero, i.size, i.bytes)) = some (some (.agg #[.int .i64 0, .int .i64 0, .int .i64 0]), 3, 24) := by kernel_rfl

theorem toLoss_any (x y z : Int) (w : World) : Calls Try.prog 33 #[.agg #[.int .i64 x, .int .i64 y, .int .i64 z]] w fun e w' => e = .returned (.agg #[.int .i64 x, .int .i64 y, .int .i64 z]) ∧ Below w.heap.size w w' := by
  go_enter Try.func33, Try.ntmps33
  go_wp2
  exact bodyPost_ret (v := .agg #[.int .i64 x, .int .i64 y, .int .i64 z]) (by simp [results, Try.results33, go_sem]) rfl ⟨rfl, (((Below.refl _ _).alloc (Nat.le_refl _) _).alloc (by simp) _).alloc (by simp; omega) _⟩

theorem szLoss_any (v : Value) (xs : List (Int × Int × Int)) (n : Int) (w : World) (hv : SI P3 w v xs) (h0 : 0 ≤ n) (h1 : n ≤ 1048576) :
    Calls Try.prog 15 #[v, .int .i64 n] w fun e w' => e = .returned (.int .i64 (if n < xs.length then -1 else n - xs.length)) ∧ w = w' := by
  obtain ⟨a, cap, rfl⟩ := hv.shape
  have hl := hv.len
  clear hv
  by_cases h : n < xs.length
  · rw [if_pos h]
    have h2 : decide (n - (xs.length : Int) < 0) = true := by rw [decide_eq_true_iff]; omega
    go_enter Try.func15, Try.ntmps15
    go_wp2
    go_ret
    exact ⟨rfl, rfl⟩
  · rw [if_neg h]
    have h2 : decide (n - (xs.length : Int) < 0) = false := by rw [decide_eq_false_iff_not]; omega
    go_enter Try.func15, Try.ntmps15
    go_wp2
    go_ret
    exact ⟨rfl, rfl⟩

theorem eqLoss_any (x y z x' y' z' : Int) (w : World) : Calls Try.prog 53 #[.agg #[.int .i64 x, .int .i64 y, .int .i64 z], .agg #[.int .i64 x', .int .i64 y', .int .i64 z']] w fun e w' => e = .returned (.bool (x == x' && y == y' && z == z')) ∧ Below w.heap.size w w' := by
  have e1 : ((x == x' && y == y' && z == z') : Bool) = (!(x != x') && !(y != y') && !(z != z')) := by simp [bne]
  rw [e1]
  clear e1
  have hb : ∀ (o o' : Obj), Below w.heap.size w ((w.alloc o).alloc o') := fun o o' => ((Below.refl _ _).alloc (Nat.le_refl _) _).alloc (by simp) _
  go_enter Try.func53, Try.ntmps53
  go_wp2
  all_goals (go_ret; exact ⟨by simp [*], hb _ _⟩)

theorem toLossS_any (v : Value) (xs : List (Int × Int × Int)) (w : World) (hv : SI P3 w v xs) (hs : xs.length ≤ 1099511627776) :
    Calls Try.prog 17 #[v] w fun e w' => ∃ v', e = .returned v' ∧ OS P3 46 w' w.heap.size v' xs ∧ Below w.heap.size w w' := by
  obtain ⟨a, cap, rfl⟩ := hv.shape
  have hl := hv.len
  have HV := Lib.hid hv
  clear hv
  obtain ⟨i0, hi, hz0, hz1, hz2⟩ := info_parts infoLoss
  have HI := Lib.hid hi
  clear hi
  go_enter Try.func17, Try.ntmps17
  go_wp2_with (at_make; refine wpList_make_full _ rfl _ _ 25 rfl w.heap.size 46 i0 (.agg #[.int .i64 0, .int .i64 0, .int .i64 0]) 3 Try.underlying25 HI.out hz0 hz1 .i64 .i64 _ _ xs.length rfl rfl rfl rfl (by rw [hz2]; omega) (by unfold maxLen; omega) (Nat.le_refl _) ?_; intro w1 hown hgr)
  have hb1 : Below w.heap.size w w1 := (Below.refl _ _).grown hgr (Nat.le_refl _) (by simp)
  have HO := Lib.hid (OS.made3 hown)
  clear hown hgr
  go_loopw [4] (fun i wr => ∃ k : Nat, k ≤ xs.length ∧ i = .int .i64 k ∧ Below w.heap.size w wr ∧ OS P3 46 wr w.heap.size (.slice (some ⟨w.heap.size, 0, none⟩) xs.length xs.length) (xs.take k ++ List.replicate (xs.length - k) (0, 0, 0))) (fun i _ => xs.length - (intOf i).toNat)
  case atStart => exact ⟨0, Nat.zero_le _, rfl, hb1, by simpa using HO.out⟩
  case round =>
    obtain ⟨k, hk, rfl, hw, ho⟩ := hrel
    by_cases hlt : k < xs.length
    · obtain ⟨b1, o1, rfl, h1, c1⟩ := HV.out.cells3 (by omega)
      obtain ⟨g1, g1', g1''⟩ := c1 k hlt
      replace g1 := (hw.cell (p := ⟨b1, o1 + k * 3, none⟩) h1).trans g1
      replace g1' := (hw.cell (p := ⟨b1, o1 + k * 3 + 1, none⟩) h1).trans g1'
      replace g1'' := (hw.cell (p := ⟨b1, o1 + k * 3 + 2, none⟩) h1).trans g1''
      clear c1
      have HO := Lib.hid ho
      have hl2 : k < (xs.take k ++ List.replicate (xs.length - k) (0, 0, 0)).length := by simp; omega
      have HL := Lib.hid hl2
      clear hl2
      clear ho
      generalize hx : xs.getD k (0, 0, 0) = x at g1 g1' g1''
      have HX := Lib.hid hx
      clear hx
      obtain ⟨x, y, z⟩ := x
      go_wp2_with (go_at_call 33; refine (toLoss_any _ _ _ _).mono ?_; rintro e w2 ⟨rfl, hb2⟩; obtain ⟨⟨g2, f2⟩, ⟨g3, f3⟩, g4, f4⟩ := (HO.out.below hb2).cells3 k HL.out; clear g1 g1' g1'')

      go_roundw
      case rel =>
        obtain ⟨gx, gy, gz⟩ := HV.out.good3 k hlt
        rw [HX.out] at gx gy gz
        obtain ⟨a1, a2⟩ := (HO.out.below hb2).set3 k HL.out x y z gx gy gz
        refine ⟨k + 1, by omega, by go_num, bgrown (bthen hw hb2) a2 (by simp), ?_⟩
        rw [← set_fillG (0, 0, 0) xs k xs.length rfl hlt, HX.out]
        exact a1
      case measure => simp [intOf]; omega
    · have HO2 := Lib.hid ho
      clear ho
      go_wp2
      go_ret
      refine ⟨_, rfl, ?_, hw⟩
      have := HO2.out
      rwa [List.take_of_length_le (by omega), show xs.length - k = 0 by omega, List.replicate_zero, List.append_nil] at this

/-- eqLossS: are two lists equal? -/
theorem eqLossS_any (va vb : Value) (xs ys : List (Int × Int × Int)) (w : World) (ha : SI P3 w va xs) (hb : SI P3 w vb ys) :
    Calls Try.prog 19 #[va, vb] w fun e w' => e = .returned (.bool (decide (xs = ys))) ∧ Below w.heap.size w w' := by
  obtain ⟨a, ca, rfl⟩ := ha.shape
  obtain ⟨b, cb, rfl⟩ := hb.shape
  have la := ha.len
  have lb := hb.len
  have HA := Lib.hid ha
  have HB := Lib.hid hb
  clear ha hb
  by_cases hl : xs.length = ys.length
  · have hl1 : ((xs.length : Int) != (ys.length : Int)) = false := by rw [hl]; simp
    have HL := Lib.hid hl
    clear hl
    go_enter Try.func19, Try.ntmps19
    go_wp2
    go_loopw [4, 5] (fun r i wr => ∃ k : Nat, k ≤ xs.length ∧ r = .bool false ∧ i = .int .i64 k ∧ Below w.heap.size w wr ∧ xs.take k = ys.take k) (fun _ i _ => xs.length - (intOf i).toNat)
    case atStart => exact ⟨0, Nat.zero_le _, rfl, rfl, Below.refl _ _, rfl⟩
    case round =>
      obtain ⟨k, hk, rfl, rfl, hw, ht⟩ := hrel
      have HT := Lib.hid ht
      clear ht
      by_cases hlt : k < xs.length
      · obtain ⟨b1, o1, rfl, h1, c1⟩ := HA.out.cells3 (by omega)
        obtain ⟨b2, o2, rfl, h2, c2⟩ := HB.out.cells3 (by have := HL.out; omega)
        obtain ⟨g1, g1', g1''⟩ := c1 k hlt
        obtain ⟨g2, g2', g2''⟩ := c2 k (by have := HL.out; omega)
        replace g1 := (hw.cell (p := ⟨b1, o1 + k * 3, none⟩) h1).trans g1
        replace g1' := (hw.cell (p := ⟨b1, o1 + k * 3 + 1, none⟩) h1).trans g1'
        replace g1'' := (hw.cell (p := ⟨b1, o1 + k * 3 + 2, none⟩) h1).trans g1''
        replace g2 := (hw.cell (p := ⟨b2, o2 + k * 3, none⟩) h2).trans g2
        replace g2' := (hw.cell (p := ⟨b2, o2 + k * 3 + 1, none⟩) h2).trans g2'
        replace g2'' := (hw.cell (p := ⟨b2, o2 + k * 3 + 2, none⟩) h2).trans g2''
        have hky : (k : Int) < ys.length := by have := HL.out; omega
        have hkx : (k : Int) < xs.length := by omega
        have hk0 : (0 : Int) ≤ k := by omega
        clear c1 c2
        have S1 := take_snocG (0, 0, 0) xs k hlt
        have S2 := take_snocG (0, 0, 0) ys k (by omega)
        generalize xs.getD k (0, 0, 0) = x at g1 g1' g1'' S1
        generalize ys.getD k (0, 0, 0) = y at g2 g2' g2'' S2
        obtain ⟨x, x', x''⟩ := x
        obtain ⟨y, y', y''⟩ := y
        have HS1 := Lib.hid S1
        have HS2 := Lib.hid S2
        clear S1 S2
        go_wp2
        have hw2 : Below w.heap.size w wr.drew := hw.drew
        by_cases hxy : x = y ∧ x' = y' ∧ x'' = y''
        · have hn : (x == y && x' == y' && x'' == y'') = true := by simp [hxy]
          have HXY := Lib.hid hxy
          clear hxy
          go_region_with (go_at_call 53; refine (eqLoss_any _ _ _ _ _ _ _).mono ?_; rintro e w3 ⟨rfl, hb3⟩)
          all_goals
            go_wp2
            go_roundw
            case rel => exact ⟨k + 1, by omega, rfl, by go_num, bthen hw2 hb3, by rw [HS1.out, HS2.out, HT.out, HXY.out.1, HXY.out.2.1, HXY.out.2.2]⟩
            case measure => simp [intOf]; omega
        · have hn : (x == y && x' == y' && x'' == y'') = false := by simp only [Bool.and_eq_false_iff, beq_eq_false_iff_ne]; exact (by by_cases h1 : x = y <;> by_cases h2 : x' = y' <;> simp_all)
          have HXY := Lib.hid hxy
          clear hxy
          go_region_with (go_at_call 53; refine (eqLoss_any _ _ _ _ _ _ _).mono ?_; rintro e w3 ⟨rfl, hb3⟩)
          all_goals
            go_wp2
            go_ret
            refine ⟨ret_bool ?_, bthen hw2 hb3⟩
            symm
            rw [decide_eq_false_iff_not]
            intro e
            have e2 := HS1.out.symm.trans ((congrArg (List.take (k + 1)) e).trans HS2.out)
            rw [HT.out] at e2
            exact HXY.out (by simpa using e2)
      · go_wp2
        go_ret
        refine ⟨ret_bool ?_, hw⟩
        symm
        rw [decide_eq_true_iff]
        have := HT.out
        rwa [List.take_of_length_le (by omega), List.take_of_length_le (by have := HL.out; omega)] at this
  · have hl1 : ((xs.length : Int) != (ys.length : Int)) = true := by rw [bne_iff_ne]; omega
    have hne : decide (xs = ys) = false := by
      rw [decide_eq_false_iff_not]; intro e; exact hl (by rw [e])
    have HN := Lib.hid hne
    clear hne hl
    go_enter Try.func19, Try.ntmps19
    go_wp2
    go_ret
    exact ⟨ret_bool HN.out.symm, Below.refl _ _⟩

end Go.Proofs.Ytpgnndpjlcihiaa
