/-
  FnSwitches: for all bytes it returns true, and leaves its arguments as they were. No condition.
-/
import Derived.Test.YtejnfngnofilfaaDraw18
import Derived.Test.YtejnfngnofilfaaA2
import Derived.Test.YtejnfngnofilfaaLaw
namespace Go.Proofs.Ytejnfngnofilfaa
open Go.ChangeShapes Go.WideShapes Go.ChangeAt Go.RowKit

section
variable {H : Type} {enc : TypeId × Value → H} {P : Program}
theorem open_BI {t e : TypeId} {base : Nat} {r : Reach} {W : World} {v : Value} {d : DataW H} {p : List MemPlace} (ht : P.underlying t = some (.slice e)) (he : P.underlying e = some (.int .u8)) (hc : P.cellsOf e = 1)
    (hval : Value.okWide P W r base t v) (hd : DataW.Trod enc P W 0 (fun _ => true) true t v d p) (hlt : ∀ x ∈ p, x.block < W.heap.size) : ∃ n, BI W v n := by
  obtain ⟨a0, len, cap, rfl⟩ := okWide_slice ht hval
  obtain ⟨fuel, hf⟩ := hd
  rcases open_ints ht he hc hf with ⟨hcs, hx⟩ | ⟨a, len', cap', zs, hcs, _, hl, hm, hz, hx, hcell, hwz⟩
  · simp [Value.cells] at hcs
    obtain ⟨rfl, rfl, rfl⟩ := hcs
    exact ⟨0, ⟨⟨none, 0, rfl, Nat.le_refl _, Nat.zero_le _, .inl rfl⟩⟩⟩
  · simp [Value.cells] at hcs
    obtain ⟨rfl, rfl, rfl⟩ := hcs
    simp only [Prod.mk.injEq] at hx
    obtain ⟨rfl, rfl⟩ := hx
    simp only [if_true] at hz
    refine ⟨len, ⟨⟨some a, cap, rfl, hl, hm, ?_⟩⟩⟩
    by_cases h0 : len = 0
    · exact .inl h0
    · right
      obtain ⟨b, off, spot⟩ := a
      have hspot : spot = none := by simpa [Addr.add] using World.cell?_spot (hcell 0 (by omega))
      subst hspot
      refine ⟨b, off, rfl, hlt (.cell b off) (MemPlace.mem_row.2 ⟨0, by omega, by simp⟩), fun j hj => ?_⟩
      have hb := bounds_u8 (hwz (zs.getD j 0) (by simp only [List.getD, List.getElem?_eq_getElem (show j < zs.length by omega), Option.getD_some]; exact List.getElem_mem _))
      exact ⟨zs.getD j 0, hb.1, hb.2, by rw [← add_plain]; exact hcell j (by omega)⟩
end

namespace fnSwitches

theorem wayD (D a : Nat) (k : Nat) (hk : k < D) : (way D a).getD k 0 = wayAt D a k := by
  simp [way, List.getD, hk]
theorem way_len (D a : Nat) : (way D a).length = D := by simp [way]

set_option maxRecDepth 100000 in
set_option maxHeartbeats 2000000 in
theorem walk (v u : Value) (n m : Nat) (w : World) (hv : BI w v n) (hu : BI w u m) :
    Calls Try.prog 8 #[v, u] w fun e w' => e = .returned (.bool true) ∧ Below w.heap.size w w' := by
  have HV := Lib.hid hv
  have HU := Lib.hid hu
  clear hv hu
  go_enter Try.func8, Try.ntmps8
  go_wp2_with fail
  refine (a2Long_any v u n m _ HV.out HU.out).mono ?_
  rintro e w' ⟨lg, rfl, rfl⟩
  cases lg with
  | true =>
    go_wp2
    go_ret
    exact ⟨rfl, Below.refl _ _⟩
  | false =>
    go_wp2_with fail
    refine (a2At_any u m 4 _ HU.out).mono ?_
    rintro e w1 ⟨y, rfl, y0, y1, hb1⟩
    have y2 := y1 (by omega)
    clear y1
    obtain ⟨D, hD⟩ : ∃ D : Nat, D = y.toNat + 1 := ⟨_, rfl⟩
    have hwD : IntKind.i64.wrap (1 + y) = (D : Int) := by rw [IntWalk.i64_in _ (by omega)]; omega
    have hD1 : 1 ≤ D := by omega
    have hD4 : D ≤ 4 := by omega
    clear hD
    have HDB := Lib.hid (show inB 1 4 (D : Int) = true by simp [inB]; omega)
    go_wp2_with fail
    refine (a2Stuck_any v n D _ (HV.out.below hb1) HDB.out).mono ?_
    rintro e w2 ⟨v2, xs, rfl, ho2, hok, hb2⟩
    obtain ⟨a2, cap2, hsh⟩ := ho2.si.shape
    subst hsh
    have HOK := Lib.hid hok
    have HO := Lib.hid ho2.si
    have HB2 := Lib.hid (bthen hb1 hb2)
    have hpw : ∀ k : Nat, k ≤ 4 → (2 : Int) ^ k ≤ 16 ∧ 1 ≤ (2 : Int) ^ k := by
      intro k hk
      rcases (by omega : k = 0 ∨ k = 1 ∨ k = 2 ∨ k = 3 ∨ k = 4) with rfl | rfl | rfl | rfl | rfl <;> decide
    have HP := Lib.hid hpw
    clear ho2 hok hb1 hb2 hpw hwD
    go_wp2_with fail
    go_loop [7, 8] (fun q i => ∃ (k : Nat) (N : Int), k ≤ D ∧ i = .int .i64 k ∧ q = .int .i64 N ∧ Hid (N = 2 ^ k)) (fun _ i => D - (intOf i).toNat)
    case atStart => exact ⟨0, 1, Nat.zero_le _, rfl, rfl, Lib.hid rfl⟩
    case round =>
      obtain ⟨k, N, hk, rfl, rfl, HN⟩ := hrel
      by_cases hlt : k < D
      · have hd : decide ((k : Int) < (D : Int)) = true := decide_eq_true (by omega)
        have hb := HP.out k (by omega)
        have hN := HN.out
        rw [← hN] at hb
        have HN2 := Lib.hid (show N * 2 = 2 ^ (k + 1) by rw [hN, Int.pow_succ])
        have hwm : IntKind.i64.wrap (N * 2) = N * 2 := IntWalk.i64_in _ (by omega)
        clear hN hb
        go_wp2
        go_round
        case rel => exact ⟨k + 1, _, by omega, by go_num, rfl, HN2⟩
        case measure => simp [intOf]; omega
      · have hd : decide ((k : Int) < (D : Int)) = false := decide_eq_false (by omega)
        have hkD : k = D := by omega
        have hN : N = ((2 ^ D : Nat) : Int) := by rw [HN.out, hkD]; simp
        have hN16 := pow4 hD4
        obtain ⟨M, hM⟩ : ∃ M, M = 2 ^ D := ⟨_, rfl⟩
        rw [← hM] at hN hN16
        have HM := Lib.hid hM
        subst hN
        clear hkD HN hM
        have HL := Lib.hid (show valLost D xs = (lostL D xs, 0) by simp only [valLost, HOK.out, if_true]; rfl)
        have C1 := Lib.hid (implLostExits_any D _ xs _ HO.out)
        go_wp2_with fail
        refine C1.out.mono ?_
        rintro e w3 ⟨v3, rfl, ho3, hb3⟩
        rw [HL.out] at ho3 ⊢
        simp only at ho3 ⊢
        have HLm := Lib.hid (show ∀ x ∈ lostL D xs, 0 ≤ x ∧ x < (M : Int) from fun x hx => by
          obtain ⟨e, rfl, he, _⟩ := (lost_mem HOK.out x).1 hx
          rw [← HM.out] at he
          omega)
        have HLs := Lib.hid (lost_sorted D xs)
        have HLn := Lib.hid (fun a (ha : a < M) => lost_not HOK.out (a := a) (HM.out ▸ ha))
        have HL0 := Lib.hid (fun (h : xs = []) => show lostL D xs = [] by rw [h]; exact lost_none HDB.out)
        have HL1 := Lib.hid (fun (h : xs ≠ []) => lost_some HOK.out h)
        generalize lostL D xs = L at ho3 HLm HLs HLn HL0 HL1
        obtain ⟨a3, cap3, hsh⟩ := ho3.ri.shape
        subst hsh
        have HR3 := Lib.hid ho3.ri
        have HO3 := Lib.hid (HO.out.below hb3)
        have HB3 := Lib.hid (bthen HB2.out hb3)
        clear ho3 hb3 hd
        have C2 := Lib.hid (a2Rises_any _ L M w3 HR3.out HLm.out HLs.out)
        have hT : (decide (xs.length = 0 → L.length = 0) && decide (xs.length ≠ 0 → L.length ≠ 0)) = true := by
          simp only [Bool.and_eq_true, decide_eq_true_eq]
          refine ⟨fun h => ?_, fun h => ?_⟩
          · rw [HL0.out (List.length_eq_zero_iff.1 h)]; rfl
          · have := HL1.out (fun e => h (by rw [e]; rfl))
            exact fun e => this (List.length_eq_zero_iff.1 e)
        simp only [Bool.and_eq_true, decide_eq_true_eq] at hT
        obtain ⟨hT1, hT2⟩ := hT
        have hc : ((xs.length : Int) == 0) = true ∧ ((L.length : Int) != 0) = false ∧ decide ((0 : Int) < xs.length) = false ∧ decide (0 < xs.length) = false ∨ ((xs.length : Int) == 0) = false ∧ decide ((0 : Int) < xs.length) = true ∧ decide (0 < xs.length) = true ∧ ((L.length : Int) == 0) = false := by
          by_cases h0 : xs.length = 0
          · have h1 := hT1 h0
            left
            refine ⟨by rw [beq_iff_eq]; omega, by rw [bne, beq_iff_eq.2 (by omega)]; rfl, decide_eq_false (by omega), decide_eq_false (by omega)⟩
          · have h1 := hT2 h0
            right
            refine ⟨by rw [beq_eq_false_iff_ne]; omega, decide_eq_true (by omega), decide_eq_true (by omega), by rw [beq_eq_false_iff_ne]; omega⟩
        clear hT1 hT2
        rcases hc with ⟨k1, k2, k3, k4⟩ | ⟨k1, k2, k3, k4⟩
        all_goals
          go_wp2_with (go_at_call 44; refine C2.out.mono ?_; rintro e w4 ⟨rfl, hb4⟩)
          clear k1 k2 k3 k4
          have HB4 := Lib.hid (bthen HB3.out hb4)
          have HO4 := Lib.hid (HO3.out.below hb4)
          have HR4 := Lib.hid (HR3.out.below hb4)
          clear hb4
          go_loopw [11] (fun i wr => ∃ a : Nat, a ≤ M ∧ i = .int .i64 a ∧ Below w4.heap.size w4 wr) (fun i _ => M - (intOf i).toNat)
          case atStart => exact ⟨0, Nat.zero_le _, rfl, Below.refl _ _⟩
          case round =>
            obtain ⟨a, ha, rfl, hw⟩ := hrel
            rename World => wo
            by_cases hlt2 : a < M
            · have hd : decide ((a : Int) < (M : Int)) = true := decide_eq_true (by omega)
              have hEX : ex (D : Int) = (M : Int) := by rw [HM.out]; simp [ex]
              have hin : ∀ z : Nat, z < M → inB 0 (ex (D : Int) - 1) (z : Int) = true := fun z hz => by rw [hEX]; simp only [inB, Bool.and_eq_true, decide_eq_true_eq]; omega
              have hb := runE_bound HOK.out (a : Int)
              rw [hEX] at hb
              obtain ⟨X, hX⟩ : ∃ X : Nat, runE D xs a = X := ⟨(runE D xs a).toNat, by omega⟩
              have hXM : X < M := by omega
              have E1 : valExit D xs a = ((X : Int), 0) := by simp only [valExit, HOK.out, hin a hlt2, if_true]; rw [hX]
              have E2 : valExit D [] a = ((a : Int), 0) := by
                have h0 : okStuck (D : Int) [] = true := okStuck_yes (fun j hj => by simp at hj) HDB.out
                simp only [valExit, h0, hin a hlt2, if_true]
                rw [run_free ⟨hD1, hD4⟩ (HM.out ▸ hlt2)]
              have E3 : valSwitches D a = (way D a, 0) := by simp only [valSwitches, HDB.out, hin a hlt2, if_true]
              have E4 : valExit D xs X = ((X : Int), 0) := by
                simp only [valExit, HOK.out, hin X hXM, if_true]
                rw [← hX, run_again HOK.out, hX]
              have hnm := HLn.out a hlt2
              rw [hX] at hnm
              have hmb : decide ((X : Int) ∈ L) = false := decide_eq_false hnm
              have HMB := Lib.hid hmb
              have C3 := implExitOf_any D _ xs a wo (HO4.out.below hw)
              rw [E1] at C3
              have C4 := fun W => implExitOf_any D (.slice (some ⟨W, 0, none⟩) 0 0) [] a
              rw [E2] at C4
              have C5 := fun W => implSwitchesTo_any D a W
              rw [E3] at C5
              have C6 := fun W h => implExitOf_any D (.slice a2 xs.length cap2) xs X W h
              rw [E4] at C6
              simp only at C3 C4 C5 C6
              have D3 := Lib.hid C3
              have D4 := Lib.hid C4
              have D5 := Lib.hid C5
              have D6 := Lib.hid C6
              have hX0 : decide ((X : Int) < 0) = false := decide_eq_false (by omega)
              have hX1 : decide ((M : Int) ≤ (X : Int)) = false := decide_eq_false (by omega)
              have haa : ((a : Int) != (a : Int)) = false := by simp
              have hDD : ((D : Int) != (D : Int)) = false := by simp
              have hXX : ((X : Int) != (X : Int)) = false := by simp
              have HWL := Lib.hid (way_len D a)
              have HWD := Lib.hid (wayD D a)
              clear C3 C4 C5 C6 E1 E2 E3 E4 hnm hmb hin hEX hb hX
              go_wp2_with fail
              refine D3.out.mono ?_
              rintro e w5 ⟨rfl, hb5⟩
              go_wp2_with fail
              refine (D4.out _ _ (OS.lit0 (E := P2) 57 w5 w5.heap.size (Nat.le_refl _)).si).mono ?_
              rintro e w6 ⟨rfl, hb6⟩
              have hB6 := bthen (bthen hw hb5) (bthen ((Below.refl w5.heap.size w5).alloc (Nat.le_refl _) (.cells #[] 57)) hb6)
              go_wp2_with fail
              refine (D5.out _).mono ?_
              rintro e w7 ⟨v7, rfl, ho7, hb7⟩
              have HR7 := Lib.hid ho7.ri
              have HB7 := Lib.hid (bthen hB6 hb7)
              clear ho7 hb5 hb6 hb7 hB6
              obtain ⟨a7, cap7, hsh⟩ := HR7.out.shape
              rw [HWL.out] at hsh
              subst hsh
              obtain ⟨b7, o7, rfl, hb7, hc7⟩ := HR7.out.cells (by rw [HWL.out]; omega)
              have HC7 := Lib.hid (show ∀ j, j < D → w7.cell? ⟨b7, o7 + j, none⟩ = some (.int .i64 (wayAt D a j)) from fun j hj => by
                have h := hc7 j (by rw [HWL.out]; exact hj)
                rw [HWD.out j hj] at h
                exact h)
              clear hc7
              go_wp2_with (go_at_call 40; refine (a2Has_any _ L X w7 (HR4.out.below HB7.out)).mono ?_; rintro e w' ⟨rfl, rfl⟩; rw [HMB.out])
              clear hX0 hX1 haa hDD
              go_loop [18, 19] (fun q i => ∃ (j : Nat) (x : Int), j ≤ D ∧ i = .int .i64 j ∧ q = .int .i64 x ∧ Hid (x = wayAt D a j)) (fun _ i => D - (intOf i).toNat)
              case atStart => exact ⟨0, 1, Nat.zero_le _, rfl, rfl, Lib.hid rfl⟩
              case round =>
                obtain ⟨j, x, hj, rfl, rfl, HXW⟩ := hrel
                by_cases hlj : j < D
                · have hdj : decide ((j : Int) < (D : Int)) = true := decide_eq_true (by omega)
                  have c1 := HC7.out j hlj
                  rw [← HXW.out] at c1
                  have hxb := wayAt_bound D a j (by omega)
                  rw [← HXW.out] at hxb
                  obtain ⟨x0, x1⟩ := hxb
                  have hdg := dig_01 D a j
                  have hbits := dig_bits D a j (by omega) (by omega)
                  rw [show ((D : Int) - 1 - (j : Int)).toNat = D - 1 - j by omega] at hbits
                  have HS := Lib.hid (show wayAt D a (j + 1) = 2 * x + dig D a j by rw [HXW.out]; rfl)
                  generalize dig D a j = dg at hdg hbits HS
                  obtain ⟨g0, g1⟩ := hdg
                  have hxx : (x != x) = false := by simp
                  have hw1 : IntKind.i64.wrap ((D : Int) - 1) = (D : Int) - 1 := IntWalk.i64_in _ (by omega)
                  have hw2 : IntKind.i64.wrap ((D : Int) - 1 - (j : Int)) = (D : Int) - 1 - (j : Int) := IntWalk.i64_in _ (by omega)
                  have hw3 : IntKind.i64.wrap (2 * x) = 2 * x := IntWalk.i64_in _ (by omega)
                  have HBT := Lib.hid hbits
                  clear hbits
                  have hji : (j : Int) < (D : Int) := by omega
                  go_wp2
                  go_round
                  case rel => exact ⟨j + 1, _, by omega, by go_num, rfl, Lib.hid (by rw [HBT.out, IntWalk.wrap64_in _ (by omega)]; exact HS.out.symm)⟩
                  case measure => simp [intOf]; omega
                · have hdj : decide ((j : Int) < (D : Int)) = false := decide_eq_false (by omega)
                  go_wp2_with fail
                  refine (D6.out _ (HO4.out.below HB7.out)).mono ?_
                  rintro e w8 ⟨rfl, hb8⟩
                  go_wp2
                  go_roundw
                  case rel => exact ⟨a + 1, by omega, by go_num, bthen HB7.out hb8⟩
                  case measure => simp [intOf]; omega
            · have hd : decide ((a : Int) < (M : Int)) = false := decide_eq_false (by omega)
              go_wp2
              go_ret
              exact ⟨rfl, bthen HB4.out hw⟩

set_option maxRecDepth 100000 in
theorem lifted (os : Os) (started : os.Started) (H : Type) (enc : TypeId × Value → H) :
    ReturnsInHanded {} Try.checked os 8 .any (Rows.fnSwitchesSpec.pre6 enc Try.prog Try.f8 Rows.fnSwitchesRow.domain false) (Rows.fnSwitchesSpec.post enc Try.prog Try.f8 false true false false) := by
  refine returnsInHanded_of_change (C := Try.checked) own started (by kernel_rfl) Try.func8
    (ChangeSpec.witness6 (enc := enc) (C := Try.checked) false ⟨#[], #[.slice none 0 0, .slice none 0 0], []⟩ 8 (by kernel_rfl) (by kernel_rfl) (by kernel_rfl) (by kernel_rfl)) ?_
  intro W base args ds gs before hval0 hW _ _
  have hval : ∀ (j : Nat) t v, Try.f8.params[j]? = some t → args[j]? = some v → Value.okWide Try.prog W .any base t v := hval0
  have hW' := hW
  obtain ⟨p, q, hA0, hV, rfl, _, _⟩ := hW
  have hA : DataW.TrodAll enc Try.prog W 0 (fun _ => true) true Try.f8.params.toList args.toList ds p := hA0
  obtain ⟨rfl, rfl⟩ := trodVars_none hV
  have hlt0 : ∀ x ∈ p, x.block < W.heap.size := fun x hx => by simpa using hW'.lt x (by simpa using hx)
  rw [Try.params8] at hA hval
  obtain ⟨b0, vs0, d0, ds0, p0, q0, hargs0, rfl, rfl, h0, r0⟩ := trodAll_cons hA
  obtain ⟨b1, vs1, d1, ds1, p1, q1, hargs1, rfl, rfl, h1, r1⟩ := trodAll_cons r0
  obtain ⟨e1, rfl, e2⟩ := trodAll_nil r1
  have hargs : args = #[b0, b1] := by
    cases args
    simp_all
  subst hargs
  obtain ⟨n0, hx0⟩ := open_BI Try.underlying42 Try.underlying5 (by kernel_rfl) (hval 0 _ b0 rfl rfl) h0 (fun x hx => hlt0 x (by simp [hx]))
  obtain ⟨n1, hx1⟩ := open_BI Try.underlying42 Try.underlying5 (by kernel_rfl) (hval 1 _ b1 rfl rfl) h1 (fun x hx => hlt0 x (by simp [hx]))
  refine (walk b0 b1 n0 n1 W hx0 hx1).mono fun e W' ⟨he, hb⟩ => ?_
  subst he
  exact ⟨_, rfl, law_post laidOut (by decide +kernel) (by kernel_rfl) Try.underlying4 rfl hW' rfl hb⟩

theorem proved : Rows.FnSwitchesSaid :=
  OpenClaim.holds_of_wide 8 Try.f8 rfl rfl rfl rfl rfl rfl rfl ⟨rfl, rfl, rfl, rfl, rfl⟩ rfl rfl rfl rfl rfl (by kernel_rfl) Try.func8 (by kernel_rfl)
    (of_decide_eq_true (by kernel_rfl)) (by unfold Func.isWrapper; first | (rw [if_pos (by decide +kernel)]; kernel_rfl) | (rw [if_neg (by decide +kernel)]; exact ⟨rfl, rfl⟩))
    (fun os started H enc _ => lifted os started H enc)

end fnSwitches
end Go.Proofs.Ytejnfngnofilfaa
