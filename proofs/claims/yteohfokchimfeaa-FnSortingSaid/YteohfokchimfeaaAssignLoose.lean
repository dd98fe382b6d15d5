/-
  What the reference's assignment of stacks returns for any list: some list of the same length.
-/
import Derived.Test.YteohfokchimfeaaAssign
namespace Go.Proofs.Yteohfokchimfeaa
open Go.RowKit

set_option maxHeartbeats 4000000 in
theorem l17AssignLoose_any (v : Value) (xs : List Int) (w : World) (hl : xs.length ≤ 1048576) (hv : RI w v xs) :
    Calls Try.prog 65 #[v] w fun e w' => ∃ v' ys, e = .returned v' ∧ OI 2 w' w.heap.size v' ys ∧ ys.length = xs.length ∧ Below w.heap.size w w' := by
  obtain ⟨a, cap, rfl⟩ := hv.shape
  have HV := Lib.hid hv
  clear hv
  obtain ⟨i0, hi, hz0, hz1, hz2⟩ := info_parts info64
  have HI := Lib.hid hi
  clear hi
  go_enter Try.func65, Try.ntmps65
  go_wp2_with fail
  have hst1 : OI 2 ((w.alloc (.cells #[] 2)).alloc (.cells #[] 2)) w.heap.size (.slice (some ⟨w.heap.size, 0, none⟩) 0 0) [] := (OI.lit0 2 w w.heap.size (Nat.le_refl _)).below ((Below.refl _ _).alloc (Nat.le_refl _) _)
  have hst2 : OI 2 ((w.alloc (.cells #[] 2)).alloc (.cells #[] 2)) w.heap.size (.slice (some ⟨w.heap.size + 1, 0, none⟩) 0 0) [] := by
    have := OI.lit0 2 (w.alloc (.cells #[] 2)) w.heap.size (by simp)
    simpa using this
  have hst3 : Apart (.slice (some ⟨w.heap.size + 1, 0, none⟩) 0 0) (.slice (some ⟨w.heap.size, 0, none⟩) 0 0) := fun k h1 h2 => by
    simp [Value.ownBlock] at h1 h2; omega
  have HS1 := Lib.hid hst1
  have HS2 := Lib.hid hst2
  have HS3 := Lib.hid hst3
  clear hst1 hst2 hst3
  go_loopw [3, 4, 5] (fun o t i wr => ∃ (i' : Nat) (vo vt : Value) (out tops : List Int), i' ≤ xs.length ∧ i = .int .i64 i' ∧ o = vo ∧ t = vt ∧ Hid (OI 2 wr w.heap.size vo out) ∧ Hid (OI 2 wr w.heap.size vt tops) ∧ Hid (out.length = i') ∧ tops.length ≤ i' ∧ Hid (Apart vt vo) ∧ Below w.heap.size w wr) (fun _ _ i _ => xs.length - (intOf i).toNat)
  case atStart => exact ⟨0, _, _, [], [], Nat.zero_le _, rfl, rfl, rfl, HS1, HS2, Lib.hid rfl, Nat.le_refl _, HS3, ((Below.refl _ _).alloc (Nat.le_refl _) _).alloc (by simp) _⟩
  case round =>
    obtain ⟨i, vo, vt, out, tops, hi, rfl, rfl, rfl, HO, HT, HLO, hlt2, HAP, hb⟩ := hrel
    by_cases hlt : i < xs.length
    · obtain ⟨wo, rfl⟩ : ∃ wo : World, wo = wr := ⟨_, rfl⟩
      have HGX := Lib.hid (HV.out.getD i)
      obtain ⟨b, off, rfl, hbl, hc⟩ := HV.out.cells (by omega)
      have HG := Lib.hid (hc i hlt)
      clear hc
      generalize xs.getD i 0 = x at *
      have hrt := HT.out.ri
      obtain ⟨at', capt, hvt⟩ := hrt.shape
      subst hvt
      have HRT := Lib.hid hrt
      clear hrt
      have hii : (i : Int) < xs.length := by omega
      go_upto_block 2 with fail
      go_cut [6] (fun k wx => ∃ K : Nat, K ≤ tops.length ∧ k = .int .i64 (K : Int) ∧ Below wo.heap.size wo wx)
      case first =>
        go_wp2_with fail
        go_loopw [6] (fun k wx => ∃ k' : Nat, k' ≤ tops.length ∧ k = .int .i64 k' ∧ Below wo.heap.size wo wx) (fun k _ => tops.length - (intOf k).toNat)
        case atStart => exact ⟨0, Nat.zero_le _, rfl, Below.refl _ _⟩
        case round =>
          obtain ⟨k, hk, rfl, hb2⟩ := hrel
          have g1 := ((bthen hb hb2).cell (p := ⟨b, off + i, none⟩) hbl).trans HG.out
          by_cases hkt : k < tops.length
          · have hrt := HRT.out.below hb2
            obtain ⟨bt, offt, rfl, hblt, hct⟩ := hrt.cells (by omega)
            have g2 := hct k hkt
            have hki : (k : Int) < tops.length := by omega
            clear hct hrt
            generalize tops.getD k 0 = t at *
            by_cases htx : t < x
            · have hd : decide (t < x) = true := by simpa using htx
              clear htx
              go_wp2_with fail
              go_quiet (fail)
              go_wp2_with fail
              go_roundw
              case rel => exact ⟨k + 1, by omega, by go_num, below_drewN hb2 _⟩
              case measure => simp [intOf]; omega
            · have hd : decide (t < x) = false := by simpa using htx
              clear htx
              go_wp2_with fail
              go_quiet (fail)
              go_wp2_with fail
              go_meet
              case rel => exact ⟨k, hk, rfl, below_drewN hb2 _⟩
          · obtain rfl : k = tops.length := by omega
            have hd : decide ((tops.length : Int) < tops.length) = false := by simp
            go_wp2_with fail
            go_quiet (fail)
            go_wp2_with fail
            go_meet
            case rel => exact ⟨tops.length, Nat.le_refl _, rfl, below_drewN hb2 _⟩
      case rest =>
        obtain ⟨k, hkK, rfl, hb2⟩ := hcut
        have hb3 := bthen hb hb2
        have HO2 := Lib.hid (HO.out.below hb2)
        have HT2 := Lib.hid (HT.out.below hb2)
        have g1 := (hb3.cell (p := ⟨b, off + i, none⟩) hbl).trans HG.out
        by_cases hkl : k < tops.length
        · have hbe : ((k : Int) == (tops.length : Int)) = false := by rw [beq_eq_false_iff_ne]; omega
          obtain ⟨_, hnil⟩ | ⟨g, capg, hvv, hg1, hg2⟩ := HT2.out.shape
          · rw [hnil] at hkl; simp at hkl
          · simp only [Value.slice.injEq, true_and] at hvv
            obtain ⟨rfl, rfl⟩ := hvv
            obtain ⟨gc, fc⟩ := HT2.out.cell k hkl
            have hset := HT2.out.set k x HGX.out
            have HSet := Lib.hid hset.1
            have hgw := hset.2
            have hbs : Below w.heap.size w _ := HT2.out.step hb3 hgw
            have HOs := Lib.hid (HO2.out.other hgw HAP.out)
            have hki : (k : Int) < tops.length := by omega
            clear hset hgw
            generalize tops.getD k 0 = t at *
            go_wp2_with (at_builtin; refine wpList_app1n rfl _ _ 22 rfl 2 _ i0 Try.underlying22 HI.out hz0 hz1 hz2 w.heap.size _ _ rfl HOs.out _ _ (by simp) rfl ?_ ?_ hbs.size ?_)
            · unfold Good; omega
            · have := HLO.out; omega
            · intro v9 w9 h1 h2 h3
              have hb9 := HOs.out.step hbs h2
              have HT9 := Lib.hid (HSet.out.other h2 HAP.out.symm)
              have HA9 := Lib.hid ((HAP.out.symm.app HSet.out (fun q hq => by simpa using h3 q hq)).symm)
              have H9 := Lib.hid h1
              clear h1 h2 h3
              go_wp2_with fail
              go_roundw
              case rel => exact ⟨i + 1, v9, _, _, _, by omega, by go_num, rfl, rfl, H9, HT9, Lib.hid (by rw [List.length_append, HLO.out]; rfl), by rw [List.length_set]; omega, HA9, hb9⟩
              case measure => simp [intOf]; omega
        · obtain rfl : k = tops.length := by omega
          have hbe : ((tops.length : Int) == (tops.length : Int)) = true := by simp
          go_wp2_with (at_builtin; refine wpList_app1n rfl _ _ 22 rfl 2 _ i0 Try.underlying22 HI.out hz0 hz1 hz2 w.heap.size _ _ rfl HT2.out _ _ (by simp) rfl ?_ ?_ hb3.size ?_)
          · exact HGX.out
          · omega
          · intro v5 w5 h1 h2 h3
            have hb5 := HT2.out.step hb3 h2
            have HO5 := Lib.hid (HO2.out.other h2 HAP.out)
            have HA5 : Hid (Apart v5 _) := Lib.hid (HAP.out.app HO2.out h3)
            have g5 := (hb5.cell (p := ⟨b, off + i, none⟩) hbl).trans HG.out
            have HT5 := Lib.hid h1
            clear h1 h2 h3
            obtain ⟨_, hnil⟩ | ⟨g, capg, hvv, hg1, hg2⟩ := HT5.out.shape
            · simp at hnil
            · subst hvv
              have HT6 : Hid (OI 2 w5 w.heap.size (.slice (some ⟨g, 0, none⟩) (tops.length + 1) capg) (tops ++ [x])) := by
                have := HT5.out
                rw [List.length_append] at this
                exact this
              have HA6 := HA5
              rw [show (tops ++ [x]).length = tops.length + 1 by simp] at HA6
              obtain ⟨gc, fc⟩ := HT6.out.cell tops.length (by simp)
              have hset := HT6.out.set tops.length x HGX.out
              have hse : (tops ++ [x]).set tops.length x = tops ++ [x] := by simp
              rw [hse] at hset
              have HSet := Lib.hid hset.1
              have hgw := hset.2
              have hbs : Below w.heap.size w _ := HT6.out.step hb5 hgw
              have HOs := Lib.hid (HO5.out.other hgw HA6.out)
              have hln : (tops ++ [x]).length = tops.length + 1 := by simp
              rw [hln]
              clear hset hgw hse hln HT5 HA5
              generalize (tops ++ [x]).getD tops.length 0 = t at *
              go_wp2_with (at_builtin; refine wpList_app1n rfl _ _ 22 rfl 2 _ i0 Try.underlying22 HI.out hz0 hz1 hz2 w.heap.size _ _ rfl HOs.out _ _ (by simp) rfl ?_ ?_ hbs.size ?_)
              · unfold Good; omega
              · have := HLO.out; omega
              · intro v9 w9 h1 h2 h3
                have hb9 := HOs.out.step hbs h2
                have HT9 := Lib.hid (HSet.out.other h2 HA6.out.symm)
                have HA9 := Lib.hid ((HA6.out.symm.app HSet.out (fun q hq => by simpa using h3 q hq)).symm)
                have H9 := Lib.hid h1
                clear h1 h2 h3
                go_wp2_with fail
                go_roundw
                case rel => exact ⟨i + 1, v9, _, _, _, by omega, by go_num, rfl, rfl, H9, HT9, Lib.hid (by rw [List.length_append, HLO.out]; rfl), by simp; omega, HA9, hb9⟩
                case measure => simp [intOf]; omega
    · obtain rfl : i = xs.length := by omega
      go_wp2_with fail
      go_ret
      exact ⟨_, out, rfl, HO.out, HLO.out, hb⟩

end Go.Proofs.Yteohfokchimfeaa
