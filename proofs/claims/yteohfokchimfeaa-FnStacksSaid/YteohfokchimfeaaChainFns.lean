/-
  RisingChain of the reference and of the program: what each returns.
-/
import Derived.Test.YteohfokchimfeaaChainRow
import Derived.Deep.RegionHeld3
namespace Go.Proofs.Yteohfokchimfeaa
open Go.RowKit

theorem chainBack_yes {xs : List Int} {t : Nat} (h1 : (riseTo xs xs.length).getD (xs.length - 1 - t) 0 = (chainBack xs t).1) (h2 : xs.getD (xs.length - 1 - t) 0 < (chainBack xs t).2.1) :
    chainBack xs (t + 1) = ((chainBack xs t).1 - 1, xs.getD (xs.length - 1 - t) 0, xs.getD (xs.length - 1 - t) 0 :: (chainBack xs t).2.2) := by
  simp only [chainBack]; rw [if_pos ⟨h1, h2⟩]
theorem chainBack_no {xs : List Int} {t : Nat} (h : ¬ ((riseTo xs xs.length).getD (xs.length - 1 - t) 0 = (chainBack xs t).1 ∧ xs.getD (xs.length - 1 - t) 0 < (chainBack xs t).2.1)) : chainBack xs (t + 1) = chainBack xs t := by
  simp only [chainBack]; rw [if_neg h]

set_option maxRecDepth 100000 in
set_option maxHeartbeats 1000000 in
theorem specRisingChain_any (v : Value) (xs : List Int) (w : World) (hv : RI w v xs) :
    Calls Try.prog 39 #[v] w fun e w' => ∃ v', e = .returned (.tuple #[v', .int .i64 (valChain xs).2]) ∧ OI 2 w' w.heap.size v' (valChain xs).1 ∧ Below w.heap.size w w' := by
  obtain ⟨a, cap, rfl⟩ := hv.shape
  have hl := hv.len
  have HV := Lib.hid hv
  have C1 := l17Ok_any _ xs w hv
  clear hv
  cases h1 : okOrder xs with
  | false =>
    rw [h1] at C1
    have D1 := Lib.hid C1
    have HE := Lib.hid (show valChain xs = ([], 1) by simp [valChain, h1])
    clear C1 h1
    go_enter Try.func39, Try.ntmps39
    go_wp2_with (go_at_call 57; refine D1.out.mono ?_; rintro e w1 ⟨rfl, hb1⟩)
    go_ret2
    exact ⟨_, by rw [HE.out]; rfl, by rw [HE.out]; exact OI.nil _ _ _, hb1⟩
  | true =>
    rw [h1] at C1
    have D1 := Lib.hid C1
    have HK := Lib.hid h1
    have HE := Lib.hid (show valChain xs = ((chainBack xs xs.length).2.2, 0) by simp [valChain, h1])
    have h40 := okOrder_len h1
    clear C1 h1
    obtain ⟨i0, hi, iz0, iz1, iz2⟩ := info_parts info64
    have HI := Lib.hid hi
    clear hi
    go_enter Try.func39, Try.ntmps39
    go_wp2_with fail
    refine D1.out.mono ?_
    rintro e w1 ⟨rfl, hb1⟩
    go_wp2_with fail
    refine (l17Rise_any _ xs _ (HV.out.below hb1) (by omega)).mono ?_
    rintro e w2 ⟨rv, rfl, hr, hb2⟩
    have hb12 := bthen hb1 hb2
    go_wp2_with fail
    refine (l17Longest_any _ xs _ (HV.out.below hb12) (by omega)).mono ?_
    rintro e w3 ⟨rfl, hb3⟩
    have hb13 := bthen hb12 hb3
    have HR := Lib.hid ((hr.below hb3).ri)
    obtain ⟨ra, rcap, hrs⟩ := HR.out.shape
    rw [riseTo_length] at hrs
    subst hrs
    clear hr hb2 hb3 hb12 hb1
    go_wp2_with fail
    go_loopw [5, 6, 7] (fun wt o i wr => ∃ t : Nat, t ≤ xs.length ∧ wt = .int .i64 (chainBack xs t).1 ∧ i = .int .i64 ((xs.length : Int) - 1 - t) ∧ Below w3.heap.size w3 wr ∧ OI 2 wr w3.heap.size o (chainBack xs t).2.2) (fun _ _ i _ => (intOf i + 1).toNat)
    case atStart => exact ⟨0, Nat.zero_le _, rfl, by simp, (Below.refl _ _).alloc (Nat.le_refl _) _, OI.lit0 _ _ _ (Nat.le_refl _)⟩
    case round =>
      obtain ⟨t, ht, rfl, rfl, hw, ho⟩ := hrel
      obtain ⟨cI1, cI2, cI3, cI4⟩ := chainBack_inv xs t
      by_cases hlt : t < xs.length
      · obtain ⟨p, hp⟩ : ∃ p, p = xs.length - 1 - t := ⟨_, rfl⟩
        have hpl : p < xs.length := by omega
        have hr1 := riseTo_getD xs xs.length p hpl
        have hYes := fun h1 h2 => chainBack_yes (xs := xs) (t := t) h1 h2
        have hNo := fun h => chainBack_no (xs := xs) (t := t) h
        rw [← hp] at hYes hNo
        have e1 : ((xs.length : Int) - 1 - t) = (p : Int) := by omega
        have e2 : ((xs.length : Int) - 1 - ((t + 1 : Nat) : Int)) = (p : Int) - 1 := by omega
        have HE2 := Lib.hid e2
        rw [e1]
        obtain ⟨b, off, rfl, hb, hc⟩ := HV.out.cells (by omega)
        obtain ⟨b2, off2, rfl, hbr, hcr⟩ := HR.out.cells (by rw [riseTo_length]; omega)
        have g1 := ((bthen hb13 hw).cell (p := ⟨b, off + p, none⟩) hb).trans (hc p hpl)
        have g2 := (hw.cell (p := ⟨b2, off2 + p, none⟩) hbr).trans (hcr p (by rw [riseTo_length]; omega))
        have hgx := HV.out.getD p
        have hltx : xs.getD p 0 < xs.length := by have := (okOrder_at HK.out p hpl).1; omega
        generalize (riseTo xs xs.length).getD p 0 = r at g2 hr1 hYes hNo
        generalize xs.getD p 0 = x at g1 hYes hNo hgx hltx
        generalize hcb : chainBack xs t = cb at *
        obtain ⟨wt, bf, ls⟩ := cb
        simp only at cI1 cI2 cI3 cI4 hYes hNo ho
        have HYes := Lib.hid hYes
        have HNo := Lib.hid hNo
        have HO := Lib.hid ho
        have hp1 : (p : Int) < xs.length := by omega
        have hp0 : (0 : Int) ≤ p := by omega
        have hgx' := Lib.hid hgx
        have HP := Lib.hid hp
        clear hYes hNo hc hcr e1 e2 hcb hp hgx ho
        have hlo : ls.length ≤ 40 := by omega
        by_cases hrw : r = wt
        · have hq1 : (r == wt) = true := by simp [hrw]
          obtain ⟨oa, oc, rfl⟩ := HO.out.ri.shape
          cases ls with
          | nil =>
            have hbf : bf = xs.length := by
              rcases cI1 with ⟨_, h⟩ | ⟨h, _⟩
              · exact h
              · exact absurd rfl h
            have HY := Lib.hid (HYes.out hrw (by omega))
            clear hrw cI1
            have HY1 := Lib.hid HY.out
            go_wp2_with fail
            go_quiet (fail)
            rename_i nq
            have hbA : Below wr.heap.size wr ((wr.drewN nq).alloc (.cells #[.int .i64 x] 2)) := (below_drewN' wr nq).alloc (below_drewN' wr nq).size _
            have hbs : w3.heap.size ≤ (wr.drewN nq).heap.size := (below_drewN hw nq).size
            have HO2 := Lib.hid (HO.out.below hbA)
            have hwA := bthen hw hbA
            go_wp2_with (at_builtin; refine wpList_appI rfl _ _ 22 rfl 2 i0 Try.underlying22 HI.out iz0 iz1 iz2 w3.heap.size _ [x] rfl (OI.lit1 _ (wr.drewN nq) _ _ hbs hgx'.out) _ _ rfl HO2.out.ri ?_ hwA.size ?_)
            · simp
            · intro v9 w9 h1 h2
              have hb9 := bgrown hwA h2 (fun q hq => by simp [Value.ownBlock] at hq; have := hw.size; omega)
              have H9 := Lib.hid h1
              clear h1 h2
              go_wp2_with fail
              go_roundw
              case rel => exact ⟨t + 1, by omega, by rw [HY.out], by rw [HE2.out], hb9, by rw [HY.out]; exact H9.out⟩
              case measure => simp [intOf]; try omega
          | cons h tl =>
            have hbf : h = bf := by
              rcases cI1 with ⟨h, _⟩ | ⟨_, h⟩
              · simp at h
              · simpa using h
            subst hbf
            obtain ⟨go, ooff, rfl, hgo, hoc⟩ := HO.out.ri.cells (by simp)
            have g3 := hoc 0 (by simp)
            rw [List.getD_cons_zero, Nat.add_zero] at g3
            have hq2 : ((((h :: tl).length : Nat) : Int) == 0) = false := by rw [beq_eq_false_iff_ne]; simp; try omega
            have hq3 : (0 : Int) < (((h :: tl).length : Nat) : Int) := by simp; try omega
            generalize hll : (h :: tl).length = ll at *
            have HLL := Lib.hid hll
            clear hoc cI1 hll
            by_cases hxb : x < h
            · have HY := Lib.hid (HYes.out hrw hxb)
              clear hrw
              have HY1 := Lib.hid HY.out
              go_wp2_with fail
              go_quiet (fail)
              rename_i nq
              have hbA : Below wr.heap.size wr ((wr.drewN nq).alloc (.cells #[.int .i64 x] 2)) := (below_drewN' wr nq).alloc (below_drewN' wr nq).size _
              have hbs : w3.heap.size ≤ (wr.drewN nq).heap.size := (below_drewN hw nq).size
              have HO2 := Lib.hid (HO.out.below hbA)
              have hwA := bthen hw hbA
              go_wp2_with (at_builtin; refine wpList_appI rfl _ _ 22 rfl 2 i0 Try.underlying22 HI.out iz0 iz1 iz2 w3.heap.size _ [x] rfl (OI.lit1 _ (wr.drewN nq) _ _ hbs hgx'.out) _ _ rfl HO2.out.ri ?_ hwA.size ?_)
              · have := HLL.out; simp at this ⊢; omega
              · intro v9 w9 h1 h2
                have hb9 := bgrown hwA h2 (fun q hq => by simp [Value.ownBlock] at hq; have := hw.size; omega)
                have H9 := Lib.hid h1
                clear h1 h2
                go_wp2_with fail
                go_roundw
                case rel => exact ⟨t + 1, by omega, by rw [HY.out], by rw [HE2.out], hb9, by rw [HY.out]; exact H9.out⟩
                case measure => simp [intOf]; try omega
            · have hd : decide (x < h) = false := decide_eq_false hxb
              have HN := Lib.hid (HNo.out (fun hh => hxb hh.2))
              clear hrw
              go_wp2_with fail
              go_quiet (fail)
              rename_i nq
              go_wp2
              go_roundw
              case rel => exact ⟨t + 1, by omega, by rw [HN.out], by rw [HE2.out], below_drewN hw _, by rw [HN.out]; exact HO.out.below (below_drewN' _ _)⟩
              case measure => simp [intOf]; try omega
        · have hq1 : (r == wt) = false := by simp [hrw]
          have HN := Lib.hid (HNo.out (fun h => hrw h.1))
          clear hrw cI1
          go_wp2_with fail
          go_quiet (fail)
          rename_i nq
          go_wp2
          go_roundw
          case rel => exact ⟨t + 1, by omega, by rw [HN.out], by rw [HE2.out], below_drewN hw _, by rw [HN.out]; exact HO.out.below (below_drewN' _ _)⟩
          case measure => simp [intOf]; try omega
      · have hd : decide ((0 : Int) ≤ (xs.length : Int) - 1 - t) = false := by rw [decide_eq_false_iff_not]; omega
        have htn : t = xs.length := by omega
        subst htn
        have HO := Lib.hid ho
        clear ho
        go_wp2
        go_ret2
        exact ⟨_, by rw [HE.out]; rfl, by rw [HE.out]; exact HO.out.mono hb13.size, bthen hb13 hw⟩

set_option maxRecDepth 100000 in
set_option maxHeartbeats 2000000 in
theorem implRisingChain_any (v : Value) (xs : List Int) (w : World) (hv : RI w v xs) (hs : xs.length ≤ 1099511627776) :
    Calls Try.prog 40 #[v] w fun e w' => ∃ v', e = .returned (.tuple #[v', .int .i64 (valChain xs).2]) ∧ OI 2 w' w.heap.size v' (valChain xs).1 ∧ Below w.heap.size w w' := by
  obtain ⟨a, cap, rfl⟩ := hv.shape
  have hl := hv.len
  have HV := Lib.hid hv
  have C1 := implValidOrder_any _ xs w hv hs
  clear hv
  cases h1 : okOrder xs with
  | false =>
    rw [h1] at C1
    have D1 := Lib.hid C1
    have HE := Lib.hid (show valChain xs = ([], 1) by simp [valChain, h1])
    clear C1 h1
    go_enter Try.func40, Try.ntmps40
    go_wp2_with (go_at_call 19; refine D1.out.mono ?_; rintro e w1 ⟨rfl, hb1⟩)
    go_ret2
    exact ⟨_, by rw [HE.out]; rfl, by rw [HE.out]; exact OI.nil _ _ _, hb1⟩
  | true =>
    rw [h1] at C1
    have D1 := Lib.hid C1
    have HK := Lib.hid h1
    have HE := Lib.hid (show valChain xs = ((chainBack xs xs.length).2.2, 0) by simp [valChain, h1])
    have h40 := okOrder_len h1
    clear C1 h1
    obtain ⟨i0, hi, iz0, iz1, iz2⟩ := info_parts info64
    have HI := Lib.hid hi
    clear hi
    go_enter Try.func40, Try.ntmps40
    go_wp2_with fail
    refine D1.out.mono ?_
    rintro e w1 ⟨rfl, hb1⟩
    go_wp2_with fail
    refine (chainEnds_any _ xs _ (HV.out.below hb1) (by omega)).mono ?_
    rintro e w2 ⟨rv, rfl, hr, hb2⟩
    have hb12 := bthen hb1 hb2
    have hbL : Below w2.heap.size w2 (w2.alloc (.cells #[] 2)) := (Below.refl _ _).alloc (Nat.le_refl _) _
    go_wp2_with fail
    refine (longestChain_any _ xs _ (HV.out.below (bthen hb12 hbL)) (by omega)).mono ?_
    rintro e w3 ⟨rfl, hb3⟩
    have hb23 := bthen hbL hb3
    have HR := Lib.hid hr.ri
    have HO0 := Lib.hid ((OI.lit0 2 w2 w2.heap.size (Nat.le_refl _)).below hb3)
    obtain ⟨ra, rcap, hrs⟩ := HR.out.shape
    rw [riseTo_length] at hrs
    subst hrs
    clear hr hb2 hb3 hb1
    go_wp2_with fail
    go_loopw [5, 6, 7, 8] (fun o wt bf i wr => ∃ t : Nat, t ≤ xs.length ∧ wt = .int .i64 (chainBack xs t).1 ∧ bf = .int .i64 (chainBack xs t).2.1 ∧ i = .int .i64 ((xs.length : Int) - 1 - t) ∧ Below w2.heap.size w2 wr ∧ OI 2 wr w2.heap.size o (chainBack xs t).2.2.reverse) (fun _ _ _ i _ => (intOf i + 1).toNat)
    case atStart => exact ⟨0, Nat.zero_le _, rfl, rfl, by simp, hb23, by simpa [chainBack] using HO0.out⟩
    case round =>
      obtain ⟨t, ht, rfl, rfl, rfl, hw, ho⟩ := hrel
      obtain ⟨cI1, cI2, cI3, cI4⟩ := chainBack_inv xs t
      by_cases hlt : t < xs.length
      · obtain ⟨p, hp⟩ : ∃ p, p = xs.length - 1 - t := ⟨_, rfl⟩
        have hpl : p < xs.length := by omega
        have hr1 := riseTo_getD xs xs.length p hpl
        have hYes := fun h1 h2 => chainBack_yes (xs := xs) (t := t) h1 h2
        have hNo := fun h => chainBack_no (xs := xs) (t := t) h
        rw [← hp] at hYes hNo
        have e1 : ((xs.length : Int) - 1 - t) = (p : Int) := by omega
        have e2 : ((xs.length : Int) - 1 - ((t + 1 : Nat) : Int)) = (p : Int) - 1 := by omega
        have HE2 := Lib.hid e2
        rw [e1]
        obtain ⟨b, off, rfl, hb, hc⟩ := HV.out.cells (by omega)
        obtain ⟨b2, off2, rfl, hbr, hcr⟩ := HR.out.cells (by rw [riseTo_length]; omega)
        have g1 := ((bthen hb12 hw).cell (p := ⟨b, off + p, none⟩) hb).trans (hc p hpl)
        have g2 := (hw.cell (p := ⟨b2, off2 + p, none⟩) hbr).trans (hcr p (by rw [riseTo_length]; omega))
        have hgx := HV.out.getD p
        generalize (riseTo xs xs.length).getD p 0 = r at g2 hr1 hYes hNo
        generalize xs.getD p 0 = x at g1 hYes hNo hgx
        generalize hcb : chainBack xs t = cb at *
        obtain ⟨wt, bf, ls⟩ := cb
        simp only at cI1 cI2 cI3 cI4 hYes hNo ho
        have HYes := Lib.hid hYes
        have HNo := Lib.hid hNo
        have HO := Lib.hid ho
        have hp1 : (p : Int) < xs.length := by omega
        have hp0 : (0 : Int) ≤ p := by omega
        have hgx' := Lib.hid hgx
        have hbb : b < w2.heap.size := Nat.lt_of_lt_of_le hb hb12.size
        have hwz := hw.size
        clear hYes hNo hc hcr e1 e2 hcb hp hgx ho cI1
        have hlo : ls.reverse.length ≤ 40 := by rw [List.length_reverse]; omega
        by_cases hrw : r = wt
        · have hq1 : (r == wt) = true := by simp [hrw]
          have hq0 : decide ((0 : Int) < wt) = true := by rw [decide_eq_true_iff]; omega
          by_cases hxb : x < bf
          · have HY := Lib.hid (HYes.out hrw hxb)
            clear hrw
            go_wp2_with fail
            go_region_held3 (fun w' => w'.cell? ⟨b, off + p, none⟩ = some (.int .i64 x))
              (first
                | go_keep
                | (rw [cell_older hown0 hgrow (by simp; omega) (by omega)]; assumption))
              ((have hown0 := HO.out.below (below_new wr (.cells #[.int .i64 x] 2)); refine step_app1 rfl _ _ 22 rfl 2 i0 Try.underlying22 HI.out iz0 iz1 iz2 w2.heap.size _ ls.reverse rfl hown0 ⟨wr.heap.size, 0, none⟩ x rfl (cell_new _ _ _) hgx'.out (by omega) (by simp; omega) ?_; intro v2 w4 hown1 hgrow))
            have hb4 := hown0.step (bthen hw (below_new wr _)) hgrow
            have H1 := Lib.hid hown1
            clear hown1 hown0 hgrow
            go_wp2_with fail
            go_roundw
            case rel => exact ⟨t + 1, by omega, by rw [HY.out], by rw [HY.out], by rw [HE2.out], hb4, by rw [HY.out, List.reverse_cons]; exact H1.out⟩
            case measure => simp [intOf]; try omega
          · have hd : decide (x < bf) = false := decide_eq_false hxb
            have HN := Lib.hid (HNo.out (fun h => hxb h.2))
            clear hrw
            go_wp2
            go_roundw
            case rel => exact ⟨t + 1, by omega, by rw [HN.out], by rw [HN.out], by rw [HE2.out], hw, by rw [HN.out]; exact HO.out⟩
            case measure => simp [intOf]; try omega
        · have hq1 : (r == wt) = false := by simp [hrw]
          have HN := Lib.hid (HNo.out (fun h => hrw h.1))
          clear hrw
          by_cases hm : 0 < wt
          · have hq0 : decide ((0 : Int) < wt) = true := decide_eq_true hm
            go_wp2
            go_roundw
            case rel => exact ⟨t + 1, by omega, by rw [HN.out], by rw [HN.out], by rw [HE2.out], hw, by rw [HN.out]; exact HO.out⟩
            case measure => simp [intOf]; try omega
          · have hq0 : decide ((0 : Int) < wt) = false := decide_eq_false hm
            go_wp2
            go_roundw
            case rel => exact ⟨t + 1, by omega, by rw [HN.out], by rw [HN.out], by rw [HE2.out], hw, by rw [HN.out]; exact HO.out⟩
            case measure => simp [intOf]; try omega
      · have hd : decide ((0 : Int) ≤ (xs.length : Int) - 1 - t) = false := by rw [decide_eq_false_iff_not]; omega
        have htn : t = xs.length := by omega
        subst htn
        have HO := Lib.hid ho
        clear ho
        go_wp2_with fail
        refine (reverse_any _ _ w2.heap.size _ HO.out (by rw [List.length_reverse]; omega)).mono ?_
        rintro e w5 ⟨rfl, ho5, hg5⟩
        have hb5 := HO.out.step hw hg5
        have H5 := Lib.hid ho5
        clear ho5 hg5
        go_wp2_with fail
        go_ret2
        exact ⟨_, by rw [HE.out]; rfl, by rw [HE.out]; have := H5.out; rw [List.reverse_reverse] at this; exact this.mono hb12.size, bthen hb12 hb5⟩

end Go.Proofs.Yteohfokchimfeaa
