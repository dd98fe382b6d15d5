/-
  PopOrder of the program.
-/
import Derived.Test.YteohfokchimfeaaPiles
import Derived.Test.YteohfokchimfeaaPopSpec
import Derived.Deep.DeepCutAuto
import Derived.Deep.RegionHeld3
import Derived.Deep.RegionLaw
namespace Go.Proofs.Yteohfokchimfeaa
open Go.RowKit

theorem infoRow : (Try.prog.info? 22).map (fun i => (i.zero, i.size, i.bytes)) = some (some (.slice none 0 0), 1, 24) := by kernel_rfl

theorem below_alloc1 (w : World) (o : Obj) : Below w.heap.size w (w.alloc o) := (Below.refl _ _).alloc (Nat.le_refl _) o
theorem best_skip {f : Nat → List Int} {k : Nat} (h : (f k).length = 0) : bestTo f (k + 1) = bestTo f k := by simp only [bestTo]; rw [if_pos h]
theorem best_first {f : Nat → List Int} {k : Nat} (h : (f k).length ≠ 0) (h2 : bestTo f k < 0) : bestTo f (k + 1) = k := by simp only [bestTo]; rw [if_neg h, if_pos h2]
theorem best_less {f : Nat → List Int} {k b : Nat} (h : (f k).length ≠ 0) (h2 : bestTo f k = b) (h3 : lastI (f k) < lastI (f b)) : bestTo f (k + 1) = k := by
  simp only [bestTo]; rw [if_neg h, h2, if_neg (by omega), Int.toNat_natCast, if_pos h3]
theorem best_more {f : Nat → List Int} {k b : Nat} (h : (f k).length ≠ 0) (h2 : bestTo f k = b) (h3 : ¬ lastI (f k) < lastI (f b)) : bestTo f (k + 1) = b := by
  simp only [bestTo]; rw [if_neg h, h2, if_neg (by omega), Int.toNat_natCast, if_neg h3]

set_option maxRecDepth 100000 in
set_option maxHeartbeats 8000000 in
theorem implPopOrder_any (v : Value) (xs : List Int) (u : Value) (ss : List Int) (w : World) (hv : RI w v xs) (hu : RI w u ss) (hs : xs.length ≤ 1048576) :
    Calls Try.prog 42 #[v, u] w fun e w' => ∃ v', e = .returned (.tuple #[v', .int .i64 (valPop xs ss).2]) ∧ OI 2 w' w.heap.size v' (valPop xs ss).1 ∧ Below w.heap.size w w' := by
  have HV := Lib.hid hv
  have HU := Lib.hid hu
  by_cases hc : codeSt xs ss = 0
  · obtain ⟨hok, hlen, hss⟩ := codeSt_zero hc
    have l40 := okOrder_len hok
    have HE : Hid (valPop xs ss = ((popTo xs ss xs.length).2, 0)) := if_pos hc
    have C1 := stacksCode_any v xs u ss w HV.out HU.out hs
    rw [hc] at C1
    have D1 := Lib.hid C1
    have HL := Lib.hid hlen
    have HST := Lib.hid (pop_step hok hlen hss)
    have HSS := Lib.hid (fun i (hi : i < xs.length) => show ∃ k : Nat, ss.getD i 0 = (k : Int) ∧ k < 40 from by
      have hm : ss.getD i 0 ∈ ss := by
        have : i < ss.length := by omega
        simp only [List.getD, List.getElem?_eq_getElem this, Option.getD_some]; exact List.getElem_mem this
      have := hss _ hm
      exact ⟨(ss.getD i 0).toNat, by omega, by omega⟩)
    obtain ⟨a, cap, rfl⟩ := hv.shape
    obtain ⟨a2, cap2, rfl⟩ := hu.shape
    clear C1 hc hok hlen hss hv hu
    obtain ⟨i0, hi, hz0, hz1, hz2⟩ := info_parts info64
    have HI := Lib.hid hi
    obtain ⟨j0, hj, jz0, jz1, jz2⟩ := info_parts infoRow
    have HJ := Lib.hid hj
    clear hi hj
    have HZ := Lib.hid (show pileTo xs ss (List.replicate xs.length 0) 0 = fun _ => [] from rfl)
    have HP0 := Lib.hid (show pileTo xs ss (List.replicate xs.length 0) xs.length = pileF xs ss (popTo xs ss 0).1 from rfl)
    have HPT := Lib.hid (fun (i k : Nat) (h : ss.getD i 0 = (k : Int)) => pileTo_step (xs := xs) h xs.length)
    generalize hzr : List.replicate xs.length (0 : Int) = zr at HZ HP0 HPT
    clear hzr
    go_enter Try.func42, Try.ntmps42
    go_wp2_with fail
    refine D1.out.mono ?_
    rintro e w1 ⟨rfl, hb1⟩
    go_wp2_with (at_make; refine wpList_make_full _ rfl _ _ 52 rfl w.heap.size 22 j0 (.slice none 0 0) 1 Try.underlying52 HJ.out jz0 jz1 .i64 .i64 _ _ 40 rfl rfl rfl rfl (by rw [jz2]; omega) (by unfold maxLen; omega) hb1.size ?_; intro w2 hown hgr)
    have hb2 := bgrown hb1 hgr (by simp)
    have hp2 := Piles.start (e := 2) hown hb2.size
    have HB2 := Lib.hid (show Below w.heap.size w (w2.alloc (.cells #[] 2)) from bthen hb2 ((Below.refl _ _).alloc (Nat.le_refl _) _))
    have HP2 := Lib.hid hp2
    obtain ⟨G, hG⟩ : ∃ G, G = w1.heap.size := ⟨_, rfl⟩
    rw [← hG] at HP2 ⊢
    generalize w2.alloc (.cells #[] 2) = wa at HB2 HP2 ⊢
    generalize w2.heap.size = H2 at HP2 ⊢
    clear hown hgr hb1 hb2 hp2 hG
    go_loopw [25] (fun i wr => ∃ (j : Nat) (rows : Nat → Value), j ≤ xs.length ∧ i = .int .i64 j ∧ Hid (Piles 2 22 wr w.heap.size G 40 40 rows (pileTo xs ss zr j) (.slice (some ⟨H2, 0, none⟩) 0 0) []) ∧ Below w.heap.size w wr) (fun i _ => xs.length - (intOf i).toNat)
    case atStart => exact ⟨0, _, Nat.zero_le _, rfl, by rw [HZ.out]; exact HP2, HB2.out⟩
    case round =>
      obtain ⟨i, rows, hi, rfl, HP, hb⟩ := hrel
      obtain ⟨wo, rfl⟩ : ∃ wo : World, wo = wr := ⟨_, rfl⟩
      by_cases hlt : i < xs.length
      · obtain ⟨k, hk, hk40⟩ := HSS.out i hlt
        have HPN := Lib.hid (HPT.out i k hk)
        obtain ⟨b, off, rfl, hbl, hcx⟩ := HV.out.cells (by omega)
        obtain ⟨b2, off2, rfl, hbl2, hcs⟩ := HU.out.cells (by have := HL.out; omega)
        have g1 := (hb.cell (p := ⟨b, off + i, none⟩) hbl).trans (hcx i hlt)
        have g2 := (hb.cell (p := ⟨b2, off2 + i, none⟩) hbl2).trans (hcs i (by have := HL.out; omega))
        have hc2 := hcs i (by have := HL.out; omega)
        rw [hk] at g2 hc2
        have HC2 := Lib.hid hc2
        clear hc2
        obtain ⟨g3, f3⟩ := HP.out.cell k hk40
        have hor := HP.out.row k hk40
        obtain ⟨ar, cr, hrs⟩ := hor.ri.shape
        have HGX := Lib.hid (HV.out.getD i)
        have hii : (i : Int) < xs.length := by omega
        have his : (i : Int) < ss.length := by have := HL.out; omega
        have hk40' : (k : Int) < 40 := by omega
        have hk0 : (0 : Int) ≤ k := by omega
        have hpl := pileTo_len xs ss zr i k
        have hgx := HGX.out
        clear hcx hcs hk
        generalize xs.getD i 0 = x at g1 HGX HPN hgx
        generalize hf : pileTo xs ss zr i = f at HP hor hrs HPN hpl
        have HF := Lib.hid hf
        have HR := Lib.hid hor
        have HRS := Lib.hid hrs
        have HBo := Lib.hid hb
        have HPL := Lib.hid hpl
        clear hf hor hb hpl
        rw [hrs] at g3
        clear hrs
        go_upto_region 8 with fail
        have HBN := Lib.hid (below_new wo (.cells #[.int .i64 x] 2))
        have HRN := Lib.hid (HR.out.below HBN.out)
        rw [HRS.out] at HRN
        have HPA := Lib.hid (HP.out.below HBN.out)
        have hbs := HBo.out.size
        have g2a := ((below_alloc1 wo (.cells #[.int .i64 x] 2)).cell (p := ⟨b2, off2 + i, none⟩) (Nat.lt_of_lt_of_le hbl2 hbs)).trans g2
        have g3a := ((below_alloc1 wo (.cells #[.int .i64 x] 2)).cell (p := ⟨G, k, none⟩) HP.out.lt.2).trans g3
        go_region_law (first
          | (refine step_app1n rfl _ _ 22 rfl 2 i0 Try.underlying22 HI.out hz0 hz1 hz2 w.heap.size (.slice ar (f k).length cr) (f k) rfl HRN.out ⟨wo.heap.size, 0, none⟩ x rfl (cell_new _ _ _) HGX.out (by have := HPL.out; omega) (by simp; omega) ?_
             intro v4 w4 h4 hg4 hn4
             obtain ⟨a4, cap4, hs4⟩ := h4.ri.shape
             rw [show (f k ++ [x]).length = (f k).length + 1 by simp] at hs4
             subst hs4
             rw [← HRS.out] at hg4 hn4
             obtain ⟨c4, f4⟩ := HPA.out.still k hk40 hg4 k hk40
             have HPP := Lib.hid (HPA.out.put k hk40 _ _ hg4 h4 hn4)
             have hbw : Below w.heap.size w w4 := bgrown (bthen HBo.out HBN.out) hg4 (fun q hq => (HR.out.lt q hq).1)
             have HBW := Lib.hid (bgrown hbw HPP.out.2 (fun q hq => by have := HPA.out.lt.1; simp at hq; omega))
             have g24 := (hbw.cell (p := ⟨b2, off2 + i, none⟩) hbl2).trans HC2.out
             clear h4 hg4 hn4 hbw))
        all_goals
          (go_wp2_with fail
           go_roundw
           case rel => exact ⟨i + 1, _, by omega, by go_num, Lib.hid (by rw [HPN.out]; exact HPP.out.1), HBW.out⟩
           case measure => simp [intOf]; omega)
      · obtain rfl : i = xs.length := by omega
        have HP1 := HP.out
        rw [HP0.out] at HP1
        have HQ := Lib.hid HP1
        clear HP1
        go_wp2_with fail
        go_loopw [8, 49] (fun o jv wq => ∃ (j : Nat) (rows' : Nat → Value) (vo : Value), j ≤ xs.length ∧ jv = .int .i64 j ∧ vo = o ∧ Hid (Piles 2 22 wq w.heap.size G 40 40 rows' (pileF xs ss (popTo xs ss j).1) vo (popTo xs ss j).2) ∧ Below w.heap.size w wq) (fun _ jv _ => xs.length - (intOf jv).toNat)
        case atStart => exact ⟨0, rows, _, Nat.zero_le _, rfl, rfl, HQ, hb⟩
        case round =>
          rename World => wq
          obtain ⟨j, rows2, vo, hj, rfl, rfl, HP2, hb2⟩ := hrel
          by_cases hlt : j < xs.length
          · obtain ⟨bn, q, _, e2, e3, e4, e5, e6, e7⟩ := HST.out j hlt
            obtain ⟨_, hp2⟩ := popTo_len xs ss j
            generalize hpt : popTo xs ss j = st at HP2 e2 e5 e6 e7 hp2
            obtain ⟨gone, out⟩ := st
            simp only at HP2 e2 e5 e6 e7 hp2
            have hfl := fun k => pileTo_len xs ss gone xs.length k
            have e8 : pileF xs ss (popTo xs ss (j + 1)).1 = fun k => if k = q then (pileF xs ss gone q).dropLast else pileF xs ss gone k := funext e7
            have hfl2 : ∀ k, (pileF xs ss gone k).length ≤ xs.length := hfl
            generalize pileF xs ss gone = f at HP2 e2 e6 e8 hfl2
            have E2 := Lib.hid e2
            have E5 := Lib.hid e5
            have E6 := Lib.hid e6
            have E8 := Lib.hid e8
            have HF := Lib.hid hfl2
            have HPL := Lib.hid hp2
            have HB2 := Lib.hid hb2
            obtain ⟨wz, hwz⟩ : ∃ wz : World, wz = wq := ⟨_, rfl⟩
            subst hwz
            clear e2 e5 e6 e7 e8 hpt hfl hfl2 hp2 hb2
            go_wp2_with fail
            go_loopw [11, 53] (fun b kv wr => ∃ k : Nat, k ≤ 40 ∧ kv = .int .i64 k ∧ b = .int .i64 (bestTo f k) ∧ Below wz.heap.size wz wr) (fun _ kv _ => 40 - (intOf kv).toNat)
            case atStart => exact ⟨0, Nat.zero_le _, rfl, rfl, Below.refl _ _⟩
            case round =>
              rename World => wr
              obtain ⟨k, hk, rfl, rfl, hbq⟩ := hrel
              by_cases hkt : k < 40
              · have HPr := Lib.hid (HP2.out.below hbq)
                obtain ⟨g1, _⟩ := HPr.out.cell k hkt
                have hork := HPr.out.row k hkt
                obtain ⟨ak, ck, hrk⟩ := hork.ri.shape
                have HRK := Lib.hid hork
                have hlk := HF.out k
                have S1 := fun h => best_skip (f := f) (k := k) h
                have S2 := fun h h2 => best_first (f := f) (k := k) h h2
                have S3 := fun b h h2 h3 => best_less (f := f) (k := k) (b := b) h h2 h3
                have S4 := fun b h h2 h3 => best_more (f := f) (k := k) (b := b) h h2 h3
                have hsp := bestTo_spec f k
                have hki : (k : Int) < 40 := by omega
                rw [hrk] at g1 HRK
                generalize bestTo f k = sc at hsp S1 S2 S3 S4
                have T1 := Lib.hid S1
                have T2 := Lib.hid S2
                have T3 := Lib.hid S3
                have T4 := Lib.hid S4
                have HSP := Lib.hid hsp
                clear S1 S2 S3 S4 hsp hork hrk
                by_cases hz : (f k).length = 0
                · have HN := Lib.hid (T1.out hz)
                  rw [hz] at g1
                  clear hz
                  go_wp2_with fail
                  go_quiet (fail)
                  go_wp2_with fail
                  go_roundw
                  case rel => exact ⟨k + 1, by omega, by go_num, by rw [HN.out], below_drewN hbq _⟩
                  case measure => simp [intOf]; omega
                · obtain ⟨mk, hmk⟩ : ∃ m, (f k).length = m + 1 := ⟨(f k).length - 1, by omega⟩
                  have hd0 : decide ((0 : Int) < ((mk + 1 : Nat) : Int)) = true := decide_eq_true (by omega)
                  have hd1 : decide ((0 : Int) < (mk : Int) + 1) = true := decide_eq_true (by omega)
                  rw [hmk] at g1
                  rcases HSP.out with ⟨rfl, _⟩ | ⟨b, rfl, hbk, hbn, _⟩
                  · have HN := Lib.hid (T2.out hz (by decide))
                    have HMK := Lib.hid hmk
                    clear hz hmk hlk
                    go_wp2_with fail
                    go_quiet (fail)
                    go_wp2_with fail
                    go_roundw
                    case rel => exact ⟨k + 1, by omega, by go_num, by rw [HN.out], below_drewN hbq _⟩
                    case measure => simp [intOf]; omega
                  · have T3b := Lib.hid (T3.out b hz rfl)
                    have T4b := Lib.hid (T4.out b hz rfl)
                    have hzb : (f b).length ≠ 0 := fun e => hbn (List.length_eq_zero_iff.1 e)
                    obtain ⟨g2, _⟩ := HPr.out.cell b (by omega)
                    have horb := HPr.out.row b (by omega)
                    obtain ⟨ab, cb, hrb⟩ := horb.ri.shape
                    have HRB := Lib.hid horb
                    have hlb := HF.out b
                    rw [hrb] at g2 HRB
                    obtain ⟨bk, offk, rfl, _, hck⟩ := HRK.out.ri.cells (by omega)
                    obtain ⟨bb, offb, rfl, _, hcb⟩ := HRB.out.ri.cells (by omega)
                    have g3 := hck ((f k).length - 1) (by omega)
                    have g4 := hcb ((f b).length - 1) (by omega)
                    have L3 : lastI (f k) = (f k).getD ((f k).length - 1) 0 := rfl
                    have L4 : lastI (f b) = (f b).getD ((f b).length - 1) 0 := rfl
                    rw [← L3] at g3
                    rw [← L4] at g4
                    generalize lastI (f k) = x at g3 T3b T4b
                    generalize lastI (f b) = y at g4 T3b T4b
                    clear hck hcb horb hrb hbn L3 L4
                    obtain ⟨mb, hmb⟩ : ∃ m, (f b).length = m + 1 := ⟨(f b).length - 1, by omega⟩
                    rw [hmk] at g3
                    rw [hmb] at g2 g4
                    rw [Nat.add_sub_cancel] at g3 g4
                    have hwk : IntKind.i64.wrap (mk : Int) = mk := IntWalk.i64_in _ (by omega)
                    have hwb : IntKind.i64.wrap (mb : Int) = mb := IntWalk.i64_in _ (by omega)
                    have hwk2 : IntKind.i64.wrap (((mk + 1 : Nat) : Int) - 1) = mk := IntWalk.i64_in _ (by omega) |>.trans (by omega)
                    have hwb2 : IntKind.i64.wrap (((mb + 1 : Nat) : Int) - 1) = mb := IntWalk.i64_in _ (by omega) |>.trans (by omega)
                    have hb40 : (b : Int) < 40 := by omega
                    have hb0 : decide ((b : Int) < 0) = false := decide_eq_false (by omega)
                    have HMK := Lib.hid hmk
                    have HMB := Lib.hid hmb
                    clear hmk hmb hz hzb hlk hlb
                    by_cases hxy : x < y
                    · have e2 : decide (x < y) = true := by simpa using hxy
                      have HN := Lib.hid (T3b.out hxy)
                      clear hxy
                      go_wp2_with fail
                      go_quiet (fail)
                      go_wp2_with fail
                      go_roundw
                      case rel => exact ⟨k + 1, by omega, by go_num, by rw [HN.out], below_drewN hbq _⟩
                      case measure => simp [intOf]; omega
                    · have e2 : decide (x < y) = false := by simpa using hxy
                      have HN := Lib.hid (T4b.out (by omega))
                      clear hxy
                      go_wp2_with fail
                      go_quiet (fail)
                      go_wp2_with fail
                      go_roundw
                      case rel => exact ⟨k + 1, by omega, by go_num, by rw [HN.out], below_drewN hbq _⟩
                      case measure => simp [intOf]; omega
              · obtain rfl : k = 40 := by omega
                have HPr := Lib.hid (HP2.out.below hbq)
                have hbr : Below w.heap.size w wr := bthen HB2.out hbq
                have HBR := Lib.hid hbr
                have hbs := hbr.size
                obtain ⟨g1, f1⟩ := HPr.out.cell q e4
                have hork := HPr.out.row q e4
                obtain ⟨ys, hys⟩ : ∃ ys, ys = (f q).dropLast := ⟨_, rfl⟩
                have h6 := E6.out
                rw [← hys] at h6
                have HFQ := Lib.hid h6
                rw [E2.out]
                have hlq := HF.out q
                rw [h6] at hork hlq
                generalize hrq : rows2 q = rq at g1 hork
                have HRQ := Lib.hid hrq
                have HX := Lib.hid (HV.out.getD bn)
                have hyl : ys.length ≤ 40 := by rw [List.length_append] at hlq; simp at hlq; omega
                clear h6 hrq hbq hbr hlq
                obtain ⟨_, h0⟩ | ⟨gq, cq, rfl, hg1, hg2⟩ := hork.shape
                · simp at h0
                · rw [show (ys ++ [xs.getD bn 0]).length = ys.length + 1 by simp] at g1 hork HRQ
                  have g2 := (hork.cell ys.length (by simp)).1
                  rw [show (ys ++ [xs.getD bn 0]).getD ys.length 0 = xs.getD bn 0 by simp [List.getD]] at g2
                  have hpop := hork.pop
                  have hcq : ys.length + 1 ≤ cq := by
                    obtain ⟨a', c', h1, h2, h3, _⟩ := hork.ri.shp
                    simp at h1 h2
                    omega
                  generalize xs.getD bn 0 = x at g2 HX E5 HFQ
                  have HPOP := Lib.hid hpop
                  have HYS := Lib.hid hys
                  clear hpop hys hork
                  generalize hm : ys.length = m at *
                  have HM := Lib.hid hm
                  clear hm
                  have hwk : IntKind.i64.wrap (m : Int) = m := IntWalk.i64_in _ (by omega)
                  have hwk2 : IntKind.i64.wrap (((m + 1 : Nat) : Int) - 1) = m := IntWalk.i64_in _ (by omega) |>.trans (by omega)
                  have hq40 : (q : Int) < 40 := by omega
                  have hq0 : (0 : Int) ≤ q := by omega
                  go_wp2_with (
                    at_builtin
                    refine wpList_app1n rfl _ _ 22 rfl 2 _ i0 Try.underlying22 HI.out hz0 hz1 hz2 w.heap.size _ out rfl HPr.out.own _ _ (by simp) rfl HX.out ?_ hbs ?_
                    · rw [HPL.out]; omega
                    intro v9 w9 h1 h2 h3
                    have hb9 : Below w.heap.size w w9 := HPr.out.own.step HBR.out h2
                    have HP9 := Lib.hid (HPr.out.app v9 _ h2 h1 h3)
                    obtain ⟨k1, k2⟩ := HP9.out.cell q e4
                    rw [HRQ.out] at k1
                    have hpp := HP9.out.put (w' := w9) q e4 (.slice (some ⟨gq, 0, none⟩) m cq) ys (World.grownBy.refl _ _) (HPOP.out.other h2 (by have := HPr.out.far q e4; rw [HRQ.out] at this; exact this)) (fun z hz => .inl (by rw [HRQ.out]; exact hz))
                    have HPP := Lib.hid hpp.1
                    have HB9 := Lib.hid (bgrown hb9 hpp.2 (fun z hz => by have := HP9.out.lt.1; simp at hz; omega))
                    clear h1 h2 h3 hb9 hpp)
                  go_roundw
                  case rel => exact ⟨j + 1, _, v9, by omega, by go_num, rfl, Lib.hid (by rw [E8.out, E5.out, ← HYS.out]; exact HPP.out), HB9.out⟩
                  case measure => simp [intOf]; omega
          · obtain rfl : j = xs.length := by omega
            have HO := Lib.hid HP2.out.own
            clear HP2
            go_wp2_with fail
            go_ret2
            exact ⟨_, by rw [HE.out]; rfl, by rw [HE.out]; exact HO.out, hb2⟩
  · have HE : Hid (valPop xs ss = ([], codeSt xs ss)) := if_neg hc
    have C1 := Lib.hid (stacksCode_any v xs u ss w HV.out HU.out hs)
    generalize codeSt xs ss = c at *
    have hn : (c != 0) = true := by rw [bne_iff_ne]; exact hc
    clear hc hv hu
    go_enter Try.func42, Try.ntmps42
    go_wp2_with fail
    refine C1.out.mono ?_
    rintro e w1 ⟨rfl, hb1⟩
    go_wp2_with fail
    go_ret2
    exact ⟨_, by rw [HE.out]; rfl, by rw [HE.out]; exact OI.nil _ _ _, hb1⟩

end Go.Proofs.Yteohfokchimfeaa
