/-
  The reference's test of places, and its moves.
  The reference's test of halls and ways; NextMoves, of valid halls, ways and places.
  The small helpers of the laws: a2Long, a2At, a2Has, a2Rises.
  a2Locked of the laws: of moves that lead to a deadlock it tells true.
  The functions that nearly all laws of this claim go through: the copy of a list of int64, the comparison of two, their marks. Each by a contract.
-/
import Derived.Test.YthlpbeohlhhblaaGreatTopM
import Derived.Test.YthlpbeohlhhblaaGreatTopJ
import Derived.Test.YthlpbeohlhhblaaGreatTopH
import Derived.Test.YthlpbeohlhhblaaGreatProg
import Derived.Test.YthlpbeohlhhblaaGreatTopA
import Derived.Test.YthlpbeohlhhblaaGreatTopC
import Derived.Outline
namespace Go.Proofs.YthlpbeohlhhblaaGreat
open Go.RowKit

set_option maxRecDepth 100000 in
set_option maxHeartbeats 4000000 in
theorem l12Places_any (halls : List Int) (ways : List (List Int)) (ps : List Int) (hv wv pv : Value) (w : World) (hh : RI w hv halls) (hw : WaysI w wv ways) (hp : RI w pv ps) (ok : OkHW halls ways) (hl : ps.length = ways.length) (okp : OkP halls ways (ofL ps)) :
    Calls Tryz.prog 97 #[hv, wv, pv] w fun e w' => e = .returned (.bool true) ∧ Below w.heap.size w w' := by
  have hwI := hw
  have hhI := hh
  have hpI := hp
  obtain ⟨a, cap, rfl, _, _⟩ := hw.shape
  obtain ⟨a2, cap2, rfl⟩ := hp.shape
  obtain ⟨a3, cap3, rfl⟩ := hh.shape
  have hw4 := ok.w4
  have hh2 := ok.h2
  have C := Lib.hid (fun W (h : Below w.heap.size w W) => l12Room_any halls ways ps _ _ _ W (hhI.below h) (hwI.below h) (hpI.below h) ok hl)
  rw [hl] at C ⊢
  have HW := Lib.hid hw
  have HP := Lib.hid (show RI w (.slice a2 ways.length cap2) ps by rw [← hl]; exact hp)
  have HPL := Lib.hid hl
  have HOK := Lib.hid ok
  have HKP := Lib.hid okp
  clear hw hp hh ok hl okp hwI hhI hpI
  go_enter Tryz.func97, Tryz.ntmps97
  go_wp2_with fail
  go_loopw [7] (fun i wr => ∃ (k : Nat), k ≤ ways.length ∧ i = .int .i64 k ∧ Below w.heap.size w wr) (fun i _ => ways.length - (intOf i).toNat)
  case atStart => exact ⟨0, Nat.zero_le _, rfl, Below.refl _ _⟩
  case round =>
    obtain ⟨k, hk, rfl, hb⟩ := hrel
    rename World => wr
    by_cases hlt : k < ways.length
    · obtain ⟨b, off, rfl, hbl, hcells⟩ := HW.out.cells (by omega)
      obtain ⟨v, hv1, c0⟩ := hcells k hlt
      obtain ⟨bp, op, rfl, hbp, hcp⟩ := HP.out.cells (by rw [HPL.out]; omega)
      have c1 := hcp k (by rw [HPL.out]; exact hlt)
      have g0 := (hb.cell (p := ⟨b, off + k, none⟩) hbl).trans c0
      have g1 := (hb.cell (p := ⟨bp, op + k, none⟩) hbp).trans c1
      obtain ⟨bv, cv, rfl⟩ := hv1.shape
      have hps : ps.getD k 0 = ofL ps k := rfl
      rw [hps] at g1
      have hpos := HKP.out.pos k hlt
      have hwl := (HOK.out.wl k hlt).2.1
      generalize ofL ps k = x at g1 hpos
      have HB := Lib.hid hb
      clear hcells hcp c0 c1 hv1 hb hps
      generalize (ways.getD k []).length = ln at g0 hpos hwl
      have HX := Lib.hid (show inB 0 ((ln : Int) + 1) x = true by unfold inB; simp; omega)
      have hw1 : IntKind.i64.wrap ((ln : Int) + 1) = (ln : Int) + 1 := IntWalk.i64_in _ (by omega)
      clear hpos
      go_wp2_with fail
      go_quiet ((go_at_call 107; exact quiet_eq (l00In_any _ _ _ _)))
      rw [HX.out]
      go_wp2_with fail
      go_roundw
      case rel => exact ⟨k + 1, by omega, by go_num, below_drewN HB.out _⟩
      case measure => simp [intOf]; omega
    · have CW := Lib.hid (C.out wr hb)
      have HB := Lib.hid hb
      clear hb C
      go_wp2_with fail
      refine CW.out.mono ?_
      rintro e w2 ⟨v2, rfl, ho2, hb2⟩
      obtain ⟨ar, cr, hrs⟩ := ho2.ri.shape
      subst hrs
      rw [roomL_length]
      have HO2 := Lib.hid (show RI w2 (.slice ar halls.length cr) _ by have := ho2.ri; rw [roomL_length] at this; exact this)
      have HB2 := Lib.hid (bthen HB.out hb2)
      clear ho2 hb2
      go_wp2_with fail
      go_loop [9] (fun i => ∃ (k : Nat), k ≤ halls.length ∧ i = .int .i64 k) (fun i => halls.length - (intOf i).toNat)
      case atStart => exact ⟨0, Nat.zero_le _, rfl⟩
      case round =>
        obtain ⟨h, hh, rfl⟩ := hrel
        by_cases hhl : h < halls.length
        · obtain ⟨br, orr, rfl, hbr, hcr⟩ := HO2.out.cells (by rw [roomL_length]; omega)
          have g1 := hcr h (by rw [roomL_length]; exact hhl)
          rw [roomL_getD ways (ofL ps) ways.length hhl] at g1
          have hrm := HKP.out.room h hhl
          have hq0 : 0 ≤ halls.getD h 0 - cntN ways (ofL ps) (h : Int) ways.length := by omega
          generalize halls.getD h 0 - cntN ways (ofL ps) (h : Int) ways.length = q at g1 hq0
          have hd : decide (q < 0) = false := decide_eq_false (by omega)
          clear hcr hrm
          go_wp2_with fail
          go_round
          case rel => exact ⟨h + 1, by omega, by go_num⟩
          case measure => simp [intOf]; omega
        · go_wp2_with fail
          go_ret
          exact ⟨rfl, HB2.out⟩

theorem movesP_succ (halls : List Int) (ways : List (List Int)) (p : Nat → Int) (k : Nat) : movesP halls ways p (k + 1) = movesP halls ways p k ++ if canGo halls ways p k then [(k : Int)] else [] := rfl

set_option maxRecDepth 100000 in
set_option maxHeartbeats 8000000 in
theorem l12Moves_any (halls : List Int) (ways : List (List Int)) (ps : List Int) (hv wv pv : Value) (w : World) (hh : RI w hv halls) (hw : WaysI w wv ways) (hp : RI w pv ps) (ok : OkHW halls ways) (hl : ps.length = ways.length) (okp : OkP halls ways (ofL ps)) :
    Calls Tryz.prog 76 #[hv, wv, pv, .int .i64 4] w fun e w' => ∃ v', e = .returned v' ∧ OI 2 w' w.heap.size v' (movesP halls ways (ofL ps) ways.length) ∧ Below w.heap.size w w' := by
  have hwI := hw
  have hhI := hh
  have hpI := hp
  obtain ⟨a, cap, rfl, _, _⟩ := hw.shape
  obtain ⟨a2, cap2, rfl⟩ := hp.shape
  obtain ⟨a3, cap3, rfl⟩ := hh.shape
  have hw4 := ok.w4
  have hh2 := ok.h2
  have C := Lib.hid (l12Room_any halls ways ps _ _ _ w hhI hwI hpI ok hl)
  have CI := Lib.hid (fun W (h : Below w.heap.size w W) => l12Inside_any halls ways ps _ _ W (hwI.below h) (hpI.below h) ok hl)
  rw [hl] at C CI ⊢
  have HW := Lib.hid hw
  have HP := Lib.hid (show RI w (.slice a2 ways.length cap2) ps by rw [← hl]; exact hp)
  have HPL := Lib.hid hl
  have HOK := Lib.hid ok
  have HKP := Lib.hid okp
  obtain ⟨i0, hi, iz0, iz1, iz2⟩ := info_parts infoInt64
  have HI := Lib.hid hi
  clear hw hp hh ok hl okp hwI hhI hpI hi
  go_enter Tryz.func76, Tryz.ntmps76
  go_wp2_with fail
  refine C.out.mono ?_
  rintro e w1 ⟨v1, rfl, ho1, hb1⟩
  obtain ⟨ar, cr, hrs⟩ := ho1.ri.shape
  subst hrs
  rw [roomL_length]
  have hA := (Below.refl w1.heap.size w1).alloc (Nat.le_refl _) (.cells #[] 2)
  have HR1 := Lib.hid (show RI _ (.slice ar halls.length cr) _ by have := ho1.ri.below hA; rw [roomL_length] at this; exact this)
  have HRL := Lib.hid (show ∀ q, (Value.slice ar halls.length cr).ownBlock = some q → q < w1.heap.size from fun q hq => by have := ho1.lt; rw [roomL_length] at this; exact (this q hq).2)
  have HO1 := Lib.hid ((OI.lit0 2 w1 w1.heap.size (Nat.le_refl _)).mono hb1.size)
  have HB1 := Lib.hid (bthen hb1 hA)
  have HB0 := Lib.hid hb1
  clear ho1 hb1 hA C
  go_wp2_with fail
  go_loopw [10, 11] (fun u i wr => ∃ (k : Nat) (o : Value), k ≤ ways.length ∧ u = o ∧ i = .int .i64 k ∧ Below w.heap.size w wr ∧ Hid (OI 2 wr w.heap.size o (movesP halls ways (ofL ps) k)) ∧ Hid (RI wr (.slice ar halls.length cr) (roomL halls ways (ofL ps) ways.length)) ∧ Hid (w1.heap.size ≤ wr.heap.size ∧ ∀ j, o.ownBlock = some j → (Value.slice ar halls.length cr).ownBlock ≠ some j)) (fun _ i _ => ways.length - (intOf i).toNat)
  case atStart => exact ⟨0, _, Nat.zero_le _, rfl, rfl, HB1.out, HO1, HR1, Lib.hid ⟨by simp, fun j hj e => by
    have h1 := HRL.out j e
    have : w1.heap.size = j := Option.some.inj hj
    omega⟩⟩
  case round =>
    obtain ⟨k, o, hk, rfl, rfl, hb, HO, HRV, HAP⟩ := hrel
    rename World => wr
    by_cases hlt : k < ways.length
    · obtain ⟨b, off, rfl, hbl, hcells⟩ := HW.out.cells (by omega)
      obtain ⟨v, hv1, c0⟩ := hcells k hlt
      obtain ⟨bp, op, rfl, hbp, hcp⟩ := HP.out.cells (by rw [HPL.out]; omega)
      have c1 := hcp k (by rw [HPL.out]; exact hlt)
      have g0 := (hb.cell (p := ⟨b, off + k, none⟩) hbl).trans c0
      have g1 := (hb.cell (p := ⟨bp, op + k, none⟩) hbp).trans c1
      obtain ⟨bv, cv, rfl⟩ := hv1.shape
      have HY := Lib.hid (hv1.below hb)
      have hps : ps.getD k 0 = ofL ps k := rfl
      rw [hps] at g1
      have hpos := HKP.out.pos k hlt
      have hwl := (HOK.out.wl k hlt).2.1
      have HM := Lib.hid (movesP_succ halls ways (ofL ps) k)
      have HSG := Lib.hid (show (if ((ways.getD k []).length : Int) < ofL ps k then false else if ofL ps k = (ways.getD k []).length then true else if ofL ps k = 0 ∧ 4 ≤ inside ways (ofL ps) ways.length then false else
        decide (0 < halls.getD ((ways.getD k []).getD (ofL ps k).toNat 0).toNat 0 - cntN ways (ofL ps) ((ways.getD k []).getD (ofL ps k).toNat 0) ways.length)) = canGo halls ways (ofL ps) k from specGo_eq HOK.out HKP.out hlt)
      have HIN := Lib.hid (fun e : ofL ps k = 0 => show inside ways (ofL ps) ways.length < ways.length from inside_less (c := k) (by unfold hallAt; rw [if_pos (by omega)]; omega) _ hlt)
      have HWY := Lib.hid (fun j hj => (HOK.out.wl k hlt).2.2.1 j hj)
      have HRD := Lib.hid (fun h (hh : h < halls.length) => roomL_getD ways (ofL ps) ways.length hh)
      have CI2 := Lib.hid (CI.out wr hb)
      have hml := movesP_length halls ways (ofL ps) k
      have HB := Lib.hid hb
      have hszr := hb.size
      have HGK := Lib.hid (show Good (k : Int) by unfold Good; omega)
      clear hcells hcp c0 c1 hv1 hb hps
      generalize canGo halls ways (ofL ps) k = can at HM HSG
      generalize inside ways (ofL ps) ways.length = all at HSG HIN CI2
      generalize ofL ps k = x at g1 hpos HSG HIN
      generalize ways.getD k [] = way at g0 HY hpos hwl HSG HWY
      by_cases hd : (way.length : Int) < x
      · have HN := Lib.hid (show can = false by rw [← HSG.out, if_pos hd])
        have d1 : decide ((way.length : Int) < x) = true := decide_eq_true hd
        have d2 : decide (x > (way.length : Int)) = true := decide_eq_true hd
        go_wp2_with fail
        go_roundw
        case rel => exact ⟨k + 1, _, by omega, rfl, by go_num, bthen HB.out (Below.refl _ _), Lib.hid (by rw [HM.out, HN.out]; simpa using HO.out.below (Below.refl _ _)), Lib.hid (HRV.out.below (Below.refl _ _)), Lib.hid ⟨Nat.le_trans HAP.out.1 (show Below wr.heap.size wr _ from Below.refl _ _).size, HAP.out.2⟩⟩
        case measure => simp [intOf]; omega
      · by_cases he : x = (way.length : Int)
        · have HN := Lib.hid (show can = true by rw [← HSG.out, if_neg hd, if_pos he])
          have d1 : decide ((way.length : Int) < x) = false := decide_eq_false hd
          have d3 : (x == (way.length : Int)) = true := by rw [beq_iff_eq]; exact he
          clear he
          go_wp2_with (
            at_builtin
            refine wpList_app1n rfl _ _ 24 rfl 2 _ i0 Tryz.underlying24 HI.out iz0 iz1 iz2 w.heap.size _ _ rfl (HO.out.below (Below.refl _ _)) _ _ (by simp) rfl HGK.out (by omega) (Nat.le_trans hszr (show Below wr.heap.size wr _ from Below.refl _ _).size) ?_
            intro v9 w9 h1 h2 h3
            have H9 := Lib.hid h1
            have HB9 := Lib.hid (bgrown (bthen HB.out (Below.refl _ _)) h2 (fun q hq => (HO.out.lt q hq).1))
            have HR9 := Lib.hid ((HRV.out.below (Below.refl _ _)).grown h2 (fun q hq => HAP.out.2 q hq))
            have HA9 := Lib.hid (show w1.heap.size ≤ w9.heap.size ∧ ∀ j, v9.ownBlock = some j → (Value.slice _ halls.length cr).ownBlock ≠ some j from ⟨Nat.le_trans HAP.out.1 (Nat.le_trans (show Below wr.heap.size wr _ from Below.refl _ _).size h2.size), fun j hj e => by
              rcases h3 j hj with h4 | h4
              · exact HAP.out.2 j h4 e
              · exact Nat.lt_irrefl _ (Nat.lt_of_lt_of_le (HRL.out j e) (Nat.le_trans (Nat.le_trans HAP.out.1 (show Below wr.heap.size wr _ from Below.refl _ _).size) h4))⟩)
            clear h1 h2 h3)
          go_roundw
          case rel => exact ⟨k + 1, v9, by omega, rfl, by go_num, HB9.out, Lib.hid (by rw [HM.out, HN.out]; exact H9.out), HR9, HA9⟩
          case measure => simp [intOf]; omega
        · obtain ⟨j, rfl⟩ : ∃ j : Nat, x = j := ⟨x.toNat, by omega⟩
          have hjl : j < way.length := by omega
          have d1 : decide ((way.length : Int) < (j : Int)) = false := decide_eq_false hd
          have d3 : ((j : Int) == (way.length : Int)) = false := by rw [beq_eq_false_iff_ne]; exact he
          have hH := HWY.out j hjl
          have HSG2 := Lib.hid (show decide (0 < halls.getD (way.getD j 0).toNat 0 - cntN ways (ofL ps) (way.getD j 0) ways.length) = can by
            rw [← HSG.out, if_neg hd, if_neg he, if_neg (fun h => by have := HIN.out h.1; omega), Int.toNat_natCast])
          obtain ⟨bw, ow, rfl, hbw, hcw⟩ := HY.out.cells (by omega)
          have g2 := hcw j hjl
          obtain ⟨h, hh⟩ : ∃ h : Nat, way.getD j 0 = (h : Int) := ⟨(way.getD j 0).toNat, by omega⟩
          rw [hh] at HSG2 g2 hH
          have hhl : h < halls.length := by omega
          obtain ⟨br, orr, rfl, hbr, hcr⟩ := HRV.out.cells (by rw [roomL_length]; omega)
          have g3 := hcr h (by rw [roomL_length]; exact hhl)
          rw [HRD.out h hhl] at g3
          rw [Int.toNat_natCast] at HSG2
          generalize halls.getD h 0 - cntN ways (ofL ps) (h : Int) ways.length = q at HSG2 g3
          have hjI : (j : Int) < (way.length : Int) := by omega
          have hhI : (h : Int) < (halls.length : Int) := by omega
          have hHIN := HIN.out
          clear hcw hcr hh he HSG HIN hpos
          have hcs : ((j : Int) == 0) = false ∨ (((j : Int) == 0) = true ∧ decide ((4 : Int) ≤ all) = false ∧ decide (all ≥ 4) = false) := by
            by_cases e : (j : Int) = 0
            · have := hHIN e
              exact .inr ⟨by rw [e]; rfl, decide_eq_false (by omega), decide_eq_false (by omega)⟩
            · exact .inl (by rw [beq_eq_false_iff_ne]; exact e)
          clear hHIN
          rcases hcs with hq | ⟨hq, e1, e2⟩
          · by_cases hz : 0 < q
            · have d5 : decide (0 < q) = true := decide_eq_true hz
              have d6 : decide (q > 0) = true := decide_eq_true hz
              have HN := Lib.hid (show can = true by rw [← HSG2.out]; exact d5)
              go_wp2_with fail
              go_quiet (fail)
              go_wp2_with (
                at_builtin
                refine wpList_app1n rfl _ _ 24 rfl 2 _ i0 Tryz.underlying24 HI.out iz0 iz1 iz2 w.heap.size _ _ rfl (HO.out.below (below_drewN' _ _)) _ _ (by simp) rfl HGK.out (by omega) (Nat.le_trans hszr (show Below wr.heap.size wr _ from below_drewN' _ _).size) ?_
                intro v9 w9 h1 h2 h3
                have H9 := Lib.hid h1
                have HB9 := Lib.hid (bgrown (bthen HB.out (below_drewN' _ _)) h2 (fun q hq => (HO.out.lt q hq).1))
                have HR9 := Lib.hid ((HRV.out.below (below_drewN' _ _)).grown h2 (fun q hq => HAP.out.2 q hq))
                have HA9 := Lib.hid (show w1.heap.size ≤ w9.heap.size ∧ ∀ j, v9.ownBlock = some j → (Value.slice _ halls.length cr).ownBlock ≠ some j from ⟨Nat.le_trans HAP.out.1 (Nat.le_trans (show Below wr.heap.size wr _ from below_drewN' _ _).size h2.size), fun j hj e => by
                  rcases h3 j hj with h4 | h4
                  · exact HAP.out.2 j h4 e
                  · exact Nat.lt_irrefl _ (Nat.lt_of_lt_of_le (HRL.out j e) (Nat.le_trans (Nat.le_trans HAP.out.1 (show Below wr.heap.size wr _ from below_drewN' _ _).size) h4))⟩)
                clear h1 h2 h3)
              go_roundw
              case rel => exact ⟨k + 1, v9, by omega, rfl, by go_num, HB9.out, Lib.hid (by rw [HM.out, HN.out]; exact H9.out), HR9, HA9⟩
              case measure => simp [intOf]; omega
            · have d5 : decide (0 < q) = false := decide_eq_false hz
              have d6 : decide (q > 0) = false := decide_eq_false hz
              have HN := Lib.hid (show can = false by rw [← HSG2.out]; exact d5)
              go_wp2_with fail
              go_quiet (fail)
              go_wp2_with fail
              go_roundw
              case rel => exact ⟨k + 1, _, by omega, rfl, by go_num, bthen HB.out (below_drewN' _ _), Lib.hid (by rw [HM.out, HN.out]; simpa using HO.out.below (below_drewN' _ _)), Lib.hid (HRV.out.below (below_drewN' _ _)), Lib.hid ⟨Nat.le_trans HAP.out.1 (show Below wr.heap.size wr _ from below_drewN' _ _).size, HAP.out.2⟩⟩
              case measure => simp [intOf]; omega
          · by_cases hz : 0 < q
            · have d5 : decide (0 < q) = true := decide_eq_true hz
              have d6 : decide (q > 0) = true := decide_eq_true hz
              have HN := Lib.hid (show can = true by rw [← HSG2.out]; exact d5)
              go_wp2_with (
                go_at_call 99
                refine CI2.out.mono ?_
                rintro e w3 ⟨rfl, hb3⟩
                have HB3 := Lib.hid hb3
                have t0 := (hb3.cell (p := ⟨b, off + k, none⟩) (Nat.lt_of_lt_of_le hbl hszr)).trans g0
                have t1 := (hb3.cell (p := ⟨bp, op + k, none⟩) (Nat.lt_of_lt_of_le hbp hszr)).trans g1
                have t2 := (hb3.cell (p := ⟨bw, ow + j, none⟩) hbw).trans g2
                have t3 := (hb3.cell (p := ⟨br, orr + h, none⟩) hbr).trans g3
                clear hb3)
              go_quiet (fail)
              go_wp2_with (
                at_builtin
                refine wpList_app1n rfl _ _ 24 rfl 2 _ i0 Tryz.underlying24 HI.out iz0 iz1 iz2 w.heap.size _ _ rfl (HO.out.below (below_drewN HB3.out _)) _ _ (by simp) rfl HGK.out (by omega) (Nat.le_trans hszr (show Below wr.heap.size wr _ from below_drewN HB3.out _).size) ?_
                intro v9 w9 h1 h2 h3
                have H9 := Lib.hid h1
                have HB9 := Lib.hid (bgrown (bthen HB.out (below_drewN HB3.out _)) h2 (fun q hq => (HO.out.lt q hq).1))
                have HR9 := Lib.hid ((HRV.out.below (below_drewN HB3.out _)).grown h2 (fun q hq => HAP.out.2 q hq))
                have HA9 := Lib.hid (show w1.heap.size ≤ w9.heap.size ∧ ∀ j, v9.ownBlock = some j → (Value.slice _ halls.length cr).ownBlock ≠ some j from ⟨Nat.le_trans HAP.out.1 (Nat.le_trans (show Below wr.heap.size wr _ from below_drewN HB3.out _).size h2.size), fun j hj e => by
                  rcases h3 j hj with h4 | h4
                  · exact HAP.out.2 j h4 e
                  · exact Nat.lt_irrefl _ (Nat.lt_of_lt_of_le (HRL.out j e) (Nat.le_trans (Nat.le_trans HAP.out.1 (show Below wr.heap.size wr _ from below_drewN HB3.out _).size) h4))⟩)
                clear h1 h2 h3)
              go_roundw
              case rel => exact ⟨k + 1, v9, by omega, rfl, by go_num, HB9.out, Lib.hid (by rw [HM.out, HN.out]; exact H9.out), HR9, HA9⟩
              case measure => simp [intOf]; omega
            · have d5 : decide (0 < q) = false := decide_eq_false hz
              have d6 : decide (q > 0) = false := decide_eq_false hz
              have HN := Lib.hid (show can = false by rw [← HSG2.out]; exact d5)
              go_wp2_with (
                go_at_call 99
                refine CI2.out.mono ?_
                rintro e w3 ⟨rfl, hb3⟩
                have HB3 := Lib.hid hb3
                have t0 := (hb3.cell (p := ⟨b, off + k, none⟩) (Nat.lt_of_lt_of_le hbl hszr)).trans g0
                have t1 := (hb3.cell (p := ⟨bp, op + k, none⟩) (Nat.lt_of_lt_of_le hbp hszr)).trans g1
                have t2 := (hb3.cell (p := ⟨bw, ow + j, none⟩) hbw).trans g2
                have t3 := (hb3.cell (p := ⟨br, orr + h, none⟩) hbr).trans g3
                clear hb3)
              go_quiet (fail)
              go_wp2_with fail
              go_roundw
              case rel => exact ⟨k + 1, _, by omega, rfl, by go_num, bthen HB.out (below_drewN HB3.out _), Lib.hid (by rw [HM.out, HN.out]; simpa using HO.out.below (below_drewN HB3.out _)), Lib.hid (HRV.out.below (below_drewN HB3.out _)), Lib.hid ⟨Nat.le_trans HAP.out.1 (show Below wr.heap.size wr _ from below_drewN HB3.out _).size, HAP.out.2⟩⟩
              case measure => simp [intOf]; omega
    · go_wp2_with fail
      go_ret
      obtain rfl : k = ways.length := by omega
      exact ⟨_, rfl, HO.out, hb⟩

end Go.Proofs.YthlpbeohlhhblaaGreat
namespace Go.Proofs.YthlpbeohlhhblaaGreat
open Go.RowKit

theorem quietB {P : Program} {f : FuncId} {args : Array Value} {w : World} {n : Nat} {b' b : Bool} (hb : b' = b)
    (h : Calls P f args (w.drewN n) fun e w' => e = .returned (.bool b') ∧ w.drewN n = w') : Calls P f args (w.drewN n) fun e w'' => e = .returned (.bool b) ∧ ∃ m, w'' = w.drewN m := by
  subst hb; exact quiet_eq h

set_option maxRecDepth 100000 in
theorem l12Way_yes (m : Nat) (halls way : List Int) (hv yv : Value) (w : World) (hh : RI w hv halls) (hy : RI w yv way) (hm : halls.length = m) (hm5 : m ≤ 5) (ok : okRoad m way) :
    Calls Tryz.prog 108 #[hv, yv] w fun e w' => e = .returned (.bool true) ∧ Below w.heap.size w w' := by
  obtain ⟨a, cap, rfl⟩ := hh.shape
  obtain ⟨a2, cap2, rfl⟩ := hy.shape
  rw [hm]
  have HY := Lib.hid hy
  have hw1 : IntKind.i64.wrap ((m : Int) - 1) = (m : Int) - 1 := IntWalk.i64_in _ (by omega)
  obtain ⟨o1, o2, o3, o4⟩ := ok
  have HO3 := Lib.hid o3
  have HO4 := Lib.hid o4
  clear hh hy hm o3 o4
  go_enter Tryz.func108, Tryz.ntmps108
  go_wp2_with fail
  go_loopw [5] (fun i wr => ∃ (k : Nat), k ≤ way.length ∧ i = .int .i64 k ∧ Below w.heap.size w wr) (fun i _ => way.length - (intOf i).toNat)
  case atStart => exact ⟨0, Nat.zero_le _, rfl, Below.refl _ _⟩
  case round =>
    obtain ⟨k, hk, rfl, hb⟩ := hrel
    rename World => wr
    by_cases hlt : k < way.length
    · obtain ⟨b, off, rfl, hbl, hc⟩ := HY.out.cells (by omega)
      have g0 := (hb.cell (p := ⟨b, off + k, none⟩) hbl).trans (hc k hlt)
      have hx := HO3.out k hlt
      have HB := Lib.hid hb
      have HX := Lib.hid (show inB 0 ((m : Int) - 1) (way.getD k 0) = true by unfold inB; rw [Bool.and_eq_true]; exact ⟨decide_eq_true hx.1, decide_eq_true (by omega)⟩)
      clear hb
      by_cases hk0 : 0 < k
      · obtain ⟨j, rfl⟩ : ∃ j, k = j + 1 := ⟨k - 1, by omega⟩
        have g1 := (HB.out.cell (p := ⟨b, off + j, none⟩) hbl).trans (hc j (by omega))
        have hne := HO4.out j hlt
        generalize way.getD (j + 1) 0 = x at g0 HX hne
        generalize way.getD j 0 = y at g1 hne
        have hq : (y == x) = false := by rw [beq_eq_false_iff_ne]; exact hne
        have hq2 : (x == y) = false := by rw [beq_eq_false_iff_ne]; exact fun e => hne e.symm
        have hwj : IntKind.i64.wrap (((j + 1 : Nat) : Int) - 1) = (j : Int) := by rw [IntWalk.i64_in _ (by omega)]; omega
        have hwj2 : IntKind.i64.wrap ((j : Int) + 1 - 1) = (j : Int) := by rw [IntWalk.i64_in _ (by omega)]; omega
        have hwj3 : IntKind.i64.wrap (j : Int) = (j : Int) := IntWalk.i64_in _ (by omega)
        have hdk : decide ((0 : Int) < ((j + 1 : Nat) : Int)) = true := decide_eq_true (by omega)
        have hdk2 : decide ((0 : Int) < (j : Int) + 1) = true := decide_eq_true (by omega)
        have hdk3 : decide (0 < j + 1) = true := decide_eq_true (by omega)
        clear hc hne hx
        go_wp2_with fail
        go_quiet ((go_at_call 107; exact quietB HX.out (l00In_any _ _ _ _)))
        go_wp2_with fail
        go_roundw
        case rel => exact ⟨j + 1 + 1, by omega, by go_num, below_drewN HB.out _⟩
        case measure => simp [intOf]; omega
      · obtain rfl : k = 0 := by omega
        generalize way.getD 0 0 = x at g0 HX
        have g0' : wr.cell? ⟨b, off, none⟩ = some (.int .i64 x) := g0
        have hlen : (0 : Int) < (way.length : Int) := by omega
        have hdz : decide ((0 : Int) < 0) = false := rfl
        clear hc hx
        go_wp2_with fail
        go_quiet ((go_at_call 107; exact quietB HX.out (l00In_any _ _ _ _)))
        go_wp2_with fail
        go_roundw
        case rel => exact ⟨0 + 1, by omega, by go_num, below_drewN HB.out _⟩
        case measure => simp [intOf]; omega
    · have HI := Lib.hid (show inB 1 5 (way.length : Int) = true by unfold inB; simp; omega)
      go_wp2_with (go_at_call 107; refine (l00In_any _ _ _ _).mono ?_; rintro e w' ⟨rfl, rfl⟩; rw [HI.out])
      go_ret
      exact ⟨rfl, hb⟩

set_option maxRecDepth 100000 in
theorem l12Ok_yes (halls : List Int) (ways : List (List Int)) (hv wv : Value) (w : World) (hh : RI w hv halls) (hw : WaysI w wv ways) (ok : OkHW halls ways) :
    Calls Tryz.prog 96 #[hv, wv] w fun e w' => e = .returned (.bool true) ∧ Below w.heap.size w w' := by
  obtain ⟨a, cap, rfl, _, _⟩ := hw.shape
  obtain ⟨a2, cap2, rfl⟩ := hh.shape
  have hw4 := ok.w4
  have hh1 := ok.h1
  have hh2 := ok.h2
  have HW := Lib.hid hw
  have HH := Lib.hid hh
  have HOK := Lib.hid ok
  clear hw hh ok
  go_enter Tryz.func96, Tryz.ntmps96
  go_wp2_with fail
  go_loop [5] (fun i => ∃ (k : Nat), k ≤ halls.length ∧ i = .int .i64 k) (fun i => halls.length - (intOf i).toNat)
  case atStart => exact ⟨0, Nat.zero_le _, rfl⟩
  case round =>
    obtain ⟨k, hk, rfl⟩ := hrel
    by_cases hlt : k < halls.length
    · obtain ⟨b, off, rfl, hbl, hc⟩ := HH.out.cells (by omega)
      have g0 := hc k hlt
      have hx := HOK.out.hv k hlt
      have HX := Lib.hid (show inB 1 3 (halls.getD k 0) = true by unfold inB; rw [Bool.and_eq_true]; exact ⟨decide_eq_true hx.1, decide_eq_true hx.2⟩)
      generalize halls.getD k 0 = x at g0 HX
      clear hc hx
      go_wp2_with (go_at_call 107; refine (l00In_any _ _ _ _).mono ?_; rintro e w' ⟨rfl, rfl⟩; rw [HX.out])
      go_round
      case rel => exact ⟨k + 1, by omega, by go_num⟩
      case measure => simp [intOf]; omega
    · go_wp2_with fail
      go_loopw [6] (fun i wr => ∃ (k : Nat), k ≤ ways.length ∧ i = .int .i64 k ∧ Below w.heap.size w wr) (fun i _ => ways.length - (intOf i).toNat)
      case atStart => exact ⟨0, Nat.zero_le _, rfl, Below.refl _ _⟩
      case round =>
        obtain ⟨j, hj, rfl, hb⟩ := hrel
        rename World => wr
        by_cases hjl : j < ways.length
        · obtain ⟨b, off, rfl, hbl, hcells⟩ := HW.out.cells (by omega)
          obtain ⟨v, hv1, c0⟩ := hcells j hjl
          have g0 := (hb.cell (p := ⟨b, off + j, none⟩) hbl).trans c0
          have CW := Lib.hid (l12Way_yes halls.length halls (ways.getD j []) _ v wr (HH.out.below hb) (hv1.below hb) rfl hh2 (HOK.out.wl j hjl))
          obtain ⟨bv, cv, rfl⟩ := hv1.shape
          have HB := Lib.hid hb
          clear hcells c0 hv1 hb
          generalize (ways.getD j []) = way at g0 CW
          go_wp2_with (go_at_call 108; refine CW.out.mono ?_; rintro e w2 ⟨rfl, hb2⟩; have HB2 := Lib.hid (bthen HB.out hb2); clear hb2)
          go_roundw
          case rel => exact ⟨j + 1, by omega, by go_num, HB2.out⟩
          case measure => simp [intOf]; omega
        · have HI := Lib.hid (show inB 1 6 (halls.length : Int) = true by unfold inB; simp; omega)
          have hd4 : decide ((ways.length : Int) ≤ 4) = true := decide_eq_true (by omega)
          have hd5 : decide (ways.length ≤ 4) = true := decide_eq_true hw4
          have HB := Lib.hid hb
          clear hb
          go_wp2_with (go_at_call 107; refine (l00In_any _ _ _ _).mono ?_; rintro e w' ⟨rfl, rfl⟩; rw [HI.out])
          go_ret
          exact ⟨rfl, HB.out⟩

theorem l12Code_yes (halls : List Int) (ways : List (List Int)) (ps : List Int) (hv wv pv : Value) (w : World) (hh : RI w hv halls) (hw : WaysI w wv ways) (hp : RI w pv ps) (ok : OkHW halls ways) (hl : ps.length = ways.length) (okp : OkP halls ways (ofL ps)) :
    Calls Tryz.prog 75 #[hv, wv, pv] w fun e w' => e = .returned (.int .i64 0) ∧ Below w.heap.size w w' := by
  have C1 := Lib.hid (l12Ok_yes halls ways hv wv w hh hw ok)
  have C2 := Lib.hid (fun W (h : Below w.heap.size w W) => l12Places_any halls ways ps hv wv pv W (hh.below h) (hw.below h) (hp.below h) ok hl okp)
  obtain ⟨a, cap, rfl, _, _⟩ := hw.shape
  obtain ⟨a2, cap2, rfl⟩ := hp.shape
  obtain ⟨a3, cap3, rfl⟩ := hh.shape
  clear hh hw hp hl ok okp
  go_enter Tryz.func75, Tryz.ntmps75
  go_wp2_with (first
    | (go_at_call 96
       refine C1.out.mono ?_
       rintro e w1 ⟨rfl, hb1⟩)
    | (go_at_call 97
       refine (C2.out _ hb1).mono ?_
       rintro e w2 ⟨rfl, hb2⟩
       have HB2 := Lib.hid (bthen hb1 hb2)))
  go_ret
  exact ⟨rfl, HB2.out⟩

theorem nextMoves_any (halls : List Int) (ways : List (List Int)) (ps : List Int) (hv wv pv : Value) (w : World) (hh : RI w hv halls) (hw : WaysI w wv ways) (hp : RI w pv ps) (ok : OkHW halls ways) (hl : ps.length = ways.length) (okp : OkP halls ways (ofL ps)) :
    Calls Tryz.prog 42 #[hv, wv, pv] w fun e w' => ∃ v', e = .returned (.tuple #[v', .int .i64 0]) ∧ OI 2 w' w.heap.size v' (movesP halls ways (ofL ps) ways.length) ∧ Below w.heap.size w w' := by
  have C1 := Lib.hid (l12Code_yes halls ways ps hv wv pv w hh hw hp ok hl okp)
  have C2 := Lib.hid (fun W (h : Below w.heap.size w W) => l12Moves_any halls ways ps hv wv pv W (hh.below h) (hw.below h) (hp.below h) ok hl okp)
  obtain ⟨a, cap, rfl, _, _⟩ := hw.shape
  obtain ⟨a2, cap2, rfl⟩ := hp.shape
  obtain ⟨a3, cap3, rfl⟩ := hh.shape
  clear hh hw hp hl ok okp
  go_enter Tryz.func42, Tryz.ntmps42
  go_wp2_with (first
    | (go_at_call 75
       refine C1.out.mono ?_
       rintro e w1 ⟨rfl, hb1⟩)
    | (go_at_call 76
       refine (C2.out _ hb1).mono ?_
       rintro e w2 ⟨v2, rfl, ho2, hb2⟩
       have HO2 := Lib.hid (ho2.mono hb1.size)
       have HB2 := Lib.hid (bthen hb1 hb2)
       clear ho2 hb2))
  go_ret2
  exact ⟨_, rfl, HO2.out, HB2.out⟩

end Go.Proofs.YthlpbeohlhhblaaGreat
namespace Go.Proofs.YthlpbeohlhhblaaGreat
open Go.RowKit

theorem a2Long_any (v u : Value) (n m : Nat) (w : World) (hv : BI w v n) (hu : BI w u m) :
    Calls Tryz.prog 4 #[v, u] w fun e w' => ∃ b : Bool, e = .returned (.bool b) ∧ w = w' := by
  obtain ⟨a, cap, rfl⟩ := hv.shape
  obtain ⟨a2, cap2, rfl⟩ := hu.shape
  have l1 := hv.len
  have l2 := hu.len
  clear hv hu
  go_enter Tryz.func4, Tryz.ntmps4
  go_wp2
  all_goals
    go_ret
    first
      | exact ⟨_, rfl, rfl⟩
      | exact ⟨.inl rfl, rfl⟩
      | exact ⟨.inr rfl, rfl⟩

set_option maxRecDepth 100000 in
theorem a2At_any (v : Value) (n : Nat) (k : Int) (w : World) (hv : BI w v n) :
    Calls Tryz.prog 16 #[v, .int .i64 0, .int .i64 k] w fun e w' => ∃ y : Int, e = .returned (.int .i64 y) ∧ 0 ≤ y ∧ (1 ≤ k → y < k) ∧ Below w.heap.size w w' := by
  obtain ⟨a, cap, rfl⟩ := hv.shape
  have hl := hv.len
  have HV := Lib.hid hv
  clear hv
  by_cases h0 : n = 0
  · subst h0
    go_enter Tryz.func16, Tryz.ntmps16
    go_wp2
    go_ret
    exact ⟨0, rfl, by omega, by omega, Below.refl _ _⟩
  · have hd : decide ((n : Int) ≤ 0) = false := decide_eq_false (by omega)
    have hn0 : (0 : Int) < n := by omega
    by_cases hk : k < 1
    · have hdk : decide (k < 1) = true := decide_eq_true hk
      clear h0
      go_enter Tryz.func16, Tryz.ntmps16
      go_wp2
      go_ret
      exact ⟨0, rfl, by omega, by omega, Below.refl _ _⟩
    · have hdk : decide (k < 1) = false := decide_eq_false hk
      have hk0 : k ≠ 0 := by omega
      obtain ⟨b, o, rfl, hb, hc⟩ := BI.cells HV.out (by omega)
      obtain ⟨y, y0, y1, hy⟩ := hc 0 (by omega)
      rw [Nat.add_zero] at hy
      have b1 : 0 ≤ y % k := Int.emod_nonneg _ hk0
      have b2 : y % k < k := Int.emod_lt_of_pos _ (by omega)
      clear h0 hc
      go_enter Tryz.func16, Tryz.ntmps16
      go_wp2
      go_ret
      first
        | exact ⟨_, rfl, b1, fun _ => b2, Below.refl _ _⟩
        | exact ⟨_, rfl, b1, b2, Below.refl _ _⟩

theorem a2Has_any (v : Value) (xs : List Int) (x : Int) (w : World) (hv : RI w v xs) :
    Calls Tryz.prog 43 #[v, .int .i64 x] w fun e w' => e = .returned (.bool (decide (x ∈ xs))) ∧ w = w' := by
  obtain ⟨a, cap, rfl⟩ := hv.shape
  have hl := hv.len
  have HV := Lib.hid hv
  clear hv
  go_enter Tryz.func43, Tryz.ntmps43
  go_wp2
  go_loop [5] (fun i => ∃ k : Nat, k ≤ xs.length ∧ i = .int .i64 k ∧ ∀ y ∈ xs.take k, y ≠ x) (fun i => xs.length - (intOf i).toNat)
  case atStart => exact ⟨0, Nat.zero_le _, rfl, by simp⟩
  case round =>
    obtain ⟨k, hk, rfl, hno⟩ := hrel
    have HNO := Lib.hid hno
    clear hno
    by_cases hlt : k < xs.length
    · obtain ⟨b, off, rfl, hb, hc⟩ := HV.out.cells (by omega)
      have g := hc k hlt
      clear hc
      have S1 := take_snoc xs k hlt
      have hmem : xs.getD k 0 ∈ xs := by simp only [List.getD, List.getElem?_eq_getElem hlt, Option.getD_some]; exact List.getElem_mem hlt
      generalize xs.getD k 0 = y at g S1 hmem
      have HS := Lib.hid S1
      have HM := Lib.hid hmem
      clear S1 hmem
      by_cases hy : y = x
      · have hyb : (y == x) = true := by rw [beq_iff_eq]; exact hy
        have HE := Lib.hid (show decide (x ∈ xs) = true from decide_eq_true (hy ▸ HM.out))
        clear hy
        go_wp2
        go_ret
        exact ⟨ret_bool HE.out.symm, rfl⟩
      · have hyb : (y == x) = false := by rw [beq_eq_false_iff_ne]; exact hy
        have HY := Lib.hid hy
        clear hy
        go_wp2
        go_round
        case rel => exact ⟨k + 1, by omega, by go_num, by
          intro z hz
          rw [HS.out] at hz
          rcases List.mem_append.1 hz with hz | hz
          · exact HNO.out z hz
          · rw [List.mem_singleton.1 hz]; exact HY.out⟩
        case measure => simp [intOf]; omega
    · have HE := Lib.hid (show decide (x ∈ xs) = false from decide_eq_false (fun hm => HNO.out x (by rw [List.take_of_length_le (by omega)]; exact hm) rfl))
      go_wp2
      go_ret
      exact ⟨ret_bool HE.out.symm, rfl⟩

end Go.Proofs.YthlpbeohlhhblaaGreat
namespace Go.Proofs.YthlpbeohlhhblaaGreat
open Go.RowKit

theorem ofL_zero (n : Nat) : ofL (List.replicate n 0) = at4 zSt := by
  funext c
  have h1 : ofL (List.replicate n 0) c = 0 := by
    unfold ofL
    simp only [List.getD, List.getElem?_replicate]
    split <;> rfl
  rw [h1]
  match c with
  | 0 | 1 | 2 | 3 | (n + 4) => rfl
theorem ofL_set {ps : List Int} {c : Nat} (hc : c < ps.length) : ofL (ps.set c (ps.getD c 0 + 1)) = upP (ofL ps) c := by
  funext i
  unfold ofL upP
  simp only [List.getD, List.getElem?_set]
  by_cases e : c = i
  · subst e
    rw [if_pos rfl, if_pos hc, if_pos rfl]; rfl
  · rw [if_neg e, if_neg (fun h => e h.symm)]

set_option maxRecDepth 100000 in
set_option maxHeartbeats 4000000 in
theorem a2Locked_any (halls : List Int) (ways : List (List Int)) (ms : List Int) (hv wv mv : Value) (w : World) (hh : RI w hv halls) (hw : WaysI w wv ways) (hm : RI w mv ms) (ok : OkHW halls ways) (hleg : LegalS halls ways ms) (hdead : deadS halls ways (pathS ms) = true) :
    Calls Tryz.prog 15 #[hv, wv, mv] w fun e w' => e = .returned (.bool true) ∧ Below w.heap.size w w' := by
  have hmI := hm.len
  have CN := fun W (h : Below w.heap.size w W) (pv : Value) (ps : List Int) (hp : RI W pv ps) (hl : ps.length = ways.length) (hk : OkP halls ways (ofL ps)) => nextMoves_any halls ways ps hv wv pv W (hh.below h) (hw.below h) hp ok hl hk
  obtain ⟨a, cap, rfl, _, _⟩ := hw.shape
  obtain ⟨a2, cap2, rfl⟩ := hm.shape
  obtain ⟨a3, cap3, rfl⟩ := hh.shape
  have hw4 := ok.w4
  have CNX := Lib.hid CN
  have HW := Lib.hid hw
  have HM := Lib.hid hm
  have HLG := Lib.hid hleg
  have HOK := Lib.hid ok
  have HOKP := Lib.hid (fun k (hk : k ≤ ms.length) => legal_ok ok hleg k hk)
  have HD := Lib.hid hdead
  have hml := hmI
  obtain ⟨i0, hi, iz0, iz1, iz2⟩ := info_parts infoInt64
  have HI := Lib.hid hi
  clear hh hw hm ok hleg hdead CN hi
  go_enter Tryz.func15, Tryz.ntmps15
  go_wp2_with (at_make; refine wpList_make_full _ rfl _ _ 24 rfl w.heap.size 2 i0 (.int .i64 0) 1 Tryz.underlying24 HI.out iz0 iz1 .i64 .i64 _ _ ways.length rfl rfl rfl rfl (by rw [iz2]; omega) (by unfold maxLen; omega) (Nat.le_refl _) ?_; intro w1 hown hgr; have hb1 : Below w.heap.size w w1 := (Below.refl _ _).grown hgr (Nat.le_refl _) (by simp))
  have HO1 := Lib.hid (OI.made hown)
  have HB1 := Lib.hid hb1
  clear hown hgr hb1
  go_loopw [8] (fun i wr => ∃ (k : Nat) (P : List Int), k ≤ ms.length ∧ i = .int .i64 k ∧ Below w.heap.size w wr ∧ Hid (OI 2 wr w.heap.size (.slice (some ⟨w.heap.size, 0, none⟩) ways.length ways.length) P) ∧ Hid (P.length = ways.length ∧ ofL P = at4 (pathS (ms.take k)))) (fun i _ => ms.length - (intOf i).toNat)
  case atStart => exact ⟨0, _, Nat.zero_le _, rfl, HB1.out, HO1, Lib.hid ⟨by simp, ofL_zero _⟩⟩
  case round =>
    obtain ⟨k, P, hk, rfl, hb, HO, HP⟩ := hrel
    rename World => wr
    by_cases hlt : k < ms.length
    · have HKP := Lib.hid (show OkP halls ways (ofL P) by rw [HP.out.2]; exact HOKP.out k (by omega))
      have CW := Lib.hid (CNX.out wr hb _ P HO.out.ri HP.out.1 HKP.out)
      have hmem := HLG.out k hlt
      rw [← HP.out.2] at hmem
      have hms := movesP_mem hmem
      have HMEM := Lib.hid hmem
      obtain ⟨c, hc1, hc2, _⟩ := hms
      have HT := Lib.hid (show pathS (ms.take (k + 1)) = mv4 (pathS (ms.take k)) c by rw [take_snoc ms k hlt, path_snoc, hc2, Int.toNat_natCast])
      obtain ⟨bm, om, rfl, hbm, hcm⟩ := HM.out.cells (by omega)
      have g0 := (hb.cell (p := ⟨bm, om + k, none⟩) hbm).trans (hcm k hlt)
      rw [hc2] at g0 HMEM
      have hpos := (HKP.out.pos c hc1)
      have hwl := (HOK.out.wl c hc1).2.1
      have HB := Lib.hid hb
      have hcP : c < P.length := by rw [HP.out.1]; exact hc1
      have hval : P.getD c 0 = ofL P c := rfl
      have hvb : 0 ≤ P.getD c 0 ∧ P.getD c 0 ≤ 6 := by rw [hval]; omega
      have hcI : (c : Int) < (ways.length : Int) := by omega
      have HUP := Lib.hid (show ofL (P.set c (P.getD c 0 + 1)) = at4 (pathS (ms.take (k + 1))) by rw [ofL_set hcP, HT.out, at4_mv _ (by omega), HP.out.2])
      have hbv : w.heap.size < wr.heap.size := by
        have := HO.out.lt w.heap.size rfl
        exact this.2
      obtain ⟨q, hq⟩ : ∃ q, q = P.getD c 0 := ⟨_, rfl⟩
      rw [← hq] at HUP hvb
      have HQ := Lib.hid hq
      have hwv : IntKind.i64.wrap (q + 1) = q + 1 := IntWalk.i64_in _ (by omega)
      clear hcm hb hmem hc2 hval hpos hwl hq
      generalize movesP halls ways (ofL P) ways.length = can at CW HMEM
      go_wp2_with (first
        | (go_at_call 42
           refine CW.out.mono ?_
           rintro e w2 ⟨v2, rfl, ho2, hb2⟩
           have HO2 := Lib.hid ho2.ri
           have HB2 := Lib.hid (bthen HB.out hb2)
           have g2 := (hb2.cell (p := ⟨bm, om + k, none⟩) (Nat.lt_of_lt_of_le hbm HB.out.size)).trans g0
           have HP2 := Lib.hid (HO.out.below hb2)
           obtain ⟨d1, d2⟩ := HP2.out.cell c hcP
           rw [← HQ.out] at d1
           have hset := HP2.out.set c (q + 1) (by unfold Good; omega)
           have HS1 := Lib.hid hset.1
           have HS2 := Lib.hid hset.2
           clear ho2 hb2 hset)
        | (go_at_call 43
           refine (a2Has_any _ can (c : Int) _ HO2.out).mono ?_
           rintro e w3 ⟨rfl, rfl⟩
           rw [decide_eq_true HMEM.out]))
      go_roundw
      case rel => exact ⟨k + 1, _, by omega, by go_num, HB2.out.grown HS2.out HB2.out.size (fun z e => Nat.le_of_eq (Option.some.inj e)), HS1, Lib.hid ⟨by rw [List.length_set]; exact HP.out.1, HUP.out⟩⟩
      case measure => simp [intOf]; omega
    · have hke : k = ms.length := by omega
      have hpe : ofL P = at4 (pathS ms) := by
        have := HP.out.2
        rw [hke, List.take_length] at this
        exact this
      have HKP := Lib.hid (show OkP halls ways (ofL P) by rw [HP.out.2]; exact HOKP.out k hk)
      have CW := Lib.hid (CNX.out wr hb _ P HO.out.ri HP.out.1 HKP.out)
      have hdd := HD.out
      unfold deadS at hdd
      rw [← hpe, Bool.and_eq_true, Bool.not_eq_true', decide_eq_true_eq] at hdd
      have HDN := Lib.hid hdd.1
      have hz := hdd.2
      have HPL := Lib.hid HP.out.1
      have HB := Lib.hid hb
      clear hdd hpe hke hb HP HLG HD HOKP
      generalize movesP halls ways (ofL P) ways.length = can at CW hz
      go_wp2_with (
        go_at_call 42
        refine CW.out.mono ?_
        rintro e w2 ⟨v2, rfl, ho2, hb2⟩
        obtain ⟨ac, cc, hsh⟩ := ho2.ri.shape
        subst hsh
        have HB2 := Lib.hid (bthen HB.out hb2)
        have HP2 := Lib.hid (HO.out.ri.below hb2)
        clear ho2 hb2)
      go_loopw [13, 14] (fun d i wx => ∃ (j : Nat), j ≤ ways.length ∧ d = .bool (doneP ways (ofL P) j) ∧ i = .int .i64 j ∧ Below w2.heap.size w2 wx) (fun _ i _ => ways.length - (intOf i).toNat)
      case atStart => exact ⟨0, Nat.zero_le _, rfl, rfl, Below.refl _ _⟩
      case round =>
        obtain ⟨j, hj, rfl, rfl, hbx⟩ := hrel
        rename World => wx
        by_cases hjl : j < ways.length
        · have HE := Lib.hid (show doneP ways (ofL P) (j + 1) = (doneP ways (ofL P) j && decide (((ways.getD j []).length : Int) < ofL P j)) from rfl)
          obtain ⟨b, off, rfl, hbl, hcells⟩ := HW.out.cells (by omega)
          obtain ⟨v, hv1, c0⟩ := hcells j hjl
          have hbw := bthen HB2.out hbx
          have g0 := (hbw.cell (p := ⟨b, off + j, none⟩) hbl).trans c0
          obtain ⟨bp, op, hsp, hbp, hcp⟩ := HP2.out.cells (by rw [HPL.out]; omega)
          have c1 := hcp j (by rw [HPL.out]; exact hjl)
          have hsp2 : w.heap.size = bp ∧ 0 = op := by
            have := Option.some.inj hsp
            simp only [Addr.mk.injEq] at this
            exact ⟨this.1, this.2.1⟩
          obtain ⟨rfl, rfl⟩ := hsp2
          rw [Nat.zero_add] at c1
          have g1 := (hbx.cell (p := ⟨w.heap.size, j, none⟩) hbp).trans c1
          obtain ⟨bv, cv, rfl⟩ := hv1.shape
          have hps : P.getD j 0 = ofL P j := rfl
          rw [hps] at g1
          have HBX := Lib.hid hbx
          clear hcells hcp c0 c1 hv1 hps hbx hbw hsp
          generalize ofL P j = x at g1 HE
          generalize (ways.getD j []).length = ln at g0 HE
          have hjI : (j : Int) < (ways.length : Int) := by omega
          cases hdp : doneP ways (ofL P) j with
          | false =>
            rw [hdp] at HE
            have HE' := Lib.hid HE.out
            clear hdp HE
            go_wp2_with fail
            go_quiet (fail)
            go_wp2_with fail
            go_roundw
            case rel => exact ⟨j + 1, by omega, by rw [HE'.out]; rfl, by go_num, below_drewN HBX.out _⟩
            case measure => simp [intOf]; omega
          | true =>
            rw [hdp] at HE
            have HE' := Lib.hid HE.out
            clear hdp HE
            go_wp2_with fail
            go_quiet (fail)
            go_wp2_with fail
            go_roundw
            case rel => exact ⟨j + 1, by omega, by rw [HE'.out]; simp, by go_num, below_drewN HBX.out _⟩
            case measure => simp [intOf]; omega
        · obtain rfl : j = ways.length := by omega
          rw [HDN.out]
          have hzz : ((can.length : Int) == 0) = true := by rw [beq_iff_eq]; omega
          have HBX := Lib.hid (bthen HB2.out hbx)
          clear hbx hz
          go_wp2_with fail
          go_ret
          exact ⟨rfl, HBX.out⟩

end Go.Proofs.YthlpbeohlhhblaaGreat
namespace Go.Proofs.YthlpbeohlhhblaaGreat
open Go.RowKit

end Go.Proofs.YthlpbeohlhhblaaGreat
