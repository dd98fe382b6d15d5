/-
  PopOrder of the reference.
-/
import Derived.Test.YteohfokchimfeaaPopPlain
import Derived.Test.YteohfokchimfeaaAssign
namespace Go.Proofs.Yteohfokchimfeaa
open Go.RowKit

theorem scan_skip {xs ss gone : List Int} {k : Nat} (h : (gone.getD k 0 == 1 || belowB ss gone k) = true) : scanTo xs ss gone (k + 1) = scanTo xs ss gone k := by
  simp only [scanTo]; rw [if_pos h]
theorem scan_first {xs ss gone : List Int} {k : Nat} (h : (gone.getD k 0 == 1 || belowB ss gone k) = false) (h2 : scanTo xs ss gone k < 0) : scanTo xs ss gone (k + 1) = k := by
  simp only [scanTo]; rw [if_neg (by rw [h]; simp), if_pos h2]
theorem scan_less {xs ss gone : List Int} {k b : Nat} (h : (gone.getD k 0 == 1 || belowB ss gone k) = false) (h2 : scanTo xs ss gone k = b) (h3 : xs.getD k 0 < xs.getD b 0) : scanTo xs ss gone (k + 1) = k := by
  simp only [scanTo]; rw [if_neg (by rw [h]; simp), h2, if_neg (by omega), Int.toNat_natCast, if_pos h3]
theorem scan_more {xs ss gone : List Int} {k b : Nat} (h : (gone.getD k 0 == 1 || belowB ss gone k) = false) (h2 : scanTo xs ss gone k = b) (h3 : ¬ xs.getD k 0 < xs.getD b 0) : scanTo xs ss gone (k + 1) = b := by
  simp only [scanTo]; rw [if_neg (by rw [h]; simp), h2, if_neg (by omega), Int.toNat_natCast, if_neg h3]

def sliceLen : Value → Nat
  | .slice _ n _ => n
  | _ => 0

set_option maxHeartbeats 2000000 in
theorem l17Below_any (v : Value) (ss : List Int) (u : Value) (gone : List Int) (i : Nat) (w : World) (hv : RI w v ss) (hu : RI w u gone) (hl : gone.length = ss.length) (hi : i < ss.length) :
    Calls Try.prog 73 #[v, u, .int .i64 i] w fun e w' => e = .returned (.bool (belowB ss gone i)) ∧ Below w.heap.size w w' := by
  have HV := Lib.hid hv
  have HU := Lib.hid hu
  have hl2 := hv.len
  have HL := Lib.hid hl
  obtain ⟨a, cap, rfl⟩ := hv.shape
  obtain ⟨a2, cap2, rfl⟩ := hu.shape
  clear hv hu hl
  go_enter Try.func73, Try.ntmps73
  go_wp2_with fail
  go_loopw [7] (fun k wr => ∃ k' : Nat, i < k' ∧ k' ≤ ss.length ∧ k = .int .i64 k' ∧ Hid (∀ k, i < k → k < k' → freeB ss gone i k = false) ∧ Below w.heap.size w wr) (fun k _ => ss.length - (intOf k).toNat)
  case atStart => exact ⟨i + 1, by omega, by omega, by go_num, Lib.hid (fun k h1 h2 => by omega), Below.refl _ _⟩
  case round =>
    obtain ⟨k, hik, hk, rfl, HK, hb⟩ := hrel
    by_cases hkt : k < ss.length
    · obtain ⟨b, off, rfl, hbl, hcx⟩ := HV.out.cells (by omega)
      obtain ⟨b2, off2, rfl, hbl2, hcs⟩ := HU.out.cells (by have := HL.out; omega)
      have g1 := (hb.cell (p := ⟨b, off + k, none⟩) hbl).trans (hcx k hkt)
      have g2 := (hb.cell (p := ⟨b, off + i, none⟩) hbl).trans (hcx i hi)
      have g3 := (hb.cell (p := ⟨b2, off2 + k, none⟩) hbl2).trans (hcs k (by have := HL.out; omega))
      have hki : (k : Int) < ss.length := by omega
      have hii : (i : Int) < ss.length := by omega
      have hkg : (k : Int) < gone.length := by have := HL.out; omega
      clear hcx hcs
      have S1 : freeB ss gone i k = ((ss.getD k 0 == ss.getD i 0) && (gone.getD k 0 == 0)) := rfl
      generalize ss.getD k 0 = x at *
      generalize ss.getD i 0 = y at *
      generalize gone.getD k 0 = p at *
      have HS := Lib.hid S1
      clear S1
      have fin : freeB ss gone i k = false → ∀ k', i < k' → k' < k + 1 → freeB ss gone i k' = false := fun h k' h1 hk' => by
        by_cases e : k' = k
        · subst e; exact h
        · exact HK.out k' h1 (by omega)
      have FIN := Lib.hid fin
      clear fin
      by_cases hxy : x = y
      · have e1 : (x == y) = true := by rw [beq_iff_eq]; exact hxy
        clear hxy
        by_cases hp : p = 0
        · have e2 : (p == 0) = true := by rw [beq_iff_eq]; exact hp
          clear hp
          have HS2 := Lib.hid (HS.out.trans (by rw [e1, e2]))
          go_wp2_with fail
          go_quiet (fail)
          go_wp2_with fail
          go_ret
          exact ⟨ret_bool (belowB_true hkt hik HS2.out).symm, below_drewN hb _⟩
        · have e2 : (p == 0) = false := by rw [beq_eq_false_iff_ne]; exact hp
          clear hp
          have HS2 := Lib.hid (HS.out.trans (by rw [e1, e2]))
          go_wp2_with fail
          go_quiet (fail)
          go_wp2_with fail
          go_roundw
          case rel => exact ⟨k + 1, by omega, by omega, by go_num, Lib.hid (FIN.out HS2.out), below_drewN hb _⟩
          case measure => simp [intOf]; omega
      · have e1 : (x == y) = false := by rw [beq_eq_false_iff_ne]; exact hxy
        have HS2 := Lib.hid (HS.out.trans (by rw [e1]))
        clear hxy
        go_wp2_with fail
        go_quiet (fail)
        go_wp2_with fail
        go_roundw
        case rel => exact ⟨k + 1, by omega, by omega, by go_num, Lib.hid (FIN.out HS2.out), below_drewN hb _⟩
        case measure => simp [intOf]; omega
    · obtain rfl : k = ss.length := by omega
      go_wp2_with fail
      go_ret
      exact ⟨ret_bool (belowB_false HK.out).symm, hb⟩

set_option maxRecDepth 100000 in
set_option maxHeartbeats 4000000 in
theorem specPopOrder_any (v : Value) (xs : List Int) (u : Value) (ss : List Int) (w : World) (hv : RI w v xs) (hu : RI w u ss) :
    Calls Try.prog 41 #[v, u] w fun e w' => ∃ v', e = .returned (.tuple #[v', .int .i64 (valPop xs ss).2]) ∧ OI 2 w' w.heap.size v' (valPop xs ss).1 ∧ Below w.heap.size w w' := by
  have HV := Lib.hid hv
  have HU := Lib.hid hu
  by_cases hc : codeSt xs ss = 0
  · obtain ⟨hok, hlen, hss⟩ := codeSt_zero hc
    have l40 := okOrder_len hok
    have HE : Hid (valPop xs ss = ((popTo xs ss xs.length).2, 0)) := if_pos hc
    have C1 := l17Code_any v xs u ss w HV.out HU.out
    rw [hc] at C1
    have D1 := Lib.hid C1
    have HL := Lib.hid hlen
    have HST := Lib.hid (pop_step hok hlen hss)
    obtain ⟨a, cap, rfl⟩ := hv.shape
    obtain ⟨a2, cap2, rfl⟩ := hu.shape
    clear C1 hc hok hlen hss hv hu
    obtain ⟨i0, hi, hz0, hz1, hz2⟩ := info_parts info64
    have HI := Lib.hid hi
    clear hi
    go_enter Try.func41, Try.ntmps41
    go_wp2_with fail
    refine D1.out.mono ?_
    rintro e w1 ⟨rfl, hb1⟩
    go_wp2_with (at_make; refine wpList_make_full _ rfl _ _ 22 rfl w.heap.size 2 i0 (.int .i64 0) 1 Try.underlying22 HI.out hz0 hz1 .i64 .i64 _ _ xs.length rfl rfl rfl rfl (by rw [hz2]; omega) (by unfold maxLen; omega) hb1.size ?_; intro w2 hown hgr)
    have hb2 := bgrown hb1 hgr (by simp)
    have ho2 := OI.made hown
    have HN0 := Lib.hid (show popTo xs ss 0 = (List.replicate xs.length 0, []) from rfl)
    have HSZ := Lib.hid (show w1.heap.size < w2.heap.size from (ho2.lt w1.heap.size rfl).2)
    have HB2 := Lib.hid (show Below w.heap.size w (w2.alloc (.cells #[] 2)) from bthen hb2 ((Below.refl _ _).alloc (Nat.le_refl _) _))
    have HO2 := Lib.hid (ho2.below ((Below.refl _ _).alloc (Nat.le_refl _) (.cells #[] 2)))
    have HS2 := Lib.hid hb2.size
    have HS1 := Lib.hid hb1.size
    clear hown hgr hb1 hb2 ho2
    go_loopw [8] (fun o wr => ∃ (j : Nat) (vo : Value), j ≤ xs.length ∧ vo = o ∧ OI 2 wr w.heap.size vo (popTo xs ss j).2 ∧ OI 2 wr w.heap.size (.slice (some ⟨w1.heap.size, 0, none⟩) xs.length xs.length) (popTo xs ss j).1 ∧ Hid (Apart vo (.slice (some ⟨w1.heap.size, 0, none⟩) xs.length xs.length)) ∧ Below w.heap.size w wr) (fun o _ => xs.length - sliceLen o)
    case atStart =>
      refine ⟨0, _, Nat.zero_le _, rfl, ?_, ?_, Lib.hid ?_, HB2.out⟩
      · exact OI.lit0 _ _ _ HS2.out
      · exact HO2.out
      · intro k h1 h2
        have := HSZ.out
        simp [Value.ownBlock] at h1 h2; omega
    case round =>
      obtain ⟨j, vo, hj, rfl, ho, hg, HAP, hb⟩ := hrel
      obtain ⟨wo, rfl⟩ : ∃ wo : World, wo = wr := ⟨_, rfl⟩
      obtain ⟨hp1, hp2⟩ := popTo_len xs ss j
      obtain ⟨ao, co, hvo⟩ := ho.ri.shape
      rw [hp2] at hvo
      subst hvo
      by_cases hlt : j < xs.length
      · obtain ⟨bn, q, e1, _, e3, _, e5, _, _⟩ := HST.out j hlt
        generalize hpt : popTo xs ss j = st at ho hg e1 e5 hp1 hp2
        obtain ⟨gone, out⟩ := st
        simp only at ho hg e1 e5 hp1 hp2
        have HO := Lib.hid ho
        have HG := Lib.hid hg
        have HP1 := Lib.hid hp1
        have HP2 := Lib.hid hp2
        have E1 := Lib.hid e1
        have E5 := Lib.hid e5
        have hd : decide ((j : Int) < (xs.length : Int)) = true := decide_eq_true (by omega)
        clear ho hg e1 e5 hpt hp1 hp2
        go_wp2_with fail
        go_loopw [9, 10] (fun b i wq => ∃ k : Nat, k ≤ xs.length ∧ i = .int .i64 k ∧ b = .int .i64 (scanTo xs ss gone k) ∧ Below wo.heap.size wo wq) (fun _ i _ => xs.length - (intOf i).toNat)
        case atStart => exact ⟨0, Nat.zero_le _, rfl, rfl, Below.refl _ _⟩
        case round =>
          rename World => wq
          obtain ⟨k, hk, rfl, rfl, hbq⟩ := hrel
          by_cases hkt : k < xs.length
          · have hdk : decide ((k : Int) < (xs.length : Int)) = true := decide_eq_true (by omega)
            obtain ⟨gc, fc⟩ := (HG.out.below hbq).cell k (by rw [HP1.out]; exact hkt)
            have hsp := scanTo_spec xs ss gone k
            have S1 := fun h => scan_skip (xs := xs) (ss := ss) (gone := gone) (k := k) h
            have S2 := fun h h2 => scan_first (xs := xs) (ss := ss) (gone := gone) (k := k) h h2
            have S3 := fun b h h2 h3 => scan_less (xs := xs) (ss := ss) (gone := gone) (k := k) (b := b) h h2 h3
            have S4 := fun b h h2 h3 => scan_more (xs := xs) (ss := ss) (gone := gone) (k := k) (b := b) h h2 h3
            have CB := Lib.hid (l17Below_any _ ss _ gone k wq (HU.out.below (bthen hb hbq)) (HG.out.below hbq).ri (by rw [HP1.out, HL.out]) (by rw [HL.out]; exact hkt))
            generalize gone.getD k 0 = gk at gc S1 S2 S3 S4
            generalize scanTo xs ss gone k = sc at hsp S1 S2 S3 S4
            have T1 := Lib.hid S1
            have T2 := Lib.hid S2
            have T3 := Lib.hid S3
            have T4 := Lib.hid S4
            have HSP := Lib.hid hsp
            clear S1 S2 S3 S4 hsp
            generalize hgk : (gk == 1) = gb at T1 T2 T3 T4
            cases gb with
            | true =>
              have HQ := Lib.hid (T1.out rfl)
              go_wp2_with fail
              go_roundw
              case rel => exact ⟨k + 1, by omega, by go_num, by rw [HQ.out], hbq⟩
              case measure => simp [intOf]; omega
            | false =>
              generalize belowB ss gone k = bb at CB T1 T2 T3 T4
              go_wp2_with fail
              refine CB.out.mono ?_
              rintro e wb ⟨rfl, hbb⟩
              have hbc := bthen hbq hbb
              have HBC := Lib.hid hbc
              clear hbc hbb
              cases bb with
              | true =>
                have HQ := Lib.hid (T1.out rfl)
                go_wp2_with fail
                go_roundw
                case rel => exact ⟨k + 1, by omega, by go_num, by rw [HQ.out], HBC.out⟩
                case measure => simp [intOf]; omega
              | false =>
                rcases HSP.out with ⟨rfl, _⟩ | ⟨b, rfl, hbk, _, _⟩
                · have HQ := Lib.hid (T2.out rfl (by decide))
                  go_wp2_with fail
                  go_quiet (fail)
                  go_wp2_with fail
                  go_roundw
                  case rel => exact ⟨k + 1, by omega, by go_num, by rw [HQ.out], below_drewN HBC.out _⟩
                  case measure => simp [intOf]; omega
                · have hb0 : decide ((b : Int) < 0) = false := decide_eq_false (by omega)
                  obtain ⟨bx, off, rfl, hbl, hcx⟩ := HV.out.cells (by omega)
                  have g1 := ((bthen hb HBC.out).cell (p := ⟨bx, off + k, none⟩) hbl).trans (hcx k hkt)
                  have g2 := ((bthen hb HBC.out).cell (p := ⟨bx, off + b, none⟩) hbl).trans (hcx b (by omega))
                  clear hcx
                  have T3b := Lib.hid (T3.out b rfl rfl)
                  have T4b := Lib.hid (T4.out b rfl rfl)
                  generalize xs.getD k 0 = x at g1 T3b T4b
                  generalize xs.getD b 0 = y at g2 T3b T4b
                  have hki : (k : Int) < xs.length := by omega
                  have hbi : (b : Int) < xs.length := by omega
                  by_cases hxy : x < y
                  · have e2 : decide (x < y) = true := by simpa using hxy
                    have HQ := Lib.hid (T3b.out hxy)
                    clear hxy
                    go_wp2_with fail
                    go_quiet (fail)
                    go_wp2_with fail
                    go_roundw
                    case rel => exact ⟨k + 1, by omega, by go_num, by rw [HQ.out], below_drewN HBC.out _⟩
                    case measure => simp [intOf]; omega
                  · have e2 : decide (x < y) = false := by simpa using hxy
                    have HQ := Lib.hid (T4b.out (by omega))
                    clear hxy
                    go_wp2_with fail
                    go_quiet (fail)
                    go_wp2_with fail
                    go_roundw
                    case rel => exact ⟨k + 1, by omega, by go_num, by rw [HQ.out], below_drewN HBC.out _⟩
                    case measure => simp [intOf]; omega
          · obtain rfl : k = xs.length := by omega
            have hdk : decide ((xs.length : Int) < (xs.length : Int)) = false := decide_eq_false (by omega)
            rw [E1.out]
            have hbi : (bn : Int) < xs.length := by omega
            obtain ⟨gc, fc⟩ := (HG.out.below hbq).cell bn (by rw [HP1.out]; exact e3)
            obtain ⟨bx, off, rfl, hbl, hcx⟩ := HV.out.cells (by omega)
            have hset := (HG.out.below hbq).set bn 1 (by unfold Good; omega)
            have HSet := Lib.hid hset.1
            have hgw := hset.2
            have hb3 : Below w.heap.size w wq := bthen hb hbq
            have hbs : Below w.heap.size w _ := (HG.out.below hbq).step hb3 hgw
            have HOs := Lib.hid ((HO.out.below hbq).other hgw HAP.out.symm)
            have g1 := (hbs.cell (p := ⟨bx, off + bn, none⟩) hbl).trans (hcx bn e3)
            have hgx := HV.out.getD bn
            have HGX := Lib.hid hgx
            clear hset hgw hcx hgx
            generalize xs.getD bn 0 = x at g1 HGX E5
            generalize gone.getD bn 0 = gb at gc
            go_wp2_with (
              at_builtin
              refine wpList_app1n rfl _ _ 22 rfl 2 _ i0 Try.underlying22 HI.out hz0 hz1 hz2 w.heap.size _ _ rfl HOs.out _ _ (by simp) rfl HGX.out ?_ hbs.size ?_
              · rw [HP2.out]; omega
              intro v9 w9 h1 h2 h3
              have hb9 := HOs.out.step hbs h2
              have HG9 := Lib.hid (HSet.out.other h2 HAP.out)
              have HA9 := Lib.hid (HAP.out.app HSet.out h3)
              have H9 := Lib.hid h1
              clear h1 h2 h3
              go_wp2_with fail)
            go_roundw
            case rel => exact ⟨j + 1, v9, by omega, rfl, by rw [E5.out]; exact H9.out, by rw [E5.out]; exact HG9.out, HA9, hb9⟩
            case measure =>
              obtain ⟨a9, c9, h9⟩ := H9.out.ri.shape
              rw [h9, List.length_append, HP2.out]
              simp [sliceLen]; omega
      · obtain rfl : j = xs.length := by omega
        have hd : decide ((xs.length : Int) < (xs.length : Int)) = false := decide_eq_false (by omega)
        have HO := Lib.hid ho
        clear ho hg
        go_wp2_with fail
        go_ret2
        exact ⟨_, by rw [HE.out]; rfl, by rw [HE.out]; exact HO.out, hb⟩
  · have HE : Hid (valPop xs ss = ([], codeSt xs ss)) := if_neg hc
    have C1 := Lib.hid (l17Code_any v xs u ss w HV.out HU.out)
    generalize codeSt xs ss = c at *
    have hn : (c != 0) = true := by rw [bne_iff_ne]; exact hc
    clear hc hv hu
    go_enter Try.func41, Try.ntmps41
    go_wp2_with fail
    refine C1.out.mono ?_
    rintro e w1 ⟨rfl, hb1⟩
    go_wp2_with fail
    go_ret2
    exact ⟨_, by rw [HE.out]; rfl, by rw [HE.out]; exact OI.nil _ _ _, hb1⟩

end Go.Proofs.Yteohfokchimfeaa
