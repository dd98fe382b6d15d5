/-
  What FnLosses draws, third part: DrawLeaksExplain.
-/
import Derived.Test.YtpgnndpjlcihiaaDoorDrawDoor
import Derived.Test.YtpgnndpjlcihiaaDoorLateFns
import Derived.Deep.DeepCutAuto
namespace Go.Proofs.YtpgnndpjlcihiaaDoor
open Go.RowKit

theorem l00MinL_any (a b : Int) (w : World) : Calls Tryd.prog 45 #[.int .i64 a, .int .i64 b] w fun e w' => e = .returned (.int .i64 (min a b)) ∧ w = w' := by
  by_cases h : a < b
  · have hd1 : decide (a < b) = true := decide_eq_true h
    go_enter Tryd.func45, Tryd.ntmps45
    go_wp2
    go_ret
    exact ⟨ret_int (by omega), rfl⟩
  · have hd1 : decide (a < b) = false := decide_eq_false h
    go_enter Tryd.func45, Tryd.ntmps45
    go_wp2
    go_ret
    exact ⟨ret_int (by omega), rfl⟩

theorem own_apart {e T : TypeId} {w w1 : World} {base : Nat} {v u : Value} {xs : List (Int × Int × Int)} {ls : List Int} (h1 : OS P3 T w base v xs) (h2 : OI e w1 w.heap.size u ls) : v.ownBlock = none ∨ v.ownBlock ≠ u.ownBlock := by
  cases h : v.ownBlock with
  | none => exact .inl rfl
  | some q =>
    refine .inr fun e => ?_
    have a1 := (h1.lt q h).2
    have a2 := (h2.lt q e.symm).1
    omega

set_option maxRecDepth 100000 in
set_option maxHeartbeats 8000000 in
theorem DrawLeaksExplain_any (v : Value) (m : Nat) (w : World) (hv : BI w v m) :
    Calls Tryd.prog 16 #[v] w fun e w' => ∃ (n : Int) (v1 : Value) (xs : List (Int × Int × Int)) (v2 : Value) (ls : List Int), e = .returned (.tuple #[.int .i64 n, v1, v2]) ∧ Good n ∧ SI P3 w' v1 xs ∧ xs.length ≤ 21 ∧ RI w' v2 ls ∧ ls.length ≤ 13 ∧ Below w.heap.size w w' := by
  have HV := Lib.hid hv
  clear hv
  obtain ⟨i0, hi, iz0, iz1, iz2⟩ := info_parts info64
  have HI := Lib.hid hi
  clear hi
  go_enter Tryd.func16, Tryd.ntmps16
  go_wp2_with fail
  refine (from_any v m _ HV.out).mono ?_
  rintro e w1 ⟨rfl, hs1, hb1⟩
  have hne : 0 < m → v.ownBlock ≠ some w.heap.size := fun hp e => by have := HV.out.own_lt hp e; omega
  obtain ⟨b, hbd⟩ : ∃ b, b = w.heap.size := ⟨_, rfl⟩
  obtain ⟨base, hbs⟩ : ∃ base, base = w.heap.size := ⟨_, rfl⟩
  have hs1' : SrcAt w1 base b v 0 := by rw [hbd, hbs]; exact hs1
  rw [← hbd] at hne
  have hblt := hs1'.lt.2
  have HB1 := Lib.hid hb1
  have HV0 := Lib.hid (HV.out.below hb1)
  have C1 := Lib.hid (l15Bent_any v m b base w1 HV0.out hs1' hne)
  have HHB := Lib.hid (show ∀ q, some b = some q → w.heap.size ≤ q from fun q e => by have := Option.some.inj e; omega)
  rw [← hbd]
  clear hs1 hs1' hb1 hbd hbs
  go_wp2_with fail
  refine C1.out.mono ?_
  rintro e w2 ⟨n, v1, xs, rfl, hn, ho2, hx, hg2, hs2⟩
  have HO2 := Lib.hid ho2
  have HG2 := Lib.hid hg2
  have HS2 := Lib.hid hs2
  have HGN := Lib.hid hn
  have hne1 : v1.ownBlock ≠ some b := fun e => by
    have := (HO2.out.lt b e).1
    omega
  have hsz12 := hg2.size
  have C2 := Lib.hid (specLateLeaks_any n v1 xs w2 HO2.out.si)
  have hll := valLateL_len n xs
  clear ho2 hg2 hs2 hn
  generalize valLateL n xs = vl at C2 hll
  obtain ⟨l0, code⟩ := vl
  go_wp2_with fail
  refine C2.out.mono ?_
  rintro e w3 ⟨u0, rfl, hu0, hb3⟩
  have HU0 := Lib.hid hu0
  have HG3 := Lib.hid (grown_below (row := some b) hb3)
  have HS3 := Lib.hid (HS2.out.below hb3)
  have HVV2 := Lib.hid (HV0.out.grown HG2.out hne)
  have hsz23 := hb3.size
  clear hu0 hb3 HS2
  go_upto_region 4 with fail
  go_cut [29] (fun t wz => ∃ yn : Bool, t = .bool yn ∧ w3.grownBy wz (some b) ∧ Hid (SrcAt wz base b v 122))
  case first =>
    by_cases hc : code = 0
    · have hb0 : (code != 0) = false := by rw [hc]; rfl
      have C4 := Lib.hid (one_any v m b base 120 4 w3 (HVV2.out.grown HG3.out hne) HS3.out (by omega) hne)
      clear hc
      go_wp2_with fail
      refine C4.out.mono ?_
      rintro e w4 ⟨yn, rfl, hs4, hg4⟩
      have HS4 := Lib.hid hs4
      clear hs4
      go_wp2_with fail
      go_meet
      case rel => exact ⟨yn, rfl, hg4, HS4⟩
    · have hb0 : (code != 0) = true := by rw [bne_iff_ne]; exact hc
      clear hc
      go_wp2_with fail
      go_meet
      case rel => exact ⟨true, rfl, grown_below (Below.refl _ _), Lib.hid (HS3.out.more (by omega))⟩
  case rest =>
    obtain ⟨yn, rfl, hgz, HSZ⟩ := hcut
    rename World => wy
    have HGY := Lib.hid (grownBy_trans HG3.out hgz)
    have hszy := Nat.le_trans hsz23 hgz.size
    have HU := Lib.hid (HU0.out.grown hgz (.inr (fun e => by have := (HU0.out.lt b e).1; omega)))
    clear hgz
    apply_assumption
    go_cut [8] (fun o wz => ∃ ls, Hid (OI 2 wz w2.heap.size o ls) ∧ ls.length ≤ 12 ∧ w2.grownBy wz (some b) ∧ w2.heap.size ≤ wz.heap.size ∧ Hid (SrcAt wz base b v 300))
    case first =>
      cases yn with
      | false =>
        go_wp2_with fail
        go_meet
        case rel => exact ⟨l0, HU, by omega, HGY.out, hszy, Lib.hid (HSZ.out.more (by omega))⟩
      | true =>
        have HBN := Lib.hid ((Below.refl wy.heap.size wy).alloc (Nat.le_refl _) (.cells #[] 2))
        have HGN2 := Lib.hid (grownBy_trans HGY.out (grown_below (row := some b) HBN.out))
        have HSN := Lib.hid (HSZ.out.below HBN.out)
        have HON := Lib.hid (OI.lit0 2 wy w2.heap.size hszy)
        go_wp2_with (first | (go_at_call 45; refine (l00MinL_any _ _ _).mono ?_; rintro e w' ⟨rfl, rfl⟩))
        have hM12 : min n 12 ≤ 12 := by omega
        have hMlo : -9223372036854775808 ≤ min n 12 := by
          have := HGN.out
          unfold Good at this
          omega
        generalize min n 12 = M at hM12 hMlo ⊢
        go_loopw [8, 10] (fun o i wr => ∃ (k : Int) (u : Value) (ys : List Int), k ≤ 12 ∧ -9223372036854775808 ≤ k ∧ u = o ∧ i = .int .i64 k ∧ Hid (OI 2 wr w2.heap.size u ys) ∧ (ys.length : Int) + k ≤ 12 ∧ ys.length ≤ 12 ∧ w2.grownBy wr (some b) ∧ w2.heap.size ≤ wr.heap.size ∧ Hid (SrcAt wr base b v (122 + 2 * ys.length))) (fun _ i _ => (intOf i).toNat)
        case atStart => exact ⟨M, _, [], hM12, hMlo, rfl, rfl, HON, by simpa using hM12, by simp, HGN2.out, Nat.le_trans hszy HBN.out.size, HSN⟩
        case round =>
          obtain ⟨k, u, ys, hk, hklo, rfl, rfl, HO, hyk, hyl, hgr, hzo, HSR⟩ := hrel
          rename World => wo
          have HG := Lib.hid hgr
          clear hgr
          have hneu : u.ownBlock ≠ some b := fun e => by
            have := (HO.out.lt b e).1
            omega
          by_cases hlt : 0 < k
          · have hd : decide ((0 : Int) < k) = true := decide_eq_true hlt
            have hwq : IntKind.i64.wrap (k - 1) = k - 1 := IntWalk.i64_in _ (by omega)
            have C5 := Lib.hid (pick_any v m b base (122 + 2 * ys.length) 9 wo (HVV2.out.grown HG.out hne) HSR.out (by omega) hne)
            go_wp2_with fail
            refine C5.out.mono ?_
            rintro e w6 ⟨z, rfl, z0, z6, _, _, hs6, hg6⟩
            have HG6 := Lib.hid (grownBy_trans HG.out hg6)
            have HO6 := Lib.hid (HO.out.grown hg6 (.inr hneu))
            have HS6 := Lib.hid hs6
            have hsz6 : w2.heap.size ≤ w6.heap.size := Nat.le_trans hzo hg6.size
            have HGD := Lib.hid (show Good z by unfold Good; omega)
            clear hs6 hg6 z0 z6
            go_wp2_with (
              at_builtin
              refine wpList_app1n rfl _ _ 33 rfl 2 _ i0 Tryd.underlying33 HI.out iz0 iz1 iz2 w2.heap.size _ _ rfl HO6.out _ _ (by simp) rfl HGD.out (by omega) hsz6 ?_
              intro v9 w9 h1 h2 h3
              have H9 := Lib.hid h1
              have HG9 := Lib.hid (grown_chain HG6.out h2 (fun q hq => (HO6.out.lt q hq).1))
              have HS9 := Lib.hid (HS6.out.grown h2 (fun e => hneu e.symm))
              have hz9 := Nat.le_trans hsz6 h2.size
              clear h1 h2 h3)
            go_roundw
            case rel => exact ⟨k - 1, _, ys ++ [z], by omega, by omega, rfl, rfl, H9, by simp; omega, by simp; omega, HG9.out, hz9, Lib.hid (HS9.out.more (by simp; omega))⟩
            case measure => simp [intOf]; omega
          · have hd : decide ((0 : Int) < k) = false := decide_eq_false hlt
            go_wp2_with fail
            go_meet
            case rel => exact ⟨ys, HO, hyl, HG.out, hzo, Lib.hid (HSR.out.more (by omega))⟩
    case rest =>
      obtain ⟨ls, HU, hls, hg, hsz, HS⟩ := hcut
      rename World => wz
      have HG := Lib.hid hg
      clear hg HU0 HGY HSZ hszy HG3 HS3
      have C6 := Lib.hid (one_any v m b base 300 12 wz (HVV2.out.grown HG.out hne) HS.out (by omega) hne)
      apply_assumption
      go_upto_region 10 with fail
      go_cut [48] (fun t wx => ∃ yn : Bool, t = .bool yn ∧ (yn = true → 0 < ls.length) ∧ wz.grownBy wx (some b) ∧ Hid (SrcAt wx base b v 302))
      case first =>
        rcases HU.out.shape with ⟨hsh, hnil⟩ | ⟨g, cap, hsh, hgb, hgl⟩
        · subst hsh
          clear hnil
          go_wp2_with fail
          go_meet
          case rel => exact ⟨false, rfl, by simp, grown_below (Below.refl _ _), Lib.hid (HS.out.more (by omega))⟩
        · subst hsh
          by_cases h0 : 0 < ls.length
          · have hd1 : decide ((0 : Int) < (ls.length : Int)) = true := decide_eq_true (by omega)
            have hd2 : decide (0 < ls.length) = true := decide_eq_true h0
            go_wp2_with fail
            refine C6.out.mono ?_
            rintro e w6 ⟨yn, rfl, hs6, hg6⟩
            have HS6 := Lib.hid hs6
            clear hs6
            go_wp2_with fail
            go_meet
            case rel => exact ⟨yn, rfl, fun _ => h0, hg6, HS6⟩
          · have hd1 : decide ((0 : Int) < (ls.length : Int)) = false := decide_eq_false (by omega)
            have hd2 : decide (0 < ls.length) = false := decide_eq_false h0
            go_wp2_with fail
            go_meet
            case rel => exact ⟨false, rfl, by simp, grown_below (Below.refl _ _), Lib.hid (HS.out.more (by omega))⟩
      case rest =>
        obtain ⟨yn, rfl, hyn, hgz, HSX⟩ := hcut
        rename World => wx
        have hneu := (show ∀ q, Value.ownBlock _ = some q → w2.heap.size ≤ q from fun q e => (HU.out.lt q e).1)
        have HU := Lib.hid (HU.out.grown hgz (.inr (fun e => by have := hneu b e; omega)))
        have HG := Lib.hid (grownBy_trans HG.out hgz)
        have hsz := Nat.le_trans hsz hgz.size
        have HYN := Lib.hid hyn
        clear hgz hyn hneu
        apply_assumption
        go_cut [8] (fun o wy' => ∃ ls', Hid (OI 2 wy' w2.heap.size o ls') ∧ ls'.length ≤ 12 ∧ w2.grownBy wy' (some b) ∧ w2.heap.size ≤ wy'.heap.size ∧ Hid (SrcAt wy' base b v 304))
        case first =>
          cases yn with
          | false =>
            go_wp2_with fail
            go_meet
            case rel => exact ⟨ls, HU, hls, HG.out, hsz, Lib.hid (HSX.out.more (by omega))⟩
          | true =>
            have hpos := HYN.out rfl
            obtain ⟨g, cap, hsh, hgb, hgl⟩ : ∃ g cap, _ = Value.slice (some ⟨g, 0, none⟩) ls.length cap ∧ w2.heap.size ≤ g ∧ g < wx.heap.size := by
              rcases HU.out.shape with ⟨_, hnil⟩ | ⟨g, cap, h1, h2, h3⟩
              · rw [hnil] at hpos; exact absurd hpos (by simp)
              · exact ⟨g, cap, h1, h2, h3⟩
            subst hsh
            have HBA := Lib.hid ((Below.refl wx.heap.size wx).alloc (Nat.le_refl _) (.cells (([-1, 0, 10000, 10001] : List Int).map (Value.int .i64)).toArray 2))
            have HLA := Lib.hid (OI.litL 2 wx [-1, 0, 10000, 10001] 4 rfl (by unfold maxLen; omega) (by
              intro x hx
              simp only [List.mem_cons, List.not_mem_nil, or_false] at hx
              unfold Good
              omega))
            have hneLA : (Value.slice (some ⟨wx.heap.size, 0, none⟩) 4 4).ownBlock ≠ some b := fun e => by
              have : wx.heap.size = b := by simpa [Value.ownBlock] using e
              omega
            have CAA := Lib.hid (among_any v m b base 302 (.slice (some ⟨wx.heap.size, 0, none⟩) 4 4) [-1, 0, 10000, 10001] _ ((HVV2.out.grown HG.out hne).below HBA.out) (HSX.out.below HBA.out) (by omega) hne HLA.out.ri (by simp) hneLA)
            simp only [List.map_cons, List.map_nil] at CAA HBA
            have HGA := Lib.hid (grownBy_trans HG.out (grown_below (row := some b) HBA.out))
            have HUA := Lib.hid (HU.out.below HBA.out)
            have p1 : (0 : Int) < (ls.length : Int) := by omega
            have p2 : decide ((0 : Int) < (ls.length : Int)) = true := decide_eq_true p1
            go_wp2_with fail
            refine CAA.out.mono ?_
            rintro e w6 ⟨y, rfl, hy, hs6, hg6⟩
            have HGY := Lib.hid (HLA.out.2 y hy)
            have HG6 := Lib.hid (grownBy_trans HGA.out hg6)
            have HU6 := Lib.hid (HUA.out.grown hg6 (.inr (fun e => by have : g = b := by simpa [Value.ownBlock] using e
                                                                      omega)))
            have hsz6 := Nat.le_trans hsz (Nat.le_trans HBA.out.size hg6.size)
            have HS6 := Lib.hid hs6
            obtain ⟨hc0, hf0⟩ := HU6.out.cell 0 hpos
            obtain ⟨hset, hgs⟩ := HU6.out.set 0 y HGY.out
            have HSET := Lib.hid hset
            have HG7 := Lib.hid (grown_chain HG6.out hgs (fun q e => by have := Option.some.inj e; omega))
            have HS7 := Lib.hid (HS6.out.grown hgs (fun e => by have := Option.some.inj e; omega))
            have hsz7 := Nat.le_trans hsz6 hgs.size
            clear hy hs6 hg6 hset hgs
            go_wp2_with fail
            go_meet
            case rel => exact ⟨_, HSET, by simpa using hls, HG7.out, hsz7, HS7⟩
        case rest =>
          obtain ⟨ls', HU', hls', hg', hsz', HS'⟩ := hcut
          rename World => wv
          have HG' := Lib.hid hg'
          clear hg' HU HG HSX HYN hls hsz HS
          have C7 := Lib.hid (one_any v m b base 304 16 wv (HVV2.out.grown HG'.out hne) HS'.out (by omega) hne)
          have HOF := Lib.hid (HO2.out.grown HG'.out (.inr hne1))
          have HBF := Lib.hid (bgrown HB1.out (grownBy_trans HG2.out HG'.out) HHB.out)
          apply_assumption
          go_wp2_with fail
          refine C7.out.mono ?_
          rintro e w8 ⟨yn8, rfl, hs8, hg8⟩
          have HO8 := Lib.hid (HOF.out.grown hg8 (.inr hne1))
          have HB8 := Lib.hid (bgrown HBF.out hg8 HHB.out)
          have hsz8 := Nat.le_trans hsz' hg8.size
          have HU8 := Lib.hid (HU'.out.grown hg8 (.inr (fun e => by have := (HU'.out.lt b e).1; omega)))
          clear hs8 hg8
          cases yn8 with
          | true =>
            have hsz01 := HB1.out.size
            have HG0 := Lib.hid (show Good 0 by unfold Good; omega)
            go_wp2_with (
              at_builtin
              refine wpList_app1n rfl _ _ 33 rfl 2 _ i0 Tryd.underlying33 HI.out iz0 iz1 iz2 w2.heap.size _ _ rfl HU8.out _ _ (by simp) rfl HG0.out (by omega) hsz8 ?_
              intro v9 w9 h1 h2 h3
              have H9 := Lib.hid h1
              have HO9 := Lib.hid (HO8.out.grown h2 (own_apart HO2.out HU8.out))
              have HB9 := Lib.hid (bgrown HB8.out h2 (fun q e => by have := (HU8.out.lt q e).1; omega))
              clear h1 h2 h3)
            go_ret3
            exact ⟨n, _, xs, _, _, rfl, HGN.out, HO9.out.si, hx, H9.out.ri, by simp; omega, HB9.out⟩
          | false =>
            go_wp2_with fail
            go_ret3
            exact ⟨n, _, xs, _, _, rfl, HGN.out, HO8.out.si, hx, HU8.out.ri, by omega, HB8.out⟩

end Go.Proofs.YtpgnndpjlcihiaaDoor
