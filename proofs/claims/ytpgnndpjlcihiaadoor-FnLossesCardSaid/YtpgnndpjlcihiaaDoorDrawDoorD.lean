/-
  What FnLosses draws, fourth part: DrawSameLosses.
-/
import Derived.Test.YtpgnndpjlcihiaaDoorDrawDoor
import Derived.Test.YtpgnndpjlcihiaaDoorAppL
import Derived.Deep.DeepCutAuto
import Derived.Deep.RegionHeld3
import Derived.Deep.RegionWith
namespace Go.Proofs.YtpgnndpjlcihiaaDoor
open Go.RowKit

theorem own_apart3 {T T' : TypeId} {w w1 : World} {base : Nat} {v u : Value} {xs ys : List (Int × Int × Int)} (h1 : OS P3 T w base v xs) (h2 : OS P3 T' w1 w.heap.size u ys) : v.ownBlock = none ∨ v.ownBlock ≠ u.ownBlock := by
  cases h : v.ownBlock with
  | none => exact .inl rfl
  | some q =>
    refine .inr fun e => ?_
    have a1 := (h1.lt q h).2
    have a2 := (h2.lt q e.symm).1
    omega

set_option maxRecDepth 100000 in
set_option maxHeartbeats 8000000 in
theorem DrawSameLosses_any (v : Value) (m : Nat) (w : World) (hv : BI w v m) :
    Calls Tryd.prog 22 #[v] w fun e w' => ∃ (v1 : Value) (xs : List (Int × Int × Int)) (v2 : Value) (ys : List (Int × Int × Int)), e = .returned (.tuple #[v1, v2]) ∧ SI P3 w' v1 xs ∧ xs.length ≤ 5 ∧ SI P3 w' v2 ys ∧ ys.length ≤ 6 ∧ Below w.heap.size w w' := by
  have HV := Lib.hid hv
  clear hv
  obtain ⟨j0, hj, jz0, jz1, jz2⟩ := info_parts infoLoss
  have HJ := Lib.hid hj
  clear hj
  go_enter Tryd.func22, Tryd.ntmps22
  go_wp2_with fail
  refine (from_any v m _ HV.out).mono ?_
  rintro e w1 ⟨rfl, hs1, hb1⟩
  have hne : 0 < m → v.ownBlock ≠ some w.heap.size := fun hp e => by have := HV.out.own_lt hp e; omega
  obtain ⟨b, hbd⟩ : ∃ b, b = w.heap.size := ⟨_, rfl⟩
  obtain ⟨base, hbs⟩ : ∃ base, base = w.heap.size := ⟨_, rfl⟩
  have hs1' : SrcAt w1 base b v 0 := by rw [hbd, hbs]; exact hs1
  rw [← hbd] at hne
  have hblt := hs1'.lt.2
  have HB1 := Lib.hid hb1
  have HV0 := Lib.hid (HV.out.below hb1)
  have C1 := Lib.hid (l15Draw_any v m b base w1 HV0.out hs1' hne)
  have HHB := Lib.hid (show ∀ q, some b = some q → w.heap.size ≤ q from fun q e => by have := Option.some.inj e; omega)
  rw [← hbd]
  clear hs1 hs1' hb1 hbd hbs
  go_wp2_with fail
  refine C1.out.mono ?_
  rintro e w2 ⟨S, v1, xs, rfl, _, _, ho2, hx, hg2, hs2⟩
  have HO2 := Lib.hid ho2
  have HG2 := Lib.hid hg2
  have hne1 : v1.ownBlock ≠ some b := fun e => by
    have := (HO2.out.lt b e).1
    omega
  have hsz12 := hg2.size
  have HVV2 := Lib.hid (HV0.out.grown HG2.out hne)
  have HBN := Lib.hid ((Below.refl w2.heap.size w2).alloc (Nat.le_refl _) (.cells #[] 25))
  have HON := Lib.hid (OS.lit0 (E := P3) 25 w2 w2.heap.size (Nat.le_refl _))
  have HO3 := Lib.hid (HO2.out.below HBN.out)
  have HS3 := Lib.hid (hs2.below HBN.out)
  have HGA := Lib.hid (grown_below (row := some b) HBN.out)
  have hsz3 := HBN.out.size
  clear ho2 hg2 hs2
  go_upto_region 4 with (
    at_builtin
    refine wpList_appL (E := P3) rfl _ _ 30 rfl 25 j0 _ Tryd.underlying30 HJ.out jz0 rfl jz1 24 jz2 (by decide) w2.heap.size _ [] rfl HON.out _ xs rfl HO3.out.si (by simp; omega) hsz3 ?_
    intro v4 w4 h1 h2
    rw [List.nil_append] at h1
    have HT4 := Lib.hid h1
    have HG4 := Lib.hid (grown_chain HGA.out h2 (fun q hq => (HON.out.lt q hq).1))
    have HS4 := Lib.hid (HS3.out.grown h2 (fun e => by have := (HON.out.lt b e.symm).1; omega))
    have hsz4 := Nat.le_trans hsz3 h2.size
    clear h1 h2)
  have C4 := Lib.hid (one_any v m b base 100 2 w4 (HVV2.out.grown HG4.out hne) HS4.out (by omega) hne)
  go_cut [24] (fun t wx => ∃ yn : Bool, t = .bool yn ∧ (yn = true → 0 < xs.length) ∧ w4.grownBy wx (some b) ∧ Hid (SrcAt wx base b v 102))
  case first =>
    rcases HT4.out.shape with ⟨hsh, hnil⟩ | ⟨g, cap, hsh, hgb, hgl⟩
    · subst hsh
      clear hnil
      go_wp2_with fail
      go_meet
      case rel => exact ⟨false, rfl, by simp, grown_below (Below.refl _ _), Lib.hid (HS4.out.more (by omega))⟩
    · subst hsh
      by_cases h0 : 0 < xs.length
      · have hd1 : decide ((0 : Int) < (xs.length : Int)) = true := decide_eq_true (by omega)
        have hd2 : decide (0 < xs.length) = true := decide_eq_true h0
        go_wp2_with fail
        refine C4.out.mono ?_
        rintro e w6 ⟨yn, rfl, hs6, hg6⟩
        have HS6 := Lib.hid hs6
        clear hs6
        go_wp2_with fail
        go_meet
        case rel => exact ⟨yn, rfl, fun _ => h0, hg6, HS6⟩
      · have hd1 : decide ((0 : Int) < (xs.length : Int)) = false := decide_eq_false (by omega)
        have hd2 : decide (0 < xs.length) = false := decide_eq_false h0
        go_wp2_with fail
        go_meet
        case rel => exact ⟨false, rfl, by simp, grown_below (Below.refl _ _), Lib.hid (HS4.out.more (by omega))⟩
  case rest =>
    obtain ⟨yn, rfl, hyn, hgz, HSX⟩ := hcut
    rename World => wx
    have HTX := Lib.hid (HT4.out.grown hgz (.inr (fun e => by have := (HT4.out.lt b e).1; omega)))
    have HGX := Lib.hid (grownBy_trans HG4.out hgz)
    have hszx := Nat.le_trans hsz4 hgz.size
    have HYN := Lib.hid hyn
    clear hgz hyn
    apply_assumption
    go_cut [7] (fun o wy => ∃ ys, Hid (OS P3 25 wy w2.heap.size o ys) ∧ ys.length ≤ 5 ∧ w2.grownBy wy (some b) ∧ w2.heap.size ≤ wy.heap.size ∧ Hid (SrcAt wy base b v 104))
    case first =>
      cases yn with
      | false =>
        go_wp2_with fail
        go_meet
        case rel => exact ⟨xs, HTX, hx, HGX.out, hszx, Lib.hid (HSX.out.more (by omega))⟩
      | true =>
        have hpos := HYN.out rfl
        obtain ⟨g, cap, hsh, hgb, hgl⟩ : ∃ g cap, _ = Value.slice (some ⟨g, 0, none⟩) xs.length cap ∧ w2.heap.size ≤ g ∧ g < wx.heap.size := by
          rcases HTX.out.shape with ⟨_, hnil⟩ | ⟨g, cap, h1, h2, h3⟩
          · rw [hnil] at hpos; exact absurd hpos (by simp)
          · exact ⟨g, cap, h1, h2, h3⟩
        subst hsh
        have p1 : (0 : Int) < (xs.length : Int) := by omega
        have p2 : decide ((0 : Int) < (xs.length : Int)) = true := decide_eq_true p1
        obtain ⟨_, _, hc2, hf2⟩ := HTX.out.cells3 0 hpos
        obtain ⟨F, hF⟩ : ∃ F : Int → Int, ∀ y, IntKind.i64.wrap ((xs.getD 0 (0, 0, 0)).2.2 + y) = F y := ⟨_, fun _ => rfl⟩
        have HGF := Lib.hid (fun y => show Good (F y) by rw [← hF y]; exact good_wrap _)
        obtain ⟨z0, hz0⟩ : ∃ z0, z0 = (xs.getD 0 (0, 0, 0)).2.2 := ⟨_, rfl⟩
        rw [← hz0] at hc2 hF
        have C5 := fun k => Lib.hid (pick_any v m b base 102 2 (wx.drewN k) (HVV2.out.grown (grownBy_trans HGX.out (grown_below (below_drewN' wx k))) hne) (SrcAt_drewN HSX.out k) (by omega) hne)
        have e2 : wx.cell? ⟨g, 2, none⟩ = some (.int .i64 z0) := by simpa using hc2
        have f2 : wx.frozen? ⟨g, 2, none⟩ = false := by simpa using hf2
        have HZ0 := Lib.hid hz0
        clear hc2 hf2 hz0
        go_wp2_with fail
        go_region_with
          (first
            | (go_at_call 46
               refine (C5 1).out.mono ?_
               rintro e w6 ⟨y, rfl, y0, y6, y1, _, hs6, hg6⟩
               have HS6 := Lib.hid hs6
               have HG6 := Lib.hid (grownBy_quiet 1 hg6)
               have hgb' : ¬ g = b := by omega
               have HT6 := Lib.hid (HTX.out.grown HG6.out (.inr (fun e => hgb' (by simpa [Value.ownBlock] using e))))
               obtain ⟨_, _, hc6, hf6⟩ := HT6.out.cells3 0 hpos
               rw [← HZ0.out] at hc6
               have q2 : w6.cell? ⟨g, 2, none⟩ = some (.int .i64 z0) := by simpa using hc6
               have r2 : w6.frozen? ⟨g, 2, none⟩ = false := by simpa using hf6
               clear hc6 hf6 hs6 hg6))
        all_goals
          obtain ⟨hset, hgs⟩ := HT6.out.set (ys := xs.set 0 ((xs.getD 0 (0, 0, 0)).1, (xs.getD 0 (0, 0, 0)).2.1, F y)) 2 (F y) (HGF.out y) (flat_setZ xs 0 hpos (F y))
          have HSET := Lib.hid hset
          have HG7 := Lib.hid (grown_chain (grownBy_trans HGX.out HG6.out) hgs (fun q e => by have := Option.some.inj e; omega))
          have HS7 := Lib.hid (HS6.out.grown hgs (fun e => hgb' (Option.some.inj e).symm))
          have hsz7 := Nat.le_trans hszx (Nat.le_trans HG6.out.size hgs.size)
          clear hset hgs
          go_wp2_with fail
          go_meet
          case rel => exact ⟨_, HSET, by simpa using hx, HG7.out, hsz7, HS7⟩
    case rest =>
      obtain ⟨ys, HU, hys, hg, hsz, HS⟩ := hcut
      rename World => wy
      have HG := Lib.hid hg
      have C7 := Lib.hid (one_any v m b base 104 5 wy (HVV2.out.grown HG.out hne) HS.out (by omega) hne)
      have HOF := Lib.hid (HO2.out.grown HG.out (.inr hne1))
      have HBF := Lib.hid (bgrown HB1.out (grownBy_trans HG2.out HG.out) HHB.out)
      clear hg HS HTX HGX HSX hszx HT4 HG4 HS4 hsz4
      apply_assumption
      go_wp2_with fail
      refine C7.out.mono ?_
      rintro e w8 ⟨yn8, rfl, hs8, hg8⟩
      have HO8 := Lib.hid (HOF.out.grown hg8 (.inr hne1))
      have HB8 := Lib.hid (bgrown HBF.out hg8 HHB.out)
      have hsz8 := Nat.le_trans hsz hg8.size
      have HU8 := Lib.hid (HU.out.grown hg8 (.inr (fun e => by have := (HU.out.lt b e).1; omega)))
      clear hs8 hg8
      cases yn8 with
      | true =>
        have hsz01 := HB1.out.size
        have HGD := Lib.hid (good3 (show Good 0 by unfold Good; omega) (show Good 0 by unfold Good; omega) (show Good 0 by unfold Good; omega))
        go_wp2_with (
          at_builtin
          refine wpList_appS (E := P3) rfl _ _ 30 rfl 25 _ j0 _ Tryd.underlying30 HJ.out jz0 rfl jz1 24 jz2 (by decide) w2.heap.size _ ys rfl HU8.out (0, 0, 0) _ rfl _ (by simp) rfl HGD.out (by omega) hsz8 ?_
          intro v9 w9 h1 h2 h3
          have H9 := Lib.hid h1
          have HO9 := Lib.hid (HO8.out.grown h2 (own_apart3 HO2.out HU8.out))
          have HB9 := Lib.hid (bgrown HB8.out h2 (fun q e => by have := (HU8.out.lt q e).1; omega))
          clear h1 h2 h3)
        go_ret2
        exact ⟨_, xs, _, _, rfl, HO9.out.si, hx, H9.out.si, by simp; omega, HB9.out⟩
      | false =>
        go_wp2_with fail
        go_ret2
        exact ⟨_, xs, _, ys, rfl, HO8.out.si, hx, HU8.out.si, by omega, HB8.out⟩

end Go.Proofs.YtpgnndpjlcihiaaDoor
