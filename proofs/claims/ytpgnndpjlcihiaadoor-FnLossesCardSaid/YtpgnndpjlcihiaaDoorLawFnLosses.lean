/-
  THE LAW FnLosses: the walk, the lift under the listed tables, and the tied card. No condition.
-/
import Derived.Test.YtpgnndpjlcihiaaDoorDrawDoorB
import Derived.Test.YtpgnndpjlcihiaaDoorDrawDoorC
import Derived.Test.YtpgnndpjlcihiaaDoorDrawDoorD
import Derived.Test.YtpgnndpjlcihiaaDoorF6
import Derived.Test.YtpgnndpjlcihiaaDoorLossLaw
import Derived.Test.YtpgnndpjlcihiaaDoorAgreeFns
import Derived.Test.YtpgnndpjlcihiaaDoorOdd
import Derived.Test.YtpgnndpjlcihiaaDoorLateFns
import Derived.Test.YtpgnndpjlcihiaaDoorBoundImpl
import Derived.Test.YtpgnndpjlcihiaaDoorAddLoss
import Derived.Test.YtpgnndpjlcihiaaDoorSameLosses
import Derived.Test.YtpgnndpjlcihiaaDoorText
import Derived.Test.YtpgnndpjlcihiaaDoorLaw
import Derived.Test.YtpgnndpjlcihiaaDoorLawBytes
import Derived.Test.YtpgnndpjlcihiaaDoorTie
import Derived.Test.YtpgnndpjlcihiaaDoorCards
import Derived.Deep.DeepCutAuto
import Derived.Deep.RegionHeld3
import Derived.Deep.RegionWith
import Derived.ProofKit
import Derived.LaidMore
import Derived.Stop.LaidErr
import Derived.Stop.Joined
import Derived.Lib.LaidTab
import Derived.SevenTiedAt
namespace Go.Proofs.YtpgnndpjlcihiaaDoor.fnLosses
open Go.ChangeShapes Go.WideShapes Go.ChangeAt Go.RowKit

theorem held_next {wl W W2 : World} {P : World → Prop} {R : Prop} (hc : ∀ W, Below wl.heap.size wl W → P W) (hx : Below W.heap.size W W2) (h : Below wl.heap.size wl W ∧ R) : Below wl.heap.size wl W2 ∧ P W2 :=
  ⟨bthen h.1 hx, hc _ (bthen h.1 hx)⟩
theorem loss_pack {sn : Int} {xs : List (Int × Int × Int)} {lL : List Int} (hc : codeL sn xs = 0) (hL : valLateL sn xs = (lL, 0)) :
    ∃ s : Nat, s ≤ 9 ∧ sn = (s : Int) ∧ lL = mapL (valLate s xs) s ∧ ∀ k : Nat, k < s → ∃ lo hi : Int, valLeakB (s : Int) xs (k : Int) = (lo, hi, 0) ∧ 0 ≤ lo ∧ lo ≤ valLate s xs k ∧ (0 ≤ hi → valLate s xs k ≤ hi) := by
  have hn := okLosses_n (codeL_zero hc).1
  unfold valLateL at hL
  rw [if_pos hc] at hL
  have e := (Prod.mk.inj hL).1
  have hsn : sn = (sn.toNat : Int) := by omega
  refine ⟨sn.toNat, by omega, hsn, e.symm, fun k hk => ?_⟩
  obtain ⟨lo, hi, h⟩ := bounds_pack hc hk
  rw [← hsn]
  exact ⟨lo, hi, h⟩
theorem loss_tells {s : Nat} {xs : List (Int × Int × Int)} (hc : codeL (s : Int) xs = 0) : valLeaks (s : Int) xs (mapL (valLate s xs) s) = (true, 0) := by
  have := late_explains hc
  rw [Int.toNat_natCast] at this
  exact this
theorem self_eq {v u : Value} {l : List (Int × Int × Int)} (W : World) (hv : SI P3 W v l) (hu : SI P3 W u l) :
    Calls Tryd.prog 25 #[v, u] W fun e w' => e = .returned (.bool true) ∧ Below W.heap.size W w' := by
  have h := specSameLosses_any v l u l W hv hu
  rw [show sameLosses l l = true by simp [sameLosses]] at h
  exact h

set_option maxRecDepth 100000 in
set_option maxHeartbeats 100000000 in
theorem walk (B : Nat) (c0 : Value) (n : Nat) (w : World) (hc : BI w c0 n) (hp : Pows B w) :
    Calls Tryd.prog 4 #[c0] w fun e w' => e = .returned (.bool true) ∧ Below w.heap.size w w' := by
  have HC := Lib.hid hc
  have HP := Lib.hid hp
  clear hc hp
  go_enter Tryd.func4, Tryd.ntmps4
  go_wp2_with fail
  refine (f6big_any c0 n _ HC.out).mono ?_
  rintro e w' ⟨lg, rfl, rfl⟩
  cases lg with
  | true =>
    go_wp2
    go_ret
    exact ⟨rfl, Below.refl _ _⟩
  | false =>
    go_wp2_with fail
    refine (DrawLateLeaks_any c0 n w HC.out).mono ?_
    rintro e w2 ⟨sn, v1, xs, rfl, hgn, ho, hx, hb2⟩
    have HC := Lib.hid (HC.out.below hb2)
    have HP := Lib.hid (HP.out.below hb2)
    have HB := Lib.hid hb2
    have HX := Lib.hid ho
    clear ho
    obtain ⟨a1, c1, hsh⟩ := HX.out.shape
    subst hsh
    obtain ⟨cc, hcc⟩ : ∃ c, codeL sn xs = c := ⟨_, rfl⟩
    obtain ⟨lL, hV⟩ : ∃ l, valLateL sn xs = (l, cc) := ⟨(valLateL sn xs).1, by rw [← hcc]; rfl⟩
    have VL := Lib.hid hV
    have VC := Lib.hid hcc
    clear hV hcc
    obtain ⟨ag, cA, hV⟩ : ∃ x y, valAgree sn xs = (x, y) := ⟨_, _, rfl⟩
    have VA := Lib.hid hV
    clear hV
    obtain ⟨ko, cO, hV⟩ : ∃ x y, valOdd sn xs = (x, y) := ⟨_, _, rfl⟩
    have VO := Lib.hid hV
    clear hV
    clear hb2
    have C := implLateLeaks_any sn _ xs _ HX.out
    rw [VL.out] at C
    simp only at C
    have D := Lib.hid C
    clear C
    go_wp2_with fail
    refine (D.out).mono ?_
    rintro e w3 ⟨v2, rfl, ho, hb3⟩
    have HC := Lib.hid (HC.out.below hb3)
    have HP := Lib.hid (HP.out.below hb3)
    have HX := Lib.hid (HX.out.below hb3)
    have HB := Lib.hid (bthen HB.out hb3)
    have HL := Lib.hid ho.ri
    clear ho
    clear hb3 D
    have C := specLateLeaks_any sn _ xs _ HX.out
    rw [VL.out] at C
    simp only at C
    have D := Lib.hid C
    clear C
    go_wp2_with fail
    refine (D.out).mono ?_
    rintro e w4 ⟨v3, rfl, ho, hb4⟩
    have HC := Lib.hid (HC.out.below hb4)
    have HP := Lib.hid (HP.out.below hb4)
    have HX := Lib.hid (HX.out.below hb4)
    have HL := Lib.hid (HL.out.below hb4)
    have HB := Lib.hid (bthen HB.out hb4)
    have HM := Lib.hid ho.ri
    clear ho
    clear hb4 D
    have C := implLossesAgree_any sn _ xs _ HX.out
    rw [VA.out] at C
    simp only at C
    have D := Lib.hid C
    clear C
    go_wp2_with fail
    refine (D.out).mono ?_
    rintro e w5 ⟨rfl, hb5⟩
    have HC := Lib.hid (HC.out.below hb5)
    have HP := Lib.hid (HP.out.below hb5)
    have HX := Lib.hid (HX.out.below hb5)
    have HL := Lib.hid (HL.out.below hb5)
    have HM := Lib.hid (HM.out.below hb5)
    have HB := Lib.hid (bthen HB.out hb5)
    clear hb5 D
    as_aux_lemma =>
    have C := specLossesAgree_any sn _ xs _ HX.out
    rw [VA.out] at C
    simp only at C
    have D := Lib.hid C
    clear C
    go_wp2_with fail
    refine (D.out).mono ?_
    rintro e w6 ⟨rfl, hb6⟩
    have HC := Lib.hid (HC.out.below hb6)
    have HP := Lib.hid (HP.out.below hb6)
    have HX := Lib.hid (HX.out.below hb6)
    have HL := Lib.hid (HL.out.below hb6)
    have HM := Lib.hid (HM.out.below hb6)
    have HB := Lib.hid (bthen HB.out hb6)
    clear hb6 D
    have C := implFirstOdd_any sn _ xs _ HX.out
    rw [VO.out] at C
    simp only at C
    have D := Lib.hid C
    clear C
    go_wp2_with fail
    refine (D.out).mono ?_
    rintro e w7 ⟨rfl, hb7⟩
    have HC := Lib.hid (HC.out.below hb7)
    have HP := Lib.hid (HP.out.below hb7)
    have HX := Lib.hid (HX.out.below hb7)
    have HL := Lib.hid (HL.out.below hb7)
    have HM := Lib.hid (HM.out.below hb7)
    have HB := Lib.hid (bthen HB.out hb7)
    clear hb7 D
    have C := specFirstOdd_any sn _ xs _ HX.out
    rw [VO.out] at C
    simp only at C
    have D := Lib.hid C
    clear C
    go_wp2_with fail
    refine (D.out).mono ?_
    rintro e w8 ⟨rfl, hb8⟩
    have HC := Lib.hid (HC.out.below hb8)
    have HP := Lib.hid (HP.out.below hb8)
    have HX := Lib.hid (HX.out.below hb8)
    have HL := Lib.hid (HL.out.below hb8)
    have HM := Lib.hid (HM.out.below hb8)
    have HB := Lib.hid (bthen HB.out hb8)
    clear hb8 D
    go_wp2_with fail
    refine (DrawLeaksExplain_any c0 n _ HC.out).mono ?_
    rintro e w9 ⟨an, v8, ys, v9, ls, rfl, hgan, ho, hy, hl9, hly, hb9⟩
    have HC := Lib.hid (HC.out.below hb9)
    have HP := Lib.hid (HP.out.below hb9)
    have HX := Lib.hid (HX.out.below hb9)
    have HL := Lib.hid (HL.out.below hb9)
    have HM := Lib.hid (HM.out.below hb9)
    have HB := Lib.hid (bthen HB.out hb9)
    have HY := Lib.hid ho
    have HLS := Lib.hid hl9
    clear ho hl9
    obtain ⟨a8, c8, hsh⟩ := HY.out.shape
    subst hsh
    obtain ⟨a9, c9, hsh⟩ := HLS.out.shape
    subst hsh
    obtain ⟨ex, cE, hV⟩ : ∃ x y, valLeaks an ys ls = (x, y) := ⟨_, _, rfl⟩
    have VE := Lib.hid hV
    clear hV
    clear hb9
    as_aux_lemma =>
    have C := implLeaksExplain_any an _ ys _ ls _ HY.out HLS.out
    rw [VE.out] at C
    simp only at C
    have D := Lib.hid C
    clear C
    go_wp2_with fail
    refine (D.out).mono ?_
    rintro e w10 ⟨rfl, hb10⟩
    have HC := Lib.hid (HC.out.below hb10)
    have HP := Lib.hid (HP.out.below hb10)
    have HX := Lib.hid (HX.out.below hb10)
    have HL := Lib.hid (HL.out.below hb10)
    have HM := Lib.hid (HM.out.below hb10)
    have HY := Lib.hid (HY.out.below hb10)
    have HLS := Lib.hid (HLS.out.below hb10)
    have HB := Lib.hid (bthen HB.out hb10)
    clear hb10 D
    have C := specLeaksExplain_any an _ ys _ ls _ HY.out HLS.out
    rw [VE.out] at C
    simp only at C
    have D := Lib.hid C
    clear C
    go_wp2_with fail
    refine (D.out).mono ?_
    rintro e w11 ⟨rfl, hb11⟩
    have HC := Lib.hid (HC.out.below hb11)
    have HP := Lib.hid (HP.out.below hb11)
    have HX := Lib.hid (HX.out.below hb11)
    have HL := Lib.hid (HL.out.below hb11)
    have HM := Lib.hid (HM.out.below hb11)
    have HY := Lib.hid (HY.out.below hb11)
    have HLS := Lib.hid (HLS.out.below hb11)
    have HB := Lib.hid (bthen HB.out hb11)
    clear hb11 D
    go_wp2_with fail
    refine (DrawAddLoss_any c0 n _ HC.out).mono ?_
    rintro e w12 ⟨dn, v11, zs, lx, ly, lz, rfl, hgdn, ho, hz, hgx, hgy, hgz, hb12⟩
    have HC := Lib.hid (HC.out.below hb12)
    have HP := Lib.hid (HP.out.below hb12)
    have HX := Lib.hid (HX.out.below hb12)
    have HL := Lib.hid (HL.out.below hb12)
    have HM := Lib.hid (HM.out.below hb12)
    have HB := Lib.hid (bthen HB.out hb12)
    have HZ := Lib.hid ho
    clear ho
    obtain ⟨a11, c11, hsh⟩ := HZ.out.shape
    subst hsh
    obtain ⟨lA, cD, hV⟩ : ∃ x y, valAdd dn zs (lx, ly, lz) = (x, y) := ⟨_, _, rfl⟩
    have VD := Lib.hid hV
    clear hV
    clear hb12
    have HBX := Lib.hid ((Below.refl w12.heap.size w12).alloc (Nat.le_refl _) (.cells #[.int .i64 lx, .int .i64 ly, .int .i64 lz] 25))
    have HR := Lib.hid (BoxAt.new w12 lx ly lz)
    have HC := Lib.hid (HC.out.below HBX.out)
    have HP := Lib.hid (HP.out.below HBX.out)
    have HX := Lib.hid (HX.out.below HBX.out)
    have HL := Lib.hid (HL.out.below HBX.out)
    have HM := Lib.hid (HM.out.below HBX.out)
    have HZ := Lib.hid (HZ.out.below HBX.out)
    have HB := Lib.hid (bthen HB.out HBX.out)
    clear HBX
    as_aux_lemma =>
    obtain ⟨⟨k0, k1, k2⟩, f0, f1, f2⟩ := HR.out.cells
    have C := implAddLoss_any dn _ zs lx ly lz _ HZ.out
    rw [VD.out] at C
    simp only at C
    have D := Lib.hid C
    clear C
    go_wp2_with fail
    generalize w12.alloc (.cells #[.int .i64 lx, .int .i64 ly, .int .i64 lz] 25) = wl at *
    refine D.out.mono ?_
    rintro e w13 ⟨v12, rfl, ho, hb13⟩
    have HC := Lib.hid (HC.out.below hb13)
    have HP := Lib.hid (HP.out.below hb13)
    have HX := Lib.hid (HX.out.below hb13)
    have HL := Lib.hid (HL.out.below hb13)
    have HM := Lib.hid (HM.out.below hb13)
    have HZ := Lib.hid (HZ.out.below hb13)
    have HR := Lib.hid (HR.out.grown (grown_below (row := none) hb13) (by simp))
    have HB := Lib.hid (bthen HB.out hb13)
    have HA1 := Lib.hid ho.ri
    clear hb13 D k0 k1 k2 f0 f1 f2 ho
    obtain ⟨⟨k0, k1, k2⟩, f0, f1, f2⟩ := HR.out.cells
    have C := specAddLoss_any dn _ zs lx ly lz _ HZ.out
    rw [VD.out] at C
    simp only at C
    have D := Lib.hid C
    clear C
    go_wp2_with fail
    refine D.out.mono ?_
    rintro e w14 ⟨v13, rfl, ho, hb14⟩
    have HC := Lib.hid (HC.out.below hb14)
    have HP := Lib.hid (HP.out.below hb14)
    have HX := Lib.hid (HX.out.below hb14)
    have HL := Lib.hid (HL.out.below hb14)
    have HM := Lib.hid (HM.out.below hb14)
    have HZ := Lib.hid (HZ.out.below hb14)
    have HA1 := Lib.hid (HA1.out.below hb14)
    have HB := Lib.hid (bthen HB.out hb14)
    have HA2 := Lib.hid ho.ri
    clear hb14 D k0 k1 k2 f0 f1 f2 ho HR
    as_aux_lemma =>
    go_wp2_with fail
    refine (DrawSameLosses_any c0 n _ HC.out).mono ?_
    rintro e w15 ⟨v14, ps, v15, qs, rfl, hP, hpl, hQ, hql, hb15⟩
    have HC := Lib.hid (HC.out.below hb15)
    have HP := Lib.hid (HP.out.below hb15)
    have HX := Lib.hid (HX.out.below hb15)
    have HL := Lib.hid (HL.out.below hb15)
    have HM := Lib.hid (HM.out.below hb15)
    have HA1 := Lib.hid (HA1.out.below hb15)
    have HA2 := Lib.hid (HA2.out.below hb15)
    have HB := Lib.hid (bthen HB.out hb15)
    have HPS := Lib.hid hP
    have HQS := Lib.hid hQ
    clear hP hQ
    clear hb15
    go_wp2_with fail
    refine (DrawLossText_any c0 n _ HC.out).mono ?_
    rintro e w16 ⟨tx, ty, tz, rfl, hgtx, hgty, hgtz, hb16⟩
    have HC := Lib.hid (HC.out.below hb16)
    have HP := Lib.hid (HP.out.below hb16)
    have HX := Lib.hid (HX.out.below hb16)
    have HL := Lib.hid (HL.out.below hb16)
    have HM := Lib.hid (HM.out.below hb16)
    have HA1 := Lib.hid (HA1.out.below hb16)
    have HA2 := Lib.hid (HA2.out.below hb16)
    have HPS := Lib.hid (HPS.out.below hb16)
    have HQS := Lib.hid (HQS.out.below hb16)
    have HB := Lib.hid (bthen HB.out hb16)
    clear hb16
    have HBX := Lib.hid ((Below.refl w16.heap.size w16).alloc (Nat.le_refl _) (.cells #[.int .i64 tx, .int .i64 ty, .int .i64 tz] 25))
    have HR := Lib.hid (BoxAt.new w16 tx ty tz)
    have HP := Lib.hid (HP.out.below HBX.out)
    have HX := Lib.hid (HX.out.below HBX.out)
    have HL := Lib.hid (HL.out.below HBX.out)
    have HM := Lib.hid (HM.out.below HBX.out)
    have HA1 := Lib.hid (HA1.out.below HBX.out)
    have HA2 := Lib.hid (HA2.out.below HBX.out)
    have HPS := Lib.hid (HPS.out.below HBX.out)
    have HQS := Lib.hid (HQS.out.below HBX.out)
    have HB := Lib.hid (bthen HB.out HBX.out)
    clear HBX HC
    go_upto_region 18 with fail
    generalize w16.alloc (.cells #[.int .i64 tx, .int .i64 ty, .int .i64 tz] 25) = wl at *
    obtain ⟨⟨k0, k1, k2⟩, _, _, _⟩ := HR.out.cells
    have HZW := Lib.hid HR.out.lt.2
    go_cut [204] (fun t wz => t = .bool false ∧ Below wl.heap.size wl wz)
    case first => as_aux_lemma =>
      have CF := Lib.hid (fun W (h : Below wl.heap.size wl W) => f6ints_any v2 v3 lL W (HL.out.below h) (HM.out.below h))
      have CA := Lib.hid (fun W (h : Below wl.heap.size wl W) => self_eq W (HA1.out.below h) (HA2.out.below h))
      have CI := Lib.hid (fun W (h : Below wl.heap.size wl W) => implSameLosses_any v14 ps v15 qs W (HPS.out.below h) (HQS.out.below h))
      have CJ := Lib.hid (fun W (h : Below wl.heap.size wl W) => specSameLosses_any v14 ps v15 qs W (HPS.out.below h) (HQS.out.below h))
      have CT := Lib.hid (fun W (h : Below wl.heap.size wl W) => implLossText_any B tx ty tz W (HP.out.below h))
      have CU := Lib.hid (fun W (h : Below wl.heap.size wl W) => specLossText_any tx ty tz W)
      have CV := Lib.hid (fun W (h : Below wl.heap.size wl W) => implValidLosses_any sn (.slice a1 xs.length c1) xs W (HX.out.below h))
      have CW := Lib.hid (fun W (h : Below wl.heap.size wl W) => specValidLosses_any sn (.slice a1 xs.length c1) xs W (HX.out.below h))
      have CC := Lib.hid (fun W (h : Below wl.heap.size wl W) => (show (W.cell? ⟨w16.heap.size, 0, none⟩ = some (.int .i64 tx) ∧ W.cell? ⟨w16.heap.size, 1, none⟩ = some (.int .i64 ty) ∧ W.cell? ⟨w16.heap.size, 2, none⟩ = some (.int .i64 tz)) from ⟨(h.cell (p := ⟨w16.heap.size, 0, none⟩) HZW.out).trans k0, (h.cell (p := ⟨w16.heap.size, 1, none⟩) HZW.out).trans k1, (h.cell (p := ⟨w16.heap.size, 2, none⟩) HZW.out).trans k2⟩))
      generalize sameLosses ps qs = sb at CI CJ
      generalize textOf 9 (tx, ty, tz) = S at CT CU
      generalize okLosses sn xs = okb at CV CW
      have hbr := Below.refl wl.heap.size wl
      clear HP HX HL HM HA1 HA2 HPS HQS HR VC VL VA VO VE VD
      simp only [List.append_eq, List.cons_append, List.nil_append]
      go_region_held3 (fun w' => Below wl.heap.size wl w' ∧ w'.cell? ⟨w16.heap.size, 0, none⟩ = some (.int .i64 tx) ∧ w'.cell? ⟨w16.heap.size, 1, none⟩ = some (.int .i64 ty) ∧ w'.cell? ⟨w16.heap.size, 2, none⟩ = some (.int .i64 tz))
        (first
          | assumption
          | exact ⟨below_drewN' _ _, CC.out _ (below_drewN' _ _)⟩)
        (first
          | (go_simp
             go_at_call 24
             with_reducible refine (CF.out _ ?hw).mono ?_
             case hw => exact And.left (by assumption)
             rintro e w2 ⟨rfl, hx⟩
             have hs := held_next CC.out hx (by assumption))
          | (go_simp
             go_at_call 25
             with_reducible refine (CA.out _ ?hw).mono ?_
             case hw => exact And.left (by assumption)
             rintro e w2 ⟨rfl, hx⟩
             have hs := held_next CC.out hx (by assumption))
          | (go_simp
             go_at_call 26
             with_reducible refine (CI.out _ ?hw).mono ?_
             case hw => exact And.left (by assumption)
             rintro e w2 ⟨rfl, hx⟩
             have hs := held_next CC.out hx (by assumption))
          | (go_simp
             go_at_call 25
             with_reducible refine (CJ.out _ ?hw).mono ?_
             case hw => exact And.left (by assumption)
             rintro e w2 ⟨rfl, hx⟩
             have hs := held_next CC.out hx (by assumption))
          | (go_simp
             go_at_call 7
             with_reducible refine (CT.out _ ?hw).mono ?_
             case hw => exact And.left (by assumption)
             rintro e w2 ⟨rfl, hx⟩
             have hs := held_next CC.out hx (by assumption))
          | (go_simp
             go_at_call 5
             with_reducible refine (CU.out _ ?hw).mono ?_
             case hw => exact And.left (by assumption)
             rintro e w2 ⟨rfl, hx⟩
             have hs := held_next CC.out hx (by assumption))
          | (go_simp
             go_at_call 27
             with_reducible refine (CV.out _ ?hw).mono ?_
             case hw => exact And.left (by assumption)
             rintro e w2 ⟨rfl, hx⟩
             have hs := held_next CC.out hx (by assumption))
          | (go_simp
             go_at_call 28
             with_reducible refine (CW.out _ ?hw).mono ?_
             case hw => exact And.left (by assumption)
             rintro e w2 ⟨rfl, hx⟩
             have hs := held_next CC.out hx (by assumption)))
      all_goals (go_wp2_with fail; go_meet; exact ⟨rfl, And.left (by assumption)⟩)
    case rest => as_aux_lemma =>
      obtain ⟨rfl, hbz⟩ := hcut
      rename World => wz
      have HX := Lib.hid (HX.out.below hbz)
      have HL := Lib.hid (HL.out.below hbz)
      have HM := Lib.hid (HM.out.below hbz)
      have HB := Lib.hid (bthen HB.out hbz)
      clear hbz HP HA1 HA2 HPS HQS HR k0 k1 k2 HZW
      go_upto_region 20 with fail
      go_cut [218] (fun t wy => t = .bool false ∧ wz = wy)
      case first => as_aux_lemma =>
        by_cases h0 : cA = 0
        · obtain ⟨e1, e2⟩ := odd_pack VA.out VO.out VC.out h0
          have hb0 : (cA == 0) = true := by rw [h0]; rfl
          clear h0 VA VO VC VL VE VD
          cases ag with
          | false =>
            have e1' : (cO == 0) = true := e1
            clear e1
            go_wp2_with fail
            go_meet
            case rel => exact ⟨rfl, rfl⟩
          | true =>
            have e1' : (cO == 0) = false := e1
            clear e1
            go_wp2_with fail
            go_meet
            case rel => exact ⟨rfl, rfl⟩
        · have hb0 : (cA == 0) = false := by rw [beq_eq_false_iff_ne]; exact h0
          clear h0 VA VO VC VL VE VD
          go_wp2_with fail
          go_meet
          case rel => exact ⟨rfl, rfl⟩
      case rest => as_aux_lemma =>
        obtain ⟨rfl, rfl⟩ := hcut
        clear VA VO VE VD
        by_cases h0 : cc = 0
        · subst h0
          have hb0 : ((0 : Int) != 0) = false := rfl
          obtain ⟨s, hs9, rfl, rfl, e3⟩ := loss_pack VC.out VL.out
          have E3 := Lib.hid e3
          have C := implLeaksExplain_any (s : Int) _ xs _ _ _ HX.out HL.out
          rw [loss_tells VC.out] at C
          simp only at C
          have D := Lib.hid C
          clear C e3 VC VL HL
          go_wp2_with fail
          refine D.out.mono ?_
          rintro e wa ⟨rfl, hb⟩
          have HX := Lib.hid (HX.out.below hb)
          have HM := Lib.hid (HM.out.below hb)
          have HB := Lib.hid (bthen HB.out hb)
          clear hb D
          obtain ⟨aM, cM, hsh⟩ := HM.out.shape
          subst hsh
          have hml := mapL_len (valLate s xs) s
          have HML := Lib.hid hml
          rw [hml]
          clear hml
          go_wp2_with fail
          go_loopw [36] (fun i wr => ∃ k : Nat, k ≤ s ∧ i = .int .i64 k ∧ Below wa.heap.size wa wr) (fun i _ => s - (intOf i).toNat)
          case atStart => exact ⟨0, Nat.zero_le _, rfl, Below.refl _ _⟩
          case round => as_aux_lemma =>
            obtain ⟨k, hk, rfl, hb⟩ := hrel
            by_cases hlt : k < s
            · have hd : decide ((k : Int) < (s : Int)) = true := decide_eq_true (by omega)
              have hdn : decide (k < s) = true := decide_eq_true hlt
              obtain ⟨lo, hi, C1, d0, d1, d2⟩ := E3.out k hlt
              have C := implLeakBounds_any (s : Int) _ xs (k : Int) _ (HX.out.below hb)
              rw [C1] at C
              simp only at C
              have D := Lib.hid C
              have HBR := Lib.hid hb
              obtain ⟨b, off, rfl, hbl, hc⟩ := HM.out.cells (by rw [HML.out]; omega)
              have g0 := hc k (by rw [HML.out]; exact hlt)
              rw [mapL_getD _ _ _ hlt] at g0
              have hks : (k : Int) < s := by omega
              clear hc C C1 hb
              generalize valLate s xs k = x at g0 d1 d2
              go_wp2_with fail
              refine D.out.mono ?_
              rintro e wd ⟨rfl, hb⟩
              have g := ((bthen HBR.out hb).cell (p := ⟨b, off + k, none⟩) hbl).trans g0
              have HB2 := Lib.hid (bthen HBR.out hb)
              have q0 : ((0 : Int) != 0) = false := rfl
              have q1 : decide (x < lo) = false := decide_eq_false (by omega)
              have q2 : decide (lo < 0) = false := decide_eq_false (by omega)
              by_cases h1 : 0 ≤ hi
              · have q3 : decide (0 ≤ hi) = true := decide_eq_true h1
                have q4 : decide (hi < x) = false := decide_eq_false (by have := d2 h1; omega)
                clear h1 d0 d1 d2 hb g0 D
                go_wp2_with fail
                go_round
                case rel => exact ⟨k + 1, by omega, by go_num, HB2.out⟩
                case measure => simp [intOf]; omega
              · have q3 : decide (0 ≤ hi) = false := decide_eq_false h1
                clear h1 d0 d1 d2 hb g0 D
                go_wp2_with fail
                go_round
                case rel => exact ⟨k + 1, by omega, by go_num, HB2.out⟩
                case measure => simp [intOf]; omega
            · obtain rfl : k = s := by omega
              have hd : decide ((k : Int) < (k : Int)) = false := decide_eq_false (by omega)
              have HB2 := Lib.hid (bthen HB.out hb)
              clear hb
              go_wp2_with fail
              go_ret
              exact ⟨rfl, HB2.out⟩
        · have hb0 : (cc != 0) = true := by rw [bne_iff_ne]; exact h0
          clear h0
          go_wp2_with fail
          go_ret
          exact ⟨rfl, HB.out⟩

theorem gPow : Tryd.prog.globalNamed "internal/strconv.uint64pow10" = some 0 := by kernel_rfl
theorem tPow : (Tryd.prog.globals[0]?).map (·.type) = some 107 := by kernel_rfl

/-- The listed tables. -/
def laid3 : List (String × DataW Unit) := [("math/bits.deBruijn32tab", Rows.laid_math_bits_deBruijn32tab), ("math/bits.deBruijn64tab", Rows.laid_math_bits_deBruijn64tab), ("internal/strconv.uint64pow10", Rows.laid_internal_strconv_uint64pow10)]

theorem door_met (os : Os) (args : Array Value) : laidMetH Tryd.prog laid3 ((World.doorLaid Tryd.prog 64 os).forCall (fun _ _ => 0) ⟨#[], args, []⟩).memory :=
  laidMetH_of_parts3 (fuel := 8) (laidMet_of_run' 8 (by kernel_rfl) (by kernel_rfl)) (by kernel_rfl) (by kernel_rfl)

theorem pow_data : (Rows.laid_internal_strconv_uint64pow10 : DataW Unit) = Lib.tabData .u64 Lib.pow10Tab := by kernel_rfl

theorem of_laid {W : World} (h : laidMetH Tryd.prog laid3 W) : Pows W.heap.size W := by
  rw [MakeChecks.laidMetH_plain _ _ _ (by kernel_rfl)] at h
  have h1 := laidMet.tail (laidMet.tail h)
  rw [pow_data] at h1
  exact ⟨Nat.le_refl _, Lib.tabBelow_of_tabIs (Lib.tabIs_of_head gPow tPow Tryd.underlying107 Tryd.underlying82 (by kernel_rfl) (by kernel_rfl) h1)⟩

set_option maxRecDepth 100000 in
theorem lifted (os : Os) (started : os.Started) (H : Type) (enc : TypeId × Value → H) :
    ReturnsInHanded {} Tryd.checked os 4 .any (fun w args => (Rows.fnLossesSpec.pre enc Tryd.prog Tryd.f4 [] false w args ∧ laidMetH Tryd.prog laid3 w) ∧ sizedMet enc Tryd.prog Tryd.f4 (OpenSpec.ofChange Rows.fnLossesSpec) false w args)
      (Rows.fnLossesSpec.post enc Tryd.prog Tryd.f4 false true false false) := by
  refine returnsInHanded_of_change_and (C := Tryd.checked) (X := fun w _ => laidMetH Tryd.prog laid3 w) (fun _ _ _ hh h => h.of_heap hh) own started (by kernel_rfl) Tryd.func4
    (ChangeSpec.witness_shaped (enc := enc) (C := Tryd.checked) (os := os) (X := fun w _ => laidMetH Tryd.prog laid3 w) false (World.doorLaid Tryd.prog 64 os) #[.slice none 0 0] 8 rfl (World.shaped_of_RefB (by kernel_rfl) (by kernel_rfl)) (by kernel_rfl) (by kernel_rfl) (by kernel_rfl) (door_met os _)) ?_
  intro W base args ds gs before hval0 hW _ _ hL _
  have hval : ∀ (j : Nat) t v, Tryd.f4.params[j]? = some t → args[j]? = some v → Value.okWide Tryd.prog W .any base t v := hval0
  have hW' := hW
  obtain ⟨p, q, hA0, hV, rfl, _, _⟩ := hW
  have hA : DataW.TrodAll enc Tryd.prog W 0 (fun _ => true) true Tryd.f4.params.toList args.toList ds p := hA0
  obtain ⟨rfl, rfl⟩ := trodVars_none hV
  have hlt0 : ∀ x ∈ p, x.block < W.heap.size := fun x hx => by simpa using hW'.lt x (by simpa using hx)
  rw [Tryd.params4] at hA hval
  obtain ⟨b0, vs0, d0, ds0, p0, q0, hargs0, rfl, rfl, h0, r0⟩ := trodAll_cons hA
  obtain ⟨e1, rfl, e2⟩ := trodAll_nil r0
  have hargs : args = #[b0] := by
    cases args
    simp_all
  subst hargs
  obtain ⟨n0, hx0⟩ := open_BI Tryd.underlying28 Tryd.underlying5 (by kernel_rfl) (hval 0 _ b0 rfl rfl) h0 (fun x hx => hlt0 x (by simp [hx]))
  refine (walk _ b0 n0 W hx0 (of_laid hL)).mono fun e W' ⟨he, hb⟩ => ?_
  subst he
  exact ⟨_, rfl, law_post laidOut (by decide +kernel) (by kernel_rfl) Tryd.underlying4 rfl hW' rfl hb⟩

theorem said : Rows.FnLossesSaid :=
  OpenClaim.holds_of_wide 4 Tryd.f4 rfl rfl rfl rfl rfl rfl rfl ⟨rfl, rfl, rfl, rfl, rfl⟩ rfl rfl rfl rfl rfl (by kernel_rfl) Tryd.func4 (by kernel_rfl)
    (of_decide_eq_true (by kernel_rfl)) (by unfold Func.isWrapper; first | (rw [if_pos (by decide +kernel)]; kernel_rfl) | (rw [if_neg (by decide +kernel)]; exact ⟨rfl, rfl⟩))
    (fun os started H enc _ => lifted os started H enc)

theorem proved : Rows.FnLossesCardSaid :=
  Claim7.holds_tied_plain_at .later [] [.data, .data, .data] true (true, "135316d1f2cff0a92fb58049609512a64b12f6d5fb9ce7c49cbf426f6b4677cf") false
    said (fun _ h => by cases h) (by kernel_rfl) (fun _ h => by cases h) fnLosses_row_tie rfl ⟨rfl, rfl⟩ (by kernel_rfl) rfl
    (fun f fn hf hfn => by
      obtain rfl : f = 4 := Option.some.inj ((show Tryd.prog.funcNamed "loop.example/g01046/laws.FnLosses" = some 4 by kernel_rfl).symm.trans hf) |>.symm
      obtain rfl : fn = Tryd.f4 := (Option.some.inj (Tryd.func4.symm.trans hfn)).symm
      exact ⟨by kernel_rfl, fun j t ht => by
        rw [Tryd.params4] at ht
        have hm : t ∈ [28] := by simpa using Array.mem_of_getElem? ht
        have hall : ([28].all fun u => !Tryd.prog.wantsStandIn u) = true := by kernel_rfl
        exact (show Tryd.prog.wantsStandIn t = false by simpa using List.all_eq_true.1 hall t hm)⟩)
    (by kernel_rfl)
end Go.Proofs.YtpgnndpjlcihiaaDoor.fnLosses


