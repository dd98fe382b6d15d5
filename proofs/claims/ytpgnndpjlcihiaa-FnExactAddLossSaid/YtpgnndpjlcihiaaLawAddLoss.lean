/-
  FnExactAddLoss: for all arguments the program's AddLoss answers as the reference's, and leaves its arguments as they were. No condition.
-/
import Derived.Test.YtpgnndpjlcihiaaAddLoss
import Derived.Test.YtpgnndpjlcihiaaMarkLoss
import Derived.Test.YtpgnndpjlcihiaaLawRec3
import Derived.Test.YtpgnndpjlcihiaaLawOne3
import Derived.Test.YtpgnndpjlcihiaaLaw
import Derived.Deep.DeepCutAuto
import Derived.Deep.RegionLaw
namespace Go.Proofs.Ytpgnndpjlcihiaa.fnExactAddLoss
open Go.ChangeShapes Go.WideShapes Go.ChangeAt Go.RowKit

set_option maxRecDepth 100000 in
set_option maxHeartbeats 1000000 in
theorem walk (n0 : Int) (v1 : Value) (xs1 : List (Int × Int × Int)) (rf2 rt2 rl2 : Int) (w : World) (hv1 : SI P3 w v1 xs1) :
    Calls Try.prog 9 #[.int .i64 n0, v1, .agg #[.int .i64 rf2, .int .i64 rt2, .int .i64 rl2]] w fun e w' => e = .returned (.bool true) ∧ Below w.heap.size w w' := by
  obtain ⟨a1, cap1, rfl⟩ := hv1.shape
  have hl1 := hv1.len
  have HV1 := Lib.hid hv1
  clear hv1
  by_cases hb1big : xs1.length ≤ 1048576
  · have hb1ok := hb1big
    have C1 := fun (W : World) (u1 : Value) (h1 : SI P3 W u1 xs1) => specAddLoss_any n0 u1 xs1 rf2 rt2 rl2 W h1
    have C2 := fun (W : World) (u1 : Value) (h1 : SI P3 W u1 xs1) => implAddLoss_any n0 u1 xs1 rf2 rt2 rl2 W h1
    have hlen0 := valAdd_len n0 xs1 (rf2, rt2, rl2)
    generalize valAdd n0 xs1 (rf2, rt2, rl2) = r at C1 C2 hlen0
    obtain ⟨r0, r1⟩ := r
    simp only at C1 C2 hlen0
    have D1 := Lib.hid C1
    have D2 := Lib.hid C2
    clear C1 C2
    have q0 : decide (r0 = r0) = true := by simp
    have q1 : (r1 != r1) = false := by simp
    have t1 : decide (xs1 = xs1) = true := by simp
    have zz1 : decide ((1048576 : Int) - (xs1.length : Int) < 0) = false := by rw [decide_eq_false_iff_not]; omega
    have hB := (Below.refl w.heap.size w).alloc (Nat.le_refl _) (.cells #[.int .i64 rf2, .int .i64 rt2, .int .i64 rl2] 43)
    have cba := cell3a w (.int .i64 rf2) (.int .i64 rt2) (.int .i64 rl2) 43
    have cbb := cell3b w (.int .i64 rf2) (.int .i64 rt2) (.int .i64 rl2) 43
    have cbc := cell3c w (.int .i64 rf2) (.int .i64 rt2) (.int .i64 rl2) 43
    have hzb : w.heap.size < (w.alloc (.cells #[.int .i64 rf2, .int .i64 rt2, .int .i64 rl2] 43)).heap.size := by simp
    have HVB := Lib.hid (HV1.out.below hB)
    have HB := Lib.hid hB
    clear hB
    go_enter Try.func9, Try.ntmps9
    go_wp2_with fail
    generalize w.alloc (.cells #[.int .i64 rf2, .int .i64 rt2, .int .i64 rl2] 43) = wb at cba cbb cbc hzb HVB HB ⊢
    refine (szLoss_any _ xs1 _ wb HVB.out (by omega) (by omega)).mono ?_
    rintro e w' ⟨rfl, rfl⟩
    rw [if_neg (show ¬ ((1048576 : Int) < (xs1.length : Int)) by omega)]
    have HD := Lib.hid (show Below wb.heap.size wb wb.drew from (Below.refl _ _).drew)
    have hzz : w.heap.size < wb.drew.heap.size := hzb
    have cza : wb.drew.cell? ⟨w.heap.size, 0, none⟩ = some (.int .i64 rf2) := cba
    have czb : wb.drew.cell? ⟨w.heap.size, 1, none⟩ = some (.int .i64 rt2) := cbb
    have czc : wb.drew.cell? ⟨w.heap.size, 2, none⟩ = some (.int .i64 rl2) := cbc
    go_upto_region 5 with fail
    go_cut [8, 9] (fun y c w3 => c = .int .i64 r1 ∧ OS P3 46 w3 wb.heap.size y r0 ∧ Below wb.heap.size wb w3)
    case first =>
      go_region_law (first
        | (go_simp; go_at_call 32; refine (D1.out w2 _ (oc1.ri.below hb2)).mono ?_; rintro e w3 ⟨y0, rfl, oy0, hb3⟩; have hbX := bthen (bthen (bthen HD.out hb1) hb2) hb3; replace oy0 := OS.mono oy0 (bthen (bthen HD.out hb1) hb2).size)
        | (go_simp; go_at_call 32; refine (D1.out w2 _ (oc1.ri)).mono ?_; rintro e w3 ⟨y0, rfl, oy0, hb3⟩; have hbX := bthen (bthen (bthen HD.out hb1) hb2) hb3; replace oy0 := OS.mono oy0 (bthen (bthen HD.out hb1) hb2).size)
        | (go_simp; go_at_call 17; refine (toLossS_any _ xs1 wb.drew (HVB.out.below HD.out) (by omega)).mono ?_; rintro e w1 ⟨c1, rfl, oc1, hb1⟩; have ea := (hb1.cell (p := ⟨w.heap.size, 0, none⟩) hzz).trans cza; have eb := (hb1.cell (p := ⟨w.heap.size, 1, none⟩) hzz).trans czb; have ec := (hb1.cell (p := ⟨w.heap.size, 2, none⟩) hzz).trans czc)
        | (go_simp; go_at_call 17; refine (toLossS_any _ xs1 w1 (HVB.out.below (bthen HD.out hb1)) (by omega)).mono ?_; rintro e w2 ⟨c1, rfl, oc1, hb2⟩)
        | (go_simp; go_at_call 33; refine (toLoss_any rf2 rt2 rl2 wb.drew).mono ?_; rintro e w1 ⟨rfl, hb1⟩)
        | (go_simp; go_at_call 33; refine (toLoss_any rf2 rt2 rl2 w1).mono ?_; rintro e w2 ⟨rfl, hb2⟩))
      all_goals (go_wp2_with fail; go_meet; exact ⟨rfl, oy0, hbX⟩)
    case rest =>
      clear hzz cza czb czc
      obtain ⟨rfl, oy0, hb3⟩ := hcut
      rename World => w3
      go_wp2_with fail
      refine (toLossS_any _ xs1 _ (HVB.out.below hb3) (by omega)).mono ?_
      rintro e w4 ⟨x1, rfl, ox1, hb4⟩
      have f4a := ((bthen hb3 hb4).cell (p := ⟨w.heap.size, 0, none⟩) hzb).trans cba
      have f4b := ((bthen hb3 hb4).cell (p := ⟨w.heap.size, 1, none⟩) hzb).trans cbb
      have f4c := ((bthen hb3 hb4).cell (p := ⟨w.heap.size, 2, none⟩) hzb).trans cbc
      go_wp2_with fail
      refine (toLoss_any rf2 rt2 rl2 _).mono ?_
      rintro e w5 ⟨rfl, hb5⟩
      clear f4a f4b f4c
      go_wp2_with fail
      refine (D2.out _ _ (ox1.ri.below hb5)).mono ?_
      rintro e w6 ⟨g0, rfl, og0, hb6⟩
      go_wp2_with fail
      refine (eqLossS_any _ _ r0 r0 _ og0.ri (oy0.ri.below (bthen (bthen hb4 hb5) hb6))).mono ?_
      rintro e w7 ⟨rfl, hb7⟩
      go_wp2_with fail
      refine (toLossS_any _ xs1 _ (HVB.out.below (bthen (bthen (bthen (bthen hb3 hb4) hb5) hb6) hb7)) (by omega)).mono ?_
      rintro e w8 ⟨z1, rfl, oz1, hb8⟩
      go_wp2_with fail
      refine (eqLossS_any _ _ xs1 xs1 _ (ox1.ri.below (bthen (bthen (bthen hb5 hb6) hb7) hb8)) oz1.ri).mono ?_
      rintro e w9 ⟨rfl, hb9⟩
      have hT9 := bthen (bthen (bthen (bthen (bthen (bthen hb3 hb4) hb5) hb6) hb7) hb8) hb9
      have OX1 := (ox1.below (bthen (bthen (bthen (bthen hb5 hb6) hb7) hb8) hb9))
      have OG0 := (og0.below (bthen (bthen hb7 hb8) hb9))
      have RY0 := (oy0.ri.below (bthen (bthen (bthen (bthen (bthen hb4 hb5) hb6) hb7) hb8) hb9))
      have apg1_0 := Lib.hid ((apart_lt ox1.lt og0.lt ((hb5).size)).1)
      have apy1_0 := Lib.hid ((apart_lt oy0.lt ox1.lt (Nat.le_refl _)).2)
      have apgy0 := Lib.hid ((apart_lt oy0.lt og0.lt ((bthen hb4 hb5).size)).2)
      have sx1 := hb3.size
      have sg0 := (bthen (bthen hb3 hb4) hb5).size
      go_wp2_with fail
      refine (markLossS_any _ xs1 _ (1) _ (by omega) _ OX1 (by omega) (by omega)).mono ?_
      rintro e w10 ⟨rfl, om1, gm1⟩
      have hT10 := bgrown hT9 gm1 (fun k hk => Nat.le_trans sx1 (ox1.lt k hk).1)
      have OG0 := OG0.apart gm1 apg1_0.out
      have RY0 := RY0.grown gm1 apy1_0.out
      go_wp2_with fail
      refine (eqLossS_any _ _ r0 r0 _ (OG0.ri) RY0).mono ?_
      rintro e w11 ⟨rfl, hb11⟩
      have hT11 := bthen hT10 (hb11)
      have OG0 := (OG0.below (hb11))
      have RY0 := (RY0.below hb11)
      go_wp2_with fail
      refine (markLossS_any _ r0 _ (1) _ (by omega) _ OG0 (by omega) (by omega)).mono ?_
      rintro e w12 ⟨rfl, on0, gn0⟩
      have hT12 := bgrown hT11 gn0 (fun k hk => Nat.le_trans sg0 (og0.lt k hk).1)
      have RY0 := RY0.grown gn0 apgy0.out
      go_wp2_with fail
      refine (heldLossS_any _ r0.length 1 _ (by omega) _ on0.ri (by omega) (by omega)).mono ?_
      rintro e w' ⟨rfl, rfl⟩
      have HVC := Lib.hid (HVB.out.below hT12)
      have HD2 := Lib.hid (show Below w12.heap.size w12 w12.drew from (Below.refl _ _).drew)
      have hzz : w.heap.size < w12.drew.heap.size := Nat.lt_of_lt_of_le hzb hT12.size
      have cya := (hT12.cell (p := ⟨w.heap.size, 0, none⟩) hzb).trans cba
      have cyb := (hT12.cell (p := ⟨w.heap.size, 1, none⟩) hzb).trans cbb
      have cyc := (hT12.cell (p := ⟨w.heap.size, 2, none⟩) hzb).trans cbc
      have cza : w12.drew.cell? ⟨w.heap.size, 0, none⟩ = some (.int .i64 rf2) := cya
      have czb : w12.drew.cell? ⟨w.heap.size, 1, none⟩ = some (.int .i64 rt2) := cyb
      have czc : w12.drew.cell? ⟨w.heap.size, 2, none⟩ = some (.int .i64 rl2) := cyc
      have HT12 := Lib.hid hT12
      have HRY := Lib.hid RY0
      have HON := Lib.hid on0
      clear hb4 hb5 hb6 hb7 hb8 hb9 hT9 hT10 hT11 hT12 gm1 gn0 OX1 OG0 RY0 om1 on0 ox1 og0 oy0 oz1 hb3
      go_upto_region 24 with fail
      go_cut [16, 17] (fun y c w3 => c = .int .i64 r1 ∧ OS P3 46 w3 w12.heap.size y r0 ∧ Below w12.heap.size w12 w3)
      case first =>
        go_region_law (first
          | (go_simp; go_at_call 34; refine (D2.out w2 _ (oc1.ri.below hb2)).mono ?_; rintro e w3 ⟨h0, rfl, oh0, hb3⟩; have hbX := bthen (bthen (bthen HD2.out hb1) hb2) hb3; replace oh0 := OS.mono oh0 (bthen (bthen HD2.out hb1) hb2).size)
          | (go_simp; go_at_call 34; refine (D2.out w2 _ (oc1.ri)).mono ?_; rintro e w3 ⟨h0, rfl, oh0, hb3⟩; have hbX := bthen (bthen (bthen HD2.out hb1) hb2) hb3; replace oh0 := OS.mono oh0 (bthen (bthen HD2.out hb1) hb2).size)
          | (go_simp; go_at_call 17; refine (toLossS_any _ xs1 w12.drew (HVC.out.below HD2.out) (by omega)).mono ?_; rintro e w1 ⟨c1, rfl, oc1, hb1⟩; have ea := (hb1.cell (p := ⟨w.heap.size, 0, none⟩) hzz).trans cza; have eb := (hb1.cell (p := ⟨w.heap.size, 1, none⟩) hzz).trans czb; have ec := (hb1.cell (p := ⟨w.heap.size, 2, none⟩) hzz).trans czc)
          | (go_simp; go_at_call 17; refine (toLossS_any _ xs1 w1 (HVC.out.below (bthen HD2.out hb1)) (by omega)).mono ?_; rintro e w2 ⟨c1, rfl, oc1, hb2⟩)
          | (go_simp; go_at_call 33; refine (toLoss_any rf2 rt2 rl2 w12.drew).mono ?_; rintro e w1 ⟨rfl, hb1⟩)
          | (go_simp; go_at_call 33; refine (toLoss_any rf2 rt2 rl2 w1).mono ?_; rintro e w2 ⟨rfl, hb2⟩))
        all_goals (go_wp2_with fail; go_meet; exact ⟨rfl, oh0, hbX⟩)
      case rest =>
        obtain ⟨rfl, oh0, hb15⟩ := hcut
        rename World => w15
        go_wp2_with fail
        refine (eqLossS_any _ _ r0 r0 _ oh0.ri (HRY.out.below hb15)).mono ?_
        rintro e w16 ⟨rfl, hb16⟩
        go_wp2_with fail
        refine (heldLossS_any _ r0.length 1 _ (by omega) _ (HON.out.ri.below (bthen hb15 hb16)) (by omega) (by omega)).mono ?_
        rintro e w' ⟨rfl, rfl⟩
        go_wp2_with fail
        go_ret
        exact ⟨rfl, bthen (bthen HB.out HT12.out) (bthen hb15 hb16)⟩
  · skip
    have hB := (Below.refl w.heap.size w).alloc (Nat.le_refl _) (.cells #[.int .i64 rf2, .int .i64 rt2, .int .i64 rl2] 43)
    have cba := cell3a w (.int .i64 rf2) (.int .i64 rt2) (.int .i64 rl2) 43
    have cbb := cell3b w (.int .i64 rf2) (.int .i64 rt2) (.int .i64 rl2) 43
    have cbc := cell3c w (.int .i64 rf2) (.int .i64 rt2) (.int .i64 rl2) 43
    have hzb : w.heap.size < (w.alloc (.cells #[.int .i64 rf2, .int .i64 rt2, .int .i64 rl2] 43)).heap.size := by simp
    have HVB := Lib.hid (HV1.out.below hB)
    have HB := Lib.hid hB
    clear hB
    go_enter Try.func9, Try.ntmps9
    go_wp2_with fail
    generalize w.alloc (.cells #[.int .i64 rf2, .int .i64 rt2, .int .i64 rl2] 43) = wb at cba cbb cbc hzb HVB HB ⊢
    refine (szLoss_any _ xs1 _ wb HVB.out (by omega) (by omega)).mono ?_
    rintro e w' ⟨rfl, rfl⟩
    rw [if_pos (show (1048576 : Int) < (xs1.length : Int) by omega)]
    go_wp2_with fail
    go_ret
    exact ⟨rfl, HB.out⟩

set_option maxRecDepth 100000 in
theorem lifted (os : Os) (started : os.Started) (H : Type) (enc : TypeId × Value → H) :
    ReturnsInHanded {} Try.checked os 9 .any (Rows.fnExactAddLossSpec.pre6 enc Try.prog Try.f9 Rows.fnExactAddLossRow.domain false) (Rows.fnExactAddLossSpec.post enc Try.prog Try.f9 false true false false) := by
  refine returnsInHanded_of_change (C := Try.checked) own started (by kernel_rfl) Try.func9
    (ChangeSpec.witness6 (enc := enc) (C := Try.checked) false ⟨#[], #[.int .i64 0, .slice none 0 0, .agg #[.int .i64 0, .int .i64 0, .int .i64 0]], []⟩ 8 (by kernel_rfl) (by kernel_rfl) (by kernel_rfl) (by kernel_rfl)) ?_
  intro W base args ds gs before hval0 hW _ _
  have hval : ∀ (j : Nat) t v, Try.f9.params[j]? = some t → args[j]? = some v → Value.okWide Try.prog W .any base t v := hval0
  have hW' := hW
  obtain ⟨p, q, hA0, hV, rfl, _, _⟩ := hW
  have hA : DataW.TrodAll enc Try.prog W 0 (fun _ => true) true Try.f9.params.toList args.toList ds p := hA0
  obtain ⟨rfl, rfl⟩ := trodVars_none hV
  have hlt0 : ∀ x ∈ p, x.block < W.heap.size := fun x hx => by simpa using hW'.lt x (by simpa using hx)
  rw [Try.params9] at hA hval
  obtain ⟨b0, vs0, d0, ds0, p0, q0, hargs0, rfl, rfl, h0, r0⟩ := trodAll_cons hA
  obtain ⟨b1, vs1, d1, ds1, p1, q1, hargs1, rfl, rfl, h1, r1⟩ := trodAll_cons r0
  obtain ⟨b2, vs2, d2, ds2, p2, q2, hargs2, rfl, rfl, h2, r2⟩ := trodAll_cons r1
  obtain ⟨e1, rfl, e2⟩ := trodAll_nil r2
  have hargs : args = #[b0, b1, b2] := by
    cases args
    simp_all
  subst hargs
  obtain ⟨n0, rfl, _, _, _⟩ := open_int Try.underlying2 (hval 0 _ b0 rfl rfl) h0
  obtain ⟨xs1, hx1⟩ := open_SI3 Try.underlying22 ⟨_, _, _, Try.underlying43, by kernel_rfl, ⟨rfl, rfl, rfl⟩, ⟨by kernel_rfl, by kernel_rfl, by kernel_rfl⟩, Try.underlying2, Try.underlying2, Try.underlying2⟩ (hval 1 _ b1 rfl rfl) h1 (fun x hx => hlt0 x (by simp [hx]))
  obtain ⟨rf2, rt2, rl2, rfl⟩ := open_rec3 ⟨_, _, _, Try.underlying43, by kernel_rfl, ⟨rfl, rfl, rfl⟩, ⟨by kernel_rfl, by kernel_rfl, by kernel_rfl⟩, Try.underlying2, Try.underlying2, Try.underlying2⟩ (hval 2 _ b2 rfl rfl) h2
  refine (walk n0 b1 xs1 rf2 rt2 rl2 W hx1).mono fun e W' ⟨he, hb⟩ => ?_
  subst he
  exact ⟨_, rfl, law_post laidOut (by decide +kernel) (by kernel_rfl) Try.underlying4 rfl hW' rfl hb⟩

theorem proved : Rows.FnExactAddLossSaid :=
  OpenClaim.holds_of_wide 9 Try.f9 rfl rfl rfl rfl rfl rfl rfl ⟨rfl, rfl, rfl, rfl, rfl⟩ rfl rfl rfl rfl rfl (by kernel_rfl) Try.func9 (by kernel_rfl)
    (of_decide_eq_true (by kernel_rfl)) (by unfold Func.isWrapper; first | (rw [if_pos (by decide +kernel)]; kernel_rfl) | (rw [if_neg (by decide +kernel)]; exact ⟨rfl, rfl⟩))
    (fun os started H enc _ => lifted os started H enc)
end Go.Proofs.Ytpgnndpjlcihiaa.fnExactAddLoss
