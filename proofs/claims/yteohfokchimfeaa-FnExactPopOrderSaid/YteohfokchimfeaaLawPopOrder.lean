/-
  FnExactPopOrder: for all arguments the program's PopOrder answers as the reference's, and leaves its arguments as they were. No condition.
-/
import Derived.Test.YteohfokchimfeaaPopImpl
import Derived.Test.YteohfokchimfeaaLaw
namespace Go.Proofs.Yteohfokchimfeaa.fnExactPopOrder
open Go.ChangeShapes Go.WideShapes Go.ChangeAt Go.RowKit

set_option maxHeartbeats 1000000 in
theorem walk (v0 : Value) (xs0 : List Int) (v1 : Value) (xs1 : List Int) (w : World) (hv0 : RI w v0 xs0) (hv1 : RI w v1 xs1) :
    Calls Try.prog 13 #[v0, v1] w fun e w' => e = .returned (.bool true) ∧ Below w.heap.size w w' := by
  obtain ⟨a0, cap0, rfl⟩ := hv0.shape
  have hl0 := hv0.len
  have HV0 := Lib.hid hv0
  clear hv0
  obtain ⟨a1, cap1, rfl⟩ := hv1.shape
  have hl1 := hv1.len
  have HV1 := Lib.hid hv1
  clear hv1
  by_cases hb0big : xs0.length ≤ 1048576
  · have hb0ok := hb0big
    by_cases hb1big : xs1.length ≤ 1048576
    · have hb1ok := hb1big
      have C1 := fun (W : World) (u0 : Value) (u1 : Value) (h0 : RI W u0 xs0) (h1 : RI W u1 xs1) => specPopOrder_any u0 xs0 u1 xs1 W h0 h1
      have C2 := fun (W : World) (u0 : Value) (u1 : Value) (h0 : RI W u0 xs0) (h1 : RI W u1 xs1) => implPopOrder_any u0 xs0 u1 xs1 W h0 h1 (by omega)
      have hlen0 := valPop_len xs0 xs1
      generalize valPop xs0 xs1 = r at C1 C2 hlen0
      obtain ⟨r0, r1⟩ := r
      simp only at C1 C2 hlen0
      have D1 := Lib.hid C1
      have D2 := Lib.hid C2
      clear C1 C2
      have q0 : decide (r0 = r0) = true := by simp
      have q1 : (r1 != r1) = false := by simp
      have t0 : decide (xs0 = xs0) = true := by simp
      have t1 : decide (xs1 = xs1) = true := by simp
      go_enter Try.func13, Try.ntmps13
      go_wp2_with fail
      refine (toI_any _ xs0 _ HV0.out (by omega)).mono ?_
      rintro e w1 ⟨c0, rfl, oc0, hb1⟩
      go_wp2_with fail
      refine (toI_any _ xs1 _ (HV1.out.below hb1) (by omega)).mono ?_
      rintro e w2 ⟨c1, rfl, oc1, hb2⟩
      go_wp2_with fail
      refine (D1.out _ _ _ (oc0.ri.below hb2) oc1.ri).mono ?_
      rintro e w3 ⟨y0, rfl, oy0, hb3⟩
      go_wp2_with fail
      refine (toI_any _ xs0 _ (HV0.out.below (bthen (bthen hb1 hb2) hb3)) (by omega)).mono ?_
      rintro e w4 ⟨x0, rfl, ox0, hb4⟩
      go_wp2_with fail
      refine (toI_any _ xs1 _ (HV1.out.below (bthen (bthen (bthen hb1 hb2) hb3) hb4)) (by omega)).mono ?_
      rintro e w5 ⟨x1, rfl, ox1, hb5⟩
      go_wp2_with fail
      refine (D2.out _ _ _ (ox0.ri.below hb5) ox1.ri).mono ?_
      rintro e w6 ⟨g0, rfl, og0, hb6⟩
      go_wp2_with fail
      refine (eqI_any _ _ r0 r0 _ og0.ri (oy0.ri.below (bthen (bthen hb4 hb5) hb6))).mono ?_
      rintro e w7 ⟨rfl, hb7⟩
      go_wp2_with fail
      refine (toI_any _ xs0 _ (HV0.out.below (bthen (bthen (bthen (bthen (bthen (bthen hb1 hb2) hb3) hb4) hb5) hb6) hb7)) (by omega)).mono ?_
      rintro e w8 ⟨z0, rfl, oz0, hb8⟩
      go_wp2_with fail
      refine (eqI_any _ _ xs0 xs0 _ (ox0.ri.below (bthen (bthen (bthen hb5 hb6) hb7) hb8)) oz0.ri).mono ?_
      rintro e w9 ⟨rfl, hb9⟩
      go_wp2_with fail
      refine (toI_any _ xs1 _ (HV1.out.below (bthen (bthen (bthen (bthen (bthen (bthen (bthen (bthen hb1 hb2) hb3) hb4) hb5) hb6) hb7) hb8) hb9)) (by omega)).mono ?_
      rintro e w10 ⟨z1, rfl, oz1, hb10⟩
      go_wp2_with fail
      refine (eqI_any _ _ xs1 xs1 _ (ox1.ri.below (bthen (bthen (bthen (bthen hb6 hb7) hb8) hb9) hb10)) oz1.ri).mono ?_
      rintro e w11 ⟨rfl, hb11⟩
      have hT11 := bthen (bthen (bthen (bthen (bthen (bthen (bthen (bthen (bthen (bthen hb1 hb2) hb3) hb4) hb5) hb6) hb7) hb8) hb9) hb10) hb11
      have OX0 := (ox0.below (bthen (bthen (bthen (bthen (bthen (bthen hb5 hb6) hb7) hb8) hb9) hb10) hb11))
      have OX1 := (ox1.below (bthen (bthen (bthen (bthen (bthen hb6 hb7) hb8) hb9) hb10) hb11))
      have OG0 := (og0.below (bthen (bthen (bthen (bthen hb7 hb8) hb9) hb10) hb11))
      have RY0 := (oy0.ri.below (bthen (bthen (bthen (bthen (bthen (bthen (bthen hb4 hb5) hb6) hb7) hb8) hb9) hb10) hb11))
      have apg0_0 := Lib.hid ((apart_lt ox0.lt og0.lt ((hb5).size)).1)
      have apy0_0 := Lib.hid ((apart_lt oy0.lt ox0.lt (Nat.le_refl _)).2)
      have apx0_1 := Lib.hid ((apart_lt ox0.lt ox1.lt (Nat.le_refl _)).1)
      have apg1_0 := Lib.hid ((apart_lt ox1.lt og0.lt (Nat.le_refl _)).1)
      have apy1_0 := Lib.hid ((apart_lt oy0.lt ox1.lt ((hb4).size)).2)
      have apgy0 := Lib.hid ((apart_lt oy0.lt og0.lt ((bthen hb4 hb5).size)).2)
      have sx0 := Nat.le_trans ((bthen (bthen hb1 hb2) hb3).size) (Nat.le_refl _)
      have sx1 := Nat.le_trans ((bthen (bthen (bthen hb1 hb2) hb3) hb4).size) (Nat.le_refl _)
      have sg0 := Nat.le_trans ((bthen (bthen (bthen (bthen hb1 hb2) hb3) hb4) hb5).size) (Nat.le_refl _)
      go_wp2_with fail
      refine (markI_any _ xs0 _ (1) _ (by omega) _ OX0 (by omega) (by omega)).mono ?_
      rintro e w12 ⟨rfl, om0, gm0⟩
      have hT12 := bgrown hT11 gm0 (fun k hk => Nat.le_trans sx0 (ox0.lt k hk).1)
      have OX1 := OX1.apart gm0 apx0_1.out
      have OG0 := OG0.apart gm0 apg0_0.out
      have RY0 := RY0.grown gm0 apy0_0.out
      go_wp2_with fail
      refine (markI_any _ xs1 _ (1 + xs0.length) _ (by omega) _ OX1 (by omega) (by omega)).mono ?_
      rintro e w13 ⟨rfl, om1, gm1⟩
      have hT13 := bgrown hT12 gm1 (fun k hk => Nat.le_trans sx1 (ox1.lt k hk).1)
      have OG0 := OG0.apart gm1 apg1_0.out
      have RY0 := RY0.grown gm1 apy1_0.out
      go_wp2_with fail
      refine (eqI_any _ _ r0 r0 _ (OG0.ri) RY0).mono ?_
      rintro e w14 ⟨rfl, hb14⟩
      have hT14 := bthen hT13 (hb14)
      have OG0 := (OG0.below (hb14))
      have RY0 := (RY0.below hb14)
      go_wp2_with fail
      refine (markI_any _ r0 _ (1) _ (by omega) _ OG0 (by omega) (by omega)).mono ?_
      rintro e w15 ⟨rfl, on0, gn0⟩
      have hT15 := bgrown hT14 gn0 (fun k hk => Nat.le_trans sg0 (og0.lt k hk).1)
      have RY0 := RY0.grown gn0 apgy0.out
      go_wp2_with fail
      refine (heldI_any _ r0.length 1 _ (by omega) _ on0.ri (by omega) (by omega)).mono ?_
      rintro e w' ⟨rfl, rfl⟩
      have RV0 := HV0.out.below hT15
      have RV1 := HV1.out.below hT15
      go_wp2_with fail
      refine (toI_any _ xs0 _ RV0 (by omega)).mono ?_
      rintro e w16 ⟨k0, rfl, ok0, hb16⟩
      go_wp2_with fail
      refine (toI_any _ xs1 _ (RV1.below hb16) (by omega)).mono ?_
      rintro e w17 ⟨k1, rfl, ok1, hb17⟩
      go_wp2_with fail
      refine (D2.out _ _ _ (ok0.ri.below hb17) ok1.ri).mono ?_
      rintro e w18 ⟨h0, rfl, oh0, hb18⟩
      go_wp2_with fail
      refine (eqI_any _ _ r0 r0 _ oh0.ri (RY0.below (bthen (bthen hb16 hb17) hb18))).mono ?_
      rintro e w19 ⟨rfl, hb19⟩
      go_wp2_with fail
      refine (heldI_any _ r0.length 1 _ (by omega) _ (on0.ri.below (bthen (bthen (bthen hb16 hb17) hb18) hb19)) (by omega) (by omega)).mono ?_
      rintro e w' ⟨rfl, rfl⟩
      go_wp2_with fail
      go_ret
      exact ⟨rfl, bthen hT15 (bthen (bthen (bthen hb16 hb17) hb18) hb19)⟩
    · go_enter Try.func13, Try.ntmps13
      go_wp2_with fail
      go_ret
      exact ⟨rfl, Below.refl _ _⟩
  · go_enter Try.func13, Try.ntmps13
    go_wp2_with fail
    go_ret
    exact ⟨rfl, Below.refl _ _⟩

set_option maxRecDepth 100000 in
theorem lifted (os : Os) (started : os.Started) (H : Type) (enc : TypeId × Value → H) :
    ReturnsInHanded {} Try.checked os 13 .any (Rows.fnExactPopOrderSpec.pre6 enc Try.prog Try.f13 Rows.fnExactPopOrderRow.domain false) (Rows.fnExactPopOrderSpec.post enc Try.prog Try.f13 false true false false) := by
  refine returnsInHanded_of_change (C := Try.checked) own started (by kernel_rfl) Try.func13
    (ChangeSpec.witness6 (enc := enc) (C := Try.checked) false ⟨#[], #[.slice none 0 0, .slice none 0 0], []⟩ 8 (by kernel_rfl) (by kernel_rfl) (by kernel_rfl) (by kernel_rfl)) ?_
  intro W base args ds gs before hval0 hW _ _
  have hval : ∀ (j : Nat) t v, Try.f13.params[j]? = some t → args[j]? = some v → Value.okWide Try.prog W .any base t v := hval0
  have hW' := hW
  obtain ⟨p, q, hA0, hV, rfl, _, _⟩ := hW
  have hA : DataW.TrodAll enc Try.prog W 0 (fun _ => true) true Try.f13.params.toList args.toList ds p := hA0
  obtain ⟨rfl, rfl⟩ := trodVars_none hV
  have hlt0 : ∀ x ∈ p, x.block < W.heap.size := fun x hx => by simpa using hW'.lt x (by simpa using hx)
  rw [Try.params13] at hA hval
  obtain ⟨b0, vs0, d0, ds0, p0, q0, hargs0, rfl, rfl, h0, r0⟩ := trodAll_cons hA
  obtain ⟨b1, vs1, d1, ds1, p1, q1, hargs1, rfl, rfl, h1, r1⟩ := trodAll_cons r0
  obtain ⟨e1, rfl, e2⟩ := trodAll_nil r1
  have hargs : args = #[b0, b1] := by
    cases args
    simp_all
  subst hargs
  obtain ⟨xs0, hx0⟩ := open_RI Try.underlying22 Try.underlying2 (by kernel_rfl) (hval 0 _ b0 rfl rfl) h0 (fun x hx => hlt0 x (by simp [hx]))
  obtain ⟨xs1, hx1⟩ := open_RI Try.underlying22 Try.underlying2 (by kernel_rfl) (hval 1 _ b1 rfl rfl) h1 (fun x hx => hlt0 x (by simp [hx]))
  refine (walk b0 xs0 b1 xs1 W hx0 hx1).mono fun e W' ⟨he, hb⟩ => ?_
  subst he
  exact ⟨_, rfl, law_post laidOut (by decide +kernel) (by kernel_rfl) Try.underlying4 rfl hW' rfl hb⟩

theorem proved : Rows.FnExactPopOrderSaid :=
  OpenClaim.holds_of_wide 13 Try.f13 rfl rfl rfl rfl rfl rfl rfl ⟨rfl, rfl, rfl, rfl, rfl⟩ rfl rfl rfl rfl rfl (by kernel_rfl) Try.func13 (by kernel_rfl)
    (of_decide_eq_true (by kernel_rfl)) (by unfold Func.isWrapper; first | (rw [if_pos (by decide +kernel)]; kernel_rfl) | (rw [if_neg (by decide +kernel)]; exact ⟨rfl, rfl⟩))
    (fun os started H enc _ => lifted os started H enc)
end Go.Proofs.Yteohfokchimfeaa.fnExactPopOrder
