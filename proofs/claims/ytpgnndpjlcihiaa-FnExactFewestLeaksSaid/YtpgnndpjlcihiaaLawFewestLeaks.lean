/-
  FnExactFewestLeaks: for all arguments the program's FewestLeaks answers as the reference's, and leaves its arguments as they were. No condition.
-/
import Derived.Test.YtpgnndpjlcihiaaFewLeaks
import Derived.Test.YtpgnndpjlcihiaaMarkLoss
import Derived.Test.YtpgnndpjlcihiaaLawRec3
import Derived.Test.YtpgnndpjlcihiaaLaw
namespace Go.Proofs.Ytpgnndpjlcihiaa.fnExactFewestLeaks
open Go.ChangeShapes Go.WideShapes Go.ChangeAt Go.RowKit

set_option maxHeartbeats 1000000 in
theorem walk (n0 : Int) (v1 : Value) (xs1 : List (Int × Int × Int)) (w : World) (hv1 : SI P3 w v1 xs1) :
    Calls Try.prog 13 #[.int .i64 n0, v1] w fun e w' => e = .returned (.bool true) ∧ Below w.heap.size w w' := by
  obtain ⟨a1, cap1, rfl⟩ := hv1.shape
  have hl1 := hv1.len
  have HV1 := Lib.hid hv1
  clear hv1
  by_cases hb1big : xs1.length ≤ 1048576
  · have hb1ok := hb1big
    have C1 := fun (W : World) (u1 : Value) (h1 : SI P3 W u1 xs1) => specFewestLeaks_any n0 u1 xs1 W h1
    have C2 := fun (W : World) (u1 : Value) (h1 : SI P3 W u1 xs1) => implFewestLeaks_any n0 u1 xs1 W h1
    have hlen0 := valFewL_len n0 xs1
    generalize valFewL n0 xs1 = r at C1 C2 hlen0
    obtain ⟨r0, r1⟩ := r
    simp only at C1 C2 hlen0
    have D1 := Lib.hid C1
    have D2 := Lib.hid C2
    clear C1 C2
    have q0 : decide (r0 = r0) = true := by simp
    have q1 : (r1 != r1) = false := by simp
    have t1 : decide (xs1 = xs1) = true := by simp
    have zz1 : decide ((1048576 : Int) - (xs1.length : Int) < 0) = false := by rw [decide_eq_false_iff_not]; omega
    go_enter Try.func13, Try.ntmps13
    go_wp2_with fail
    refine (szLoss_any _ xs1 _ _ HV1.out (by omega) (by omega)).mono ?_
    rintro e w' ⟨rfl, rfl⟩
    rw [if_neg (show ¬ ((1048576 : Int) < (xs1.length : Int)) by omega)]
    go_wp2_with fail
    refine (toLossS_any _ xs1 _ HV1.out (by omega)).mono ?_
    rintro e w1 ⟨c1, rfl, oc1, hb1⟩
    go_wp2_with fail
    refine (D1.out _ _ oc1.ri).mono ?_
    rintro e w2 ⟨y0, rfl, oy0, hb2⟩
    go_wp2_with fail
    refine (toLossS_any _ xs1 _ (HV1.out.below (bthen hb1 hb2)) (by omega)).mono ?_
    rintro e w3 ⟨x1, rfl, ox1, hb3⟩
    go_wp2_with fail
    refine (D2.out _ _ ox1.ri).mono ?_
    rintro e w4 ⟨g0, rfl, og0, hb4⟩
    go_wp2_with fail
    refine (eqI_any _ _ r0 r0 _ og0.ri (oy0.ri.below (bthen hb3 hb4))).mono ?_
    rintro e w5 ⟨rfl, hb5⟩
    go_wp2_with fail
    refine (toLossS_any _ xs1 _ (HV1.out.below (bthen (bthen (bthen (bthen hb1 hb2) hb3) hb4) hb5)) (by omega)).mono ?_
    rintro e w6 ⟨z1, rfl, oz1, hb6⟩
    go_wp2_with fail
    refine (eqLossS_any _ _ xs1 xs1 _ (ox1.ri.below (bthen (bthen hb4 hb5) hb6)) oz1.ri).mono ?_
    rintro e w7 ⟨rfl, hb7⟩
    have hT7 := bthen (bthen (bthen (bthen (bthen (bthen hb1 hb2) hb3) hb4) hb5) hb6) hb7
    have OX1 := (ox1.below (bthen (bthen (bthen hb4 hb5) hb6) hb7))
    have OG0 := (og0.below (bthen (bthen hb5 hb6) hb7))
    have RY0 := (oy0.ri.below (bthen (bthen (bthen (bthen hb3 hb4) hb5) hb6) hb7))
    have apg1_0 := Lib.hid ((apart_lt ox1.lt og0.lt (Nat.le_refl _)).1)
    have apy1_0 := Lib.hid ((apart_lt oy0.lt ox1.lt (Nat.le_refl _)).2)
    have apgy0 := Lib.hid ((apart_lt oy0.lt og0.lt ((hb3).size)).2)
    have sx1 := Nat.le_trans ((bthen hb1 hb2).size) (Nat.le_refl _)
    have sg0 := Nat.le_trans ((bthen (bthen hb1 hb2) hb3).size) (Nat.le_refl _)
    go_wp2_with fail
    refine (markLossS_any _ xs1 _ (1) _ (by omega) _ OX1 (by omega) (by omega)).mono ?_
    rintro e w8 ⟨rfl, om1, gm1⟩
    have hT8 := bgrown hT7 gm1 (fun k hk => Nat.le_trans sx1 (ox1.lt k hk).1)
    have OG0 := OG0.apart gm1 apg1_0.out
    have RY0 := RY0.grown gm1 apy1_0.out
    go_wp2_with fail
    refine (eqI_any _ _ r0 r0 _ (OG0.ri) RY0).mono ?_
    rintro e w9 ⟨rfl, hb9⟩
    have hT9 := bthen hT8 (hb9)
    have OG0 := (OG0.below (hb9))
    have RY0 := (RY0.below hb9)
    go_wp2_with fail
    refine (markI_any _ r0 _ (1) _ (by omega) _ OG0 (by omega) (by omega)).mono ?_
    rintro e w10 ⟨rfl, on0, gn0⟩
    have hT10 := bgrown hT9 gn0 (fun k hk => Nat.le_trans sg0 (og0.lt k hk).1)
    have RY0 := RY0.grown gn0 apgy0.out
    go_wp2_with fail
    refine (heldI_any _ r0.length 1 _ (by omega) _ on0.ri (by omega) (by omega)).mono ?_
    rintro e w' ⟨rfl, rfl⟩
    have RV1 := HV1.out.below hT10
    go_wp2_with fail
    refine (toLossS_any _ xs1 _ RV1 (by omega)).mono ?_
    rintro e w11 ⟨k1, rfl, ok1, hb11⟩
    go_wp2_with fail
    refine (D2.out _ _ ok1.ri).mono ?_
    rintro e w12 ⟨h0, rfl, oh0, hb12⟩
    go_wp2_with fail
    refine (eqI_any _ _ r0 r0 _ oh0.ri (RY0.below (bthen hb11 hb12))).mono ?_
    rintro e w13 ⟨rfl, hb13⟩
    go_wp2_with fail
    refine (heldI_any _ r0.length 1 _ (by omega) _ (on0.ri.below (bthen (bthen hb11 hb12) hb13)) (by omega) (by omega)).mono ?_
    rintro e w' ⟨rfl, rfl⟩
    go_wp2_with fail
    go_ret
    exact ⟨rfl, bthen hT10 (bthen (bthen hb11 hb12) hb13)⟩
  · skip
    go_enter Try.func13, Try.ntmps13
    go_wp2_with fail
    refine (szLoss_any _ xs1 _ _ HV1.out (by omega) (by omega)).mono ?_
    rintro e w' ⟨rfl, rfl⟩
    rw [if_pos (show (1048576 : Int) < (xs1.length : Int) by omega)]
    go_wp2_with fail
    go_ret
    exact ⟨rfl, Below.refl _ _⟩

set_option maxRecDepth 100000 in
theorem lifted (os : Os) (started : os.Started) (H : Type) (enc : TypeId × Value → H) :
    ReturnsInHanded {} Try.checked os 13 .any (Rows.fnExactFewestLeaksSpec.pre6 enc Try.prog Try.f13 Rows.fnExactFewestLeaksRow.domain false) (Rows.fnExactFewestLeaksSpec.post enc Try.prog Try.f13 false true false false) := by
  refine returnsInHanded_of_change (C := Try.checked) own started (by kernel_rfl) Try.func13
    (ChangeSpec.witness6 (enc := enc) (C := Try.checked) false ⟨#[], #[.int .i64 0, .slice none 0 0], []⟩ 8 (by kernel_rfl) (by kernel_rfl) (by kernel_rfl) (by kernel_rfl)) ?_
  intro W base args ds gs before hval0 hW _ _
  have hval : ∀ (j : Nat) t v, Try.f13.params[j]? = some t → args[j]? = some v → Value.okWide Try.prog W .any base t v := hval0
  have hW' := hW
  obtain ⟨p, q, hA0, hV, rfl, _, _⟩ := hW
  have hA : DataW.TrodAll enc Try.prog W 0 (fun _ => true) true Try.f13.params.toList args.toList ds p := hA0
  obtain ⟨rfl, rfl⟩ := trodVars_none hV
  have hlt0 : ∀ x ∈ p, x.block < W.heap.size := fun x hx => by simpa using hW'.lt x (by simpa using hx)
  rw [Try.params13] at hA hval
  obtain ⟨b0, vs0, d0, ds0, p0, q0, hargs0, rfl, rfl, h0, r0⟩ := trodAll_cons hA
  obtain ⟨b1, vs1, d1, ds1, p1, q1, hargs1, rfl, rfl, h1, r1⟩ := trodAll_cons r0
  obtain ⟨e1, rfl, e2⟩ := trodAll_nil r1
  have hargs : args = #[b0, b1] := by
    cases args
    simp_all
  subst hargs
  obtain ⟨n0, rfl, _, _, _⟩ := open_int Try.underlying2 (hval 0 _ b0 rfl rfl) h0
  obtain ⟨xs1, hx1⟩ := open_SI3 Try.underlying22 ⟨_, _, _, Try.underlying43, by kernel_rfl, ⟨rfl, rfl, rfl⟩, ⟨by kernel_rfl, by kernel_rfl, by kernel_rfl⟩, Try.underlying2, Try.underlying2, Try.underlying2⟩ (hval 1 _ b1 rfl rfl) h1 (fun x hx => hlt0 x (by simp [hx]))
  refine (walk n0 b1 xs1 W hx1).mono fun e W' ⟨he, hb⟩ => ?_
  subst he
  exact ⟨_, rfl, law_post laidOut (by decide +kernel) (by kernel_rfl) Try.underlying4 rfl hW' rfl hb⟩

theorem proved : Rows.FnExactFewestLeaksSaid :=
  OpenClaim.holds_of_wide 13 Try.f13 rfl rfl rfl rfl rfl rfl rfl ⟨rfl, rfl, rfl, rfl, rfl⟩ rfl rfl rfl rfl rfl (by kernel_rfl) Try.func13 (by kernel_rfl)
    (of_decide_eq_true (by kernel_rfl)) (by unfold Func.isWrapper; first | (rw [if_pos (by decide +kernel)]; kernel_rfl) | (rw [if_neg (by decide +kernel)]; exact ⟨rfl, rfl⟩))
    (fun os started H enc _ => lifted os started H enc)
end Go.Proofs.Ytpgnndpjlcihiaa.fnExactFewestLeaks
