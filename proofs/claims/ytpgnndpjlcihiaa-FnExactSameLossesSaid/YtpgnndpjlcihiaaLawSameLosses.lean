/-
  FnExactSameLosses: for all arguments the program's SameLosses answers as the reference's, and leaves its arguments as they were. No condition.
-/
import Derived.Test.YtpgnndpjlcihiaaSameLosses
import Derived.Test.YtpgnndpjlcihiaaRecLoss
import Derived.Test.YtpgnndpjlcihiaaLawRec3
import Derived.Test.YtpgnndpjlcihiaaLaw
namespace Go.Proofs.Ytpgnndpjlcihiaa.fnExactSameLosses
open Go.ChangeShapes Go.WideShapes Go.ChangeAt Go.RowKit

set_option maxHeartbeats 1000000 in
theorem walk (v0 : Value) (xs0 : List (Int × Int × Int)) (v1 : Value) (xs1 : List (Int × Int × Int)) (w : World) (hv0 : SI P3 w v0 xs0) (hv1 : SI P3 w v1 xs1) :
    Calls Try.prog 3 #[v0, v1] w fun e w' => e = .returned (.bool true) ∧ Below w.heap.size w w' := by
  obtain ⟨a0, cap0, rfl⟩ := hv0.shape
  have hl0 := hv0.len
  have HV0 := Lib.hid hv0
  clear hv0
  obtain ⟨a1, cap1, rfl⟩ := hv1.shape
  have hl1 := hv1.len
  have HV1 := Lib.hid hv1
  clear hv1
  by_cases hb0big : xs0.length ≤ 1048576
  · have hb0ok := hb0big
    by_cases hb1big : xs0.length + xs1.length ≤ 1048576
    · have hb1ok := hb1big
      have C1 := fun (W : World) (u0 : Value) (u1 : Value) (h0 : SI P3 W u0 xs0) (h1 : SI P3 W u1 xs1) => specSameLosses_any u0 xs0 u1 xs1 W h0 h1
      have C2 := fun (W : World) (u0 : Value) (u1 : Value) (h0 : SI P3 W u0 xs0) (h1 : SI P3 W u1 xs1) => implSameLosses_any u0 xs0 u1 xs1 W h0 h1
      generalize sameLosses xs0 xs1 = r at C1 C2
      have D1 := Lib.hid C1
      have D2 := Lib.hid C2
      clear C1 C2
      have q0 : (r != r) = false := by simp
      have t0 : decide (xs0 = xs0) = true := by simp
      have t1 : decide (xs1 = xs1) = true := by simp
      have zz0 : decide ((1048576 : Int) - (xs0.length : Int) < 0) = false := by rw [decide_eq_false_iff_not]; omega
      have zz1 : decide ((1048576 : Int) - (xs0.length : Int) - (xs1.length : Int) < 0) = false := by rw [decide_eq_false_iff_not]; omega
      go_enter Try.func3, Try.ntmps3
      go_wp2_with fail
      refine (szLoss_any _ xs0 _ _ HV0.out (by omega) (by omega)).mono ?_
      rintro e w' ⟨rfl, rfl⟩
      rw [if_neg (show ¬ ((1048576 : Int) < (xs0.length : Int)) by omega)]
      go_wp2_with fail
      refine (szLoss_any _ xs1 _ _ HV1.out (by omega) (by omega)).mono ?_
      rintro e w' ⟨rfl, rfl⟩
      rw [if_neg (show ¬ ((1048576 : Int) - (xs0.length : Int) < (xs1.length : Int)) by omega)]
      go_wp2_with fail
      refine (toLossS_any _ xs0 _ HV0.out (by omega)).mono ?_
      rintro e w1 ⟨c0, rfl, oc0, hb1⟩
      go_wp2_with fail
      refine (toLossS_any _ xs1 _ (HV1.out.below hb1) (by omega)).mono ?_
      rintro e w2 ⟨c1, rfl, oc1, hb2⟩
      go_wp2_with fail
      refine (D1.out _ _ _ (oc0.ri.below hb2) oc1.ri).mono ?_
      rintro e w3 ⟨rfl, hb3⟩
      go_wp2_with fail
      refine (toLossS_any _ xs0 _ (HV0.out.below (bthen (bthen hb1 hb2) hb3)) (by omega)).mono ?_
      rintro e w4 ⟨x0, rfl, ox0, hb4⟩
      go_wp2_with fail
      refine (toLossS_any _ xs1 _ (HV1.out.below (bthen (bthen (bthen hb1 hb2) hb3) hb4)) (by omega)).mono ?_
      rintro e w5 ⟨x1, rfl, ox1, hb5⟩
      go_wp2_with fail
      refine (D2.out _ _ _ (ox0.ri.below hb5) ox1.ri).mono ?_
      rintro e w6 ⟨rfl, hb6⟩
      go_wp2_with fail
      refine (toLossS_any _ xs0 _ (HV0.out.below (bthen (bthen (bthen (bthen (bthen hb1 hb2) hb3) hb4) hb5) hb6)) (by omega)).mono ?_
      rintro e w7 ⟨z0, rfl, oz0, hb7⟩
      go_wp2_with fail
      refine (eqLossS_any _ _ xs0 xs0 _ (ox0.ri.below (bthen (bthen hb5 hb6) hb7)) oz0.ri).mono ?_
      rintro e w8 ⟨rfl, hb8⟩
      go_wp2_with fail
      refine (toLossS_any _ xs1 _ (HV1.out.below (bthen (bthen (bthen (bthen (bthen (bthen (bthen hb1 hb2) hb3) hb4) hb5) hb6) hb7) hb8)) (by omega)).mono ?_
      rintro e w9 ⟨z1, rfl, oz1, hb9⟩
      go_wp2_with fail
      refine (eqLossS_any _ _ xs1 xs1 _ (ox1.ri.below (bthen (bthen (bthen hb6 hb7) hb8) hb9)) oz1.ri).mono ?_
      rintro e w10 ⟨rfl, hb10⟩
      go_wp2_with fail
      go_ret
      exact ⟨rfl, bthen (bthen (bthen (bthen (bthen (bthen (bthen (bthen (bthen hb1 hb2) hb3) hb4) hb5) hb6) hb7) hb8) hb9) hb10⟩
    · skip
      have zz0 : decide ((1048576 : Int) - (xs0.length : Int) < 0) = false := by rw [decide_eq_false_iff_not]; omega
      go_enter Try.func3, Try.ntmps3
      go_wp2_with fail
      refine (szLoss_any _ xs0 _ _ HV0.out (by omega) (by omega)).mono ?_
      rintro e w' ⟨rfl, rfl⟩
      rw [if_neg (show ¬ ((1048576 : Int) < (xs0.length : Int)) by omega)]
      go_wp2_with fail
      refine (szLoss_any _ xs1 _ _ HV1.out (by omega) (by omega)).mono ?_
      rintro e w' ⟨rfl, rfl⟩
      rw [if_pos (show (1048576 : Int) - (xs0.length : Int) < (xs1.length : Int) by omega)]
      go_wp2_with fail
      go_ret
      exact ⟨rfl, Below.refl _ _⟩
  · skip
    go_enter Try.func3, Try.ntmps3
    go_wp2_with fail
    refine (szLoss_any _ xs0 _ _ HV0.out (by omega) (by omega)).mono ?_
    rintro e w' ⟨rfl, rfl⟩
    rw [if_pos (show (1048576 : Int) < (xs0.length : Int) by omega)]
    go_wp2_with fail
    go_ret
    exact ⟨rfl, Below.refl _ _⟩

set_option maxRecDepth 100000 in
theorem lifted (os : Os) (started : os.Started) (H : Type) (enc : TypeId × Value → H) :
    ReturnsInHanded {} Try.checked os 3 .any (Rows.fnExactSameLossesSpec.pre6 enc Try.prog Try.f3 Rows.fnExactSameLossesRow.domain false) (Rows.fnExactSameLossesSpec.post enc Try.prog Try.f3 false true false false) := by
  refine returnsInHanded_of_change (C := Try.checked) own started (by kernel_rfl) Try.func3
    (ChangeSpec.witness6 (enc := enc) (C := Try.checked) false ⟨#[], #[.slice none 0 0, .slice none 0 0], []⟩ 8 (by kernel_rfl) (by kernel_rfl) (by kernel_rfl) (by kernel_rfl)) ?_
  intro W base args ds gs before hval0 hW _ _
  have hval : ∀ (j : Nat) t v, Try.f3.params[j]? = some t → args[j]? = some v → Value.okWide Try.prog W .any base t v := hval0
  have hW' := hW
  obtain ⟨p, q, hA0, hV, rfl, _, _⟩ := hW
  have hA : DataW.TrodAll enc Try.prog W 0 (fun _ => true) true Try.f3.params.toList args.toList ds p := hA0
  obtain ⟨rfl, rfl⟩ := trodVars_none hV
  have hlt0 : ∀ x ∈ p, x.block < W.heap.size := fun x hx => by simpa using hW'.lt x (by simpa using hx)
  rw [Try.params3] at hA hval
  obtain ⟨b0, vs0, d0, ds0, p0, q0, hargs0, rfl, rfl, h0, r0⟩ := trodAll_cons hA
  obtain ⟨b1, vs1, d1, ds1, p1, q1, hargs1, rfl, rfl, h1, r1⟩ := trodAll_cons r0
  obtain ⟨e1, rfl, e2⟩ := trodAll_nil r1
  have hargs : args = #[b0, b1] := by
    cases args
    simp_all
  subst hargs
  obtain ⟨xs0, hx0⟩ := open_SI3 Try.underlying22 ⟨_, _, _, Try.underlying43, by kernel_rfl, ⟨rfl, rfl, rfl⟩, ⟨by kernel_rfl, by kernel_rfl, by kernel_rfl⟩, Try.underlying2, Try.underlying2, Try.underlying2⟩ (hval 0 _ b0 rfl rfl) h0 (fun x hx => hlt0 x (by simp [hx]))
  obtain ⟨xs1, hx1⟩ := open_SI3 Try.underlying22 ⟨_, _, _, Try.underlying43, by kernel_rfl, ⟨rfl, rfl, rfl⟩, ⟨by kernel_rfl, by kernel_rfl, by kernel_rfl⟩, Try.underlying2, Try.underlying2, Try.underlying2⟩ (hval 1 _ b1 rfl rfl) h1 (fun x hx => hlt0 x (by simp [hx]))
  refine (walk b0 xs0 b1 xs1 W hx0 hx1).mono fun e W' ⟨he, hb⟩ => ?_
  subst he
  exact ⟨_, rfl, law_post laidOut (by decide +kernel) (by kernel_rfl) Try.underlying4 rfl hW' rfl hb⟩

theorem proved : Rows.FnExactSameLossesSaid :=
  OpenClaim.holds_of_wide 3 Try.f3 rfl rfl rfl rfl rfl rfl rfl ⟨rfl, rfl, rfl, rfl, rfl⟩ rfl rfl rfl rfl rfl (by kernel_rfl) Try.func3 (by kernel_rfl)
    (of_decide_eq_true (by kernel_rfl)) (by unfold Func.isWrapper; first | (rw [if_pos (by decide +kernel)]; kernel_rfl) | (rw [if_neg (by decide +kernel)]; exact ⟨rfl, rfl⟩))
    (fun os started H enc _ => lifted os started H enc)
end Go.Proofs.Ytpgnndpjlcihiaa.fnExactSameLosses
