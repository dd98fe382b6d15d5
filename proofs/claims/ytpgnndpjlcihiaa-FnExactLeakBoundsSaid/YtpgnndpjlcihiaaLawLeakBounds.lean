/-
  FnExactLeakBounds: for all arguments the program's LeakBounds answers as the reference's, and leaves its arguments as they were. No condition.
-/
import Derived.Test.YtpgnndpjlcihiaaBoundFns
import Derived.Test.YtpgnndpjlcihiaaRecLoss
import Derived.Test.YtpgnndpjlcihiaaLawRec3
import Derived.Test.YtpgnndpjlcihiaaLaw
namespace Go.Proofs.Ytpgnndpjlcihiaa.fnExactLeakBounds
open Go.ChangeShapes Go.WideShapes Go.ChangeAt Go.RowKit

set_option maxHeartbeats 1000000 in
theorem walk (n0 : Int) (v1 : Value) (xs1 : List (Int × Int × Int)) (n2 : Int) (w : World) (hv1 : SI P3 w v1 xs1) :
    Calls Try.prog 8 #[.int .i64 n0, v1, .int .i64 n2] w fun e w' => e = .returned (.bool true) ∧ Below w.heap.size w w' := by
  obtain ⟨a1, cap1, rfl⟩ := hv1.shape
  have hl1 := hv1.len
  have HV1 := Lib.hid hv1
  clear hv1
  by_cases hb1big : xs1.length ≤ 1048576
  · have hb1ok := hb1big
    have C1 := fun (W : World) (u1 : Value) (h1 : SI P3 W u1 xs1) => specLeakBounds_any n0 u1 xs1 n2 W h1
    have C2 := fun (W : World) (u1 : Value) (h1 : SI P3 W u1 xs1) => implLeakBounds_any n0 u1 xs1 n2 W h1
    generalize valLeakB n0 xs1 n2 = r at C1 C2
    obtain ⟨r0, r1, r2⟩ := r
    simp only at C1 C2
    have D1 := Lib.hid C1
    have D2 := Lib.hid C2
    clear C1 C2
    have q0 : (r0 != r0) = false := by simp
    have q1 : (r1 != r1) = false := by simp
    have q2 : (r2 != r2) = false := by simp
    have t1 : decide (xs1 = xs1) = true := by simp
    have zz1 : decide ((1048576 : Int) - (xs1.length : Int) < 0) = false := by rw [decide_eq_false_iff_not]; omega
    go_enter Try.func8, Try.ntmps8
    go_wp2_with fail
    refine (szLoss_any _ xs1 _ _ HV1.out (by omega) (by omega)).mono ?_
    rintro e w' ⟨rfl, rfl⟩
    rw [if_neg (show ¬ ((1048576 : Int) < (xs1.length : Int)) by omega)]
    go_wp2_with fail
    refine (toLossS_any _ xs1 _ HV1.out (by omega)).mono ?_
    rintro e w1 ⟨c1, rfl, oc1, hb1⟩
    go_wp2_with fail
    refine (D1.out _ _ oc1.ri).mono ?_
    rintro e w2 ⟨rfl, hb2⟩
    go_wp2_with fail
    refine (toLossS_any _ xs1 _ (HV1.out.below (bthen hb1 hb2)) (by omega)).mono ?_
    rintro e w3 ⟨x1, rfl, ox1, hb3⟩
    go_wp2_with fail
    refine (D2.out _ _ ox1.ri).mono ?_
    rintro e w4 ⟨rfl, hb4⟩
    go_wp2_with fail
    refine (toLossS_any _ xs1 _ (HV1.out.below (bthen (bthen (bthen hb1 hb2) hb3) hb4)) (by omega)).mono ?_
    rintro e w5 ⟨z1, rfl, oz1, hb5⟩
    go_wp2_with fail
    refine (eqLossS_any _ _ xs1 xs1 _ (ox1.ri.below (bthen hb4 hb5)) oz1.ri).mono ?_
    rintro e w6 ⟨rfl, hb6⟩
    go_wp2_with fail
    go_ret
    exact ⟨rfl, bthen (bthen (bthen (bthen (bthen hb1 hb2) hb3) hb4) hb5) hb6⟩
  · skip
    go_enter Try.func8, Try.ntmps8
    go_wp2_with fail
    refine (szLoss_any _ xs1 _ _ HV1.out (by omega) (by omega)).mono ?_
    rintro e w' ⟨rfl, rfl⟩
    rw [if_pos (show (1048576 : Int) < (xs1.length : Int) by omega)]
    go_wp2_with fail
    go_ret
    exact ⟨rfl, Below.refl _ _⟩

set_option maxRecDepth 100000 in
theorem lifted (os : Os) (started : os.Started) (H : Type) (enc : TypeId × Value → H) :
    ReturnsInHanded {} Try.checked os 8 .any (Rows.fnExactLeakBoundsSpec.pre6 enc Try.prog Try.f8 Rows.fnExactLeakBoundsRow.domain false) (Rows.fnExactLeakBoundsSpec.post enc Try.prog Try.f8 false true false false) := by
  refine returnsInHanded_of_change (C := Try.checked) own started (by kernel_rfl) Try.func8
    (ChangeSpec.witness6 (enc := enc) (C := Try.checked) false ⟨#[], #[.int .i64 0, .slice none 0 0, .int .i64 0], []⟩ 8 (by kernel_rfl) (by kernel_rfl) (by kernel_rfl) (by kernel_rfl)) ?_
  intro W base args ds gs before hval0 hW _ _
  have hval : ∀ (j : Nat) t v, Try.f8.params[j]? = some t → args[j]? = some v → Value.okWide Try.prog W .any base t v := hval0
  have hW' := hW
  obtain ⟨p, q, hA0, hV, rfl, _, _⟩ := hW
  have hA : DataW.TrodAll enc Try.prog W 0 (fun _ => true) true Try.f8.params.toList args.toList ds p := hA0
  obtain ⟨rfl, rfl⟩ := trodVars_none hV
  have hlt0 : ∀ x ∈ p, x.block < W.heap.size := fun x hx => by simpa using hW'.lt x (by simpa using hx)
  rw [Try.params8] at hA hval
  obtain ⟨b0, vs0, d0, ds0, p0, q0, hargs0, rfl, rfl, h0, r0⟩ := trodAll_cons hA
  obtain ⟨b1, vs1, d1, ds1, p1, q1, hargs1, rfl, rfl, h1, r1⟩ := trodAll_cons r0
  obtain ⟨b2, vs2, d2, ds2, p2, q2, hargs2, rfl, rfl, h2, r2⟩ := trodAll_cons r1
  obtain ⟨e1, rfl, e2⟩ := trodAll_nil r2
  have hargs : args = #[b0, b1, b2] := by
    cases args
    simp_all
  subst hargs
  obtain ⟨n0, rfl, _, _, _⟩ := open_int Try.underlying2 (hval 0 _ b0 rfl rfl) h0
  obtain ⟨xs1, hx1⟩ := open_SI3 Try.underlying22 ⟨_, _, _, Try.underlying43, by kernel_rfl, ⟨rfl, rfl, rfl⟩, ⟨by kernel_rfl, by kernel_rfl, by kernel_rfl⟩, Try.underlying2, Try.underlying2, Try.underlying2⟩ (hval 1 _ b1 rfl rfl) h1 (fun x hx => hlt0 x (by simp [hx]))
  obtain ⟨n2, rfl, _, _, _⟩ := open_int Try.underlying2 (hval 2 _ b2 rfl rfl) h2
  refine (walk n0 b1 xs1 n2 W hx1).mono fun e W' ⟨he, hb⟩ => ?_
  subst he
  exact ⟨_, rfl, law_post laidOut (by decide +kernel) (by kernel_rfl) Try.underlying4 rfl hW' rfl hb⟩

theorem proved : Rows.FnExactLeakBoundsSaid :=
  OpenClaim.holds_of_wide 8 Try.f8 rfl rfl rfl rfl rfl rfl rfl ⟨rfl, rfl, rfl, rfl, rfl⟩ rfl rfl rfl rfl rfl (by kernel_rfl) Try.func8 (by kernel_rfl)
    (of_decide_eq_true (by kernel_rfl)) (by unfold Func.isWrapper; first | (rw [if_pos (by decide +kernel)]; kernel_rfl) | (rw [if_neg (by decide +kernel)]; exact ⟨rfl, rfl⟩))
    (fun os started H enc _ => lifted os started H enc)
end Go.Proofs.Ytpgnndpjlcihiaa.fnExactLeakBounds
