/-
  FnExactRoundsOf: for all arguments the program's RoundsOf answers as the reference's, and leaves its arguments as they were. No condition.
-/
import Derived.Test.YteohfokchimfeaaRounds
import Derived.Test.YteohfokchimfeaaLaw
namespace Go.Proofs.Yteohfokchimfeaa.fnExactRoundsOf
open Go.ChangeShapes Go.WideShapes Go.ChangeAt Go.RowKit

set_option maxHeartbeats 1000000 in
theorem walk (v0 : Value) (xs0 : List Int) (w : World) (hv0 : RI w v0 xs0) :
    Calls Try.prog 7 #[v0] w fun e w' => e = .returned (.bool true) ∧ Below w.heap.size w w' := by
  obtain ⟨a0, cap0, rfl⟩ := hv0.shape
  have hl0 := hv0.len
  have HV0 := Lib.hid hv0
  clear hv0
  by_cases hb0big : xs0.length ≤ 1048576
  · have hb0ok := hb0big
    have C1 := fun (W : World) (u0 : Value) (h0 : RI W u0 xs0) => specRoundsOf_any u0 xs0 W h0
    have C2 := fun (W : World) (u0 : Value) (h0 : RI W u0 xs0) => implRoundsOf_any u0 xs0 W h0 (by omega)
    generalize valRounds xs0 = r at C1 C2
    obtain ⟨r0, r1⟩ := r
    simp only at C1 C2
    have D1 := Lib.hid C1
    have D2 := Lib.hid C2
    clear C1 C2
    have q0 : (r0 != r0) = false := by simp
    have q1 : (r1 != r1) = false := by simp
    have t0 : decide (xs0 = xs0) = true := by simp
    go_enter Try.func7, Try.ntmps7
    go_wp2_with fail
    refine (toI_any _ xs0 _ HV0.out (by omega)).mono ?_
    rintro e w1 ⟨c0, rfl, oc0, hb1⟩
    go_wp2_with fail
    refine (D1.out _ _ oc0.ri).mono ?_
    rintro e w2 ⟨rfl, hb2⟩
    go_wp2_with fail
    refine (toI_any _ xs0 _ (HV0.out.below (bthen hb1 hb2)) (by omega)).mono ?_
    rintro e w3 ⟨x0, rfl, ox0, hb3⟩
    go_wp2_with fail
    refine (D2.out _ _ ox0.ri).mono ?_
    rintro e w4 ⟨rfl, hb4⟩
    go_wp2_with fail
    refine (toI_any _ xs0 _ (HV0.out.below (bthen (bthen (bthen hb1 hb2) hb3) hb4)) (by omega)).mono ?_
    rintro e w5 ⟨z0, rfl, oz0, hb5⟩
    go_wp2_with fail
    refine (eqI_any _ _ xs0 xs0 _ (ox0.ri.below (bthen hb4 hb5)) oz0.ri).mono ?_
    rintro e w6 ⟨rfl, hb6⟩
    go_wp2_with fail
    go_ret
    exact ⟨rfl, bthen (bthen (bthen (bthen (bthen hb1 hb2) hb3) hb4) hb5) hb6⟩
  · go_enter Try.func7, Try.ntmps7
    go_wp2_with fail
    go_ret
    exact ⟨rfl, Below.refl _ _⟩

set_option maxRecDepth 100000 in
theorem lifted (os : Os) (started : os.Started) (H : Type) (enc : TypeId × Value → H) :
    ReturnsInHanded {} Try.checked os 7 .any (Rows.fnExactRoundsOfSpec.pre6 enc Try.prog Try.f7 Rows.fnExactRoundsOfRow.domain false) (Rows.fnExactRoundsOfSpec.post enc Try.prog Try.f7 false true false false) := by
  refine returnsInHanded_of_change (C := Try.checked) own started (by kernel_rfl) Try.func7
    (ChangeSpec.witness6 (enc := enc) (C := Try.checked) false ⟨#[], #[.slice none 0 0], []⟩ 8 (by kernel_rfl) (by kernel_rfl) (by kernel_rfl) (by kernel_rfl)) ?_
  intro W base args ds gs before hval0 hW _ _
  have hval : ∀ (j : Nat) t v, Try.f7.params[j]? = some t → args[j]? = some v → Value.okWide Try.prog W .any base t v := hval0
  have hW' := hW
  obtain ⟨p, q, hA0, hV, rfl, _, _⟩ := hW
  have hA : DataW.TrodAll enc Try.prog W 0 (fun _ => true) true Try.f7.params.toList args.toList ds p := hA0
  obtain ⟨rfl, rfl⟩ := trodVars_none hV
  have hlt0 : ∀ x ∈ p, x.block < W.heap.size := fun x hx => by simpa using hW'.lt x (by simpa using hx)
  rw [Try.params7] at hA hval
  obtain ⟨b0, vs0, d0, ds0, p0, q0, hargs0, rfl, rfl, h0, r0⟩ := trodAll_cons hA
  obtain ⟨e1, rfl, e2⟩ := trodAll_nil r0
  have hargs : args = #[b0] := by
    cases args
    simp_all
  subst hargs
  obtain ⟨xs0, hx0⟩ := open_RI Try.underlying22 Try.underlying2 (by kernel_rfl) (hval 0 _ b0 rfl rfl) h0 (fun x hx => hlt0 x (by simp [hx]))
  refine (walk b0 xs0 W hx0).mono fun e W' ⟨he, hb⟩ => ?_
  subst he
  exact ⟨_, rfl, law_post laidOut (by decide +kernel) (by kernel_rfl) Try.underlying4 rfl hW' rfl hb⟩

theorem proved : Rows.FnExactRoundsOfSaid :=
  OpenClaim.holds_of_wide 7 Try.f7 rfl rfl rfl rfl rfl rfl rfl ⟨rfl, rfl, rfl, rfl, rfl⟩ rfl rfl rfl rfl rfl (by kernel_rfl) Try.func7 (by kernel_rfl)
    (of_decide_eq_true (by kernel_rfl)) (by unfold Func.isWrapper; first | (rw [if_pos (by decide +kernel)]; kernel_rfl) | (rw [if_neg (by decide +kernel)]; exact ⟨rfl, rfl⟩))
    (fun os started H enc _ => lifted os started H enc)
end Go.Proofs.Yteohfokchimfeaa.fnExactRoundsOf
