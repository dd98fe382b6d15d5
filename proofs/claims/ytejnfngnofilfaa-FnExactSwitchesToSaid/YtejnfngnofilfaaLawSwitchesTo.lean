/-
  FnExactSwitchesTo: for all arguments the program's SwitchesTo answers as the reference's, and leaves its arguments as they were. No condition.
-/
import Derived.Test.YtejnfngnofilfaaSwitches
import Derived.Test.YtejnfngnofilfaaLaw
namespace Go.Proofs.Ytejnfngnofilfaa.fnExactSwitchesTo
open Go.ChangeShapes Go.WideShapes Go.ChangeAt Go.RowKit

set_option maxHeartbeats 1000000 in
theorem walk (n0 : Int) (n1 : Int) (w : World)  :
    Calls Try.prog 4 #[.int .i64 n0, .int .i64 n1] w fun e w' => e = .returned (.bool true) ∧ Below w.heap.size w w' := by
  have C1 := fun (W : World) => specSwitchesTo_any n0 n1 W 
  have C2 := fun (W : World) => implSwitchesTo_any n0 n1 W 
  have hlen0 := valSwitches_len n0 n1
  generalize valSwitches n0 n1 = r at C1 C2 hlen0
  obtain ⟨r0, r1⟩ := r
  simp only at C1 C2 hlen0
  have D1 := Lib.hid C1
  have D2 := Lib.hid C2
  clear C1 C2
  have q0 : decide (r0 = r0) = true := by simp
  have q1 : (r1 != r1) = false := by simp
  go_enter Try.func4, Try.ntmps4
  go_wp2_with fail
  refine (D1.out _  ).mono ?_
  rintro e w1 ⟨y0, rfl, oy0, hb1⟩
  go_wp2_with fail
  refine (D2.out _  ).mono ?_
  rintro e w2 ⟨g0, rfl, og0, hb2⟩
  go_wp2_with fail
  refine (eqI_any _ _ r0 r0 _ og0.ri (oy0.ri.below hb2)).mono ?_
  rintro e w3 ⟨rfl, hb3⟩
  have hT3 := bthen (bthen hb1 hb2) hb3
  have OG0 := (og0.below (hb3))
  have RY0 := (oy0.ri.below (bthen hb2 hb3))
  have apgy0 := Lib.hid ((apart_lt oy0.lt og0.lt (Nat.le_refl _)).2)
  have sg0 := Nat.le_trans ((hb1).size) (Nat.le_refl _)
  go_wp2_with fail
  refine (markI_any _ r0 _ (1) _ (by omega) _ OG0 (by omega) (by omega)).mono ?_
  rintro e w4 ⟨rfl, on0, gn0⟩
  have hT4 := bgrown hT3 gn0 (fun k hk => Nat.le_trans sg0 (og0.lt k hk).1)
  have RY0 := RY0.grown gn0 apgy0.out
  go_wp2_with fail
  refine (heldI_any _ r0.length 1 _ (by omega) _ on0.ri (by omega) (by omega)).mono ?_
  rintro e w' ⟨rfl, rfl⟩
  go_wp2_with fail
  refine (D2.out _  ).mono ?_
  rintro e w5 ⟨h0, rfl, oh0, hb5⟩
  go_wp2_with fail
  refine (eqI_any _ _ r0 r0 _ oh0.ri (RY0.below hb5)).mono ?_
  rintro e w6 ⟨rfl, hb6⟩
  go_wp2_with fail
  refine (heldI_any _ r0.length 1 _ (by omega) _ (on0.ri.below (bthen hb5 hb6)) (by omega) (by omega)).mono ?_
  rintro e w' ⟨rfl, rfl⟩
  go_wp2_with fail
  go_ret
  exact ⟨rfl, bthen hT4 (bthen hb5 hb6)⟩

set_option maxRecDepth 100000 in
theorem lifted (os : Os) (started : os.Started) (H : Type) (enc : TypeId × Value → H) :
    ReturnsInHanded {} Try.checked os 4 .any (Rows.fnExactSwitchesToSpec.pre6 enc Try.prog Try.f4 Rows.fnExactSwitchesToRow.domain false) (Rows.fnExactSwitchesToSpec.post enc Try.prog Try.f4 false true false false) := by
  refine returnsInHanded_of_change (C := Try.checked) own started (by kernel_rfl) Try.func4
    (ChangeSpec.witness6 (enc := enc) (C := Try.checked) false ⟨#[], #[.int .i64 0, .int .i64 0], []⟩ 8 (by kernel_rfl) (by kernel_rfl) (by kernel_rfl) (by kernel_rfl)) ?_
  intro W base args ds gs before hval0 hW _ _
  have hval : ∀ (j : Nat) t v, Try.f4.params[j]? = some t → args[j]? = some v → Value.okWide Try.prog W .any base t v := hval0
  have hW' := hW
  obtain ⟨p, q, hA0, hV, rfl, _, _⟩ := hW
  have hA : DataW.TrodAll enc Try.prog W 0 (fun _ => true) true Try.f4.params.toList args.toList ds p := hA0
  obtain ⟨rfl, rfl⟩ := trodVars_none hV
  have hlt0 : ∀ x ∈ p, x.block < W.heap.size := fun x hx => by simpa using hW'.lt x (by simpa using hx)
  rw [Try.params4] at hA hval
  obtain ⟨b0, vs0, d0, ds0, p0, q0, hargs0, rfl, rfl, h0, r0⟩ := trodAll_cons hA
  obtain ⟨b1, vs1, d1, ds1, p1, q1, hargs1, rfl, rfl, h1, r1⟩ := trodAll_cons r0
  obtain ⟨e1, rfl, e2⟩ := trodAll_nil r1
  have hargs : args = #[b0, b1] := by
    cases args
    simp_all
  subst hargs
  obtain ⟨n0, rfl, _, _, _⟩ := open_int Try.underlying2 (hval 0 _ b0 rfl rfl) h0
  obtain ⟨n1, rfl, _, _, _⟩ := open_int Try.underlying2 (hval 1 _ b1 rfl rfl) h1
  refine (walk n0 n1 W ).mono fun e W' ⟨he, hb⟩ => ?_
  subst he
  exact ⟨_, rfl, law_post laidOut (by decide +kernel) (by kernel_rfl) Try.underlying4 rfl hW' rfl hb⟩

theorem proved : Rows.FnExactSwitchesToSaid :=
  OpenClaim.holds_of_wide 4 Try.f4 rfl rfl rfl rfl rfl rfl rfl ⟨rfl, rfl, rfl, rfl, rfl⟩ rfl rfl rfl rfl rfl (by kernel_rfl) Try.func4 (by kernel_rfl)
    (of_decide_eq_true (by kernel_rfl)) (by unfold Func.isWrapper; first | (rw [if_pos (by decide +kernel)]; kernel_rfl) | (rw [if_neg (by decide +kernel)]; exact ⟨rfl, rfl⟩))
    (fun os started H enc _ => lifted os started H enc)
end Go.Proofs.Ytejnfngnofilfaa.fnExactSwitchesTo
