/-
  FnExactValidOpenings: for every list of prices the program's ValidOpenings answers as the reference's, and leaves its argument as it was. No condition.
-/
import Derived.Test.YtoeigifmghfpgaaOpen
import Derived.Test.YtoeigifmghfpgaaLaw
namespace Go.Proofs.Ytoeigifmghfpgaa.fnExactValidOpenings
open Go.ChangeShapes Go.WideShapes Go.ChangeAt Go.RowKit

theorem walk (v : Value) (xs : List Int) (w : World) (hv : RI w v xs) :
    Calls Try.prog 3 #[v] w fun e w' => e = .returned (.bool true) ∧ Below w.heap.size w w' := by
  obtain ⟨a, cap, rfl⟩ := hv.shape
  have hl := hv.len
  have HV := Lib.hid hv
  clear hv
  by_cases hbig : xs.length ≤ 1048576
  · go_enter Try.func3, Try.ntmps3
    go_wp2_with fail
    refine (toI_any _ xs _ HV.out (by omega)).mono ?_
    rintro e w1 ⟨v1, rfl, ho1, hb1⟩
    go_wp2_with fail
    refine (specValidOpenings_any _ xs _ ho1.ri).mono ?_
    rintro e w' ⟨rfl, rfl⟩
    go_wp2_with fail
    refine (toI_any _ xs _ (HV.out.below hb1) (by omega)).mono ?_
    rintro e w2 ⟨v2, rfl, ho2, hb2⟩
    go_wp2_with fail
    refine (implValidOpenings_any _ xs _ ho2.ri).mono ?_
    rintro e w3 ⟨rfl, hb3⟩
    have hE : (okOpen xs != okOpen xs) = false := by simp
    go_wp2_with fail
    refine (toI_any _ xs _ (HV.out.below (bthen (bthen hb1 hb2) hb3)) (by omega)).mono ?_
    rintro e w4 ⟨v4, rfl, ho4, hb4⟩
    go_wp2_with fail
    refine (eqI_any _ _ xs xs _ (ho2.ri.below (bthen hb3 hb4)) ho4.ri).mono ?_
    rintro e w5 ⟨rfl, hb5⟩
    have hD : decide (xs = xs) = true := by simp
    go_wp2
    go_ret
    exact ⟨rfl, bthen (bthen (bthen (bthen hb1 hb2) hb3) hb4) hb5⟩
  · go_enter Try.func3, Try.ntmps3
    go_wp2
    go_ret
    exact ⟨rfl, Below.refl _ _⟩

set_option maxRecDepth 100000 in
theorem lifted (os : Os) (started : os.Started) (H : Type) (enc : TypeId × Value → H) :
    ReturnsInHanded {} Try.checked os 3 .any (Rows.fnExactValidOpeningsSpec.pre6 enc Try.prog Try.f3 Rows.fnExactValidOpeningsRow.domain false) (Rows.fnExactValidOpeningsSpec.post enc Try.prog Try.f3 false true false false) := by
  refine returnsInHanded_of_change (C := Try.checked) own started (by kernel_rfl) Try.func3
    (ChangeSpec.witness6 (enc := enc) (C := Try.checked) false ⟨#[], #[.slice none 0 0], []⟩ 8 (by kernel_rfl) (by kernel_rfl) (by kernel_rfl) (by kernel_rfl)) ?_
  intro W base args ds gs before hval0 hW _ _
  have hval : ∀ (j : Nat) t v, Try.f3.params[j]? = some t → args[j]? = some v → Value.okWide Try.prog W .any base t v := hval0
  have hW' := hW
  obtain ⟨p, q, hA0, hV, rfl, _, _⟩ := hW
  have hA : DataW.TrodAll enc Try.prog W 0 (fun _ => true) true Try.f3.params.toList args.toList ds p := hA0
  obtain ⟨rfl, rfl⟩ := trodVars_none hV
  rw [Try.params3] at hA hval
  obtain ⟨v0, d0, rfl, rfl, h0⟩ := trodAll_one hA
  have hlt : ∀ x ∈ p, x.block < W.heap.size := fun x hx => by simpa using hW'.lt x (by simpa using hx)
  obtain ⟨xs, hx⟩ := open_RI Try.underlying22 Try.underlying2 (by kernel_rfl) (hval 0 _ v0 rfl rfl) h0 hlt
  refine (walk v0 xs W hx).mono fun e W' ⟨he, hb⟩ => ?_
  subst he
  exact ⟨_, rfl, law_post laidOut (by decide +kernel) (by kernel_rfl) Try.underlying4 rfl hW' rfl hb⟩

theorem proved : Rows.FnExactValidOpeningsSaid :=
  OpenClaim.holds_of_wide 3 Try.f3 rfl rfl rfl rfl rfl rfl rfl ⟨rfl, rfl, rfl, rfl, rfl⟩ rfl rfl rfl rfl rfl (by kernel_rfl) Try.func3 (by kernel_rfl)
    (of_decide_eq_true (by kernel_rfl)) (by unfold Func.isWrapper; first | (rw [if_pos (by decide +kernel)]; kernel_rfl) | (rw [if_neg (by decide +kernel)]; exact ⟨rfl, rfl⟩))
    (fun os started H enc _ => lifted os started H enc)
end Go.Proofs.Ytoeigifmghfpgaa.fnExactValidOpenings
