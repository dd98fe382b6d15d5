/-
  THE LAW FnExactLossText: the walk, the lift under the listed tables, and the tied card.
-/
import Derived.Test.YtpgnndpjlcihiaaDoorLaw
import Derived.Test.YtpgnndpjlcihiaaDoorLawOne3
import Derived.Test.YtpgnndpjlcihiaaDoorText
import Derived.Test.YtpgnndpjlcihiaaDoorTie
import Derived.Test.YtpgnndpjlcihiaaDoorCards
import Derived.ProofKit
import Derived.LaidMore
import Derived.Stop.LaidErr
import Derived.Stop.Joined
import Derived.Lib.LaidTab
import Derived.SevenTiedAt
namespace Go.Proofs.YtpgnndpjlcihiaaDoor.fnExactLossText
open Go.ChangeShapes Go.WideShapes Go.ChangeAt Go.RowKit

theorem toLoss1_any (x y z : Int) (w : World) : Calls Tryd.prog 6 #[.agg #[.int .i64 x, .int .i64 y, .int .i64 z]] w fun e w' => e = .returned (.agg #[.int .i64 x, .int .i64 y, .int .i64 z]) ∧ Below w.heap.size w w' := by
  go_enter Tryd.func6, Tryd.ntmps6
  go_wp2
  exact bodyPost_ret (v := .agg #[.int .i64 x, .int .i64 y, .int .i64 z]) (by simp [results, Tryd.results6, go_sem]) rfl ⟨rfl, (((Below.refl _ _).alloc (Nat.le_refl _) _).alloc (by simp) _).alloc (by simp; omega) _⟩

set_option maxRecDepth 100000 in
theorem walk (B : Nat) (x y z : Int) (w : World) (hp : Pows B w) :
    Calls Tryd.prog 3 #[.agg #[.int .i64 x, .int .i64 y, .int .i64 z]] w fun e w' => e = .returned (.bool true) ∧ Below w.heap.size w w' := by
  have HB1 := Lib.hid ((Below.refl w.heap.size w).alloc (Nat.le_refl _) (.cells #[.int .i64 x, .int .i64 y, .int .i64 z] 23))
  have c0 : (w.alloc (.cells #[.int .i64 x, .int .i64 y, .int .i64 z] 23)).cell? ⟨w.heap.size, 0, none⟩ = some (.int .i64 x) := by rw [World.cell?_alloc_at _ _ _ _ rfl]; rfl
  have c1 : (w.alloc (.cells #[.int .i64 x, .int .i64 y, .int .i64 z] 23)).cell? ⟨w.heap.size, 1, none⟩ = some (.int .i64 y) := by rw [World.cell?_alloc_at _ _ _ _ rfl]; rfl
  have c2 : (w.alloc (.cells #[.int .i64 x, .int .i64 y, .int .i64 z] 23)).cell? ⟨w.heap.size, 2, none⟩ = some (.int .i64 z) := by rw [World.cell?_alloc_at _ _ _ _ rfl]; rfl
  have hz : w.heap.size < (w.alloc (.cells #[.int .i64 x, .int .i64 y, .int .i64 z] 23)).heap.size := by simp
  have HP := Lib.hid (hp.below HB1.out)
  clear hp
  have CT := fun w => Lib.hid (toLoss1_any x y z w)
  have CS := fun w => Lib.hid (specLossText_any x y z w)
  have CI := fun w (hpw : Pows B w) => Lib.hid (implLossText_any B x y z w hpw)
  generalize textOf 9 (x, y, z) = S at CS CI
  go_enter Tryd.func3, Tryd.ntmps3
  go_wp2_with fail
  refine (CT _).out.mono ?_
  rintro e w1 ⟨rfl, hb1⟩
  have d0 := (hb1.cell (p := ⟨w.heap.size, 0, none⟩) hz).trans c0
  have d1 := (hb1.cell (p := ⟨w.heap.size, 1, none⟩) hz).trans c1
  have d2 := (hb1.cell (p := ⟨w.heap.size, 2, none⟩) hz).trans c2
  have hz1 : w.heap.size < w1.heap.size := Nat.lt_of_lt_of_le hz hb1.size
  have HP1 := Lib.hid (HP.out.below hb1)
  have HB2 := Lib.hid (bthen HB1.out hb1)
  clear hb1 c0 c1 c2 hz HP HB1
  go_wp2_with fail
  refine (CS _).out.mono ?_
  rintro e w2 ⟨rfl, hb2⟩
  have e0 := (hb2.cell (p := ⟨w.heap.size, 0, none⟩) hz1).trans d0
  have e1 := (hb2.cell (p := ⟨w.heap.size, 1, none⟩) hz1).trans d1
  have e2 := (hb2.cell (p := ⟨w.heap.size, 2, none⟩) hz1).trans d2
  have HP2 := Lib.hid (HP1.out.below hb2)
  have HB3 := Lib.hid (bthen HB2.out hb2)
  clear hb2 d0 d1 d2 hz1 HP1 HB2
  go_wp2_with fail
  refine (CT _).out.mono ?_
  rintro e w3 ⟨rfl, hb3⟩
  have HP3 := Lib.hid (HP2.out.below hb3)
  have HB4 := Lib.hid (bthen HB3.out hb3)
  clear hb3 HP2 HB3 e0 e1 e2
  go_wp2_with fail
  refine (CI _ HP3.out).out.mono ?_
  rintro e w4 ⟨rfl, hb4⟩
  have HB5 := Lib.hid (bthen HB4.out hb4)
  clear hb4 HP3 HB4
  go_wp2_with fail
  go_ret
  exact ⟨rfl, HB5.out⟩

theorem gPow : Tryd.prog.globalNamed "internal/strconv.uint64pow10" = some 0 := by kernel_rfl
theorem tPow : (Tryd.prog.globals[0]?).map (·.type) = some 107 := by kernel_rfl

/-- The listed tables. -/
def laid3 : List (String × DataW Unit) := [("math/bits.deBruijn32tab", Rows.laid_math_bits_deBruijn32tab), ("math/bits.deBruijn64tab", Rows.laid_math_bits_deBruijn64tab), ("internal/strconv.uint64pow10", Rows.laid_internal_strconv_uint64pow10)]

theorem door_met (os : Os) (args : Array Value) : laidMetH Tryd.prog laid3 ((World.doorLaid Tryd.prog 64 os).forCall (fun _ _ => 0) ⟨#[], args, []⟩).memory :=
  laidMetH_of_parts3 (fuel := 8) (laidMet_of_run' 8 (by kernel_rfl) (by kernel_rfl)) (by kernel_rfl) (by kernel_rfl)

theorem pow_data : (Rows.laid_internal_strconv_uint64pow10 : DataW Unit) = Lib.tabData .u64 Lib.pow10Tab := by kernel_rfl

theorem of_laid {W : World} (h : laidMetH Tryd.prog laid3 W) : Pows W.heap.size W := by
  rw [MakeChecks.laidMetH_plain _ _ _ (by kernel_rfl)] at h
  have h1 := laidMet.tail (laidMet.tail h)
  rw [pow_data] at h1
  exact ⟨Nat.le_refl _, Lib.tabBelow_of_tabIs (Lib.tabIs_of_head gPow tPow Tryd.underlying107 Tryd.underlying82 (by kernel_rfl) (by kernel_rfl) h1)⟩

set_option maxRecDepth 100000 in
theorem lifted (os : Os) (started : os.Started) (H : Type) (enc : TypeId × Value → H) :
    ReturnsInHanded {} Tryd.checked os 3 .any (fun w args => (Rows.fnExactLossTextSpec.pre enc Tryd.prog Tryd.f3 [] false w args ∧ laidMetH Tryd.prog laid3 w) ∧ sizedMet enc Tryd.prog Tryd.f3 (OpenSpec.ofChange Rows.fnExactLossTextSpec) false w args)
      (Rows.fnExactLossTextSpec.post enc Tryd.prog Tryd.f3 false true false false) := by
  refine returnsInHanded_of_change_and (C := Tryd.checked) (X := fun w _ => laidMetH Tryd.prog laid3 w) (fun _ _ _ hh h => h.of_heap hh) own started (by kernel_rfl) Tryd.func3
    (ChangeSpec.witness_shaped (enc := enc) (C := Tryd.checked) (os := os) (X := fun w _ => laidMetH Tryd.prog laid3 w) false (World.doorLaid Tryd.prog 64 os) #[.agg #[.int .i64 0, .int .i64 0, .int .i64 0]] 8 rfl (World.shaped_of_RefB (by kernel_rfl) (by kernel_rfl)) (by kernel_rfl) (by kernel_rfl) (by kernel_rfl) (door_met os _)) ?_
  intro W base args ds gs before hval0 hW _ _ hL _
  have hval : ∀ (j : Nat) t v, Tryd.f3.params[j]? = some t → args[j]? = some v → Value.okWide Tryd.prog W .any base t v := hval0
  have hW' := hW
  obtain ⟨p, q, hA0, hV, rfl, _, _⟩ := hW
  have hA : DataW.TrodAll enc Tryd.prog W 0 (fun _ => true) true Tryd.f3.params.toList args.toList ds p := hA0
  obtain ⟨rfl, rfl⟩ := trodVars_none hV
  have hlt0 : ∀ x ∈ p, x.block < W.heap.size := fun x hx => by simpa using hW'.lt x (by simpa using hx)
  rw [Tryd.params3] at hA hval
  obtain ⟨b0, vs0, d0, ds0, p0, q0, hargs0, rfl, rfl, h0, r0⟩ := trodAll_cons hA
  obtain ⟨e1, rfl, e2⟩ := trodAll_nil r0
  have hargs : args = #[b0] := by
    cases args
    simp_all
  subst hargs
  obtain ⟨rf2, rt2, rl2, rfl⟩ := open_rec3 ⟨_, _, _, Tryd.underlying23, by kernel_rfl, ⟨rfl, rfl, rfl⟩, ⟨by kernel_rfl, by kernel_rfl, by kernel_rfl⟩, Tryd.underlying2, Tryd.underlying2, Tryd.underlying2⟩ (hval 0 _ b0 rfl rfl) h0
  refine (walk _ rf2 rt2 rl2 W (of_laid hL)).mono fun e W' ⟨he, hb⟩ => ?_
  subst he
  exact ⟨_, rfl, law_post laidOut (by decide +kernel) (by kernel_rfl) Tryd.underlying4 rfl hW' rfl hb⟩

theorem said : Rows.FnExactLossTextSaid :=
  OpenClaim.holds_of_wide 3 Tryd.f3 rfl rfl rfl rfl rfl rfl rfl ⟨rfl, rfl, rfl, rfl, rfl⟩ rfl rfl rfl rfl rfl (by kernel_rfl) Tryd.func3 (by kernel_rfl)
    (of_decide_eq_true (by kernel_rfl)) (by unfold Func.isWrapper; first | (rw [if_pos (by decide +kernel)]; kernel_rfl) | (rw [if_neg (by decide +kernel)]; exact ⟨rfl, rfl⟩))
    (fun os started H enc _ => lifted os started H enc)

theorem proved : Rows.FnExactLossTextCardSaid :=
  Claim7.holds_tied_plain_at .later [] [.data, .data, .data] true (true, "135316d1f2cff0a92fb58049609512a64b12f6d5fb9ce7c49cbf426f6b4677cf") false
    said (fun _ h => by cases h) (by kernel_rfl) (fun _ h => by cases h) fnExactLossText_row_tie rfl ⟨rfl, rfl⟩ (by kernel_rfl) rfl
    (fun f fn hf hfn => by
      obtain rfl : f = 3 := Option.some.inj ((show Tryd.prog.funcNamed "loop.example/g01046/laws.FnExactLossText" = some 3 by kernel_rfl).symm.trans hf) |>.symm
      obtain rfl : fn = Tryd.f3 := (Option.some.inj (Tryd.func3.symm.trans hfn)).symm
      exact ⟨by kernel_rfl, fun j t ht => by
        rw [Tryd.params3] at ht
        have hm : t ∈ [23] := by simpa using Array.mem_of_getElem? ht
        have hall : ([23].all fun u => !Tryd.prog.wantsStandIn u) = true := by kernel_rfl
        exact (show Tryd.prog.wantsStandIn t = false by simpa using List.all_eq_true.1 hall t hm)⟩)
    (by kernel_rfl)
end Go.Proofs.YtpgnndpjlcihiaaDoor.fnExactLossText
