/-
  FnSorting: for all bytes it returns true, and leaves its argument as it was. No condition.
-/
import Derived.Test.YteohfokchimfeaaDraw17D
import Derived.Test.YteohfokchimfeaaF6
import Derived.Test.YteohfokchimfeaaF6Has
import Derived.Test.YteohfokchimfeaaSetLaw
import Derived.Test.YteohfokchimfeaaChain
import Derived.Test.YteohfokchimfeaaRounds
import Derived.Test.YteohfokchimfeaaLawBytes
import Derived.Deep.DeepCutAuto
namespace Go.Proofs.Yteohfokchimfeaa
open Go.ChangeShapes Go.WideShapes Go.ChangeAt Go.RowKit

namespace fnSorting

theorem f6sum_any (v : Value) (xs : List Int) (w : World) (hv : RI w v xs) (hs : ∀ k, Good (sumI (xs.take k))) :
    Calls Try.prog 55 #[v] w fun e w' => e = .returned (.int .i64 (sumI xs)) ∧ w = w' := by
  obtain ⟨a, cap, rfl⟩ := hv.shape
  have hl := hv.len
  have HV := Lib.hid hv
  have HS := Lib.hid hs
  clear hv hs
  go_enter Try.func55, Try.ntmps55
  go_wp2
  go_loop [3, 4] (fun s i => ∃ k : Nat, k ≤ xs.length ∧ i = .int .i64 k ∧ s = .int .i64 (sumI (xs.take k))) (fun _ i => xs.length - (intOf i).toNat)
  case atStart => exact ⟨0, Nat.zero_le _, rfl, rfl⟩
  case round =>
    obtain ⟨k, hk, rfl, rfl⟩ := hrel
    by_cases hlt : k < xs.length
    · obtain ⟨b, off, rfl, hb, hc⟩ := HV.out.cells (by omega)
      have g := hc k hlt
      clear hc
      have h1 := HS.out k
      have h2 := HS.out (k + 1)
      rw [take_snoc xs k hlt, sumI_snoc] at h2
      have S1 : sumI (xs.take (k + 1)) = sumI (xs.take k) + xs.getD k 0 := by rw [take_snoc xs k hlt, sumI_snoc]
      generalize xs.getD k 0 = x at g h2 S1
      have H1 := Lib.hid S1
      clear S1
      generalize sumI (xs.take k) = s at *
      unfold Good at h1 h2
      go_wp2
      go_round
      case rel => exact ⟨k + 1, by omega, by go_num, by rw [H1.out]⟩
      case measure => simp [intOf]; omega
    · go_wp2
      go_ret
      exact ⟨ret_int (by rw [List.take_of_length_le (by omega)]), rfl⟩

theorem sort_pack {es : List Int} {nI cI nM cM nR cR : Int} (hI : valInv es = (nI, cI)) (hM : valShifts es = (nM, cM)) (hR : valRounds es = (nR, cR)) (h0 : cI = 0) :
    ∃ X : Bool, (nI == 0) = X ∧ (nM == 0) = X ∧ decide (nR ≤ 1) = X ∧ nM ≤ nI ∧ nR ≤ nM + 1 ∧ 0 ≤ nM ∧ nM ≤ es.length := by
  cases hok : okOrder es with
  | false =>
    unfold valInv at hI
    rw [if_neg (by rw [hok]; decide)] at hI
    have := (Prod.mk.inj hI).2
    omega
  | true =>
    unfold valInv at hI
    rw [if_pos hok] at hI
    unfold valShifts at hM
    rw [if_pos hok] at hM
    unfold valRounds at hR
    rw [if_pos hok] at hR
    obtain ⟨rfl, _⟩ := Prod.mk.inj hI
    obtain ⟨rfl, _⟩ := Prod.mk.inj hM
    obtain ⟨rfl, _⟩ := Prod.mk.inj hR
    obtain ⟨h1, h2, h3, h4⟩ := sorting_facts hok
    have h5 := longest_bounds es
    refine ⟨_, rfl, ?_, ?_, h3, h4, by omega, by omega⟩
    · rw [Bool.eq_iff_iff, beq_iff_eq, beq_iff_eq]; exact h1.symm
    · rw [Bool.eq_iff_iff, beq_iff_eq, decide_eq_true_iff]; exact h2.symm
theorem branch_pack {cs lB : List Int} {bb cB : Int} (h : valBranches cs bb = (lB, cB)) (hl : cs.length ≤ 41) : (∀ k, Good (sumI (lB.take k))) ∧ (cB = 0 → sumI lB = cs.length) := by
  have hb : ∀ y ∈ lB, 0 ≤ y ∧ y ≤ 41 := fun y hy => by
    unfold valBranches at h
    by_cases hk : okBranches cs bb = true
    · rw [if_pos hk] at h
      obtain ⟨rfl, _⟩ := Prod.mk.inj h
      have := countsTo_le _ _ _ y hy
      omega
    · rw [if_neg hk] at h
      obtain ⟨rfl, _⟩ := Prod.mk.inj h
      simp at hy
  have hlen := valBranches_len cs bb
  rw [h] at hlen
  simp only at hlen
  refine ⟨fun k => ?_, fun h0 => ?_⟩
  · have := sumI_bound (lB.take k) 41 (fun y hy => hb y (List.mem_of_mem_take hy))
    have h2 : (lB.take k).length ≤ 1048576 := by rw [List.length_take]; omega
    unfold Good
    omega
  · have := branch_facts (xs := cs) (b := bb) (by rw [h]; exact h0)
    rw [h] at this
    exact this
theorem out_pack {xs lO : List Int} {st cO : Int} (h : valOut xs st = (lO, cO)) (h0 : cO = 0) : ∃ s : Nat, lO = outTo s xs.length ∧ longest (restTo xs s xs.length) ≤ st ∧ okOrder xs = true ∧ xs.length ≤ 9 := by
  unfold valOut at h
  by_cases h1 : okOrder xs = true
  · rw [if_pos h1] at h
    by_cases h2 : inB 0 8 st = true
    · rw [if_pos h2] at h
      by_cases h3 : xs.length ≤ 9
      · rw [if_pos h3] at h
        obtain ⟨rfl, _⟩ := Prod.mk.inj h
        have hst : 0 ≤ st := by unfold inB at h2; simp at h2; omega
        obtain ⟨s, e1, e2⟩ := bst_some (xs := xs) hst
        exact ⟨s, e1, e2, h1, h3⟩
      · rw [if_neg h3] at h
        have := (Prod.mk.inj h).2; omega
    · rw [if_neg h2] at h
      have := (Prod.mk.inj h).2; omega
  · rw [if_neg h1] at h
    have := (Prod.mk.inj h).2; omega
theorem dense_pack {xs : List Int} {st : Int} {s : Nat} (hok : okOrder xs = true) (h : longest (restTo xs s xs.length) ≤ st) : ∃ nd : Int, valStacks (denseTo xs s xs.length xs.length) = (nd, 0) ∧ nd ≤ st := by
  obtain ⟨h1, h2⟩ := dense_facts hok (s : Int)
  refine ⟨_, if_pos h1, by rw [h2]; exact h⟩

set_option maxRecDepth 100000 in
set_option maxHeartbeats 100000000 in
theorem walk (c0 : Value) (n : Nat) (w : World) (hc : BI w c0 n) :
    Calls Try.prog 16 #[c0] w fun e w' => e = .returned (.bool true) ∧ Below w.heap.size w w' := by
  have HC := Lib.hid hc
  clear hc
  obtain ⟨i0, hi, iz0, iz1, iz2⟩ := info_parts info64
  have HI := Lib.hid hi
  clear hi
  go_enter Try.func16, Try.ntmps16
  go_wp2_with fail
  refine (f6big_any c0 n _ HC.out).mono ?_
  rintro e w' ⟨lg, rfl, rfl⟩
  cases lg with
  | true =>
    go_wp2
    go_ret
    exact ⟨rfl, Below.refl _ _⟩
  | false =>
    go_wp2_with fail
    refine (DrawFewestOutOf_any c0 n w HC.out).mono ?_
    rintro e w2 ⟨v1, xs, st, rfl, ho, hx, hst1, hst2, hb2⟩
    have HC := Lib.hid (HC.out.below hb2)
    have HB := Lib.hid hb2
    have HX := Lib.hid ho.ri
    clear ho
    obtain ⟨a1, c1, hsh⟩ := HX.out.shape
    subst hsh
    obtain ⟨lO, cO, hV⟩ : ∃ l c, valOut xs st = (l, c) := ⟨_, _, rfl⟩
    have VO := Lib.hid hV
    clear hV
    clear hb2
    have C := implFewestOutOf_any _ xs st _ HX.out (by omega)
    rw [VO.out] at C
    simp only at C
    have D := Lib.hid C
    clear C
    go_wp2_with fail
    refine (D.out).mono ?_
    rintro e w3 ⟨v2, rfl, ho, hb3⟩
    have HC := Lib.hid (HC.out.below hb3)
    have HX := Lib.hid (HX.out.below hb3)
    have HB := Lib.hid (bthen HB.out hb3)
    have HA := Lib.hid ho.ri
    clear ho
    clear hb3 D
    have C := specFewestOutOf_any _ xs st _ HX.out
    rw [VO.out] at C
    simp only at C
    have D := Lib.hid C
    clear C
    go_wp2_with fail
    refine (D.out).mono ?_
    rintro e w4 ⟨v3, rfl, ho, hb4⟩
    have HC := Lib.hid (HC.out.below hb4)
    have HX := Lib.hid (HX.out.below hb4)
    have HA := Lib.hid (HA.out.below hb4)
    have HB := Lib.hid (bthen HB.out hb4)
    have HM := Lib.hid ho.ri
    clear ho
    clear hb4 D
    go_wp2_with fail
    refine (DrawInversionsOf_any c0 n _ HC.out).mono ?_
    rintro e w5 ⟨v4, es, rfl, ho, he, hb5⟩
    have HC := Lib.hid (HC.out.below hb5)
    have HX := Lib.hid (HX.out.below hb5)
    have HA := Lib.hid (HA.out.below hb5)
    have HM := Lib.hid (HM.out.below hb5)
    have HB := Lib.hid (bthen HB.out hb5)
    have HE := Lib.hid ho.ri
    clear ho
    obtain ⟨a4, c4, hsh⟩ := HE.out.shape
    subst hsh
    obtain ⟨nI, cI, hV⟩ : ∃ l c, valInv es = (l, c) := ⟨_, _, rfl⟩
    have VI := Lib.hid hV
    clear hV
    obtain ⟨nM, cM, hV⟩ : ∃ l c, valShifts es = (l, c) := ⟨_, _, rfl⟩
    have VM := Lib.hid hV
    clear hV
    obtain ⟨nR, cR, hV⟩ : ∃ l c, valRounds es = (l, c) := ⟨_, _, rfl⟩
    have VR := Lib.hid hV
    clear hV
    clear hb5
    have C := implInversionsOf_any _ es _ HE.out (by omega)
    rw [VI.out] at C
    simp only at C
    have D := Lib.hid C
    clear C
    go_wp2_with fail
    refine (D.out).mono ?_
    rintro e w6 ⟨rfl, hb6⟩
    have HC := Lib.hid (HC.out.below hb6)
    have HX := Lib.hid (HX.out.below hb6)
    have HA := Lib.hid (HA.out.below hb6)
    have HM := Lib.hid (HM.out.below hb6)
    have HE := Lib.hid (HE.out.below hb6)
    have HB := Lib.hid (bthen HB.out hb6)
    clear hb6 D
    have C := specInversionsOf_any _ es _ HE.out
    rw [VI.out] at C
    simp only at C
    have D := Lib.hid C
    clear C
    go_wp2_with fail
    refine (D.out).mono ?_
    rintro e w7 ⟨rfl, hb7⟩
    have HC := Lib.hid (HC.out.below hb7)
    have HX := Lib.hid (HX.out.below hb7)
    have HA := Lib.hid (HA.out.below hb7)
    have HM := Lib.hid (HM.out.below hb7)
    have HE := Lib.hid (HE.out.below hb7)
    have HB := Lib.hid (bthen HB.out hb7)
    clear hb7 D
    as_aux_lemma =>
    have C := implFewestShifts_any _ es _ HE.out (by omega)
    rw [VM.out] at C
    simp only at C
    have D := Lib.hid C
    clear C
    go_wp2_with fail
    refine (D.out).mono ?_
    rintro e w8 ⟨rfl, hb8⟩
    have HC := Lib.hid (HC.out.below hb8)
    have HX := Lib.hid (HX.out.below hb8)
    have HA := Lib.hid (HA.out.below hb8)
    have HM := Lib.hid (HM.out.below hb8)
    have HE := Lib.hid (HE.out.below hb8)
    have HB := Lib.hid (bthen HB.out hb8)
    clear hb8 D
    have C := specFewestShifts_any _ es _ HE.out (by omega)
    rw [VM.out] at C
    simp only at C
    have D := Lib.hid C
    clear C
    go_wp2_with fail
    refine (D.out).mono ?_
    rintro e w9 ⟨rfl, hb9⟩
    have HC := Lib.hid (HC.out.below hb9)
    have HX := Lib.hid (HX.out.below hb9)
    have HA := Lib.hid (HA.out.below hb9)
    have HM := Lib.hid (HM.out.below hb9)
    have HE := Lib.hid (HE.out.below hb9)
    have HB := Lib.hid (bthen HB.out hb9)
    clear hb9 D
    have C := implRoundsOf_any _ es _ HE.out (by omega)
    rw [VR.out] at C
    simp only at C
    have D := Lib.hid C
    clear C
    go_wp2_with fail
    refine (D.out).mono ?_
    rintro e w10 ⟨rfl, hb10⟩
    have HC := Lib.hid (HC.out.below hb10)
    have HX := Lib.hid (HX.out.below hb10)
    have HA := Lib.hid (HA.out.below hb10)
    have HM := Lib.hid (HM.out.below hb10)
    have HE := Lib.hid (HE.out.below hb10)
    have HB := Lib.hid (bthen HB.out hb10)
    clear hb10 D
    have C := specRoundsOf_any _ es _ HE.out
    rw [VR.out] at C
    simp only at C
    have D := Lib.hid C
    clear C
    go_wp2_with fail
    refine (D.out).mono ?_
    rintro e w11 ⟨rfl, hb11⟩
    have HC := Lib.hid (HC.out.below hb11)
    have HX := Lib.hid (HX.out.below hb11)
    have HA := Lib.hid (HA.out.below hb11)
    have HM := Lib.hid (HM.out.below hb11)
    have HE := Lib.hid (HE.out.below hb11)
    have HB := Lib.hid (bthen HB.out hb11)
    clear hb11 D
    go_wp2_with fail
    refine (DrawBranchCounts_any c0 n _ HC.out).mono ?_
    rintro e w12 ⟨v5, cs, bb, rfl, ho, hcs, hbb1, hbb2, hb12⟩
    have HC := Lib.hid (HC.out.below hb12)
    have HX := Lib.hid (HX.out.below hb12)
    have HA := Lib.hid (HA.out.below hb12)
    have HM := Lib.hid (HM.out.below hb12)
    have HB := Lib.hid (bthen HB.out hb12)
    have HF := Lib.hid ho.ri
    clear ho
    obtain ⟨a5, c5, hsh⟩ := HF.out.shape
    subst hsh
    obtain ⟨lB, cB, hV⟩ : ∃ l c, valBranches cs bb = (l, c) := ⟨_, _, rfl⟩
    have VB := Lib.hid hV
    clear hV
    clear hb12
    have C := implBranchCounts_any _ cs bb _ HF.out
    rw [VB.out] at C
    simp only at C
    have D := Lib.hid C
    clear C
    go_wp2_with fail
    refine (D.out).mono ?_
    rintro e w13 ⟨v6, rfl, ho, hb13⟩
    have HC := Lib.hid (HC.out.below hb13)
    have HX := Lib.hid (HX.out.below hb13)
    have HA := Lib.hid (HA.out.below hb13)
    have HM := Lib.hid (HM.out.below hb13)
    have HF := Lib.hid (HF.out.below hb13)
    have HB := Lib.hid (bthen HB.out hb13)
    have HG := Lib.hid ho.ri
    clear ho
    clear hb13 D
    as_aux_lemma =>
    have C := specBranchCounts_any _ cs bb _ HF.out
    rw [VB.out] at C
    simp only at C
    have D := Lib.hid C
    clear C
    go_wp2_with fail
    refine (D.out).mono ?_
    rintro e w14 ⟨v7, rfl, ho, hb14⟩
    have HC := Lib.hid (HC.out.below hb14)
    have HX := Lib.hid (HX.out.below hb14)
    have HA := Lib.hid (HA.out.below hb14)
    have HM := Lib.hid (HM.out.below hb14)
    have HF := Lib.hid (HF.out.below hb14)
    have HG := Lib.hid (HG.out.below hb14)
    have HB := Lib.hid (bthen HB.out hb14)
    have HH := Lib.hid ho.ri
    clear ho
    clear hb14 D
    go_wp2_with fail
    refine (DrawSwitchTurns_any c0 n _ HC.out).mono ?_
    rintro e w15 ⟨v8, ds, rfl, ho, hds, hb15⟩
    have HC := Lib.hid (HC.out.below hb15)
    have HX := Lib.hid (HX.out.below hb15)
    have HA := Lib.hid (HA.out.below hb15)
    have HM := Lib.hid (HM.out.below hb15)
    have HG := Lib.hid (HG.out.below hb15)
    have HH := Lib.hid (HH.out.below hb15)
    have HB := Lib.hid (bthen HB.out hb15)
    have HK := Lib.hid ho.ri
    clear ho
    obtain ⟨a8, c8, hsh⟩ := HK.out.shape
    subst hsh
    obtain ⟨nT, cT, hV⟩ : ∃ l c, valTurns ds = (l, c) := ⟨_, _, rfl⟩
    have VT := Lib.hid hV
    clear hV
    clear hb15
    have C := implSwitchTurns_any _ ds _ HK.out
    rw [VT.out] at C
    simp only at C
    have D := Lib.hid C
    clear C
    go_wp2_with fail
    refine (D.out).mono ?_
    rintro e w16 ⟨rfl, hb16⟩
    have HX := Lib.hid (HX.out.below hb16)
    have HA := Lib.hid (HA.out.below hb16)
    have HM := Lib.hid (HM.out.below hb16)
    have HG := Lib.hid (HG.out.below hb16)
    have HH := Lib.hid (HH.out.below hb16)
    have HK := Lib.hid (HK.out.below hb16)
    have HB := Lib.hid (bthen HB.out hb16)
    clear hb16 D
    have C := specSwitchTurns_any _ ds _ HK.out
    rw [VT.out] at C
    simp only at C
    have D := Lib.hid C
    clear C
    go_wp2_with fail
    refine (D.out).mono ?_
    rintro e w17 ⟨rfl, hb17⟩
    have HX := Lib.hid (HX.out.below hb17)
    have HA := Lib.hid (HA.out.below hb17)
    have HM := Lib.hid (HM.out.below hb17)
    have HG := Lib.hid (HG.out.below hb17)
    have HH := Lib.hid (HH.out.below hb17)
    have HK := Lib.hid (HK.out.below hb17)
    have HB := Lib.hid (bthen HB.out hb17)
    clear hb17 D
    go_wp2_with fail
    refine (f6ints_any _ _ _ _ HA.out HM.out).mono ?_
    rintro e w18 ⟨rfl, hb18⟩
    have HX := Lib.hid (HX.out.below hb18)
    have HA := Lib.hid (HA.out.below hb18)
    have HM := Lib.hid (HM.out.below hb18)
    have HG := Lib.hid (HG.out.below hb18)
    have HH := Lib.hid (HH.out.below hb18)
    have HB := Lib.hid (bthen HB.out hb18)
    clear hb18
    as_aux_lemma =>
    go_wp2_with fail
    refine (f6ints_any _ _ _ _ HG.out HH.out).mono ?_
    rintro e w19 ⟨rfl, hb19⟩
    have HX := Lib.hid (HX.out.below hb19)
    have HM := Lib.hid (HM.out.below hb19)
    have HG := Lib.hid (HG.out.below hb19)
    have HH := Lib.hid (HH.out.below hb19)
    have HB := Lib.hid (bthen HB.out hb19)
    clear hb19
    go_upto_region 21 with fail
    go_cut [205] (fun t wz => t = .bool false ∧ Below w19.heap.size w19 wz)
    case first => as_aux_lemma =>
      by_cases h0 : cI = 0
      · obtain ⟨X, x1, x2, x3, x4, x5, x6, x7⟩ := sort_pack VI.out VM.out VR.out h0
        have hb0 : (cI == 0) = true := by rw [h0]; rfl
        have hwm : IntKind.i64.wrap (nM + 1) = nM + 1 := IntWalk.i64_in _ (by omega)
        have d1 : decide (nI < nM) = false := decide_eq_false (by omega)
        have d2 : decide (nM + 1 < nR) = false := decide_eq_false (by omega)
        clear h0 x4 x5 x6 x7
        go_wp2_with fail
        go_meet
        case rel => exact ⟨rfl, Below.refl _ _⟩
      · have hb0 : (cI == 0) = false := by rw [beq_eq_false_iff_ne]; exact h0
        clear h0
        go_wp2_with fail
        go_meet
        case rel => exact ⟨rfl, Below.refl _ _⟩
    case rest => as_aux_lemma =>
      obtain ⟨rfl, hbz⟩ := hcut
      rename World => wz
      have HX := Lib.hid (HX.out.below hbz)
      have HM := Lib.hid (HM.out.below hbz)
      have HH := Lib.hid (HH.out.below hbz)
      have HB := Lib.hid (bthen HB.out hbz)
      clear hbz
      go_upto_region 23 with fail
      go_cut [224] (fun t wy => t = .bool false ∧ Below wz.heap.size wz wy)
      case first => as_aux_lemma =>
        obtain ⟨q1, q2⟩ := branch_pack VB.out hcs
        have Q1 := Lib.hid q1
        have Q2 := Lib.hid q2
        have HT := Lib.hid (fun (h : cT = 0) => show nT ≤ ds.length from by
          have := turns_facts (xs := ds) (by rw [VT.out]; exact h)
          rw [VT.out] at this
          exact this)
        clear q1 q2
        by_cases ht0 : cT = 0
        · have htt : (cT == 0) = true := by rw [ht0]; rfl
          have hT := HT.out ht0
          have d1 : decide ((ds.length : Int) < nT) = false := decide_eq_false (by omega)
          clear ht0 hT
          by_cases hb0 : cB = 0
          · have hbb : (cB == 0) = true := by rw [hb0]; rfl
            have HS := Lib.hid (Q2.out hb0)
            have hne : ((cs.length : Int) != (cs.length : Int)) = false := by simp
            clear hb0
            go_wp2_with fail
            refine (f6sum_any _ lB _ HH.out Q1.out).mono ?_
            rintro e w' ⟨rfl, rfl⟩
            rw [HS.out]
            go_wp2_with fail
            go_meet
            case rel => exact ⟨rfl, Below.refl _ _⟩
          · have hbb : (cB == 0) = false := by rw [beq_eq_false_iff_ne]; exact hb0
            clear hb0
            go_wp2_with fail
            go_meet
            case rel => exact ⟨rfl, Below.refl _ _⟩
        · have htt : (cT == 0) = false := by rw [beq_eq_false_iff_ne]; exact ht0
          clear ht0
          by_cases hb0 : cB = 0
          · have hbb : (cB == 0) = true := by rw [hb0]; rfl
            have HS := Lib.hid (Q2.out hb0)
            have hne : ((cs.length : Int) != (cs.length : Int)) = false := by simp
            clear hb0
            go_wp2_with fail
            refine (f6sum_any _ lB _ HH.out Q1.out).mono ?_
            rintro e w' ⟨rfl, rfl⟩
            rw [HS.out]
            go_wp2_with fail
            go_meet
            case rel => exact ⟨rfl, Below.refl _ _⟩
          · have hbb : (cB == 0) = false := by rw [beq_eq_false_iff_ne]; exact hb0
            clear hb0
            go_wp2_with fail
            go_meet
            case rel => exact ⟨rfl, Below.refl _ _⟩
      case rest => as_aux_lemma =>
        obtain ⟨rfl, hby⟩ := hcut
        rename World => wy
        have HX := Lib.hid (HX.out.below hby)
        have HM := Lib.hid (HM.out.below hby)
        have HB := Lib.hid (bthen HB.out hby)
        clear hby
        by_cases h0 : cO = 0
        · obtain ⟨s, rfl, e2, hok, hn9⟩ := out_pack VO.out h0
          obtain ⟨nd, e3, e4⟩ := dense_pack hok e2
          have hb0 : (cO != 0) = false := by rw [h0]; rfl
          have hdn : decide (nd ≤ st) = true := decide_eq_true e4
          have HE3 := Lib.hid e3
          have HDO := Lib.hid (dense_out xs (s : Int) xs.length xs.length)
          have HOL := Lib.hid (outTo_len (s : Int) xs.length)
          have HHas := Lib.hid (fun (i : Nat) (W : World) (hi : i < xs.length) (B : Below wy.heap.size wy W) => (mem_outTo (s := (s : Int)) hi ▸ f6has_any _ _ (i : Int) W (HM.out.below B)))
          obtain ⟨a3, c3, hsh⟩ := HM.out.shape
          subst hsh
          clear h0 e2 e3 hok
          go_wp2_with fail
          go_loopw [33, 34] (fun o i wr => ∃ (k : Nat) (u : Value), k ≤ xs.length ∧ i = .int .i64 k ∧ u = o ∧ Hid (OI 2 wr wy.heap.size u (denseTo xs s xs.length k)) ∧ Below wy.heap.size wy wr) (fun _ i _ => xs.length - (intOf i).toNat)
          case atStart => exact ⟨0, _, Nat.zero_le _, rfl, rfl, Lib.hid (OI.lit0 _ _ _ (Nat.le_refl _)), (Below.refl _ _).alloc (Nat.le_refl _) _⟩
          case round => as_aux_lemma =>
            rename World => wr
            obtain ⟨k, u, hk, rfl, rfl, HO, hbr⟩ := hrel
            by_cases hlt : k < xs.length
            · have hd : decide ((k : Int) < (xs.length : Int)) = true := decide_eq_true (by omega)
              have hlen := dense_len xs (s : Int) xs.length k
              cases hh : hasB (s : Int) (k : Nat) with
              | true =>
                have C := HHas.out k wr hlt hbr
                rw [hh] at C
                have D := Lib.hid C
                have HN := Lib.hid (dense_no (xs := xs) (n := xs.length) hh)
                clear C hh
                go_wp2_with fail
                refine D.out.mono ?_
                rintro e w' ⟨rfl, rfl⟩
                go_wp2_with fail
                go_roundw
                case rel => exact ⟨k + 1, u, by omega, by go_num, rfl, by rw [HN.out]; exact HO, hbr⟩
                case measure => simp [intOf]; omega
              | false =>
                have C := HHas.out k wr hlt hbr
                rw [hh] at C
                have D := Lib.hid C
                have HN := Lib.hid (dense_yes (xs := xs) (n := xs.length) hh)
                clear C hh
                obtain ⟨wo, hwo⟩ : ∃ wo : World, wo = wr := ⟨_, rfl⟩
                subst hwo
                have HRK := Lib.hid (show rankC xs s xs.length k = cnt (lessB xs s (xs.getD k 0)) xs.length from rfl)
                go_wp2_with fail
                refine D.out.mono ?_
                rintro e w' ⟨rfl, rfl⟩
                go_wp2_with fail
                go_loopw [35, 36] (fun l j wq => ∃ q : Nat, q ≤ xs.length ∧ j = .int .i64 q ∧ l = .int .i64 ((cnt (lessB xs s (xs.getD k 0)) q : Nat) : Int) ∧ Below wo.heap.size wo wq) (fun _ j _ => xs.length - (intOf j).toNat)
                case atStart => exact ⟨0, Nat.zero_le _, rfl, rfl, Below.refl _ _⟩
                case round =>
                  rename World => wq
                  obtain ⟨q, hq, rfl, rfl, hbq⟩ := hrel
                  by_cases hqt : q < xs.length
                  · have hdq : decide ((q : Int) < (xs.length : Int)) = true := decide_eq_true (by omega)
                    have hcq := cnt_le (lessB xs s (xs.getD k 0)) q
                    obtain ⟨b, off, rfl, hbl, hc⟩ := HX.out.cells (by omega)
                    have g1 := ((bthen hbr hbq).cell (p := ⟨b, off + k, none⟩) hbl).trans (hc k hlt)
                    have g2 := ((bthen hbr hbq).cell (p := ⟨b, off + q, none⟩) hbl).trans (hc q hqt)
                    have S1 := cnt_succ (lessB xs s (xs.getD k 0)) q
                    have S2 : lessB xs s (xs.getD k 0) q = (!hasB s (q : Nat) && decide (xs.getD q 0 < xs.getD k 0)) := rfl
                    have CQ := fun (m : Nat) => HHas.out q (wq.drewN m) hqt (below_drewN (bthen hbr hbq) m)
                    generalize cnt (lessB xs s (xs.getD k 0)) q = c at S1 hcq ⊢
                    generalize hl1 : lessB xs s (xs.getD k 0) q = lb at S1 S2
                    generalize xs.getD k 0 = x at g1 S1 S2 ⊢
                    generalize xs.getD q 0 = y at g2 S2
                    have hki : (k : Int) < xs.length := by omega
                    have hqi : (q : Int) < xs.length := by omega
                    have hwc : IntKind.i64.wrap ((c : Int) + 1) = (c : Int) + 1 := IntWalk.i64_in _ (by omega)
                    clear hc hl1
                    cases hh : hasB (s : Int) (q : Nat) with
                    | true =>
                      rw [hh] at CQ S2
                      have DQ := Lib.hid CQ
                      have HS1 := Lib.hid (show cnt (lessB xs s x) (q + 1) = c by rw [S1, S2]; rfl)
                      clear CQ S1 S2 hh
                      go_wp2_with fail
                      go_quiet ((go_at_call 56; exact quiet_eq (DQ.out _)))
                      go_wp2_with fail
                      go_roundw
                      case rel => exact ⟨q + 1, by omega, by go_num, by rw [HS1.out], below_drewN hbq _⟩
                      case measure => simp [intOf]; omega
                    | false =>
                      rw [hh] at CQ S2
                      have DQ := Lib.hid CQ
                      by_cases hxy : y < x
                      · have hdx : decide (y < x) = true := decide_eq_true hxy
                        have HS1 := Lib.hid (show cnt (lessB xs s x) (q + 1) = c + 1 by rw [S1, S2, hdx]; rfl)
                        clear CQ S1 S2 hh hxy
                        go_wp2_with fail
                        go_quiet ((go_at_call 56; exact quiet_eq (DQ.out _)))
                        go_wp2_with fail
                        go_roundw
                        case rel => exact ⟨q + 1, by omega, by go_num, by rw [HS1.out]; simp, below_drewN hbq _⟩
                        case measure => simp [intOf]; omega
                      · have hdx : decide (y < x) = false := decide_eq_false hxy
                        have HS1 := Lib.hid (show cnt (lessB xs s x) (q + 1) = c by rw [S1, S2, hdx]; rfl)
                        clear CQ S1 S2 hh hxy
                        go_wp2_with fail
                        go_quiet ((go_at_call 56; exact quiet_eq (DQ.out _)))
                        go_wp2_with fail
                        go_roundw
                        case rel => exact ⟨q + 1, by omega, by go_num, by rw [HS1.out], below_drewN hbq _⟩
                        case measure => simp [intOf]; omega
                  · obtain rfl : q = xs.length := by omega
                    have hdq : decide ((xs.length : Int) < (xs.length : Int)) = false := decide_eq_false (by omega)
                    have hrk := cnt_le (lessB xs s (xs.getD k 0)) xs.length
                    rw [← HRK.out] at hrk ⊢
                    have HOQ := Lib.hid (HO.out.below hbq)
                    have hbQ := bthen hbr hbq
                    have HBQ := Lib.hid hbQ
                    have hszQ := hbQ.size
                    generalize rankC xs s xs.length k = r at hrk HN ⊢
                    have HGR := Lib.hid (show Good (r : Int) by unfold Good; omega)
                    clear hbQ
                    go_wp2_with (
                      at_builtin
                      refine wpList_app1n rfl _ _ 22 rfl 2 _ i0 Try.underlying22 HI.out iz0 iz1 iz2 wy.heap.size _ _ rfl HOQ.out _ _ (by simp) rfl HGR.out (by omega) hszQ ?_
                      intro v9 w9 h1 h2 h3
                      have H9 := Lib.hid h1
                      have HB9 := Lib.hid (HOQ.out.step HBQ.out h2)
                      clear h1 h2 h3)
                    go_roundw
                    case rel => exact ⟨k + 1, v9, by omega, by go_num, rfl, by rw [HN.out]; exact H9, HB9.out⟩
                    case measure => simp [intOf]; omega
            · obtain rfl : k = xs.length := by omega
              have hd : decide ((xs.length : Int) < (xs.length : Int)) = false := decide_eq_false (by omega)
              have hlen := dense_len xs (s : Int) xs.length xs.length
              have C := implStacksNeeded_any _ _ _ HO.out.ri (by omega)
              rw [HE3.out] at C
              simp only at C
              have D := Lib.hid C
              obtain ⟨a9, c9, hsh⟩ := HO.out.ri.shape
              subst hsh
              have hol := HOL.out
              have hsum := HDO.out
              generalize (denseTo xs s xs.length xs.length).length = l1 at hsum hlen D ⊢
              generalize (outTo (s : Int) xs.length).length = l2 at hsum hol HM ⊢
              have hws : IntKind.i64.wrap ((l1 : Int) + (l2 : Int)) = (xs.length : Int) := by rw [IntWalk.i64_in _ (by omega)]; omega
              have HBR := Lib.hid hbr
              clear C hsum hol hlen hbr
              go_wp2_with fail
              refine D.out.mono ?_
              rintro e w' ⟨rfl, hb'⟩
              go_wp2_with fail
              go_ret
              exact ⟨rfl, bthen (bthen HB.out HBR.out) hb'⟩
        · have hb0 : (cO != 0) = true := by rw [bne_iff_ne]; exact h0
          clear h0
          go_wp2_with fail
          go_ret
          exact ⟨rfl, HB.out⟩

set_option maxRecDepth 100000 in
theorem lifted (os : Os) (started : os.Started) (H : Type) (enc : TypeId × Value → H) :
    ReturnsInHanded {} Try.checked os 16 .any (Rows.fnSortingSpec.pre6 enc Try.prog Try.f16 Rows.fnSortingRow.domain false) (Rows.fnSortingSpec.post enc Try.prog Try.f16 false true false false) := by
  refine returnsInHanded_of_change (C := Try.checked) own started (by kernel_rfl) Try.func16
    (ChangeSpec.witness6 (enc := enc) (C := Try.checked) false ⟨#[], #[.slice none 0 0], []⟩ 8 (by kernel_rfl) (by kernel_rfl) (by kernel_rfl) (by kernel_rfl)) ?_
  intro W base args ds gs before hval0 hW _ _
  have hval : ∀ (j : Nat) t v, Try.f16.params[j]? = some t → args[j]? = some v → Value.okWide Try.prog W .any base t v := hval0
  have hW' := hW
  obtain ⟨p, q, hA0, hV, rfl, _, _⟩ := hW
  have hA : DataW.TrodAll enc Try.prog W 0 (fun _ => true) true Try.f16.params.toList args.toList ds p := hA0
  obtain ⟨rfl, rfl⟩ := trodVars_none hV
  have hlt0 : ∀ x ∈ p, x.block < W.heap.size := fun x hx => by simpa using hW'.lt x (by simpa using hx)
  rw [Try.params16] at hA hval
  obtain ⟨b0, vs0, d0, ds0, p0, q0, hargs0, rfl, rfl, h0, r0⟩ := trodAll_cons hA
  obtain ⟨e1, rfl, e2⟩ := trodAll_nil r0
  have hargs : args = #[b0] := by
    cases args
    simp_all
  subst hargs
  obtain ⟨n0, hx0⟩ := open_BI Try.underlying36 Try.underlying5 (by kernel_rfl) (hval 0 _ b0 rfl rfl) h0 (fun x hx => hlt0 x (by simp [hx]))
  refine (walk b0 n0 W hx0).mono fun e W' ⟨he, hb⟩ => ?_
  subst he
  exact ⟨_, rfl, law_post laidOut (by decide +kernel) (by kernel_rfl) Try.underlying4 rfl hW' rfl hb⟩

theorem proved : Rows.FnSortingSaid :=
  OpenClaim.holds_of_wide 16 Try.f16 rfl rfl rfl rfl rfl rfl rfl ⟨rfl, rfl, rfl, rfl, rfl⟩ rfl rfl rfl rfl rfl (by kernel_rfl) Try.func16 (by kernel_rfl)
    (of_decide_eq_true (by kernel_rfl)) (by unfold Func.isWrapper; first | (rw [if_pos (by decide +kernel)]; kernel_rfl) | (rw [if_neg (by decide +kernel)]; exact ⟨rfl, rfl⟩))
    (fun os started H enc _ => lifted os started H enc)


end fnSorting
end Go.Proofs.Yteohfokchimfeaa

