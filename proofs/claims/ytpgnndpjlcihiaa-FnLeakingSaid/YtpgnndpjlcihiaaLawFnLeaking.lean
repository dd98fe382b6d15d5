/-
  FnLeaking: for all bytes it returns true, and leaves its argument as it was. No condition.
-/
import Derived.Test.YtpgnndpjlcihiaaDraw15B
import Derived.Test.YtpgnndpjlcihiaaF6
import Derived.Test.YtpgnndpjlcihiaaF6Has
import Derived.Test.YtpgnndpjlcihiaaPotential
import Derived.Test.YtpgnndpjlcihiaaLeakFns
import Derived.Test.YtpgnndpjlcihiaaLateFns
import Derived.Test.YtpgnndpjlcihiaaBoundFns
import Derived.Test.YtpgnndpjlcihiaaFewLeaks
import Derived.Test.YtpgnndpjlcihiaaLawBytes
import Derived.Deep.DeepCutAuto
namespace Go.Proofs.Ytpgnndpjlcihiaa
open Go.ChangeShapes Go.WideShapes Go.ChangeAt Go.RowKit

namespace fnLeaking

theorem bound_pack {an kk lo hi cB : Int} {ys : List (Int × Int × Int)} (h : valLeakB an ys kk = (lo, hi, cB)) (h0 : cB = 0) (h1 : 0 ≤ hi) : lo ≤ hi := by
  unfold valLeakB at h
  by_cases a1 : okLosses an ys = true
  · rw [if_pos a1] at h
    by_cases a2 : inB 0 (an - 1) kk = true
    · rw [if_pos a2] at h
      by_cases a3 : okA an.toNat openT ys = true
      · rw [if_pos a3] at h
        obtain ⟨rfl, h2⟩ := Prod.mk.inj h
        obtain ⟨rfl, _⟩ := Prod.mk.inj h2
        have hn := okLosses_n a1
        have hs : an.toNat ≤ 9 := by omega
        have hx := fitT_of a1
        have hk : kk.toNat < an.toNat := by unfold inB at a2; simp at a2; omega
        have hp := late_pot hs openT hx a3
        have e1 := pot_end hx hp (a := kk.toNat + 1) (b := kk.toNat) (by omega) (by omega)
        have e2 := pot_end hx hp (a := kk.toNat) (b := kk.toNat + 1) (by omega) (by omega)
        have d1 : DA an.toNat ys (kk.toNat + 1) kk.toNat = endA an.toNat openT ys (kk.toNat + 1) kk.toNat := by unfold DA; rw [if_neg (by omega)]
        have d2 : DA an.toNat ys kk.toNat (kk.toNat + 1) = endA an.toNat openT ys kk.toNat (kk.toNat + 1) := by unfold DA; rw [if_neg (by omega)]
        unfold valHigh at h1 ⊢
        unfold valLow
        rw [d2] at h1 ⊢
        rw [d1]
        by_cases hi : INF ≤ endA an.toNat openT ys kk.toNat (kk.toNat + 1)
        · rw [if_pos hi] at h1; omega
        · rw [if_neg hi]; omega
      · rw [if_neg a3] at h
        have := (Prod.mk.inj (Prod.mk.inj h).2).2; omega
    · rw [if_neg a2] at h
      have := (Prod.mk.inj (Prod.mk.inj h).2).2; omega
  · rw [if_neg a1] at h
    have := (Prod.mk.inj (Prod.mk.inj h).2).2; omega

theorem selL_mem {q : Nat → Bool} {s : Nat} {x : Int} : x ∈ selL q s ↔ ∃ k : Nat, k < s ∧ q k = true ∧ x = k := by
  unfold selL
  rw [List.mem_map]
  constructor
  · rintro ⟨k, hk, rfl⟩
    have := List.mem_filter.1 hk
    exact ⟨k, List.mem_range.1 this.1, this.2, rfl⟩
  · rintro ⟨k, hk, hq, rfl⟩
    exact ⟨k, List.mem_filter.2 ⟨List.mem_range.2 hk, hq⟩, rfl⟩
theorem leak_pack {sn cc : Int} {xs : List (Int × Int × Int)} {lF lS lT lL : List Int} (hc : codeL sn xs = cc) (hF : valFewL sn xs = (lF, cc)) (hS : valSure sn xs = (lS, cc)) (hT : valTight sn xs = (lT, cc)) (hL : valLateL sn xs = (lL, cc)) (h0 : cc = 0) :
    ∃ (s : Nat) (f : Nat → Int), s ≤ 9 ∧ lL = mapL f s ∧ (∀ x ∈ lS, x ∈ lF) ∧ (∀ x ∈ lT, x ∉ lF) ∧ lF.length ≤ (selL (fun k => decide (0 < f k)) s).length := by
  rw [h0] at hc
  obtain ⟨h1, h2⟩ := codeL_zero hc
  have hn := okLosses_n h1
  have hs : sn.toNat ≤ 9 := by omega
  obtain ⟨m, m1, m2, m3, m4⟩ := few_facts hs (fitT_of h1) h2
  unfold valFewL at hF
  rw [if_pos hc] at hF
  unfold valSure at hS
  rw [if_pos hc] at hS
  unfold valTight at hT
  rw [if_pos hc] at hT
  unfold valLateL at hL
  rw [if_pos hc] at hL
  obtain ⟨rfl, _⟩ := Prod.mk.inj hF
  obtain ⟨rfl, _⟩ := Prod.mk.inj hS
  obtain ⟨rfl, _⟩ := Prod.mk.inj hT
  obtain ⟨rfl, _⟩ := Prod.mk.inj hL
  refine ⟨sn.toNat, valLate sn.toNat xs, hs, rfl, fun x hx => ?_, fun x hx => ?_, by rw [m1]; exact m4⟩
  · obtain ⟨k, hk, hq, rfl⟩ := selL_mem.1 hx
    rw [m1]
    exact selL_mem.2 ⟨k, hk, m2 k hk (of_decide_eq_true hq), rfl⟩
  · obtain ⟨k, hk, hq, rfl⟩ := selL_mem.1 hx
    rw [m1]
    intro hm
    obtain ⟨k2, _, hq2, he⟩ := selL_mem.1 hm
    rw [show k2 = k by omega] at hq2
    rw [m3 k hk (of_decide_eq_true hq)] at hq2
    cases hq2

set_option maxRecDepth 100000 in
set_option maxHeartbeats 100000000 in
theorem walk (c0 : Value) (n : Nat) (w : World) (hc : BI w c0 n) :
    Calls Try.prog 14 #[c0] w fun e w' => e = .returned (.bool true) ∧ Below w.heap.size w w' := by
  have HC := Lib.hid hc
  clear hc
  go_enter Try.func14, Try.ntmps14
  go_wp2_with fail
  refine (f6big_any c0 n _ HC.out).mono ?_
  rintro e w' ⟨lg, rfl, rfl⟩
  cases lg with
  | true =>
    go_wp2
    go_ret
    exact ⟨rfl, Below.refl _ _⟩
  | false =>
    go_wp2_with fail
    refine (DrawFewestLeaks_any c0 n w HC.out).mono ?_
    rintro e w2 ⟨sn, v1, xs, rfl, hgn, ho, hx, hb2⟩
    have HC := Lib.hid (HC.out.below hb2)
    have HB := Lib.hid hb2
    have HX := Lib.hid ho
    clear ho
    obtain ⟨a1, c1, hsh⟩ := HX.out.shape
    subst hsh
    obtain ⟨cc, hcc⟩ : ∃ c, codeL sn xs = c := ⟨_, rfl⟩
    obtain ⟨lF, hV⟩ : ∃ l, valFewL sn xs = (l, cc) := ⟨(valFewL sn xs).1, by rw [← hcc]; rfl⟩
    have VF := Lib.hid hV
    clear hV
    obtain ⟨lS, hV⟩ : ∃ l, valSure sn xs = (l, cc) := ⟨(valSure sn xs).1, by rw [← hcc]; rfl⟩
    have VS := Lib.hid hV
    clear hV
    obtain ⟨lT, hV⟩ : ∃ l, valTight sn xs = (l, cc) := ⟨(valTight sn xs).1, by rw [← hcc]; rfl⟩
    have VT := Lib.hid hV
    clear hV
    obtain ⟨lL, hV⟩ : ∃ l, valLateL sn xs = (l, cc) := ⟨(valLateL sn xs).1, by rw [← hcc]; rfl⟩
    have VL := Lib.hid hV
    clear hV
    have VC := Lib.hid hcc
    clear hcc
    clear hb2
    have C := implFewestLeaks_any sn _ xs _ HX.out
    rw [VF.out] at C
    simp only at C
    have D := Lib.hid C
    clear C
    go_wp2_with fail
    refine (D.out).mono ?_
    rintro e w3 ⟨v2, rfl, ho, hb3⟩
    have HC := Lib.hid (HC.out.below hb3)
    have HX := Lib.hid (HX.out.below hb3)
    have HB := Lib.hid (bthen HB.out hb3)
    have HA := Lib.hid ho.ri
    clear ho
    clear hb3 D
    have C := specFewestLeaks_any sn _ xs _ HX.out
    rw [VF.out] at C
    simp only at C
    have D := Lib.hid C
    clear C
    go_wp2_with fail
    refine (D.out).mono ?_
    rintro e w4 ⟨v3, rfl, ho, hb4⟩
    have HC := Lib.hid (HC.out.below hb4)
    have HX := Lib.hid (HX.out.below hb4)
    have HA := Lib.hid (HA.out.below hb4)
    have HB := Lib.hid (bthen HB.out hb4)
    have HM := Lib.hid ho.ri
    clear ho
    clear hb4 D
    have C := implSureLeaks_any sn _ xs _ HX.out
    rw [VS.out] at C
    simp only at C
    have D := Lib.hid C
    clear C
    go_wp2_with fail
    refine (D.out).mono ?_
    rintro e w5 ⟨v4, rfl, ho, hb5⟩
    have HC := Lib.hid (HC.out.below hb5)
    have HX := Lib.hid (HX.out.below hb5)
    have HA := Lib.hid (HA.out.below hb5)
    have HM := Lib.hid (HM.out.below hb5)
    have HB := Lib.hid (bthen HB.out hb5)
    have HE := Lib.hid ho.ri
    clear ho
    clear hb5 D
    have C := specSureLeaks_any sn _ xs _ HX.out
    rw [VS.out] at C
    simp only at C
    have D := Lib.hid C
    clear C
    go_wp2_with fail
    refine (D.out).mono ?_
    rintro e w6 ⟨v5, rfl, ho, hb6⟩
    have HC := Lib.hid (HC.out.below hb6)
    have HX := Lib.hid (HX.out.below hb6)
    have HA := Lib.hid (HA.out.below hb6)
    have HM := Lib.hid (HM.out.below hb6)
    have HE := Lib.hid (HE.out.below hb6)
    have HB := Lib.hid (bthen HB.out hb6)
    have HF := Lib.hid ho.ri
    clear ho
    clear hb6 D
    have C := implTightSections_any sn _ xs _ HX.out
    rw [VT.out] at C
    simp only at C
    have D := Lib.hid C
    clear C
    go_wp2_with fail
    refine (D.out).mono ?_
    rintro e w7 ⟨v6, rfl, ho, hb7⟩
    have HC := Lib.hid (HC.out.below hb7)
    have HX := Lib.hid (HX.out.below hb7)
    have HA := Lib.hid (HA.out.below hb7)
    have HM := Lib.hid (HM.out.below hb7)
    have HE := Lib.hid (HE.out.below hb7)
    have HF := Lib.hid (HF.out.below hb7)
    have HB := Lib.hid (bthen HB.out hb7)
    have HG := Lib.hid ho.ri
    clear ho
    clear hb7 D
    have C := specTightSections_any sn _ xs _ HX.out
    rw [VT.out] at C
    simp only at C
    have D := Lib.hid C
    clear C
    go_wp2_with fail
    refine (D.out).mono ?_
    rintro e w8 ⟨v7, rfl, ho, hb8⟩
    have HC := Lib.hid (HC.out.below hb8)
    have HX := Lib.hid (HX.out.below hb8)
    have HA := Lib.hid (HA.out.below hb8)
    have HM := Lib.hid (HM.out.below hb8)
    have HE := Lib.hid (HE.out.below hb8)
    have HF := Lib.hid (HF.out.below hb8)
    have HG := Lib.hid (HG.out.below hb8)
    have HB := Lib.hid (bthen HB.out hb8)
    have HH := Lib.hid ho.ri
    clear ho
    clear hb8 D
    go_wp2_with fail
    refine (DrawLeakBounds_any c0 n _ HC.out).mono ?_
    rintro e w9 ⟨an, v8, ys, kk, rfl, hgan, ho, hy, hgk, hb9⟩
    have HC := Lib.hid (HC.out.below hb9)
    have HX := Lib.hid (HX.out.below hb9)
    have HA := Lib.hid (HA.out.below hb9)
    have HM := Lib.hid (HM.out.below hb9)
    have HE := Lib.hid (HE.out.below hb9)
    have HF := Lib.hid (HF.out.below hb9)
    have HG := Lib.hid (HG.out.below hb9)
    have HH := Lib.hid (HH.out.below hb9)
    have HB := Lib.hid (bthen HB.out hb9)
    have HY := Lib.hid ho
    clear ho
    obtain ⟨a8, c8, hsh⟩ := HY.out.shape
    subst hsh
    obtain ⟨lo, hi, cB, hV⟩ : ∃ l h c, valLeakB an ys kk = (l, h, c) := ⟨_, _, _, rfl⟩
    have VB := Lib.hid hV
    clear hV
    clear hb9
    have C := implLeakBounds_any an _ ys kk _ HY.out
    rw [VB.out] at C
    simp only at C
    have D := Lib.hid C
    clear C
    go_wp2_with fail
    refine (D.out).mono ?_
    rintro e w10 ⟨rfl, hb10⟩
    have HX := Lib.hid (HX.out.below hb10)
    have HA := Lib.hid (HA.out.below hb10)
    have HM := Lib.hid (HM.out.below hb10)
    have HE := Lib.hid (HE.out.below hb10)
    have HF := Lib.hid (HF.out.below hb10)
    have HG := Lib.hid (HG.out.below hb10)
    have HH := Lib.hid (HH.out.below hb10)
    have HY := Lib.hid (HY.out.below hb10)
    have HB := Lib.hid (bthen HB.out hb10)
    clear hb10 D
    have C := specLeakBounds_any an _ ys kk _ HY.out
    rw [VB.out] at C
    simp only at C
    have D := Lib.hid C
    clear C
    go_wp2_with fail
    refine (D.out).mono ?_
    rintro e w11 ⟨rfl, hb11⟩
    have HX := Lib.hid (HX.out.below hb11)
    have HA := Lib.hid (HA.out.below hb11)
    have HM := Lib.hid (HM.out.below hb11)
    have HE := Lib.hid (HE.out.below hb11)
    have HF := Lib.hid (HF.out.below hb11)
    have HG := Lib.hid (HG.out.below hb11)
    have HH := Lib.hid (HH.out.below hb11)
    have HY := Lib.hid (HY.out.below hb11)
    have HB := Lib.hid (bthen HB.out hb11)
    clear hb11 D
    go_wp2_with fail
    refine (f6ints_any _ _ _ _ HA.out HM.out).mono ?_
    rintro e w12 ⟨rfl, hb12⟩
    have HX := Lib.hid (HX.out.below hb12)
    have HA := Lib.hid (HA.out.below hb12)
    have HM := Lib.hid (HM.out.below hb12)
    have HE := Lib.hid (HE.out.below hb12)
    have HF := Lib.hid (HF.out.below hb12)
    have HG := Lib.hid (HG.out.below hb12)
    have HH := Lib.hid (HH.out.below hb12)
    have HB := Lib.hid (bthen HB.out hb12)
    clear hb12
    go_wp2_with fail
    refine (f6ints_any _ _ _ _ HE.out HF.out).mono ?_
    rintro e w13 ⟨rfl, hb13⟩
    have HX := Lib.hid (HX.out.below hb13)
    have HM := Lib.hid (HM.out.below hb13)
    have HE := Lib.hid (HE.out.below hb13)
    have HF := Lib.hid (HF.out.below hb13)
    have HG := Lib.hid (HG.out.below hb13)
    have HH := Lib.hid (HH.out.below hb13)
    have HB := Lib.hid (bthen HB.out hb13)
    clear hb13
    go_wp2_with fail
    refine (f6ints_any _ _ _ _ HG.out HH.out).mono ?_
    rintro e w14 ⟨rfl, hb14⟩
    have HX := Lib.hid (HX.out.below hb14)
    have HM := Lib.hid (HM.out.below hb14)
    have HF := Lib.hid (HF.out.below hb14)
    have HG := Lib.hid (HG.out.below hb14)
    have HH := Lib.hid (HH.out.below hb14)
    have HB := Lib.hid (bthen HB.out hb14)
    clear hb14
    go_upto_region 15 with fail
    go_cut [163] (fun t wz => t = .bool false ∧ Below w14.heap.size w14 wz)
    case first =>
      by_cases h0 : cB = 0
      · have hb0 : (cB == 0) = true := by rw [h0]; rfl
        by_cases h1 : 0 ≤ hi
        · have hle := bound_pack VB.out h0 h1
          have d1 : decide (0 ≤ hi) = true := decide_eq_true h1
          have d2 : decide (hi < lo) = false := decide_eq_false (by omega)
          clear h0 h1 hle
          go_wp2_with fail
          go_meet
          case rel => exact ⟨rfl, Below.refl _ _⟩
        · have d1 : decide (0 ≤ hi) = false := decide_eq_false h1
          clear h0 h1
          go_wp2_with fail
          go_meet
          case rel => exact ⟨rfl, Below.refl _ _⟩
      · have hb0 : (cB == 0) = false := by rw [beq_eq_false_iff_ne]; exact h0
        clear h0
        go_wp2_with fail
        go_meet
        case rel => exact ⟨rfl, Below.refl _ _⟩
    case rest =>
      obtain ⟨rfl, hbz⟩ := hcut
      rename World => wz
      have HX := Lib.hid (HX.out.below hbz)
      have HM := Lib.hid (HM.out.below hbz)
      have HF := Lib.hid (HF.out.below hbz)
      have HH := Lib.hid (HH.out.below hbz)
      have HB := Lib.hid (bthen HB.out hbz)
      clear hbz
      by_cases h0 : cc = 0
      · obtain ⟨s, f, hs9, rfl, k1, k2, k3⟩ := leak_pack VC.out VF.out VS.out VT.out VL.out h0
        subst h0
        have hb0 : ((0 : Int) != 0) = false := rfl
        have K1 := Lib.hid k1
        have K2 := Lib.hid k2
        have K3 := Lib.hid k3
        have C := specLateLeaks_any sn _ xs _ HX.out
        rw [VL.out] at C
        simp only at C
        have DL := Lib.hid C
        have HHas := Lib.hid (fun x => f6has_any _ lF x wz HM.out)
        obtain ⟨a3, c3, hsh⟩ := HM.out.shape
        subst hsh
        obtain ⟨a5, c5, hsh⟩ := HF.out.shape
        subst hsh
        obtain ⟨a7, c7, hsh⟩ := HH.out.shape
        subst hsh
        have hlS := HF.out.len
        have hlT := HH.out.len
        have hlF := HM.out.len
        clear C k1 k2 k3
        go_wp2_with fail
        go_loop [26] (fun i => ∃ k : Nat, k ≤ lS.length ∧ i = .int .i64 k) (fun i => lS.length - (intOf i).toNat)
        case atStart => exact ⟨0, Nat.zero_le _, rfl⟩
        case round =>
          obtain ⟨k, hk, rfl⟩ := hrel
          by_cases hlt : k < lS.length
          · have hd : decide ((k : Int) < (lS.length : Int)) = true := decide_eq_true (by omega)
            obtain ⟨b, off, rfl, hbl, hc⟩ := HF.out.cells (by omega)
            have g := hc k hlt
            clear hc
            have hm : lS.getD k 0 ∈ lS := by simp only [List.getD, List.getElem?_eq_getElem hlt, Option.getD_some]; exact List.getElem_mem hlt
            have hmm := K1.out _ hm
            have C := HHas.out (lS.getD k 0)
            rw [decide_eq_true hmm] at C
            generalize lS.getD k 0 = x at g C
            have D := Lib.hid C
            clear C hm hmm
            go_wp2_with fail
            refine D.out.mono ?_
            rintro e w' ⟨rfl, rfl⟩
            go_wp2_with fail
            go_round
            case rel => exact ⟨k + 1, by omega, by go_num⟩
            case measure => simp [intOf]; omega
          · obtain rfl : k = lS.length := by omega
            have hd : decide ((lS.length : Int) < (lS.length : Int)) = false := decide_eq_false (by omega)
            go_wp2_with fail
            go_loop [27] (fun i => ∃ k : Nat, k ≤ lT.length ∧ i = .int .i64 k) (fun i => lT.length - (intOf i).toNat)
            case atStart => exact ⟨0, Nat.zero_le _, rfl⟩
            case round =>
              obtain ⟨k, hk, rfl⟩ := hrel
              by_cases hlt : k < lT.length
              · have hd : decide ((k : Int) < (lT.length : Int)) = true := decide_eq_true (by omega)
                obtain ⟨b, off, rfl, hbl, hc⟩ := HH.out.cells (by omega)
                have g := hc k hlt
                clear hc
                have hm : lT.getD k 0 ∈ lT := by simp only [List.getD, List.getElem?_eq_getElem hlt, Option.getD_some]; exact List.getElem_mem hlt
                have hmm := K2.out _ hm
                have C := HHas.out (lT.getD k 0)
                rw [decide_eq_false hmm] at C
                generalize lT.getD k 0 = x at g C
                have D := Lib.hid C
                clear C hm hmm
                go_wp2_with fail
                refine D.out.mono ?_
                rintro e w' ⟨rfl, rfl⟩
                go_wp2_with fail
                go_round
                case rel => exact ⟨k + 1, by omega, by go_num⟩
                case measure => simp [intOf]; omega
              · obtain rfl : k = lT.length := by omega
                have hd : decide ((lT.length : Int) < (lT.length : Int)) = false := decide_eq_false (by omega)
                go_wp2_with fail
                refine DL.out.mono ?_
                rintro e wL ⟨vL, rfl, hoL, hbL⟩
                have HLL := Lib.hid hoL.ri
                have HBL := Lib.hid (bthen HB.out hbL)
                have hml := mapL_len f s
                obtain ⟨aL, cL, hsh⟩ := HLL.out.shape
                rw [hml] at hsh
                subst hsh
                have HML := Lib.hid hml
                clear hoL hbL hml
                go_wp2_with fail
                go_loop [30, 31] (fun c i => ∃ k : Nat, k ≤ s ∧ i = .int .i64 k ∧ c = .int .i64 ((selL (fun k => decide (0 < f k)) k).length : Nat)) (fun _ i => s - (intOf i).toNat)
                case atStart => exact ⟨0, Nat.zero_le _, rfl, rfl⟩
                case round =>
                  obtain ⟨k, hk, rfl, rfl⟩ := hrel
                  by_cases hlt : k < s
                  · have hd : decide ((k : Int) < (s : Int)) = true := decide_eq_true (by omega)
                    obtain ⟨b, off, rfl, hbl, hc⟩ := HLL.out.cells (by rw [HML.out]; omega)
                    have g := hc k (by rw [HML.out]; exact hlt)
                    rw [mapL_getD f s k hlt] at g
                    have hks : (k : Int) < s := by omega
                    have hsl := selL_len (fun k => decide (0 < f k)) k
                    clear hc
                    by_cases hf : 0 < f k
                    · have hdf : decide (0 < f k) = true := decide_eq_true hf
                      have HN := Lib.hid (show (selL (fun k => decide (0 < f k)) (k + 1)).length = (selL (fun k => decide (0 < f k)) k).length + 1 by rw [selL_yes (p := fun k => decide (0 < f k)) hdf, List.length_append]; rfl)
                      generalize (selL (fun k => decide (0 < f k)) k).length = c at HN hsl ⊢
                      have hwc : IntKind.i64.wrap ((c : Int) + 1) = (c : Int) + 1 := IntWalk.i64_in _ (by omega)
                      generalize f k = x at g hdf
                      clear hf
                      go_wp2_with fail
                      go_round
                      case rel => exact ⟨k + 1, by omega, by go_num, by rw [HN.out]; simp⟩
                      case measure => simp [intOf]; omega
                    · have hdf : decide (0 < f k) = false := decide_eq_false hf
                      have HN := Lib.hid (show (selL (fun k => decide (0 < f k)) (k + 1)).length = (selL (fun k => decide (0 < f k)) k).length by rw [selL_no (p := fun k => decide (0 < f k)) hdf])
                      generalize (selL (fun k => decide (0 < f k)) k).length = c at HN hsl ⊢
                      generalize f k = x at g hdf
                      clear hf
                      go_wp2_with fail
                      go_round
                      case rel => exact ⟨k + 1, by omega, by go_num, by rw [HN.out]⟩
                      case measure => simp [intOf]; omega
                  · obtain rfl : k = s := by omega
                    have hd : decide ((k : Int) < (k : Int)) = false := decide_eq_false (by omega)
                    have hk3 := K3.out
                    generalize (selL (fun k => decide (0 < f k)) k).length = c at hk3 ⊢
                    have hdl : decide ((lF.length : Int) ≤ (c : Int)) = true := decide_eq_true (by omega)
                    have hdl2 : decide (lF.length ≤ c) = true := decide_eq_true hk3
                    clear hk3
                    go_wp2_with fail
                    go_ret
                    exact ⟨rfl, HBL.out⟩
      · have hb0 : (cc != 0) = true := by rw [bne_iff_ne]; exact h0
        clear h0
        go_wp2_with fail
        go_ret
        exact ⟨rfl, HB.out⟩

set_option maxRecDepth 100000 in
theorem lifted (os : Os) (started : os.Started) (H : Type) (enc : TypeId × Value → H) :
    ReturnsInHanded {} Try.checked os 14 .any (Rows.fnLeakingSpec.pre6 enc Try.prog Try.f14 Rows.fnLeakingRow.domain false) (Rows.fnLeakingSpec.post enc Try.prog Try.f14 false true false false) := by
  refine returnsInHanded_of_change (C := Try.checked) own started (by kernel_rfl) Try.func14
    (ChangeSpec.witness6 (enc := enc) (C := Try.checked) false ⟨#[], #[.slice none 0 0], []⟩ 8 (by kernel_rfl) (by kernel_rfl) (by kernel_rfl) (by kernel_rfl)) ?_
  intro W base args ds gs before hval0 hW _ _
  have hval : ∀ (j : Nat) t v, Try.f14.params[j]? = some t → args[j]? = some v → Value.okWide Try.prog W .any base t v := hval0
  have hW' := hW
  obtain ⟨p, q, hA0, hV, rfl, _, _⟩ := hW
  have hA : DataW.TrodAll enc Try.prog W 0 (fun _ => true) true Try.f14.params.toList args.toList ds p := hA0
  obtain ⟨rfl, rfl⟩ := trodVars_none hV
  have hlt0 : ∀ x ∈ p, x.block < W.heap.size := fun x hx => by simpa using hW'.lt x (by simpa using hx)
  rw [Try.params14] at hA hval
  obtain ⟨b0, vs0, d0, ds0, p0, q0, hargs0, rfl, rfl, h0, r0⟩ := trodAll_cons hA
  obtain ⟨e1, rfl, e2⟩ := trodAll_nil r0
  have hargs : args = #[b0] := by
    cases args
    simp_all
  subst hargs
  obtain ⟨n0, hx0⟩ := open_BI Try.underlying53 Try.underlying5 (by kernel_rfl) (hval 0 _ b0 rfl rfl) h0 (fun x hx => hlt0 x (by simp [hx]))
  refine (walk b0 n0 W hx0).mono fun e W' ⟨he, hb⟩ => ?_
  subst he
  exact ⟨_, rfl, law_post laidOut (by decide +kernel) (by kernel_rfl) Try.underlying4 rfl hW' rfl hb⟩

theorem proved : Rows.FnLeakingSaid :=
  OpenClaim.holds_of_wide 14 Try.f14 rfl rfl rfl rfl rfl rfl rfl ⟨rfl, rfl, rfl, rfl, rfl⟩ rfl rfl rfl rfl rfl (by kernel_rfl) Try.func14 (by kernel_rfl)
    (of_decide_eq_true (by kernel_rfl)) (by unfold Func.isWrapper; first | (rw [if_pos (by decide +kernel)]; kernel_rfl) | (rw [if_neg (by decide +kernel)]; exact ⟨rfl, rfl⟩))
    (fun os started H enc _ => lifted os started H enc)


end fnLeaking
end Go.Proofs.Ytpgnndpjlcihiaa

