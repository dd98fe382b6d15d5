/-
  FnStacks: for all bytes it returns true, and leaves its argument as it was. No condition.
-/
import Derived.Test.YteohfokchimfeaaDraw17D
import Derived.Test.YteohfokchimfeaaF6
import Derived.Test.YteohfokchimfeaaF6Rise
import Derived.Test.YteohfokchimfeaaStackLaw
import Derived.Test.YteohfokchimfeaaPopImpl
import Derived.Test.YteohfokchimfeaaChainFns
import Derived.Test.YteohfokchimfeaaAssignFns
import Derived.Test.YteohfokchimfeaaIsSorted
import Derived.Test.YteohfokchimfeaaChain
import Derived.Test.YteohfokchimfeaaLawBytes
namespace Go.Proofs.Yteohfokchimfeaa
open Go.ChangeShapes Go.WideShapes Go.ChangeAt Go.RowKit

namespace fnStacks

theorem pop_pack {cs ds lP : List Int} {cP : Int} (h : valPop cs ds = (lP, cP)) (h0 : cP = 0) : valSorted cs ds = (risesB lP, 0) ∧ lP.length = cs.length := by
  unfold valPop at h
  by_cases hc : codeSt cs ds = 0
  · rw [if_pos hc] at h
    obtain ⟨rfl, _⟩ := Prod.mk.inj h
    obtain ⟨hok, hlen, hss⟩ := codeSt_zero hc
    refine ⟨?_, (popTo_len cs ds cs.length).2⟩
    unfold valSorted
    rw [if_pos hc, pop_sorted hok hlen hss]
  · rw [if_neg hc] at h
    obtain ⟨_, h2⟩ := Prod.mk.inj h
    exact absurd (h2.trans h0) hc
theorem ok_pack {xs lA lR : List Int} {cA sn cS cR : Int} (hA : valAssign xs = (lA, cA)) (hS : valStacks xs = (sn, cS)) (hR : valChain xs = (lR, cR)) (hok : okOrder xs = true) :
    cA = 0 ∧ maxI (lA.map (· + 1)) = sn ∧ valSorted xs lA = (true, 0) ∧ (lR.length : Int) = sn ∧ risesB lR = true ∧ lR.Sublist xs ∧ (∀ x ∈ lA, 0 ≤ x ∧ x ≤ 39) := by
  unfold valAssign at hA
  rw [if_pos hok] at hA
  unfold valStacks at hS
  rw [if_pos hok] at hS
  unfold valChain at hR
  rw [if_pos hok] at hR
  obtain ⟨rfl, rfl⟩ := Prod.mk.inj hA
  obtain ⟨rfl, rfl⟩ := Prod.mk.inj hS
  obtain ⟨rfl, rfl⟩ := Prod.mk.inj hR
  obtain ⟨c1, c2, c3⟩ := chain_facts hok
  refine ⟨rfl, used_longest hok, own_sorted hok, c1, risesB_pair c2, c3, fun x hx => ?_⟩
  obtain ⟨i, hi, rfl⟩ := List.mem_iff_getElem.1 hx
  have hl := (assignTo_length xs xs.length).1
  have hi2 : i < xs.length := by omega
  have := assign_rise hok hi2
  rw [List.getD, List.getElem?_eq_getElem hi, Option.getD_some] at this
  rw [this]
  have a := rise_pos xs i
  have b := longest_ge hi2
  have c := (longest_bounds xs).2
  have := okOrder_len hok
  omega
theorem no_pack {xs lA : List Int} {cA : Int} (hA : valAssign xs = (lA, cA)) (hok : okOrder xs = false) : cA = 1 := by
  unfold valAssign at hA
  rw [if_neg (by rw [hok]; decide)] at hA
  exact (Prod.mk.inj hA).2.symm

set_option maxRecDepth 100000 in
set_option maxHeartbeats 100000000 in
theorem walk (c0 : Value) (n : Nat) (w : World) (hc : BI w c0 n) :
    Calls Try.prog 15 #[c0] w fun e w' => e = .returned (.bool true) ∧ Below w.heap.size w w' := by
  have HC := Lib.hid hc
  clear hc
  go_enter Try.func15, Try.ntmps15
  go_wp2_with fail
  refine (f6big_any c0 n _ HC.out).mono ?_
  rintro e w' ⟨lg, rfl, rfl⟩
  cases lg with
  | true =>
    go_wp2
    go_ret
    exact ⟨rfl, Below.refl _ _⟩
  | false =>
    go_wp2_with fail
    refine (DrawAssignStacks_any c0 n w HC.out).mono ?_
    rintro e w2 ⟨v1, xs, rfl, ho, hx, hb2⟩
    have HC := Lib.hid (HC.out.below hb2)
    have HB := Lib.hid hb2
    have HX := Lib.hid ho.ri
    clear ho
    obtain ⟨a1, c1, hsh⟩ := HX.out.shape
    subst hsh
    obtain ⟨lA, cA, hV⟩ : ∃ l c, valAssign xs = (l, c) := ⟨_, _, rfl⟩
    have VA := Lib.hid hV
    clear hV
    obtain ⟨sn, cS, hV⟩ : ∃ l c, valStacks xs = (l, c) := ⟨_, _, rfl⟩
    have VS := Lib.hid hV
    clear hV
    obtain ⟨lR, cR, hV⟩ : ∃ l c, valChain xs = (l, c) := ⟨_, _, rfl⟩
    have VR := Lib.hid hV
    clear hV
    clear hb2
    have C := implAssignStacks_any _ xs _ HX.out (by omega)
    rw [VA.out] at C
    simp only at C
    have D := Lib.hid C
    clear C
    go_wp2_with fail
    refine (D.out).mono ?_
    rintro e w3 ⟨v2, rfl, ho, hb3⟩
    have HC := Lib.hid (HC.out.below hb3)
    have HX := Lib.hid (HX.out.below hb3)
    have HB := Lib.hid (bthen HB.out hb3)
    have HA := Lib.hid ho.ri
    clear ho
    clear hb3 D
    have C := specAssignStacks_any _ xs _ HX.out
    rw [VA.out] at C
    simp only at C
    have D := Lib.hid C
    clear C
    go_wp2_with fail
    refine (D.out).mono ?_
    rintro e w4 ⟨v3, rfl, ho, hb4⟩
    have HC := Lib.hid (HC.out.below hb4)
    have HX := Lib.hid (HX.out.below hb4)
    have HA := Lib.hid (HA.out.below hb4)
    have HB := Lib.hid (bthen HB.out hb4)
    have HM := Lib.hid ho.ri
    clear ho
    clear hb4 D
    have C := implStacksNeeded_any _ xs _ HX.out (by omega)
    rw [VS.out] at C
    simp only at C
    have D := Lib.hid C
    clear C
    go_wp2_with fail
    refine (D.out).mono ?_
    rintro e w5 ⟨rfl, hb5⟩
    have HC := Lib.hid (HC.out.below hb5)
    have HX := Lib.hid (HX.out.below hb5)
    have HA := Lib.hid (HA.out.below hb5)
    have HM := Lib.hid (HM.out.below hb5)
    have HB := Lib.hid (bthen HB.out hb5)
    clear hb5 D
    have C := specStacksNeeded_any _ xs _ HX.out (by omega)
    rw [VS.out] at C
    simp only at C
    have D := Lib.hid C
    clear C
    go_wp2_with fail
    refine (D.out).mono ?_
    rintro e w6 ⟨rfl, hb6⟩
    have HC := Lib.hid (HC.out.below hb6)
    have HX := Lib.hid (HX.out.below hb6)
    have HA := Lib.hid (HA.out.below hb6)
    have HM := Lib.hid (HM.out.below hb6)
    have HB := Lib.hid (bthen HB.out hb6)
    clear hb6 D
    have C := implRisingChain_any _ xs _ HX.out (by omega)
    rw [VR.out] at C
    simp only at C
    have D := Lib.hid C
    clear C
    go_wp2_with fail
    refine (D.out).mono ?_
    rintro e w7 ⟨v4, rfl, ho, hb7⟩
    have HC := Lib.hid (HC.out.below hb7)
    have HX := Lib.hid (HX.out.below hb7)
    have HA := Lib.hid (HA.out.below hb7)
    have HM := Lib.hid (HM.out.below hb7)
    have HB := Lib.hid (bthen HB.out hb7)
    have HR := Lib.hid ho.ri
    clear ho
    clear hb7 D
    have C := specRisingChain_any _ xs _ HX.out
    rw [VR.out] at C
    simp only at C
    have D := Lib.hid C
    clear C
    go_wp2_with fail
    refine (D.out).mono ?_
    rintro e w8 ⟨v5, rfl, ho, hb8⟩
    have HC := Lib.hid (HC.out.below hb8)
    have HX := Lib.hid (HX.out.below hb8)
    have HA := Lib.hid (HA.out.below hb8)
    have HM := Lib.hid (HM.out.below hb8)
    have HR := Lib.hid (HR.out.below hb8)
    have HB := Lib.hid (bthen HB.out hb8)
    have HS := Lib.hid ho.ri
    clear ho
    clear hb8 D
    go_wp2_with fail
    refine (DrawIsSorted_any c0 n _ HC.out).mono ?_
    rintro e w9 ⟨v6, v7, es, fs, rfl, ho1, ho2, hla, hlb, hb9⟩
    have HC := Lib.hid (HC.out.below hb9)
    have HX := Lib.hid (HX.out.below hb9)
    have HA := Lib.hid (HA.out.below hb9)
    have HM := Lib.hid (HM.out.below hb9)
    have HR := Lib.hid (HR.out.below hb9)
    have HS := Lib.hid (HS.out.below hb9)
    have HB := Lib.hid (bthen HB.out hb9)
    have HP := Lib.hid ho1.ri
    have HQ := Lib.hid ho2.ri
    clear ho1 ho2
    obtain ⟨a6, c6, hsh⟩ := HP.out.shape
    subst hsh
    obtain ⟨a7, c7, hsh⟩ := HQ.out.shape
    subst hsh
    obtain ⟨bS, cT, hV⟩ : ∃ l c, valSorted es fs = (l, c) := ⟨_, _, rfl⟩
    have VT := Lib.hid hV
    clear hV
    clear hb9
    have C := implIsSorted_any _ es _ fs _ HP.out HQ.out (by omega)
    rw [VT.out] at C
    simp only at C
    have D := Lib.hid C
    clear C
    go_wp2_with fail
    refine (D.out).mono ?_
    rintro e w10 ⟨rfl, hb10⟩
    have HC := Lib.hid (HC.out.below hb10)
    have HX := Lib.hid (HX.out.below hb10)
    have HA := Lib.hid (HA.out.below hb10)
    have HM := Lib.hid (HM.out.below hb10)
    have HR := Lib.hid (HR.out.below hb10)
    have HS := Lib.hid (HS.out.below hb10)
    have HP := Lib.hid (HP.out.below hb10)
    have HQ := Lib.hid (HQ.out.below hb10)
    have HB := Lib.hid (bthen HB.out hb10)
    clear hb10 D
    have C := specIsSorted_any _ es _ fs _ HP.out HQ.out
    rw [VT.out] at C
    simp only at C
    have D := Lib.hid C
    clear C
    go_wp2_with fail
    refine (D.out).mono ?_
    rintro e w11 ⟨rfl, hb11⟩
    have HC := Lib.hid (HC.out.below hb11)
    have HX := Lib.hid (HX.out.below hb11)
    have HA := Lib.hid (HA.out.below hb11)
    have HM := Lib.hid (HM.out.below hb11)
    have HR := Lib.hid (HR.out.below hb11)
    have HS := Lib.hid (HS.out.below hb11)
    have HP := Lib.hid (HP.out.below hb11)
    have HQ := Lib.hid (HQ.out.below hb11)
    have HB := Lib.hid (bthen HB.out hb11)
    clear hb11 D
    go_wp2_with fail
    refine (DrawPopOrder_any c0 n _ HC.out).mono ?_
    rintro e w12 ⟨v8, v9, cs, ds, rfl, ho1, ho2, hlc, hld, hb12⟩
    have HC := Lib.hid (HC.out.below hb12)
    have HX := Lib.hid (HX.out.below hb12)
    have HA := Lib.hid (HA.out.below hb12)
    have HM := Lib.hid (HM.out.below hb12)
    have HR := Lib.hid (HR.out.below hb12)
    have HS := Lib.hid (HS.out.below hb12)
    have HB := Lib.hid (bthen HB.out hb12)
    have HE := Lib.hid ho1.ri
    have HF := Lib.hid ho2.ri
    clear ho1 ho2
    obtain ⟨a8, c8, hsh⟩ := HE.out.shape
    subst hsh
    obtain ⟨a9, c9, hsh⟩ := HF.out.shape
    subst hsh
    obtain ⟨lP, cP, hV⟩ : ∃ l c, valPop cs ds = (l, c) := ⟨_, _, rfl⟩
    have VP := Lib.hid hV
    clear hV
    clear hb12
    have C := implPopOrder_any _ cs _ ds _ HE.out HF.out (by omega)
    rw [VP.out] at C
    simp only at C
    have D := Lib.hid C
    clear C
    go_wp2_with fail
    refine (D.out).mono ?_
    rintro e w13 ⟨v10, rfl, ho, hb13⟩
    have HX := Lib.hid (HX.out.below hb13)
    have HA := Lib.hid (HA.out.below hb13)
    have HM := Lib.hid (HM.out.below hb13)
    have HR := Lib.hid (HR.out.below hb13)
    have HS := Lib.hid (HS.out.below hb13)
    have HE := Lib.hid (HE.out.below hb13)
    have HF := Lib.hid (HF.out.below hb13)
    have HB := Lib.hid (bthen HB.out hb13)
    have HG := Lib.hid ho.ri
    clear ho
    clear hb13 D
    have C := specPopOrder_any _ cs _ ds _ HE.out HF.out
    rw [VP.out] at C
    simp only at C
    have D := Lib.hid C
    clear C
    go_wp2_with fail
    refine (D.out).mono ?_
    rintro e w14 ⟨v11, rfl, ho, hb14⟩
    have HX := Lib.hid (HX.out.below hb14)
    have HA := Lib.hid (HA.out.below hb14)
    have HM := Lib.hid (HM.out.below hb14)
    have HR := Lib.hid (HR.out.below hb14)
    have HS := Lib.hid (HS.out.below hb14)
    have HE := Lib.hid (HE.out.below hb14)
    have HF := Lib.hid (HF.out.below hb14)
    have HG := Lib.hid (HG.out.below hb14)
    have HB := Lib.hid (bthen HB.out hb14)
    have HH := Lib.hid ho.ri
    clear ho
    clear hb14 D
    go_wp2_with fail
    refine (f6ints_any _ _ _ _ HA.out HM.out).mono ?_
    rintro e w15 ⟨rfl, hb15⟩
    have HX := Lib.hid (HX.out.below hb15)
    have HA := Lib.hid (HA.out.below hb15)
    have HM := Lib.hid (HM.out.below hb15)
    have HR := Lib.hid (HR.out.below hb15)
    have HS := Lib.hid (HS.out.below hb15)
    have HE := Lib.hid (HE.out.below hb15)
    have HF := Lib.hid (HF.out.below hb15)
    have HG := Lib.hid (HG.out.below hb15)
    have HH := Lib.hid (HH.out.below hb15)
    have HB := Lib.hid (bthen HB.out hb15)
    clear hb15
    go_wp2_with fail
    refine (f6ints_any _ _ _ _ HR.out HS.out).mono ?_
    rintro e w16 ⟨rfl, hb16⟩
    have HX := Lib.hid (HX.out.below hb16)
    have HA := Lib.hid (HA.out.below hb16)
    have HM := Lib.hid (HM.out.below hb16)
    have HR := Lib.hid (HR.out.below hb16)
    have HS := Lib.hid (HS.out.below hb16)
    have HE := Lib.hid (HE.out.below hb16)
    have HF := Lib.hid (HF.out.below hb16)
    have HG := Lib.hid (HG.out.below hb16)
    have HH := Lib.hid (HH.out.below hb16)
    have HB := Lib.hid (bthen HB.out hb16)
    clear hb16
    go_wp2_with fail
    refine (f6ints_any _ _ _ _ HG.out HH.out).mono ?_
    rintro e w17 ⟨rfl, hb17⟩
    have HX := Lib.hid (HX.out.below hb17)
    have HA := Lib.hid (HA.out.below hb17)
    have HM := Lib.hid (HM.out.below hb17)
    have HR := Lib.hid (HR.out.below hb17)
    have HS := Lib.hid (HS.out.below hb17)
    have HE := Lib.hid (HE.out.below hb17)
    have HF := Lib.hid (HF.out.below hb17)
    have HG := Lib.hid (HG.out.below hb17)
    have HH := Lib.hid (HH.out.below hb17)
    have HB := Lib.hid (bthen HB.out hb17)
    clear hb17
    go_wp2_with fail
    refine (implValidOrder_any _ xs _ HX.out (by omega)).mono ?_
    rintro e w18 ⟨rfl, hb18⟩
    have HX := Lib.hid (HX.out.below hb18)
    have HA := Lib.hid (HA.out.below hb18)
    have HM := Lib.hid (HM.out.below hb18)
    have HR := Lib.hid (HR.out.below hb18)
    have HS := Lib.hid (HS.out.below hb18)
    have HE := Lib.hid (HE.out.below hb18)
    have HF := Lib.hid (HF.out.below hb18)
    have HG := Lib.hid (HG.out.below hb18)
    have HH := Lib.hid (HH.out.below hb18)
    have HB := Lib.hid (bthen HB.out hb18)
    clear hb18
    go_wp2_with fail
    refine (specValidOrder_any _ xs _ HX.out).mono ?_
    rintro e w19 ⟨rfl, hb19⟩
    have HX := Lib.hid (HX.out.below hb19)
    have HA := Lib.hid (HA.out.below hb19)
    have HM := Lib.hid (HM.out.below hb19)
    have HR := Lib.hid (HR.out.below hb19)
    have HS := Lib.hid (HS.out.below hb19)
    have HE := Lib.hid (HE.out.below hb19)
    have HF := Lib.hid (HF.out.below hb19)
    have HG := Lib.hid (HG.out.below hb19)
    have HH := Lib.hid (HH.out.below hb19)
    have HB := Lib.hid (bthen HB.out hb19)
    clear hb19
    go_upto_if 163 with fail
    go_cut [] (fun wz => Below w19.heap.size w19 wz)
    case first =>
      by_cases h0 : cP = 0
      · obtain ⟨hs, hl⟩ := pop_pack VP.out h0
        have hb0 : (cP == 0) = true := by rw [h0]; rfl
        have HL := Lib.hid hl
        have C := implIsSorted_any _ cs _ ds _ HE.out HF.out (by omega)
        rw [hs] at C
        simp only at C
        have D := Lib.hid C
        obtain ⟨ah, ch, hsh⟩ := HH.out.shape
        rw [hl] at hsh
        subst hsh
        clear C hs hl h0
        go_wp2_with fail
        refine D.out.mono ?_
        rintro e wA ⟨rfl, hbA⟩
        have HH := Lib.hid (HH.out.below hbA)
        have HBA := Lib.hid hbA
        clear hbA D
        go_wp2_with fail
        refine (f6rising_any _ lP _ HH.out).mono ?_
        rintro e wB ⟨rfl, hbB⟩
        have HBB := Lib.hid (bthen HBA.out hbB)
        clear hbB
        generalize risesB lP = rb at *
        go_wp2_with fail
        go_meet
        case rel => exact HBB.out
      · have hb0 : (cP == 0) = false := by rw [beq_eq_false_iff_ne]; exact h0
        clear h0
        go_wp2_with fail
        go_meet
        case rel => exact Below.refl _ _
    case rest =>
      have HX := Lib.hid (HX.out.below hcut)
      have HA := Lib.hid (HA.out.below hcut)
      have HM := Lib.hid (HM.out.below hcut)
      have HS := Lib.hid (HS.out.below hcut)
      have HB := Lib.hid (bthen HB.out hcut)
      rename World => wz
      cases hok : okOrder xs with
      | false =>
        have h1 := no_pack VA.out hok
        subst h1
        clear hok hcut
        go_wp2_with fail
        go_ret
        exact ⟨rfl, HB.out⟩
      | true =>
        obtain ⟨rfl, k2, k3, k4, k5, k6, k7⟩ := ok_pack VA.out VS.out VR.out hok
        have K2 := Lib.hid k2
        have K6 := Lib.hid k6
        have K7 := Lib.hid k7
        have hsn : ((lR.length : Int) != sn) = false := by rw [k4]; simp
        have C := implIsSorted_any _ xs _ lA _ HX.out HA.out (by omega)
        rw [k3] at C
        simp only at C
        have D := Lib.hid C
        have E := Lib.hid (fun W B => f6rising_any _ lR W (HS.out.below B))
        rw [k5] at E
        obtain ⟨a3, c3, hsh⟩ := HM.out.shape
        subst hsh
        obtain ⟨a5, c5, hsh⟩ := HS.out.shape
        subst hsh
        have hlA := HM.out.len
        have hlR := HS.out.len
        clear C k2 k3 k4 k5 k6 k7 hok hcut
        go_wp2_with fail
        go_loop [30, 31] (fun u i => ∃ k : Nat, k ≤ lA.length ∧ i = .int .i64 k ∧ u = .int .i64 (maxI ((lA.take k).map (· + 1)))) (fun _ i => lA.length - (intOf i).toNat)
        case atStart => exact ⟨0, Nat.zero_le _, rfl, rfl⟩
        case round =>
          obtain ⟨k, hk, rfl, rfl⟩ := hrel
          by_cases hlt : k < lA.length
          · have hd : decide ((k : Int) < (lA.length : Int)) = true := decide_eq_true (by omega)
            obtain ⟨b, off, rfl, hbl, hc⟩ := HM.out.cells (by omega)
            have g := hc k hlt
            clear hc
            have hm : lA.getD k 0 ∈ lA := by simp only [List.getD, List.getElem?_eq_getElem hlt, Option.getD_some]; exact List.getElem_mem hlt
            have hb := K7.out _ hm
            have S1 : maxI ((lA.take (k + 1)).map (· + 1)) = max (maxI ((lA.take k).map (· + 1))) (lA.getD k 0 + 1) := by
              rw [take_snoc lA k hlt, List.map_append]
              exact maxI_snoc _ _
            generalize lA.getD k 0 = x at g hb S1
            generalize maxI ((lA.take k).map (· + 1)) = u0 at S1 ⊢
            have hwx : IntKind.i64.wrap (x + 1) = x + 1 := IntWalk.i64_in _ (by omega)
            have HS1 := Lib.hid S1
            clear S1 hm
            go_wp2_with fail
            go_round
            case rel =>
              refine ⟨k + 1, by omega, by go_num, ?_⟩
              rw [HS1.out]
              congr 1
              split <;> omega
            case measure => simp [intOf]; omega
          · obtain rfl : k = lA.length := by omega
            have hd : decide ((lA.length : Int) < (lA.length : Int)) = false := decide_eq_false (by omega)
            rw [List.take_length, K2.out]
            go_wp2_with fail
            refine D.out.mono ?_
            rintro e wA ⟨rfl, hbA⟩
            have HBA := Lib.hid hbA
            clear hbA
            go_wp2_with fail
            refine (E.out _ HBA.out).mono ?_
            rintro e wB ⟨rfl, hbB⟩
            have HBB := Lib.hid (bthen HBA.out hbB)
            clear hbB
            go_wp2_with fail
            go_loopw [34, 35] (fun t i wr => ∃ (k q : Nat), k ≤ lR.length ∧ q ≤ xs.length ∧ t = .int .i64 k ∧ i = .int .i64 q ∧ Hid ((lR.drop k).Sublist (xs.drop q)) ∧ Below wz.heap.size wz wr) (fun _ i _ => xs.length - (intOf i).toNat)
            case atStart => exact ⟨0, 0, Nat.zero_le _, Nat.zero_le _, rfl, rfl, Lib.hid (by simpa using K6.out), HBB.out⟩
            case round =>
              rename World => wr
              obtain ⟨k, q, hk, hq, rfl, rfl, HQ, hbr⟩ := hrel
              by_cases hqx : q < xs.length
              · have hd1 : decide ((q : Int) < (xs.length : Int)) = true := decide_eq_true (by omega)
                by_cases hkr : k < lR.length
                · have hd2 : decide ((k : Int) < (lR.length : Int)) = true := decide_eq_true (by omega)
                  obtain ⟨b, off, rfl, hbl, hc⟩ := HX.out.cells (by omega)
                  obtain ⟨b2, off2, rfl, hbl2, hc2⟩ := HS.out.cells (by omega)
                  have g := (hbr.cell (p := ⟨b, off + q, none⟩) hbl).trans (hc q hqx)
                  have g2 := (hbr.cell (p := ⟨b2, off2 + k, none⟩) hbl2).trans (hc2 k hkr)
                  clear hc hc2
                  have HY := Lib.hid (fun e => sub_hit hqx hkr HQ.out e)
                  have HN := Lib.hid (fun e => sub_miss hqx hkr HQ.out e)
                  generalize xs.getD q 0 = x at g HY HN
                  generalize lR.getD k 0 = y at g2 HY HN
                  by_cases hxy : x = y
                  · have hb0 : (x == y) = true := by rw [beq_iff_eq]; exact hxy
                    have HZ := Lib.hid (HY.out hxy)
                    clear hxy
                    go_wp2_with fail
                    go_quiet (fail)
                    go_wp2_with fail
                    go_roundw
                    case rel => exact ⟨k + 1, q + 1, by omega, by omega, by go_num, by go_num, HZ, below_drewN hbr _⟩
                    case measure => simp [intOf]; omega
                  · have hb0 : (x == y) = false := by rw [beq_eq_false_iff_ne]; exact hxy
                    have HZ := Lib.hid (HN.out hxy)
                    clear hxy
                    go_wp2_with fail
                    go_quiet (fail)
                    go_wp2_with fail
                    go_roundw
                    case rel => exact ⟨k, q + 1, by omega, by omega, rfl, by go_num, HZ, below_drewN hbr _⟩
                    case measure => simp [intOf]; omega
                · obtain rfl : k = lR.length := by omega
                  have hd2 : decide ((lR.length : Int) < (lR.length : Int)) = false := decide_eq_false (by omega)
                  go_wp2_with fail
                  go_ret
                  exact ⟨rfl, bthen HB.out hbr⟩
              · obtain rfl : q = xs.length := by omega
                have hd1 : decide ((xs.length : Int) < (xs.length : Int)) = false := decide_eq_false (by omega)
                obtain rfl := sub_end hk HQ.out
                go_wp2_with fail
                go_ret
                exact ⟨rfl, bthen HB.out hbr⟩

set_option maxRecDepth 100000 in
theorem lifted (os : Os) (started : os.Started) (H : Type) (enc : TypeId × Value → H) :
    ReturnsInHanded {} Try.checked os 15 .any (Rows.fnStacksSpec.pre6 enc Try.prog Try.f15 Rows.fnStacksRow.domain false) (Rows.fnStacksSpec.post enc Try.prog Try.f15 false true false false) := by
  refine returnsInHanded_of_change (C := Try.checked) own started (by kernel_rfl) Try.func15
    (ChangeSpec.witness6 (enc := enc) (C := Try.checked) false ⟨#[], #[.slice none 0 0], []⟩ 8 (by kernel_rfl) (by kernel_rfl) (by kernel_rfl) (by kernel_rfl)) ?_
  intro W base args ds gs before hval0 hW _ _
  have hval : ∀ (j : Nat) t v, Try.f15.params[j]? = some t → args[j]? = some v → Value.okWide Try.prog W .any base t v := hval0
  have hW' := hW
  obtain ⟨p, q, hA0, hV, rfl, _, _⟩ := hW
  have hA : DataW.TrodAll enc Try.prog W 0 (fun _ => true) true Try.f15.params.toList args.toList ds p := hA0
  obtain ⟨rfl, rfl⟩ := trodVars_none hV
  have hlt0 : ∀ x ∈ p, x.block < W.heap.size := fun x hx => by simpa using hW'.lt x (by simpa using hx)
  rw [Try.params15] at hA hval
  obtain ⟨b0, vs0, d0, ds0, p0, q0, hargs0, rfl, rfl, h0, r0⟩ := trodAll_cons hA
  obtain ⟨e1, rfl, e2⟩ := trodAll_nil r0
  have hargs : args = #[b0] := by
    cases args
    simp_all
  subst hargs
  obtain ⟨n0, hx0⟩ := open_BI Try.underlying36 Try.underlying5 (by kernel_rfl) (hval 0 _ b0 rfl rfl) h0 (fun x hx => hlt0 x (by simp [hx]))
  refine (walk b0 n0 W hx0).mono fun e W' ⟨he, hb⟩ => ?_
  subst he
  exact ⟨_, rfl, law_post laidOut (by decide +kernel) (by kernel_rfl) Try.underlying4 rfl hW' rfl hb⟩

theorem proved : Rows.FnStacksSaid :=
  OpenClaim.holds_of_wide 15 Try.f15 rfl rfl rfl rfl rfl rfl rfl ⟨rfl, rfl, rfl, rfl, rfl⟩ rfl rfl rfl rfl rfl (by kernel_rfl) Try.func15 (by kernel_rfl)
    (of_decide_eq_true (by kernel_rfl)) (by unfold Func.isWrapper; first | (rw [if_pos (by decide +kernel)]; kernel_rfl) | (rw [if_neg (by decide +kernel)]; exact ⟨rfl, rfl⟩))
    (fun os started H enc _ => lifted os started H enc)


end fnStacks
end Go.Proofs.Yteohfokchimfeaa

