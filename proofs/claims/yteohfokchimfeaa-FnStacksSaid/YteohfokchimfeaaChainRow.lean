/-
  A longest rising chain: the plain function, and the reversal of a list of the call's own.
-/
import Derived.Test.YteohfokchimfeaaChain
import Derived.Test.YteohfokchimfeaaAssign
import Derived.BigRegion
namespace Go.Proofs.Yteohfokchimfeaa
open Go.RowKit

/-- After t places from the end back: how many are missing, the number before which one must lie, and the chain so far. -/
def chainBack (xs : List Int) : Nat → Int × Int × List Int
  | 0 => (longest xs, xs.length, [])
  | t + 1 =>
    if (riseTo xs xs.length).getD (xs.length - 1 - t) 0 = (chainBack xs t).1 ∧ xs.getD (xs.length - 1 - t) 0 < (chainBack xs t).2.1 then
      ((chainBack xs t).1 - 1, xs.getD (xs.length - 1 - t) 0, xs.getD (xs.length - 1 - t) 0 :: (chainBack xs t).2.2)
    else chainBack xs t
theorem chainBack_inv (xs : List Int) (t : Nat) : ((chainBack xs t).2.2 = [] ∧ (chainBack xs t).2.1 = xs.length ∨ (chainBack xs t).2.2 ≠ [] ∧ (chainBack xs t).2.2.getD 0 0 = (chainBack xs t).2.1) ∧
    (chainBack xs t).2.2.length ≤ t ∧ (chainBack xs t).1 ≤ xs.length ∧ 0 - (t : Int) ≤ (chainBack xs t).1 := by
  induction t with
  | zero => have := longest_bounds xs; refine ⟨.inl ⟨rfl, rfl⟩, Nat.le_refl _, this.2, by simp only [chainBack]; omega⟩
  | succ t ih =>
    simp only [chainBack]
    split
    · refine ⟨.inr ⟨by simp, by simp⟩, by simp; omega, by simp only; omega, by simp only; omega⟩
    · exact ⟨ih.1, by omega, ih.2.2.1, by omega⟩
theorem chainBack_good (xs : List Int) (hg : ∀ x ∈ xs, Good x) (t : Nat) (ht : t ≤ xs.length) : ∀ x ∈ (chainBack xs t).2.2, Good x := by
  induction t with
  | zero => simp [chainBack]
  | succ t ih =>
    simp only [chainBack]
    split
    · intro x hx
      rcases List.mem_cons.1 hx with rfl | hx
      · have hk : xs.length - 1 - t < xs.length := by omega
        apply hg
        simp only [List.getD, List.getElem?_eq_getElem hk, Option.getD_some]; exact List.getElem_mem hk
      · exact ih (by omega) x hx
    · exact ih (by omega)
def valChain (xs : List Int) : List Int × Int := if okOrder xs = true then ((chainBack xs xs.length).2.2, 0) else ([], 1)
theorem valChain_len (xs : List Int) : (valChain xs).1.length ≤ 1048576 := by
  unfold valChain
  split
  · rename_i h; have := okOrder_len h; have := (chainBack_inv xs xs.length).2.1; simp only; omega
  · simp

/-- The first j and the last j of n elements exchanged. -/
def revTo (xs : List Int) (j : Nat) : List Int := (List.range xs.length).map fun i => if i < j ∨ xs.length - 1 - i < j then xs.getD (xs.length - 1 - i) 0 else xs.getD i 0
theorem revTo_length (xs : List Int) (j : Nat) : (revTo xs j).length = xs.length := by simp [revTo]
theorem revTo_getD (xs : List Int) (j i : Nat) (h : i < xs.length) : (revTo xs j).getD i 0 = if i < j ∨ xs.length - 1 - i < j then xs.getD (xs.length - 1 - i) 0 else xs.getD i 0 := by
  simp [revTo, List.getD, h]
theorem revTo_zero (xs : List Int) : revTo xs 0 = xs := by
  apply List.ext_getElem?
  intro i
  by_cases h : i < xs.length
  · simp [revTo, h, List.getD]
  · simp [revTo, h]
theorem revTo_step (xs : List Int) (j : Nat) (h : j < xs.length - 1 - j) : ((revTo xs j).set j (xs.getD (xs.length - 1 - j) 0)).set (xs.length - 1 - j) (xs.getD j 0) = revTo xs (j + 1) := by
  apply List.ext_getElem?
  intro i
  by_cases hi : i < xs.length
  · rw [List.getElem?_set]
    by_cases e1 : xs.length - 1 - j = i
    · rw [if_pos e1, if_pos (by simp [revTo_length]; omega)]
      have : (revTo xs (j + 1))[i]? = some ((revTo xs (j + 1)).getD i 0) := by simp [List.getD, List.getElem?_eq_getElem (by rw [revTo_length]; exact hi : i < (revTo xs (j + 1)).length)]
      rw [this, revTo_getD _ _ _ hi, if_pos (by omega), show xs.length - 1 - i = j by omega]
    · rw [if_neg e1, List.getElem?_set]
      by_cases e2 : j = i
      · subst e2
        rw [if_pos rfl, if_pos (by rw [revTo_length]; exact hi)]
        have : (revTo xs (j + 1))[j]? = some ((revTo xs (j + 1)).getD j 0) := by simp [List.getD, List.getElem?_eq_getElem (by rw [revTo_length]; exact hi : j < (revTo xs (j + 1)).length)]
        rw [this, revTo_getD _ _ _ hi, if_pos (by omega)]
      · rw [if_neg e2]
        have a1 : (revTo xs j)[i]? = some ((revTo xs j).getD i 0) := by simp [List.getD, List.getElem?_eq_getElem (by rw [revTo_length]; exact hi : i < (revTo xs j).length)]
        have a2 : (revTo xs (j + 1))[i]? = some ((revTo xs (j + 1)).getD i 0) := by simp [List.getD, List.getElem?_eq_getElem (by rw [revTo_length]; exact hi : i < (revTo xs (j + 1)).length)]
        rw [a1, a2, revTo_getD _ _ _ hi, revTo_getD _ _ _ hi]
        by_cases c : i < j ∨ xs.length - 1 - i < j
        · rw [if_pos c, if_pos (by omega)]
        · rw [if_neg c, if_neg (by omega)]
  · have b1 : (((revTo xs j).set j (xs.getD (xs.length - 1 - j) 0)).set (xs.length - 1 - j) (xs.getD j 0)).length ≤ i := by simp [revTo_length]; omega
    have b2 : (revTo xs (j + 1)).length ≤ i := by rw [revTo_length]; omega
    rw [List.getElem?_eq_none b1, List.getElem?_eq_none b2]
theorem revTo_done (xs : List Int) (j : Nat) (h : ¬ j < xs.length - 1 - j) : revTo xs j = xs.reverse := by
  apply List.ext_getElem?
  intro i
  by_cases hi : i < xs.length
  · have a1 : (revTo xs j)[i]? = some ((revTo xs j).getD i 0) := by simp [List.getD, List.getElem?_eq_getElem (by rw [revTo_length]; exact hi : i < (revTo xs j).length)]
    rw [a1, revTo_getD _ _ _ hi, List.getElem?_reverse hi]
    have hk : xs.length - 1 - i < xs.length := by omega
    by_cases c : i < j ∨ xs.length - 1 - i < j
    · rw [if_pos c]; simp [List.getD, List.getElem?_eq_getElem hk]
    · rw [if_neg c, show xs.length - 1 - i = i by omega]; simp [List.getD, List.getElem?_eq_getElem hi]
  · rw [List.getElem?_eq_none (by rw [revTo_length]; omega), List.getElem?_eq_none (by simp; omega)]

set_option maxRecDepth 100000 in
set_option maxHeartbeats 2000000 in
theorem reverse_any (v : Value) (xs : List Int) (base : Nat) (w : World) (ho : OI 2 w base v xs) (hs : xs.length ≤ 1099511627776) :
    Calls Try.prog 72 #[v] w fun e w' => e = .returned (.tuple #[]) ∧ OI 2 w' base v xs.reverse ∧ w.grownBy w' v.ownBlock := by
  rcases ho.shape with ⟨rfl, rfl⟩ | ⟨g, cap, rfl, hbg, hg⟩
  · go_enter Try.func72, Try.ntmps72
    go_wp2
    go_loop [2, 3] (fun i j => i = .int .i64 0 ∧ j = .int .i64 (-1)) (fun _ _ => 0)
    case atStart => exact ⟨rfl, rfl⟩
    case round =>
      obtain ⟨rfl, rfl⟩ := hrel
      go_wp2
      go_end0
      exact ⟨rfl, OI.nil _ _ _, World.grownBy.refl _ _⟩
  · have HO := Lib.hid ho
    have hpos : xs.length = 0 ∨ 0 < xs.length := by omega
    clear ho
    go_enter Try.func72, Try.ntmps72
    go_wp2
    go_loopw [2, 3] (fun i jj wr => ∃ j : Nat, i = .int .i64 j ∧ jj = .int .i64 ((xs.length : Int) - 1 - j) ∧ 2 * j ≤ xs.length + 1 ∧ w.grownBy wr (some g) ∧ OI 2 wr base (.slice (some ⟨g, 0, none⟩) xs.length cap) (revTo xs j)) (fun i _ _ => xs.length - (intOf i).toNat)
    case atStart => exact ⟨0, rfl, by simp, by omega, World.grownBy.refl _ _, by rw [revTo_zero]; exact HO.out⟩
    case round =>
      obtain ⟨j, rfl, rfl, hj, hgr, hr⟩ := hrel
      by_cases hlt : j < xs.length - 1 - j
      · obtain ⟨k, hk⟩ : ∃ k, k = xs.length - 1 - j := ⟨_, rfl⟩
        have hrd := OI.below hr ((Below.refl _ wr).drew)
        obtain ⟨c1, f1⟩ := hr.cell j (by rw [revTo_length]; omega)
        obtain ⟨c2, f2⟩ := hr.cell k (by rw [revTo_length]; omega)
        replace f1 : wr.frozen? ⟨g, j, none⟩ = false := f1
        rw [revTo_getD _ _ _ (by omega), if_neg (by omega)] at c1
        rw [revTo_getD _ _ _ (by omega), if_neg (by omega)] at c2
        have hga : Good (xs.getD j 0) := by have := hr.ri.getD j; rwa [revTo_getD _ _ _ (by omega), if_neg (by omega)] at this
        have hgb : Good (xs.getD k 0) := by have := hr.ri.getD k; rwa [revTo_getD _ _ _ (by omega), if_neg (by omega)] at this
        obtain ⟨a1, a2⟩ := hrd.set j (xs.getD k 0) hgb
        obtain ⟨c3, f3⟩ := a1.cell k (by rw [List.length_set, revTo_length]; omega)
        obtain ⟨b1, b2⟩ := a1.set k (xs.getD j 0) hga
        have HStep := Lib.hid (show ((revTo xs j).set j (xs.getD k 0)).set k (xs.getD j 0) = revTo xs (j + 1) by rw [hk]; exact revTo_step xs j hlt)
        rw [HStep.out] at b1
        have HB1 := Lib.hid b1
        have HB2 := Lib.hid (grownBy_trans a2 b2)
        have HGr := Lib.hid hgr
        have e1 : ((xs.length : Int) - 1 - j) = (k : Int) := by omega
        have hk1 : (k : Int) < xs.length := by omega
        have hk0 : (0 : Int) ≤ k := by omega
        have hj1 : (j : Int) < xs.length := by omega
        have hj0 : (0 : Int) ≤ j := by omega
        have hjk : (j : Int) < k := by omega
        clear hrd hr a1 a2 b1 b2 hgr hga hgb
        rw [e1]
        have HE1 := Lib.hid e1
        have HKK := Lib.hid hk
        clear e1 hk
        generalize ((revTo xs j).set j (xs.getD k 0)).getD k 0 = q at c3
        generalize xs.getD j 0 = x at c1 HB1 HB2 HStep
        generalize xs.getD k 0 = y at c2 c3 f3 HB1 HB2 HStep
        go_wp2
        go_region
        go_wp2
        go_roundw
        case rel => exact ⟨j + 1, by go_num, congrArg (Value.int .i64) (by have := HE1.out; omega), by have := HKK.out; omega, ⟨HGr.out.os.symm ▸ HB2.out.os, HB2.out.tape.trans HGr.out.tape, HB2.out.output.trans HGr.out.output, Nat.le_trans HGr.out.size HB2.out.size, fun b hb hne => (HB2.out.block b (Nat.lt_of_lt_of_le hb HGr.out.size) hne).trans (HGr.out.block b hb hne)⟩, HB1.out⟩
        case measure => simp [intOf]; omega
      · have HD := Lib.hid (revTo_done xs j hlt)
        have HR := Lib.hid hr
        have HGr := Lib.hid hgr
        have hd : ¬ ((j : Int) < (xs.length : Int) - 1 - j) := by omega
        clear hr hgr
        go_wp2
        go_end0
        exact ⟨rfl, by rw [← HD.out]; exact HR.out, HGr.out⟩

end Go.Proofs.Yteohfokchimfeaa
