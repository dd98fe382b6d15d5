/-
  What the law on stacks says, in plain Lean: the stacks of an order are the lengths of its rising chains; a longest chain; carriers that leave in order.
-/
import Derived.Test.YteohfokchimfeaaSortLaw
import Derived.Test.YteohfokchimfeaaPopPlain
import Derived.Test.YteohfokchimfeaaAssign
import Derived.Test.YteohfokchimfeaaChainRow
namespace Go.Proofs.Yteohfokchimfeaa
open Go.RowKit

theorem getD_append_left {a b : List Int} {i : Nat} (h : i < a.length) : (a ++ b).getD i 0 = a.getD i 0 := by
  simp only [List.getD]
  rw [List.getElem?_append_left h]
theorem getD_set {l : List Int} {p k : Nat} {x : Int} (hp : p < l.length) : (l.set p x).getD k 0 = if k = p then x else l.getD k 0 := by
  simp only [List.getD, List.getElem?_set]
  by_cases e : p = k
  · subst e; rw [if_pos rfl, if_pos rfl, if_pos hp]; rfl
  · rw [if_neg e, if_neg (fun h => e h.symm)]
/-- The tops behind one more carrier. -/
def topsN (T : List Int) (x : Int) : List Int := if place T x < T.length then T.set (place T x) x else T ++ [x]
theorem topsN_facts (T : List Int) (x : Int) : T.length ≤ (topsN T x).length ∧ place T x < (topsN T x).length ∧ (∀ k, k < (topsN T x).length → k ≠ place T x → k < T.length) ∧ ∀ k, k < (topsN T x).length → (topsN T x).getD k 0 = if k = place T x then x else T.getD k 0 := by
  have hp := place_le T x
  unfold topsN
  by_cases h : place T x < T.length
  · rw [if_pos h]
    refine ⟨by simp, by simpa using h, fun k hk _ => by simpa using hk, fun k _ => getD_set h⟩
  · rw [if_neg h]
    have e : place T x = T.length := by omega
    rw [e]
    refine ⟨by simp, by simp, fun k hk hne => by simp at hk; omega, fun k hk => ?_⟩
    by_cases ek : k = T.length
    · subst ek; rw [if_pos rfl]; simp [List.getD]
    · rw [if_neg ek, getD_append_left (by simp at hk; omega)]
structure Tops (xs : List Int) (i : Nat) (T o : List Int) : Prop where
  up : ∀ a b, a < b → b < T.length → T.getD a 0 < T.getD b 0
  from_ : ∀ k, k < T.length → ∃ j, j < i ∧ rise xs j = (k : Int) + 1 ∧ xs.getD j 0 = T.getD k 0
  le : ∀ j, j < i → ∃ k : Nat, rise xs j = (k : Int) + 1 ∧ k < T.length ∧ T.getD k 0 ≤ xs.getD j 0
  out : ∀ j, j < i → o.getD j 0 = rise xs j - 1
theorem tops_all {xs : List Int} (hok : okOrder xs = true) (i : Nat) (hi : i ≤ xs.length) : Tops xs i (assignTo xs i).2 (assignTo xs i).1 := by
  induction i with
  | zero => exact ⟨fun a b _ h => absurd h (Nat.not_lt_zero _), fun k h => absurd h (Nat.not_lt_zero _), fun j h => absurd h (Nat.not_lt_zero _), fun j h => absurd h (Nat.not_lt_zero _)⟩
  | succ i ih =>
    have h := ih (by omega)
    have hol := (assignTo_length xs i).1
    have hst : assignTo xs (i + 1) = ((assignTo xs i).1 ++ [(place (assignTo xs i).2 (xs.getD i 0) : Int)], topsN (assignTo xs i).2 (xs.getD i 0)) := rfl
    rw [hst]
    generalize (assignTo xs i).1 = o at h hol
    generalize (assignTo xs i).2 = T at h
    obtain ⟨u1, u2, u3, u4⟩ := h
    have hp := place_le T (xs.getD i 0)
    have hlt := place_lt T (xs.getD i 0)
    have hge := fun j => place_ge T (xs.getD i 0) j
    obtain ⟨f1, f2, f3, f4⟩ := topsN_facts T (xs.getD i 0)
    generalize topsN T (xs.getD i 0) = T' at f1 f2 f3 f4
    generalize place T (xs.getD i 0) = p at *
    have hne : ∀ k, k < T.length → T.getD k 0 ≠ xs.getD i 0 := fun k hk => by
      obtain ⟨j, hj, _, e⟩ := u2 k hk
      rw [← e]
      exact order_inj hok (by omega) hj
    have hge2 : ∀ k, k < p → T.getD k 0 < xs.getD i 0 := fun k hk => by
      have a := hge k hk
      have b := hne k (by omega)
      omega
    have hr : rise xs i = (p : Int) + 1 := by
      have up : rise xs i ≤ (p : Int) + 1 := by
        rcases rise_from xs i with e | ⟨j, hj, hx, e⟩
        · omega
        · obtain ⟨k, hk, hkl, hle⟩ := u3 j hj
          have : k < p := Classical.byContradiction fun hn => by
            have a := hlt (by omega)
            have b : T.getD p 0 ≤ T.getD k 0 := by
              by_cases e2 : p = k
              · rw [e2]; exact Int.le_refl _
              · have := u1 p k (by omega) hkl; omega
            omega
          omega
      have lo : (p : Int) + 1 ≤ rise xs i := by
        by_cases h0 : p = 0
        · have := rise_pos xs i; omega
        · obtain ⟨j, hj, hrj, e⟩ := u2 (p - 1) (by omega)
          have a := hge2 (p - 1) (by omega)
          have := rise_lt hj (show xs.getD j 0 < xs.getD i 0 by rw [e]; exact a)
          omega
      omega
    show Tops xs (i + 1) T' (o ++ [(p : Int)])
    refine ⟨fun a b hab hb => ?_, fun k hk => ?_, fun j hj => ?_, fun j hj => ?_⟩
    · rw [f4 a (by omega), f4 b hb]
      by_cases ea : a = p
      · rw [if_pos ea, if_neg (by omega)]
        have hb2 := f3 b hb (by omega)
        have x1 := hlt (by omega)
        have x2 := u1 p b (by omega) hb2
        omega
      · rw [if_neg ea]
        have ha2 := f3 a (by omega) ea
        by_cases eb : b = p
        · rw [if_pos eb]; exact hge2 a (by omega)
        · rw [if_neg eb]; exact u1 a b hab (f3 b hb eb)
    · rw [f4 k hk]
      by_cases ek : k = p
      · rw [if_pos ek]; exact ⟨i, by omega, by rw [hr, ek], rfl⟩
      · rw [if_neg ek]
        obtain ⟨j, hj, h1, h2⟩ := u2 k (f3 k hk ek)
        exact ⟨j, by omega, h1, h2⟩
    · by_cases ej : j = i
      · subst ej
        exact ⟨p, hr, f2, by rw [f4 p f2, if_pos rfl]; exact Int.le_refl _⟩
      · obtain ⟨k, h1, h2, h3⟩ := u3 j (by omega)
        refine ⟨k, h1, by omega, ?_⟩
        rw [f4 k (by omega)]
        by_cases ek : k = p
        · rw [if_pos ek]
          have := hlt (by omega)
          rw [ek] at h3
          omega
        · rw [if_neg ek]; exact h3
    · by_cases ej : j = i
      · subst ej
        rw [hr]
        simp only [List.getD]
        rw [List.getElem?_append_right (by omega), hol]
        simp
      · rw [getD_append_left (by omega)]
        exact u4 j (by omega)
theorem assign_rise {xs : List Int} (hok : okOrder xs = true) {i : Nat} (hi : i < xs.length) : (assignTo xs xs.length).1.getD i 0 = rise xs i - 1 := (tops_all hok xs.length (Nat.le_refl _)).out i hi
theorem list_of_getD {a b : List Int} (hl : a.length = b.length) (h : ∀ i, i < a.length → a.getD i 0 = b.getD i 0) : a = b := by
  apply List.ext_getElem hl
  intro i h1 h2
  have := h i h1
  rw [List.getD, List.getD, List.getElem?_eq_getElem h1, List.getElem?_eq_getElem h2] at this
  simpa using this
/-- As many stacks are used as the longest chain has elements. -/
theorem used_longest {xs : List Int} (hok : okOrder xs = true) : maxI ((assignTo xs xs.length).1.map (· + 1)) = longest xs := by
  have hl := (assignTo_length xs xs.length).1
  unfold longest
  congr 1
  refine list_of_getD (by rw [List.length_map, hl, riseTo_length]) fun i hi => ?_
  rw [List.length_map, hl] at hi
  rw [riseTo_at xs xs.length i hi]
  have := assign_rise hok hi
  rw [List.getD, List.getElem?_eq_getElem (by rw [hl]; exact hi), Option.getD_some] at this
  rw [List.getD, List.getElem?_map, List.getElem?_eq_getElem (by rw [hl]; exact hi), Option.map_some, Option.getD_some]
  omega
/-- The stacks sort the order. -/
theorem own_sorted {xs : List Int} (hok : okOrder xs = true) : valSorted xs (assignTo xs xs.length).1 = (true, 0) := by
  have hl := (assignTo_length xs xs.length).1
  have l40 := okOrder_len hok
  have hst : okStacks xs (assignTo xs xs.length).1 = true := by
    unfold okStacks
    rw [Bool.and_eq_true, decide_eq_true_iff, List.all_eq_true]
    refine ⟨hl, fun x hx => ?_⟩
    obtain ⟨i, hi, rfl⟩ := List.mem_iff_getElem.1 hx
    have hi2 : i < xs.length := by omega
    have := assign_rise hok hi2
    rw [List.getD, List.getElem?_eq_getElem hi, Option.getD_some] at this
    rw [this]
    have a := rise_pos xs i
    have b := longest_ge hi2
    have c := (longest_bounds xs).2
    unfold inB
    simp
    omega
  have hc : codeSt xs (assignTo xs xs.length).1 = 0 := by
    unfold codeSt
    rw [if_pos hok, if_pos hst]
  unfold valSorted
  rw [if_pos hc, sortedB_true]
  intro i hi k hk
  cases hb : badPair xs (assignTo xs xs.length).1 i k with
  | false => rfl
  | true =>
    unfold badPair at hb
    rw [assign_rise hok hi, assign_rise hok (show k < xs.length by omega), Bool.and_eq_true, beq_iff_eq, decide_eq_true_iff] at hb
    have := rise_lt hk hb.2
    omega

/-! ### the longest chain -/
structure Back (xs : List Int) (t : Nat) (st : Int × Int × List Int) : Prop where
  pos : 0 ≤ st.1
  len : (st.2.2.length : Int) = longest xs - st.1
  next : 1 ≤ st.1 → ∃ k, k + t < xs.length ∧ rise xs k = st.1 ∧ xs.getD k 0 < st.2.1
  up : st.2.2.Pairwise (· < ·)
  low : ∀ y ∈ st.2.2, st.2.1 ≤ y
  sub : st.2.2.Sublist (xs.drop (xs.length - t))
theorem back_all {xs : List Int} (hok : okOrder xs = true) (t : Nat) (ht : t ≤ xs.length) : Back xs t (chainBack xs t) := by
  induction t with
  | zero =>
    refine ⟨(longest_bounds xs).1, by simp [chainBack], fun h => ?_, List.Pairwise.nil, fun y hy => by simp [chainBack] at hy, List.nil_sublist _⟩
    have hx : 0 < xs.length := by
      have := (longest_bounds xs).2
      simp only [chainBack] at h
      omega
    obtain ⟨i, hi, he⟩ := longest_at hx
    exact ⟨i, by omega, he, by have := (okOrder_at hok i hi).1; simp only [chainBack]; omega⟩
  | succ t ih =>
    obtain ⟨b1, b2, b3, b4, b5, b6⟩ := ih (by omega)
    have hp : xs.length - 1 - t < xs.length := by omega
    have hdrop : xs.drop (xs.length - (t + 1)) = xs.getD (xs.length - 1 - t) 0 :: xs.drop (xs.length - t) := by
      rw [show xs.length - (t + 1) = xs.length - 1 - t by omega, List.drop_eq_getElem_cons hp, show xs.length - 1 - t + 1 = xs.length - t by omega]
      simp [List.getD, List.getElem?_eq_getElem hp]
    simp only [chainBack]
    rw [riseTo_at xs _ _ hp]
    by_cases hc : rise xs (xs.length - 1 - t) = (chainBack xs t).1 ∧ xs.getD (xs.length - 1 - t) 0 < (chainBack xs t).2.1
    · rw [if_pos hc]
      have hr := rise_pos xs (xs.length - 1 - t)
      refine ⟨by simp only; omega, by simp only [List.length_cons]; omega, fun h => ?_, ?_, ?_, ?_⟩
      · simp only at h
        rcases rise_from xs (xs.length - 1 - t) with e | ⟨j, hj, hx, e⟩
        · omega
        · exact ⟨j, by omega, by simp only; omega, hx⟩
      · exact List.Pairwise.cons (fun y hy => by have := b5 y hy; omega) b4
      · intro y hy
        rcases List.mem_cons.1 hy with rfl | hy
        · exact Int.le_refl _
        · have := b5 y hy; simp only; omega
      · rw [hdrop]
        exact List.Sublist.cons_cons _ b6
    · rw [if_neg hc]
      refine ⟨b1, b2, fun h => ?_, b4, b5, ?_⟩
      · obtain ⟨k, h1, h2, h3⟩ := b3 h
        refine ⟨k, Classical.byContradiction fun hn => hc ?_, h2, h3⟩
        have e : k = xs.length - 1 - t := by omega
        rw [← e]; exact ⟨h2, h3⟩
      · rw [hdrop]
        exact List.Sublist.cons _ b6
theorem chain_facts {xs : List Int} (hok : okOrder xs = true) : ((chainBack xs xs.length).2.2.length : Int) = longest xs ∧ (chainBack xs xs.length).2.2.Pairwise (· < ·) ∧ (chainBack xs xs.length).2.2.Sublist xs := by
  obtain ⟨b1, b2, b3, b4, b5, b6⟩ := back_all hok xs.length (Nat.le_refl _)
  refine ⟨?_, b4, by simpa using b6⟩
  have h0 : (chainBack xs xs.length).1 = 0 := Classical.byContradiction fun hn => by
    obtain ⟨k, hk, _⟩ := b3 (by omega)
    omega
  omega

/-- Do numbers rise? -/
def risesB (l : List Int) : Bool := (List.range l.length).all fun i => decide (i = 0) || decide (l.getD (i - 1) 0 < l.getD i 0)
theorem risesB_yes {l : List Int} (h : ∀ i, 1 ≤ i → i < l.length → l.getD (i - 1) 0 < l.getD i 0) : risesB l = true := by
  unfold risesB
  rw [List.all_eq_true]
  intro i hi
  have hi := List.mem_range.1 hi
  by_cases h0 : i = 0
  · simp [h0]
  · rw [decide_eq_true (h i (by omega) hi), Bool.or_true]
theorem risesB_no {l : List Int} {i : Nat} (h1 : 1 ≤ i) (hi : i < l.length) (h : ¬ l.getD (i - 1) 0 < l.getD i 0) : risesB l = false := by
  cases hr : risesB l with
  | false => rfl
  | true =>
    unfold risesB at hr
    rw [List.all_eq_true] at hr
    have := hr i (List.mem_range.2 hi)
    rw [decide_eq_false (show ¬ i = 0 by omega), Bool.false_or, decide_eq_true_iff] at this
    exact absurd this h
theorem risesB_of {l : List Int} (h : risesB l = true) (i : Nat) (h1 : 1 ≤ i) (hi : i < l.length) : l.getD (i - 1) 0 < l.getD i 0 := Classical.byContradiction fun hn => by
  rw [risesB_no h1 hi hn] at h; cases h
theorem risesB_pair {l : List Int} (h : l.Pairwise (· < ·)) : risesB l = true := risesB_yes fun i h1 hi => by
  have := List.pairwise_iff_getElem.1 h (i - 1) i (by omega) hi (by omega)
  simpa [List.getD, List.getElem?_eq_getElem hi, List.getElem?_eq_getElem (show i - 1 < l.length by omega)] using this
theorem risesB_all {l : List Int} (h : risesB l = true) (i d : Nat) (hi : i + d < l.length) (hd : 1 ≤ d) : l.getD i 0 < l.getD (i + d) 0 := by
  induction d with
  | zero => omega
  | succ d ih =>
    have s := risesB_of h (i + (d + 1)) (by omega) hi
    rw [show i + (d + 1) - 1 = i + d by omega] at s
    by_cases h0 : d = 0
    · subst h0; simpa using s
    · have := ih (by omega) (by omega); omega

/-! ### the search of the chain in the order -/
theorem sub_hit {xs ys : List Int} {i k : Nat} (hi : i < xs.length) (hk : k < ys.length) (h : (ys.drop k).Sublist (xs.drop i)) (e : xs.getD i 0 = ys.getD k 0) : (ys.drop (k + 1)).Sublist (xs.drop (i + 1)) := by
  rw [List.drop_eq_getElem_cons hi, List.drop_eq_getElem_cons hk] at h
  rcases List.sublist_cons_iff.1 h with h | ⟨r, hr, h⟩
  · exact (List.sublist_cons_self _ _).trans h
  · obtain ⟨_, rfl⟩ := List.cons.inj hr
    exact h
theorem sub_miss {xs ys : List Int} {i k : Nat} (hi : i < xs.length) (hk : k < ys.length) (h : (ys.drop k).Sublist (xs.drop i)) (e : xs.getD i 0 ≠ ys.getD k 0) : (ys.drop k).Sublist (xs.drop (i + 1)) := by
  rw [List.drop_eq_getElem_cons hi] at h
  rcases List.sublist_cons_iff.1 h with h | ⟨r, hr, h⟩
  · exact h
  · rw [List.drop_eq_getElem_cons hk] at hr
    obtain ⟨h1, _⟩ := List.cons.inj hr
    refine absurd ?_ e
    simp [List.getD, List.getElem?_eq_getElem hi, List.getElem?_eq_getElem hk, h1]
theorem sub_end {xs ys : List Int} {k : Nat} (hk : k ≤ ys.length) (h : (ys.drop k).Sublist (xs.drop xs.length)) : k = ys.length := by
  rw [List.drop_length] at h
  have := List.sublist_nil.1 h
  have := congrArg List.length this
  simp at this
  omega

/-! ### carriers that leave in order -/
def popI (xs ss : List Int) (j : Nat) : Nat := (scanTo xs ss (popTo xs ss j).1 xs.length).toNat
theorem top_there {xs ss gone : List Int} (hl : ss.length = xs.length) {i : Nat} (hi : i < xs.length) (hg : gone.getD i 0 = 0) : ∃ q, i ≤ q ∧ q < xs.length ∧ topB ss gone q = true ∧ ss.getD q 0 = ss.getD i 0 ∧ gone.getD q 0 = 0 := by
  obtain ⟨q, hq, hp, hlast⟩ := last_there xs.length (fun k => (gone.getD k 0 == 0) && (ss.getD k 0 == ss.getD i 0)) ⟨i, hi, by rw [hg]; simp⟩
  rw [Bool.and_eq_true, beq_iff_eq, beq_iff_eq] at hp
  refine ⟨q, Classical.byContradiction fun hn => ?_, hq, ?_, hp.2, hp.1⟩
  · have := hlast i (by omega) hi
    rw [hg] at this
    simp at this
  · unfold topB
    rw [Bool.not_eq_true', Bool.or_eq_false_iff]
    refine ⟨by rw [hp.1]; decide, belowB_false fun k hk hkn => ?_⟩
    have := hlast k hk (by omega)
    unfold freeB
    rw [hp.2, Bool.and_comm]; exact this
theorem pop_facts {xs ss : List Int} (hok : okOrder xs = true) (hl : ss.length = xs.length) (hs : ∀ x ∈ ss, 0 ≤ x ∧ x ≤ 39) {j : Nat} (hj : j < xs.length) :
    popI xs ss j < xs.length ∧ topB ss (popTo xs ss j).1 (popI xs ss j) = true ∧ (∀ i, i < xs.length → topB ss (popTo xs ss j).1 i = true → xs.getD (popI xs ss j) 0 ≤ xs.getD i 0) ∧ popTo xs ss (j + 1) = ((popTo xs ss j).1.set (popI xs ss j) 1, (popTo xs ss j).2 ++ [xs.getD (popI xs ss j) 0]) := by
  obtain ⟨i, hi, hg⟩ := popTo_free hok hl hs j hj
  obtain ⟨q, _, hq, ht, _, _⟩ := top_there hl hi hg
  rcases scanTo_spec xs ss (popTo xs ss j).1 xs.length with ⟨_, h2⟩ | ⟨b, h1, h2, h3, h4⟩
  · rw [h2 q hq] at ht; cases ht
  · have e : popI xs ss j = b := by unfold popI; rw [h1]; rfl
    rw [e]
    refine ⟨h2, h3, h4, ?_⟩
    rw [← e]; rfl
theorem pop_gone {xs ss : List Int} (hok : okOrder xs = true) (hl : ss.length = xs.length) (hs : ∀ x ∈ ss, 0 ≤ x ∧ x ≤ 39) (j : Nat) (hj : j ≤ xs.length) (i : Nat) : (popTo xs ss j).1.getD i 0 = 1 ↔ ∃ q, q < j ∧ popI xs ss q = i := by
  induction j with
  | zero =>
    have : (popTo xs ss 0).1.getD i 0 = 0 := by
      simp only [popTo, List.getD, List.getElem?_replicate]
      split <;> rfl
    rw [this]
    exact ⟨fun h => absurd h (by decide), fun ⟨q, hq, _⟩ => absurd hq (Nat.not_lt_zero _)⟩
  | succ j ih =>
    obtain ⟨h1, _, _, h4⟩ := pop_facts hok hl hs (show j < xs.length by omega)
    rw [h4]
    simp only
    rw [getD_set (by rw [(popTo_len xs ss j).1]; exact h1)]
    by_cases e : i = popI xs ss j
    · rw [if_pos e]
      exact ⟨fun _ => ⟨j, by omega, e.symm⟩, fun _ => rfl⟩
    · rw [if_neg e, ih (by omega)]
      exact ⟨fun ⟨q, hq, hi⟩ => ⟨q, by omega, hi⟩, fun ⟨q, hq, hi⟩ => ⟨q, by
        by_cases eq : q = j
        · subst eq; exact absurd hi.symm e
        · omega, hi⟩⟩
theorem pop_out {xs ss : List Int} (hok : okOrder xs = true) (hl : ss.length = xs.length) (hs : ∀ x ∈ ss, 0 ≤ x ∧ x ≤ 39) (j : Nat) (hj : j ≤ xs.length) (i : Nat) (hi : i < j) : (popTo xs ss j).2.getD i 0 = xs.getD (popI xs ss i) 0 := by
  induction j with
  | zero => omega
  | succ j ih =>
    obtain ⟨_, _, _, h4⟩ := pop_facts hok hl hs (show j < xs.length by omega)
    have hlen := (popTo_len xs ss j).2
    rw [h4]
    simp only
    by_cases e : i = j
    · subst e
      simp only [List.getD]
      rw [List.getElem?_append_right (by omega), hlen]
      simp
    · rw [getD_append_left (by omega)]
      exact ih (by omega) (by omega)
theorem sum_full (l : List Int) (h : ∀ y ∈ l, y = 0 ∨ y = 1) : sumI l ≤ l.length ∧ (sumI l = l.length → ∀ y ∈ l, y = 1) := by
  induction l with
  | nil => exact ⟨by simp [sumI], fun _ y hy => by simp at hy⟩
  | cons y l ih =>
    obtain ⟨h1, h2⟩ := ih (fun z hz => h z (by simp [hz]))
    have hy := h y (by simp)
    rw [sumI_cons, List.length_cons]
    refine ⟨by omega, fun he z hz => ?_⟩
    rcases List.mem_cons.1 hz with rfl | hz
    · omega
    · exact h2 (by omega) z hz
/-- They leave in order just if the stacks sort the order. -/
theorem pop_sorted {xs ss : List Int} (hok : okOrder xs = true) (hl : ss.length = xs.length) (hs : ∀ x ∈ ss, 0 ≤ x ∧ x ≤ 39) : sortedB xs ss = risesB (popTo xs ss xs.length).2 := by
  have hlen := (popTo_len xs ss xs.length).2
  cases hr : risesB (popTo xs ss xs.length).2 with
  | true =>
    refine sortedB_true fun i hi k hk => ?_
    cases hb : badPair xs ss i k with
    | false => rfl
    | true =>
      unfold badPair at hb
      rw [Bool.and_eq_true, beq_iff_eq, decide_eq_true_iff] at hb
      obtain ⟨m1, m2⟩ := popTo_marks hok hl hs xs.length (Nat.le_refl _)
      have hall : ∀ y ∈ (popTo xs ss xs.length).1, y = 1 := (sum_full _ (fun y hy => by
        obtain ⟨q, hq, rfl⟩ := List.mem_iff_getElem.1 hy
        have := m1.two q
        rw [List.getD, List.getElem?_eq_getElem hq, Option.getD_some] at this
        exact this)).2 (by rw [m2, m1.len])
      have hk1 : (popTo xs ss xs.length).1.getD k 0 = 1 := by
        have hkl : k < (popTo xs ss xs.length).1.length := by rw [m1.len]; omega
        rw [List.getD, List.getElem?_eq_getElem hkl, Option.getD_some]
        exact hall _ (List.getElem_mem hkl)
      obtain ⟨jk, hjk, ejk⟩ := (pop_gone hok hl hs xs.length (Nat.le_refl _) k).1 hk1
      obtain ⟨_, t2, _, _⟩ := pop_facts hok hl hs hjk
      rw [ejk] at t2
      unfold topB at t2
      rw [Bool.not_eq_true', Bool.or_eq_false_iff] at t2
      have hf := belowB_no t2.2 i hk (by omega)
      unfold freeB at hf
      rw [hb.1, beq_self_eq_true, Bool.true_and, beq_eq_false_iff_ne] at hf
      have hg : (popTo xs ss jk).1.getD i 0 = 1 := by
        rcases (popTo_marks hok hl hs jk (by omega)).1.two i with h | h
        · exact absurd h hf
        · exact h
      obtain ⟨ji, hji, eji⟩ := (pop_gone hok hl hs jk (by omega) i).1 hg
      have hup := risesB_all hr ji (jk - ji) (by rw [hlen]; omega) (by omega)
      rw [show ji + (jk - ji) = jk by omega, pop_out hok hl hs xs.length (Nat.le_refl _) ji (by omega), pop_out hok hl hs xs.length (Nat.le_refl _) jk hjk, ejk, eji] at hup
      omega
  | false =>
    cases hsb : sortedB xs ss with
    | false => rfl
    | true =>
      have hno : ∀ i, i < xs.length → ∀ k, k < i → badPair xs ss i k = false := fun i hi k hk => by
        cases hb : badPair xs ss i k with
        | false => rfl
        | true => rw [sortedB_false hi hk hb] at hsb; cases hsb
      have : risesB (popTo xs ss xs.length).2 = true := risesB_yes fun i h1 hi => by
        rw [hlen] at hi
        rw [pop_out hok hl hs xs.length (Nat.le_refl _) i hi, pop_out hok hl hs xs.length (Nat.le_refl _) (i - 1) (by omega)]
        obtain ⟨p1, p2, p3, p4⟩ := pop_facts hok hl hs (show i - 1 < xs.length by omega)
        obtain ⟨r1, r2, _, _⟩ := pop_facts hok hl hs hi
        have hne : ¬ (popTo xs ss i).1.getD (popI xs ss i) 0 = 1 := fun e => by
          unfold topB at r2
          rw [e] at r2
          simp at r2
        have hng := (not_congr (pop_gone hok hl hs i (by omega) (popI xs ss i))).1 hne
        have hg1 : ¬ (popTo xs ss (i - 1)).1.getD (popI xs ss i) 0 = 1 := fun e => by
          obtain ⟨q, hq, eq⟩ := (pop_gone hok hl hs (i - 1) (by omega) (popI xs ss i)).1 e
          exact hng ⟨q, by omega, eq⟩
        have hg0 : (popTo xs ss (i - 1)).1.getD (popI xs ss i) 0 = 0 := by
          rcases (popTo_marks hok hl hs (i - 1) (by omega)).1.two (popI xs ss i) with h | h
          · exact h
          · exact absurd h hg1
        obtain ⟨q, hq1, hq2, hq3, hq4, _⟩ := top_there hl r1 hg0
        have hle := p3 q hq2 hq3
        have hle2 : xs.getD q 0 ≤ xs.getD (popI xs ss i) 0 := by
          by_cases e : q = popI xs ss i
          · rw [e]; exact Int.le_refl _
          · have := hno q hq2 (popI xs ss i) (by omega)
            unfold badPair at this
            rw [hq4, beq_self_eq_true, Bool.true_and, decide_eq_false_iff_not] at this
            omega
        have hne2 : popI xs ss i ≠ popI xs ss (i - 1) := fun e => hng ⟨i - 1, by omega, e.symm⟩
        have hinj : xs.getD (popI xs ss i) 0 ≠ xs.getD (popI xs ss (i - 1)) 0 := by
          rcases Nat.lt_trichotomy (popI xs ss i) (popI xs ss (i - 1)) with h | h | h
          · exact order_inj hok p1 h
          · exact absurd h hne2
          · exact fun e => order_inj hok r1 h e.symm
        omega
      rw [this] at hr; cases hr

end Go.Proofs.Yteohfokchimfeaa
