/-
  PopOrder, in plain Lean: the reference takes, round for round, the least of the carriers on top; so do the piles.
-/
import Derived.Test.YteohfokchimfeaaSorted
import Derived.Test.YteohfokchimfeaaRoundsPlain
namespace Go.Proofs.Yteohfokchimfeaa
open Go.RowKit

/-- Does place k, not gone, stand on the stack of place i? -/
def freeB (ss gone : List Int) (i k : Nat) : Bool := (ss.getD k 0 == ss.getD i 0) && (gone.getD k 0 == 0)
def belowB (ss gone : List Int) (i : Nat) : Bool := (List.range ss.length).any fun k => decide (i < k) && freeB ss gone i k
theorem belowB_true {ss gone : List Int} {i k : Nat} (hk : k < ss.length) (hi : i < k) (h : freeB ss gone i k = true) : belowB ss gone i = true := by
  unfold belowB
  rw [List.any_eq_true]
  exact ⟨k, List.mem_range.2 hk, by simp [hi, h]⟩
theorem belowB_false {ss gone : List Int} {i : Nat} (h : ∀ k, i < k → k < ss.length → freeB ss gone i k = false) : belowB ss gone i = false := by
  unfold belowB
  rw [List.any_eq_false]
  intro k hk
  have hk := List.mem_range.1 hk
  by_cases hi : i < k
  · simp [h k hi hk]
  · simp [hi]
theorem belowB_no {ss gone : List Int} {i : Nat} (h : belowB ss gone i = false) (k : Nat) (hi : i < k) (hk : k < ss.length) : freeB ss gone i k = false := by
  cases hf : freeB ss gone i k with
  | false => rfl
  | true => rw [belowB_true hk hi hf] at h; exact h

/-- The reference's scan: the best one of the first k places, or -1. -/
def scanTo (xs ss gone : List Int) : Nat → Int
  | 0 => -1
  | k + 1 => if (gone.getD k 0 == 1 || belowB ss gone k) = true then scanTo xs ss gone k else if scanTo xs ss gone k < 0 then k else if xs.getD k 0 < xs.getD (scanTo xs ss gone k).toNat 0 then k else scanTo xs ss gone k

/-- Place i is on top. -/
def topB (ss gone : List Int) (i : Nat) : Bool := !(gone.getD i 0 == 1 || belowB ss gone i)

theorem scanTo_spec (xs ss gone : List Int) (k : Nat) : (scanTo xs ss gone k = -1 ∧ ∀ i, i < k → topB ss gone i = false) ∨
    ∃ b : Nat, scanTo xs ss gone k = b ∧ b < k ∧ topB ss gone b = true ∧ ∀ i, i < k → topB ss gone i = true → xs.getD b 0 ≤ xs.getD i 0 := by
  induction k with
  | zero => exact .inl ⟨rfl, fun i h => absurd h (Nat.not_lt_zero _)⟩
  | succ k ih =>
    unfold scanTo
    cases ht : (gone.getD k 0 == 1 || belowB ss gone k) with
    | true =>
      rw [if_pos rfl]
      have htk : topB ss gone k = false := by unfold topB; rw [ht]; rfl
      rcases ih with ⟨h1, h2⟩ | ⟨b, h1, h2, h3, h4⟩
      · refine .inl ⟨h1, fun i hi => ?_⟩
        by_cases e : i = k
        · subst e; exact htk
        · exact h2 i (by omega)
      · refine .inr ⟨b, h1, by omega, h3, fun i hi hti => ?_⟩
        by_cases e : i = k
        · subst e; rw [htk] at hti; cases hti
        · exact h4 i (by omega) hti
    | false =>
      rw [if_neg (by simp)]
      have htk : topB ss gone k = true := by unfold topB; rw [ht]; rfl
      rcases ih with ⟨h1, h2⟩ | ⟨b, h1, h2, h3, h4⟩
      · rw [if_pos (by rw [h1]; decide)]
        refine .inr ⟨k, rfl, by omega, htk, fun i hi hti => ?_⟩
        by_cases e : i = k
        · subst e; exact Int.le_refl _
        · rw [h2 i (by omega)] at hti; cases hti
      · rw [if_neg (by rw [h1]; omega), h1, Int.toNat_natCast]
        by_cases hl : xs.getD k 0 < xs.getD b 0
        · rw [if_pos hl]
          refine .inr ⟨k, rfl, by omega, htk, fun i hi hti => ?_⟩
          by_cases e : i = k
          · subst e; exact Int.le_refl _
          · have := h4 i (by omega) hti; omega
        · rw [if_neg hl]
          refine .inr ⟨b, rfl, by omega, h3, fun i hi hti => ?_⟩
          by_cases e : i = k
          · subst e; omega
          · exact h4 i (by omega) hti

/-- Which are gone, and who has left, behind j rounds. -/
def popTo (xs ss : List Int) : Nat → List Int × List Int
  | 0 => (List.replicate xs.length 0, [])
  | j + 1 => ((popTo xs ss j).1.set (scanTo xs ss (popTo xs ss j).1 xs.length).toNat 1, (popTo xs ss j).2 ++ [xs.getD (scanTo xs ss (popTo xs ss j).1 xs.length).toNat 0])
def valPop (xs ss : List Int) : List Int × Int := if codeSt xs ss = 0 then ((popTo xs ss xs.length).2, 0) else ([], codeSt xs ss)
theorem popTo_len (xs ss : List Int) (j : Nat) : (popTo xs ss j).1.length = xs.length ∧ (popTo xs ss j).2.length = j := by
  induction j with
  | zero => exact ⟨List.length_replicate, rfl⟩
  | succ j ih => exact ⟨by simp only [popTo, List.length_set]; exact ih.1, by simp only [popTo, List.length_append, ih.2]; rfl⟩
theorem valPop_len (xs ss : List Int) : (valPop xs ss).1.length ≤ 1048576 := by
  unfold valPop
  split
  · rename_i h
    have := okOrder_len (codeSt_zero h).1
    rw [(popTo_len xs ss _).2]
    omega
  · simp

/-! ### piles -/
theorem filter_last (n : Nat) (p : Nat → Bool) (i : Nat) (hi : i < n) (hp : p i = true) (h : ∀ j, i < j → j < n → p j = false) : (List.range n).filter p = (List.range i).filter p ++ [i] := by
  induction n with
  | zero => omega
  | succ n ih =>
    rw [List.range_succ, List.filter_append]
    by_cases e : i = n
    · subst e; simp [hp]
    · rw [ih (by omega) (fun j h1 h2 => h j h1 (by omega))]
      simp [h n (by omega) (by omega)]
theorem filter_same (n : Nat) (p q : Nat → Bool) (h : ∀ j, j < n → p j = q j) : (List.range n).filter p = (List.range n).filter q :=
  List.filter_congr fun j hj => h j (List.mem_range.1 hj)
theorem last_there (n : Nat) (p : Nat → Bool) (h : ∃ i, i < n ∧ p i = true) : ∃ i, i < n ∧ p i = true ∧ ∀ j, i < j → j < n → p j = false := by
  induction n with
  | zero => obtain ⟨i, hi, _⟩ := h; omega
  | succ n ih =>
    cases hn : p n with
    | true => exact ⟨n, by omega, hn, fun j h1 h2 => by omega⟩
    | false =>
      obtain ⟨i, hi, hp⟩ := h
      have hin : i ≠ n := fun e => by rw [e, hn] at hp; cases hp
      obtain ⟨m, hm, hpm, hl⟩ := ih ⟨i, by omega, hp⟩
      exact ⟨m, by omega, hpm, fun j h1 h2 => by
        by_cases e : j = n
        · subst e; exact hn
        · exact hl j h1 (by omega)⟩

def onPile (ss gone : List Int) (k : Nat) (i : Nat) : Bool := (gone.getD i 0 == 0) && (ss.getD i 0 == (k : Int))
def pileTo (xs ss gone : List Int) (m k : Nat) : List Int := ((List.range m).filter (onPile ss gone k)).map fun i => xs.getD i 0
def pileF (xs ss gone : List Int) (k : Nat) : List Int := pileTo xs ss gone xs.length k
theorem pileTo_yes {xs ss gone : List Int} {m k : Nat} (h : onPile ss gone k m = true) : pileTo xs ss gone (m + 1) k = pileTo xs ss gone m k ++ [xs.getD m 0] := by
  simp [pileTo, List.range_succ, h]
theorem pileTo_no {xs ss gone : List Int} {m k : Nat} (h : onPile ss gone k m = false) : pileTo xs ss gone (m + 1) k = pileTo xs ss gone m k := by
  simp [pileTo, List.range_succ, h]
theorem pileTo_len (xs ss gone : List Int) (m k : Nat) : (pileTo xs ss gone m k).length ≤ m := by
  unfold pileTo
  rw [List.length_map]
  exact Nat.le_trans (List.length_filter_le _ _) (by simp)
def lastI (l : List Int) : Int := l.getD (l.length - 1) 0
theorem lastI_snoc (l : List Int) (x : Int) : lastI (l ++ [x]) = x := by simp [lastI, List.getD]

/-- The program's scan. -/
def bestTo (f : Nat → List Int) : Nat → Int
  | 0 => -1
  | k + 1 => if (f k).length = 0 then bestTo f k else if bestTo f k < 0 then k else if lastI (f k) < lastI (f (bestTo f k).toNat) then k else bestTo f k
theorem bestTo_spec (f : Nat → List Int) (k : Nat) : (bestTo f k = -1 ∧ ∀ i, i < k → f i = []) ∨
    ∃ b : Nat, bestTo f k = b ∧ b < k ∧ f b ≠ [] ∧ ∀ i, i < k → f i ≠ [] → lastI (f b) ≤ lastI (f i) := by
  induction k with
  | zero => exact .inl ⟨rfl, fun i h => absurd h (Nat.not_lt_zero _)⟩
  | succ k ih =>
    unfold bestTo
    by_cases he : f k = []
    · rw [if_pos (by rw [he]; rfl)]
      rcases ih with ⟨h1, h2⟩ | ⟨b, h1, h2, h3, h4⟩
      · refine .inl ⟨h1, fun i hi => ?_⟩
        by_cases e : i = k
        · subst e; exact he
        · exact h2 i (by omega)
      · refine .inr ⟨b, h1, by omega, h3, fun i hi hti => ?_⟩
        by_cases e : i = k
        · subst e; exact absurd he hti
        · exact h4 i (by omega) hti
    · rw [if_neg (fun e => he (List.length_eq_zero_iff.1 e))]
      rcases ih with ⟨h1, h2⟩ | ⟨b, h1, h2, h3, h4⟩
      · rw [if_pos (by rw [h1]; decide)]
        refine .inr ⟨k, rfl, by omega, he, fun i hi hti => ?_⟩
        by_cases e : i = k
        · subst e; exact Int.le_refl _
        · exact absurd (h2 i (by omega)) hti
      · rw [if_neg (by rw [h1]; omega), h1, Int.toNat_natCast]
        by_cases hl : lastI (f k) < lastI (f b)
        · rw [if_pos hl]
          refine .inr ⟨k, rfl, by omega, he, fun i hi hti => ?_⟩
          by_cases e : i = k
          · subst e; exact Int.le_refl _
          · have := h4 i (by omega) hti; omega
        · rw [if_neg hl]
          refine .inr ⟨b, rfl, by omega, h3, fun i hi hti => ?_⟩
          by_cases e : i = k
          · subst e; omega
          · exact h4 i (by omega) hti

/-- gone is a list of marks, one a place. -/
structure Marks01 (xs gone : List Int) : Prop where
  len : gone.length = xs.length
  two : ∀ i, gone.getD i 0 = 0 ∨ gone.getD i 0 = 1

theorem top_pile {xs ss gone : List Int} (hl : ss.length = xs.length) (hm : Marks01 xs gone) {i k : Nat} (hi : i < xs.length) (ht : topB ss gone i = true) (hk : ss.getD i 0 = (k : Int)) :
    pileF xs ss gone k = ((List.range i).filter (onPile ss gone k)).map (fun i => xs.getD i 0) ++ [xs.getD i 0] := by
  unfold topB at ht
  rw [Bool.not_eq_true', Bool.or_eq_false_iff] at ht
  obtain ⟨h1, h2⟩ := ht
  have h0 : gone.getD i 0 = 0 := by
    rcases hm.two i with h | h
    · exact h
    · rw [h] at h1; simp at h1
  unfold pileF pileTo
  rw [filter_last xs.length (onPile ss gone k) i hi (by unfold onPile; rw [h0, hk]; simp) (fun j hj hjn => ?_)]
  · simp
  · have := belowB_no h2 j hj (by omega)
    unfold freeB at this
    unfold onPile
    rw [hk] at this
    rw [Bool.and_comm]; exact this
theorem pile_top {xs ss gone : List Int} (hl : ss.length = xs.length) {k : Nat} (h : pileF xs ss gone k ≠ []) : ∃ i, i < xs.length ∧ topB ss gone i = true ∧ ss.getD i 0 = (k : Int) := by
  obtain ⟨x, hx⟩ := List.exists_mem_of_ne_nil _ h
  unfold pileF pileTo at hx
  obtain ⟨a, ha, rfl⟩ := List.mem_map.1 hx
  have hb := List.mem_filter.1 ha
  obtain ⟨i, hi, hp, hlast⟩ := last_there xs.length (onPile ss gone k) ⟨a, List.mem_range.1 hb.1, hb.2⟩
  have hp2 := hp
  simp only [onPile, Bool.and_eq_true, beq_iff_eq] at hp2
  refine ⟨i, hi, ?_, hp2.2⟩
  unfold topB
  rw [Bool.not_eq_true', Bool.or_eq_false_iff]
  refine ⟨by rw [hp2.1]; decide, belowB_false fun j hj hjn => ?_⟩
  have := hlast j hj (by omega)
  unfold onPile at this
  unfold freeB
  rw [hp2.2, Bool.and_comm]; exact this

/-- One round, of both sides. -/
theorem pop_round {xs ss gone : List Int} (hok : okOrder xs = true) (hl : ss.length = xs.length) (hs : ∀ x ∈ ss, 0 ≤ x ∧ x ≤ 39) (hm : Marks01 xs gone) (hex : ∃ i, i < xs.length ∧ gone.getD i 0 = 0) :
    ∃ b q : Nat, scanTo xs ss gone xs.length = b ∧ bestTo (pileF xs ss gone) 40 = q ∧ b < xs.length ∧ q < 40 ∧ gone.getD b 0 = 0 ∧ (pileF xs ss gone q) = (pileF xs ss gone q).dropLast ++ [xs.getD b 0] ∧
      ∀ k, pileF xs ss (gone.set b 1) k = if k = q then (pileF xs ss gone q).dropLast else pileF xs ss gone k := by
  have hst : ∀ i, i < xs.length → ∃ k : Nat, ss.getD i 0 = (k : Int) ∧ k < 40 := fun i hi => by
    have hm : ss.getD i 0 ∈ ss := by
      have : i < ss.length := by omega
      simp only [List.getD, List.getElem?_eq_getElem this, Option.getD_some]; exact List.getElem_mem this
    have := hs _ hm
    exact ⟨(ss.getD i 0).toNat, by omega, by omega⟩
  -- someone is on top
  obtain ⟨i0, hi0, hg0, hlast⟩ := last_there xs.length (fun i => gone.getD i 0 == 0) (by obtain ⟨i, h1, h2⟩ := hex; exact ⟨i, h1, by rw [h2]; rfl⟩)
  have ht0 : topB ss gone i0 = true := by
    unfold topB
    rw [Bool.not_eq_true', Bool.or_eq_false_iff]
    rw [beq_iff_eq] at hg0
    refine ⟨by rw [hg0]; decide, belowB_false fun k hk hkn => ?_⟩
    unfold freeB
    rw [hlast k hk (by omega), Bool.and_false]
  rcases scanTo_spec xs ss gone xs.length with ⟨_, h2⟩ | ⟨b, hb1, hb2, hb3, hb4⟩
  · rw [h2 i0 hi0] at ht0; cases ht0
  obtain ⟨kb, hkb, hkb40⟩ := hst b hb2
  have hpb := top_pile hl hm hb2 hb3 hkb
  rcases bestTo_spec (pileF xs ss gone) 40 with ⟨_, h2⟩ | ⟨q, hq1, hq2, hq3, hq4⟩
  · rw [h2 kb hkb40] at hpb; simp at hpb
  obtain ⟨j, hj1, hj2, hj3⟩ := pile_top hl hq3
  have hpj := top_pile hl hm hj1 hj2 hj3
  have e1 := hb4 j hj1 hj2
  have e2 := hq4 kb hkb40 (by rw [hpb]; simp)
  rw [hpb, hpj, lastI_snoc, lastI_snoc] at e2
  have hjb : j = b := by
    rcases Nat.lt_trichotomy j b with h | h | h
    · exact absurd (show xs.getD j 0 = xs.getD b 0 by omega) (order_inj hok hb2 h)
    · exact h
    · exact absurd (show xs.getD b 0 = xs.getD j 0 by omega) (order_inj hok hj1 h)
  subst hjb
  have hg : gone.getD j 0 = 0 := by
    unfold topB at hb3
    rw [Bool.not_eq_true', Bool.or_eq_false_iff] at hb3
    rcases hm.two j with h | h
    · exact h
    · rw [h] at hb3; simp at hb3
  have hset : ∀ i, (gone.set j 1).getD i 0 = if i = j then 1 else gone.getD i 0 := fun i => by
    simp only [List.getD, List.getElem?_set]
    by_cases e : i = j
    · subst e; simp [hm.len, hb2]
    · rw [if_neg (fun h => e h.symm), if_neg e]
  refine ⟨j, q, hb1, hq1, hb2, hq2, hg, by rw [hpj]; simp, fun k => ?_⟩
  by_cases hk : k = q
  · subst hk
    rw [if_pos rfl, hpj, List.dropLast_concat]
    unfold pileF pileTo
    congr 1
    have hno : ∀ i, j ≤ i → i < xs.length → onPile ss (gone.set j 1) k i = false := fun i h1 h2 => by
      unfold onPile
      rw [hset]
      by_cases e : i = j
      · rw [if_pos e]; rfl
      · rw [if_neg e]
        have ht := hj2
        unfold topB at ht
        rw [Bool.not_eq_true', Bool.or_eq_false_iff] at ht
        have := belowB_no ht.2 i (by omega) (by omega)
        unfold freeB at this
        rw [hj3] at this
        rw [Bool.and_comm]; exact this
    have hcut : ∀ n, j ≤ n → n ≤ xs.length → (List.range n).filter (onPile ss (gone.set j 1) k) = (List.range j).filter (onPile ss (gone.set j 1) k) := by
      intro n h1 h2
      induction n with
      | zero => obtain rfl : j = 0 := by omega
                rfl
      | succ n ih =>
        by_cases e : j = n + 1
        · rw [e]
        · rw [List.range_succ, List.filter_append, ih (by omega) (by omega)]
          simp [hno n (by omega) (by omega)]
    rw [hcut xs.length (by omega) (Nat.le_refl _)]
    refine filter_same j _ _ fun i hi => ?_
    unfold onPile
    rw [hset, if_neg (by omega)]
  · rw [if_neg hk]
    unfold pileF pileTo
    congr 1
    refine filter_same _ _ _ fun i hi => ?_
    unfold onPile
    rw [hset]
    by_cases e : i = j
    · subst e
      rw [if_pos rfl, hj3]
      have : ((q : Int) == (k : Int)) = false := by rw [beq_eq_false_iff_ne]; omega
      rw [this, Bool.and_false, Bool.and_false]
    · rw [if_neg e]

/-- The marks behind j rounds: j of them are set. -/
theorem popTo_marks {xs ss : List Int} (hok : okOrder xs = true) (hl : ss.length = xs.length) (hs : ∀ x ∈ ss, 0 ≤ x ∧ x ≤ 39) (j : Nat) (hj : j ≤ xs.length) :
    Marks01 xs (popTo xs ss j).1 ∧ sumI (popTo xs ss j).1 = j := by
  induction j with
  | zero =>
    refine ⟨⟨(popTo_len xs ss 0).1, fun i => .inl ?_⟩, ?_⟩
    · simp only [popTo, List.getD, List.getElem?_replicate]
      split <;> rfl
    · simp only [popTo]
      generalize xs.length = n
      induction n with
      | zero => rfl
      | succ n ih => rw [List.replicate_succ, sumI_cons, ih]; rfl
  | succ j ih =>
    obtain ⟨h1, h2⟩ := ih (by omega)
    have hex : ∃ i, i < xs.length ∧ (popTo xs ss j).1.getD i 0 = 0 := by
      refine Classical.byContradiction fun hno => ?_
      have hall : ∀ y ∈ (popTo xs ss j).1, y = 1 := fun y hy => by
        obtain ⟨i, hi, rfl⟩ := List.mem_iff_getElem.1 hy
        have := h1.two i
        rw [List.getD, List.getElem?_eq_getElem hi, Option.getD_some] at this
        rcases this with h | h
        · exact absurd ⟨i, by rw [← h1.len]; exact hi, by rw [List.getD, List.getElem?_eq_getElem hi, Option.getD_some]; exact h⟩ hno
        · exact h
      have hrep : (popTo xs ss j).1 = List.replicate xs.length 1 := by
        rw [← h1.len]; exact List.eq_replicate_iff.2 ⟨rfl, hall⟩
      rw [hrep] at h2
      have : ∀ n : Nat, sumI (List.replicate n 1) = n := fun n => by
        induction n with
        | zero => rfl
        | succ n ih => rw [List.replicate_succ, sumI_cons, ih]; omega
      rw [this] at h2
      omega
    obtain ⟨b, q, e1, _, hb, _, hg, _, _⟩ := pop_round hok hl hs h1 hex
    have hset : ∀ (l : List Int) (b : Nat), b < l.length → l.getD b 0 = 0 → sumI (l.set b 1) = sumI l + 1 := by
      intro l
      induction l with
      | nil => intro b hb; simp at hb
      | cons y ys ih =>
        intro b hb hz
        cases b with
        | zero => simp at hz; subst hz; rw [List.set_cons_zero, sumI_cons, sumI_cons]; omega
        | succ b =>
          rw [List.set_cons_succ, sumI_cons, sumI_cons, ih b (by simpa using hb) (by simpa using hz)]; omega
    have hp : (popTo xs ss (j + 1)).1 = (popTo xs ss j).1.set b 1 := by
      show (popTo xs ss j).1.set (scanTo xs ss (popTo xs ss j).1 xs.length).toNat 1 = _
      rw [e1, Int.toNat_natCast]
    rw [hp]
    refine ⟨⟨by rw [List.length_set]; exact h1.len, fun i => ?_⟩, by rw [hset _ b (by rw [h1.len]; exact hb) hg, h2]; omega⟩
    simp only [List.getD, List.getElem?_set]
    by_cases e : b = i
    · subst e
      rw [if_pos rfl]
      split
      · exact .inr rfl
      · exact .inl rfl
    · rw [if_neg e]; exact h1.two i
theorem popTo_free {xs ss : List Int} (hok : okOrder xs = true) (hl : ss.length = xs.length) (hs : ∀ x ∈ ss, 0 ≤ x ∧ x ≤ 39) (j : Nat) (hj : j < xs.length) : ∃ i, i < xs.length ∧ (popTo xs ss j).1.getD i 0 = 0 := by
  obtain ⟨h1, h2⟩ := popTo_marks hok hl hs j (by omega)
  refine Classical.byContradiction fun hno => ?_
  have hall : ∀ y ∈ (popTo xs ss j).1, y = 1 := fun y hy => by
    obtain ⟨i, hi, rfl⟩ := List.mem_iff_getElem.1 hy
    have := h1.two i
    rw [List.getD, List.getElem?_eq_getElem hi, Option.getD_some] at this
    rcases this with h | h
    · exact absurd ⟨i, by rw [← h1.len]; exact hi, by rw [List.getD, List.getElem?_eq_getElem hi, Option.getD_some]; exact h⟩ hno
    · exact h
  have hrep : (popTo xs ss j).1 = List.replicate xs.length 1 := by
    rw [← h1.len]; exact List.eq_replicate_iff.2 ⟨rfl, hall⟩
  rw [hrep] at h2
  have : ∀ n : Nat, sumI (List.replicate n 1) = n := fun n => by
    induction n with
    | zero => rfl
    | succ n ih => rw [List.replicate_succ, sumI_cons, ih]; omega
  rw [this] at h2
  omega
/-- The round that the piles and the reference take together. -/
theorem pop_step {xs ss : List Int} (hok : okOrder xs = true) (hl : ss.length = xs.length) (hs : ∀ x ∈ ss, 0 ≤ x ∧ x ≤ 39) (j : Nat) (hj : j < xs.length) :
    ∃ b q : Nat, scanTo xs ss (popTo xs ss j).1 xs.length = b ∧ bestTo (pileF xs ss (popTo xs ss j).1) 40 = q ∧ b < xs.length ∧ q < 40 ∧ popTo xs ss (j + 1) = ((popTo xs ss j).1.set b 1, (popTo xs ss j).2 ++ [xs.getD b 0]) ∧
      (pileF xs ss (popTo xs ss j).1 q) = (pileF xs ss (popTo xs ss j).1 q).dropLast ++ [xs.getD b 0] ∧
      ∀ k, pileF xs ss (popTo xs ss (j + 1)).1 k = if k = q then (pileF xs ss (popTo xs ss j).1 q).dropLast else pileF xs ss (popTo xs ss j).1 k := by
  obtain ⟨b, q, e1, e2, h3, h4, _, h6, h7⟩ := pop_round hok hl hs (popTo_marks hok hl hs j (by omega)).1 (popTo_free hok hl hs j hj)
  have hp : popTo xs ss (j + 1) = ((popTo xs ss j).1.set b 1, (popTo xs ss j).2 ++ [xs.getD b 0]) := by
    show ((popTo xs ss j).1.set (scanTo xs ss (popTo xs ss j).1 xs.length).toNat 1, (popTo xs ss j).2 ++ [xs.getD (scanTo xs ss (popTo xs ss j).1 xs.length).toNat 0]) = _
    rw [e1, Int.toNat_natCast]
  exact ⟨b, q, e1, e2, h3, h4, hp, h6, by rw [hp]; exact h7⟩

end Go.Proofs.Yteohfokchimfeaa
