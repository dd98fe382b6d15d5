/-
  How often all carriers must pass an exit, in plain Lean. No program in sight.
-/
import Derived.Test.YteohfokchimfeaaAssign
import Derived.Test.YteohfokchimfeaaSlices
import Derived.Test.YteohfokchimfeaaPigeon
namespace Go.Proofs.Yteohfokchimfeaa
open Go.RowKit

theorem order_inj {xs : List Int} (h : okOrder xs = true) {i j : Nat} (hi : i < xs.length) (hj : j < i) : xs.getD j 0 ≠ xs.getD i 0 := by
  intro e
  have := (okOrder_at h i hi).2
  refine this ?_
  rw [← e, List.mem_take_iff_getElem]
  exact ⟨j, by omega, by simp [List.getD, show j < xs.length by omega]⟩
theorem order_all {xs : List Int} (h : okOrder xs = true) {k : Nat} (hk : k < xs.length) : ∃ i, i < xs.length ∧ xs.getD i 0 = k := by
  have hg : ∀ i (hi : i < xs.length), xs.getD i 0 = xs[i] := fun i hi => by simp [List.getD, hi]
  have hb : ∀ x ∈ xs, 0 ≤ x ∧ x ≤ xs.length - 1 := fun x hx => by
    obtain ⟨i, hi, rfl⟩ := List.getElem_of_mem hx
    have := (okOrder_at h i hi).1
    rw [hg i hi] at this; exact this
  have hn : (xs.map Int.toNat).Nodup := by
    show List.Pairwise (· ≠ ·) (xs.map Int.toNat)
    rw [List.pairwise_iff_getElem]
    intro i j hi hj hij
    rw [List.length_map] at hi hj
    have h1 := order_inj h hj hij
    rw [hg i hi, hg j hj] at h1
    have h2 := hb xs[i] (List.getElem_mem _)
    have h3 := hb xs[j] (List.getElem_mem _)
    simp only [List.getElem_map]
    omega
  have hm := nodup_all xs.length (xs.map Int.toNat) hn (fun x hx => by
    obtain ⟨y, hy, rfl⟩ := List.mem_map.1 hx
    have := hb y hy; omega) (by simp) k hk
  obtain ⟨y, hy, hk2⟩ := List.mem_map.1 hm
  obtain ⟨i, hi, rfl⟩ := List.getElem_of_mem hy
  refine ⟨i, hi, ?_⟩
  rw [hg i hi]
  have := hb xs[i] (List.getElem_mem _)
  omega

/-- The place of a number. -/
def pos (xs : List Int) (n : Int) : Int := idxI (fun x => x == n) xs
theorem pos_at {xs : List Int} (h : okOrder xs = true) {i : Nat} (hi : i < xs.length) : pos xs (xs.getD i 0) = i :=
  idxI_hit _ xs i hi (by simp) (fun j hj => by simpa using order_inj h hi hj)
theorem pos_all {xs : List Int} (h : okOrder xs = true) {k : Nat} (hk : k < xs.length) : 0 ≤ pos xs k ∧ pos xs k < xs.length := by
  obtain ⟨i, hi, e⟩ := order_all h hk
  rw [← e, pos_at h hi]; omega
theorem pos_ne {xs : List Int} (h : okOrder xs = true) {k i : Nat} (hk : k < xs.length) (hi : i < xs.length) (hne : xs.getD i 0 ≠ k) : pos xs k ≠ i := by
  obtain ⟨j, hj, e⟩ := order_all h hk
  rw [← e, pos_at h hj]
  intro e2
  have : j = i := by omega
  subst this
  exact hne e

/-- The place of the number before, or behind all places. -/
def prev (xs : List Int) (k : Nat) : Int := if k = 0 then xs.length else pos xs ((k - 1 : Nat) : Int)
/-- The rounds in which the first numbers leave. -/
def rd (xs : List Int) : Nat → Int
  | 0 => 0
  | k + 1 => rd xs k + (if pos xs k < prev xs k then 1 else 0)
theorem rd_bound (xs : List Int) (k : Nat) : 0 ≤ rd xs k ∧ rd xs k ≤ k := by
  induction k with
  | zero => simp [rd]
  | succ k ih => simp only [rd]; split <;> omega
def valRounds (xs : List Int) : Int × Int := if okOrder xs then (rd xs xs.length, 0) else (0, 1)

/-- What holds within a round that began at number m, at place i, with number q to come. -/
def inRound (xs : List Int) (m i q : Nat) : Prop :=
  m ≤ q ∧ q ≤ xs.length ∧ (m < q → rd xs q = rd xs m + 1 ∧ pos xs ((q - 1 : Nat) : Int) < i) ∧ (q < xs.length → (i : Int) ≤ pos xs q ∨ (m < q ∧ pos xs q < pos xs ((q - 1 : Nat) : Int)))
theorem inRound_start {xs : List Int} (h : okOrder xs = true) {m : Nat} (hm : m < xs.length) : inRound xs m 0 m :=
  ⟨Nat.le_refl _, by omega, fun h => absurd h (Nat.lt_irrefl _), fun _ => .inl (by have := (pos_all h hm).1; omega)⟩
theorem inRound_hit {xs : List Int} (h : okOrder xs = true) {m i q : Nat} (hm : pos xs m < prev xs m) (hi : i < xs.length) (hr : inRound xs m i q) (he : xs.getD i 0 = q) : inRound xs m (i + 1) (q + 1) := by
  obtain ⟨h1, h2, h3, h4⟩ := hr
  have hpos : pos xs q = i := by rw [← he]; exact pos_at h hi
  have hq : q < xs.length := by have := (okOrder_at h i hi).1; omega
  refine ⟨by omega, by omega, fun _ => ⟨?_, ?_⟩, fun hq1 => ?_⟩
  · by_cases e : m = q
    · subst e; simp only [rd, if_pos hm]
    · obtain ⟨h5, h6⟩ := h3 (by omega)
      simp only [rd]
      rw [if_neg, h5]
      · omega
      · unfold prev; rw [if_neg (by omega), hpos]; omega
  · rw [show q + 1 - 1 = q by omega, hpos]; omega
  · rw [show q + 1 - 1 = q by omega]
    have hne := pos_ne h hq1 hi (by rw [he]; omega)
    rw [hpos]
    omega
theorem inRound_miss {xs : List Int} (h : okOrder xs = true) {m i q : Nat} (hi : i < xs.length) (hr : inRound xs m i q) (he : xs.getD i 0 ≠ q) : inRound xs m (i + 1) q := by
  obtain ⟨h1, h2, h3, h4⟩ := hr
  refine ⟨h1, h2, fun hm => ⟨(h3 hm).1, by have := (h3 hm).2; omega⟩, fun hq => ?_⟩
  have hne := pos_ne h hq hi he
  rcases h4 hq with h5 | h5
  · left; omega
  · exact .inr h5
theorem inRound_end {xs : List Int} (h : okOrder xs = true) {m q : Nat} (hm : m < xs.length) (hr : inRound xs m xs.length q) : m < q ∧ rd xs q = rd xs m + 1 ∧ (q = xs.length ∨ pos xs q < prev xs q) := by
  obtain ⟨h1, h2, h3, h4⟩ := hr
  have hmq : m < q := by
    refine Classical.byContradiction fun hc => ?_
    have e : m = q := by omega
    subst e
    have hp := pos_all h hm
    rcases h4 hm with h5 | h5
    · omega
    · omega
  refine ⟨hmq, (h3 hmq).1, ?_⟩
  by_cases hq : q = xs.length
  · exact .inl hq
  · right
    have hp := pos_all h (show q < xs.length by omega)
    unfold prev
    rw [if_neg (by omega)]
    rcases h4 (by omega) with h5 | h5
    · omega
    · exact h5.2

end Go.Proofs.Yteohfokchimfeaa
