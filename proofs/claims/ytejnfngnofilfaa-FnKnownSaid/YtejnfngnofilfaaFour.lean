/-
  Lists of records of four bools in memory of the call's own.
-/
import Derived.Test.YtejnfngnofilfaaSeenPlain
namespace Go.Proofs.Ytejnfngnofilfaa
open Go.RowKit

def f4 (s : B4) : List Bool := [s.1, s.2.1, s.2.2.1, s.2.2.2]
def flat4 (st : List B4) : List Bool := st.flatMap f4
theorem flat4_cons (s : B4) (st : List B4) : flat4 (s :: st) = s.1 :: s.2.1 :: s.2.2.1 :: s.2.2.2 :: flat4 st := by simp [flat4, f4]
theorem flat4_length (st : List B4) : (flat4 st).length = st.length * 4 := by
  induction st with
  | nil => rfl
  | cons s st ih => rw [flat4_cons]; simp only [List.length_cons, ih]; omega
theorem flat4_get (st : List B4) (i : Nat) (hi : i < st.length) : (flat4 st)[i * 4]? = some (st.getD i z4).1 ∧ (flat4 st)[i * 4 + 1]? = some (st.getD i z4).2.1 ∧ (flat4 st)[i * 4 + 2]? = some (st.getD i z4).2.2.1 ∧ (flat4 st)[i * 4 + 3]? = some (st.getD i z4).2.2.2 := by
  induction st generalizing i with
  | nil => simp at hi
  | cons s st ih =>
    rw [flat4_cons]
    cases i with
    | zero => exact ⟨rfl, rfl, rfl, rfl⟩
    | succ i =>
      have := ih i (by simpa using hi)
      rw [show (i + 1) * 4 = i * 4 + 1 + 1 + 1 + 1 by omega]
      simpa using this

/-- The side is marked as led to. -/
def led (s : B4) (one : Bool) : B4 := if one then (s.1, true, s.2.2.1, s.2.2.2) else (true, s.2.1, s.2.2.1, s.2.2.2)
/-- The side is marked as wrongly led to. -/
def aga (s : B4) (one : Bool) : B4 := if one then (s.1, s.2.1, s.2.2.1, true) else (s.1, s.2.1, true, s.2.2.2)
theorem hit_led (s : B4) (one : Bool) : hit s one false = led s one := by obtain ⟨a, b, c, e⟩ := s; cases one <;> simp [hit, led]
theorem hit_aga (s : B4) (one : Bool) : hit s one true = aga (led s one) one := by obtain ⟨a, b, c, e⟩ := s; cases one <;> simp [hit, led, aga]

theorem flat4_led (st : List B4) (i : Nat) (hi : i < st.length) (one : Bool) : flat4 (st.set i (led (st.getD i z4) one)) = (flat4 st).set (i * 4 + (if one then 1 else 0)) true := by
  induction st generalizing i with
  | nil => simp at hi
  | cons s st ih =>
    cases i with
    | zero => cases one <;> simp [flat4_cons, led]
    | succ i =>
      have := ih i (by simpa using hi)
      rw [List.set_cons_succ, flat4_cons, flat4_cons, List.getD_cons_succ, this, show (i + 1) * 4 + (if one then 1 else 0) = i * 4 + (if one then 1 else 0) + 1 + 1 + 1 + 1 by omega]
      simp
theorem flat4_aga (st : List B4) (i : Nat) (hi : i < st.length) (one : Bool) : flat4 (st.set i (aga (st.getD i z4) one)) = (flat4 st).set (i * 4 + 2 + (if one then 1 else 0)) true := by
  induction st generalizing i with
  | nil => simp at hi
  | cons s st ih =>
    cases i with
    | zero => cases one <;> simp [flat4_cons, aga]
    | succ i =>
      have := ih i (by simpa using hi)
      rw [List.set_cons_succ, flat4_cons, flat4_cons, List.getD_cons_succ, this, show (i + 1) * 4 + 2 + (if one then 1 else 0) = i * 4 + 2 + (if one then 1 else 0) + 1 + 1 + 1 + 1 by omega]
      simp

/-- v, in memory from block base on, holds the records st; e is the element type's number. -/
def O4 (e : TypeId) (w : World) (base : Nat) (v : Value) (st : List B4) : Prop := w.ownsRow base e 4 v st.length ((flat4 st).map Value.bool)

theorem O4.made {e : TypeId} {w : World} {base n : Nat} {v : Value} (h : w.ownsRow base e 4 v n (madeCells (Value.agg #[.bool false, .bool false, .bool false, .bool false]).cells (n * 4)).toList) : O4 e w base v (List.replicate n z4) := by
  have e1 : ∀ n, flat4 (List.replicate n z4) = List.replicate (n * 4) false := by
    intro n
    induction n with
    | zero => rfl
    | succ n ih => rw [List.replicate_succ, flat4_cons, ih, show (n + 1) * 4 = n * 4 + 1 + 1 + 1 + 1 by omega]; rfl
  have e2 : (madeCells (Value.agg #[.bool false, .bool false, .bool false, .bool false]).cells (n * 4)).toList = (List.replicate (n * 4) false).map Value.bool := by
    apply List.ext_getElem?
    intro k
    simp only [madeCells, Value.cells, List.map_replicate]
    by_cases hk : k < n * 4
    · rw [List.getElem?_replicate, if_pos hk]
      simp [hk]
      rcases (by omega : k % 4 = 0 ∨ k % 4 = 1 ∨ k % 4 = 2 ∨ k % 4 = 3) with h | h | h | h <;> simp [h]
    · rw [List.getElem?_replicate, if_neg hk]
      simp; omega
  unfold O4
  rw [e1, List.length_replicate, ← e2]; exact h

theorem O4.below {e : TypeId} {w w' : World} {base : Nat} {v : Value} {st : List B4} (h : O4 e w base v st) (hb : Below w.heap.size w w') : O4 e w' base v st := by
  refine ⟨h.1, ?_⟩
  rcases h.2 with h1 | ⟨g, cap, cur, rfl, hbg, hg, r⟩
  · exact .inl h1
  · exact .inr ⟨g, cap, cur, rfl, hbg, by rw [hb.block g (Array.getElem?_eq_some_iff.1 hg).1]; exact hg, r⟩
theorem O4.grown {e : TypeId} {w w' : World} {base : Nat} {v : Value} {st : List B4} {row : Option Nat} (h : O4 e w base v st) (hg : w.grownBy w' row) (hne : v.ownBlock = none ∨ v.ownBlock ≠ row) : O4 e w' base v st := World.ownsRow.kept h hg hne

section
variable {e : TypeId} {w : World} {base g n cap : Nat} {st : List B4}
theorem O4.len (h : O4 e w base (.slice (some ⟨g, 0, none⟩) n cap) st) : n = st.length := by
  rcases h.2 with ⟨h1, _⟩ | ⟨g', cap', cur, h1, _⟩
  · simp at h1
  · simp only [Value.slice.injEq] at h1; exact h1.2.1
theorem O4.size (h : O4 e w base (.slice (some ⟨g, 0, none⟩) n cap) st) : base ≤ g ∧ g < w.heap.size := by
  rcases h.2 with ⟨h1, _⟩ | ⟨g', cap', cur, h1, hb, hg, _⟩
  · simp at h1
  · simp only [Value.slice.injEq, Option.some.injEq, Addr.mk.injEq] at h1
    rw [h1.1.1]; exact ⟨hb, (Array.getElem?_eq_some_iff.1 hg).1⟩
theorem O4.cell (h : O4 e w base (.slice (some ⟨g, 0, none⟩) n cap) st) (i : Nat) (hi : i < st.length) :
    (w.cell? ⟨g, i * 4, none⟩ = some (.bool (st.getD i z4).1) ∧ w.cell? ⟨g, i * 4 + 1, none⟩ = some (.bool (st.getD i z4).2.1) ∧ w.cell? ⟨g, i * 4 + 2, none⟩ = some (.bool (st.getD i z4).2.2.1) ∧ w.cell? ⟨g, i * 4 + 3, none⟩ = some (.bool (st.getD i z4).2.2.2)) ∧ ∀ j, w.frozen? ⟨g, j, none⟩ = false := by
  obtain rfl := h.len
  have h' : w.ownsRow base e 4 (.slice (some ⟨g, 0, none⟩) st.length cap) st.length ((flat4 st).map Value.bool) := h
  obtain ⟨a, b, c, d⟩ := flat4_get st i hi
  refine ⟨⟨?_, ?_, ?_, ?_⟩, fun j => h'.frozenAt j⟩
  · rw [h'.cellAt _ (by omega), List.getElem?_map, a]; rfl
  · rw [h'.cellAt _ (by omega), List.getElem?_map, b]; rfl
  · rw [h'.cellAt _ (by omega), List.getElem?_map, c]; rfl
  · rw [h'.cellAt _ (by omega), List.getElem?_map, d]; rfl
theorem O4.set (h : O4 e w base (.slice (some ⟨g, 0, none⟩) n cap) st) (k : Nat) (x : Bool) (st' : List B4) (hs : flat4 st' = (flat4 st).set k x) :
    O4 e (w.setCell ⟨g, k, none⟩ (.bool x)) base (.slice (some ⟨g, 0, none⟩) n cap) st' ∧ w.grownBy (w.setCell ⟨g, k, none⟩ (.bool x)) (some g) := by
  obtain rfl := h.len
  have h' : w.ownsRow base e 4 (.slice (some ⟨g, 0, none⟩) st.length cap) st.length ((flat4 st).map Value.bool) := h
  obtain ⟨a, b⟩ := h'.stored k (.bool x)
  have hl : st'.length = st.length := by
    have h3 := congrArg List.length hs
    rw [List.length_set, flat4_length, flat4_length] at h3
    omega
  refine ⟨?_, b⟩
  unfold O4
  rw [hs, List.map_set, hl]; exact a
theorem O4.led (h : O4 e w base (.slice (some ⟨g, 0, none⟩) n cap) st) (i : Nat) (hi : i < st.length) (one : Bool) :
    O4 e (w.setCell ⟨g, i * 4 + (if one then 1 else 0), none⟩ (.bool true)) base (.slice (some ⟨g, 0, none⟩) n cap) (st.set i (led (st.getD i z4) one)) ∧ w.grownBy (w.setCell ⟨g, i * 4 + (if one then 1 else 0), none⟩ (.bool true)) (some g) :=
  h.set _ _ _ (flat4_led st i hi one)
theorem O4.aga (h : O4 e w base (.slice (some ⟨g, 0, none⟩) n cap) st) (i : Nat) (hi : i < st.length) (one : Bool) :
    O4 e (w.setCell ⟨g, i * 4 + 2 + (if one then 1 else 0), none⟩ (.bool true)) base (.slice (some ⟨g, 0, none⟩) n cap) (st.set i (aga (st.getD i z4) one)) ∧ w.grownBy (w.setCell ⟨g, i * 4 + 2 + (if one then 1 else 0), none⟩ (.bool true)) (some g) :=
  h.set _ _ _ (flat4_aga st i hi one)
end

end Go.Proofs.Ytejnfngnofilfaa
