/-
  A list of bools in memory of the call's own.
-/
import Derived.Test.YteohfokchimfeaaLib
namespace Go.Proofs.Yteohfokchimfeaa
open Go.RowKit

/-- v, in memory from block base on, holds the bools bs; e is the element type's number. -/
def OB (e : TypeId) (w : World) (base : Nat) (v : Value) (bs : List Bool) : Prop := w.ownsRow base e 1 v bs.length (bs.map Value.bool)

theorem OB.made {e : TypeId} {w : World} {base n : Nat} {v : Value} (h : w.ownsRow base e 1 v n (madeCells (Value.bool false).cells (n * 1)).toList) : OB e w base v (List.replicate n false) := by
  simp only [Value.cells, Nat.mul_one, toList_madeCells_one] at h
  unfold OB
  simpa using h

theorem OB.cell {e : TypeId} {w : World} {base g n cap : Nat} {bs : List Bool} (h : OB e w base (.slice (some ⟨g, 0, none⟩) n cap) bs) (k : Nat) (hk : k < bs.length) :
    w.cell? ⟨g, k, none⟩ = some (.bool (bs.getD k false)) ∧ w.frozen? ⟨g, k, none⟩ = false := by
  obtain ⟨hl, h1⟩ := h
  have hn : n = bs.length := by
    rcases h1 with ⟨h1, _⟩ | ⟨g', cap', cur, h1, _⟩
    · simp at h1
    · simp only [Value.slice.injEq] at h1; exact h1.2.1
  subst hn
  have h' : w.ownsRow base e 1 (.slice (some ⟨g, 0, none⟩) bs.length cap) bs.length (bs.map Value.bool) := ⟨hl, h1⟩
  exact ⟨by rw [h'.cellAt k (by omega)]; simp [List.getD, List.getElem?_eq_getElem hk], h'.frozenAt k⟩

theorem OB.set {e : TypeId} {w : World} {base g n cap : Nat} {bs : List Bool} (h : OB e w base (.slice (some ⟨g, 0, none⟩) n cap) bs) (k : Nat) (x : Bool) :
    OB e (w.setCell ⟨g, k, none⟩ (.bool x)) base (.slice (some ⟨g, 0, none⟩) n cap) (bs.set k x) ∧ w.grownBy (w.setCell ⟨g, k, none⟩ (.bool x)) (some g) := by
  obtain ⟨hl, h1⟩ := h
  have hn : n = bs.length := by
    rcases h1 with ⟨h1, _⟩ | ⟨g', cap', cur, h1, _⟩
    · simp at h1
    · simp only [Value.slice.injEq] at h1; exact h1.2.1
  subst hn
  have h' : w.ownsRow base e 1 (.slice (some ⟨g, 0, none⟩) bs.length cap) bs.length (bs.map Value.bool) := ⟨hl, h1⟩
  obtain ⟨a, b⟩ := h'.stored k (.bool x)
  refine ⟨?_, b⟩
  unfold OB
  rw [List.map_set, List.length_set]; exact a

theorem OB.below {e : TypeId} {w w' : World} {base : Nat} {v : Value} {bs : List Bool} (h : OB e w base v bs) (hb : Below w.heap.size w w') : OB e w' base v bs := by
  refine ⟨h.1, ?_⟩
  rcases h.2 with h1 | ⟨g, cap, cur, rfl, hbg, hg, r⟩
  · exact .inl h1
  · exact .inr ⟨g, cap, cur, rfl, hbg, by rw [hb.block g (Array.getElem?_eq_some_iff.1 hg).1]; exact hg, r⟩

theorem OB.grown {e : TypeId} {w w' : World} {base : Nat} {v : Value} {bs : List Bool} {row : Option Nat} (h : OB e w base v bs) (hg : w.grownBy w' row) (hne : v.ownBlock = none ∨ v.ownBlock ≠ row) : OB e w' base v bs := World.ownsRow.kept h hg hne
theorem OB.size {e : TypeId} {w : World} {base g n cap : Nat} {bs : List Bool} (h : OB e w base (.slice (some ⟨g, 0, none⟩) n cap) bs) : g < w.heap.size := by
  rcases h.2 with ⟨h1, _⟩ | ⟨g', cap', cur, h1, _, hg, _⟩
  · simp at h1
  · simp only [Value.slice.injEq, Option.some.injEq, Addr.mk.injEq] at h1
    rw [h1.1.1]; exact (Array.getElem?_eq_some_iff.1 hg).1

end Go.Proofs.Yteohfokchimfeaa
