/-
  A square table (a list of lists of int64) in memory of the call's own.
-/
import Derived.Test.YtpgnndpjlcihiaaDoorLock
import Derived.Test.YtpgnndpjlcihiaaDoorLib
namespace Go.Proofs.YtpgnndpjlcihiaaDoor
open Go.RowKit

/-- One row of a table. -/
def rowL (f : Nat → Nat → Int) (n i : Nat) : List Int := (List.range n).map (f i)
theorem rowL_length (f : Nat → Nat → Int) (n i : Nat) : (rowL f n i).length = n := by simp [rowL]
theorem rowL_getD (f : Nat → Nat → Int) (n i k : Nat) (h : k < n) : (rowL f n i).getD k 0 = f i k := by simp [rowL, List.getD, h]
theorem rowL_upd (f : Nat → Nat → Int) (n i k : Nat) (x : Int) (h : k < n) : (rowL f n i).set k x = rowL (upd f i k x) n i := by
  apply List.ext_getElem?
  intro j
  rw [List.getElem?_set]
  by_cases e : k = j
  · subst e
    rw [if_pos rfl, if_pos (by rw [rowL_length]; exact h)]
    simp [rowL, h, upd]
  · rw [if_neg e]
    by_cases hj : j < n
    · simp [rowL, hj, upd, show ¬ j = k from fun e2 => e e2.symm]
    · simp [rowL, hj]
theorem rowL_other (f : Nat → Nat → Int) (n i k : Nat) (x : Int) (j : Nat) (h : j ≠ i) : rowL (upd f i k x) n j = rowL f n j := by
  unfold rowL
  apply List.map_congr_left
  intro b _
  exact upd_else f i k x j b (fun e => h e.1)

/-- In w, v is a table of n rows of n numbers f, all in memory from block base on; e is the number of the type int64. -/
structure TB (e : TypeId) (w : World) (base : Nat) (v : Value) (n : Nat) (f : Nat → Nat → Int) : Prop where
  ex : ∃ (G capG : Nat) (g c : Nat → Nat), v = .slice (some ⟨G, 0, none⟩) n capG ∧ base ≤ G ∧ G < w.heap.size ∧ (∀ i, i < n → w.cell? ⟨G, i, none⟩ = some (.slice (some ⟨g i, 0, none⟩) n (c i))) ∧
    (∀ i, i < n → OI e w base (.slice (some ⟨g i, 0, none⟩) n (c i)) (rowL f n i)) ∧ (∀ i j, i < n → j < n → i ≠ j → g i ≠ g j) ∧ (∀ i, i < n → g i ≠ G)

/-- The same with its places told. -/
def TBat (e : TypeId) (w : World) (base : Nat) (G : Nat) (g c : Nat → Nat) (n : Nat) (f : Nat → Nat → Int) : Prop :=
  base ≤ G ∧ G < w.heap.size ∧ (∀ i, i < n → w.cell? ⟨G, i, none⟩ = some (.slice (some ⟨g i, 0, none⟩) n (c i))) ∧
    (∀ i, i < n → OI e w base (.slice (some ⟨g i, 0, none⟩) n (c i)) (rowL f n i)) ∧ (∀ i j, i < n → j < n → i ≠ j → g i ≠ g j) ∧ (∀ i, i < n → g i ≠ G)

section
variable {e : TypeId} {w w' : World} {base G n : Nat} {g c : Nat → Nat} {f : Nat → Nat → Int}

theorem TBat.below (h : TBat e w base G g c n f) (hb : Below w.heap.size w w') : TBat e w' base G g c n f := by
  obtain ⟨h1, h2, h3, h4, h5, h6⟩ := h
  exact ⟨h1, Nat.lt_of_lt_of_le h2 hb.size, fun i hi => (hb.cell (p := ⟨G, i, none⟩) h2).trans (h3 i hi), fun i hi => (h4 i hi).below hb, h5, h6⟩
/-- A row's place, and one of its numbers. -/
theorem TBat.cell (h : TBat e w base G g c n f) (i k : Nat) (hi : i < n) (hk : k < n) :
    w.cell? ⟨G, i, none⟩ = some (.slice (some ⟨g i, 0, none⟩) n (c i)) ∧ w.cell? ⟨g i, k, none⟩ = some (.int .i64 (f i k)) ∧ w.frozen? ⟨g i, k, none⟩ = false := by
  obtain ⟨h1, h2, h3, h4, h5, h6⟩ := h
  obtain ⟨q1, q2⟩ := (h4 i hi).cell k (by rw [rowL_length]; exact hk)
  rw [rowL_getD f n i k hk] at q1
  exact ⟨h3 i hi, q1, q2⟩
theorem TBat.base_le (h : TBat e w base G g c n f) (i : Nat) (hi : i < n) : base ≤ g i ∧ g i < w.heap.size := (h.2.2.2.1 i hi).lt (g i) rfl
/-- One number is written. -/
theorem TBat.set (h : TBat e w base G g c n f) (i k : Nat) (hi : i < n) (hk : k < n) (x : Int) (hx : Good x) :
    TBat e (w.setCell ⟨g i, k, none⟩ (.int .i64 x)) base G g c n (upd f i k x) ∧ w.grownBy (w.setCell ⟨g i, k, none⟩ (.int .i64 x)) (some (g i)) := by
  obtain ⟨h1, h2, h3, h4, h5, h6⟩ := h
  obtain ⟨a1, a2⟩ := (h4 i hi).set k x hx
  rw [rowL_upd f n i k x hk] at a1
  refine ⟨⟨h1, Nat.lt_of_lt_of_le h2 a2.size, fun j hj => ?_, fun j hj => ?_, h5, h6⟩, a2⟩
  · exact (World.cell?_of_block (a2.block G h2 (fun e => h6 i hi (by simpa using e.symm)))).trans (h3 j hj)
  · by_cases e : j = i
    · subst e; exact a1
    · rw [rowL_other f n i k x j e]
      exact (h4 j hj).grown a2 (.inr (by simp only [Value.ownBlock]; exact fun e2 => h5 j i hj hi e (by simpa using e2)))
theorem TBat.good (h : TBat e w base G g c n f) (i k : Nat) (hi : i < n) (hk : k < n) : Good (f i k) := by
  have := (h.2.2.2.1 i hi).2 (f i k) (by unfold rowL; exact List.mem_map.2 ⟨k, List.mem_range.2 hk, rfl⟩)
  exact this
theorem TBat.mono {base' : Nat} (h : TBat e w base G g c n f) (hb : base' ≤ base) : TBat e w base' G g c n f := by
  obtain ⟨h1, h2, h3, h4, h5, h6⟩ := h
  exact ⟨Nat.le_trans hb h1, h2, h3, fun i hi => (h4 i hi).mono hb, h5, h6⟩
end

/-- The first k rows of a table that is being made; t is the number of the type []int64. -/
def TBto (e t : TypeId) (w : World) (base : Nat) (v : Value) (n k : Nat) (f : Nat → Nat → Int) : Prop :=
  ∃ g c : Nat → Nat, w.ownsRow base t 1 v k ((List.range k).map fun i => Value.slice (some ⟨g i, 0, none⟩) n (c i)) ∧
    (∀ i, i < k → OI e w base (.slice (some ⟨g i, 0, none⟩) n (c i)) (rowL f n i)) ∧ (∀ i j, i < k → j < k → i ≠ j → g i ≠ g j) ∧ (∀ i, i < k → v.ownBlock ≠ some (g i))

theorem TBto.done {e t : TypeId} {w : World} {base : Nat} {v : Value} {n : Nat} {f : Nat → Nat → Int} (h : TBto e t w base v n n f) (hn : 0 < n) : ∃ G capG g c, v = .slice (some ⟨G, 0, none⟩) n capG ∧ TBat e w base G g c n f := by
  obtain ⟨g, c, h1, h2, h3, h4⟩ := h
  rcases h1.2 with ⟨_, h0⟩ | ⟨G, cap, cur, rfl, hb, hg, r⟩
  · omega
  · have h1' : w.ownsRow base t 1 (.slice (some ⟨G, 0, none⟩) n cap) n ((List.range n).map fun i => Value.slice (some ⟨g i, 0, none⟩) n (c i)) := h1
    refine ⟨G, cap, g, c, rfl, hb, (Array.getElem?_eq_some_iff.1 hg).1, fun i hi => ?_, h2, h3, fun i hi e => h4 i hi (by simp [Value.ownBlock, e])⟩
    rw [h1'.cellAt i (by omega)]
    simp [hi]

end Go.Proofs.YtpgnndpjlcihiaaDoor
