/-
  Lists of records of three int64 fields: their cells, one by one. No program in sight.
-/
import Derived.Test.YtpgnndpjlcihiaaDoorRec
namespace Go.Proofs.YtpgnndpjlcihiaaDoor
open Go.RowKit

theorem SI.cells3 {w : World} {a : Option Addr} {n cap : Nat} {xs : List (Int × Int × Int)} (h : SI P3 w (.slice a n cap) xs) (hp : 0 < xs.length) :
    ∃ b off, a = some ⟨b, off, none⟩ ∧ b < w.heap.size ∧ ∀ i, i < xs.length → w.cell? ⟨b, off + i * 3, none⟩ = some (.int .i64 (xs.getD i (0, 0, 0)).1) ∧ w.cell? ⟨b, off + i * 3 + 1, none⟩ = some (.int .i64 (xs.getD i (0, 0, 0)).2.1) ∧ w.cell? ⟨b, off + i * 3 + 2, none⟩ = some (.int .i64 (xs.getD i (0, 0, 0)).2.2) := by
  obtain ⟨b, off, h1, h2, hc⟩ := h.cells hp
  exact ⟨b, off, h1, h2, fun i hi => ⟨hc i 0 hi (by decide), hc i 1 hi (by decide), hc i 2 hi (by decide)⟩⟩

theorem OS.cells3 {e : TypeId} {w : World} {base g n cap : Nat} {xs : List (Int × Int × Int)} (h : OS P3 e w base (.slice (some ⟨g, 0, none⟩) n cap) xs) (i : Nat) (hi : i < xs.length) :
    (w.cell? ⟨g, i * 3, none⟩ = some (.int .i64 (xs.getD i (0, 0, 0)).1) ∧ w.frozen? ⟨g, i * 3, none⟩ = false) ∧ (w.cell? ⟨g, i * 3 + 1, none⟩ = some (.int .i64 (xs.getD i (0, 0, 0)).2.1) ∧ w.frozen? ⟨g, i * 3 + 1, none⟩ = false) ∧ w.cell? ⟨g, i * 3 + 2, none⟩ = some (.int .i64 (xs.getD i (0, 0, 0)).2.2) ∧ w.frozen? ⟨g, i * 3 + 2, none⟩ = false :=
  ⟨h.cell i 0 hi (by decide), h.cell i 1 hi (by decide), h.cell i 2 hi (by decide)⟩

theorem SI.good3 {w : World} {v : Value} {xs : List (Int × Int × Int)} (h : SI P3 w v xs) (i : Nat) (hi : i < xs.length) : Good (xs.getD i (0, 0, 0)).1 ∧ Good (xs.getD i (0, 0, 0)).2.1 ∧ Good (xs.getD i (0, 0, 0)).2.2 :=
  ⟨h.getD i 0 hi (by decide), h.getD i 1 hi (by decide), h.getD i 2 hi (by decide)⟩

theorem flat3_cons (p : Int × Int × Int) (zs : List (Int × Int × Int)) : P3.flat (p :: zs) = p.1 :: p.2.1 :: p.2.2 :: P3.flat zs := rfl

theorem flat_set3 (xs : List (Int × Int × Int)) (i : Nat) (x y z : Int) : P3.flat (xs.set i (x, y, z)) = (((P3.flat xs).set (i * 3) x).set (i * 3 + 1) y).set (i * 3 + 2) z := by
  induction xs generalizing i with
  | nil => rfl
  | cons p xs ih =>
    cases i with
    | zero => rw [List.set_cons_zero, flat3_cons, flat3_cons]; rfl
    | succ i =>
      rw [List.set_cons_succ, flat3_cons, flat3_cons, ih, show (i + 1) * 3 = (i * 3 + 2) + 1 by omega]
      simp only [List.set_cons_succ]

theorem flat_get3 (xs : List (Int × Int × Int)) (i : Nat) (hi : i < xs.length) : (P3.flat xs)[i * 3]? = some (xs.getD i (0, 0, 0)).1 ∧ (P3.flat xs)[i * 3 + 1]? = some (xs.getD i (0, 0, 0)).2.1 ∧ (P3.flat xs)[i * 3 + 2]? = some (xs.getD i (0, 0, 0)).2.2 := by
  induction xs generalizing i with
  | nil => simp at hi
  | cons p xs ih =>
    rw [flat3_cons]
    cases i with
    | zero => exact ⟨rfl, rfl, rfl⟩
    | succ i =>
      have := ih i (by simpa using hi)
      rw [show (i + 1) * 3 = i * 3 + 1 + 1 + 1 by omega]
      simpa using this

/-- All fields of record i are written, one after another. -/
theorem OS.set3 {e : TypeId} {w : World} {base g n cap : Nat} {xs : List (Int × Int × Int)} (h : OS P3 e w base (.slice (some ⟨g, 0, none⟩) n cap) xs) (i : Nat) (hi : i < xs.length) (x y z : Int) (hx : Good x) (hy : Good y) (hz : Good z) :
    OS P3 e (((w.setCell ⟨g, i * 3, none⟩ (.int .i64 x)).setCell ⟨g, i * 3 + 1, none⟩ (.int .i64 y)).setCell ⟨g, i * 3 + 2, none⟩ (.int .i64 z)) base (.slice (some ⟨g, 0, none⟩) n cap) (xs.set i (x, y, z)) ∧ w.grownBy (((w.setCell ⟨g, i * 3, none⟩ (.int .i64 x)).setCell ⟨g, i * 3 + 1, none⟩ (.int .i64 y)).setCell ⟨g, i * 3 + 2, none⟩ (.int .i64 z)) (some g) := by
  obtain ⟨q1, q2, q3⟩ := flat_get3 xs i hi
  have hfl := Enc.flat_length (E := P3) xs
  have hm : P3.m = 3 := rfl
  rw [hm] at hfl
  have e1 : P3.flat (xs.set i (x, (xs.getD i (0, 0, 0)).2.1, (xs.getD i (0, 0, 0)).2.2)) = (P3.flat xs).set (i * 3) x := by
    rw [flat_set3]
    apply List.ext_getElem?
    intro k
    simp only [List.getElem?_set, List.length_set]
    by_cases h2 : i * 3 + 2 = k
    · rw [if_pos h2, if_pos (by omega), if_neg (by omega), ← h2, q3]
    · rw [if_neg h2]
      by_cases h1 : i * 3 + 1 = k
      · rw [if_pos h1, if_pos (by omega), if_neg (by omega), ← h1, q2]
      · rw [if_neg h1]
  have e2 : P3.flat (xs.set i (x, y, (xs.getD i (0, 0, 0)).2.2)) = ((P3.flat xs).set (i * 3) x).set (i * 3 + 1) y := by
    rw [flat_set3]
    apply List.ext_getElem?
    intro k
    simp only [List.getElem?_set, List.length_set]
    by_cases h2 : i * 3 + 2 = k
    · rw [if_pos h2, if_pos (by omega), if_neg (by omega), if_neg (by omega), ← h2, q3]
    · rw [if_neg h2]
  obtain ⟨a1, a2⟩ := h.set (ys := xs.set i (x, (xs.getD i (0, 0, 0)).2.1, (xs.getD i (0, 0, 0)).2.2)) (i * 3) x hx e1
  obtain ⟨b1, b2⟩ := a1.set (ys := xs.set i (x, y, (xs.getD i (0, 0, 0)).2.2)) (i * 3 + 1) y hy (by rw [e2, e1])
  obtain ⟨c1, c2⟩ := b1.set (ys := xs.set i (x, y, z)) (i * 3 + 2) z hz (by rw [flat_set3, e2])
  exact ⟨c1, grownBy_trans (grownBy_trans a2 b2) c2⟩

/-- What make([]T, n) has laid, of three fields. -/
theorem OS.made3 {e : TypeId} {w : World} {base n : Nat} {v : Value} (h : w.ownsRow base e 3 v n (madeCells (Value.agg #[.int .i64 0, .int .i64 0, .int .i64 0]).cells (n * 3)).toList) : OS P3 e w base v (List.replicate n (0, 0, 0)) := by
  have e1 : P3.flat (List.replicate n (0, 0, 0)) = List.replicate (n * 3) 0 := flat_zeros (E := P3) n
  refine ⟨?_, fun x hx => ?_⟩
  · rw [e1, List.length_replicate]
    have e2 : (madeCells (Value.agg #[.int .i64 0, .int .i64 0, .int .i64 0]).cells (n * 3)).toList = (List.replicate (n * 3) (0 : Int)).map (Value.int .i64) := by
      apply List.ext_getElem?
      intro k
      simp only [madeCells, Value.cells, List.map_replicate]
      by_cases hk : k < n * 3
      · rw [List.getElem?_replicate, if_pos hk]
        simp [hk]
        rcases (by omega : k % 3 = 0 ∨ k % 3 = 1 ∨ k % 3 = 2) with h | h | h <;> simp [h]
      · rw [List.getElem?_replicate, if_neg hk]
        simp; omega
    rw [← e2]; exact h
  · rw [e1] at hx
    obtain rfl := List.eq_of_mem_replicate hx
    unfold Good; omega

/-- The records (k, k + 1, k + 2), (k + 3, ..), .. -/
def marks3 (k n : Nat) : List (Int × Int × Int) := (List.range n).map fun i => (((k + 3 * i : Nat) : Int), ((k + 3 * i + 1 : Nat) : Int), ((k + 3 * i + 2 : Nat) : Int))
theorem marks3_length (k n : Nat) : (marks3 k n).length = n := by simp [marks3]
theorem marks3_getD (k n i : Nat) (h : i < n) : (marks3 k n).getD i (0, 0, 0) = (((k + 3 * i : Nat) : Int), ((k + 3 * i + 1 : Nat) : Int), ((k + 3 * i + 2 : Nat) : Int)) := by simp [marks3, List.getD, h]
theorem marks3_succ (k n : Nat) : marks3 k (n + 1) = marks3 k n ++ [(((k + 3 * n : Nat) : Int), ((k + 3 * n + 1 : Nat) : Int), ((k + 3 * n + 2 : Nat) : Int))] := by simp [marks3, List.range_succ]
theorem marks3_set (xs : List (Int × Int × Int)) (k j : Nat) (hj : j < xs.length) : (marks3 k j ++ xs.drop j).set j (((k + 3 * j : Nat) : Int), ((k + 3 * j + 1 : Nat) : Int), ((k + 3 * j + 2 : Nat) : Int)) = marks3 k (j + 1) ++ xs.drop (j + 1) := by
  rw [marks3_succ, List.append_assoc, List.set_append_right _ _ (by simp [marks3_length])]
  congr 1
  rw [marks3_length, Nat.sub_self, List.drop_eq_getElem_cons hj, List.set_cons_zero]
  rfl

end Go.Proofs.YtpgnndpjlcihiaaDoor
