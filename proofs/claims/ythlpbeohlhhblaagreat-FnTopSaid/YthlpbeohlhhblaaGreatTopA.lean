/-
  Plain notions of this claim over the model's worlds, with no program in sight: a slice of int64 that reads as a list (RI), one that lies in memory of the call's own (OI), and how both stand when memory grows.
-/
import Derived.WalkKit
import Derived.WalkLawsBesides
import Derived.WalkSpells
import Derived.ProofKit
import Derived.OpenShut
import Derived.Deep.QuietTactic
import Derived.BigQuiet
import Derived.Lib.Hide
import Derived.Deep.AppendLies
namespace Go.Proofs.YthlpbeohlhhblaaGreat
open Go.RowKit

/-- An int64. -/
def Good (x : Int) : Prop := -9223372036854775808 ≤ x ∧ x ≤ 9223372036854775807

/-- In w the slice value v reads as the int64s xs. -/
structure RI (w : World) (v : Value) (xs : List Int) : Prop where
  shp : ∃ a cap, v = .slice a xs.length cap ∧ xs.length ≤ cap ∧ cap ≤ maxLen ∧
    (xs = [] ∨ ∃ b off, a = some ⟨b, off, none⟩ ∧ b < w.heap.size ∧ ∀ j, j < xs.length → w.cell? ⟨b, off + j, none⟩ = some (.int .i64 (xs.getD j 0)))
  good : ∀ x ∈ xs, Good x

theorem RI.len {w : World} {v : Value} {xs : List Int} (h : RI w v xs) : xs.length ≤ 9223372036854775807 := by
  obtain ⟨⟨a, cap, _, h1, h2, _⟩, _⟩ := h
  unfold maxLen at h2; omega

theorem RI.getD {w : World} {v : Value} {xs : List Int} (h : RI w v xs) (j : Nat) : Good (xs.getD j 0) := by
  by_cases hj : j < xs.length
  · simp only [List.getD, List.getElem?_eq_getElem hj, Option.getD_some]; exact h.good _ (List.getElem_mem hj)
  · simp only [List.getD, List.getElem?_eq_none (by omega : xs.length ≤ j), Option.getD_none]; unfold Good; omega

/-- A reading stays where nothing that was there has turned. -/
theorem RI.below {w w' : World} {v : Value} {xs : List Int} (h : RI w v xs) (hb : Below w.heap.size w w') : RI w' v xs := by
  obtain ⟨⟨a, cap, rfl, h1, h2, h3⟩, hg⟩ := h
  refine ⟨⟨a, cap, rfl, h1, h2, ?_⟩, hg⟩
  rcases h3 with h3 | ⟨b, off, ha, hlt, hc⟩
  · exact .inl h3
  · exact .inr ⟨b, off, ha, Nat.lt_of_lt_of_le hlt hb.size, fun j hj => (hb.cell (p := ⟨b, off + j, none⟩) hlt).trans (hc j hj)⟩

theorem RI.nil (w : World) : RI w (.slice none 0 0) [] := ⟨⟨none, 0, rfl, Nat.le_refl _, Nat.zero_le _, .inl rfl⟩, by simp⟩

/-- The cells of a reading, one by one; and the value's form. -/
theorem RI.shape {w : World} {v : Value} {xs : List Int} (h : RI w v xs) : ∃ a cap, v = .slice a xs.length cap := by
  obtain ⟨⟨a, cap, rfl, _⟩, _⟩ := h
  exact ⟨a, cap, rfl⟩

theorem RI.cells {w : World} {a : Option Addr} {n cap : Nat} {xs : List Int} (h : RI w (.slice a n cap) xs) (hp : 0 < xs.length) :
    ∃ b off, a = some ⟨b, off, none⟩ ∧ b < w.heap.size ∧ ∀ j, j < xs.length → w.cell? ⟨b, off + j, none⟩ = some (.int .i64 (xs.getD j 0)) := by
  obtain ⟨⟨a', cap', e, _, _, h3⟩, _⟩ := h
  simp only [Value.slice.injEq] at e
  obtain ⟨rfl, rfl, rfl⟩ := e
  rcases h3 with h3 | h3
  · simp [h3] at hp
  · exact h3

/-! ### memory that the call owns -/
/-- v, in memory from block base on, holds the int64s xs; e is the element type's number. -/
def OI (e : TypeId) (w : World) (base : Nat) (v : Value) (xs : List Int) : Prop :=
  w.ownsRow base e 1 v xs.length (xs.map (Value.int .i64)) ∧ ∀ x ∈ xs, Good x

theorem OI.ri {e : TypeId} {w : World} {base : Nat} {v : Value} {xs : List Int} (h : OI e w base v xs) : RI w v xs := by
  obtain ⟨⟨hl, h | ⟨g, cap, cur, rfl, hb, hg, hn, hcm, hs, ht⟩⟩, hgood⟩ := h
  · obtain ⟨rfl, h0⟩ := h
    obtain rfl := List.length_eq_zero_iff.1 h0
    exact RI.nil w
  · refine ⟨⟨_, cap, rfl, hn, hcm, ?_⟩, hgood⟩
    by_cases h0 : xs = []
    · exact .inl h0
    · refine .inr ⟨g, 0, rfl, (Array.getElem?_eq_some_iff.1 hg).1, fun j hj => ?_⟩
      rw [Nat.zero_add, cell_of_row w g j cur e (0, 0) hg]
      have : (xs.map (Value.int .i64))[j]? = some (.int .i64 (xs.getD j 0)) := by simp [List.getD, List.getElem?_eq_getElem hj]
      rw [← ht, List.getElem?_take, if_pos (by omega)] at this
      simpa using this

theorem OI.nil (e : TypeId) (w : World) (base : Nat) : OI e w base (.slice none 0 0) [] := ⟨World.ownsRow_nil _ _ _ _, by simp⟩

/-- Its block lies from base on, and there. -/
theorem OI.lt {e : TypeId} {w : World} {base : Nat} {v : Value} {xs : List Int} (h : OI e w base v xs) : ∀ k, v.ownBlock = some k → base ≤ k ∧ k < w.heap.size := h.1.lt

theorem OI.below {e : TypeId} {w w' : World} {base : Nat} {v : Value} {xs : List Int} (h : OI e w base v xs) (hb : Below w.heap.size w w') : OI e w' base v xs := by
  refine ⟨⟨h.1.1, ?_⟩, h.2⟩
  rcases h.1.2 with h1 | ⟨g, cap, cur, rfl, hbg, hg, r⟩
  · exact .inl h1
  · exact .inr ⟨g, cap, cur, rfl, hbg, by rw [hb.block g (Array.getElem?_eq_some_iff.1 hg).1]; exact hg, r⟩

theorem OI.grown {e : TypeId} {w w' : World} {base : Nat} {v : Value} {xs : List Int} {row : Option Nat} (h : OI e w base v xs) (hg : w.grownBy w' row) (hne : v.ownBlock = none ∨ v.ownBlock ≠ row) : OI e w' base v xs :=
  ⟨h.1.kept hg hne, h.2⟩

theorem OI.mono {e : TypeId} {w : World} {base base' : Nat} {v : Value} {xs : List Int} (h : OI e w base v xs) (hb : base' ≤ base) : OI e w base' v xs := by
  refine ⟨⟨h.1.1, ?_⟩, h.2⟩
  rcases h.1.2 with h1 | ⟨g, cap, cur, rfl, hbg, r⟩
  · exact .inl h1
  · exact .inr ⟨g, cap, cur, rfl, Nat.le_trans hb hbg, r⟩

/-- A reading stays where only a row from another block on, or new memory, has turned. -/
theorem RI.grown {w w' : World} {v : Value} {xs : List Int} {row : Option Nat} (h : RI w v xs) (hg : w.grownBy w' row) (hne : ∀ k, row = some k → v.ownBlock ≠ some k) : RI w' v xs := by
  obtain ⟨⟨a, cap, rfl, h1, h2, h3⟩, hgd⟩ := h
  refine ⟨⟨a, cap, rfl, h1, h2, ?_⟩, hgd⟩
  rcases h3 with h3 | ⟨b, off, rfl, hlt, hc⟩
  · exact .inl h3
  · refine .inr ⟨b, off, rfl, Nat.lt_of_lt_of_le hlt hg.size, fun j hj => (World.cell?_of_block (hg.block b hlt ?_)).trans (hc j hj)⟩
    intro hr
    exact hne b hr.symm rfl

/-- What make([]int64, n) has laid. -/
theorem OI.made {e : TypeId} {w : World} {base n : Nat} {v : Value} (h : w.ownsRow base e 1 v n (madeCells (Value.int .i64 0).cells (n * 1)).toList) : OI e w base v (List.replicate n 0) := by
  simp only [Value.cells, Nat.mul_one, toList_madeCells_one] at h
  refine ⟨by simpa using h, fun x hx => ?_⟩
  obtain rfl := List.eq_of_mem_replicate hx
  unfold Good; omega

/-- Its value: nil, or the head of a row. -/
theorem OI.shape {e : TypeId} {w : World} {base : Nat} {v : Value} {xs : List Int} (h : OI e w base v xs) : (v = .slice none 0 0 ∧ xs = []) ∨ ∃ g cap, v = .slice (some ⟨g, 0, none⟩) xs.length cap ∧ base ≤ g ∧ g < w.heap.size := by
  rcases h.1.2 with ⟨h1, h0⟩ | ⟨g, cap, cur, rfl, hbg, hg, r⟩
  · exact .inl ⟨h1, List.length_eq_zero_iff.1 h0⟩
  · exact .inr ⟨g, cap, rfl, hbg, (Array.getElem?_eq_some_iff.1 hg).1⟩

/-- An element of it is there, and may be written. -/
theorem OI.cell {e : TypeId} {w : World} {base g n cap : Nat} {xs : List Int} (h : OI e w base (.slice (some ⟨g, 0, none⟩) n cap) xs) (k : Nat) (hk : k < xs.length) :
    w.cell? ⟨g, k, none⟩ = some (.int .i64 (xs.getD k 0)) ∧ w.frozen? ⟨g, k, none⟩ = false := by
  obtain ⟨⟨hl, h1⟩, _⟩ := h
  have hn : n = xs.length := by
    rcases h1 with ⟨h1, _⟩ | ⟨g', cap', cur, h1, _⟩
    · simp at h1
    · simp only [Value.slice.injEq] at h1; exact h1.2.1
  subst hn
  have h' : w.ownsRow base e 1 (.slice (some ⟨g, 0, none⟩) xs.length cap) xs.length (xs.map (Value.int .i64)) := ⟨hl, h1⟩
  exact ⟨by rw [h'.cellAt k (by omega)]; simp [List.getD, List.getElem?_eq_getElem hk], h'.frozenAt k⟩

/-- An element of it is written. -/
theorem OI.set {e : TypeId} {w : World} {base g n cap : Nat} {xs : List Int} (h : OI e w base (.slice (some ⟨g, 0, none⟩) n cap) xs) (k : Nat) (x : Int) (hx : Good x) :
    OI e (w.setCell ⟨g, k, none⟩ (.int .i64 x)) base (.slice (some ⟨g, 0, none⟩) n cap) (xs.set k x) ∧ w.grownBy (w.setCell ⟨g, k, none⟩ (.int .i64 x)) (some g) := by
  obtain ⟨⟨hl, h1⟩, hg⟩ := h
  have hn : n = xs.length := by
    rcases h1 with ⟨h1, _⟩ | ⟨g', cap', cur, h1, _⟩
    · simp at h1
    · simp only [Value.slice.injEq] at h1; exact h1.2.1
  subst hn
  have h' : w.ownsRow base e 1 (.slice (some ⟨g, 0, none⟩) xs.length cap) xs.length (xs.map (Value.int .i64)) := ⟨hl, h1⟩
  obtain ⟨a, b⟩ := h'.stored k (.int .i64 x)
  refine ⟨⟨?_, fun y hy => ?_⟩, b⟩
  · rw [List.map_set, List.length_set]; exact a
  · rcases List.mem_or_eq_of_mem_set hy with hy | rfl
    · exact hg y hy
    · exact hx

theorem set_fill (xs : List Int) (k n : Nat) (hn : n = xs.length) (hk : k < n) : (xs.take k ++ List.replicate (n - k) 0).set k (xs.getD k 0) = xs.take (k + 1) ++ List.replicate (n - (k + 1)) 0 := by
  subst hn
  apply List.ext_getElem?
  intro i
  rw [List.getElem?_set]
  by_cases hi : k = i
  · subst hi
    rw [if_pos rfl, if_pos (by simp; omega), List.getElem?_append_left (by simp; omega)]
    simp [List.getElem?_take, List.getD, List.getElem?_eq_getElem hk]
  · rw [if_neg hi]
    by_cases h1 : i < k
    · rw [List.getElem?_append_left (by simp; omega), List.getElem?_append_left (by simp; omega)]
      simp [List.getElem?_take, h1, Nat.lt_succ_of_lt h1]
    · rw [List.getElem?_append_right (by simp; omega), List.getElem?_append_right (by simp; omega)]
      simp only [List.length_take, List.getElem?_replicate]
      have e1 : min k xs.length = k := by omega
      have e2 : min (k + 1) xs.length = k + 1 := by omega
      rw [e1, e2]
      by_cases h2 : i < xs.length
      · rw [if_pos (by omega), if_pos (by omega)]
      · rw [if_neg (by omega), if_neg (by omega)]

theorem below_drewN {B : Nat} {a w : World} (h : Below B a w) (n : Nat) : Below B a (w.drewN n) := h.trans ⟨rfl, rfl, rfl, Nat.le_refl _, fun _ _ => rfl⟩
theorem below_drewN' (w : World) (n : Nat) : Below w.heap.size w (w.drewN n) := below_drewN (Below.refl _ _) n

theorem bcell {W w1 : World} (hb : Below W.heap.size W w1) : (∀ b o, b < W.heap.size → w1.cell? ⟨b, o, none⟩ = W.cell? ⟨b, o, none⟩) ∧ (∀ b o, b < W.heap.size → w1.frozen? ⟨b, o, none⟩ = W.frozen? ⟨b, o, none⟩) :=
  ⟨fun b o h => hb.cell (p := ⟨b, o, none⟩) h, fun b o h => hb.frozen (p := ⟨b, o, none⟩) h⟩

/-- Two calls one behind the other. -/
theorem bthen {w w1 w2 : World} (h : Below w.heap.size w w1) (h2 : Below w1.heap.size w1 w2) : Below w.heap.size w w2 := h.trans (h2.mono h.size)
theorem bthen0 {w w1 : World} (h : Below w.heap.size w w1) (n : Nat) : Below w.heap.size w (w1.drewN n) := below_drewN h n
theorem bgrown {w w1 w2 : World} (h : Below w.heap.size w w1) {row : Option Nat} (h2 : w1.grownBy w2 row) (hr : ∀ k, row = some k → w.heap.size ≤ k) : Below w.heap.size w w2 := h.grown h2 h.size hr

theorem cell_alloc2a (w : World) (x y : Value) (e e' : TypeId) : ((w.alloc (.cells #[x] e)).alloc (.cells #[y] e')).cell? ⟨w.heap.size, 0, none⟩ = some x := by
  rw [World.cell?_alloc_past _ _ _ (by simp), World.cell?_alloc_at _ _ _ _ rfl]; rfl
theorem cell_alloc2b (w : World) (x y : Value) (e e' : TypeId) : ((w.alloc (.cells #[x] e)).alloc (.cells #[y] e')).cell? ⟨w.heap.size + 1, 0, none⟩ = some y := by
  rw [World.cell?_alloc_at _ _ _ _ (by simp)]; rfl

theorem quiet_eq {P : Program} {f : FuncId} {args : Array Value} {w : World} {n : Nat} {v : Value}
    (h : Calls P f args (w.drewN n) fun e w' => e = .returned v ∧ w.drewN n = w') : Calls P f args (w.drewN n) fun e w'' => e = .returned v ∧ ∃ m, w'' = w.drewN m :=
  h.mono fun _ _ ⟨he, hm⟩ => ⟨he, n, hm.symm⟩

/-- []int64{} -/
theorem OI.lit0 (e : TypeId) (w : World) (base : Nat) (hb : base ≤ w.heap.size) : OI e (w.alloc (.cells #[] e)) base (.slice (some ⟨w.heap.size, 0, none⟩) 0 0) [] :=
  ⟨World.ownsRow_made w #[] 0 hb (Nat.zero_le _) rfl, by simp⟩

/-- append(out, n), out a list of the call's own: n has been laid into a block of one cell first. -/
theorem wpList_app1 {P : Program} {W : World} {ops : Array Oper} {rest : List Oper} {o : Oper} {a : Act} {Q : Exit → Act → World → Prop} (hgd : o.guard = none) (s x : Operand) (t : TypeId)
    (ho : o.op = .call { callee := .builtin .append, args := #[s, x], argTypes := #[t, t] }) (e e' : TypeId) (i : TypeInfo) (ht : P.underlying t = some (.slice e)) (hi : P.info? e = some i) (hz : i.zero = some (.int .i64 0)) (hsize : i.size = 1) (hby : i.bytes = 8)
    (base : Nat) (v : Value) (xs : List Int) (hs : a.eval s = v) (hown : OI e W base v xs) (n : Int) (hx : a.eval x = .slice (some ⟨W.heap.size, 0, none⟩) 1 1) (hn : Good n) (hlen : xs.length ≤ 1099511627776) (hbase : base ≤ W.heap.size)
    (hK : ∀ v' w', OI e w' base v' (xs ++ [n]) → W.grownBy w' v.ownBlock → wpList P ops Q rest (a.put o.dst v') w') : wpList P ops Q (o :: rest) a (W.alloc (.cells #[.int .i64 n] e')) := by
  refine wpList_append_own (W.alloc (.cells #[.int .i64 n] e')) hgd s x t ho base e i (.int .i64 0) 1 8 ht hi hz hsize hby rfl (by decide) v xs.length (xs.map (Value.int .i64)) hs (hown.1.alloc _) ⟨W.heap.size, 0, none⟩ 1 1 [.int .i64 n] hx rfl ?_ ?_ ?_ ?_ ?_ ?_
  · intro j u hj
    match j, hj with
    | 0, hj =>
      simp only [List.getElem?_cons_zero, Option.some.injEq] at hj
      subst hj
      simp only [Addr.add, if_true]
      rw [World.cell?_alloc_at _ _ _ _ rfl]; rfl
  · intro u hu; simp at hu; subst hu; rfl
  · unfold maxLen; omega
  · omega
  · simp; omega
  · intro v' w' h1 h2 _
    refine hK v' w' ⟨by simpa using h1, fun y hy => ?_⟩ ⟨h2.os, h2.tape, h2.output, Nat.le_trans (by simp) h2.size, fun k hk hne => (h2.block k (by simp; omega) hne).trans (Below.heap_alloc W _ k hk)⟩
    rcases List.mem_append.1 hy with hy | hy
    · exact hown.2 y hy
    · simp at hy; subst hy; exact hn

/-- The same, with the word where the new list lies: where it lay, or in new memory. -/
theorem wpList_app1n {P : Program} {W : World} {ops : Array Oper} {rest : List Oper} {o : Oper} {a : Act} {Q : Exit → Act → World → Prop} (hgd : o.guard = none) (s x : Operand) (t : TypeId)
    (ho : o.op = .call { callee := .builtin .append, args := #[s, x], argTypes := #[t, t] }) (e e' : TypeId) (i : TypeInfo) (ht : P.underlying t = some (.slice e)) (hi : P.info? e = some i) (hz : i.zero = some (.int .i64 0)) (hsize : i.size = 1) (hby : i.bytes = 8)
    (base : Nat) (v : Value) (xs : List Int) (hs : a.eval s = v) (hown : OI e W base v xs) (n : Int) (H : Nat) (hH : W.heap.size = H) (hx : a.eval x = .slice (some ⟨H, 0, none⟩) 1 1) (hn : Good n) (hlen : xs.length ≤ 1099511627776) (hbase : base ≤ W.heap.size)
    (hK : ∀ v' w', OI e w' base v' (xs ++ [n]) → W.grownBy w' v.ownBlock → (∀ k, v'.ownBlock = some k → v.ownBlock = some k ∨ W.heap.size ≤ k) → wpList P ops Q rest (a.put o.dst v') w') : wpList P ops Q (o :: rest) a (W.alloc (.cells #[.int .i64 n] e')) := by
  subst hH
  refine wpList_append_lies (W.alloc (.cells #[.int .i64 n] e')) hgd s x t ho base e i (.int .i64 0) 1 8 ht hi hz hsize hby rfl (by decide) v xs.length (xs.map (Value.int .i64)) hs (hown.1.alloc _) ⟨W.heap.size, 0, none⟩ 1 1 [.int .i64 n] hx rfl ?_ ?_ (by decide) ?_ ?_ ?_ _ rfl ?_
  · intro j u hj
    match j, hj with
    | 0, hj =>
      simp only [List.getElem?_cons_zero, Option.some.injEq] at hj
      subst hj
      simp only [Addr.add, if_true]
      rw [World.cell?_alloc_at _ _ _ _ rfl]; rfl
  · intro u hu; simp at hu; subst hu; rfl
  · unfold maxLen; omega
  · omega
  · simp; omega
  · intro g cap w' h1 h2 h3 _
    refine hK _ w' ⟨by simpa using h1, fun y hy => ?_⟩ ⟨h2.os, h2.tape, h2.output, Nat.le_trans (by simp) h2.size, fun k hk hne => (h2.block k (by simp; omega) hne).trans (Below.heap_alloc W _ k hk)⟩ (fun k hk => ?_)
    · rcases List.mem_append.1 hy with hy | hy
      · exact hown.2 y hy
      · simp at hy; subst hy; exact hn
    · simp only [Value.ownBlock, Option.some.injEq] at hk
      rcases h3 with h3 | h3
      · exact .inl (hk ▸ h3)
      · right; simp at h3; omega

/-- append(out, more...), out a list of the call's own, more any list that reads as one. -/
theorem wpList_appI {P : Program} {W : World} {ops : Array Oper} {rest : List Oper} {o : Oper} {a : Act} {Q : Exit → Act → World → Prop} (hgd : o.guard = none) (s x : Operand) (t : TypeId)
    (ho : o.op = .call { callee := .builtin .append, args := #[s, x], argTypes := #[t, t] }) (e : TypeId) (i : TypeInfo) (ht : P.underlying t = some (.slice e)) (hi : P.info? e = some i) (hz : i.zero = some (.int .i64 0)) (hsize : i.size = 1) (hby : i.bytes = 8)
    (base : Nat) (v : Value) (xs : List Int) (hs : a.eval s = v) (hown : OI e W base v xs) (u : Value) (ys : List Int) (hx : a.eval x = u) (hu : RI W u ys) (hlen : xs.length + ys.length ≤ 1099511627776) (hbase : base ≤ W.heap.size)
    (hK : ∀ v' w', OI e w' base v' (xs ++ ys) → W.grownBy w' v.ownBlock → wpList P ops Q rest (a.put o.dst v') w') : wpList P ops Q (o :: rest) a W := by
  obtain ⟨⟨au, cu, rfl, hc1, hc2, hcell⟩, hgood⟩ := hu
  have fin : ∀ v' w', w'.ownsRow base e 1 v' (xs.length + ys.length) (xs.map (Value.int .i64) ++ ys.map (Value.int .i64)) → OI e w' base v' (xs ++ ys) := fun v' w' h => by
    refine ⟨by simpa using h, fun y hy => ?_⟩
    rcases List.mem_append.1 hy with hy | hy
    · exact hown.2 y hy
    · exact hgood y hy
  cases au with
  | none =>
    have hy0 : ys = [] := by
      rcases hcell with h | ⟨b, off, h, _⟩
      · exact h
      · simp at h
    subst hy0
    have hrun := run_append_owned_none (P := P) W base t o.type e i 1 ht hi v xs.length _ hown.1
    refine wpList_plain hgd fun K hK' => ?_
    unfold Oper.wp
    by_cases hcu : cu = 0
    · subst hcu
      simp [execOp, ho, resolve, invoke, builtin, hs, hx, hrun, Result.andThen]
      exact hK' _ _ (hK v W (by simpa using hown) (World.grownBy.refl _ _))
    · have hrun2 : (Builtin.append_ #[t, t] o.type #[v, .slice none 0 cu]).run P W = .ok v W := by
        rcases hown.1.2 with ⟨rfl, _⟩ | ⟨g, cap, cur, rfl, _, _, hnc, _⟩
        · simp [Builtin.append_, run_underlying ht, sizeOf, typeInfo, hi, Builtin.lenOf, Builtin.firstCells]
        · simp [Builtin.append_, run_underlying ht, sizeOf, typeInfo, hi, Builtin.lenOf, Builtin.firstCells, hnc, storeCells]
      simp [execOp, ho, resolve, invoke, builtin, hs, hx, hrun2, Result.andThen]
      exact hK' _ _ (hK v W (by simpa using hown) (World.grownBy.refl _ _))
  | some ad =>
    refine wpList_append_own W hgd s x t ho base e i (.int .i64 0) 1 8 ht hi hz hsize hby rfl (by decide) v xs.length (xs.map (Value.int .i64)) hs hown.1 ad ys.length cu (ys.map (Value.int .i64)) hx (by simp) ?_ (ints_oneCell _ _) (by unfold maxLen; omega) (by omega) hbase (fun v' w' h1 h2 _ => hK v' w' (fin v' w' h1) h2)
    intro j u hj
    have hjl : j < ys.length := by
      have := (List.getElem?_eq_some_iff.1 hj).1
      simpa using this
    rcases hcell with h | ⟨b, off, h, _, hcc⟩
    · rw [h] at hjl; simp at hjl
    · simp only [Option.some.injEq] at h
      subst h
      rw [Addr.add_lit, hcc j hjl]
      rw [← hj]
      simp [List.getD, List.getElem?_eq_getElem hjl]

/-- []int64{n} -/
theorem OI.lit1 (e : TypeId) (w : World) (base : Nat) (n : Int) (hb : base ≤ w.heap.size) (hn : Good n) : OI e (w.alloc (.cells #[.int .i64 n] e)) base (.slice (some ⟨w.heap.size, 0, none⟩) 1 1) [n] :=
  ⟨World.ownsRow_lit w #[.int .i64 n] 1 hb (by decide) rfl, fun x hx => by simp at hx; subst hx; exact hn⟩

/-- Two lists of the call's own lie apart. -/
def Apart (v u : Value) : Prop := ∀ k, v.ownBlock = some k → u.ownBlock ≠ some k
theorem Apart.symm {v u : Value} (h : Apart v u) : Apart u v := fun k h1 h2 => h k h2 h1
/-- .. and stay so where one of them has grown. -/
theorem Apart.app {e : TypeId} {W : World} {base : Nat} {v v' u : Value} {ys : List Int} (h : Apart v u) (hu : OI e W base u ys) (hn : ∀ k, v'.ownBlock = some k → v.ownBlock = some k ∨ W.heap.size ≤ k) : Apart v' u := fun k h1 h2 => by
  rcases hn k h1 with h3 | h3
  · exact h k h3 h2
  · have := (hu.lt k h2).2; omega
theorem OI.other {e : TypeId} {w w' : World} {base : Nat} {v u : Value} {xs : List Int} (h : OI e w base v xs) (hg : w.grownBy w' u.ownBlock) (ha : Apart u v) : OI e w' base v xs := by
  refine h.grown hg ?_
  cases hv : v.ownBlock with
  | none => exact .inl rfl
  | some k => exact .inr (fun e => ha k e.symm hv)

/-- The same at a step of a region that draws its order, in whatever world. -/
theorem step_app1 {P : Program} {W : World} {ops : Array Oper} {o : Oper} {a : Act} {K : Act → World → Prop} {Q : Exit → Act → World → Prop} {E : Prop} (hgd : o.guard = none) (s x : Operand) (t : TypeId)
    (ho : o.op = .call { callee := .builtin .append, args := #[s, x], argTypes := #[t, t] }) (e : TypeId) (i : TypeInfo) (ht : P.underlying t = some (.slice e)) (hi : P.info? e = some i) (hz : i.zero = some (.int .i64 0)) (hsize : i.size = 1) (hby : i.bytes = 8)
    (base : Nat) (v : Value) (xs : List Int) (hs : a.eval s = v) (hown : OI e W base v xs) (ad : Addr) (n : Int) (hx : a.eval x = .slice (some ad) 1 1) (hc : W.cell? ad = some (.int .i64 n)) (hn : Good n) (hlen : xs.length ≤ 1099511627776) (hbase : base ≤ W.heap.size)
    (hK : ∀ v' w', OI e w' base v' (xs ++ [n]) → W.grownBy w' v.ownBlock → K (a.put o.dst v') w') : if Region.wanted o (yielded ops a.tmps) = true then Oper.wp P o a W K Q else E := by
  have hw : Region.wanted o (yielded ops a.tmps) = true := by simp [Region.wanted, hgd]
  rw [if_pos hw]
  refine wp_append_own W s x t ho base e i (.int .i64 0) 1 8 ht hi hz hsize hby rfl (by decide) v xs.length (xs.map (Value.int .i64)) hs hown.1 ad 1 1 [.int .i64 n] hx rfl ?_ ?_ ?_ ?_ hbase ?_
  · intro j u hj
    match j, hj with
    | 0, hj =>
      simp only [List.getElem?_cons_zero, Option.some.injEq] at hj
      subst hj
      simp only [Addr.add, if_true]; exact hc
  · intro u hu; simp at hu; subst hu; rfl
  · unfold maxLen; omega
  · omega
  · intro v' w' h1 h2 _
    refine hK v' w' ⟨by simpa using h1, fun y hy => ?_⟩ h2
    rcases List.mem_append.1 hy with hy | hy
    · exact hown.2 y hy
    · simp at hy; subst hy; exact hn

/-- What a write to a list of the call's own leaves. -/
theorem OI.step {e : TypeId} {w W w' : World} {v : Value} {xs : List Int} (h : OI e W w.heap.size v xs) (hb : Below w.heap.size w W) (hg : W.grownBy w' v.ownBlock) : Below w.heap.size w w' :=
  bgrown hb hg (fun k hk => (h.lt k hk).1)

/-- Two lists of the call's own that were made one behind the other lie apart. -/
theorem apart_lt {vx vy : Value} {a b c d : Nat} (hx : ∀ k, vx.ownBlock = some k → a ≤ k ∧ k < b) (hy : ∀ k, vy.ownBlock = some k → c ≤ k ∧ k < d) (h : b ≤ c) :
    (∀ k, vx.ownBlock = some k → vy.ownBlock ≠ some k) ∧ (∀ k, vy.ownBlock = some k → vx.ownBlock ≠ some k) :=
  ⟨fun k h1 h2 => by have := hx k h1; have := hy k h2; omega, fun k h1 h2 => by have := hy k h1; have := hx k h2; omega⟩

theorem OI.apart {e : TypeId} {w w' : World} {base : Nat} {v vx : Value} {xs : List Int} (h : OI e w base v xs) (hg : w.grownBy w' vx.ownBlock) (hne : ∀ k, vx.ownBlock = some k → v.ownBlock ≠ some k) : OI e w' base v xs := by
  refine h.grown hg ?_
  cases hv : v.ownBlock with
  | none => exact .inl rfl
  | some k => exact .inr (fun e => hne k e.symm hv)

theorem cell_new (w : World) (x : Value) (e : TypeId) : (w.alloc (.cells #[x] e)).drew.cell? ⟨w.heap.size, 0, none⟩ = some x := by
  show (w.alloc (.cells #[x] e)).cell? _ = _
  rw [World.cell?_alloc_at _ _ _ _ rfl]; rfl
theorem below_new (w : World) (o : Obj) : Below w.heap.size w (w.alloc o).drew := ((Below.refl _ _).alloc (Nat.le_refl _) _).drew

/-- A cell of an older block than a list of the call's own stays where that list is written. -/
theorem cell_older {e : TypeId} {w w' : World} {base : Nat} {v : Value} {xs : List Int} (h : OI e w base v xs) (hg : w.grownBy w' v.ownBlock) {b o : Nat} (hlt : b < w.heap.size) (hb : b < base) : w'.cell? ⟨b, o, none⟩ = w.cell? ⟨b, o, none⟩ :=
  World.cell?_of_block (hg.block b hlt (fun e => by have := (h.lt b e.symm).1; omega))

/-- Behind an append in a region that draws, with a block of the call's own at the heap's old end. -/
theorem after_app {e : TypeId} {w w1 w2 : World} {v : Value} {xs : List Int} {o : Obj} (hb01 : Below w.heap.size w w1) (hz1 : w.heap.size < w1.heap.size) (ho : OI e (w1.alloc o).drew (w.heap.size + 1) v xs)
    (hg : (w1.alloc o).drew.grownBy w2 v.ownBlock) : Below w.heap.size w w2 ∧ w.heap.size < w2.heap.size ∧ ∀ k, w2.cell? ⟨w.heap.size, k, none⟩ = w1.cell? ⟨w.heap.size, k, none⟩ := by
  have hb := bthen hb01 (below_new w1 o)
  refine ⟨bgrown hb hg (fun k hk => by have := (ho.lt k hk).1; omega), Nat.lt_of_lt_of_le hz1 (Nat.le_trans (below_new w1 o).size hg.size), fun k => ?_⟩
  rw [cell_older ho hg (Nat.lt_of_lt_of_le hz1 (below_new w1 o).size) (by omega)]
  exact (below_new w1 o).cell (p := ⟨w.heap.size, k, none⟩) hz1

/-- A block of the call's own, and an empty list behind it. -/
theorem made_start (w : World) (o : Obj) (e : TypeId) : Below w.heap.size w ((w.alloc o).alloc (.cells #[] e)).drew ∧
    (∀ k x, (w.alloc o).cell? ⟨w.heap.size, k, none⟩ = some x → ((w.alloc o).alloc (.cells #[] e)).drew.cell? ⟨w.heap.size, k, none⟩ = some x) ∧
    OI e ((w.alloc o).alloc (.cells #[] e)).drew (w.heap.size + 1) (.slice (some ⟨w.heap.size + 1, 0, none⟩) 0 0) [] := by
  refine ⟨(((Below.refl _ _).alloc (Nat.le_refl _) o).alloc (by simp) _).drew, fun k x h => ?_, ?_⟩
  · show ((w.alloc o).alloc (.cells #[] e)).cell? _ = _
    rw [World.cell?_alloc_past _ _ _ (by simp)]; exact h
  · have := OI.lit0 e (w.alloc o) (w.heap.size + 1) (by simp)
    have h2 := this.below (((Below.refl _ _).drew))
    simpa using h2

/-! ### lists -/
theorem take_snoc (xs : List Int) (k : Nat) (h : k < xs.length) : xs.take (k + 1) = xs.take k ++ [xs.getD k 0] := by
  rw [List.take_succ_eq_append_getElem h]; simp [List.getD, List.getElem?_eq_getElem h]

theorem ret_int {k : IntKind} {a b : Int} (h : a = b) : Ending.returned (.int k a) = .returned (.int k b) := by rw [h]
theorem ret_bool {a b : Bool} (h : a = b) : Ending.returned (.bool a) = .returned (.bool b) := by rw [h]

theorem ret_ii {a b c d : Int} (h : a = c) (h2 : b = d) : Ending.returned (.tuple #[.int .i64 a, .int .i64 b]) = .returned (.tuple #[.int .i64 c, .int .i64 d]) := by rw [h, h2]
theorem ret_iii {a b c d x y : Int} (h : a = c) (h2 : b = d) (h3 : x = y) : Ending.returned (.tuple #[.int .i64 a, .int .i64 b, .int .i64 x]) = .returned (.tuple #[.int .i64 c, .int .i64 d, .int .i64 y]) := by rw [h, h2, h3]
theorem ret_bi {a c : Bool} {b d : Int} (h : a = c) (h2 : b = d) : Ending.returned (.tuple #[.bool a, .int .i64 b]) = .returned (.tuple #[.bool c, .int .i64 d]) := by rw [h, h2]

/-- lo ≤ n ≤ hi. -/
def inB (lo hi : Int) (n : Int) : Bool := decide (lo ≤ n) && decide (n ≤ hi)

/-- A sum. -/
def sumI (xs : List Int) : Int := xs.foldl (· + ·) 0
theorem sumI_snoc (xs : List Int) (x : Int) : sumI (xs ++ [x]) = sumI xs + x := by simp [sumI]
theorem foldl_add (xs : List Int) (a : Int) : xs.foldl (· + ·) a = a + xs.foldl (· + ·) 0 := by
  induction xs generalizing a with
  | nil => simp
  | cons x xs ih => rw [List.foldl_cons, ih, List.foldl_cons, ih (0 + x)]; omega
theorem sumI_cons (x : Int) (xs : List Int) : sumI (x :: xs) = x + sumI xs := by
  unfold sumI; rw [List.foldl_cons, foldl_add]; omega
theorem sumI_append (xs ys : List Int) : sumI (xs ++ ys) = sumI xs + sumI ys := by
  unfold sumI; rw [List.foldl_append, foldl_add]
theorem sumI_bound (xs : List Int) (B : Int) (h : ∀ x ∈ xs, 0 ≤ x ∧ x ≤ B) : 0 ≤ sumI xs ∧ sumI xs ≤ xs.length * B := by
  induction xs with
  | nil => simp [sumI]
  | cons x xs ih =>
    have a := ih (fun y hy => h y (by simp [hy]))
    have b := h x (by simp)
    rw [sumI_cons, List.length_cons, Int.natCast_add, Int.add_mul]
    omega

/-- The numbers k, k + 1, .. -/
def marks (k n : Nat) : List Int := (List.range n).map fun i => ((k + i : Nat) : Int)
theorem marks_length (k n : Nat) : (marks k n).length = n := by simp [marks]
theorem marks_getD (k n i : Nat) (h : i < n) : (marks k n).getD i 0 = ((k + i : Nat) : Int) := by simp [marks, List.getD, h]

theorem marks_succ (k n : Nat) : marks k (n + 1) = marks k n ++ [((k + n : Nat) : Int)] := by simp [marks, List.range_succ]
theorem marks_set (xs : List Int) (k j : Nat) (hj : j < xs.length) : (marks k j ++ xs.drop j).set j ((k + j : Nat) : Int) = marks k (j + 1) ++ xs.drop (j + 1) := by
  rw [marks_succ, List.append_assoc, List.set_append_right _ _ (by simp [marks_length])]
  congr 1
  rw [marks_length, Nat.sub_self, List.drop_eq_getElem_cons hj, List.set_cons_zero]
  rfl

theorem grownBy_trans {a b c : World} {row : Option Nat} (h : a.grownBy b row) (k : b.grownBy c row) : a.grownBy c row :=
  ⟨k.os.trans h.os, k.tape.trans h.tape, k.output.trans h.output, Nat.le_trans h.size k.size, fun i hi hn => (k.block i (Nat.lt_of_lt_of_le hi h.size) hn).trans (h.block i hi hn)⟩

end Go.Proofs.YthlpbeohlhhblaaGreat
