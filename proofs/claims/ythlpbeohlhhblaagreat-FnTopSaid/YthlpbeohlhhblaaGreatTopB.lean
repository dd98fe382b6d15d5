/-
  Lists of records whose fields are all int64, in the model's worlds: a slice that reads as such a list (SI), one that lies in memory of the call's own (OS). No program in sight.
  Lists of records whose fields are any values of one cell each, in the model's worlds: a slice that reads as such a list (SV), one that lies in memory of the call's own (OV). No program in sight.
-/
import Derived.Test.YthlpbeohlhhblaaGreatTopA
namespace Go.Proofs.YthlpbeohlhhblaaGreat
open Go.RowKit

/-- A kind of record: m fields. -/
structure Enc (α : Type) where
  m : Nat
  f : α → List Int
  z : α
  len : ∀ x, (f x).length = m
  pos : 0 < m
  zero : f z = List.replicate m 0
  inj : ∀ x y, f x = f y → x = y

/-- Records of two fields. -/
def P2 : Enc (Int × Int) := ⟨2, fun p => [p.1, p.2], (0, 0), fun _ => rfl, by decide, rfl, fun x y h => by simp at h; exact Prod.ext h.1 h.2⟩
/-- Records of three fields. -/
def P3 : Enc (Int × Int × Int) := ⟨3, fun p => [p.1, p.2.1, p.2.2], (0, 0, 0), fun _ => rfl, by decide, rfl, fun x y h => by simp at h; exact Prod.ext h.1 (Prod.ext h.2.1 h.2.2)⟩

section
variable {α : Type} {E : Enc α}

/-- All fields of all records, in order. -/
def Enc.flat (E : Enc α) (xs : List α) : List Int := xs.flatMap E.f
theorem Enc.flat_nil : E.flat [] = [] := rfl
theorem Enc.flat_length (xs : List α) : (E.flat xs).length = xs.length * E.m := by
  induction xs with
  | nil => simp [Enc.flat]
  | cons x xs ih =>
    unfold Enc.flat at ih ⊢
    rw [List.flatMap_cons, List.length_append, ih, E.len, List.length_cons, Nat.add_mul]; omega
theorem Enc.flat_append (xs ys : List α) : E.flat (xs ++ ys) = E.flat xs ++ E.flat ys := by simp [Enc.flat]
theorem Enc.flat_one (x : α) : E.flat [x] = E.f x := by simp [Enc.flat]

theorem flat_getD (xs : List α) (i j : Nat) (hi : i < xs.length) (hj : j < E.m) : (E.flat xs).getD (i * E.m + j) 0 = (E.f (xs.getD i E.z)).getD j 0 := by
  induction xs generalizing i with
  | nil => simp at hi
  | cons x xs ih =>
    have e : E.flat (x :: xs) = E.f x ++ E.flat xs := by simp [Enc.flat]
    rw [e]
    have hl := E.len x
    cases i with
    | zero =>
      simp only [Nat.zero_mul, Nat.zero_add, List.getD_cons_zero]
      simp only [List.getD]
      rw [List.getElem?_append_left (by omega)]
    | succ i =>
      have h2 := ih i (by simp at hi; omega)
      have hm : (i + 1) * E.m + j = E.m + (i * E.m + j) := by rw [Nat.add_mul]; omega
      simp only [List.getD_cons_succ]
      rw [← h2]
      simp only [List.getD]
      rw [hm, List.getElem?_append_right (by omega), hl, show E.m + (i * E.m + j) - E.m = i * E.m + j by omega]

theorem idx_lt {i j n m : Nat} (hi : i < n) (hj : j < m) : i * m + j < n * m := by
  have : (i + 1) * m ≤ n * m := Nat.mul_le_mul_right m hi
  rw [Nat.add_mul] at this; omega

/-- In w the slice value v reads as the records xs. -/
structure SI (E : Enc α) (w : World) (v : Value) (xs : List α) : Prop where
  shp : ∃ a cap, v = .slice a xs.length cap ∧ xs.length ≤ cap ∧ cap ≤ maxLen ∧
    (xs = [] ∨ ∃ b off, a = some ⟨b, off, none⟩ ∧ b < w.heap.size ∧ ∀ j, j < xs.length * E.m → w.cell? ⟨b, off + j, none⟩ = some (.int .i64 ((E.flat xs).getD j 0)))
  good : ∀ x ∈ E.flat xs, Good x

theorem SI.len {w : World} {v : Value} {xs : List α} (h : SI E w v xs) : xs.length ≤ 9223372036854775807 := by
  obtain ⟨⟨a, cap, _, h1, h2, _⟩, _⟩ := h
  unfold maxLen at h2; omega

theorem good_getD {ys : List Int} (h : ∀ x ∈ ys, Good x) (j : Nat) : Good (ys.getD j 0) := by
  by_cases hj : j < ys.length
  · simp only [List.getD, List.getElem?_eq_getElem hj, Option.getD_some]; exact h _ (List.getElem_mem hj)
  · simp only [List.getD, List.getElem?_eq_none (by omega : ys.length ≤ j), Option.getD_none]; unfold Good; omega

theorem SI.below {w w' : World} {v : Value} {xs : List α} (h : SI E w v xs) (hb : Below w.heap.size w w') : SI E w' v xs := by
  obtain ⟨⟨a, cap, rfl, h1, h2, h3⟩, hg⟩ := h
  refine ⟨⟨a, cap, rfl, h1, h2, ?_⟩, hg⟩
  rcases h3 with h3 | ⟨b, off, ha, hlt, hc⟩
  · exact .inl h3
  · exact .inr ⟨b, off, ha, Nat.lt_of_lt_of_le hlt hb.size, fun j hj => (hb.cell (p := ⟨b, off + j, none⟩) hlt).trans (hc j hj)⟩

theorem SI.grown {w w' : World} {v : Value} {xs : List α} {row : Option Nat} (h : SI E w v xs) (hg : w.grownBy w' row) (hne : ∀ k, row = some k → v.ownBlock ≠ some k) : SI E w' v xs := by
  obtain ⟨⟨a, cap, rfl, h1, h2, h3⟩, hgd⟩ := h
  refine ⟨⟨a, cap, rfl, h1, h2, ?_⟩, hgd⟩
  rcases h3 with h3 | ⟨b, off, rfl, hlt, hc⟩
  · exact .inl h3
  · refine .inr ⟨b, off, rfl, Nat.lt_of_lt_of_le hlt hg.size, fun j hj => (World.cell?_of_block (hg.block b hlt ?_)).trans (hc j hj)⟩
    intro hr
    exact hne b hr.symm rfl

theorem SI.nil (w : World) : SI E w (.slice none 0 0) [] := ⟨⟨none, 0, rfl, Nat.le_refl _, Nat.zero_le _, .inl rfl⟩, by simp [Enc.flat]⟩

theorem SI.shape {w : World} {v : Value} {xs : List α} (h : SI E w v xs) : ∃ a cap, v = .slice a xs.length cap := by
  obtain ⟨⟨a, cap, rfl, _⟩, _⟩ := h
  exact ⟨a, cap, rfl⟩

theorem SI.cells {w : World} {a : Option Addr} {n cap : Nat} {xs : List α} (h : SI E w (.slice a n cap) xs) (hp : 0 < xs.length) :
    ∃ b off, a = some ⟨b, off, none⟩ ∧ b < w.heap.size ∧ ∀ i j, i < xs.length → j < E.m → w.cell? ⟨b, off + (i * E.m + j), none⟩ = some (.int .i64 ((E.f (xs.getD i E.z)).getD j 0)) := by
  obtain ⟨⟨a', cap', e, _, _, h3⟩, _⟩ := h
  simp only [Value.slice.injEq] at e
  obtain ⟨rfl, rfl, rfl⟩ := e
  rcases h3 with h3 | ⟨b, off, h3, hb, hc⟩
  · simp [h3] at hp
  · exact ⟨b, off, h3, hb, fun i j hi hj => by rw [hc _ (idx_lt hi hj), flat_getD xs i j hi hj]⟩

/-- Each field of each record is an int64. -/
theorem SI.getD {w : World} {v : Value} {xs : List α} (h : SI E w v xs) (i j : Nat) (hi : i < xs.length) (hj : j < E.m) : Good ((E.f (xs.getD i E.z)).getD j 0) := by
  rw [← flat_getD xs i j hi hj]; exact good_getD h.good _

/-- The first records of it. -/
theorem SI.take {w : World} {a : Option Addr} {n cap : Nat} {xs : List α} (h : SI E w (.slice a n cap) xs) (k : Nat) (hk : k ≤ xs.length) : SI E w (.slice a k cap) (xs.take k) := by
  obtain ⟨⟨a', cap', e, h1, h2, h3⟩, hg⟩ := h
  simp only [Value.slice.injEq] at e
  obtain ⟨rfl, rfl, rfl⟩ := e
  have hl : (xs.take k).length = k := by simp; omega
  have hfl : E.flat xs = E.flat (xs.take k) ++ E.flat (xs.drop k) := by rw [← Enc.flat_append, List.take_append_drop]
  refine ⟨⟨a, cap, by rw [hl], by omega, h2, ?_⟩, fun x hx => hg x (by rw [hfl]; simp [hx])⟩
  rcases h3 with h3 | ⟨b, off, h3, hb, hc⟩
  · left; simp [h3]
  · refine .inr ⟨b, off, h3, hb, fun j hj => ?_⟩
    rw [hl] at hj
    have : k * E.m ≤ xs.length * E.m := Nat.mul_le_mul_right _ hk
    rw [hc j (by omega), hfl]
    simp only [List.getD]
    rw [List.getElem?_append_left (by rw [Enc.flat_length, hl]; omega)]

/-! ### memory that the call owns -/
/-- v, in memory from block base on, holds the records xs; e is the element type's number. -/
def OS (E : Enc α) (e : TypeId) (w : World) (base : Nat) (v : Value) (xs : List α) : Prop :=
  w.ownsRow base e E.m v xs.length ((E.flat xs).map (Value.int .i64)) ∧ ∀ x ∈ E.flat xs, Good x

theorem OS.si {e : TypeId} {w : World} {base : Nat} {v : Value} {xs : List α} (h : OS E e w base v xs) : SI E w v xs := by
  obtain ⟨⟨hl, h | ⟨g, cap, cur, rfl, hb, hg, hn, hcm, hs, ht⟩⟩, hgood⟩ := h
  · obtain ⟨rfl, h0⟩ := h
    obtain rfl := List.length_eq_zero_iff.1 h0
    exact SI.nil w
  · refine ⟨⟨_, cap, rfl, hn, hcm, ?_⟩, hgood⟩
    by_cases h0 : xs = []
    · exact .inl h0
    · refine .inr ⟨g, 0, rfl, (Array.getElem?_eq_some_iff.1 hg).1, fun j hj => ?_⟩
      have hfl := Enc.flat_length (E := E) xs
      rw [Nat.zero_add, cell_of_row w g j cur e (0, 0) hg]
      have : ((E.flat xs).map (Value.int .i64))[j]? = some (.int .i64 ((E.flat xs).getD j 0)) := by simp [List.getD, List.getElem?_eq_getElem (show j < (E.flat xs).length by omega)]
      rw [← ht, List.getElem?_take, if_pos (by omega)] at this
      simpa using this

theorem OS.nil (e : TypeId) (w : World) (base : Nat) : OS E e w base (.slice none 0 0) [] := ⟨by simpa [Enc.flat] using World.ownsRow_nil _ _ _ _, by simp [Enc.flat]⟩

theorem OS.lt {e : TypeId} {w : World} {base : Nat} {v : Value} {xs : List α} (h : OS E e w base v xs) : ∀ k, v.ownBlock = some k → base ≤ k ∧ k < w.heap.size := h.1.lt

theorem OS.below {e : TypeId} {w w' : World} {base : Nat} {v : Value} {xs : List α} (h : OS E e w base v xs) (hb : Below w.heap.size w w') : OS E e w' base v xs := by
  refine ⟨⟨h.1.1, ?_⟩, h.2⟩
  rcases h.1.2 with h1 | ⟨g, cap, cur, rfl, hbg, hg, r⟩
  · exact .inl h1
  · exact .inr ⟨g, cap, cur, rfl, hbg, by rw [hb.block g (Array.getElem?_eq_some_iff.1 hg).1]; exact hg, r⟩

theorem OS.grown {e : TypeId} {w w' : World} {base : Nat} {v : Value} {xs : List α} {row : Option Nat} (h : OS E e w base v xs) (hg : w.grownBy w' row) (hne : v.ownBlock = none ∨ v.ownBlock ≠ row) : OS E e w' base v xs :=
  ⟨h.1.kept hg hne, h.2⟩

theorem OS.ri {e : TypeId} {w : World} {base : Nat} {v : Value} {xs : List α} (h : OS E e w base v xs) : SI E w v xs := h.si

theorem OS.apart {e : TypeId} {w w' : World} {base : Nat} {v vx : Value} {xs : List α} (h : OS E e w base v xs) (hg : w.grownBy w' vx.ownBlock) (hne : ∀ k, vx.ownBlock = some k → v.ownBlock ≠ some k) : OS E e w' base v xs := by
  refine h.grown hg ?_
  cases hv : v.ownBlock with
  | none => exact .inl rfl
  | some k => exact .inr (fun e => hne k e.symm hv)

theorem OS.step {e : TypeId} {w W w' : World} {v : Value} {xs : List α} (h : OS E e W w.heap.size v xs) (hb : Below w.heap.size w W) (hg : W.grownBy w' v.ownBlock) : Below w.heap.size w w' :=
  bgrown hb hg (fun k hk => (h.lt k hk).1)

/-- A cell of an older block than a list of the call's own stays where that list is written. -/
theorem cell_older2 {e : TypeId} {w w' : World} {base : Nat} {v : Value} {xs : List α} (h : OS E e w base v xs) (hg : w.grownBy w' v.ownBlock) {b o : Nat} (hlt : b < w.heap.size) (hb : b < base) : w'.cell? ⟨b, o, none⟩ = w.cell? ⟨b, o, none⟩ :=
  World.cell?_of_block (hg.block b hlt (fun e => by have := (h.lt b e.symm).1; omega))

theorem OS.mono {e : TypeId} {w : World} {base base' : Nat} {v : Value} {xs : List α} (h : OS E e w base v xs) (hb : base' ≤ base) : OS E e w base' v xs := by
  refine ⟨⟨h.1.1, ?_⟩, h.2⟩
  rcases h.1.2 with h1 | ⟨g, cap, cur, rfl, hbg, r⟩
  · exact .inl h1
  · exact .inr ⟨g, cap, cur, rfl, Nat.le_trans hb hbg, r⟩

theorem flat_zeros (n : Nat) : E.flat (List.replicate n E.z) = List.replicate (n * E.m) 0 := by
  induction n with
  | zero => simp [Enc.flat]
  | succ n ih =>
    have e : E.flat (List.replicate (n + 1) E.z) = E.f E.z ++ E.flat (List.replicate n E.z) := by simp [Enc.flat, List.replicate_succ]
    rw [e, ih, E.zero, List.replicate_append_replicate, Nat.add_mul]; congr 1; omega

theorem OS.shape {e : TypeId} {w : World} {base : Nat} {v : Value} {xs : List α} (h : OS E e w base v xs) : (v = .slice none 0 0 ∧ xs = []) ∨ ∃ g cap, v = .slice (some ⟨g, 0, none⟩) xs.length cap ∧ base ≤ g ∧ g < w.heap.size := by
  rcases h.1.2 with ⟨h1, h0⟩ | ⟨g, cap, cur, rfl, hbg, hg, r⟩
  · exact .inl ⟨h1, List.length_eq_zero_iff.1 h0⟩
  · exact .inr ⟨g, cap, rfl, hbg, (Array.getElem?_eq_some_iff.1 hg).1⟩

theorem OS.cell {e : TypeId} {w : World} {base g n cap : Nat} {xs : List α} (h : OS E e w base (.slice (some ⟨g, 0, none⟩) n cap) xs) (i j : Nat) (hi : i < xs.length) (hj : j < E.m) :
    w.cell? ⟨g, i * E.m + j, none⟩ = some (.int .i64 ((E.f (xs.getD i E.z)).getD j 0)) ∧ w.frozen? ⟨g, i * E.m + j, none⟩ = false := by
  obtain ⟨⟨hl, h1⟩, _⟩ := h
  have hn : n = xs.length := by
    rcases h1 with ⟨h1, _⟩ | ⟨g', cap', cur, h1, _⟩
    · simp at h1
    · simp only [Value.slice.injEq] at h1; exact h1.2.1
  subst hn
  have h' : w.ownsRow base e E.m (.slice (some ⟨g, 0, none⟩) xs.length cap) xs.length ((E.flat xs).map (Value.int .i64)) := ⟨hl, h1⟩
  have hfl := Enc.flat_length (E := E) xs
  have hij := idx_lt hi hj
  exact ⟨by rw [h'.cellAt _ hij, ← flat_getD xs i j hi hj]; simp [List.getD, List.getElem?_eq_getElem (show i * E.m + j < (E.flat xs).length by omega)], h'.frozenAt _⟩

/-- A field of it is written: the fields are those of ys. -/
theorem OS.set {e : TypeId} {w : World} {base g n cap : Nat} {xs ys : List α} (h : OS E e w base (.slice (some ⟨g, 0, none⟩) n cap) xs) (k : Nat) (x : Int) (hx : Good x) (hys : E.flat ys = (E.flat xs).set k x) :
    OS E e (w.setCell ⟨g, k, none⟩ (.int .i64 x)) base (.slice (some ⟨g, 0, none⟩) n cap) ys ∧ w.grownBy (w.setCell ⟨g, k, none⟩ (.int .i64 x)) (some g) := by
  obtain ⟨⟨hl, h1⟩, hg⟩ := h
  have hn : n = xs.length := by
    rcases h1 with ⟨h1, _⟩ | ⟨g', cap', cur, h1, _⟩
    · simp at h1
    · simp only [Value.slice.injEq] at h1; exact h1.2.1
  subst hn
  have h' : w.ownsRow base e E.m (.slice (some ⟨g, 0, none⟩) xs.length cap) xs.length ((E.flat xs).map (Value.int .i64)) := ⟨hl, h1⟩
  obtain ⟨a, b⟩ := h'.stored k (.int .i64 x)
  have hyl : ys.length = xs.length := by
    have h3 := congrArg List.length hys
    rw [List.length_set, Enc.flat_length, Enc.flat_length] at h3
    exact Nat.eq_of_mul_eq_mul_right E.pos h3
  refine ⟨⟨?_, fun y hy => ?_⟩, b⟩
  · rw [hys, List.map_set, hyl]; exact a
  · rw [hys] at hy
    rcases List.mem_or_eq_of_mem_set hy with hy | rfl
    · exact hg y hy
    · exact hx

/-- []T{} -/
theorem OS.lit0 (e : TypeId) (w : World) (base : Nat) (hb : base ≤ w.heap.size) : OS E e (w.alloc (.cells #[] e)) base (.slice (some ⟨w.heap.size, 0, none⟩) 0 0) [] :=
  ⟨by simpa [Enc.flat] using World.ownsRow_made w #[] 0 hb (Nat.zero_le _) (by simp), by simp [Enc.flat]⟩

/-- append(out, x), out a list of the call's own: x has been laid into a block of its own first. -/
theorem wpList_appS {P : Program} {W : World} {ops : Array Oper} {rest : List Oper} {o : Oper} {a : Act} {Q : Exit → Act → World → Prop} (hgd : o.guard = none) (s x : Operand) (t : TypeId)
    (ho : o.op = .call { callee := .builtin .append, args := #[s, x], argTypes := #[t, t] }) (e e' : TypeId) (i : TypeInfo) (z : Value) (ht : P.underlying t = some (.slice e)) (hi : P.info? e = some i) (hz : i.zero = some z) (hzs : z.cells.size = E.m) (hsize : i.size = E.m) (bytes : Nat) (hby : i.bytes = bytes) (hb64 : bytes ≤ 64)
    (base : Nat) (v : Value) (xs : List α) (hs : a.eval s = v) (hown : OS E e W base v xs) (n : α) (cs : Array Value) (hcs : cs = ((E.f n).map (Value.int .i64)).toArray) (H : Nat) (hH : W.heap.size = H) (hx : a.eval x = .slice (some ⟨H, 0, none⟩) 1 1) (hn : ∀ y ∈ E.f n, Good y) (hlen : xs.length ≤ 1099511627776) (hbase : base ≤ W.heap.size)
    (hK : ∀ v' w', OS E e w' base v' (xs ++ [n]) → W.grownBy w' v.ownBlock → (∀ k, v'.ownBlock = some k → v.ownBlock = some k ∨ W.heap.size ≤ k) → wpList P ops Q rest (a.put o.dst v') w') : wpList P ops Q (o :: rest) a (W.alloc (.cells cs e')) := by
  subst hH
  subst hcs
  refine wpList_append_lies (W.alloc (.cells _ e')) hgd s x t ho base e i z E.m bytes ht hi hz hsize hby hzs E.pos v xs.length ((E.flat xs).map (Value.int .i64)) hs (hown.1.alloc _) ⟨W.heap.size, 0, none⟩ 1 1 ((E.f n).map (Value.int .i64)) hx (by simp [E.len]) ?_ ?_ (by decide) ?_ ?_ ?_ _ rfl ?_
  · intro j u hj
    rw [Addr.add_lit, World.cell?_alloc_at _ _ _ _ rfl]
    simpa using hj
  · exact ints_oneCell _ _
  · unfold maxLen; omega
  · have : (xs.length + 1) * bytes ≤ (1099511627776 + 1) * 64 := Nat.mul_le_mul (by omega) hb64
    omega
  · simp; omega
  · intro g cap w' h1 h2 h3 _
    refine hK _ w' ⟨by rw [Enc.flat_append, Enc.flat_one, List.map_append, List.length_append]; exact h1, fun y hy => ?_⟩ ⟨h2.os, h2.tape, h2.output, Nat.le_trans (by simp) h2.size, fun k hk hne => (h2.block k (by simp; omega) hne).trans (Below.heap_alloc W _ k hk)⟩ (fun k hk => ?_)
    · rw [Enc.flat_append, Enc.flat_one] at hy
      rcases List.mem_append.1 hy with hy | hy
      · exact hown.2 y hy
      · exact hn y hy
    · simp only [Value.ownBlock, Option.some.injEq] at hk
      rcases h3 with h3 | h3
      · exact .inl (hk ▸ h3)
      · right; simp at h3; omega
end

/-- append(out, x) at a step of a region that draws its order, in whatever world; x has two fields. -/
theorem step_app2 {P : Program} {W : World} {ops : Array Oper} {o : Oper} {a : Act} {K : Act → World → Prop} {Q : Exit → Act → World → Prop} {R : Prop} (hgd : o.guard = none) (s x : Operand) (t : TypeId)
    (ho : o.op = .call { callee := .builtin .append, args := #[s, x], argTypes := #[t, t] }) (e : TypeId) (i : TypeInfo) (z : Value) (ht : P.underlying t = some (.slice e)) (hi : P.info? e = some i) (hz : i.zero = some z) (hzs : z.cells.size = 2) (hsize : i.size = 2) (hby : i.bytes = 16)
    (base : Nat) (v : Value) (xs : List (Int × Int)) (hs : a.eval s = v) (hown : OS P2 e W base v xs) (B : Nat) (n m : Int) (hx : a.eval x = .slice (some ⟨B, 0, none⟩) 1 1) (hc0 : W.cell? ⟨B, 0, none⟩ = some (.int .i64 n)) (hc1 : W.cell? ⟨B, 1, none⟩ = some (.int .i64 m)) (hn : Good n) (hm : Good m) (hlen : xs.length ≤ 1099511627776) (hbase : base ≤ W.heap.size)
    (hK : ∀ v' w', OS P2 e w' base v' (xs ++ [(n, m)]) → W.grownBy w' v.ownBlock → K (a.put o.dst v') w') : if Region.wanted o (yielded ops a.tmps) = true then Oper.wp P o a W K Q else R := by
  have hw : Region.wanted o (yielded ops a.tmps) = true := by simp [Region.wanted, hgd]
  rw [if_pos hw]
  have hfl : P2.flat (xs ++ [(n, m)]) = P2.flat xs ++ [n, m] := by rw [Enc.flat_append]; rfl
  refine wp_append_own W s x t ho base e i z 2 16 ht hi hz hsize hby hzs (by decide) v xs.length ((P2.flat xs).map (Value.int .i64)) hs hown.1 ⟨B, 0, none⟩ 1 1 [.int .i64 n, .int .i64 m] hx rfl ?_ ?_ ?_ ?_ hbase ?_
  · intro j u hj
    match j, hj with
    | 0, hj =>
      simp only [List.getElem?_cons_zero, Option.some.injEq] at hj
      subst hj
      simp only [Addr.add, if_true]; exact hc0
    | 1, hj =>
      simp only [List.getElem?_cons_succ, List.getElem?_cons_zero, Option.some.injEq] at hj
      subst hj
      exact hc1
  · intro u hu; simp at hu; rcases hu with rfl | rfl <;> rfl
  · unfold maxLen; omega
  · omega
  · intro v' w' h1 h2 _
    refine hK v' w' ⟨by rw [hfl, List.map_append, List.length_append]; exact h1, fun y hy => ?_⟩ h2
    rw [hfl] at hy
    rcases List.mem_append.1 hy with hy | hy
    · exact hown.2 y hy
    · simp at hy; rcases hy with rfl | rfl
      · exact hn
      · exact hm

theorem cell_new2 (w : World) (x y : Value) (e : TypeId) : (w.alloc (.cells #[x, y] e)).drew.cell? ⟨w.heap.size, 0, none⟩ = some x ∧ (w.alloc (.cells #[x, y] e)).drew.cell? ⟨w.heap.size, 1, none⟩ = some y := by
  constructor
  · show (w.alloc (.cells #[x, y] e)).cell? _ = _
    rw [World.cell?_alloc_at _ _ _ _ rfl]; rfl
  · show (w.alloc (.cells #[x, y] e)).cell? _ = _
    rw [World.cell?_alloc_at _ _ _ _ rfl]; rfl

/-- What make([]T, n) has laid, of two fields. -/
theorem OS.made2 {e : TypeId} {w : World} {base n : Nat} {v : Value} (h : w.ownsRow base e 2 v n (madeCells (Value.agg #[.int .i64 0, .int .i64 0]).cells (n * 2)).toList) : OS P2 e w base v (List.replicate n (0, 0)) := by
  have e1 : P2.flat (List.replicate n (0, 0)) = List.replicate (n * 2) 0 := flat_zeros (E := P2) n
  refine ⟨?_, fun x hx => ?_⟩
  · rw [e1, List.length_replicate]
    have e2 : (madeCells (Value.agg #[.int .i64 0, .int .i64 0]).cells (n * 2)).toList = (List.replicate (n * 2) (0 : Int)).map (Value.int .i64) := by
      apply List.ext_getElem?
      intro k
      simp only [madeCells, Value.cells, List.map_replicate]
      by_cases hk : k < n * 2
      · rw [List.getElem?_replicate, if_pos hk]
        simp [hk]
        rcases Nat.mod_two_eq_zero_or_one k with h | h <;> simp [h]
      · rw [List.getElem?_replicate, if_neg hk]
        simp; omega
    rw [← e2]; exact h
  · rw [e1] at hx
    obtain rfl := List.eq_of_mem_replicate hx
    unfold Good; omega

/-- Two cells of a record. -/
theorem SI.cells2 {w : World} {a : Option Addr} {n cap : Nat} {xs : List (Int × Int)} (h : SI P2 w (.slice a n cap) xs) (hp : 0 < xs.length) :
    ∃ b off, a = some ⟨b, off, none⟩ ∧ b < w.heap.size ∧ ∀ i, i < xs.length → w.cell? ⟨b, off + i * 2, none⟩ = some (.int .i64 (xs.getD i (0, 0)).1) ∧ w.cell? ⟨b, off + i * 2 + 1, none⟩ = some (.int .i64 (xs.getD i (0, 0)).2) := by
  obtain ⟨b, off, h1, h2, hc⟩ := h.cells hp
  exact ⟨b, off, h1, h2, fun i hi => ⟨hc i 0 hi (by decide), hc i 1 hi (by decide)⟩⟩

theorem OS.cells2 {e : TypeId} {w : World} {base g n cap : Nat} {xs : List (Int × Int)} (h : OS P2 e w base (.slice (some ⟨g, 0, none⟩) n cap) xs) (i : Nat) (hi : i < xs.length) :
    (w.cell? ⟨g, i * 2, none⟩ = some (.int .i64 (xs.getD i (0, 0)).1) ∧ w.frozen? ⟨g, i * 2, none⟩ = false) ∧ w.cell? ⟨g, i * 2 + 1, none⟩ = some (.int .i64 (xs.getD i (0, 0)).2) ∧ w.frozen? ⟨g, i * 2 + 1, none⟩ = false :=
  ⟨h.cell i 0 hi (by decide), h.cell i 1 hi (by decide)⟩

theorem flat_set2 (xs : List (Int × Int)) (i : Nat) (x y : Int) : P2.flat (xs.set i (x, y)) = ((P2.flat xs).set (i * 2) x).set (i * 2 + 1) y := by
  induction xs generalizing i with
  | nil => rfl
  | cons p xs ih =>
    have e : ∀ q : Int × Int, ∀ zs, P2.flat (q :: zs) = q.1 :: q.2 :: P2.flat zs := fun q zs => rfl
    cases i with
    | zero => rw [List.set_cons_zero, e, e]; rfl
    | succ i =>
      rw [List.set_cons_succ, e, e, ih, show (i + 1) * 2 = (i * 2 + 1) + 1 by omega, List.set_cons_succ, List.set_cons_succ]
      rfl

theorem flat_get2 (xs : List (Int × Int)) (i : Nat) (hi : i < xs.length) : (P2.flat xs)[i * 2]? = some (xs.getD i (0, 0)).1 ∧ (P2.flat xs)[i * 2 + 1]? = some (xs.getD i (0, 0)).2 := by
  have hl := Enc.flat_length (E := P2) xs
  have h1 := flat_getD (E := P2) xs i 0 hi (by decide)
  have h2 := flat_getD (E := P2) xs i 1 hi (by decide)
  have hm : P2.m = 2 := rfl
  rw [hm] at hl h1 h2
  have e1 : (P2.flat xs)[i * 2]? = some ((P2.flat xs).getD (i * 2 + 0) 0) := by simp [List.getD, List.getElem?_eq_getElem (show i * 2 < (P2.flat xs).length by omega)]
  have e2 : (P2.flat xs)[i * 2 + 1]? = some ((P2.flat xs).getD (i * 2 + 1) 0) := by simp [List.getD, List.getElem?_eq_getElem (show i * 2 + 1 < (P2.flat xs).length by omega)]
  exact ⟨e1.trans (congrArg some h1), e2.trans (congrArg some h2)⟩

/-- One field of record i is written. -/
theorem OS.setA {e : TypeId} {w : World} {base g n cap : Nat} {xs : List (Int × Int)} (h : OS P2 e w base (.slice (some ⟨g, 0, none⟩) n cap) xs) (i : Nat) (hi : i < xs.length) (x : Int) (hx : Good x) :
    OS P2 e (w.setCell ⟨g, i * 2, none⟩ (.int .i64 x)) base (.slice (some ⟨g, 0, none⟩) n cap) (xs.set i (x, (xs.getD i (0, 0)).2)) ∧ w.grownBy (w.setCell ⟨g, i * 2, none⟩ (.int .i64 x)) (some g) := by
  refine h.set _ x hx ?_
  rw [flat_set2]
  apply List.ext_getElem?
  intro k
  rw [List.getElem?_set]
  by_cases hk : i * 2 + 1 = k
  · rw [if_pos hk]
    subst hk
    have := Enc.flat_length (E := P2) xs
    have hm : P2.m = 2 := rfl
    rw [hm] at this
    rw [if_pos (by rw [List.length_set]; omega), List.getElem?_set, if_neg (by omega), (flat_get2 xs i hi).2]
  · rw [if_neg hk]

theorem OS.setB {e : TypeId} {w : World} {base g n cap : Nat} {xs : List (Int × Int)} (h : OS P2 e w base (.slice (some ⟨g, 0, none⟩) n cap) xs) (i : Nat) (hi : i < xs.length) (y : Int) (hy : Good y) :
    OS P2 e (w.setCell ⟨g, i * 2 + 1, none⟩ (.int .i64 y)) base (.slice (some ⟨g, 0, none⟩) n cap) (xs.set i ((xs.getD i (0, 0)).1, y)) ∧ w.grownBy (w.setCell ⟨g, i * 2 + 1, none⟩ (.int .i64 y)) (some g) := by
  refine h.set _ y hy ?_
  rw [flat_set2]
  congr 1
  apply List.ext_getElem?
  intro k
  rw [List.getElem?_set]
  by_cases hk : i * 2 = k
  · rw [if_pos hk]
    subst hk
    have := Enc.flat_length (E := P2) xs
    have hm : P2.m = 2 := rfl
    rw [hm] at this
    rw [if_pos (by omega), (flat_get2 xs i hi).1]
  · rw [if_neg hk]

/-- Both fields of record i are written. -/
theorem OS.set2 {e : TypeId} {w : World} {base g n cap : Nat} {xs : List (Int × Int)} (h : OS P2 e w base (.slice (some ⟨g, 0, none⟩) n cap) xs) (i : Nat) (hi : i < xs.length) (x y : Int) (hx : Good x) (hy : Good y) :
    OS P2 e ((w.setCell ⟨g, i * 2, none⟩ (.int .i64 x)).setCell ⟨g, i * 2 + 1, none⟩ (.int .i64 y)) base (.slice (some ⟨g, 0, none⟩) n cap) (xs.set i (x, y)) ∧ w.grownBy ((w.setCell ⟨g, i * 2, none⟩ (.int .i64 x)).setCell ⟨g, i * 2 + 1, none⟩ (.int .i64 y)) (some g) := by
  obtain ⟨a1, a2⟩ := h.setA i hi x hx
  obtain ⟨b1, b2⟩ := a1.setB i (by simpa using hi) y hy
  refine ⟨?_, grownBy_trans a2 b2⟩
  have e2 : (xs.set i (x, (xs.getD i (0, 0)).2)).set i (((xs.set i (x, (xs.getD i (0, 0)).2)).getD i (0, 0)).1, y) = xs.set i (x, y) := by
    rw [List.set_set]
    simp [List.getD, hi]
  rwa [e2] at b1

theorem set_fillG {α : Type} (z : α) (xs : List α) (k n : Nat) (hn : n = xs.length) (hk : k < n) : (xs.take k ++ List.replicate (n - k) z).set k (xs.getD k z) = xs.take (k + 1) ++ List.replicate (n - (k + 1)) z := by
  subst hn
  apply List.ext_getElem?
  intro i
  rw [List.getElem?_set]
  by_cases hi : k = i
  · subst hi
    rw [if_pos rfl, if_pos (by simp; omega), List.getElem?_append_left (by simp; omega)]
    simp [List.getElem?_take, List.getD, List.getElem?_eq_getElem hk]
  · rw [if_neg hi]
    by_cases h1 : i < k
    · rw [List.getElem?_append_left (by simp; omega), List.getElem?_append_left (by simp; omega)]
      simp [List.getElem?_take, h1, Nat.lt_succ_of_lt h1]
    · rw [List.getElem?_append_right (by simp; omega), List.getElem?_append_right (by simp; omega)]
      simp only [List.length_take, List.getElem?_replicate]
      have e1 : min k xs.length = k := by omega
      have e2 : min (k + 1) xs.length = k + 1 := by omega
      rw [e1, e2]
      by_cases h2 : i < xs.length
      · rw [if_pos (by omega), if_pos (by omega)]
      · rw [if_neg (by omega), if_neg (by omega)]

theorem take_snocG {α : Type} (z : α) (xs : List α) (k : Nat) (h : k < xs.length) : xs.take (k + 1) = xs.take k ++ [xs.getD k z] := by
  rw [List.take_succ_eq_append_getElem h]; simp [List.getD, List.getElem?_eq_getElem h]

/-- The records (k, k + 1), (k + 2, k + 3), .. -/
def marks2 (k n : Nat) : List (Int × Int) := (List.range n).map fun i => (((k + 2 * i : Nat) : Int), ((k + 2 * i + 1 : Nat) : Int))
theorem marks2_length (k n : Nat) : (marks2 k n).length = n := by simp [marks2]
theorem marks2_getD (k n i : Nat) (h : i < n) : (marks2 k n).getD i (0, 0) = (((k + 2 * i : Nat) : Int), ((k + 2 * i + 1 : Nat) : Int)) := by simp [marks2, List.getD, h]
theorem marks2_succ (k n : Nat) : marks2 k (n + 1) = marks2 k n ++ [(((k + 2 * n : Nat) : Int), ((k + 2 * n + 1 : Nat) : Int))] := by simp [marks2, List.range_succ]
theorem marks2_set (xs : List (Int × Int)) (k j : Nat) (hj : j < xs.length) : (marks2 k j ++ xs.drop j).set j (((k + 2 * j : Nat) : Int), ((k + 2 * j + 1 : Nat) : Int)) = marks2 k (j + 1) ++ xs.drop (j + 1) := by
  rw [marks2_succ, List.append_assoc, List.set_append_right _ _ (by simp [marks2_length])]
  congr 1
  rw [marks2_length, Nat.sub_self, List.drop_eq_getElem_cons hj, List.set_cons_zero]
  rfl

theorem SI.good2 {w : World} {v : Value} {xs : List (Int × Int)} (h : SI P2 w v xs) (i : Nat) (hi : i < xs.length) : Good (xs.getD i (0, 0)).1 ∧ Good (xs.getD i (0, 0)).2 :=
  ⟨h.getD i 0 hi (by decide), h.getD i 1 hi (by decide)⟩

end Go.Proofs.YthlpbeohlhhblaaGreat
namespace Go.Proofs.YthlpbeohlhhblaaGreat
open Go.RowKit

def vz : Value := .int .i64 0
/-- A kind of record: m fields, each any value of one cell. -/
structure EncV (α : Type) where
  m : Nat
  f : α → List Value
  z : α
  len : ∀ x, (f x).length = m
  pos : 0 < m

section
variable {α : Type} {E : EncV α}

/-- All fields of all records, in order. -/
def EncV.flat (E : EncV α) (xs : List α) : List Value := xs.flatMap E.f
theorem EncV.flat_nil : E.flat [] = [] := rfl
theorem EncV.flat_length (xs : List α) : (E.flat xs).length = xs.length * E.m := by
  induction xs with
  | nil => simp [EncV.flat]
  | cons x xs ih =>
    unfold EncV.flat at ih ⊢
    rw [List.flatMap_cons, List.length_append, ih, E.len, List.length_cons, Nat.add_mul]; omega
theorem EncV.flat_append (xs ys : List α) : E.flat (xs ++ ys) = E.flat xs ++ E.flat ys := by simp [EncV.flat]
theorem EncV.flat_one (x : α) : E.flat [x] = E.f x := by simp [EncV.flat]

theorem flatV_getD (xs : List α) (i j : Nat) (hi : i < xs.length) (hj : j < E.m) : (E.flat xs).getD (i * E.m + j) vz = (E.f (xs.getD i E.z)).getD j vz := by
  induction xs generalizing i with
  | nil => simp at hi
  | cons x xs ih =>
    have e : E.flat (x :: xs) = E.f x ++ E.flat xs := by simp [EncV.flat]
    rw [e]
    have hl := E.len x
    cases i with
    | zero =>
      simp only [Nat.zero_mul, Nat.zero_add, List.getD_cons_zero]
      simp only [List.getD]
      rw [List.getElem?_append_left (by omega)]
    | succ i =>
      have h2 := ih i (by simp at hi; omega)
      have hm : (i + 1) * E.m + j = E.m + (i * E.m + j) := by rw [Nat.add_mul]; omega
      simp only [List.getD_cons_succ]
      rw [← h2]
      simp only [List.getD]
      rw [hm, List.getElem?_append_right (by omega), hl, show E.m + (i * E.m + j) - E.m = i * E.m + j by omega]

/-- In w the slice value v reads as the records xs. -/
structure SV (E : EncV α) (w : World) (v : Value) (xs : List α) : Prop where
  shp : ∃ a cap, v = .slice a xs.length cap ∧ xs.length ≤ cap ∧ cap ≤ maxLen ∧
    (xs = [] ∨ ∃ b off, a = some ⟨b, off, none⟩ ∧ b < w.heap.size ∧ ∀ j, j < xs.length * E.m → w.cell? ⟨b, off + j, none⟩ = some ((E.flat xs).getD j vz))
  good : ∀ x ∈ E.flat xs, x.oneCell' = true

theorem SV.len {w : World} {v : Value} {xs : List α} (h : SV E w v xs) : xs.length ≤ 9223372036854775807 := by
  obtain ⟨⟨a, cap, _, h1, h2, _⟩, _⟩ := h
  unfold maxLen at h2; omega

theorem SV.below {w w' : World} {v : Value} {xs : List α} (h : SV E w v xs) (hb : Below w.heap.size w w') : SV E w' v xs := by
  obtain ⟨⟨a, cap, rfl, h1, h2, h3⟩, hg⟩ := h
  refine ⟨⟨a, cap, rfl, h1, h2, ?_⟩, hg⟩
  rcases h3 with h3 | ⟨b, off, ha, hlt, hc⟩
  · exact .inl h3
  · exact .inr ⟨b, off, ha, Nat.lt_of_lt_of_le hlt hb.size, fun j hj => (hb.cell (p := ⟨b, off + j, none⟩) hlt).trans (hc j hj)⟩

theorem SV.grown {w w' : World} {v : Value} {xs : List α} {row : Option Nat} (h : SV E w v xs) (hg : w.grownBy w' row) (hne : ∀ k, row = some k → v.ownBlock ≠ some k) : SV E w' v xs := by
  obtain ⟨⟨a, cap, rfl, h1, h2, h3⟩, hgd⟩ := h
  refine ⟨⟨a, cap, rfl, h1, h2, ?_⟩, hgd⟩
  rcases h3 with h3 | ⟨b, off, rfl, hlt, hc⟩
  · exact .inl h3
  · refine .inr ⟨b, off, rfl, Nat.lt_of_lt_of_le hlt hg.size, fun j hj => (World.cell?_of_block (hg.block b hlt ?_)).trans (hc j hj)⟩
    intro hr
    exact hne b hr.symm rfl

theorem SV.nil (w : World) : SV E w (.slice none 0 0) [] := ⟨⟨none, 0, rfl, Nat.le_refl _, Nat.zero_le _, .inl rfl⟩, by simp [EncV.flat]⟩

theorem SV.shape {w : World} {v : Value} {xs : List α} (h : SV E w v xs) : ∃ a cap, v = .slice a xs.length cap := by
  obtain ⟨⟨a, cap, rfl, _⟩, _⟩ := h
  exact ⟨a, cap, rfl⟩

theorem SV.cells {w : World} {a : Option Addr} {n cap : Nat} {xs : List α} (h : SV E w (.slice a n cap) xs) (hp : 0 < xs.length) :
    ∃ b off, a = some ⟨b, off, none⟩ ∧ b < w.heap.size ∧ ∀ i j, i < xs.length → j < E.m → w.cell? ⟨b, off + (i * E.m + j), none⟩ = some ((E.f (xs.getD i E.z)).getD j vz) := by
  obtain ⟨⟨a', cap', e, _, _, h3⟩, _⟩ := h
  simp only [Value.slice.injEq] at e
  obtain ⟨rfl, rfl, rfl⟩ := e
  rcases h3 with h3 | ⟨b, off, h3, hb, hc⟩
  · simp [h3] at hp
  · exact ⟨b, off, h3, hb, fun i j hi hj => by rw [hc _ (idx_lt hi hj), flatV_getD xs i j hi hj]⟩

/-- The first records of it. -/
theorem SV.take {w : World} {a : Option Addr} {n cap : Nat} {xs : List α} (h : SV E w (.slice a n cap) xs) (k : Nat) (hk : k ≤ xs.length) : SV E w (.slice a k cap) (xs.take k) := by
  obtain ⟨⟨a', cap', e, h1, h2, h3⟩, hg⟩ := h
  simp only [Value.slice.injEq] at e
  obtain ⟨rfl, rfl, rfl⟩ := e
  have hl : (xs.take k).length = k := by simp; omega
  have hfl : E.flat xs = E.flat (xs.take k) ++ E.flat (xs.drop k) := by rw [← EncV.flat_append, List.take_append_drop]
  refine ⟨⟨a, cap, by rw [hl], by omega, h2, ?_⟩, fun x hx => hg x (by rw [hfl]; simp [hx])⟩
  rcases h3 with h3 | ⟨b, off, h3, hb, hc⟩
  · left; simp [h3]
  · refine .inr ⟨b, off, h3, hb, fun j hj => ?_⟩
    rw [hl] at hj
    have : k * E.m ≤ xs.length * E.m := Nat.mul_le_mul_right _ hk
    rw [hc j (by omega), hfl]
    simp only [List.getD]
    rw [List.getElem?_append_left (by rw [EncV.flat_length, hl]; omega)]

/-! ### memory that the call owns -/
/-- v, in memory from block base on, holds the records xs; e is the element type's number. -/
def OV (E : EncV α) (e : TypeId) (w : World) (base : Nat) (v : Value) (xs : List α) : Prop :=
  w.ownsRow base e E.m v xs.length (E.flat xs) ∧ ∀ x ∈ E.flat xs, x.oneCell' = true

theorem OV.si {e : TypeId} {w : World} {base : Nat} {v : Value} {xs : List α} (h : OV E e w base v xs) : SV E w v xs := by
  obtain ⟨⟨hl, h | ⟨g, cap, cur, rfl, hb, hg, hn, hcm, hs, ht⟩⟩, hgood⟩ := h
  · obtain ⟨rfl, h0⟩ := h
    obtain rfl := List.length_eq_zero_iff.1 h0
    exact SV.nil w
  · refine ⟨⟨_, cap, rfl, hn, hcm, ?_⟩, hgood⟩
    by_cases h0 : xs = []
    · exact .inl h0
    · refine .inr ⟨g, 0, rfl, (Array.getElem?_eq_some_iff.1 hg).1, fun j hj => ?_⟩
      have hfl := EncV.flat_length (E := E) xs
      rw [Nat.zero_add, cell_of_row w g j cur e (0, 0) hg]
      have : (E.flat xs)[j]? = some ((E.flat xs).getD j vz) := by simp [List.getD, List.getElem?_eq_getElem (show j < (E.flat xs).length by omega)]
      have h2 : (cur.toList.take (xs.length * E.m))[j]? = some ((E.flat xs).getD j vz) := by rw [ht]; exact this
      rw [List.getElem?_take, if_pos (by omega)] at h2
      simpa using h2

theorem OV.nil (e : TypeId) (w : World) (base : Nat) : OV E e w base (.slice none 0 0) [] := ⟨by simpa [EncV.flat] using World.ownsRow_nil _ _ _ _, by simp [EncV.flat]⟩

theorem OV.lt {e : TypeId} {w : World} {base : Nat} {v : Value} {xs : List α} (h : OV E e w base v xs) : ∀ k, v.ownBlock = some k → base ≤ k ∧ k < w.heap.size := h.1.lt

theorem OV.below {e : TypeId} {w w' : World} {base : Nat} {v : Value} {xs : List α} (h : OV E e w base v xs) (hb : Below w.heap.size w w') : OV E e w' base v xs := by
  refine ⟨⟨h.1.1, ?_⟩, h.2⟩
  rcases h.1.2 with h1 | ⟨g, cap, cur, rfl, hbg, hg, r⟩
  · exact .inl h1
  · exact .inr ⟨g, cap, cur, rfl, hbg, by rw [hb.block g (Array.getElem?_eq_some_iff.1 hg).1]; exact hg, r⟩

theorem OV.grown {e : TypeId} {w w' : World} {base : Nat} {v : Value} {xs : List α} {row : Option Nat} (h : OV E e w base v xs) (hg : w.grownBy w' row) (hne : v.ownBlock = none ∨ v.ownBlock ≠ row) : OV E e w' base v xs :=
  ⟨h.1.kept hg hne, h.2⟩

theorem OV.ri {e : TypeId} {w : World} {base : Nat} {v : Value} {xs : List α} (h : OV E e w base v xs) : SV E w v xs := h.si

theorem OV.apart {e : TypeId} {w w' : World} {base : Nat} {v vx : Value} {xs : List α} (h : OV E e w base v xs) (hg : w.grownBy w' vx.ownBlock) (hne : ∀ k, vx.ownBlock = some k → v.ownBlock ≠ some k) : OV E e w' base v xs := by
  refine h.grown hg ?_
  cases hv : v.ownBlock with
  | none => exact .inl rfl
  | some k => exact .inr (fun e => hne k e.symm hv)

theorem OV.step {e : TypeId} {w W w' : World} {v : Value} {xs : List α} (h : OV E e W w.heap.size v xs) (hb : Below w.heap.size w W) (hg : W.grownBy w' v.ownBlock) : Below w.heap.size w w' :=
  bgrown hb hg (fun k hk => (h.lt k hk).1)

/-- A cell of an older block than a list of the call's own stays where that list is written. -/
theorem cell_olderV {e : TypeId} {w w' : World} {base : Nat} {v : Value} {xs : List α} (h : OV E e w base v xs) (hg : w.grownBy w' v.ownBlock) {b o : Nat} (hlt : b < w.heap.size) (hb : b < base) : w'.cell? ⟨b, o, none⟩ = w.cell? ⟨b, o, none⟩ :=
  World.cell?_of_block (hg.block b hlt (fun e => by have := (h.lt b e.symm).1; omega))

theorem OV.mono {e : TypeId} {w : World} {base base' : Nat} {v : Value} {xs : List α} (h : OV E e w base v xs) (hb : base' ≤ base) : OV E e w base' v xs := by
  refine ⟨⟨h.1.1, ?_⟩, h.2⟩
  rcases h.1.2 with h1 | ⟨g, cap, cur, rfl, hbg, r⟩
  · exact .inl h1
  · exact .inr ⟨g, cap, cur, rfl, Nat.le_trans hb hbg, r⟩

theorem OV.shape {e : TypeId} {w : World} {base : Nat} {v : Value} {xs : List α} (h : OV E e w base v xs) : (v = .slice none 0 0 ∧ xs = []) ∨ ∃ g cap, v = .slice (some ⟨g, 0, none⟩) xs.length cap ∧ base ≤ g ∧ g < w.heap.size := by
  rcases h.1.2 with ⟨h1, h0⟩ | ⟨g, cap, cur, rfl, hbg, hg, r⟩
  · exact .inl ⟨h1, List.length_eq_zero_iff.1 h0⟩
  · exact .inr ⟨g, cap, rfl, hbg, (Array.getElem?_eq_some_iff.1 hg).1⟩

theorem OV.cell {e : TypeId} {w : World} {base g n cap : Nat} {xs : List α} (h : OV E e w base (.slice (some ⟨g, 0, none⟩) n cap) xs) (i j : Nat) (hi : i < xs.length) (hj : j < E.m) :
    w.cell? ⟨g, i * E.m + j, none⟩ = some ((E.f (xs.getD i E.z)).getD j vz) ∧ w.frozen? ⟨g, i * E.m + j, none⟩ = false := by
  obtain ⟨⟨hl, h1⟩, _⟩ := h
  have hn : n = xs.length := by
    rcases h1 with ⟨h1, _⟩ | ⟨g', cap', cur, h1, _⟩
    · simp at h1
    · simp only [Value.slice.injEq] at h1; exact h1.2.1
  subst hn
  have h' : w.ownsRow base e E.m (.slice (some ⟨g, 0, none⟩) xs.length cap) xs.length (E.flat xs) := ⟨hl, h1⟩
  have hfl := EncV.flat_length (E := E) xs
  have hij := idx_lt hi hj
  exact ⟨by rw [h'.cellAt _ hij, ← flatV_getD xs i j hi hj]; simp [List.getD, List.getElem?_eq_getElem (show i * E.m + j < (E.flat xs).length by omega)], h'.frozenAt _⟩

/-- A field of it is written: the fields are those of ys. -/
theorem OV.set {e : TypeId} {w : World} {base g n cap : Nat} {xs ys : List α} (h : OV E e w base (.slice (some ⟨g, 0, none⟩) n cap) xs) (k : Nat) (x : Value) (hx : x.oneCell' = true) (hys : E.flat ys = (E.flat xs).set k x) :
    OV E e (w.setCell ⟨g, k, none⟩ x) base (.slice (some ⟨g, 0, none⟩) n cap) ys ∧ w.grownBy (w.setCell ⟨g, k, none⟩ x) (some g) := by
  obtain ⟨⟨hl, h1⟩, hg⟩ := h
  have hn : n = xs.length := by
    rcases h1 with ⟨h1, _⟩ | ⟨g', cap', cur, h1, _⟩
    · simp at h1
    · simp only [Value.slice.injEq] at h1; exact h1.2.1
  subst hn
  have h' : w.ownsRow base e E.m (.slice (some ⟨g, 0, none⟩) xs.length cap) xs.length (E.flat xs) := ⟨hl, h1⟩
  obtain ⟨a, b⟩ := h'.stored k x
  have hyl : ys.length = xs.length := by
    have h3 := congrArg List.length hys
    rw [List.length_set, EncV.flat_length, EncV.flat_length] at h3
    exact Nat.eq_of_mul_eq_mul_right E.pos h3
  refine ⟨⟨?_, fun y hy => ?_⟩, b⟩
  · rw [hys, hyl]; exact a
  · rw [hys] at hy
    rcases List.mem_or_eq_of_mem_set hy with hy | rfl
    · exact hg y hy
    · exact hx

/-- []T{} -/
theorem OV.lit0 (e : TypeId) (w : World) (base : Nat) (hb : base ≤ w.heap.size) : OV E e (w.alloc (.cells #[] e)) base (.slice (some ⟨w.heap.size, 0, none⟩) 0 0) [] :=
  ⟨by simpa [EncV.flat] using World.ownsRow_made w #[] 0 hb (Nat.zero_le _) (by simp), by simp [EncV.flat]⟩

/-- append(out, x), out a list of the call's own: x has been laid into a block of its own first. -/
theorem wpList_appV {P : Program} {W : World} {ops : Array Oper} {rest : List Oper} {o : Oper} {a : Act} {Q : Exit → Act → World → Prop} (hgd : o.guard = none) (s x : Operand) (t : TypeId)
    (ho : o.op = .call { callee := .builtin .append, args := #[s, x], argTypes := #[t, t] }) (e e' : TypeId) (i : TypeInfo) (z : Value) (ht : P.underlying t = some (.slice e)) (hi : P.info? e = some i) (hz : i.zero = some z) (hzs : z.cells.size = E.m) (hsize : i.size = E.m) (bytes : Nat) (hby : i.bytes = bytes) (hb64 : bytes ≤ 64)
    (base : Nat) (v : Value) (xs : List α) (hs : a.eval s = v) (hown : OV E e W base v xs) (n : α) (cs : Array Value) (hcs : cs = (E.f n).toArray) (H : Nat) (hH : W.heap.size = H) (hx : a.eval x = .slice (some ⟨H, 0, none⟩) 1 1) (hn : ∀ y ∈ E.f n, y.oneCell' = true) (hlen : xs.length ≤ 1099511627776) (hbase : base ≤ W.heap.size)
    (hK : ∀ v' w', OV E e w' base v' (xs ++ [n]) → W.grownBy w' v.ownBlock → (∀ k, v'.ownBlock = some k → v.ownBlock = some k ∨ W.heap.size ≤ k) → wpList P ops Q rest (a.put o.dst v') w') : wpList P ops Q (o :: rest) a (W.alloc (.cells cs e')) := by
  subst hH
  subst hcs
  refine wpList_append_lies (W.alloc (.cells _ e')) hgd s x t ho base e i z E.m bytes ht hi hz hsize hby hzs E.pos v xs.length (E.flat xs) hs (hown.1.alloc _) ⟨W.heap.size, 0, none⟩ 1 1 (E.f n) hx (by simp [E.len]) ?_ ?_ (by decide) ?_ ?_ ?_ _ rfl ?_
  · intro j u hj
    rw [Addr.add_lit, World.cell?_alloc_at _ _ _ _ rfl]
    simpa using hj
  · exact hn
  · unfold maxLen; omega
  · have : (xs.length + 1) * bytes ≤ (1099511627776 + 1) * 64 := Nat.mul_le_mul (by omega) hb64
    omega
  · simp; omega
  · intro g cap w' h1 h2 h3 _
    refine hK _ w' ⟨by rw [EncV.flat_append, EncV.flat_one, List.length_append]; exact h1, fun y hy => ?_⟩ ⟨h2.os, h2.tape, h2.output, Nat.le_trans (by simp) h2.size, fun k hk hne => (h2.block k (by simp; omega) hne).trans (Below.heap_alloc W _ k hk)⟩ (fun k hk => ?_)
    · rw [EncV.flat_append, EncV.flat_one] at hy
      rcases List.mem_append.1 hy with hy | hy
      · exact hown.2 y hy
      · exact hn y hy
    · simp only [Value.ownBlock, Option.some.injEq] at hk
      rcases h3 with h3 | h3
      · exact .inl (hk ▸ h3)
      · right; simp at h3; omega

/-- The same at a step of a region that draws its order. -/
theorem step_appV {P : Program} {W : World} {ops : Array Oper} {o : Oper} {a : Act} {K : Act → World → Prop} {Q : Exit → Act → World → Prop} {R : Prop} (hgd : o.guard = none) (s x : Operand) (t : TypeId)
    (ho : o.op = .call { callee := .builtin .append, args := #[s, x], argTypes := #[t, t] }) (e e' : TypeId) (i : TypeInfo) (z : Value) (ht : P.underlying t = some (.slice e)) (hi : P.info? e = some i) (hz : i.zero = some z) (hzs : z.cells.size = E.m) (hsize : i.size = E.m) (bytes : Nat) (hby : i.bytes = bytes) (hb64 : bytes ≤ 64)
    (base : Nat) (v : Value) (xs : List α) (hs : a.eval s = v) (hown : OV E e W base v xs) (n : α) (cs : Array Value) (hcs : cs = (E.f n).toArray) (H : Nat) (hH : W.heap.size = H) (hx : a.eval x = .slice (some ⟨H, 0, none⟩) 1 1) (hn : ∀ y ∈ E.f n, y.oneCell' = true) (hlen : xs.length ≤ 1099511627776) (hbase : base ≤ W.heap.size)
    (hK : ∀ v' w', OV E e w' base v' (xs ++ [n]) → W.grownBy w' v.ownBlock → (∀ k, v'.ownBlock = some k → v.ownBlock = some k ∨ W.heap.size ≤ k) → K (a.put o.dst v') w') : if Region.wanted o (yielded ops a.tmps) = true then Oper.wp P o a (W.alloc (.cells cs e')) K Q else R := by
  subst hH
  subst hcs
  refine step_append_lies (W.alloc (.cells _ e')) hgd s x t ho base e i z E.m bytes ht hi hz hsize hby hzs E.pos v xs.length (E.flat xs) hs (hown.1.alloc _) ⟨W.heap.size, 0, none⟩ 1 1 (E.f n) hx (by simp [E.len]) ?_ ?_ (by decide) ?_ ?_ ?_ _ rfl ?_
  · intro j u hj
    rw [Addr.add_lit, World.cell?_alloc_at _ _ _ _ rfl]
    simpa using hj
  · exact hn
  · unfold maxLen; omega
  · have : (xs.length + 1) * bytes ≤ (1099511627776 + 1) * 64 := Nat.mul_le_mul (by omega) hb64
    omega
  · simp; omega
  · intro g cap w' h1 h2 h3 _
    refine hK _ w' ⟨by rw [EncV.flat_append, EncV.flat_one, List.length_append]; exact h1, fun y hy => ?_⟩ ⟨h2.os, h2.tape, h2.output, Nat.le_trans (by simp) h2.size, fun k hk hne => (h2.block k (by simp; omega) hne).trans (Below.heap_alloc W _ k hk)⟩ (fun k hk => ?_)
    · rw [EncV.flat_append, EncV.flat_one] at hy
      rcases List.mem_append.1 hy with hy | hy
      · exact hown.2 y hy
      · exact hn y hy
    · simp only [Value.ownBlock, Option.some.injEq] at hk
      rcases h3 with h3 | h3
      · exact .inl (hk ▸ h3)
      · right; simp at h3; omega
end


end Go.Proofs.YthlpbeohlhhblaaGreat
