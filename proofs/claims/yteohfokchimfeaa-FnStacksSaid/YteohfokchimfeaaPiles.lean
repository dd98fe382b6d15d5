/-
  A table of lists (each in memory of the call's own, or nil) and one list beside it, all apart.
-/
import Derived.Test.YteohfokchimfeaaPopPlain
import Derived.Test.YteohfokchimfeaaLib
import Derived.WalkSmall
import Derived.Deep.AppendLies
namespace Go.Proofs.Yteohfokchimfeaa
open Go.RowKit

/-- append(out, n) at a step of a region that draws, with the word where the new list lies. -/
theorem step_app1n {P : Program} {W : World} {ops : Array Oper} {o : Oper} {a : Act} {K : Act → World → Prop} {Q : Exit → Act → World → Prop} {E : Prop} (hgd : o.guard = none) (s x : Operand) (t : TypeId)
    (ho : o.op = .call { callee := .builtin .append, args := #[s, x], argTypes := #[t, t] }) (e : TypeId) (i : TypeInfo) (ht : P.underlying t = some (.slice e)) (hi : P.info? e = some i) (hz : i.zero = some (.int .i64 0)) (hsize : i.size = 1) (hby : i.bytes = 8)
    (base : Nat) (v : Value) (xs : List Int) (hs : a.eval s = v) (hown : OI e W base v xs) (ad : Addr) (n : Int) (hx : a.eval x = .slice (some ad) 1 1) (hc : W.cell? ad = some (.int .i64 n)) (hn : Good n) (hlen : xs.length ≤ 1099511627776) (hbase : base ≤ W.heap.size)
    (hK : ∀ v' w', OI e w' base v' (xs ++ [n]) → W.grownBy w' v.ownBlock → (∀ k, v'.ownBlock = some k → v.ownBlock = some k ∨ W.heap.size ≤ k) → K (a.put o.dst v') w') : if Region.wanted o (yielded ops a.tmps) = true then Oper.wp P o a W K Q else E := by
  refine step_append_lies W hgd s x t ho base e i (.int .i64 0) 1 8 ht hi hz hsize hby rfl (by decide) v xs.length (xs.map (Value.int .i64)) hs hown.1 ad 1 1 [.int .i64 n] hx rfl ?_ ?_ (by decide) ?_ ?_ hbase _ rfl ?_
  · intro j u hj
    match j, hj with
    | 0, hj =>
      simp only [List.getElem?_cons_zero, Option.some.injEq] at hj
      subst hj
      simp only [Addr.add, if_true]; exact hc
  · intro u hu; simp at hu; subst hu; rfl
  · unfold maxLen; omega
  · omega
  · intro g cap w' h1 h2 h3 _
    refine hK _ w' ⟨by simpa using h1, fun y hy => ?_⟩ h2 (fun k hk => ?_)
    · rcases List.mem_append.1 hy with hy | hy
      · exact hown.2 y hy
      · simp at hy; subst hy; exact hn
    · simp only [Value.ownBlock, Option.some.injEq] at hk
      rcases h3 with h3 | h3
      · exact .inl (hk ▸ h3)
      · right; omega

/-- The table and the list. -/
structure Piles (e t : TypeId) (w : World) (base G cap n : Nat) (rows : Nat → Value) (f : Nat → List Int) (vo : Value) (out : List Int) : Prop where
  tab : w.ownsRow base t 1 (.slice (some ⟨G, 0, none⟩) n cap) n ((List.range n).map rows)
  row : ∀ i, i < n → OI e w base (rows i) (f i)
  two : ∀ i j, i < n → j < n → i ≠ j → Apart (rows i) (rows j)
  off : ∀ i, i < n → (rows i).ownBlock ≠ some G
  own : OI e w base vo out
  far : ∀ i, i < n → Apart vo (rows i)
  out : vo.ownBlock ≠ some G

section
variable {e t : TypeId} {w w' : World} {base G cap n : Nat} {rows : Nat → Value} {f : Nat → List Int} {vo : Value} {out : List Int}

theorem ownsRow_below2 {sz m : Nat} {v : Value} {xs : List Value} (h : w.ownsRow base e sz v m xs) (hb : Below w.heap.size w w') : w'.ownsRow base e sz v m xs := by
  refine ⟨h.1, ?_⟩
  rcases h.2 with h1 | ⟨g, cap, cur, rfl, hbg, hg, r⟩
  · exact .inl h1
  · exact .inr ⟨g, cap, cur, rfl, hbg, by rw [hb.block g (Array.getElem?_eq_some_iff.1 hg).1]; exact hg, r⟩

theorem Piles.below (h : Piles e t w base G cap n rows f vo out) (hb : Below w.heap.size w w') : Piles e t w' base G cap n rows f vo out :=
  ⟨ownsRow_below2 h.tab hb, fun i hi => (h.row i hi).below hb, h.two, h.off, h.own.below hb, h.far, h.out⟩

theorem Piles.lt (h : Piles e t w base G cap n rows f vo out) : base ≤ G ∧ G < w.heap.size := h.tab.lt G rfl

theorem Piles.cell (h : Piles e t w base G cap n rows f vo out) (k : Nat) (hk : k < n) : w.cell? ⟨G, k, none⟩ = some (rows k) ∧ w.frozen? ⟨G, k, none⟩ = false := by
  refine ⟨?_, h.tab.frozenAt k⟩
  rw [h.tab.cellAt k (by omega)]
  simp [hk]

/-- A row is turned into another one, in a world where only it (or new memory) has turned; then it is stored. -/
theorem Piles.put (h : Piles e t w base G cap n rows f vo out) (k : Nat) (hk : k < n) (v' : Value) (ys : List Int) (hg : w.grownBy w' (rows k).ownBlock) (ho : OI e w' base v' ys) (hn : ∀ q, v'.ownBlock = some q → (rows k).ownBlock = some q ∨ w.heap.size ≤ q) :
    Piles e t (w'.setCell ⟨G, k, none⟩ v') base G cap n (fun i => if i = k then v' else rows i) (fun i => if i = k then ys else f i) vo out ∧ w'.grownBy (w'.setCell ⟨G, k, none⟩ v') (some G) := by
  obtain ⟨h1, h2, h3, h4, h5, h6, h7⟩ := h
  have hG := h1.lt G rfl
  have t1 := h1.kept hg (.inr (fun e => h4 k hk e.symm))
  obtain ⟨s1, s2⟩ := t1.stored k v'
  have hv : v'.ownBlock ≠ some G := fun e => by
    rcases hn G e with h | h
    · exact h4 k hk h
    · omega
  have aux : ∀ i, i < n → i ≠ k → Apart v' (rows i) := fun i hi hik q hq hq2 => by
    rcases hn q hq with h | h
    · exact h3 k i hk hi (fun e => hik e.symm) q h hq2
    · have := (h2 i hi).lt q hq2; omega
  have keep : ∀ (u : Value) (ys : List Int), OI e w' base u ys → u.ownBlock ≠ some G → OI e (w'.setCell ⟨G, k, none⟩ v') base u ys := fun u ys hu hne => hu.grown s2 (.inr hne)
  refine ⟨⟨?_, fun i hi => ?_, fun i j hi hj hij => ?_, fun i hi => ?_, ?_, fun i hi => ?_, h7⟩, s2⟩
  · have : ((List.range n).map rows).set k v' = (List.range n).map (fun i => if i = k then v' else rows i) := by
      apply List.ext_getElem?
      intro j
      rw [List.getElem?_set]
      by_cases e : k = j
      · subst e; simp [hk]
      · rw [if_neg e]
        by_cases hj : j < n
        · simp [hj, show ¬ j = k from fun e2 => e e2.symm]
        · simp [hj]
    rw [this] at s1
    exact s1
  · by_cases e : i = k
    · subst e; simp only [if_true]; exact keep _ _ ho hv
    · simp only [if_neg e]
      exact keep _ _ ((h2 i hi).other hg (h3 k i hk hi (fun e2 => e e2.symm))) (h4 i hi)
  · by_cases e1 : i = k
    · subst e1
      simp only [if_true, if_neg (show ¬ j = i from fun e => hij e.symm)]
      exact aux j hj (fun e => hij e.symm)
    · by_cases e2 : j = k
      · subst e2
        simp only [if_true, if_neg e1]
        exact (aux i hi e1).symm
      · simp only [if_neg e1, if_neg e2]
        exact h3 i j hi hj hij
  · by_cases e : i = k
    · subst e; simp only [if_true]; exact hv
    · simp only [if_neg e]; exact h4 i hi
  · exact keep _ _ (h5.other hg (h6 k hk).symm) h7
  · by_cases e : i = k
    · subst e
      simp only [if_true]
      intro q h1q h2q
      rcases hn q h2q with h | h
      · exact h6 i hk q h1q h
      · have := h5.lt q h1q; omega
    · simp only [if_neg e]; exact h6 i hi

theorem Piles.still (h : Piles e t w base G cap n rows f vo out) (k : Nat) (hk : k < n) (hg : w.grownBy w' (rows k).ownBlock) (q : Nat) (hq : q < n) : w'.cell? ⟨G, q, none⟩ = some (rows q) ∧ w'.frozen? ⟨G, q, none⟩ = false := by
  have hG := h.lt
  obtain ⟨h1, h2⟩ := h.cell q hq
  have hb := hg.block G hG.2 (fun e => h.off k hk e.symm)
  exact ⟨(World.cell?_of_block (a := ⟨G, q, none⟩) hb).trans h1, (World.frozen?_of_block (a := ⟨G, q, none⟩) hb).trans h2⟩

/-- The list has grown. -/
theorem Piles.app (h : Piles e t w base G cap n rows f vo out) (v' : Value) (ys : List Int) (hg : w.grownBy w' vo.ownBlock) (ho : OI e w' base v' ys) (hn : ∀ q, v'.ownBlock = some q → vo.ownBlock = some q ∨ w.heap.size ≤ q) :
    Piles e t w' base G cap n rows f v' ys := by
  obtain ⟨h1, h2, h3, h4, h5, h6, h7⟩ := h
  have hG := h1.lt G rfl
  refine ⟨h1.kept hg (.inr (fun e => h7 e.symm)), fun i hi => (h2 i hi).other hg (h6 i hi), h3, h4, ho, fun i hi q hq hq2 => ?_, fun e => ?_⟩
  · rcases hn q hq with h | h
    · exact h6 i hi q h hq2
    · have := (h2 i hi).lt q hq2; omega
  · rcases hn G e with h | h
    · exact h7 h
    · omega

/-- The last element of a row is taken off. -/
theorem OI.pop {g m c : Nat} {ys : List Int} {x : Int} (h : OI e w base (.slice (some ⟨g, 0, none⟩) m c) (ys ++ [x])) : OI e w base (.slice (some ⟨g, 0, none⟩) ys.length c) ys := by
  have hm : m = ys.length + 1 := by
    obtain ⟨a, c', h1⟩ := h.ri.shape
    simp at h1; exact h1.2.1
  subst hm
  obtain ⟨h1, h2⟩ := h
  rw [List.length_append, List.map_append] at h1
  exact ⟨ownsRow_pop (by simp) h1, fun y hy => h2 y (by simp [hy])⟩

end

theorem pileTo_step {xs ss : List Int} {i k : Nat} (h : ss.getD i 0 = (k : Int)) (n : Nat) : pileTo xs ss (List.replicate n 0) (i + 1) = fun q => if q = k then pileTo xs ss (List.replicate n 0) i k ++ [xs.getD i 0] else pileTo xs ss (List.replicate n 0) i q := by
  have h0 : (List.replicate n (0 : Int)).getD i 0 = 0 := by
    simp only [List.getD, List.getElem?_replicate]
    split <;> rfl
  funext q
  by_cases e : q = k
  · subst e
    rw [if_pos rfl, pileTo_yes]
    unfold onPile
    rw [h0, h]; simp
  · rw [if_neg e, pileTo_no]
    unfold onPile
    rw [h0, h]
    have : ((k : Int) == (q : Int)) = false := by rw [beq_eq_false_iff_ne]; omega
    rw [this]; simp

/-- The table as it is made, and an empty list behind it. -/
theorem Piles.start {e t : TypeId} {w : World} {base G n : Nat} (h : w.ownsRow base t 1 (.slice (some ⟨G, 0, none⟩) n n) n (madeCells (Value.slice none 0 0).cells (n * 1)).toList) (hb : base ≤ w.heap.size) :
    Piles e t (w.alloc (.cells #[] e)) base G n n (fun _ => .slice none 0 0) (fun _ => []) (.slice (some ⟨w.heap.size, 0, none⟩) 0 0) [] := by
  have hG := h.lt G rfl
  simp only [Value.cells, Nat.mul_one, toList_madeCells_one] at h
  refine ⟨?_, fun i _ => OI.nil _ _ _, fun i j _ _ _ k h1 => by simp [Value.ownBlock] at h1, fun i _ h1 => by simp [Value.ownBlock] at h1, OI.lit0 _ _ _ hb, fun i _ k _ h2 => by simp [Value.ownBlock] at h2, fun h1 => by simp [Value.ownBlock] at h1; omega⟩
  have : (List.range n).map (fun _ => Value.slice none 0 0) = List.replicate n (.slice none 0 0) := by simp [List.map_const']
  rw [this]
  exact ownsRow_below2 h ((Below.refl _ _).alloc (Nat.le_refl _) _)

end Go.Proofs.Yteohfokchimfeaa
