/-
  append of a list of records to a list of the call's own.
-/
import Derived.Test.YtejnfngnofilfaaRec
import Derived.Deep.RegionLaw
import Derived.Laws.Cover3
namespace Go.Proofs.Ytejnfngnofilfaa
open Go.RowKit

section
variable {α : Type} {E : Enc α}

theorem wp_appL {P : Program} {W : World} {o : Oper} {a : Act} {K : Act → World → Prop} {Q : Exit → Act → World → Prop} (s x : Operand) (t : TypeId)
    (ho : o.op = .call { callee := .builtin .append, args := #[s, x], argTypes := #[t, t] }) (e : TypeId) (i : TypeInfo) (z : Value) (ht : P.underlying t = some (.slice e)) (hi : P.info? e = some i) (hz : i.zero = some z) (hzs : z.cells.size = E.m) (hsize : i.size = E.m) (bytes : Nat) (hby : i.bytes = bytes) (hb64 : bytes ≤ 64)
    (base : Nat) (v : Value) (xs : List α) (hs : a.eval s = v) (hown : OS E e W base v xs) (u : Value) (ys : List α) (hx : a.eval x = u) (hu : SI E W u ys) (hlen : xs.length + ys.length ≤ 1099511627776) (hbase : base ≤ W.heap.size)
    (hK : ∀ v' w', OS E e w' base v' (xs ++ ys) → W.grownBy w' v.ownBlock → K (a.put o.dst v') w') : Oper.wp P o a W K Q := by
  obtain ⟨⟨au, cu, rfl, hc1, hc2, hcell⟩, hgood⟩ := hu
  have fin : ∀ v' w', w'.ownsRow base e E.m v' (xs.length + ys.length) ((E.flat xs).map (Value.int .i64) ++ (E.flat ys).map (Value.int .i64)) → OS E e w' base v' (xs ++ ys) := fun v' w' h => by
    refine ⟨by rw [Enc.flat_append, List.map_append, List.length_append]; exact h, fun y hy => ?_⟩
    rw [Enc.flat_append] at hy
    rcases List.mem_append.1 hy with hy | hy
    · exact hown.2 y hy
    · exact hgood y hy
  cases au with
  | none =>
    have hy0 : ys = [] := by
      rcases hcell with h | ⟨b, off, h, _⟩
      · exact h
      · simp at h
    subst hy0
    have hrun := run_append_owned_none (P := P) W base t o.type e i E.m ht hi v xs.length _ hown.1
    have hfin : OS E e W base v (xs ++ []) := by rw [List.append_nil]; exact hown
    unfold Oper.wp
    by_cases hcu : cu = 0
    · subst hcu
      simp [execOp, ho, resolve, invoke, builtin, hs, hx, hrun, Result.andThen]
      exact hK v W hfin (World.grownBy.refl _ _)
    · have hrun2 : (Builtin.append_ #[t, t] o.type #[v, .slice none 0 cu]).run P W = .ok v W := by
        rcases hown.1.2 with ⟨rfl, _⟩ | ⟨g, cap, cur, rfl, _, _, hnc, _⟩
        · simp [Builtin.append_, run_underlying ht, sizeOf, typeInfo, hi, Builtin.lenOf, Builtin.firstCells]
        · simp [Builtin.append_, run_underlying ht, sizeOf, typeInfo, hi, Builtin.lenOf, Builtin.firstCells, hnc, storeCells]
      simp [execOp, ho, resolve, invoke, builtin, hs, hx, hrun2, Result.andThen]
      exact hK v W hfin (World.grownBy.refl _ _)
  | some ad =>
    have hb2 : (xs.length + ys.length) * bytes ≤ 1099511627776 * 64 := Nat.mul_le_mul hlen hb64
    refine wp_append_own W s x t ho base e i z E.m bytes ht hi hz hsize hby hzs E.pos v xs.length ((E.flat xs).map (Value.int .i64)) hs hown.1 ad ys.length cu ((E.flat ys).map (Value.int .i64)) hx (by rw [List.length_map, Enc.flat_length]) ?_ (ints_oneCell _ _) (by unfold maxLen; omega) (by omega) hbase (fun v' w' h1 h2 _ => hK v' w' (fin v' w' h1) h2)
    intro j u hj
    have hjl : j < ys.length * E.m := by
      have := (List.getElem?_eq_some_iff.1 hj).1
      rw [List.length_map, Enc.flat_length] at this
      exact this
    rcases hcell with h | ⟨b, off, h, _, hcc⟩
    · rw [h] at hjl; simp at hjl
    · simp only [Option.some.injEq] at h
      subst h
      rw [Addr.add_lit, hcc j hjl]
      rw [← hj]
      have hjf : j < (E.flat ys).length := by rw [Enc.flat_length]; exact hjl
      simp [List.getD, List.getElem?_eq_getElem hjf]

theorem wpList_appL {P : Program} {W : World} {ops : Array Oper} {rest : List Oper} {o : Oper} {a : Act} {Q : Exit → Act → World → Prop} (hgd : o.guard = none) (s x : Operand) (t : TypeId)
    (ho : o.op = .call { callee := .builtin .append, args := #[s, x], argTypes := #[t, t] }) (e : TypeId) (i : TypeInfo) (z : Value) (ht : P.underlying t = some (.slice e)) (hi : P.info? e = some i) (hz : i.zero = some z) (hzs : z.cells.size = E.m) (hsize : i.size = E.m) (bytes : Nat) (hby : i.bytes = bytes) (hb64 : bytes ≤ 64)
    (base : Nat) (v : Value) (xs : List α) (hs : a.eval s = v) (hown : OS E e W base v xs) (u : Value) (ys : List α) (hx : a.eval x = u) (hu : SI E W u ys) (hlen : xs.length + ys.length ≤ 1099511627776) (hbase : base ≤ W.heap.size)
    (hK : ∀ v' w', OS E e w' base v' (xs ++ ys) → W.grownBy w' v.ownBlock → wpList P ops Q rest (a.put o.dst v') w') : wpList P ops Q (o :: rest) a W :=
  wpList_plain hgd fun _ hK' => wp_appL s x t ho e i z ht hi hz hzs hsize bytes hby hb64 base v xs hs hown u ys hx hu hlen hbase fun v' w' h1 h2 => hK' _ _ (hK v' w' h1 h2)

end

end Go.Proofs.Ytejnfngnofilfaa
