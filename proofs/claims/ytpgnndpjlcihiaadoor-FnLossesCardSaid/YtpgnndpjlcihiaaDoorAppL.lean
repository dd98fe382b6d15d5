/-
  append of a list of records to a list of the call's own; slices.Clone of a list of tests.
-/
import Derived.Test.YtpgnndpjlcihiaaDoorLossInfo
import Derived.Deep.RegionLaw
import Derived.Laws.Cover3
namespace Go.Proofs.YtpgnndpjlcihiaaDoor
open Go.RowKit

section
variable {α : Type} {E : Enc α}

theorem wp_appL {P : Program} {W : World} {o : Oper} {a : Act} {K : Act → World → Prop} {Q : Exit → Act → World → Prop} (s x : Operand) (t : TypeId)
    (ho : o.op = .call { callee := .builtin .append, args := #[s, x], argTypes := #[t, t] }) (e : TypeId) (i : TypeInfo) (z : Value) (ht : P.underlying t = some (.slice e)) (hi : P.info? e = some i) (hz : i.zero = some z) (hzs : z.cells.size = E.m) (hsize : i.size = E.m) (bytes : Nat) (hby : i.bytes = bytes) (hb64 : bytes ≤ 64)
    (base : Nat) (v : Value) (xs : List α) (hs : a.eval s = v) (hown : OS E e W base v xs) (u : Value) (ys : List α) (hx : a.eval x = u) (hu : SI E W u ys) (hlen : xs.length + ys.length ≤ 1099511627776) (hbase : base ≤ W.heap.size)
    (hK : ∀ v' w', OS E e w' base v' (xs ++ ys) → W.grownBy w' v.ownBlock → K (a.put o.dst v') w') : Oper.wp P o a W K Q := by
  obtain ⟨⟨au, cu, rfl, hc1, hc2, hcell⟩, hgood⟩ := hu
  have fin : ∀ v' w', w'.ownsRow base e E.m v' (xs.length + ys.length) ((E.flat xs).map (Value.int .i64) ++ (E.flat ys).map (Value.int .i64)) → OS E e w' base v' (xs ++ ys) := fun v' w' h => by
    refine ⟨by rw [Enc.flat_append, List.map_append, List.length_append]; exact h, fun y hy => ?_⟩
    rw [Enc.flat_append] at hy
    rcases List.mem_append.1 hy with hy | hy
    · exact hown.2 y hy
    · exact hgood y hy
  cases au with
  | none =>
    have hy0 : ys = [] := by
      rcases hcell with h | ⟨b, off, h, _⟩
      · exact h
      · simp at h
    subst hy0
    have hrun := run_append_owned_none (P := P) W base t o.type e i E.m ht hi v xs.length _ hown.1
    have hfin : OS E e W base v (xs ++ []) := by rw [List.append_nil]; exact hown
    unfold Oper.wp
    by_cases hcu : cu = 0
    · subst hcu
      simp [execOp, ho, resolve, invoke, builtin, hs, hx, hrun, Result.andThen]
      exact hK v W hfin (World.grownBy.refl _ _)
    · have hrun2 : (Builtin.append_ #[t, t] o.type #[v, .slice none 0 cu]).run P W = .ok v W := by
        rcases hown.1.2 with ⟨rfl, _⟩ | ⟨g, cap, cur, rfl, _, _, hnc, _⟩
        · simp [Builtin.append_, run_underlying ht, sizeOf, typeInfo, hi, Builtin.lenOf, Builtin.firstCells]
        · simp [Builtin.append_, run_underlying ht, sizeOf, typeInfo, hi, Builtin.lenOf, Builtin.firstCells, hnc, storeCells]
      simp [execOp, ho, resolve, invoke, builtin, hs, hx, hrun2, Result.andThen]
      exact hK v W hfin (World.grownBy.refl _ _)
  | some ad =>
    have hb2 : (xs.length + ys.length) * bytes ≤ 1099511627776 * 64 := Nat.mul_le_mul hlen hb64
    refine wp_append_own W s x t ho base e i z E.m bytes ht hi hz hsize hby hzs E.pos v xs.length ((E.flat xs).map (Value.int .i64)) hs hown.1 ad ys.length cu ((E.flat ys).map (Value.int .i64)) hx (by rw [List.length_map, Enc.flat_length]) ?_ (ints_oneCell _ _) (by unfold maxLen; omega) (by omega) hbase (fun v' w' h1 h2 _ => hK v' w' (fin v' w' h1) h2)
    intro j u hj
    have hjl : j < ys.length * E.m := by
      have := (List.getElem?_eq_some_iff.1 hj).1
      rw [List.length_map, Enc.flat_length] at this
      exact this
    rcases hcell with h | ⟨b, off, h, _, hcc⟩
    · rw [h] at hjl; simp at hjl
    · simp only [Option.some.injEq] at h
      subst h
      rw [Addr.add_lit, hcc j hjl]
      rw [← hj]
      have hjf : j < (E.flat ys).length := by rw [Enc.flat_length]; exact hjl
      simp [List.getD, List.getElem?_eq_getElem hjf]

theorem wpList_appL {P : Program} {W : World} {ops : Array Oper} {rest : List Oper} {o : Oper} {a : Act} {Q : Exit → Act → World → Prop} (hgd : o.guard = none) (s x : Operand) (t : TypeId)
    (ho : o.op = .call { callee := .builtin .append, args := #[s, x], argTypes := #[t, t] }) (e : TypeId) (i : TypeInfo) (z : Value) (ht : P.underlying t = some (.slice e)) (hi : P.info? e = some i) (hz : i.zero = some z) (hzs : z.cells.size = E.m) (hsize : i.size = E.m) (bytes : Nat) (hby : i.bytes = bytes) (hb64 : bytes ≤ 64)
    (base : Nat) (v : Value) (xs : List α) (hs : a.eval s = v) (hown : OS E e W base v xs) (u : Value) (ys : List α) (hx : a.eval x = u) (hu : SI E W u ys) (hlen : xs.length + ys.length ≤ 1099511627776) (hbase : base ≤ W.heap.size)
    (hK : ∀ v' w', OS E e w' base v' (xs ++ ys) → W.grownBy w' v.ownBlock → wpList P ops Q rest (a.put o.dst v') w') : wpList P ops Q (o :: rest) a W :=
  wpList_plain hgd fun _ hK' => wp_appL s x t ho e i z ht hi hz hzs hsize bytes hby hb64 base v xs hs hown u ys hx hu hlen hbase fun v' w' h1 h2 => hK' _ _ (hK v' w' h1 h2)

/-- The same at a step of a region that draws its order. -/
theorem step_appL {P : Program} {W : World} {ops : Array Oper} {o : Oper} {a : Act} {K : Act → World → Prop} {Q : Exit → Act → World → Prop} {R : Prop} (hgd : o.guard = none) (s x : Operand) (t : TypeId)
    (ho : o.op = .call { callee := .builtin .append, args := #[s, x], argTypes := #[t, t] }) (e : TypeId) (i : TypeInfo) (z : Value) (ht : P.underlying t = some (.slice e)) (hi : P.info? e = some i) (hz : i.zero = some z) (hzs : z.cells.size = E.m) (hsize : i.size = E.m) (bytes : Nat) (hby : i.bytes = bytes) (hb64 : bytes ≤ 64)
    (base : Nat) (v : Value) (xs : List α) (hs : a.eval s = v) (hown : OS E e W base v xs) (u : Value) (ys : List α) (hx : a.eval x = u) (hu : SI E W u ys) (hlen : xs.length + ys.length ≤ 1099511627776) (hbase : base ≤ W.heap.size)
    (hK : ∀ v' w', OS E e w' base v' (xs ++ ys) → W.grownBy w' v.ownBlock → K (a.put o.dst v') w') : if Region.wanted o (yielded ops a.tmps) = true then Oper.wp P o a W K Q else R := by
  have hw : Region.wanted o (yielded ops a.tmps) = true := by simp [Region.wanted, hgd]
  rw [if_pos hw]
  exact wp_appL s x t ho e i z ht hi hz hzs hsize bytes hby hb64 base v xs hs hown u ys hx hu hlen hbase hK
end

/-- One record of three fields, in a block of its own, reads as a list of one. -/
theorem SI_one3 {w : World} {b : Nat} {x y z : Int} (hb : b < w.heap.size) (h0 : w.cell? ⟨b, 0, none⟩ = some (.int .i64 x)) (h1 : w.cell? ⟨b, 1, none⟩ = some (.int .i64 y)) (h2 : w.cell? ⟨b, 2, none⟩ = some (.int .i64 z)) (hx : Good x) (hy : Good y) (hz : Good z) :
    SI P3 w (.slice (some ⟨b, 0, none⟩) 1 1) [(x, y, z)] := by
  refine ⟨⟨some ⟨b, 0, none⟩, 1, rfl, Nat.le_refl _, by unfold maxLen; omega, .inr ⟨b, 0, rfl, hb, fun j hj => ?_⟩⟩, fun k hk => ?_⟩
  · have : j < 3 := hj
    rcases (by omega : j = 0 ∨ j = 1 ∨ j = 2) with rfl | rfl | rfl
    · exact h0
    · exact h1
    · exact h2
  · have hk : k ∈ [x, y, z] := hk
    simp at hk
    rcases hk with rfl | rfl | rfl
    · exact hx
    · exact hy
    · exact hz

set_option maxRecDepth 100000 in
theorem cloneLoss_any (v : Value) (xs : List (Int × Int × Int)) (w : World) (hv : SI P3 w v xs) (hl : xs.length ≤ 1048576) :
    Calls Tryd.prog 55 #[v] w fun e w' => ∃ v', e = .returned v' ∧ OS P3 25 w' w.heap.size v' xs ∧ Below w.heap.size w w' := by
  obtain ⟨a, cap, rfl⟩ := hv.shape
  obtain ⟨i0, hi, iz0, iz1, iz2⟩ := info_parts infoLoss
  have HI := Lib.hid hi
  have HV := Lib.hid hv
  cases a with
  | none =>
    have h0 : xs = [] := by
      obtain ⟨⟨a', cap', e, _, _, h3⟩, _⟩ := hv
      simp only [Value.slice.injEq] at e
      obtain ⟨rfl, _, _⟩ := e
      rcases h3 with h3 | ⟨b, off, h3, _⟩
      · exact h3
      · simp at h3
    have H0 := Lib.hid h0
    have hnil : ∀ W, (binOp .eql 30 (.slice none xs.length cap) (.slice none 0 0)).run Tryd.prog W = .ok (.bool true) W := fun W => by
      simp only [binOp]
      simp [run_equal_slice_nil W 30 25 none xs.length cap Tryd.underlying30]
    clear hv hi h0
    go_enter Tryd.func55, Tryd.ntmps55
    go_wp2
    go_ret
    exact ⟨_, rfl, by rw [H0.out]; exact OS.nil _ _ _, Below.refl _ _⟩
  | some ad =>
    have hnil : ∀ W, (binOp .eql 30 (.slice (some ad) xs.length cap) (.slice none 0 0)).run Tryd.prog W = .ok (.bool false) W := fun W => by
      simp only [binOp]
      simp [run_equal_slice_nil W 30 25 (some ad) xs.length cap Tryd.underlying30]
    have HB := Lib.hid ((Below.refl w.heap.size w).alloc (Nat.le_refl _) (.cells #[] 25))
    clear hv hi
    go_enter Tryd.func55, Tryd.ntmps55
    go_wp2_with (
      at_builtin
      refine wpList_appL (E := P3) rfl _ _ 30 rfl 25 i0 _ Tryd.underlying30 HI.out iz0 rfl iz1 24 iz2 (by decide) w.heap.size _ [] rfl (OS.lit0 _ _ _ (Nat.le_refl _)) _ xs rfl (HV.out.below HB.out) (by simp; omega) HB.out.size ?_
      intro v9 w9 h1 h2
      have H9 := Lib.hid (show OS P3 25 w9 w.heap.size v9 xs from h1)
      have HG := Lib.hid (HB.out.grown h2 (HB.out.size) (fun k hk => Nat.le_of_eq (Option.some.inj hk)))
      clear h1 h2)
    go_ret
    exact ⟨_, rfl, H9.out, HG.out⟩

end Go.Proofs.YtpgnndpjlcihiaaDoor
