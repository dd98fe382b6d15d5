/-
  Memory of the search for states: the list of states, the list of lists of moves, the map, all apart. No walk yet.
  l12DrawHalls, l12DrawWay, l12Draw, A2Halls: drawn halls and ways.
-/
import Derived.Test.YthlpbeohlhhblaaGreatTopJ
import Derived.Test.YthlpbeohlhhblaaGreatTopH
import Derived.ArgAppend
import Derived.Laws.IdiomCopy
import Derived.Deep.RegionLaw
namespace Go.Proofs.YthlpbeohlhhblaaGreat
open Go.RowKit

def EV : EncV St4 := ⟨4, fun s => [.int .i64 s.1, .int .i64 s.2.1, .int .i64 s.2.2.1, .int .i64 s.2.2.2], zSt, fun _ => rfl, by decide⟩
theorem EV.one (s : St4) : ∀ y ∈ EV.f s, y.oneCell' = true := fun y hy => by
  have hy : y ∈ [(.int .i64 s.1 : Value), .int .i64 s.2.1, .int .i64 s.2.2.1, .int .i64 s.2.2.2] := hy
  simp at hy
  rcases hy with rfl | rfl | rfl | rfl <;> rfl
theorem LV.one {w : World} {v : Value} {xs : List Int} (h : RI w v xs) : ∀ y ∈ LV.f v, y.oneCell' = true := fun y hy => by
  have hy : y ∈ [v] := hy
  rw [List.mem_singleton.1 hy]
  exact h.one
theorem infoSt : (Tryz.prog.info? 121).map (fun i => (i.zero, i.size, i.bytes)) = some (some (.agg #[.int .i64 0, .int .i64 0, .int .i64 0, .int .i64 0]), 4, 32) := by kernel_rfl
theorem infoSl : (Tryz.prog.info? 24).map (fun i => (i.zero, i.size, i.bytes)) = some (some (.slice none 0 0), 1, 24) := by kernel_rfl

section
variable {α : Type} {E : EncV α}
/-- append(out, x) at a step of a region that draws: x lies in a block of its own, wherever. -/
theorem step_appVG {P : Program} {W : World} {ops : Array Oper} {o : Oper} {a : Act} {K : Act → World → Prop} {Q : Exit → Act → World → Prop} {R : Prop} (hgd : o.guard = none) (s x : Operand) (t : TypeId)
    (ho : o.op = .call { callee := .builtin .append, args := #[s, x], argTypes := #[t, t] }) (e : TypeId) (i : TypeInfo) (z : Value) (ht : P.underlying t = some (.slice e)) (hi : P.info? e = some i) (hz : i.zero = some z) (hzs : z.cells.size = E.m) (hsize : i.size = E.m) (bytes : Nat) (hby : i.bytes = bytes) (hb64 : bytes ≤ 64)
    (base : Nat) (v : Value) (xs : List α) (hs : a.eval s = v) (hown : OV E e W base v xs) (n : α) (ad : Addr) (hx : a.eval x = .slice (some ad) 1 1) (hc : ∀ j u, (E.f n)[j]? = some u → W.cell? (ad.add j) = some u) (hn : ∀ y ∈ E.f n, y.oneCell' = true) (hlen : xs.length ≤ 1099511627776) (hbase : base ≤ W.heap.size)
    (hK : ∀ v' w', OV E e w' base v' (xs ++ [n]) → W.grownBy w' v.ownBlock → (∀ k, v'.ownBlock = some k → v.ownBlock = some k ∨ W.heap.size ≤ k) → K (a.put o.dst v') w') : if Region.wanted o (yielded ops a.tmps) = true then Oper.wp P o a W K Q else R := by
  refine step_append_lies W hgd s x t ho base e i z E.m bytes ht hi hz hsize hby hzs E.pos v xs.length (E.flat xs) hs hown.1 ad 1 1 (E.f n) hx (by simp [E.len]) hc hn (by decide) ?_ ?_ hbase _ rfl ?_
  · unfold maxLen; omega
  · have : (xs.length + 1) * bytes ≤ (1099511627776 + 1) * 64 := Nat.mul_le_mul (by omega) hb64
    omega
  · intro g cap w' h1 h2 h3 _
    refine hK _ w' ⟨by rw [EncV.flat_append, EncV.flat_one, List.length_append]; exact h1, fun y hy => ?_⟩ h2 (fun k hk => ?_)
    · rw [EncV.flat_append, EncV.flat_one] at hy
      rcases List.mem_append.1 hy with hy | hy
      · exact hown.2 y hy
      · exact hn y hy
    · simp only [Value.ownBlock, Option.some.injEq] at hk
      rcases h3 with h3 | h3
      · exact .inl (hk ▸ h3)
      · right; omega
end

/-! ### how long lists of moves are -/
def sum4 (s : St4) : Int := s.1 + s.2.1 + s.2.2.1 + s.2.2.2
theorem sum4_mv (s : St4) {c : Nat} (hc : c < 4) : sum4 (mv4 s c) = sum4 s + 1 := by
  match c, hc with
  | 0, _ | 1, _ | 2, _ | 3, _ => simp only [sum4, mv4]; omega
theorem path_sum {halls : List Int} {ways : List (List Int)} (ok : OkHW halls ways) {ms : List Int} (h : LegalS halls ways ms) : ∀ k, k ≤ ms.length → sum4 (pathS (ms.take k)) = k
  | 0, _ => rfl
  | k + 1, hk => by
    have ih := path_sum ok h k (by omega)
    obtain ⟨c, h1, h2, h3⟩ := movesP_mem (h k (by omega))
    have hw := ok.w4
    rw [take_snoc ms k (by omega), path_snoc, h2, Int.toNat_natCast, sum4_mv _ (by omega), ih]
    omega
theorem legal_len {halls : List Int} {ways : List (List Int)} (ok : OkHW halls ways) {ms : List Int} (h : LegalS halls ways ms) : ms.length ≤ 24 := by
  have h1 := path_sum ok h ms.length (Nat.le_refl _)
  rw [List.take_length] at h1
  have hb := okP_bound ok (legal_all ok h)
  have b0 := hb 0
  have b1 := hb 1
  have b2 := hb 2
  have b3 := hb 3
  generalize pathS ms = s at *
  obtain ⟨a, b, c, d⟩ := s
  simp only [sum4, at4] at *
  omega

/-- v's block is there, and none of these. -/
def Free (w : World) (us ul : Value) (r : Nat) (v : Value) : Prop := ∀ q, v.ownBlock = some q → q < w.heap.size ∧ us.ownBlock ≠ some q ∧ ul.ownBlock ≠ some q ∧ q ≠ r

/-- The search's memory: states (us), lists (ul, whose cells hold rs), the map in block r, and the list of moves that is gone through (vm). -/
structure RG (w : World) (base r : Nat) (us ul : Value) (rs : List Value) (S : List St4) (L : List (List Int)) (M : List St4) (vm : Value) (cs : List Int) : Prop where
  st : OV EV 121 w base us S
  ls : OV LV 24 w base ul rs
  rows : WayRows w rs L
  mp : MapS w r M
  can : RI w vm cs
  r0 : base ≤ r
  su : ∀ j, us.ownBlock = some j → ul.ownBlock ≠ some j
  ur : us.ownBlock ≠ some r
  lr : ul.ownBlock ≠ some r
  sp : ∀ i, i < rs.length → Free w us ul r (rs.getD i vz)
  fm : Free w us ul r vm

section
variable {w w' : World} {base r : Nat} {us ul : Value} {rs : List Value} {S : List St4} {L : List (List Int)} {M : List St4} {vm : Value} {cs : List Int}

theorem Free.more {v : Value} (h : Free w us ul r v) (hs : w.heap.size ≤ w'.heap.size) : Free w' us ul r v := fun q hq => ⟨Nat.lt_of_lt_of_le (h q hq).1 hs, (h q hq).2⟩
theorem RG.below (h : RG w base r us ul rs S L M vm cs) (hb : Below w.heap.size w w') : RG w' base r us ul rs S L M vm cs :=
  ⟨h.st.below hb, h.ls.below hb, h.rows.below hb, h.mp.below hb, h.can.below hb, h.r0, h.su, h.ur, h.lr, fun i hi => (h.sp i hi).more hb.size, h.fm.more hb.size⟩
theorem WayRows.grown {row : Option Nat} (h : WayRows w rs L) (hg : w.grownBy w' row) (hne : ∀ i k, i < rs.length → row = some k → (rs.getD i vz).ownBlock ≠ some k) : WayRows w' rs L :=
  ⟨h.1, fun i hi => (h.2 i hi).grown hg fun k hk => hne i k (by rw [h.1]; exact hi) hk⟩

/-- The map has one more. -/
theorem RG.put (h : RG w base r us ul rs S L M vm cs) {M' : List St4} (hm : MapS w' r M') (hg : w.grownBy w' (some r)) : RG w' base r us ul rs S L M' vm cs :=
  ⟨h.st.grown hg (.inr h.ur), h.ls.grown hg (.inr h.lr), h.rows.grown hg (fun i k hi hk e => (h.sp i hi k e).2.2.2 (Option.some.inj hk).symm), hm, h.can.grown hg (fun k hk e => (h.fm k e).2.2.2 (Option.some.inj hk).symm), h.r0, h.su, h.ur, h.lr, fun i hi => (h.sp i hi).more hg.size, h.fm.more hg.size⟩

/-- One more state. -/
theorem RG.addSt (h : RG w base r us ul rs S L M vm cs) {us' : Value} {S' : List St4} (h1 : OV EV 121 w' base us' S') (hg : w.grownBy w' us.ownBlock) (h3 : ∀ k, us'.ownBlock = some k → us.ownBlock = some k ∨ w.heap.size ≤ k) : RG w' base r us' ul rs S' L M vm cs := by
  have hne : ∀ q, q < w.heap.size → us.ownBlock ≠ some q → us'.ownBlock ≠ some q := fun q hq h4 e => by
    rcases h3 q e with h5 | h5
    · exact h4 h5
    · omega
  have hfree : ∀ v, Free w us ul r v → Free w' us' ul r v := fun v hv q hq => by
    obtain ⟨a, b, c, d⟩ := hv q hq
    exact ⟨Nat.lt_of_lt_of_le a hg.size, hne q a b, c, d⟩
  refine ⟨h1, h.ls.grown hg ?_, h.rows.grown hg (fun i k hi hk e => (h.sp i hi k e).2.1 hk), h.mp.grown hg (fun e => h.ur e.symm), h.can.grown hg (fun k hk e => (h.fm k e).2.1 hk), h.r0, fun j hj e => ?_, hne r h.mp.lt h.ur, h.lr, fun i hi => hfree _ (h.sp i hi), hfree _ h.fm⟩
  · cases hu : us.ownBlock with
    | none =>
      cases hl : ul.ownBlock with
      | none => exact .inl rfl
      | some q => exact .inr (by simp)
    | some q => exact .inr (h.su q hu)
  · rcases h3 j hj with h5 | h5
    · exact h.su j h5 e
    · have := (h.ls.lt j e).2
      omega

/-- One more list. -/
theorem RG.addLs (h : RG w base r us ul rs S L M vm cs) {ul' s : Value} {x : List Int} (h1 : OV LV 24 w' base ul' (rs ++ [s])) (hg : w.grownBy w' ul.ownBlock) (h3 : ∀ k, ul'.ownBlock = some k → ul.ownBlock = some k ∨ w.heap.size ≤ k)
    (hs : RI w s x) (hf : Free w us ul r s) : RG w' base r us ul' (rs ++ [s]) S (L ++ [x]) M vm cs := by
  have hne : ∀ q, q < w.heap.size → ul.ownBlock ≠ some q → ul'.ownBlock ≠ some q := fun q hq h4 e => by
    rcases h3 q e with h5 | h5
    · exact h4 h5
    · omega
  have hfree : ∀ v, Free w us ul r v → Free w' us ul' r v := fun v hv q hq => by
    obtain ⟨a, b, c, d⟩ := hv q hq
    exact ⟨Nat.lt_of_lt_of_le a hg.size, b, hne q a c, d⟩
  refine ⟨h.st.grown hg ?_, h1, WayRows.snoc (h.rows.grown hg (fun i k hi hk e => (h.sp i hi k e).2.2.1 hk)) (hs.grown hg fun k hk e => (hf k e).2.2.1 hk), h.mp.grown hg (fun e => h.lr e.symm), h.can.grown hg (fun k hk e => (h.fm k e).2.2.1 hk), h.r0, fun j hj e => ?_, h.ur, hne r h.mp.lt h.lr, fun i hi => ?_, hfree _ h.fm⟩
  · cases hu : us.ownBlock with
    | none => exact .inl rfl
    | some q => exact .inr (fun e => h.su q hu e.symm)
  · rcases h3 j e with h5 | h5
    · exact h.su j hj h5
    · have := (h.st.lt j hj).2
      omega
  · rw [getD_snoc]
    simp only [List.length_append, List.length_singleton] at hi
    by_cases e : i < rs.length
    · rw [if_pos e]; exact hfree _ (h.sp i e)
    · rw [if_neg e, if_pos (by omega)]; exact hfree _ hf

/-- A value in newer memory is free. -/
theorem RG.free (h : RG w base r us ul rs S L M vm cs) {v : Value} (hv : ∀ q, v.ownBlock = some q → w.heap.size ≤ q ∧ q < w'.heap.size) : Free w' us ul r v := fun q hq => by
  obtain ⟨a, b⟩ := hv q hq
  refine ⟨b, fun e => ?_, fun e => ?_, fun e => ?_⟩
  · have := (h.st.lt q e).2
    omega
  · have := (h.ls.lt q e).2
    omega
  · have := h.mp.lt
    omega
theorem RG.new (h : RG w base r us ul rs S L M vm cs) {v : Value} {xs : List Int} (hr : RI w v xs) (hf : Free w us ul r v) : RG w base r us ul rs S L M v xs := ⟨h.st, h.ls, h.rows, h.mp, hr, h.r0, h.su, h.ur, h.lr, h.sp, hf⟩
theorem RG.back (h : RG w base r us ul rs S L M vm cs) {v : Value} {xs : List Int} (hr : RI w v xs) (hf : ∀ q, v.ownBlock = some q → q < base) (hb : base ≤ w.heap.size) : RG w base r us ul rs S L M v xs :=
  h.new hr fun q hq => by
    have h1 := hf q hq
    refine ⟨by omega, fun e => ?_, fun e => ?_, fun e => ?_⟩
    · have := (h.st.lt q e).1
      omega
    · have := (h.ls.lt q e).1
      omega
    · have := h.r0
      omega
/-- A state's cells. -/
theorem RG.state (h : RG w base r us ul rs S L M vm cs) {i : Nat} (hi : i < S.length) : ∃ b off cap, us = .slice (some ⟨b, off, none⟩) S.length cap ∧ b < w.heap.size ∧
    w.cell? ⟨b, off + i * 4, none⟩ = some (.int .i64 (S.getD i zSt).1) ∧ w.cell? ⟨b, off + i * 4 + 1, none⟩ = some (.int .i64 (S.getD i zSt).2.1) ∧ w.cell? ⟨b, off + i * 4 + 2, none⟩ = some (.int .i64 (S.getD i zSt).2.2.1) ∧ w.cell? ⟨b, off + i * 4 + 3, none⟩ = some (.int .i64 (S.getD i zSt).2.2.2) := by
  have hs := h.st.si
  obtain ⟨a, cap, hsh⟩ := hs.shape
  subst hsh
  obtain ⟨b, off, rfl, hb, hc⟩ := hs.cells (by omega)
  exact ⟨b, off, cap, rfl, hb, hc i 0 hi (by decide), hc i 1 hi (by decide), hc i 2 hi (by decide), hc i 3 hi (by decide)⟩
/-- A list's cell. -/
theorem RG.list (h : RG w base r us ul rs S L M vm cs) {i : Nat} (hi : i < L.length) : ∃ b cap, ul = .slice (some ⟨b, 0, none⟩) L.length cap ∧ b < w.heap.size ∧ w.cell? ⟨b, i, none⟩ = some (rs.getD i vz) ∧ RI w (rs.getD i vz) (L.getD i []) := by
  have hl := h.rows.1
  rcases h.ls.shape with ⟨_, h0⟩ | ⟨g, cap, hsh, _, hg⟩
  · rw [h0] at hl; simp at hl; omega
  · subst hsh
    refine ⟨g, cap, by rw [hl], hg, ?_, h.rows.2 i hi⟩
    have := (h.ls.cell i 0 (by omega) (by decide)).1
    rw [show i * LV.m + 0 = i by show i * 1 + 0 = i; omega] at this
    exact this
end

/-- A block that has just been laid, cell by cell. -/
theorem laid_cells (w : World) (cs : List Value) (e : TypeId) : ∀ j u, cs[j]? = some u → (w.alloc (.cells cs.toArray e)).cell? ((⟨w.heap.size, 0, none⟩ : Addr).add j) = some u := fun j u hj => by
  rw [Addr.add_lit, World.cell?_alloc_at _ _ _ _ rfl]
  simpa using hj

/-- append(out, n) at a step of a region that draws, with the word where the new list lies. -/
theorem step_app1G {P : Program} {W : World} {ops : Array Oper} {o : Oper} {a : Act} {K : Act → World → Prop} {Q : Exit → Act → World → Prop} {E : Prop} (hgd : o.guard = none) (s x : Operand) (t : TypeId)
    (ho : o.op = .call { callee := .builtin .append, args := #[s, x], argTypes := #[t, t] }) (e : TypeId) (i : TypeInfo) (ht : P.underlying t = some (.slice e)) (hi : P.info? e = some i) (hz : i.zero = some (.int .i64 0)) (hsize : i.size = 1) (hby : i.bytes = 8)
    (base : Nat) (v : Value) (xs : List Int) (hs : a.eval s = v) (hown : OI e W base v xs) (ad : Addr) (n : Int) (hx : a.eval x = .slice (some ad) 1 1) (hc : W.cell? ad = some (.int .i64 n)) (hn : Good n) (hlen : xs.length ≤ 1099511627776) (hbase : base ≤ W.heap.size)
    (hK : ∀ v' w', OI e w' base v' (xs ++ [n]) → W.grownBy w' v.ownBlock → (∀ k, v'.ownBlock = some k → v.ownBlock = some k ∨ W.heap.size ≤ k) → K (a.put o.dst v') w') : if Region.wanted o (yielded ops a.tmps) = true then Oper.wp P o a W K Q else E := by
  refine step_append_lies W hgd s x t ho base e i (.int .i64 0) 1 8 ht hi hz hsize hby rfl (by decide) v xs.length (xs.map (Value.int .i64)) hs hown.1 ad 1 1 [.int .i64 n] hx rfl ?_ ?_ (by decide) ?_ ?_ hbase _ rfl ?_
  · intro j u hj
    match j, hj with
    | 0, hj =>
      simp only [List.getElem?_cons_zero, Option.some.injEq] at hj
      subst hj
      simp only [Addr.add, if_true]; exact hc
  · intro u hu; simp at hu; subst hu; rfl
  · unfold maxLen; omega
  · omega
  · intro g cap w' h1 h2 h3 _
    refine hK _ w' ⟨by simpa using h1, fun y hy => ?_⟩ h2 (fun k hk => ?_)
    · rcases List.mem_append.1 hy with hy | hy
      · exact hown.2 y hy
      · simp at hy; subst hy; exact hn
    · simp only [Value.ownBlock, Option.some.injEq] at hk
      rcases h3 with h3 | h3
      · exact .inl (hk ▸ h3)
      · right; omega

/-- What append leaves of the old row: its elements, whether there was room or not. -/
theorem append_keeps {P : Program} {W w' : World} (t ty e : TypeId) (i : TypeInfo) (z : Value) (bytes : Nat) (ht : P.underlying t = some (.slice e)) (hi : P.info? e = some i) (hz : i.zero = some z) (hzs : z.cells.size = 1) (hsize : i.size = 1) (hby : i.bytes = bytes)
    (base g n cap : Nat) (xs : List Value) (hown : W.ownsRow base e 1 (.slice (some ⟨g, 0, none⟩) n cap) n xs) (ad : Addr) (u v' : Value) (hc : ∀ j y, [u][j]? = some y → W.cell? (ad.add j) = some y) (h1 : ∀ y ∈ [u], y.oneCell' = true)
    (h63 : n + 1 ≤ maxLen) (hbytes : (n + 1) * bytes ≤ 140737488355328) (hr : (Builtin.append_ #[t, t] ty #[.slice (some ⟨g, 0, none⟩) n cap, .slice (some ad) 1 1]).run P W = .ok v' w') :
    ∀ j, j < n → w'.cell? ⟨g, j, none⟩ = W.cell? ⟨g, j, none⟩ := by
  intro j hj
  by_cases hroom : n + 1 ≤ cap
  · have h := run_append_room_cells (P := P) W t ty e i ht hi g 0 n cap ad 1 1 [u] (by rw [hsize]; rfl) hc h1 hroom (fun k hk => by
        obtain rfl : k = 0 := by simpa using hk
        rw [hsize]
        rcases hown.2 with ⟨h2, _⟩ | ⟨g', cap', cur, h2, _, h3, _, _, h4, _⟩
        · simp at h2
        · simp only [Value.slice.injEq, Option.some.injEq, Addr.mk.injEq] at h2
          obtain ⟨⟨rfl, _⟩, _, rfl⟩ := h2
          rw [cell_of_row W g _ cur e (0, 0) h3, Array.getElem?_eq_getElem (by omega)]
          rfl) (fun k hk => by
        rcases hown.2 with ⟨h2, _⟩ | ⟨g', cap', cur, h2, _, h3, _⟩
        · simp at h2
        · simp only [Value.slice.injEq, Option.some.injEq, Addr.mk.injEq] at h2
          obtain ⟨⟨rfl, _⟩, _, rfl⟩ := h2
          exact hown.frozenAt _)
    rw [h] at hr
    obtain ⟨rfl, rfl⟩ := hr
    exact World.cell?_setCells_out g [u] _ W ⟨g, j, none⟩ (fun _ _ => .inl (by rw [hsize]; show j < _; omega))
  · obtain ⟨v2, w2, h, _, h3⟩ := run_append_arg_grows (P := P) W t ty e i z 1 bytes ht hi hz hsize hby hzs (by decide) ⟨g, 0, none⟩ n cap xs (by rw [hown.1]) (fun j y hj => by
        have hjl : j < n := by
          have := (List.getElem?_eq_some_iff.1 hj).1
          rw [hown.1] at this
          omega
        rw [Addr.add_lit, Nat.zero_add, hown.cellAt j (by omega)]
        exact hj) ad 1 1 [u] rfl hc (by omega) h63 hbytes
    rw [h] at hr
    obtain ⟨rfl, rfl⟩ := hr
    refine World.cell?_of_block (h3.block g ?_ (by simp))
    exact (hown.lt g rfl).2

/-- append(lists, list) at a step of a region that draws; the old row's elements stay where they were. -/
theorem step_appLK {P : Program} {W : World} {ops : Array Oper} {o : Oper} {a : Act} {K : Act → World → Prop} {Q : Exit → Act → World → Prop} {R : Prop} (hgd : o.guard = none) (s x : Operand) (t : TypeId)
    (ho : o.op = .call { callee := .builtin .append, args := #[s, x], argTypes := #[t, t] }) (e : TypeId) (i : TypeInfo) (z : Value) (ht : P.underlying t = some (.slice e)) (hi : P.info? e = some i) (hz : i.zero = some z) (hzs : z.cells.size = 1) (hsize : i.size = 1) (bytes : Nat) (hby : i.bytes = bytes) (hb64 : bytes ≤ 64)
    (base : Nat) (g cap len : Nat) (xs : List Value) (hle : xs.length = len) (hs : a.eval s = .slice (some ⟨g, 0, none⟩) len cap) (hown : OV LV e W base (.slice (some ⟨g, 0, none⟩) len cap) xs) (n : Value) (ad : Addr) (hx : a.eval x = .slice (some ad) 1 1) (hc : ∀ j u, (LV.f n)[j]? = some u → W.cell? (ad.add j) = some u) (hn : ∀ y ∈ LV.f n, y.oneCell' = true) (hlen : xs.length ≤ 1099511627776) (hbase : base ≤ W.heap.size)
    (hK : ∀ v' w', OV LV e w' base v' (xs ++ [n]) → W.grownBy w' (some g) → (∀ k, v'.ownBlock = some k → g = k ∨ W.heap.size ≤ k) → (∀ j, j < xs.length → w'.cell? ⟨g, j, none⟩ = W.cell? ⟨g, j, none⟩) → K (a.put o.dst v') w') : if Region.wanted o (yielded ops a.tmps) = true then Oper.wp P o a W K Q else R := by
  subst hle
  have hw : Region.wanted o (yielded ops a.tmps) = true := by simp [Region.wanted, hgd]
  rw [if_pos hw]
  have h63 : xs.length + 1 ≤ maxLen := by unfold maxLen; omega
  have hbt : (xs.length + 1) * bytes ≤ 140737488355328 := by
    have : (xs.length + 1) * bytes ≤ (1099511627776 + 1) * 64 := Nat.mul_le_mul (by omega) hb64
    omega
  have hf : LV.f n = [n] := rfl
  have hxs : LV.flat xs = xs := by
    unfold EncV.flat
    show xs.flatMap (fun v => [v]) = xs
    simp
  obtain ⟨g', cap', w', hr, h2, h3, h4, h5⟩ := run_append_lies (P := P) W t o.type base e i z 1 bytes ht hi hz hsize hby hzs (by decide) _ xs.length (LV.flat xs) hown.1 ad 1 1 (LV.f n) rfl hc hn (by decide) h63 hbt hbase _ rfl
  have hk := append_keeps t o.type e i z bytes ht hi hz hzs hsize hby base g xs.length cap (LV.flat xs) hown.1 ad n _ hc hn h63 hbt hr
  unfold Oper.wp execOp
  simp only [ho, resolve, invoke, builtin, Sem.run_bind, Sem.run_pure, Result.andThen_ok, List.map_toArray, List.map_cons, List.map_nil, hs, hx, hr]
  refine hK _ w' ⟨by rw [EncV.flat_append, EncV.flat_one, List.length_append]; exact h2, fun y hy => ?_⟩ h3 (fun k hk => ?_) hk
  · rw [EncV.flat_append, EncV.flat_one] at hy
    rcases List.mem_append.1 hy with hy | hy
    · exact hown.2 y hy
    · exact hn y hy
  · simp only [Value.ownBlock, Option.some.injEq] at hk h4
    rcases h4 with h4 | h4
    · exact .inl (h4.trans hk)
    · right; omega

theorem laidA (w : World) (cs : List Value) (e : TypeId) (H : Nat) (hH : H = w.heap.size) : ∀ j u, cs[j]? = some u → (w.alloc (.cells cs.toArray e)).cell? ((⟨H, 0, none⟩ : Addr).add j) = some u := by
  subst hH
  exact laid_cells w cs e
theorem laidB (w : World) (cs : List Value) (e : TypeId) (o : Obj) (H : Nat) (hH : H = w.heap.size) : ∀ j u, cs[j]? = some u → ((w.alloc (.cells cs.toArray e)).alloc o).cell? ((⟨H, 0, none⟩ : Addr).add j) = some u := by
  subst hH
  intro j u hj
  rw [← laid_cells w cs e j u hj, Addr.add_lit]
  exact ((Below.refl _ _).alloc (Nat.le_refl _) _).cell (by show w.heap.size < _; simp)
theorem laidC (w : World) (o : Obj) (cs : List Value) (e : TypeId) (H : Nat) (hH : H = w.heap.size + 1) : ∀ j u, cs[j]? = some u → ((w.alloc o).alloc (.cells cs.toArray e)).cell? ((⟨H, 0, none⟩ : Addr).add j) = some u :=
  laidA (w.alloc o) cs e H (by rw [hH]; simp)
theorem newA (w : World) (x : Value) (e : TypeId) (H : Nat) (hH : H = w.heap.size) : (w.alloc (.cells #[x] e)).cell? ⟨H, 0, none⟩ = some x := by
  have := laidA w [x] e H hH 0 x rfl
  rw [Addr.add_lit] at this
  exact this
theorem newB (w : World) (x : Value) (e : TypeId) (o : Obj) (H : Nat) (hH : H = w.heap.size) : ((w.alloc (.cells #[x] e)).alloc o).cell? ⟨H, 0, none⟩ = some x := by
  have := laidB w [x] e o H hH 0 x rfl
  rw [Addr.add_lit] at this
  exact this
theorem newC (w : World) (o : Obj) (x : Value) (e : TypeId) (H : Nat) (hH : H = w.heap.size + 1) : ((w.alloc o).alloc (.cells #[x] e)).cell? ⟨H, 0, none⟩ = some x := by
  have := laidC w o [x] e H hH 0 x rfl
  rw [Addr.add_lit] at this
  exact this
theorem laidAd (w : World) (cs : List Value) (e : TypeId) (H : Nat) (hH : H = w.heap.size) : ∀ j u, cs[j]? = some u → (w.alloc (.cells cs.toArray e)).drew.cell? ((⟨H, 0, none⟩ : Addr).add j) = some u := laidA w.drew cs e H hH
theorem laidBd (w : World) (cs : List Value) (e : TypeId) (o : Obj) (H : Nat) (hH : H = w.heap.size) : ∀ j u, cs[j]? = some u → ((w.alloc (.cells cs.toArray e)).alloc o).drew.cell? ((⟨H, 0, none⟩ : Addr).add j) = some u := laidB w.drew cs e o H hH
theorem laidCd (w : World) (o : Obj) (cs : List Value) (e : TypeId) (H : Nat) (hH : H = w.heap.size + 1) : ∀ j u, cs[j]? = some u → ((w.alloc o).alloc (.cells cs.toArray e)).drew.cell? ((⟨H, 0, none⟩ : Addr).add j) = some u := laidC w.drew o cs e H hH
theorem newBd (w : World) (x : Value) (e : TypeId) (o : Obj) (H : Nat) (hH : H = w.heap.size) : ((w.alloc (.cells #[x] e)).alloc o).drew.cell? ⟨H, 0, none⟩ = some x := newB w.drew x e o H hH
theorem newCd (w : World) (o : Obj) (x : Value) (e : TypeId) (H : Nat) (hH : H = w.heap.size + 1) : ((w.alloc o).alloc (.cells #[x] e)).drew.cell? ⟨H, 0, none⟩ = some x := newC w.drew o x e H hH
/-- A cell of another block stays. -/
theorem cell_grown {w w' : World} {row : Option Nat} (hg : w.grownBy w' row) {b o : Nat} {v : Value} (hc : w.cell? ⟨b, o, none⟩ = some v) (hlt : b < w.heap.size) (hne : some b ≠ row) : w'.cell? ⟨b, o, none⟩ = some v := (World.cell?_of_block (hg.block b hlt hne)).trans hc
theorem cell_belowG {w w' : World} (hb : Below w.heap.size w w') {b o : Nat} {v : Value} (hc : w.cell? ⟨b, o, none⟩ = some v) (hlt : b < w.heap.size) : w'.cell? ⟨b, o, none⟩ = some v := (hb.cell (p := ⟨b, o, none⟩) hlt).trans hc

end Go.Proofs.YthlpbeohlhhblaaGreat
namespace Go.Proofs.YthlpbeohlhhblaaGreat
open Go.RowKit

set_option maxRecDepth 100000 in
theorem l12DrawHalls_any (v : Value) (m b base c0 : Nat) (w : World) (hv : BI w v m) (hs : SrcAt w base b v c0) (hc0 : c0 ≤ 1000000) (hne : 0 < m → v.ownBlock ≠ some b) :
    Calls Tryz.prog 37 #[.pointer (some ⟨b, 0, none⟩)] w fun e w' => ∃ v' xs, e = .returned v' ∧ OI 2 w' w.heap.size v' xs ∧ (∀ x ∈ xs, 1 ≤ x ∧ x ≤ 2) ∧ 1 ≤ xs.length ∧ xs.length ≤ 4 ∧ w.grownBy w' (some b) ∧ SrcAt w' base b v (c0 + 20) := by
  have HV := Lib.hid hv
  have hblt := hs.lt.2
  have HS := Lib.hid hs
  clear hv hs
  obtain ⟨i0, hi, iz0, iz1, iz2⟩ := info_parts infoInt64
  have HI := Lib.hid hi
  clear hi
  have hA := (Below.refl w.heap.size w).alloc (Nat.le_refl _) (.cells #[] 2)
  have HO1 := Lib.hid (OI.lit0 2 w w.heap.size (Nat.le_refl _))
  have HS2 := Lib.hid (HS.out.below hA)
  have HV2 := Lib.hid (HV.out.below hA)
  have HG2 := Lib.hid (grown_below (row := some b) hA)
  clear hA
  go_enter Tryz.func37, Tryz.ntmps37
  go_wp2_with fail
  refine (pick_any v m b base c0 4 _ HV2.out HS2.out (by omega) hne).mono ?_
  rintro e w3 ⟨z, rfl, z0, _, z1, _, hs3, hg3⟩
  have z9 : z < 4 := z1 (by omega)
  obtain ⟨Y, rfl⟩ : ∃ Y : Nat, z = Y := ⟨z.toNat, by omega⟩
  have HG3 := Lib.hid (grownBy_trans HG2.out hg3)
  have HO3 := Lib.hid (HO1.out.grown hg3 (.inr (fun e => Nat.ne_of_gt hblt (Option.some.inj e))))
  have HS3 := Lib.hid hs3
  obtain ⟨Z, hZ⟩ : ∃ Z, Z = Y + 1 := ⟨_, rfl⟩
  have hwy : IntKind.i64.wrap (1 + (Y : Int)) = (Z : Int) := by rw [IntWalk.i64_in _ (by omega)]; omega
  have hZ1 : 1 ≤ Z := by omega
  have hZ2 : Z ≤ 4 := by omega
  clear z1 hs3 hg3 hZ
  go_wp2_with fail
  go_loopw [3, 4] (fun o i wr => ∃ (k : Nat) (u : Value) (xs : List Int), k ≤ Z ∧ u = o ∧ i = .int .i64 k ∧ Hid (OI 2 wr w.heap.size u xs) ∧ Hid ((∀ x ∈ xs, 1 ≤ x ∧ x ≤ 2) ∧ xs.length + k = Z) ∧ Hid (w.grownBy wr (some b)) ∧ Hid (SrcAt wr base b v (c0 + 2 + 2 * (Z - k)))) (fun _ i _ => (intOf i).toNat)
  case atStart => exact ⟨Z, _, [], Nat.le_refl _, rfl, rfl, HO3, Lib.hid ⟨by simp, by simp⟩, HG3, Lib.hid (HS3.out.more (by omega))⟩
  case round =>
    obtain ⟨k, u, xs, hk, rfl, rfl, HO, HX, HG, HSR⟩ := hrel
    rename World => wo
    by_cases hlt : 0 < k
    · have hd : decide ((0 : Int) < (k : Int)) = true := decide_eq_true (by omega)
      have hd2 : decide (0 < k) = true := decide_eq_true hlt
      obtain ⟨q, hq⟩ : ∃ q, q = k - 1 := ⟨_, rfl⟩
      have HQ := Lib.hid hq
      have hwq : IntKind.i64.wrap ((k : Int) - 1) = (q : Int) := by rw [IntWalk.i64_in _ (by omega)]; omega
      clear hq
      have hxl : xs.length ≤ 10 := by have := HX.out.2; omega
      have C2 := Lib.hid (one_any v m b base (c0 + 2 + 2 * (Z - k)) 4 wo (HV.out.grown HG.out hne) HSR.out (by omega) hne)
      have hne1 : u.ownBlock ≠ some b := fun e => by
        have := (HO.out.lt b e).1
        omega
      go_wp2_with fail
      refine C2.out.mono ?_
      rintro e w4 ⟨y, rfl, hs3, hg3⟩
      have HG4 := Lib.hid (grownBy_trans HG.out hg3)
      have HO4 := Lib.hid (HO.out.grown hg3 (.inr hne1))
      have HS4 := Lib.hid hs3
      have hsz := HG4.out.size
      clear hs3 hg3
      cases y
      all_goals
        go_wp2_with (
          at_builtin
          refine wpList_app1n rfl _ _ 24 rfl 2 _ i0 Tryz.underlying24 HI.out iz0 iz1 iz2 w.heap.size _ _ rfl HO4.out _ _ (by simp) rfl (by unfold Good; omega) (by omega) hsz ?_
          intro v9 w9 h1 h2 h3
          have H9 := Lib.hid h1
          have HG9 := Lib.hid (grown_chain HG4.out h2 (fun q hq => (HO4.out.lt q hq).1))
          have HS9 := Lib.hid (HS4.out.grown h2 (fun e => hne1 e.symm))
          clear h1 h2 h3)
        go_roundw
        case rel =>
          have hq := HQ.out
          exact ⟨q, _, xs ++ [_], by omega, rfl, rfl, H9, Lib.hid ⟨fun x hx => by
            rcases List.mem_append.1 hx with hx | hx
            · exact HX.out.1 x hx
            · rw [List.mem_singleton.1 hx]; omega, by have := HX.out.2; simp; omega⟩, HG9, Lib.hid (HS9.out.more (by omega))⟩
        case measure =>
          have := HQ.out
          simp [intOf]; omega
    · have hd : decide ((0 : Int) < (k : Int)) = false := decide_eq_false (by omega)
      have hd2 : decide (0 < k) = false := decide_eq_false hlt
      go_wp2
      go_ret
      exact ⟨_, xs, rfl, HO.out, HX.out.1, by have := HX.out.2; omega, by have := HX.out.2; omega, HG.out, HSR.out.more (by omega)⟩

/-! ### a way -/
theorem road_one {m : Nat} {x : Int} (h : 0 ≤ x ∧ x < m) : okRoad m [x] := by
  refine ⟨by simp, by simp, fun k hk => ?_, fun k hk => ?_⟩
  · obtain rfl : k = 0 := by simpa using hk
    exact h
  · simp at hk
theorem road_snoc {m : Nat} {xs : List Int} {x : Int} (h : okRoad m xs) (hl : xs.length ≤ 4) (hx : 0 ≤ x ∧ x < m) (hne : xs.getD (xs.length - 1) 0 ≠ x) : okRoad m (xs ++ [x]) := by
  obtain ⟨h1, h2, h3, h4⟩ := h
  refine ⟨by simp, by simp; omega, fun k hk => ?_, fun k hk => ?_⟩
  · rw [List.length_append, List.length_singleton] at hk
    rw [getD_snoc]
    by_cases e : k < xs.length
    · rw [if_pos e]; exact h3 k e
    · rw [if_neg e, if_pos (by omega)]; exact hx
  · rw [List.length_append, List.length_singleton] at hk
    rw [getD_snoc, getD_snoc, if_pos (by omega)]
    by_cases e : k + 1 < xs.length
    · rw [if_pos e]; exact h4 k e
    · rw [if_neg e, if_pos (by omega)]
      rw [show xs.length - 1 = k by omega] at hne
      exact hne
theorem turn_ne {l y m : Int} (h0 : 0 ≤ l) (h1 : l < m) (y0 : 0 ≤ y) (y1 : y < m - 1) : 0 ≤ (l + 1 + y) % m ∧ (l + 1 + y) % m < m ∧ l ≠ (l + 1 + y) % m := by
  refine ⟨Int.emod_nonneg _ (by omega), Int.emod_lt_of_pos _ (by omega), ?_⟩
  by_cases h : l + 1 + y < m
  · rw [Int.emod_eq_of_lt (by omega) h]; omega
  · have : (l + 1 + y) % m = l + 1 + y - m := by
      rw [← Int.sub_emod_right, Int.emod_eq_of_lt (by omega) (by omega)]
    omega

set_option maxRecDepth 100000 in
set_option maxHeartbeats 4000000 in
theorem l12DrawWay_any (v : Value) (m b base c0 n : Nat) (w : World) (hv : BI w v m) (hs : SrcAt w base b v c0) (hc0 : c0 ≤ 1000000) (hne : 0 < m → v.ownBlock ≠ some b) (hn1 : 1 ≤ n) (hn2 : n ≤ 5) :
    Calls Tryz.prog 68 #[.pointer (some ⟨b, 0, none⟩), .int .i64 n] w fun e w' => ∃ v' xs, e = .returned v' ∧ OI 2 w' w.heap.size v' xs ∧ okRoad n xs ∧ w.grownBy w' (some b) ∧ SrcAt w' base b v (c0 + 20) := by
  have HV := Lib.hid hv
  have hblt := hs.lt.2
  have HS := Lib.hid hs
  clear hv hs
  obtain ⟨i0, hi, iz0, iz1, iz2⟩ := info_parts infoInt64
  have HI := Lib.hid hi
  clear hi
  go_enter Tryz.func68, Tryz.ntmps68
  go_wp2_with fail
  refine (pick_any v m b base c0 (n : Int) _ HV.out HS.out (by omega) hne).mono ?_
  rintro e w1 ⟨f, rfl, f0, _, f1, f2, hs1, hg1⟩
  have fN := pick_lt f1 f2 (by omega)
  have HG1 := Lib.hid hg1
  have hA := (Below.refl w1.heap.size w1).alloc (Nat.le_refl _) (.cells #[.int .i64 f] 2)
  have HO2 := Lib.hid (OI.lit1 2 w1 w.heap.size f hg1.size (by unfold Good; omega))
  have HS2 := Lib.hid (hs1.below hA)
  have HG2 := Lib.hid (grownBy_trans hg1 (grown_below (row := some b) hA))
  have HX2 := Lib.hid (show okRoad n [f] from road_one ⟨f0, fN⟩)
  clear hs1 hg1 hA f1 f2
  go_wp2_with fail
  refine (pick_any v m b base (c0 + 2) 4 _ (HV.out.grown HG2.out hne) HS2.out (by omega) hne).mono ?_
  rintro e w3 ⟨z, rfl, z0, _, z1, _, hs3, hg3⟩
  have z9 : z < 4 := z1 (by omega)
  obtain ⟨Y, rfl⟩ : ∃ Y : Nat, z = Y := ⟨z.toNat, by omega⟩
  have HG3 := Lib.hid (grownBy_trans HG2.out hg3)
  have HO3 := Lib.hid (HO2.out.grown hg3 (.inr (fun e => by
    have : w1.heap.size = b := Option.some.inj e
    have := HG1.out.size
    omega)))
  have HS3 := Lib.hid hs3
  clear z1 hs3 hg3 HO2 HS2
  go_wp2_with fail
  go_loopw [5, 6] (fun o i wr => ∃ (k : Nat) (u : Value) (xs : List Int), k ≤ 3 ∧ u = o ∧ i = .int .i64 k ∧ Hid (OI 2 wr w.heap.size u xs) ∧ Hid (okRoad n xs ∧ xs.length + k ≤ 4) ∧ Hid (w.grownBy wr (some b)) ∧ Hid (SrcAt wr base b v (c0 + 4 + 2 * (3 - k)))) (fun _ i _ => (intOf i).toNat)
  case atStart => exact ⟨Y, _, [f], by omega, rfl, rfl, HO3, Lib.hid ⟨HX2.out, by simp; omega⟩, HG3, Lib.hid (HS3.out.more (by omega))⟩
  case round =>
    obtain ⟨k, u, xs, hk, rfl, rfl, HO, HX, HG, HSR⟩ := hrel
    rename World => wo
    by_cases hlt : 0 < k
    · have hd : decide ((0 : Int) < (k : Int)) = true := decide_eq_true (by omega)
      have hd2 : decide (0 < k) = true := decide_eq_true hlt
      by_cases hn : 1 < n
      · have hd3 : decide ((1 : Int) < (n : Int)) = true := decide_eq_true (by omega)
        have hd4 : decide (1 < n) = true := decide_eq_true hn
        obtain ⟨q, hq⟩ : ∃ q, q = k - 1 := ⟨_, rfl⟩
        have HQ := Lib.hid hq
        have hwq : IntKind.i64.wrap ((k : Int) - 1) = (q : Int) := by rw [IntWalk.i64_in _ (by omega)]; omega
        clear hq
        have hx1 := HX.out.1.1
        have hxk := HX.out.2
        obtain ⟨L, hL⟩ : ∃ L, xs.length = L + 1 := ⟨xs.length - 1, by omega⟩
        have hr := HX.out.1.2.2.1 L (by omega)
        rcases HO.out.shape with ⟨_, h0⟩ | ⟨g, cu, rfl, hg1, hg2⟩
        · rw [h0] at hL; simp at hL
        · have HLL := Lib.hid hL
          have hO : OI 2 wo w.heap.size (.slice (some ⟨g, 0, none⟩) (L + 1) cu) xs := by have := HO.out; rw [hL] at this; exact this
          rw [hL]
          have HO' := Lib.hid hO
          have k0 := (hO.cell L (by omega)).1
          have HLst := Lib.hid (show xs.getD (xs.length - 1) 0 = xs.getD L 0 by rw [hL]; rfl)
          generalize xs.getD L 0 = l at k0 hr HLst
          have hgb : g ≠ b := fun e => by omega
          have hL4 : L ≤ 4 := by omega
          clear hL hO HO hx1
          have hwL : IntKind.i64.wrap (L : Int) = (L : Int) := IntWalk.i64_in _ (by omega)
          have hwL2 : IntKind.i64.wrap ((L : Int) + 1 - 1) = (L : Int) := by rw [IntWalk.i64_in _ (by omega)]; omega
          have hwl : IntKind.i64.wrap (l + 1) = l + 1 := IntWalk.i64_in _ (by omega)
          have hwn : IntKind.i64.wrap ((n : Int) - 1) = (n : Int) - 1 := IntWalk.i64_in _ (by omega)
          have hn0 : (n : Int) ≠ 0 := by omega
          have hnz : n ≠ 0 := by omega
          have hLI : (L : Int) < (L : Int) + 1 := by omega
          have hdd := (Below.refl wo.heap.size wo).drew
          have C2 := Lib.hid (pick_any v m b base (c0 + 4 + 2 * (3 - k)) ((n : Int) - 1) wo.drew ((HV.out.grown HG.out hne).below hdd) (HSR.out.below hdd) (by omega) hne)
          have HD := Lib.hid hdd
          clear hdd
          go_wp2_with fail
          go_region_law
            (first
              | (refine step_app1G (by rfl) _ _ 24 (by rfl) 2 i0 Tryz.underlying24 HI.out iz0 iz1 iz2 w.heap.size _ xs (by rfl) (HO4.out.below ((Below.refl _ _).alloc (Nat.le_refl _) _)) _ ((l + 1 + y) % (n : Int)) (by rfl) (by exact newA _ _ _ _ rfl) (by unfold Good; omega) (by omega) (Nat.le_trans hsz4 (by simp)) ?_
                 intro v9 w9 h1 h2 h3
                 have H9 := Lib.hid h1
                 have HG9 := Lib.hid (grown_chain (grownBy_trans HG4.out (grown_below (row := some b) ((Below.refl w4.heap.size w4).alloc (Nat.le_refl _) _))) h2 (fun q hq => (HO4.out.lt q hq).1))
                 have HS9 := Lib.hid ((HS4.out.below ((Below.refl w4.heap.size w4).alloc (Nat.le_refl _) _)).grown h2 (fun e => hgb (Option.some.inj e).symm))
                 clear h1 h2 h3)
              | (go_simp
                 go_at_call 24
                 with_reducible refine C2.out.mono ?_
                 rintro e w4 ⟨y, rfl, y0, _, y1, y2, hs4, hg4⟩
                 have yN : y < (n : Int) - 1 := pick_lt y1 y2 (by omega)
                 have hg4' := grownBy_trans (grown_below (row := some b) HD.out) hg4
                 have HG4 := Lib.hid (grownBy_trans HG.out hg4')
                 have HO4 := Lib.hid (HO'.out.grown hg4' (.inr (fun e => hgb (Option.some.inj e))))
                 have HS4 := Lib.hid hs4
                 have hsz4 := HG4.out.size
                 have k4 := cell_grown hg4' k0 hg2 (fun e => hgb (Option.some.inj e))
                 have hwy : IntKind.i64.wrap (l + 1 + y) = l + 1 + y := IntWalk.i64_in _ (by omega)
                 obtain ⟨m0, m1, m2⟩ := turn_ne hr.1 hr.2 y0 yN
                 have htm : (l + 1 + y).tmod (n : Int) = (l + 1 + y) % (n : Int) := Int.tmod_eq_emod_of_nonneg (by omega)
                 have hwr : IntKind.i64.wrap ((l + 1 + y) % (n : Int)) = (l + 1 + y) % (n : Int) := IntWalk.i64_in _ (by omega)
                 clear hs4 hg4 hg4' y1 y2))
          all_goals
            go_wp2_with fail
            go_roundw
            case rel =>
              have hq := HQ.out
              exact ⟨q, _, xs ++ [_], by omega, rfl, rfl, H9, Lib.hid ⟨road_snoc HX.out.1 (by have := HX.out.2; omega) ⟨m0, m1⟩ (by rw [HLst.out]; exact m2), by have := HX.out.2; simp; omega⟩, HG9, Lib.hid (HS9.out.more (by omega))⟩
            case measure =>
              have := HQ.out
              simp [intOf]; omega
      · have hd3 : decide ((1 : Int) < (n : Int)) = false := decide_eq_false (by omega)
        have hd4 : decide (1 < n) = false := decide_eq_false hn
        go_wp2_with fail
        go_ret
        exact ⟨_, xs, rfl, HO.out, HX.out.1, HG.out, HSR.out.more (by omega)⟩
    · have hd : decide ((0 : Int) < (k : Int)) = false := decide_eq_false (by omega)
      have hd2 : decide (0 < k) = false := decide_eq_false hlt
      go_wp2_with fail
      go_ret
      exact ⟨_, xs, rfl, HO.out, HX.out.1, HG.out, HSR.out.more (by omega)⟩

/-- Each list that lies in the cells rs has its own block, which is there, and is neither v's nor b. -/
def SpreadL (w : World) (rs : List Value) (v : Value) (b : Nat) : Prop := ∀ i q, i < rs.length → (rs.getD i vz).ownBlock = some q → q < w.heap.size ∧ v.ownBlock ≠ some q ∧ q ≠ b
theorem SpreadL.more {w w' : World} {rs : List Value} {v : Value} {b : Nat} (h : SpreadL w rs v b) (hs : w.heap.size ≤ w'.heap.size) : SpreadL w' rs v b := fun i q hi hq => ⟨Nat.lt_of_lt_of_le (h i q hi hq).1 hs, (h i q hi hq).2⟩
theorem WayRows.grownV {w w' : World} {rs : List Value} {xs : List (List Int)} {v : Value} {b : Nat} (h : WayRows w rs xs) (hs : SpreadL w rs v b) (hg : w.grownBy w' v.ownBlock) : WayRows w' rs xs :=
  h.grown hg fun i k hi hk e => (hs i k hi e).2.1 hk
theorem WayRows.grownB {w w' : World} {rs : List Value} {xs : List (List Int)} {v : Value} {b : Nat} (h : WayRows w rs xs) (hs : SpreadL w rs v b) (hg : w.grownBy w' (some b)) : WayRows w' rs xs :=
  h.grown hg fun i k hi hk e => (hs i k hi e).2.2 (Option.some.inj hk).symm
theorem SpreadL.snoc {w w' : World} {rs : List Value} {v v' s : Value} {b : Nat} (h : SpreadL w rs v b) (hw : w.heap.size ≤ w'.heap.size) (hn : ∀ k, v'.ownBlock = some k → v.ownBlock = some k ∨ w.heap.size ≤ k) (hs : ∀ q, s.ownBlock = some q → q < w.heap.size ∧ v.ownBlock ≠ some q ∧ q ≠ b) : SpreadL w' (rs ++ [s]) v' b := by
  have hx : ∀ q, q < w.heap.size → v.ownBlock ≠ some q → v'.ownBlock ≠ some q := fun q hb hne e => by
    rcases hn q e with h | h
    · exact hne h
    · omega
  intro i q hi hb
  rw [getD_snoc] at hb
  simp only [List.length_append, List.length_singleton] at hi
  by_cases e : i < rs.length
  · rw [if_pos e] at hb
    have := h i q e hb
    exact ⟨by omega, hx q this.1 this.2.1, this.2.2⟩
  · rw [if_neg e, if_pos (by omega)] at hb
    have := hs q hb
    exact ⟨by omega, hx q this.1 this.2.1, this.2.2⟩

set_option maxRecDepth 100000 in
set_option maxHeartbeats 4000000 in
theorem l12Draw_any (v : Value) (m b base c0 n : Nat) (w : World) (hv : BI w v m) (hs : SrcAt w base b v c0) (hc0 : c0 ≤ 100000) (hne : 0 < m → v.ownBlock ≠ some b) (hn1 : 1 ≤ n) (hn2 : n ≤ 5) :
    Calls Tryz.prog 38 #[.pointer (some ⟨b, 0, none⟩), .int .i64 n] w fun e w' => ∃ v' xs, e = .returned v' ∧ WaysI w' v' xs ∧ xs.length ≤ 4 ∧ (∀ x ∈ xs, okRoad n x) ∧ w.grownBy w' (some b) := by
  have HV := Lib.hid hv
  have hblt := hs.lt.2
  have HS := Lib.hid hs
  clear hv hs
  obtain ⟨i0, hi, iz0, iz1, iz2⟩ := info_parts infoSl
  have HI := Lib.hid hi
  clear hi
  have hA := (Below.refl w.heap.size w).alloc (Nat.le_refl _) (.cells #[] 24)
  have HO1 := Lib.hid (OV.lit0 (E := LV) 24 w w.heap.size (Nat.le_refl _))
  have HS2 := Lib.hid (HS.out.below hA)
  have HV2 := Lib.hid (HV.out.below hA)
  have HG2 := Lib.hid (grown_below (row := some b) hA)
  clear hA
  go_enter Tryz.func38, Tryz.ntmps38
  go_wp2_with fail
  refine (pick_any v m b base c0 5 _ HV2.out HS2.out (by omega) hne).mono ?_
  rintro e w3 ⟨z, rfl, z0, _, z1, _, hs3, hg3⟩
  have z9 : z < 5 := z1 (by omega)
  obtain ⟨Y, rfl⟩ : ∃ Y : Nat, z = Y := ⟨z.toNat, by omega⟩
  have HG3 := Lib.hid (grownBy_trans HG2.out hg3)
  have HO3 := Lib.hid (HO1.out.grown hg3 (.inr (fun e => Nat.ne_of_gt hblt (Option.some.inj e))))
  have HS3 := Lib.hid hs3
  clear z1 hs3 hg3 HS2 HO1
  go_wp2_with fail
  go_loopw [5, 6] (fun o i wr => ∃ (k : Nat) (u : Value) (rs : List Value) (xs : List (List Int)), k ≤ Y ∧ u = o ∧ i = .int .i64 k ∧ Hid (OV LV 24 wr w.heap.size u rs) ∧ Hid (WayRows wr rs xs) ∧ Hid (SpreadL wr rs u b) ∧ Hid ((∀ x ∈ xs, okRoad n x) ∧ xs.length + k = Y) ∧ Hid (w.grownBy wr (some b)) ∧ Hid (SrcAt wr base b v (c0 + 2 + 20 * (Y - k)))) (fun _ i _ => (intOf i).toNat)
  case atStart => exact ⟨Y, _, [], [], Nat.le_refl _, rfl, rfl, HO3, Lib.hid (WayRows.nil _), Lib.hid (fun i q hi => absurd hi (Nat.not_lt_zero _)), Lib.hid ⟨by simp, by simp⟩, HG3, Lib.hid (HS3.out.more (by omega))⟩
  case round =>
    obtain ⟨k, u, rs, xs, hk, rfl, rfl, HO, HWR, HSP, HX, HG, HSR⟩ := hrel
    rename World => wo
    by_cases hlt : 0 < k
    · have hd : decide ((0 : Int) < (k : Int)) = true := decide_eq_true (by omega)
      have hd2 : decide (0 < k) = true := decide_eq_true hlt
      obtain ⟨q, hq⟩ : ∃ q, q = k - 1 := ⟨_, rfl⟩
      have HQ := Lib.hid hq
      have hwq : IntKind.i64.wrap ((k : Int) - 1) = (q : Int) := by rw [IntWalk.i64_in _ (by omega)]; omega
      clear hq
      have hrl : rs.length ≤ 5 := by rw [HWR.out.1]; have := HX.out.2; omega
      have C2 := Lib.hid (l12DrawWay_any v m b base (c0 + 2 + 20 * (Y - k)) n wo (HV.out.grown HG.out hne) HSR.out (by omega) hne hn1 hn2)
      have hne1 : u.ownBlock ≠ some b := fun e => by
        have := (HO.out.lt b e).1
        omega
      go_wp2_with fail
      refine C2.out.mono ?_
      rintro e w4 ⟨s, way, rfl, ho4, hw4, hg4, hs4⟩
      obtain ⟨a4, c4, hsh⟩ := ho4.ri.shape
      subst hsh
      have HOK4 := Lib.hid hw4
      have hgw : wo.heap.size ≤ w4.heap.size := hg4.size
      have HG4 := Lib.hid (grownBy_trans HG.out hg4)
      have HO4 := Lib.hid (HO.out.grown hg4 (.inr hne1))
      have HW4 := Lib.hid (HWR.out.grownB HSP.out hg4)
      have HSP4 := Lib.hid (HSP.out.more hgw)
      have HS4 := Lib.hid hs4
      have HC4 := Lib.hid ho4
      have hsz := HG4.out.size
      have hbw : b < wo.heap.size := Nat.lt_of_lt_of_le hblt HG.out.size
      have HOW := Lib.hid (fun z (hz : (Value.slice a4 way.length c4).ownBlock = some z) => show z < w4.heap.size ∧ u.ownBlock ≠ some z ∧ z ≠ b from by
        have p1 := HC4.out.lt z hz
        refine ⟨p1.2, fun e => ?_, by omega⟩
        have := (HO.out.lt z e).2
        omega)
      have H1S := Lib.hid (LV.one ho4.ri)
      clear hs4 hg4 ho4 hw4
      go_wp2_with (
        at_builtin
        refine wpList_appV (E := LV) rfl _ _ 38 rfl 24 _ i0 _ Tryz.underlying38 HI.out iz0 rfl iz1 24 iz2 (by decide) w.heap.size _ _ rfl HO4.out (.slice a4 way.length c4) _ rfl _ (by simp) rfl H1S.out (by omega) hsz ?_
        intro v9 w9 h1 h2 h3
        have H9 := Lib.hid h1
        have HW9 := Lib.hid (WayRows.snoc (HW4.out.grownV HSP4.out h2) (x := way) (HC4.out.ri.grown h2 fun z hz e => (HOW.out z e).2.1 hz))
        have HSP9 := Lib.hid (HSP4.out.snoc h2.size h3 HOW.out)
        have HG9 := Lib.hid (grown_chain HG4.out h2 (fun q hq => (HO4.out.lt q hq).1))
        have HS9 := Lib.hid (HS4.out.grown h2 (fun e => hne1 e.symm))
        clear h1 h2 h3)
      go_roundw
      case rel =>
        have hq := HQ.out
        exact ⟨q, _, _, xs ++ [way], by omega, rfl, rfl, H9, HW9, HSP9, Lib.hid ⟨fun x hx => by
          rcases List.mem_append.1 hx with hx | hx
          · exact HX.out.1 x hx
          · rw [List.mem_singleton.1 hx]; exact HOK4.out, by have := HX.out.2; simp; omega⟩, HG9, Lib.hid (HS9.out.more (by omega))⟩
      case measure =>
        have := HQ.out
        simp [intOf]; omega
    · have hd : decide ((0 : Int) < (k : Int)) = false := decide_eq_false (by omega)
      have hd2 : decide (0 < k) = false := decide_eq_false hlt
      go_wp2
      go_ret
      exact ⟨_, xs, rfl, ⟨rs, HO.out.si, HWR.out⟩, by have := HX.out.2; omega, HX.out.1, HG.out⟩

set_option maxRecDepth 100000 in
theorem a2Halls_any (v : Value) (m : Nat) (w : World) (hv : BI w v m) :
    Calls Tryz.prog 12 #[v] w fun e w' => ∃ v1 v2 halls ways, e = .returned (.tuple #[v1, v2]) ∧ RI w' v1 halls ∧ WaysI w' v2 ways ∧ OkHW halls ways ∧ Below w.heap.size w w' := by
  have HV := Lib.hid hv
  clear hv
  go_enter Tryz.func12, Tryz.ntmps12
  go_wp2_with fail
  refine (from_any v m _ HV.out).mono ?_
  rintro e w1 ⟨rfl, hs1, hb1⟩
  have hne : 0 < m → v.ownBlock ≠ some w.heap.size := fun hp e => by have := HV.out.own_lt hp e; omega
  have HNE := Lib.hid hne
  have HB1 := Lib.hid hb1
  have HV1 := Lib.hid (HV.out.below hb1)
  have C := Lib.hid (l12DrawHalls_any v m w.heap.size w.heap.size 0 _ HV1.out hs1 (by omega) hne)
  have hblt := hs1.lt.2
  clear hs1 hb1 hne
  go_wp2_with fail
  refine C.out.mono ?_
  rintro e w2 ⟨v2, halls, rfl, ho, hx, hl1, hl2, hg, hs2⟩
  obtain ⟨a2, c2, hsh⟩ := ho.ri.shape
  subst hsh
  have HX := Lib.hid hx
  have HO := Lib.hid ho
  have HG := Lib.hid hg
  have C2 := Lib.hid (l12Draw_any v m w.heap.size w.heap.size 20 halls.length w2 (HV1.out.grown hg HNE.out) (hs2.more (by omega)) (by omega) HNE.out hl1 (by omega))
  clear ho hx hg hs2 C
  go_wp2_with (
    go_at_call 38
    refine C2.out.mono ?_
    rintro e w3 ⟨v3, ways, rfl, hw3, hl3, hr3, hg3⟩
    have HW3 := Lib.hid hw3
    have HR3 := Lib.hid hr3
    have HH3 := Lib.hid (HO.out.ri.grown hg3 (fun k hk e => by
      have h1 := (HO.out.lt k e).1
      have h2 : w.heap.size = k := Option.some.inj hk
      omega))
    have HG3 := Lib.hid (grownBy_trans HG.out hg3)
    clear hw3 hr3 hg3)
  go_ret2
  refine ⟨_, _, halls, ways, rfl, HH3.out, HW3.out, ⟨hl1, by omega, fun i hi => ?_, hl3, fun c hc => ?_⟩, bgrown HB1.out HG3.out (fun q hq => Nat.le_of_eq (Option.some.inj hq))⟩
  · have := HX.out (halls.getD i 0) (by rw [show halls.getD i 0 = halls[i] by simp [List.getD, hi]]; exact List.getElem_mem hi)
    omega
  · exact HR3.out _ (by rw [show ways.getD c [] = ways[c] by simp [List.getD, hc]]; exact List.getElem_mem hc)

end Go.Proofs.YthlpbeohlhhblaaGreat
