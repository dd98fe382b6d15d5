/-
  The program's diagnosis of trials: the fewest stuck switches and the letters of all switches.
-/
import Derived.Test.YtejnfngnofilfaaFewest
namespace Go.Proofs.Ytejnfngnofilfaa
open Go.RowKit

/-- v, in memory from block base on, holds the bytes ys. -/
def OY (e : TypeId) (w : World) (base : Nat) (v : Value) (ys : List Int) : Prop := w.ownsRow base e 1 v ys.length (ys.map (Value.int .u8))
theorem OY.below {e : TypeId} {w w' : World} {base : Nat} {v : Value} {ys : List Int} (h : OY e w base v ys) (hb : Below w.heap.size w w') : OY e w' base v ys := by
  refine ⟨h.1, ?_⟩
  rcases h.2 with h1 | ⟨g, cap, cur, rfl, hbg, hg, r⟩
  · exact .inl h1
  · exact .inr ⟨g, cap, cur, rfl, hbg, by rw [hb.block g (Array.getElem?_eq_some_iff.1 hg).1]; exact hg, r⟩
theorem OY.grown {e : TypeId} {w w' : World} {base : Nat} {v : Value} {ys : List Int} {row : Option Nat} (h : OY e w base v ys) (hg : w.grownBy w' row) (hne : v.ownBlock = none ∨ v.ownBlock ≠ row) : OY e w' base v ys := World.ownsRow.kept h hg hne
theorem OY.apart {e : TypeId} {w w' : World} {base : Nat} {v vx : Value} {ys : List Int} (h : OY e w base v ys) (hg : w.grownBy w' vx.ownBlock) (hne : ∀ k, vx.ownBlock = some k → v.ownBlock ≠ some k) : OY e w' base v ys := by
  refine h.grown hg ?_
  cases hv : v.ownBlock with
  | none => exact .inl rfl
  | some k => exact .inr (fun e => hne k e.symm hv)
theorem OY.lt {e : TypeId} {w : World} {base : Nat} {v : Value} {ys : List Int} (h : OY e w base v ys) : ∀ k, v.ownBlock = some k → base ≤ k ∧ k < w.heap.size := World.ownsRow.lt h
theorem OY.mono {e : TypeId} {w : World} {base base' : Nat} {v : Value} {ys : List Int} (h : OY e w base v ys) (hb : base' ≤ base) : OY e w base' v ys := by
  refine ⟨h.1, ?_⟩
  rcases h.2 with h1 | ⟨g, cap, cur, rfl, hbg, r⟩
  · exact .inl h1
  · exact .inr ⟨g, cap, cur, rfl, Nat.le_trans hb hbg, r⟩
theorem OY.nil (e : TypeId) (w : World) (base : Nat) : OY e w base (.slice none 0 0) [] := World.ownsRow_nil _ _ _ _
theorem OY.lit0 (e : TypeId) (w : World) (base : Nat) (hb : base ≤ w.heap.size) : OY e (w.alloc (.cells #[] e)) base (.slice (some ⟨w.heap.size, 0, none⟩) 0 0) [] := by
  simpa [OY] using World.ownsRow_made w #[] 0 hb (Nat.zero_le _) (by simp)
theorem OY.shape {e : TypeId} {w : World} {base : Nat} {v : Value} {ys : List Int} (h : OY e w base v ys) : (v = .slice none 0 0 ∧ ys = []) ∨ ∃ g cap, v = .slice (some ⟨g, 0, none⟩) ys.length cap ∧ base ≤ g ∧ g < w.heap.size ∧ ys.length ≤ cap := by
  rcases h.2 with ⟨h1, h0⟩ | ⟨g, cap, cur, rfl, hbg, hg, hc, r⟩
  · exact .inl ⟨h1, List.length_eq_zero_iff.1 h0⟩
  · exact .inr ⟨g, cap, rfl, hbg, (Array.getElem?_eq_some_iff.1 hg).1, hc⟩
theorem OY.cell {e : TypeId} {w : World} {base g n cap : Nat} {ys : List Int} (h : OY e w base (.slice (some ⟨g, 0, none⟩) n cap) ys) (k : Nat) (hk : k < ys.length) : w.cell? ⟨g, k, none⟩ = some (.int .u8 (ys.getD k 0)) := by
  have hn : n = ys.length := by
    rcases h.2 with ⟨h1, _⟩ | ⟨g', cap', cur, h1, _⟩
    · simp at h1
    · simp only [Value.slice.injEq] at h1; exact h1.2.1
  subst hn
  have h' : w.ownsRow base e 1 (.slice (some ⟨g, 0, none⟩) ys.length cap) ys.length (ys.map (Value.int .u8)) := h
  rw [h'.cellAt k (by omega)]; simp [List.getD, List.getElem?_eq_getElem hk]

/-- append(out, c), a byte. -/
theorem wpList_app1y {P : Program} {W : World} {ops : Array Oper} {rest : List Oper} {o : Oper} {a : Act} {Q : Exit → Act → World → Prop} (hgd : o.guard = none) (s x : Operand) (t : TypeId)
    (ho : o.op = .call { callee := .builtin .append, args := #[s, x], argTypes := #[t, t] }) (e e' : TypeId) (i : TypeInfo) (ht : P.underlying t = some (.slice e)) (hi : P.info? e = some i) (hz : i.zero = some (.int .u8 0)) (hsize : i.size = 1) (hby : i.bytes = 1)
    (base : Nat) (v : Value) (xs : List Int) (hs : a.eval s = v) (hown : OY e W base v xs) (n : Int) (H : Nat) (hH : W.heap.size = H) (hx : a.eval x = .slice (some ⟨H, 0, none⟩) 1 1) (hlen : xs.length ≤ 1099511627776) (hbase : base ≤ W.heap.size)
    (hK : ∀ v' w', OY e w' base v' (xs ++ [n]) → W.grownBy w' v.ownBlock → (∀ k, v'.ownBlock = some k → v.ownBlock = some k ∨ W.heap.size ≤ k) → wpList P ops Q rest (a.put o.dst v') w') : wpList P ops Q (o :: rest) a (W.alloc (.cells #[.int .u8 n] e')) := by
  subst hH
  refine wpList_append_lies (W.alloc (.cells #[.int .u8 n] e')) hgd s x t ho base e i (.int .u8 0) 1 1 ht hi hz hsize hby rfl (by decide) v xs.length (xs.map (Value.int .u8)) hs (World.ownsRow.alloc hown _) ⟨W.heap.size, 0, none⟩ 1 1 [.int .u8 n] hx rfl ?_ ?_ (by decide) ?_ ?_ ?_ _ rfl ?_
  · intro j u hj
    match j, hj with
    | 0, hj =>
      simp only [List.getElem?_cons_zero, Option.some.injEq] at hj
      subst hj
      simp only [Addr.add, if_true]
      rw [World.cell?_alloc_at _ _ _ _ rfl]; rfl
  · intro u hu; simp at hu; subst hu; rfl
  · unfold maxLen; omega
  · omega
  · simp; omega
  · intro g cap w' h1 h2 h3 _
    refine hK _ w' (by unfold OY; simpa using h1) ⟨h2.os, h2.tape, h2.output, Nat.le_trans (by simp) h2.size, fun k hk hne => (h2.block k (by simp; omega) hne).trans (Below.heap_alloc W _ k hk)⟩ (fun k hk => ?_)
    simp only [Value.ownBlock, Option.some.injEq] at hk
    rcases h3 with h3 | h3
    · exact .inl (hk ▸ h3)
    · right; simp at h3; omega

/-- The letter of a switch. -/
def letter4 (s : B4) : Int := if s.2.2.1 then 48 else if s.2.2.2 then 49 else if s.1 && s.2.1 then 119 else if s.1 then 97 else if s.2.1 then 98 else 63
def lettersTo (st : List B4) (k : Nat) : List Int := (List.range k).map fun (v : Nat) => letter4 (st.getD v z4)
theorem lettersTo_succ (st : List B4) (k : Nat) : lettersTo st (k + 1) = lettersTo st k ++ [letter4 (st.getD k z4)] := by simp [lettersTo, List.range_succ]
theorem lettersTo_length (st : List B4) (k : Nat) : (lettersTo st k).length = k := by simp [lettersTo]

theorem infoU8 : (Try.prog.info? 5).map (fun i => (i.zero, i.size, i.bytes)) = some (some (.int .u8 0), 1, 1) := by kernel_rfl

theorem letter_any (a b c d : Bool) (w : World) :
    Calls Try.prog 98 #[.agg #[.bool a, .bool b, .bool c, .bool d]] w fun e w' => e = .returned (.int .u8 (letter4 (a, b, c, d))) ∧ Below w.heap.size w w' := by
  have hb : ∀ o : Obj, Below w.heap.size w (w.alloc o) := fun o => (Below.refl _ _).alloc (Nat.le_refl _) _
  cases a <;> cases b <;> cases c <;> cases d
  all_goals
    go_enter Try.func98, Try.ntmps98
    go_wp2
    go_ret
    exact ⟨rfl, hb _⟩

/-- The letters of all switches; [] if there are none. -/
def letters (d : Int) (ts : List (Int × Int)) : List Int := if codeF d ts = 0 then lettersTo (seenTo d ts) (2 ^ d.toNat) else []

set_option maxRecDepth 100000 in
set_option maxHeartbeats 2000000 in
theorem diagnosed_any (d : Int) (v : Value) (ts : List (Int × Int)) (w : World) (hv : SI P2 w v ts) :
    Calls Try.prog 79 #[.int .i64 d, v] w fun e w' => ∃ v1 v2, e = .returned (.tuple #[v1, v2, .int .i64 (valFewest d ts).2]) ∧ OS P2 57 w' w.heap.size v1 (valFewest d ts).1 ∧ OY 5 w' w.heap.size v2 (letters d ts) ∧ Below w.heap.size w w' := by
  have HV := Lib.hid hv
  have C1 := implValidTrials_any d v ts w hv
  clear hv
  cases h1 : okTrials d ts with
  | false =>
    rw [h1] at C1
    have D1 := Lib.hid C1
    have HE := Lib.hid (show valFewest d ts = ([], 1) by simp [valFewest, codeF, h1])
    have HL := Lib.hid (show letters d ts = [] by simp [letters, codeF, h1])
    clear C1 h1
    go_enter Try.func79, Try.ntmps79
    go_wp2_with (go_at_call 29; refine D1.out.mono ?_; rintro e w1 ⟨rfl, hb1⟩)
    go_ret3
    exact ⟨_, _, by rw [HE.out]; rfl, by rw [HE.out]; exact OS.nil _ _ _, by rw [HL.out]; exact OY.nil _ _ _, hb1⟩
  | true =>
    rw [h1] at C1
    have D1 := Lib.hid C1
    have hd := okTrials_depth h1
    obtain ⟨n, rfl⟩ : ∃ n : Nat, d = n := ⟨d.toNat, by simp [inB] at hd; omega⟩
    have C2 := fun (W : World) (h : SI P2 W v ts) => seenBy_any n v ts W h h1
    cases h2 : clashes n ts with
    | true =>
      have HE := Lib.hid (show valFewest n ts = ([], 9) by simp [valFewest, codeF, h1, fewest, h2])
      have HL := Lib.hid (show letters n ts = [] by simp [letters, codeF, h1, h2])
      rw [h2] at C2
      have D2 := Lib.hid C2
      clear C1 C2 h1 h2 hd
      go_enter Try.func79, Try.ntmps79
      go_wp2_with fail
      refine D1.out.mono ?_
      rintro e w1 ⟨rfl, hb1⟩
      go_wp2_with fail
      refine (D2.out _ (HV.out.below hb1)).mono ?_
      rintro e w2 ⟨u, rfl, ho, hb2⟩
      clear ho
      go_wp2_with fail
      go_ret3
      exact ⟨_, _, by rw [HE.out]; rfl, by rw [HE.out]; exact OS.nil _ _ _, by rw [HL.out]; exact OY.nil _ _ _, bthen hb1 hb2⟩
    | false =>
      have hval : valFewest n ts = (fewTo (seenTo n ts) (2 ^ n), 0) := by simp [valFewest, codeF, h1, h2, fewest]
      have hlet : letters n ts = lettersTo (seenTo n ts) (2 ^ n) := by simp [letters, codeF, h1, h2]
      have hE : ex (n : Int) = ((2 ^ n : Nat) : Int) := by simp [ex]
      obtain ⟨_, _, e3, e4⟩ := wrap_ex hd
      have hfit := fit4_seen hd ts
      simp only [Int.toNat_natCast] at hfit
      have hN : 2 ^ n ≤ 16 := by omega
      have hN2 : 2 ≤ 2 ^ n := by omega
      rw [h2] at C2
      generalize 2 ^ n = N at hfit hN hN2 hval hlet
      generalize seenTo n ts = st at hfit hval hlet C2
      have HE := Lib.hid hval
      have HL := Lib.hid hlet
      have HF := Lib.hid hfit
      have D2 := Lib.hid C2
      clear C1 C2 h1 h2 hd hval hlet hfit hE
      obtain ⟨i0, hi, hz0, hz1, hz2⟩ := info_parts infoStuck
      have HI := Lib.hid hi
      obtain ⟨j0, hj, jz0, jz1, jz2⟩ := info_parts infoU8
      have HJ := Lib.hid hj
      clear hi hj
      go_enter Try.func79, Try.ntmps79
      go_wp2_with fail
      refine D1.out.mono ?_
      rintro e w1 ⟨rfl, hb1⟩
      go_wp2_with fail
      refine (D2.out _ (HV.out.below hb1)).mono ?_
      rintro e w2 ⟨u, rfl, ho, hb2⟩
      have hlen := HF.out.1
      obtain ⟨g, cg, rfl⟩ : ∃ g cap, u = .slice (some ⟨g, 0, none⟩) N cap := by
        rcases ho.2 with ⟨_, h⟩ | ⟨g, cap, cur, h, _⟩
        · omega
        · exact ⟨g, cap, by rw [h]; simp [hlen]⟩
      have hgs := ho.size.2
      have HO := Lib.hid ho
      have hbb := bthen hb1 hb2
      clear ho hb1 hb2
      go_wp2_with fail
      go_loopw [9, 10, 29] (fun o1 o2 i wr => ∃ (k : Nat) (u1 u2 : Value), k ≤ N ∧ o1 = u1 ∧ o2 = u2 ∧ i = .int .i64 k ∧ Below w2.heap.size w2 wr ∧ OS P2 57 wr w2.heap.size u1 (fewTo st k) ∧ OY 5 wr w2.heap.size u2 (lettersTo st k) ∧ Apart u1 u2) (fun _ _ i _ => N - (intOf i).toNat)
      case atStart =>
        have hA := OS.lit0 (E := P2) 57 w2 w2.heap.size (Nat.le_refl _)
        refine ⟨0, _, _, Nat.zero_le _, rfl, rfl, rfl, ((Below.refl _ _).alloc (Nat.le_refl _) _).alloc (by simp) _, ?_, ?_, ?_⟩
        · exact hA.below ((Below.refl _ _).alloc (Nat.le_refl _) _)
        · have hy := OY.lit0 5 (w2.alloc (.cells #[] 57)) w2.heap.size (by simp)
          simpa [lettersTo] using hy
        · intro q h3 h4; simp [Value.ownBlock] at h3 h4; omega
      case round =>
        obtain ⟨k, _, _, hk, rfl, rfl, rfl, hw, ho1, ho2, hap⟩ := hrel
        have HO1 := Lib.hid ho1
        have HO2 := Lib.hid ho2
        have HAp := Lib.hid hap
        clear ho1 ho2 hap
        by_cases hlt : k < N
        · obtain ⟨⟨c1, c2, c3, c4⟩, _⟩ := (HO.out.below hw).cell k (by omega)
          have HY := Lib.hid (fewTo_yes (st := st) (k := k))
          have HN := Lib.hid (fewTo_no (st := st) (k := k))
          have HLS := Lib.hid (lettersTo_succ st k)
          have hll := fewTo_len st k
          have hly := lettersTo_length st k
          generalize hs : st.getD k z4 = s at c1 c2 c3 c4 HY HN HLS
          clear hs
          obtain ⟨a, b, c, d⟩ := s
          simp only at c1 c2 c3 c4
          have hsz : wr.heap.size < (wr.alloc (.cells #[.bool a, .bool b, .bool c, .bool d] 108)).heap.size := by simp
          go_wp2_with fail
          refine (letter_any a b c d _).mono ?_
          rintro e w3 ⟨rfl, hb3⟩
          have hbA : Below wr.heap.size wr w3 := bthen ((Below.refl _ _).alloc (Nat.le_refl _) _) hb3
          have hw3 : Below w2.heap.size w2 w3 := bthen hw hbA
          have hs3 : wr.heap.size < w3.heap.size := Nat.lt_of_lt_of_le (by simp) hb3.size
          have d1 : w3.cell? ⟨wr.heap.size, 0, none⟩ = some (.bool a) := (hb3.cell (p := ⟨wr.heap.size, 0, none⟩) (by simp)).trans (by rw [World.cell?_alloc_at _ _ _ _ rfl]; rfl)
          have d2 : w3.cell? ⟨wr.heap.size, 1, none⟩ = some (.bool b) := (hb3.cell (p := ⟨wr.heap.size, 1, none⟩) (by simp)).trans (by rw [World.cell?_alloc_at _ _ _ _ rfl]; rfl)
          have d3 : w3.cell? ⟨wr.heap.size, 2, none⟩ = some (.bool c) := (hb3.cell (p := ⟨wr.heap.size, 2, none⟩) (by simp)).trans (by rw [World.cell?_alloc_at _ _ _ _ rfl]; rfl)
          have d4 : w3.cell? ⟨wr.heap.size, 3, none⟩ = some (.bool d) := (hb3.cell (p := ⟨wr.heap.size, 3, none⟩) (by simp)).trans (by rw [World.cell?_alloc_at _ _ _ _ rfl]; rfl)
          have HO13 := Lib.hid (HO1.out.below hbA)
          have HO23 := Lib.hid (HO2.out.below hbA)
          have hu2 := fun q h => (HO2.out.lt q h).2
          have hu1 := fun q h => (HO1.out.lt q h).2
          have HU1 := Lib.hid hu1
          have HU2 := Lib.hid hu2
          clear c1 c2 c3 c4 hb3 hbA hu1 hu2
          go_wp2_with (at_builtin; refine wpList_app1y rfl _ _ 42 rfl 5 _ j0 Try.underlying42 HJ.out jz0 jz1 jz2 w2.heap.size _ _ rfl HO23.out _ _ (by simp) rfl ?_ hw3.size ?_)
          · omega
          · intro v9 w9 h1 h2 h3
            have hw9 : Below w2.heap.size w2 w9 := bgrown hw3 h2 (fun q hq => (HO23.out.lt q hq).1)
            have HP9 := Lib.hid h1
            have hne : ∀ q, v9.ownBlock = some q → u9.ownBlock ≠ some q := fun q hq hq1 => by
              rcases h3 q hq with h | h
              · exact HAp.out q hq1 h
              · have := HU1.out q hq1; omega
            have HAp9 := Lib.hid (show Apart u9 v9 from fun q hq1 hq => hne q hq hq1)
            have HO19 := Lib.hid (HO13.out.apart h2 (fun q hq hq1 => HAp.out q hq1 hq))
            have hbk := h2.block wr.heap.size hs3 (fun e => by have := HU2.out _ e.symm; omega)
            replace d1 := (World.cell?_of_block (a := ⟨wr.heap.size, 0, none⟩) hbk).trans d1
            replace d2 := (World.cell?_of_block (a := ⟨wr.heap.size, 1, none⟩) hbk).trans d2
            replace d3 := (World.cell?_of_block (a := ⟨wr.heap.size, 2, none⟩) hbk).trans d3
            replace d4 := (World.cell?_of_block (a := ⟨wr.heap.size, 3, none⟩) hbk).trans d4
            clear h1 h2 h3 hne hbk HO13 HO23 HO1 HO2
            go_wp2_with fail
            refine (letter_any a b c d _).mono ?_
            rintro e w4 ⟨rfl, hb4⟩
            have hw4 : Below w2.heap.size w2 w4 := bthen hw9 hb4
            have HP4 := Lib.hid (HP9.out.below hb4)
            have HO14 := Lib.hid (HO19.out.below hb4)
            clear d1 d2 d3 d4 hb4 HP9 HO19
            have hlt4 : letter4 (a, b, c, d) = (if c then 48 else if d then 49 else letter4 (a, b, false, false)) := by cases c <;> cases d <;> rfl
            generalize hlg : letter4 (a, b, c, d) = lt at *
            clear hlg
            cases c with
            | true =>
              have HY1 := Lib.hid (HY.out rfl)
              clear HY HN
              simp only [if_true] at hlt4
              subst hlt4
              go_wp2_with (at_builtin; refine wpList_appS (E := P2) rfl _ _ 25 rfl 57 _ i0 _ Try.underlying25 HI.out hz0 rfl hz1 16 hz2 (by decide) w2.heap.size _ _ rfl HO14.out (k, 0) _ rfl _ (by simp) rfl ?_ ?_ hw4.size ?_)
              · intro y hy; simp [P2] at hy; unfold Good; omega
              · omega
              · intro v8 w8 h1 h2 h3
                have hw8 : Below w2.heap.size w2 w8 := HO14.out.step hw4 h2
                have HO18 := Lib.hid h1
                have HP8 := Lib.hid (HP4.out.apart h2 (fun q hq => HAp9.out q hq))
                have hv9 := fun q h => (HP4.out.lt q h).2
                have HAp8 := Lib.hid (show Apart v8 v9 from fun q hq hq1 => by
                  rcases h3 q hq with h | h
                  · exact HAp9.out q h hq1
                  · have := hv9 q hq1; omega)
                clear h1 h2 h3 hv9
                go_wp2_with fail
                go_roundw
                case rel => exact ⟨k + 1, _, _, by omega, rfl, rfl, by go_num, hw8, by rw [HY1.out]; exact HO18.out, by rw [HLS.out]; exact HP8.out, HAp8.out⟩
                case measure => simp [intOf]; omega
            | false =>
              cases d with
              | true =>
                have HY1 := Lib.hid (HY.out rfl)
                clear HY HN
                simp only [if_true, Bool.false_eq_true, if_false] at hlt4
                subst hlt4
                go_wp2_with (at_builtin; refine wpList_appS (E := P2) rfl _ _ 25 rfl 57 _ i0 _ Try.underlying25 HI.out hz0 rfl hz1 16 hz2 (by decide) w2.heap.size _ _ rfl HO14.out (k, 1) _ rfl _ (by simp) rfl ?_ ?_ hw4.size ?_)
                · intro y hy; simp [P2] at hy; unfold Good; omega
                · omega
                · intro v8 w8 h1 h2 h3
                  have hw8 : Below w2.heap.size w2 w8 := HO14.out.step hw4 h2
                  have HO18 := Lib.hid h1
                  have HP8 := Lib.hid (HP4.out.apart h2 (fun q hq => HAp9.out q hq))
                  have hv9 := fun q h => (HP4.out.lt q h).2
                  have HAp8 := Lib.hid (show Apart v8 v9 from fun q hq hq1 => by
                    rcases h3 q hq with h | h
                    · exact HAp9.out q h hq1
                    · have := hv9 q hq1; omega)
                  clear h1 h2 h3 hv9
                  go_wp2_with fail
                  go_roundw
                  case rel => exact ⟨k + 1, _, _, by omega, rfl, rfl, by go_num, hw8, by rw [HY1.out]; exact HO18.out, by rw [HLS.out]; exact HP8.out, HAp8.out⟩
                  case measure => simp [intOf]; omega
              | false =>
                have HN1 := Lib.hid (HN.out rfl)
                clear HY HN
                have q1 : (lt == 48) = false := by rw [hlt4]; cases a <;> cases b <;> rfl
                have q2 : (lt == 49) = false := by rw [hlt4]; cases a <;> cases b <;> rfl
                clear hlt4
                go_wp2_with fail
                go_roundw
                case rel => exact ⟨k + 1, _, _, by omega, rfl, rfl, by go_num, hw4, by rw [HN1.out]; exact HO14.out, by rw [HLS.out]; exact HP4.out, HAp9.out⟩
                case measure => simp [intOf]; omega
        · have hkn : k = N := by omega
          subst hkn
          go_wp2_with fail
          go_ret3
          exact ⟨_, _, by rw [HE.out]; rfl, by rw [HE.out]; exact HO1.out.mono hbb.size, by rw [HL.out]; exact HO2.out.mono hbb.size, bthen hbb hw⟩

end Go.Proofs.Ytejnfngnofilfaa
