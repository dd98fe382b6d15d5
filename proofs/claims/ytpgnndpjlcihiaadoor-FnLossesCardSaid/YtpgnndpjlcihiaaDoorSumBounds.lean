/-
  The program's least sums: the table that sumBounds returns.
-/
import Derived.Test.YtpgnndpjlcihiaaDoorInit
import Derived.Test.YtpgnndpjlcihiaaDoorBound
import Derived.Test.YtpgnndpjlcihiaaDoorRepeat
import Derived.Test.YtpgnndpjlcihiaaDoorLosses
import Derived.Deep.RegionHeld3
import Derived.Deep.AppendLies
namespace Go.Proofs.YtpgnndpjlcihiaaDoor
open Go.RowKit

theorem infoRow : (Tryd.prog.info? 33).map (fun i => (i.zero, i.size, i.bytes)) = some (some (.slice none 0 0), 1, 24) := by kernel_rfl

/-- The rows of a table, as values. -/
def rowsV (g c : Nat → Nat) (n k : Nat) : List Value := (List.range k).map fun i => Value.slice (some ⟨g i, 0, none⟩) n (c i)
/-- The first k rows of a table that is being made, beside the box B. -/
def TBg (e t : TypeId) (w : World) (base B : Nat) (v : Value) (n k : Nat) (f : Nat → Nat → Int) (g c : Nat → Nat) : Prop :=
  w.ownsRow base t 1 v k (rowsV g c n k) ∧ (∀ i, i < k → OI e w base (.slice (some ⟨g i, 0, none⟩) n (c i)) (rowL f n i)) ∧
    (∀ i j, i < k → j < k → i ≠ j → g i ≠ g j) ∧ (∀ i, i < k → v.ownBlock ≠ some (g i)) ∧ (∀ i, i < k → g i ≠ B) ∧ v.ownBlock ≠ some B
def TBbox (e t : TypeId) (w : World) (base B : Nat) (v : Value) (n k : Nat) (f : Nat → Nat → Int) : Prop := ∃ g c : Nat → Nat, TBg e t w base B v n k f g c

theorem TBbox.below {e t : TypeId} {w w' : World} {base B : Nat} {v : Value} {n k : Nat} {f : Nat → Nat → Int} (h : TBbox e t w base B v n k f) (hb : Below w.heap.size w w') : TBbox e t w' base B v n k f := by
  obtain ⟨g, c, h1, h2, h3, h4, h5, h6⟩ := h
  refine ⟨g, c, ⟨h1.1, ?_⟩, fun i hi => (h2 i hi).below hb, h3, h4, h5, h6⟩
  rcases h1.2 with h | ⟨G, cap, cur, rfl, hbg, hg, r⟩
  · exact .inl h
  · exact .inr ⟨G, cap, cur, rfl, hbg, by rw [hb.block G (Array.getElem?_eq_some_iff.1 hg).1]; exact hg, r⟩
theorem TBbox.done {e t : TypeId} {w : World} {base B : Nat} {v : Value} {n : Nat} {f : Nat → Nat → Int} (h : TBbox e t w base B v n n f) (hn : 0 < n) : ∃ G capG g c, v = .slice (some ⟨G, 0, none⟩) n capG ∧ TBat e w base G g c n f ∧ (∀ i, i < n → g i ≠ B) ∧ G ≠ B := by
  obtain ⟨g, c, h1, h2, h3, h4, h5, h6⟩ := h
  rcases h1.2 with ⟨_, h0⟩ | ⟨G, cap, cur, rfl, hb, hg, r⟩
  · omega
  · have h1' : w.ownsRow base t 1 (.slice (some ⟨G, 0, none⟩) n cap) n (rowsV g c n n) := h1
    refine ⟨G, cap, g, c, rfl, ⟨hb, (Array.getElem?_eq_some_iff.1 hg).1, fun i hi => ?_, h2, h3, fun i hi e => h4 i hi (by simp [Value.ownBlock, e])⟩, h5, fun e => h6 (by simp [Value.ownBlock, e])⟩
    rw [h1'.cellAt i (by omega)]
    simp [rowsV, hi]
theorem TBbox.lt {e t : TypeId} {w : World} {base B : Nat} {v : Value} {n k : Nat} {f : Nat → Nat → Int} (h : TBbox e t w base B v n k f) : ∀ q, v.ownBlock = some q → base ≤ q ∧ q < w.heap.size := by
  obtain ⟨g, c, h1, _⟩ := h
  exact World.ownsRow.lt h1
theorem TBg.own {e t : TypeId} {w w' : World} {base B : Nat} {v : Value} {n k : Nat} {f : Nat → Nat → Int} {g c : Nat → Nat} (h : TBg e t w base B v n k f g c) (hb : Below w.heap.size w w') : w'.ownsRow base t 1 v k (rowsV g c n k) := by
  obtain ⟨h1, _⟩ := h
  refine ⟨h1.1, ?_⟩
  rcases h1.2 with h | ⟨G, cap, cur, rfl, hbg, hg, r⟩
  · exact .inl h
  · exact .inr ⟨G, cap, cur, rfl, hbg, by rw [hb.block G (Array.getElem?_eq_some_iff.1 hg).1]; exact hg, r⟩
/-- One row more: behind the append. -/
theorem TBbox.more {e t : TypeId} {w0 w w' : World} {base B : Nat} {v v' : Value} {n k : Nat} {f : Nat → Nat → Int} {r rc : Nat} {g c : Nat → Nat} (h : TBg e t w0 base B v n k f g c) (hb : Below w0.heap.size w0 w) (hB : B < w0.heap.size) (hr0 : w0.heap.size ≤ r) (hrw : r < w.heap.size)
    (hr : OI e w base (.slice (some ⟨r, 0, none⟩) n rc) (rowL f n k)) (hown : w'.ownsRow base t 1 v' (k + 1) (rowsV g c n k ++ [.slice (some ⟨r, 0, none⟩) n rc])) (hg : w.grownBy w' v.ownBlock)
    (hl : ∀ q, v'.ownBlock = some q → v.ownBlock = some q ∨ w.heap.size ≤ q) : TBbox e t w' base B v' n (k + 1) f := by
  have hv := TBbox.lt (⟨g, c, h⟩ : TBbox e t w0 base B v n k f)
  obtain ⟨h1, h2, h3, h4, h5, h6⟩ := h
  have q2 : ∀ i, i < k → g i < w0.heap.size := fun i hi => ((h2 i hi).lt (g i) rfl).2
  have ev : rowsV (fun i => if i = k then r else g i) (fun i => if i = k then rc else c i) n (k + 1) = rowsV g c n k ++ [.slice (some ⟨r, 0, none⟩) n rc] := by
    unfold rowsV
    rw [List.range_succ, List.map_append]
    congr 1
    · apply List.map_congr_left
      intro i hi
      have hne : ¬ i = k := by have := List.mem_range.1 hi; omega
      simp only [if_neg hne]
    · simp
  refine ⟨fun i => if i = k then r else g i, fun i => if i = k then rc else c i, by rw [ev]; exact hown, fun i hi => ?_, fun i j hi hj hij => ?_, fun i hi e => ?_, fun i hi => ?_, fun e => ?_⟩
  · by_cases e : i = k
    · subst e
      simp only [if_true]
      exact hr.grown hg (.inr (fun e2 => by have := (hv r e2.symm).2; omega))
    · simp only [if_neg e]
      exact ((h2 i (by omega)).below hb).grown hg (.inr (fun e2 => h4 i (by omega) e2.symm))
  · by_cases e : i = k
    · by_cases e2 : j = k
      · omega
      · simp only [if_pos e, if_neg e2]; have := q2 j (by omega); omega
    · by_cases e2 : j = k
      · simp only [if_neg e, if_pos e2]; have := q2 i (by omega); omega
      · simp only [if_neg e, if_neg e2]; exact h3 i j (by omega) (by omega) hij
  · by_cases e2 : i = k
    · simp only [if_pos e2] at e
      rcases hl r e with h | h
      · have := (hv r h).2; omega
      · omega
    · simp only [if_neg e2] at e
      rcases hl (g i) e with h | h
      · exact h4 i (by omega) h
      · have := q2 i (by omega); have := hb.size; omega
  · by_cases e2 : i = k
    · simp only [if_pos e2]; omega
    · simp only [if_neg e2]; exact h5 i (by omega)
  · rcases hl B e with h | h
    · exact h6 h
    · have := hb.size; omega

theorem TBbox.other {e t : TypeId} {w w' : World} {base B : Nat} {v : Value} {n k : Nat} {f : Nat → Nat → Int} (h : TBbox e t w base B v n k f) (hg : w.grownBy w' (some B)) : TBbox e t w' base B v n k f := by
  obtain ⟨g, c, h1, h2, h3, h4, h5, h6⟩ := h
  refine ⟨g, c, ⟨h1.1, ?_⟩, fun i hi => (h2 i hi).grown hg (.inr (fun e => h5 i hi (by simpa [Value.ownBlock] using e))), h3, h4, h5, h6⟩
  rcases h1.2 with h | ⟨G, cap, cur, rfl, hbg, hgg, r⟩
  · exact .inl h
  · exact .inr ⟨G, cap, cur, rfl, hbg, by rw [hg.block G (Array.getElem?_eq_some_iff.1 hgg).1 (fun e => h6 (by simp [Value.ownBlock, e]))]; exact hgg, r⟩
theorem TBat.other {e : TypeId} {w w' : World} {base G B n : Nat} {g c : Nat → Nat} {f : Nat → Nat → Int} (h : TBat e w base G g c n f) (hg : w.grownBy w' (some B)) (h1 : ∀ i, i < n → g i ≠ B) (h2 : G ≠ B) : TBat e w' base G g c n f := by
  obtain ⟨q1, q2, q3, q4, q5, q6⟩ := h
  exact ⟨q1, Nat.lt_of_lt_of_le q2 hg.size, fun i hi => (World.cell?_of_block (hg.block G q2 (fun e => h2 (by simpa using e)))).trans (q3 i hi), fun i hi => (q4 i hi).grown hg (.inr (fun e => h1 i hi (by simpa [Value.ownBlock] using e))), q5, q6⟩
theorem grown_store (W : World) (b : Nat) (v : Value) : W.grownBy (W.setCell ⟨b, 0, none⟩ v) (some b) :=
  ⟨rfl, rfl, rfl, ((Below.refl 0 W).setCell (Nat.zero_le _) v).size, fun k _ hk => Below.heap_setCell _ _ _ k (fun e => hk (by rw [e]))⟩
/-- The end of a round: the new table is laid into the box. -/
theorem box_next {e t : TypeId} {w wr w3 w4 : World} {v v' : Value} {n k : Nat} {f : Nat → Nat → Int} {r rc : Nat} {g c : Nat → Nat} (hw : Below w.heap.size w wr) (hsz : w.heap.size + 1 < wr.heap.size) (h : TBg e t wr w.heap.size (w.heap.size + 1) v n k f g c)
    (hb : Below wr.heap.size wr w3) (hr0 : wr.heap.size ≤ r) (hrw : r < w3.heap.size) (hr : OI e w3 w.heap.size (.slice (some ⟨r, 0, none⟩) n rc) (rowL f n k))
    (hown : w4.ownsRow w.heap.size t 1 v' (k + 1) (rowsV g c n k ++ [.slice (some ⟨r, 0, none⟩) n rc])) (hg : w3.grownBy w4 v.ownBlock) (hl : ∀ q, v'.ownBlock = some q → v.ownBlock = some q ∨ w3.heap.size ≤ q)
    {u : Value} (hc : w4.cell? ⟨w.heap.size + 1, 0, none⟩ = some u) (hf : w4.frozen? ⟨w.heap.size + 1, 0, none⟩ = false) :
    Below w.heap.size w (w4.setCell ⟨w.heap.size + 1, 0, none⟩ v') ∧ w.heap.size + 1 < (w4.setCell ⟨w.heap.size + 1, 0, none⟩ v').heap.size ∧ (w4.setCell ⟨w.heap.size + 1, 0, none⟩ v').cell? ⟨w.heap.size + 1, 0, none⟩ = some v' ∧
      (w4.setCell ⟨w.heap.size + 1, 0, none⟩ v').frozen? ⟨w.heap.size + 1, 0, none⟩ = false ∧ TBbox e t (w4.setCell ⟨w.heap.size + 1, 0, none⟩ v') w.heap.size (w.heap.size + 1) v' n (k + 1) f := by
  have hg5 := grown_store w4 (w.heap.size + 1) v'
  have hB4 : Below w.heap.size w w4 := (bthen hw hb).grown hg (Nat.le_trans hw.size hb.size) (fun q hq => (TBbox.lt (⟨g, c, h⟩ : TBbox e t wr w.heap.size _ v n k f) q hq).1)
  refine ⟨hB4.setCell (by simp) _, Nat.lt_of_lt_of_le hsz (Nat.le_trans hb.size (Nat.le_trans hg.size hg5.size)), ?_, ?_, (TBbox.more h hb hsz hr0 hrw hr hown hg hl).other hg5⟩
  · exact World.cell?_setCell_same _ _ _ hc
  · rw [World.frozen?_setCell]; exact hf

/-- Within the walk: the box of w is at its second new block, and holds a table f. -/
def TS (e : TypeId) (w wr : World) (G capG : Nat) (g c : Nat → Nat) (n : Nat) (f : Nat → Nat → Int) : Prop :=
  Below w.heap.size w wr ∧ wr.cell? ⟨w.heap.size + 1, 0, none⟩ = some (.slice (some ⟨G, 0, none⟩) n capG) ∧ TBat e wr w.heap.size G g c n f ∧ ∀ i, i < n → g i ≠ w.heap.size + 1
theorem TS.below {e : TypeId} {w wr w' : World} {G capG : Nat} {g c : Nat → Nat} {n : Nat} {f : Nat → Nat → Int} (h : TS e w wr G capG g c n f) (hb : Below wr.heap.size wr w') : TS e w w' G capG g c n f :=
  ⟨bthen h.1 hb, (hb.cell (p := ⟨w.heap.size + 1, 0, none⟩) (World.block_lt_of_cell? wr _ h.2.1)).trans h.2.1, h.2.2.1.below hb, h.2.2.2⟩
theorem TS.grown {e : TypeId} {w wr w' : World} {G capG : Nat} {g c : Nat → Nat} {n : Nat} {f f' : Nat → Nat → Int} (h : TS e w wr G capG g c n f) (i : Nat) (hi : i < n) (hg : wr.grownBy w' (some (g i))) (ht : TBat e w' w.heap.size G g c n f') : TS e w w' G capG g c n f' :=
  ⟨bgrown h.1 hg (fun k e => by rw [← Option.some.inj e]; exact (h.2.2.1.base_le i hi).1),
    (World.cell?_of_block (hg.block (w.heap.size + 1) (World.block_lt_of_cell? wr ⟨w.heap.size + 1, 0, none⟩ h.2.1) (fun e => h.2.2.2 i hi (Option.some.inj e).symm))).trans h.2.1, ht, h.2.2.2⟩
/-- One call of bound. -/
theorem TS.call {w wr : World} {G capG : Nat} {g c : Nat → Nat} {n : Nat} {f : Nat → Nat → Int} (h : TS 2 w wr G capG g c n f) (i k : Nat) (hi : i < n) (hk : k < n) (x a b : Int) (ha : a = i) (hb : b = k) (hx : Good x) :
    Calls Tryd.prog 62 #[.int .i64 a, .int .i64 b, .int .i64 x, .pointer (some ⟨w.heap.size + 1, 0, none⟩)] wr fun e w' => e = .returned (.tuple #[]) ∧ TS 2 w w' G capG g c n (boundF f i k x) ∧ wr.grownBy w' (some (g i)) := by
  subst ha hb
  refine (bound_any w.heap.size (w.heap.size + 1) G n capG g c f i k x wr hi hk hx h.2.1 h.2.2.1).mono ?_
  rintro e w' ⟨rfl, ht, hg⟩
  exact ⟨rfl, h.grown i hi hg ht, hg⟩
theorem bound_enters : ∀ args w, (callFunc 62 args).run Tryd.prog w = .ok (.enter 62 args) w := enters_of Tryd.func62 (by kernel_rfl) rfl

/-- The table whose first k diagonal entries are 0. -/
def diagF (f : Nat → Nat → Int) (k : Nat) : Nat → Nat → Int := fun a b => if a = b ∧ a < k then 0 else f a b
theorem diagF_zero (f : Nat → Nat → Int) : diagF f 0 = f := by
  funext a b
  unfold diagF
  rw [if_neg (by omega)]
theorem diagF_at (f : Nat → Nat → Int) (k : Nat) : diagF f k k k = f k k := by
  unfold diagF
  rw [if_neg (by omega)]
theorem diagF_succ (f : Nat → Nat → Int) (k : Nat) : diagF f (k + 1) = upd (diagF f k) k k 0 := by
  funext a b
  unfold diagF upd
  show (if a = b ∧ a < k + 1 then 0 else f a b) = if a = k ∧ b = k then 0 else if a = b ∧ a < k then 0 else f a b
  by_cases h : a = k ∧ b = k
  · rw [if_pos h, if_pos (by omega)]
  · rw [if_neg h]
    by_cases h2 : a = b ∧ a < k
    · rw [if_pos h2, if_pos (by omega)]
    · rw [if_neg h2, if_neg (by omega)]
theorem diagF_all (f : Nat → Nat → Int) (n a b : Nat) (h : a < n) : diagF f n a b = if a = b then 0 else f a b := by
  unfold diagF
  by_cases e : a = b
  · rw [if_pos ⟨e, h⟩, if_pos e]
  · rw [if_neg (fun h => e h.1), if_neg e]
theorem TBat.congr {e : TypeId} {w : World} {base G n : Nat} {g c : Nat → Nat} {f f' : Nat → Nat → Int} (h : TBat e w base G g c n f) (hf : ∀ a b, a < n → b < n → f a b = f' a b) : TBat e w base G g c n f' := by
  obtain ⟨q1, q2, q3, q4, q5, q6⟩ := h
  refine ⟨q1, q2, q3, fun i hi => ?_, q5, q6⟩
  have : rowL f' n i = rowL f n i := by
    unfold rowL
    apply List.map_congr_left
    intro b hb
    exact (hf i b hi (List.mem_range.1 hb)).symm
  rw [this]
  exact q4 i hi
theorem okA_false {s : Nat} {tf : Nat → Bool} {xs : List (Int × Int × Int)} {k : Nat} (hk : k < s + 1) (h : endA s tf xs k k < 0) : okA s tf xs = false := by
  unfold okA
  rw [List.all_eq_false]
  exact ⟨k, List.mem_range.2 hk, by simp only [decide_eq_true_eq]; omega⟩
theorem okA_true {s : Nat} {tf : Nat → Bool} {xs : List (Int × Int × Int)} (h : ∀ a, a < s + 1 → 0 ≤ endA s tf xs a a) : okA s tf xs = true := by
  unfold okA
  rw [List.all_eq_true]
  intro a ha
  exact decide_eq_true (h a (List.mem_range.1 ha))

theorem repeat_at (H : Nat) (x : Int) (n : Nat) (h2 : 2 ≤ n) (h : n ≤ 10) (w : World) (hx : Good x) (hc : w.cell? ⟨H, 0, none⟩ = some (.int .i64 x)) (hH : H < w.heap.size) :
    Calls Tryd.prog 61 #[.slice (some ⟨H, 0, none⟩) 1 1, .int .i64 n] w fun e w' => ∃ r rc, e = .returned (.slice (some ⟨r, 0, none⟩) n rc) ∧ w.heap.size ≤ r ∧ r < w'.heap.size ∧ OI 2 w' w.heap.size (.slice (some ⟨r, 0, none⟩) n rc) (List.replicate n x) ∧ Below w.heap.size w w' := by
  refine (repeat_any H x n h2 h w hx hc hH).mono ?_
  rintro e w' ⟨v', rfl, ho, hb⟩
  rcases ho.shape with ⟨_, h0⟩ | ⟨r, rc, rfl, h3, h4⟩
  · have := congrArg List.length h0
    simp at this
    omega
  · rw [List.length_replicate] at ho ⊢
    exact ⟨r, rc, rfl, h3, h4, ho, hb⟩
theorem rowL_const (x : Int) (n i : Nat) : rowL (fun _ _ => x) n i = List.replicate n x := by simp [rowL, List.map_const']
theorem news_one (w : World) (v : Value) (t : TypeId) : ∀ j u, [v][j]? = some u → (w.alloc (.cells #[v] t)).drew.cell? ((⟨w.heap.size, 0, none⟩ : Addr).add j) = some u := fun j u hj => by
  match j, hj with
  | 0, hj =>
    simp at hj
    subst hj
    simp [Addr.add, cell_new]
theorem one_slice (a : Option Addr) (n c : Nat) : ∀ u ∈ [Value.slice a n c], u.oneCell' = true := fun u hu => by
  simp at hu
  subst hu
  rfl

end Go.Proofs.YtpgnndpjlcihiaaDoor
