/-
  BestOrder: the first order with the least delays.
  copyRuns, RunsOfPlan.
  FirstMeeting, of runs that do not meet.
-/
import Derived.Test.YthlpbeohlhhblaaGreatTopD
import Derived.Test.YthlpbeohlhhblaaGreatTopF
import Derived.Test.YthlpbeohlhhblaaGreatTopC
import Derived.Shelf.Abstract
namespace Go.Proofs.YthlpbeohlhhblaaGreat
open Go.RowKit

theorem bestValue_enters : ∀ args w, (callFunc 27 args).run Tryz.prog w = .ok (.enter 27 args) w := enters_of Tryz.func27 (by kernel_rfl) rfl
theorem bestYield_enters : ∀ args w, (callFunc 57 args).run Tryz.prog w = .ok (.enter 57 args) w := enters_of Tryz.func57 (by kernel_rfl) rfl

theorem bestValue_any (xs : List WishP) (rs : List RunP) (lv rv : Value) (bl : Nat) (w : World) (hc : w.cell? ⟨bl, 0, none⟩ = some lv) (hx : WishI w lv xs) (hr : RunsI w rv rs) (hl : rs.length = xs.length) (h6 : xs.length ≤ 6)
    (hb : ∀ i, i < xs.length → 0 ≤ (xs.getD i zW).2.1 ∧ (xs.getD i zW).2.1 ≤ 10000 ∧ 0 ≤ (rs.getD i zR).2 ∧ (rs.getD i zR).2 ≤ 100000) :
    Calls Tryz.prog 27 #[rv, .pointer (some ⟨bl, 0, none⟩)] w fun e w' => e = .returned (.int .i64 (delay xs rs xs.length)) ∧ Below w.heap.size w w' := by
  have C := Lib.hid (delayOf_any xs rs lv rv w hx hr hl h6 hb)
  clear hx hr hl hb
  go_enter Tryz.func27, Tryz.ntmps27
  go_wp2_with fail
  refine C.out.mono ?_
  rintro e w' ⟨rfl, hb'⟩
  go_wp2_with fail
  go_ret
  exact ⟨rfl, hb'⟩

/-- A variable in a block of its own. -/
def BoxV (e : TypeId) (w : World) (b : Nat) (v : Value) : Prop := w.ownsRow b e 1 (.slice (some ⟨b, 0, none⟩) 1 1) 1 [v]
theorem BoxV.cell {e : TypeId} {w : World} {b : Nat} {v : Value} (h : BoxV e w b v) : w.cell? ⟨b, 0, none⟩ = some v ∧ w.frozen? ⟨b, 0, none⟩ = false := ⟨h.cellAt 0 (by decide), h.frozenAt 0⟩
theorem BoxV.lt {e : TypeId} {w : World} {b : Nat} {v : Value} (h : BoxV e w b v) : b < w.heap.size := (World.ownsRow.lt h b rfl).2
theorem BoxV.new (e : TypeId) (w : World) (v : Value) : BoxV e (w.alloc (.cells #[v] e)) w.heap.size v := World.ownsRow_lit (base := w.heap.size) (size := 1) w #[v] 1 (Nat.le_refl _) (by unfold maxLen; omega) rfl
theorem BoxV.grown {e : TypeId} {w w' : World} {b : Nat} {v : Value} {row : Option Nat} (h : BoxV e w b v) (hg : w.grownBy w' row) (hne : some b ≠ row) : BoxV e w' b v := World.ownsRow.kept h hg (.inr hne)
theorem BoxV.below {e : TypeId} {w w' : World} {b : Nat} {v : Value} (h : BoxV e w b v) (hb : Below w.heap.size w w') : BoxV e w' b v := h.grown (row := none) ⟨hb.os, hb.tape, hb.output, hb.size, fun k hk _ => hb.block k hk⟩ (by simp)
theorem BoxV.put {e : TypeId} {w : World} {b : Nat} {v : Value} (h : BoxV e w b v) (x : Value) : BoxV e (w.setCell ⟨b, 0, none⟩ x) b x ∧ w.grownBy (w.setCell ⟨b, 0, none⟩ x) (some b) := World.ownsRow.stored h 0 x

/-- The state of the search for the best order, in memory: the boxes of times, of the list, of the function (and its own box of the list), and those of the best order and of the least value. -/
structure BInv (times : List Int) (xs : List WishP) (tv lv : Value) (wA : World) (bt bw bf bl bB bL : Nat) (st : List Int × Int) (W : World) : Prop where
  below : Below wA.heap.size wA W
  ct : W.cell? ⟨bt, 0, none⟩ = some tv
  cw : W.cell? ⟨bw, 0, none⟩ = some lv
  cf : W.cell? ⟨bf, 0, none⟩ = some (.func (.func 27) #[] #[.pointer (some ⟨bl, 0, none⟩)])
  cl : W.cell? ⟨bl, 0, none⟩ = some lv
  best : ∃ v, BoxV 24 W bB v ∧ RI W v st.1 ∧ Off (fun k => k = bB ∨ k = bL) v
  least : BoxV 2 W bL (.int .i64 st.2)
  num : -1 ≤ st.2 ∧ st.2 ≤ 1000000

theorem cell_below {w w' : World} (hb : Below w.heap.size w w') {b : Nat} {v : Value} (h : w.cell? ⟨b, 0, none⟩ = some v) : w'.cell? ⟨b, 0, none⟩ = some v :=
  (hb.cell (p := ⟨b, 0, none⟩) (World.block_lt_of_cell? w _ h)).trans h
theorem BInv.down {times : List Int} {xs : List WishP} {tv lv : Value} {wA : World} {bt bw bf bl bB bL : Nat} {st : List Int × Int} {W W' : World} (h : BInv times xs tv lv wA bt bw bf bl bB bL st W) (hb : Below W.heap.size W W') :
    BInv times xs tv lv wA bt bw bf bl bB bL st W' := by
  obtain ⟨v, h1, h2, h3⟩ := h.best
  exact ⟨bthen h.below hb, cell_below hb h.ct, cell_below hb h.cw, cell_below hb h.cf, cell_below hb h.cl, ⟨v, h1.below hb, h2.below hb, h3⟩, h.least.below hb, h.num⟩
/-- Another order is put in, with its value. -/
theorem BInv.put {times : List Int} {xs : List WishP} {tv lv : Value} {wA : World} {bt bw bf bl bB bL : Nat} {st : List Int × Int} {W : World} (h : BInv times xs tv lv wA bt bw bf bl bB bL st W)
    (hB : wA.heap.size ≤ bB) (hL : wA.heap.size ≤ bL) (hne : bB ≠ bL) (h1 : bt ≠ bB ∧ bt ≠ bL) (h2 : bw ≠ bB ∧ bw ≠ bL) (h3 : bf ≠ bB ∧ bf ≠ bL) (h4 : bl ≠ bB ∧ bl ≠ bL) (u : Value) (o : List Int) (c : Int) (hu : RI W u o) (hof : Off (fun k => k = bB ∨ k = bL) u) (hc : 0 ≤ c ∧ c ≤ 1000000) :
    BInv times xs tv lv wA bt bw bf bl bB bL (o, c) ((W.setCell ⟨bB, 0, none⟩ u).setCell ⟨bL, 0, none⟩ (.int .i64 c)) ∧ Keeps (fun k => k = bB ∨ k = bL) W ((W.setCell ⟨bB, 0, none⟩ u).setCell ⟨bL, 0, none⟩ (.int .i64 c)) := by
  obtain ⟨v, b1, _, _⟩ := h.best
  obtain ⟨a1, a2⟩ := b1.put u
  have l1 := h.least.grown a2 (fun e => hne (Option.some.inj e).symm)
  obtain ⟨a3, a4⟩ := l1.put (.int .i64 c)
  have k1 : Keeps (fun k => k = bB ∨ k = bL) W (W.setCell ⟨bB, 0, none⟩ u) := Keeps.of_grown a2 fun k e => .inl (Option.some.inj e).symm
  have k2 : Keeps (fun k => k = bB ∨ k = bL) (W.setCell ⟨bB, 0, none⟩ u) ((W.setCell ⟨bB, 0, none⟩ u).setCell ⟨bL, 0, none⟩ (.int .i64 c)) := Keeps.of_grown a4 fun k e => .inr (Option.some.inj e).symm
  have k3 := k1.trans k2
  have kc : ∀ (b : Nat) (x : Value), W.cell? ⟨b, 0, none⟩ = some x → b ≠ bB ∧ b ≠ bL → ((W.setCell ⟨bB, 0, none⟩ u).setCell ⟨bL, 0, none⟩ (.int .i64 c)).cell? ⟨b, 0, none⟩ = some x := fun b x hx hn =>
    (k3.cell (World.block_lt_of_cell? W _ hx) (fun e => e.elim hn.1 hn.2)).trans hx
  refine ⟨⟨?_, kc _ _ h.ct h1, kc _ _ h.cw h2, kc _ _ h.cf h3, kc _ _ h.cl h4, ⟨u, a1.grown a4 (fun e => hne (Option.some.inj e)), hu.keeps k3 hof, hof⟩, a3, by simp only; omega⟩, k3⟩
  exact h.below.trans (k3.below (fun k e => by rcases e with rfl | rfl <;> assumption) h.below.size)

set_option maxRecDepth 100000 in
set_option maxHeartbeats 4000000 in
theorem bestYield_any (times : List Int) (xs : List WishP) (tv lv : Value) (wA : World) (bt bw bf bl bB bL : Nat) (ht : RI wA tv times) (hx : WishI wA lv xs) (hok : okWishes times xs = true)
    (hB : wA.heap.size ≤ bB) (hL : wA.heap.size ≤ bL) (hne : bB ≠ bL) (h1 : bt ≠ bB ∧ bt ≠ bL) (h2 : bw ≠ bB ∧ bw ≠ bL) (h3 : bf ≠ bB ∧ bf ≠ bL) (h4 : bl ≠ bB ∧ bl ≠ bL) :
    Yields (fun k => k = bB ∨ k = bL) (BInv times xs tv lv wA bt bw bf bl bB bL) (bestStep (cost times xs)) xs.length 57 #[.pointer (some ⟨bf, 0, none⟩), .pointer (some ⟨bt, 0, none⟩), .pointer (some ⟨bw, 0, none⟩), .pointer (some ⟨bL, 0, none⟩), .pointer (some ⟨bB, 0, none⟩)] := by
  intro W st o v ho hI hv hoff hp
  have HI := Lib.hid hI
  have HV := Lib.hid hv
  have HOR := Lib.hid ho
  have HOK := Lib.hid hok
  have CR := Lib.hid (fun W2 (h : Below W.heap.size W W2) => runsOfPlan_any times xs o tv lv v W2 ((ht.below hI.below).below h) ((hx.below hI.below).below h) (hv.below h) hok ho)
  have HPF := Lib.hid (fun b e => hp b e)
  have CV := Lib.hid (fun W2 (rv : Value) (h : Below W.heap.size W W2) (hr : RunsI W2 rv (plan times xs o)) => bestValue_any xs (plan times xs o) lv rv bl W2 (cell_below h hI.cl) ((hx.below hI.below).below h) hr (plan_length _ _ _) (okWishes_len hok) (plan_bounds hok ho))
  have hcb := cost_bound hok ho
  have hnum := hI.num
  have c1 := hI.cf
  have c2 := hI.ct
  have c3 := hI.cw
  have hol : o.length ≤ 6 := by have := ho.1; have := okWishes_len hok; omega
  have HPUT := Lib.hid (fun (W2 : World) (h : Below W.heap.size W W2) (u : Value) (c : Int) (hu : RI W2 u o) (hof : Off (fun k => k = bB ∨ k = bL) u) (hc : 0 ≤ c ∧ c ≤ 1000000) => BInv.put (hI.down h) hB hL hne h1 h2 h3 h4 u o c hu hof hc)
  have hl1 := hI.least.cell
  have HE1 := bestValue_enters
  change _ at HE1
  clear ho hI hv hok hx ht hp
  unfold cost at hcb
  go_enter Tryz.func57, Tryz.ntmps57
  go_wp2_with fail
  go_region_held3 (fun w' => w'.cell? ⟨bf, 0, none⟩ = some (.func (.func 27) #[] #[.pointer (some ⟨bl, 0, none⟩)]) ∧ w'.cell? ⟨bt, 0, none⟩ = some tv ∧ w'.cell? ⟨bw, 0, none⟩ = some lv)
    (first
      | go_keep
      | (go_split_ands
         refine ⟨?_, ?_, ?_⟩ <;> go_keep))
    (first
      | (go_simp
         go_at_call 30
         with_reducible refine (CR.out _ ?hw).mono ?_
         case hw => exact (Below.refl _ _).drew
         rintro e w2 ⟨v2, rs, rfl, ho2, hr2, hbx⟩
         have hb2 : Below W.heap.size W w2 := bthen (Below.refl _ _).drew hbx
         have hrr := plan_runs ho2 (hr2) hbx
         have p0 := cell_below hb2 c1
         have p1 := cell_below hb2 c2
         have p2 := cell_below hb2 c3)
      | (go_simp
         go_at_fn 27
         with_reducible refine (CV.out _ _ ?hw ?hr).mono ?_
         case hw => exact hb2
         case hr => exact hrr
         rintro e w3 ⟨rfl, hbx3⟩
         have hb3 : Below W.heap.size W w3 := bthen hb2 hbx3
         have r0 := cell_below hb3 c1
         have r1 := cell_below hb3 c2
         have r2 := cell_below hb3 c3))
  have HB3 := Lib.hid hb3
  have HI3 := Lib.hid (HI.out.down hb3)
  have HV3 := Lib.hid (HV.out.below hb3)
  have HK3 := Lib.hid (Keeps.of_below (p := fun k => k = bB ∨ k = bL) hb3)
  have HST := Lib.hid (show bestStep (cost times xs) st o = if st.2 < 0 ∨ delay xs (plan times xs o) xs.length < st.2 then (o, delay xs (plan times xs o) xs.length) else st from rfl)
  have l3 := HI3.out.least.cell.1
  generalize delay xs (plan times xs o) xs.length = c at hcb HST ⊢
  clear hb3 hb2 hbx hbx3 hrr ho2 hr2 p0 p1 p2 r0 r1 r2 c1 c2 c3 hl1 CR CV HI
  obtain ⟨sb, sl⟩ := st
  simp only at hnum l3 HST
  have fin : ∀ w4 v4, Below w3.heap.size w3 w4 → OI 2 w4 w3.heap.size v4 o → bestStep (cost times xs) (sb, sl) o = (o, c) →
      BInv times xs tv lv wA bt bw bf bl bB bL (bestStep (cost times xs) (sb, sl) o) ((w4.setCell ⟨bB, 0, none⟩ v4).setCell ⟨bL, 0, none⟩ (.int .i64 c)) ∧ Keeps (fun k => k = bB ∨ k = bL) W ((w4.setCell ⟨bB, 0, none⟩ v4).setCell ⟨bL, 0, none⟩ (.int .i64 c)) := fun w4 v4 h4b h4o he => by
    obtain ⟨z1, z2⟩ := HPUT.out w4 (bthen HB3.out h4b) v4 c h4o.ri (off_new h4o fun k hk => Nat.lt_of_lt_of_le (HPF.out k hk) HB3.out.size) (by omega)
    rw [he]
    exact ⟨z1, (HK3.out.then_below h4b).trans z2⟩
  have FIN := Lib.hid fin
  clear fin
  by_cases g1 : sl < 0
  · have d1 : decide (sl < 0) = true := decide_eq_true g1
    have HE := Lib.hid (show bestStep (cost times xs) (sb, sl) o = (o, c) by rw [HST.out, if_pos (.inl g1)])
    clear g1 HST
    go_wp2_with fail
    refine (cloneI_any v o _ HV3.out (by omega)).mono ?_
    rintro e w4 ⟨v4, rfl, ho4, hb4⟩
    obtain ⟨a4, c4, hsh⟩ := ho4.ri.shape
    subst hsh
    have HF := Lib.hid (FIN.out w4 _ hb4 ho4 HE.out)
    obtain ⟨vo, b1, _, _⟩ := (HI3.out.down hb4).best
    obtain ⟨e1, e2⟩ := b1.cell
    obtain ⟨e3, e4⟩ := (HI3.out.down hb4).least.cell
    have hne' : bB ≠ bL := hne
    clear ho4 hb4 b1
    go_wp2_with fail
    go_end0
    exact ⟨rfl, HF.out.1, HF.out.2⟩
  · have d1 : decide (sl < 0) = false := decide_eq_false g1
    by_cases g2 : c < sl
    · have d2 : decide (c < sl) = true := decide_eq_true g2
      have HE := Lib.hid (show bestStep (cost times xs) (sb, sl) o = (o, c) by rw [HST.out, if_pos (.inr g2)])
      clear g1 g2 HST
      go_wp2_with fail
      refine (cloneI_any v o _ HV3.out (by omega)).mono ?_
      rintro e w4 ⟨v4, rfl, ho4, hb4⟩
      obtain ⟨a4, c4, hsh⟩ := ho4.ri.shape
      subst hsh
      have HF := Lib.hid (FIN.out w4 _ hb4 ho4 HE.out)
      obtain ⟨vo, b1, _, _⟩ := (HI3.out.down hb4).best
      obtain ⟨e1, e2⟩ := b1.cell
      obtain ⟨e3, e4⟩ := (HI3.out.down hb4).least.cell
      clear ho4 hb4 b1
      go_wp2_with fail
      go_end0
      exact ⟨rfl, HF.out.1, HF.out.2⟩
    · have d2 : decide (c < sl) = false := decide_eq_false g2
      have HE := Lib.hid (show bestStep (cost times xs) (sb, sl) o = (sb, sl) by rw [HST.out, if_neg (by omega)])
      clear g1 g2 HST
      go_wp2_with fail
      go_end0
      exact ⟨rfl, by rw [HE.out]; exact HI3.out, HK3.out⟩

theorem three_boxes (w : World) (x y z : Value) (t1 t2 t3 : TypeId) :
    Below w.heap.size w (((w.alloc (.cells #[x] t1)).alloc (.cells #[y] t2)).alloc (.cells #[z] t3)) ∧ (((w.alloc (.cells #[x] t1)).alloc (.cells #[y] t2)).alloc (.cells #[z] t3)).heap.size = w.heap.size + 3 ∧
    (((w.alloc (.cells #[x] t1)).alloc (.cells #[y] t2)).alloc (.cells #[z] t3)).cell? ⟨w.heap.size, 0, none⟩ = some x ∧ (((w.alloc (.cells #[x] t1)).alloc (.cells #[y] t2)).alloc (.cells #[z] t3)).cell? ⟨w.heap.size + 1, 0, none⟩ = some y ∧ (((w.alloc (.cells #[x] t1)).alloc (.cells #[y] t2)).alloc (.cells #[z] t3)).cell? ⟨w.heap.size + 1 + 1, 0, none⟩ = some z := by
  have b1 := (Below.refl w.heap.size w).alloc (Nat.le_refl _) (.cells #[x] t1)
  have b2 := b1.alloc b1.size (.cells #[y] t2)
  have b3 := b2.alloc b2.size (.cells #[z] t3)
  refine ⟨b3, by simp, ?_, ?_, ?_⟩
  · rw [World.cell?_alloc_past _ _ _ (by simp; omega)]
    exact cell_alloc2a _ _ _ _ _
  · rw [World.cell?_alloc_past _ _ _ (by simp)]
    exact cell_alloc2b _ _ _ _ _
  · rw [World.cell?_alloc_at _ _ _ _ (by simp)]; rfl

/-- The search begins. -/
theorem binv_start {times : List Int} {xs : List WishP} {tv lv : Value} {wA w4 : World} {bt bw bf bl : Nat} (hb : Below wA.heap.size wA w4) (h1 : w4.cell? ⟨bt, 0, none⟩ = some tv) (h2 : w4.cell? ⟨bw, 0, none⟩ = some lv)
    (h3 : w4.cell? ⟨bf, 0, none⟩ = some (.func (.func 27) #[] #[.pointer (some ⟨bl, 0, none⟩)])) (h4 : w4.cell? ⟨bl, 0, none⟩ = some lv) :
    BInv times xs tv lv wA bt bw bf bl (w4.heap.size + 1) (w4.heap.size + 1 + 1) ([], -1) (((w4.alloc (.cells #[] 2)).alloc (.cells #[.slice (some ⟨w4.heap.size, 0, none⟩) 0 0] 24)).alloc (.cells #[.int .i64 (-1)] 2)) ∧
    Below w4.heap.size w4 (((w4.alloc (.cells #[] 2)).alloc (.cells #[.slice (some ⟨w4.heap.size, 0, none⟩) 0 0] 24)).alloc (.cells #[.int .i64 (-1)] 2)) := by
  have b1 := (Below.refl w4.heap.size w4).alloc (Nat.le_refl _) (.cells #[] 2)
  have b2 := b1.alloc b1.size (.cells #[.slice (some ⟨w4.heap.size, 0, none⟩) 0 0] 24)
  have b3 := b2.alloc b2.size (.cells #[.int .i64 (-1)] 2)
  have n1 := BoxV.new 24 (w4.alloc (.cells #[] 2)) (.slice (some ⟨w4.heap.size, 0, none⟩) 0 0)
  have n2 := BoxV.new 2 ((w4.alloc (.cells #[] 2)).alloc (.cells #[.slice (some ⟨w4.heap.size, 0, none⟩) 0 0] 24)) (.int .i64 (-1))
  have s1 : (w4.alloc (.cells #[] 2)).heap.size = w4.heap.size + 1 := by simp
  have s2 : ((w4.alloc (.cells #[] 2)).alloc (.cells #[.slice (some ⟨w4.heap.size, 0, none⟩) 0 0] 24)).heap.size = w4.heap.size + 1 + 1 := by simp
  rw [s1] at n1
  rw [s2] at n2
  have n3 := n1.below ((Below.refl _ ((w4.alloc (.cells #[] 2)).alloc (.cells #[.slice (some ⟨w4.heap.size, 0, none⟩) 0 0] 24))).alloc (Nat.le_refl _) (.cells #[.int .i64 (-1)] 2))
  have r1 := (OI.lit0 2 w4 w4.heap.size (Nat.le_refl _)).ri
  have r2 := (r1.below ((Below.refl _ (w4.alloc (.cells #[] 2))).alloc (Nat.le_refl _) (.cells #[.slice (some ⟨w4.heap.size, 0, none⟩) 0 0] 24))).below ((Below.refl _ ((w4.alloc (.cells #[] 2)).alloc (.cells #[.slice (some ⟨w4.heap.size, 0, none⟩) 0 0] 24))).alloc (Nat.le_refl _) (.cells #[.int .i64 (-1)] 2))
  refine ⟨⟨bthen hb b3, cell_below b3 h1, cell_below b3 h2, cell_below b3 h3, cell_below b3 h4, ⟨_, n3, r2, fun k hk e => ?_⟩, n2, by simp⟩, b3⟩
  have : w4.heap.size = k := Option.some.inj hk
  omega

set_option maxRecDepth 100000 in
set_option maxHeartbeats 4000000 in
theorem bestOrder_any (times : List Int) (xs : List WishP) (tv lv : Value) (bl : Nat) (w : World) (ht : RI w tv times) (hx : WishI w lv xs) (hok : okWishes times xs = true) (hbl : w.cell? ⟨bl, 0, none⟩ = some lv) :
    Calls Tryz.prog 26 #[tv, lv, .func (.func 27) #[] #[.pointer (some ⟨bl, 0, none⟩)]] w fun e w' =>
      ∃ v', e = .returned (.tuple #[v', .int .i64 (best (cost times xs) (allOrders xs.length xs.length [])).2, .int .i64 0]) ∧ RI w' v' (best (cost times xs) (allOrders xs.length xs.length [])).1 ∧ Below w.heap.size w w' := by
  obtain ⟨a, cap, rfl⟩ := ht.shape
  obtain ⟨a2, cap2, rfl, _, _⟩ := hx.shape
  have hlt := World.block_lt_of_cell? w _ hbl
  have hmf : ∀ (fn : Fn) (first cap : Array Value) (w : World), (Instr.makeFunc fn first cap).run Tryz.prog w = .ok (.func fn first cap) w := fun _ _ _ _ => rfl
  have HT := Lib.hid ht
  have HX := Lib.hid hx
  have HOK := Lib.hid hok
  have HBL := Lib.hid hbl
  clear ht hx hok hbl
  go_enter Tryz.func26, Tryz.ntmps26
  obtain ⟨hb3, hz3, k0, k1, k2⟩ := three_boxes w (.slice a times.length cap) (.slice a2 xs.length cap2) (.func (.func 27) #[] #[.pointer (some ⟨bl, 0, none⟩)]) 24 26 65
  go_wp2_with fail
  generalize (((w.alloc (.cells #[.slice a times.length cap] 24)).alloc (.cells #[.slice a2 xs.length cap2] 26)).alloc (.cells #[.func (.func 27) #[] #[.pointer (some ⟨bl, 0, none⟩)]] 65)) = w3 at hb3 hz3 k0 k1 k2 ⊢
  refine (validWishes_yes times xs _ _ w3 (HT.out.below hb3) (HX.out.below hb3) HOK.out).mono ?_
  rintro e w4 ⟨rfl, hb4⟩
  have HB4 := Lib.hid (bthen hb3 hb4)
  have j0 := cell_below hb4 k0
  have j1 := cell_below hb4 k1
  have j2 := cell_below hb4 k2
  have j3 := cell_below (bthen hb3 hb4) HBL.out
  have hz4 : w.heap.size + 3 ≤ w4.heap.size := by have := hb4.size; omega
  clear hb3 hz3 k0 k1 k2 hb4
  obtain ⟨hI, hbS⟩ := binv_start (times := times) (xs := xs) (tv := .slice a times.length cap) (lv := .slice a2 xs.length cap2) (wA := w) (w4 := w4) HB4.out j0 j1 j2 j3
  have l1 := cell_below hbS j1
  have hn6 := okWishes_len HOK.out
  have HY := Lib.hid (bestYield_any times xs (.slice a times.length cap) (.slice a2 xs.length cap2) w w.heap.size (w.heap.size + 1) (w.heap.size + 1 + 1) bl (w4.heap.size + 1) (w4.heap.size + 1 + 1) HT.out HX.out HOK.out (by omega) (by omega) (by omega) ⟨by omega, by omega⟩ ⟨by omega, by omega⟩ ⟨by omega, by omega⟩ ⟨by omega, by omega⟩)
  have hsS : (((w4.alloc (.cells #[] 2)).alloc (.cells #[.slice (some ⟨w4.heap.size, 0, none⟩) 0 0] 24)).alloc (.cells #[.int .i64 (-1)] 2)).heap.size = w4.heap.size + 3 := by simp
  have C := Lib.hid (orders_any (fun k => k = w4.heap.size + 1 ∨ k = w4.heap.size + 1 + 1) (BInv times xs (.slice a times.length cap) (.slice a2 xs.length cap2) w w.heap.size (w.heap.size + 1) (w.heap.size + 1 + 1) bl (w4.heap.size + 1) (w4.heap.size + 1 + 1)) (bestStep (cost times xs)) xs.length 57 _ hn6 bestYield_enters (fun st W W' h hb => BInv.down h hb) HY.out xs.length [] (.slice none 0 0) ([], -1) _ ⟨by simp, by simp⟩ (by simp) hI (RI.nil _) (fun k hk => by cases hk) (fun k hk => by rw [hsS]; omega))
  clear hI hbS hsS
  go_wp2_with fail
  refine C.out.mono ?_
  rintro e w5 ⟨rfl, hI5, _⟩
  have HI5 := Lib.hid hI5
  obtain ⟨vb, v1, v2, _⟩ := hI5.best
  have e1 := v1.cell.1
  have e2 := hI5.least.cell.1
  have HV2 := Lib.hid v2
  have HB5 := Lib.hid hI5.below
  clear hI5 v1 v2 C HY
  go_wp2_with fail
  go_quiet (fail)
  go_wp2_with fail
  go_ret3
  exact ⟨_, rfl, HV2.out.below (below_drewN' _ _), below_drewN HB5.out _⟩

set_option maxRecDepth 100000 in
theorem bestOrderPub_any (times : List Int) (xs : List WishP) (tv lv : Value) (w : World) (ht : RI w tv times) (hx : WishI w lv xs) (hok : okWishes times xs = true) :
    Calls Tryz.prog 7 #[tv, lv] w fun e w' =>
      ∃ v', e = .returned (.tuple #[v', .int .i64 (best (cost times xs) (allOrders xs.length xs.length [])).2, .int .i64 0]) ∧ RI w' v' (best (cost times xs) (allOrders xs.length xs.length [])).1 ∧ Below w.heap.size w w' := by
  obtain ⟨a2, cap2, rfl, _, _⟩ := hx.shape
  have hmf : ∀ (fn : Fn) (first cap : Array Value) (w : World), (Instr.makeFunc fn first cap).run Tryz.prog w = .ok (.func fn first cap) w := fun _ _ _ _ => rfl
  have hb := (Below.refl w.heap.size w).alloc (Nat.le_refl _) (.cells #[.slice a2 xs.length cap2] 26)
  have c0 : (w.alloc (.cells #[.slice a2 xs.length cap2] 26)).cell? ⟨w.heap.size, 0, none⟩ = some (.slice a2 xs.length cap2) := by rw [World.cell?_alloc_at _ _ _ _ rfl]; rfl
  have C := Lib.hid (bestOrder_any times xs tv (.slice a2 xs.length cap2) w.heap.size _ (ht.below hb) (hx.below hb) hok c0)
  have HB := Lib.hid hb
  clear ht hx hok hb
  generalize best (cost times xs) (allOrders xs.length xs.length []) = r at C ⊢
  go_enter Tryz.func7, Tryz.ntmps7
  go_wp2_with fail
  refine C.out.mono ?_
  rintro e w1 ⟨v1, rfl, hr, hb1⟩
  have HB1 := Lib.hid (bthen HB.out hb1)
  have HR := Lib.hid hr
  clear hr hb1 C
  go_wp2_with fail
  go_ret3
  exact ⟨_, rfl, HR.out, HB1.out⟩

end Go.Proofs.YthlpbeohlhhblaaGreat
namespace Go.Proofs.YthlpbeohlhhblaaGreat
open Go.RowKit

/-- Each way that lies in the cells rs has its own block, which is there, and is none of v's. -/
def Spread (w : World) (rs : List (Value × Int)) (v : Value) : Prop := ∀ i b, i < rs.length → (rs.getD i (vz, 0)).1.ownBlock = some b → b < w.heap.size ∧ v.ownBlock ≠ some b
theorem Spread.below {w w' : World} {rs : List (Value × Int)} {v : Value} (h : Spread w rs v) (hs : w.heap.size ≤ w'.heap.size) : Spread w' rs v := fun i b hi hb => ⟨Nat.lt_of_lt_of_le (h i b hi hb).1 hs, (h i b hi hb).2⟩
theorem RunRows.grown {w w' : World} {rs : List (Value × Int)} {xs : List RunP} {v : Value} (h : RunRows w rs xs) (hs : Spread w rs v) (hg : w.grownBy w' v.ownBlock) : RunRows w' rs xs :=
  ⟨h.1, fun i hi => ⟨(h.2 i hi).1.grown hg fun k hk e => (hs i k (by rw [h.1]; exact hi) e).2 hk, (h.2 i hi).2⟩⟩
theorem Spread.snoc {w w' : World} {rs : List (Value × Int)} {v v' s : Value} {y : Int} (h : Spread w rs v) (hw : w.heap.size ≤ w'.heap.size) (hn : ∀ k, v'.ownBlock = some k → v.ownBlock = some k ∨ w.heap.size ≤ k) (hs : ∀ b, s.ownBlock = some b → b < w.heap.size ∧ v.ownBlock ≠ some b) : Spread w' (rs ++ [(s, y)]) v' := by
  have hx : ∀ b, b < w.heap.size → v.ownBlock ≠ some b → v'.ownBlock ≠ some b := fun b hb hne e => by
    rcases hn b e with h | h
    · exact hne h
    · omega
  intro i b hi hb
  rw [getD_snoc] at hb
  simp only [List.length_append, List.length_singleton] at hi
  by_cases e : i < rs.length
  · rw [if_pos e] at hb
    have := h i b e hb
    exact ⟨by omega, hx b this.1 this.2⟩
  · rw [if_neg e, if_pos (by omega)] at hb
    have := hs b hb
    exact ⟨by omega, hx b this.1 this.2⟩

/-- A run in a new block. -/
theorem run_box (w : World) (s : Value) (y : Int) : Below w.heap.size w (w.alloc (.cells #[s, .int .i64 y] 72)) ∧ (w.alloc (.cells #[s, .int .i64 y] 72)).cell? ⟨w.heap.size, 0, none⟩ = some s ∧ (w.alloc (.cells #[s, .int .i64 y] 72)).cell? ⟨w.heap.size, 1, none⟩ = some (.int .i64 y) ∧
    w.heap.size < (w.alloc (.cells #[s, .int .i64 y] 72)).heap.size ∧ w.heap.size + 1 = (w.alloc (.cells #[s, .int .i64 y] 72)).heap.size := by
  refine ⟨(Below.refl _ _).alloc (Nat.le_refl _) _, ?_, ?_, by simp, by simp⟩
  · rw [World.cell?_alloc_at _ _ _ _ rfl]; rfl
  · rw [World.cell?_alloc_at _ _ _ _ rfl]; rfl

set_option maxRecDepth 100000 in
set_option maxHeartbeats 4000000 in
theorem copyRuns_any (xs : List RunP) (rv : Value) (w : World) (hr : RunsI w rv xs) (hl : xs.length ≤ 12) (hw : ∀ x ∈ xs, x.1.length ≤ 12) :
    Calls Tryz.prog 32 #[rv] w fun e w' => ∃ v', e = .returned v' ∧ RunsI w' v' xs ∧ Below w.heap.size w w' := by
  obtain ⟨a, cap, rfl, _, _⟩ := hr.shape
  have HR := Lib.hid hr
  have HW := Lib.hid hw
  clear hr hw
  obtain ⟨i0, hi, hz0, hz1, hz2⟩ := info_parts infoRun
  have HI := Lib.hid hi
  clear hi
  go_enter Tryz.func32, Tryz.ntmps32
  go_wp2_with fail
  go_loopw [3, 9] (fun vo i wr => ∃ (k : Nat) (o : Value) (rs : List (Value × Int)), k ≤ xs.length ∧ o = vo ∧ i = .int .i64 k ∧ Below w.heap.size w wr ∧ Hid (OV RV 72 wr w.heap.size o rs) ∧ Hid (RunRows wr rs (xs.take k)) ∧ Hid (Spread wr rs o)) (fun _ i _ => xs.length - (intOf i).toNat)
  case atStart => exact ⟨0, _, [], Nat.zero_le _, rfl, rfl, (Below.refl _ _).alloc (Nat.le_refl _) _, Lib.hid (OV.lit0 _ _ _ (Nat.le_refl _)), Lib.hid (RunRows.nil _), Lib.hid (fun i b hi => absurd hi (Nat.not_lt_zero _))⟩
  case round =>
    rename World => wr
    obtain ⟨k, o, rs, hk, rfl, rfl, hb, HO, HRR, HSP⟩ := hrel
    by_cases hlt : k < xs.length
    · obtain ⟨b, off, rfl, hbl, hc⟩ := HR.out.cells (by omega)
      obtain ⟨s, hs, c0, c1⟩ := hc k hlt
      have g0 := (hb.cell (p := ⟨b, off + k * 2, none⟩) hbl).trans c0
      have g1 := (hb.cell (p := ⟨b, off + k * 2 + 1, none⟩) hbl).trans c1
      have hwl := HW.out _ (show xs.getD k zR ∈ xs by rw [show xs.getD k zR = xs[k] by simp [List.getD, hlt]]; exact List.getElem_mem hlt)
      have T1 := Lib.hid (take_snocR xs k hlt)
      have hrl : rs.length ≤ 12 := by rw [HRR.out.1]; simp; omega
      clear hc c0 c1
      generalize xs.getD k zR = x at hs g1 hwl T1
      obtain ⟨way, start⟩ := x
      simp only at hs g1 hwl
      obtain ⟨aw, cw, rfl⟩ := hs.shape
      obtain ⟨hbx, k0, k1, hzb, hszb⟩ := run_box wr (.slice aw way.length cw) start
      have HS := Lib.hid ((hs.below hb).below hbx)
      have HB := Lib.hid (bthen hb hbx)
      have HO1 := Lib.hid (HO.out.below hbx)
      have HR1 := Lib.hid (HRR.out.below hbx)
      have HSP1 := Lib.hid (HSP.out.below hbx.size)
      clear hs hb hbx
      go_wp2_with fail
      generalize wr.alloc (.cells #[.slice aw way.length cw, .int .i64 start] 72) = wq at k0 k1 hzb hszb HS HB HO1 HR1 HSP1 ⊢
      have hd := (Below.refl wq.heap.size wq).drew
      have C := Lib.hid (cloneI_any (.slice aw way.length cw) way wq.drew (HS.out.below hd) (by omega))
      have HD := Lib.hid hd
      clear hd
      go_region_held3 (fun w' => w'.cell? ⟨wr.heap.size, 0, none⟩ = some (.slice aw way.length cw) ∧ w'.cell? ⟨wr.heap.size, 1, none⟩ = some (.int .i64 start))
        (first
          | go_keep
          | (go_split_ands
             refine ⟨?_, ?_⟩ <;> go_keep))
        (first
          | (go_simp
             go_at_call 58
             with_reducible refine C.out.mono ?_
             rintro e w2 ⟨v2, rfl, ho2, hbx⟩
             obtain ⟨a2, c2, hsh⟩ := ho2.ri.shape
             subst hsh
             have hb2 : Below wq.heap.size wq w2 := bthen HD.out hbx
             have p0 := (hb2.cell (p := ⟨wr.heap.size, 0, none⟩) hzb).trans k0
             have p1 := (hb2.cell (p := ⟨wr.heap.size, 1, none⟩) hzb).trans k1
             have HC2 := Lib.hid ho2
             have HB2 := Lib.hid hb2
             have HO2 := Lib.hid (HO1.out.below hb2)
             have hs2 := Nat.le_trans HB.out.size hb2.size
             have hg1 : ∀ y ∈ RV.f ((.slice a2 way.length c2 : Value), start), y.oneCell' = true := fun y hy => by
               have hy : y ∈ [(.slice a2 way.length c2 : Value), .int .i64 start] := hy
               simp at hy
               rcases hy with rfl | rfl <;> rfl
             have H1S := Lib.hid hg1
             have hne := World.new_ne w2 _ p0
             clear hg1)
          | (refine step_appV (E := RV) (by rfl) _ _ 33 (by rfl) 72 _ i0 _ Tryz.underlying33 HI.out hz0 (by rfl) hz1 32 hz2 (by decide) w.heap.size _ _ (by rfl) HO2.out (.slice a2 way.length c2, start) _ (by rfl) _ (by first | rfl | simp) (by rfl) H1S.out (by omega) hs2 ?_
             intro v9 w9 h1 h2 h3
             have hnb : some wr.heap.size ≠ o.ownBlock := fun e => Nat.lt_irrefl _ (HO.out.lt _ e.symm).2
             have r0 := (h2.cell_far ⟨wr.heap.size, 0, none⟩ (Nat.lt_of_lt_of_le hzb hb2.size) hnb).trans p0
             have r1 := (h2.cell_far ⟨wr.heap.size, 1, none⟩ (Nat.lt_of_lt_of_le hzb hb2.size) hnb).trans p1))
      have hcl : ∀ b, (Value.slice a2 way.length c2).ownBlock = some b → b < w2.heap.size ∧ o.ownBlock ≠ some b := fun b hb => by
        have q1 := HC2.out.lt b hb
        have q3 : wq.drew.heap.size = wq.heap.size := rfl
        refine ⟨q1.2, fun e => ?_⟩
        have q2 := (HO.out.lt b e).2
        omega
      have hsp2 := HSP1.out.below HB2.out.size
      have hrr2 := (HR1.out.below HB2.out).grown hsp2 h2
      have hcl9 : RI w9 (.slice a2 way.length c2) way := HC2.out.ri.grown h2 fun k hk e => (hcl k e).2 hk
      have HRR9 := Lib.hid (RunRows.snoc hrr2 (x := (way, start)) hcl9)
      have HSP9 := Lib.hid (hsp2.snoc (y := start) h2.size h3 hcl)
      have HB9 := Lib.hid (bgrown (bthen HB.out HB2.out) h2 (fun k hk => (HO2.out.lt k hk).1))
      have H9 := Lib.hid h1
      clear hcl hsp2 hrr2 hcl9 h1 h2 h3 p0 p1 r0 r1 hnb hne hb2 hbx ho2
      go_wp2_with fail
      go_roundw
      case rel => exact ⟨k + 1, v9, _, by omega, rfl, by go_num, HB9.out, H9, Lib.hid (by rw [T1.out]; exact HRR9.out), HSP9⟩
      case measure => simp [intOf]; omega
    · have HRR' := HRR.out
      rw [List.take_of_length_le (by omega)] at HRR'
      have HRX := Lib.hid HRR'
      clear HRR'
      go_wp2_with fail
      go_ret
      exact ⟨_, rfl, ⟨rs, HO.out.si, HRX.out⟩, hb⟩

set_option maxRecDepth 100000 in
theorem runsOfPlanPub_any (times : List Int) (xs : List WishP) (o : List Int) (tv lv ov : Value) (w : World) (ht : RI w tv times) (hx : WishI w lv xs) (ho : RI w ov o) (hok : okWishes times xs = true) (hor : okOrder xs.length o) :
    Calls Tryz.prog 10 #[tv, lv, ov] w fun e w' => ∃ v', e = .returned (.tuple #[v', .int .i64 0]) ∧ RunsI w' v' (plan times xs o) ∧ Below w.heap.size w w' := by
  have C1 := Lib.hid (wishesCode_ok times xs o tv lv ov w ht hx ho hok hor)
  have HT := Lib.hid ht
  have HX := Lib.hid hx
  have HO := Lib.hid ho
  have HOK := Lib.hid hok
  have HOR := Lib.hid hor
  clear ht hx ho hok hor
  go_enter Tryz.func10, Tryz.ntmps10
  go_wp2_with fail
  refine C1.out.mono ?_
  rintro e w1 ⟨rfl, hb1⟩
  have HB1 := Lib.hid hb1
  clear hb1 C1
  go_wp2_with fail
  refine (runsOfPlan_any times xs o tv lv ov _ (HT.out.below HB1.out) (HX.out.below HB1.out) (HO.out.below HB1.out) HOK.out HOR.out).mono ?_
  rintro e w2 ⟨v2, rs, rfl, ho2, hr2, hb2⟩
  have HR2 := Lib.hid (plan_runs ho2 hr2 hb2)
  have HB2 := Lib.hid (bthen HB1.out hb2)
  clear ho2 hr2 hb2
  have hpl := plan_length times xs o
  have hl6 := okWishes_len HOK.out
  go_wp2_with fail
  refine (copyRuns_any (plan times xs o) v2 _ HR2.out (by omega) ?_).mono ?_
  · intro x hx
    obtain ⟨i, hi, rfl⟩ := List.getElem_of_mem hx
    have := plan_fits HOK.out HOR.out (i := i) (by omega)
    rw [show (plan times xs o).getD i zR = (plan times xs o)[i] by simp [List.getD, hi]] at this
    exact (okWay_all this.2.1).2.2
  rintro e w3 ⟨v3, rfl, hr3, hb3⟩
  have HB3 := Lib.hid (bthen HB2.out hb3)
  have HR3 := Lib.hid hr3
  clear hb3 hr3
  go_wp2_with fail
  go_ret2
  exact ⟨_, rfl, HR3.out, HB3.out⟩

end Go.Proofs.YthlpbeohlhhblaaGreat
namespace Go.Proofs.YthlpbeohlhhblaaGreat
open Go.RowKit

theorem meet_enters : ∀ args w, (callFunc 36 args).run Tryz.prog w = .ok (.enter 36 args) w := enters_of Tryz.func36 (by kernel_rfl) rfl

theorem indexSpan_none (sa sb sc : Int) (v : Value) (os : List SpanP) (w : World) (hv : SI P3 w v os) (hn : ∀ o ∈ os, meets (sa, sb, sc) o = false) :
    Calls Tryz.prog 66 #[v, .func (.func 36) #[.agg #[.int .i64 sa, .int .i64 sb, .int .i64 sc]] #[]] w fun e w' => e = .returned (.int .i64 (-1)) ∧ Below w.heap.size w w' := by
  obtain ⟨a, cap, rfl⟩ := hv.shape
  have hl := hv.len
  have HV := Lib.hid hv
  have HN := Lib.hid hn
  have eg := meet_enters
  clear hv hn
  go_enter Tryz.func66, Tryz.ntmps66
  go_wp2
  go_loopw [5, 8] (fun _ i wr => ∃ k : Nat, k ≤ os.length ∧ i = .int .i64 k ∧ Below w.heap.size w wr) (fun _ i _ => os.length - (intOf i).toNat)
  case atStart => exact ⟨0, Nat.zero_le _, rfl, Below.refl _ _⟩
  case round =>
    obtain ⟨k, hk, rfl, hb⟩ := hrel
    by_cases hlt : k < os.length
    · obtain ⟨b, off, rfl, hbl, hc⟩ := HV.out.cells3 (by omega)
      obtain ⟨c0, c1, c2⟩ := hc k hlt
      have g0 := (hb.cell (p := ⟨b, off + k * 3, none⟩) hbl).trans c0
      have g1 := (hb.cell (p := ⟨b, off + k * 3 + 1, none⟩) hbl).trans c1
      have g2 := (hb.cell (p := ⟨b, off + k * 3 + 2, none⟩) hbl).trans c2
      have hm := HN.out _ (show os.getD k (0, 0, 0) ∈ os by rw [show os.getD k (0, 0, 0) = os[k] by simp [List.getD, hlt]]; exact List.getElem_mem hlt)
      clear hc c0 c1 c2
      generalize os.getD k (0, 0, 0) = o at g0 g1 g2 hm
      obtain ⟨oa, ob, oc⟩ := o
      simp only at g0 g1 g2
      have C := meet_any sa sb sc oa ob oc wr
      rw [hm] at C
      have D := Lib.hid C
      clear C hm
      have HB := Lib.hid hb
      clear hb
      go_wp2_with (go_at_fn 36; refine D.out.mono ?_; rintro e w' ⟨rfl, hb'⟩)
      go_roundw
      case rel => exact ⟨k + 1, by omega, by go_num, bthen HB.out hb'⟩
      case measure => simp [intOf]; omega
    · go_wp2
      go_ret
      exact ⟨rfl, hb⟩

theorem containsSpan_none (sa sb sc : Int) (v : Value) (os : List SpanP) (w : World) (hv : SI P3 w v os) (hn : ∀ o ∈ os, meets (sa, sb, sc) o = false) :
    Calls Tryz.prog 35 #[v, .func (.func 36) #[.agg #[.int .i64 sa, .int .i64 sb, .int .i64 sc]] #[]] w fun e w' => e = .returned (.bool false) ∧ Below w.heap.size w w' := by
  have C := Lib.hid (indexSpan_none sa sb sc v os w hv hn)
  clear hv hn
  go_enter Tryz.func35, Tryz.ntmps35
  go_wp2_with fail
  refine C.out.mono ?_
  rintro e w' ⟨rfl, hb'⟩
  go_wp2_with fail
  go_ret
  exact ⟨rfl, hb'⟩

/-- runs[:hi] -/
theorem cutToR {w : World} {a : Option Addr} {n cap : Nat} {xs : List RunP} (h : RunsI w (.slice a n cap) xs) (hi : Nat) (h2 : hi ≤ xs.length) :
    RunsI w (.slice a hi cap) (xs.take hi) ∧ ∀ W, (Instr.slice 33 (.slice a n cap) none (some (.int .i64 (hi : Int))) none).run Tryz.prog W = .ok (.slice a hi cap) W := by
  refine ⟨h.take hi h2, fun W => ?_⟩
  obtain ⟨a', cap', e', hc1, hc2⟩ := h.shape
  simp only [Value.slice.injEq] at e'
  obtain ⟨rfl, rfl, rfl⟩ := e'
  rw [run_slice_h W 33 a xs.length cap (by kernel_rfl) .i64 (hi : Int) (by omega) (by omega)]
  rw [show Tryz.prog.elem 33 = 72 from by kernel_rfl, Tryz.sizeOf72]
  simp only [Result.andThen, sliced, Int.toNat_natCast, Nat.zero_mul, Nat.sub_zero]
  by_cases h0 : cap = 0
  · rw [if_pos h0]
  · rw [if_neg h0]
    cases a with
    | none => rfl
    | some ad => simp [Addr.add]

theorem results_tmp4 {fn : Func} {t u v x : Tmp} (h : fn.results = #[.tmp t, .tmp u, .tmp v, .tmp x]) (tmps : Array Value) (P : Program) (w : World) :
    (results fn tmps).run P w = .ok (.tuple #[tmps.getD t undef, tmps.getD u undef, tmps.getD v undef, tmps.getD x undef]) w := by
  simp [results, h]

set_option maxRecDepth 100000 in
set_option maxHeartbeats 4000000 in
theorem firstMeeting_any (times : List Int) (xs : List RunP) (tv rv : Value) (w : World) (ht : RI w tv times) (hr : RunsI w rv xs) (hok : okTimes times = true) (hl : xs.length ≤ 12) (hxs : ∀ x ∈ xs, okWay times x.1 = true ∧ inB 0 100000 x.2 = true)
    (hap : ∀ i k, i < xs.length → k < xs.length → i ≠ k → apart times (xs.getD i zR) (xs.getD k zR)) :
    Calls Tryz.prog 11 #[tv, rv] w fun e w' => e = .returned (.tuple #[.int .i64 0, .int .i64 0, .int .i64 0, .int .i64 3]) ∧ Below w.heap.size w w' := by
  obtain ⟨a, cap, rfl⟩ := ht.shape
  obtain ⟨a2, cap2, rfl, _, _⟩ := hr.shape
  have C1 := Lib.hid (validRuns_yes times xs _ _ w ht hr hok hl hxs)
  have HT := Lib.hid ht
  have HR := Lib.hid hr
  have HOK := Lib.hid hok
  have HXS := Lib.hid hxs
  have HAP := Lib.hid hap
  have hmf : ∀ (fn : Fn) (first cap : Array Value) (w : World), (Instr.makeFunc fn first cap).run Tryz.prog w = .ok (.func fn first cap) w := fun _ _ _ _ => rfl
  clear ht hr hok hxs hap
  go_enter Tryz.func11, Tryz.ntmps11
  go_wp2_with fail
  refine C1.out.mono ?_
  rintro e w1 ⟨rfl, hb1⟩
  have HB1 := Lib.hid hb1
  clear hb1 C1
  go_wp2_with fail
  go_loopw [21] (fun i wr => ∃ k : Nat, k ≤ xs.length ∧ i = .int .i64 k ∧ Below w.heap.size w wr) (fun i _ => xs.length - (intOf i).toNat)
  case atStart => exact ⟨0, Nat.zero_le _, rfl, HB1.out⟩
  case round =>
    rename World => wi
    obtain ⟨i, hi, rfl, hbi⟩ := hrel
    by_cases hlt : i < xs.length
    · obtain ⟨b, off, rfl, hbl, hc⟩ := HR.out.cells (by omega)
      obtain ⟨s, hs, c0, c1⟩ := hc i hlt
      have g0 := (hbi.cell (p := ⟨b, off + i * 2, none⟩) hbl).trans c0
      have g1 := (hbi.cell (p := ⟨b, off + i * 2 + 1, none⟩) hbl).trans c1
      obtain ⟨hcr, hcut⟩ := cutToR HR.out i hi
      have hfx := HXS.out _ (show xs.getD i zR ∈ xs by rw [show xs.getD i zR = xs[i] by simp [List.getD, hlt]]; exact List.getElem_mem hlt)
      have HAI := Lib.hid (fun k (hk : k < i) => HAP.out i k hlt (Nat.lt_trans hk hlt) (by omega))
      clear hc c0 c1
      generalize xs.getD i zR = x at hs g1 hfx HAI
      obtain ⟨way, start⟩ := x
      simp only at hs g1 hfx
      obtain ⟨aw, cw, rfl⟩ := hs.shape
      obtain ⟨hbx, k0, k1, hzb, _⟩ := run_box wi (.slice aw way.length cw) start
      have HS := Lib.hid hs
      have HCR := Lib.hid hcr
      have HBX := Lib.hid (bthen hbi hbx)
      have hst : 0 ≤ start ∧ start ≤ 100000 := by
        have := hfx.2
        unfold inB at this
        simpa using this
      have HWY := Lib.hid hfx.1
      clear hs hbi hbx hcr hfx
      go_wp2_with fail
      generalize wi.alloc (.cells #[.slice aw way.length cw, .int .i64 start] 72) = wq at k0 k1 hzb HBX ⊢
      go_loopw [30] (fun t wr2 => ∃ k : Nat, k ≤ i ∧ t = .int .i64 k ∧ Below wq.heap.size wq wr2) (fun t _ => i - (intOf t).toNat)
      case atStart => exact ⟨0, Nat.zero_le _, rfl, Below.refl _ _⟩
      case round =>
        rename World => wk
        obtain ⟨k, hk, rfl, hbk⟩ := hrel
        by_cases hlk : k < i
        · obtain ⟨bq, offq, hbq, hblq, hcq⟩ := HR.out.cells (by omega)
          have hbb : bq = b ∧ offq = off := by
            simp only [Option.some.injEq, Addr.mk.injEq, and_true] at hbq
            exact ⟨hbq.1.symm, hbq.2.symm⟩
          obtain ⟨rfl, rfl⟩ := hbb
          obtain ⟨s2, hs2, d0, d1⟩ := hcq k (by omega)
          have HWQ := Lib.hid (bthen HBX.out hbk)
          have m0 := (HWQ.out.cell (p := ⟨bq, offq + k * 2, none⟩) hblq).trans d0
          have m1 := (HWQ.out.cell (p := ⟨bq, offq + k * 2 + 1, none⟩) hblq).trans d1
          have hfk := HXS.out _ (show xs.getD k zR ∈ xs by rw [show xs.getD k zR = xs[k]'(by omega) by simp [List.getD, show k < xs.length by omega]]; exact List.getElem_mem _)
          have HAK := Lib.hid (HAI.out k hlk)
          have q0 := (hbk.cell (p := ⟨wi.heap.size, 0, none⟩) hzb).trans k0
          have q1 := (hbk.cell (p := ⟨wi.heap.size, 1, none⟩) hzb).trans k1
          have hzk := Nat.lt_of_lt_of_le hzb hbk.size
          have hd : decide ((k : Int) < (i : Int)) = true := decide_eq_true (by omega)
          have hd2 : decide (k < i) = true := decide_eq_true hlk
          have HBK := Lib.hid hbk
          clear hbq hcq d0 d1 hbk
          generalize xs.getD k zR = y at hs2 m1 hfk HAK
          obtain ⟨way2, start2⟩ := y
          simp only at hs2 m1 hfk
          obtain ⟨ay, cy, rfl⟩ := hs2.shape
          obtain ⟨hby, j0, j1, hzy, _⟩ := run_box wk (.slice ay way2.length cy) start2
          have HBY := Lib.hid (bthen HWQ.out hby)
          have HKY := Lib.hid (bthen HBK.out hby)
          have p0 := (hby.cell (p := ⟨wi.heap.size, 0, none⟩) hzk).trans q0
          have p1 := (hby.cell (p := ⟨wi.heap.size, 1, none⟩) hzk).trans q1
          have hzz := Nat.lt_of_lt_of_le hzk hby.size
          have hst2 : 0 ≤ start2 ∧ start2 ≤ 100000 := by
            have := hfk.2
            unfold inB at this
            simpa using this
          obtain ⟨y1, _, y3⟩ := okWay_all hfk.1
          obtain ⟨x1, _, x3⟩ := okWay_all HWY.out
          have C := Lib.hid (spansOf_any times way2 start2 (.slice a times.length cap) (.slice ay way2.length cy) _ (HT.out.below HBY.out) (hs2.below HBY.out) HOK.out y1 y3 hst2.1 (by omega))
          have X1 := Lib.hid x1
          clear hby q0 q1 hs2 hfk y1 x1 HBK HWQ
          go_wp2_with fail
          refine C.out.mono ?_
          rintro e w5 ⟨v5, rfl, ho5, hb5⟩
          have HS5 := Lib.hid ho5.si
          have HB5 := Lib.hid (bthen HBY.out hb5)
          have HK5 := Lib.hid (bthen HKY.out hb5)
          have r0 := (hb5.cell (p := ⟨wi.heap.size, 0, none⟩) hzz).trans p0
          have r1 := (hb5.cell (p := ⟨wi.heap.size, 1, none⟩) hzz).trans p1
          clear ho5 hb5 p0 p1 j0 j1
          have C2 := Lib.hid (spansOf_any times way start (.slice a times.length cap) (.slice aw way.length cw) _ (HT.out.below HB5.out) (HS.out.below HB5.out) HOK.out X1.out x3 hst.1 (by omega))
          go_wp2_with fail
          refine C2.out.mono ?_
          rintro e w6 ⟨v6, rfl, ho6, hb6⟩
          have HS6 := Lib.hid ho6.si
          have HS56 := Lib.hid (HS5.out.below hb6)
          have HB6 := Lib.hid (bthen HB5.out hb6)
          have HK6 := Lib.hid (bthen HK5.out hb6)
          have hsl := spans_length times start way
          unfold apart at HAK
          simp only at HAK
          clear ho6 hb6 r0 r1 C C2
          generalize spans times way start = ss at HS6 HAK hsl
          generalize spans times way2 start2 = os at HS56 HAK
          have hsl2 : ss.length ≤ 12 := by omega
          obtain ⟨a6, c6, hsh⟩ := HS6.out.shape
          subst hsh
          obtain ⟨a5, c5, hsh⟩ := HS56.out.shape
          subst hsh
          clear hsl HS5
          go_wp2_with fail
          go_loopw [42] (fun t wr3 => ∃ j : Nat, j ≤ ss.length ∧ t = .int .i64 j ∧ Below w6.heap.size w6 wr3) (fun t _ => ss.length - (intOf t).toNat)
          case atStart => exact ⟨0, Nat.zero_le _, rfl, Below.refl _ _⟩
          case round =>
            rename World => wl
            obtain ⟨j, hj, rfl, hbj⟩ := hrel
            by_cases hlj : j < ss.length
            · obtain ⟨b6, off6, rfl, hbl6, hc6⟩ := HS6.out.cells3 (by omega)
              obtain ⟨e0, e1, e2⟩ := hc6 j hlj
              have t0 := (hbj.cell (p := ⟨b6, off6 + j * 3, none⟩) hbl6).trans e0
              have t1 := (hbj.cell (p := ⟨b6, off6 + j * 3 + 1, none⟩) hbl6).trans e1
              have t2 := (hbj.cell (p := ⟨b6, off6 + j * 3 + 2, none⟩) hbl6).trans e2
              have hno := HAK.out _ (show ss.getD j (0, 0, 0) ∈ ss by rw [show ss.getD j (0, 0, 0) = ss[j] by simp [List.getD, hlj]]; exact List.getElem_mem hlj)
              clear hc6 e0 e1 e2
              generalize ss.getD j (0, 0, 0) = sp at t0 t1 t2 hno
              obtain ⟨sa, sb, sc⟩ := sp
              simp only at t0 t1 t2
              have HBB := Lib.hid ((Below.refl wl.heap.size wl).alloc (Nat.le_refl _) (.cells #[.int .i64 sa, .int .i64 sb, .int .i64 sc] 76))
              have HBJ := Lib.hid (bthen hbj HBB.out)
              have CC := Lib.hid (containsSpan_none sa sb sc (.slice a5 os.length c5) os _ ((HS56.out.below hbj).below HBB.out) hno)
              clear hbj hno
              go_wp2_with fail
              refine CC.out.mono ?_
              rintro e w7 ⟨rfl, hb7⟩
              have HB7 := Lib.hid (bthen HBJ.out hb7)
              clear hb7 CC
              go_wp2_with fail
              go_roundw
              case rel => exact ⟨j + 1, by omega, by go_num, HB7.out⟩
              case measure => simp [intOf]; omega
            · have HBE := Lib.hid (bthen HK6.out hbj)
              clear hbj
              go_wp2_with fail
              go_roundw
              case rel => exact ⟨k + 1, by omega, by go_num, HBE.out⟩
              case measure => simp [intOf]; omega
        · have HBN := Lib.hid (bthen HBX.out hbk)
          have hd : decide ((k : Int) < (i : Int)) = false := decide_eq_false (by omega)
          have hd2 : decide (k < i) = false := decide_eq_false hlk
          clear hbk
          go_wp2_with fail
          go_roundw
          case rel => exact ⟨i + 1, by omega, by go_num, HBN.out⟩
          case measure => simp [intOf]; omega
    · go_wp2_with fail
      exact bodyPost_ret (results_tmp4 rfl _ _ _) rfl ⟨rfl, hbi⟩

end Go.Proofs.YthlpbeohlhhblaaGreat
