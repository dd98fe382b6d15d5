/-
  Runs, spans and earliest starts, in plain Lean: no program in sight.
  Lists of runs (a way and a start), of wishes (a way and two numbers) and of ways, in the model's worlds: each way lies in memory of its own. No program in sight.
  Worlds in which all blocks but some lie as they lay. No program in sight.
  All orders, the best of them, and what the plan of an order is like. In plain Lean.
  The tests of a range, by contracts.
-/
import Derived.Test.YthlpbeohlhhblaaGreatTopA
import Derived.Test.YthlpbeohlhhblaaGreatTopB
import Derived.Test.YthlpbeohlhhblaaGreatProg
import Derived.Outline
namespace Go.Proofs.YthlpbeohlhhblaaGreat

/-- A tube, the tick of entering and that of leaving it. -/
abbrev SpanP := Int × Int × Int
/-- A way and its start. -/
abbrev RunP := List Int × Int
/-- A way, ready, due. -/
abbrev WishP := List Int × Int × Int

def tm (times : List Int) (t : Int) : Int := times.getD t.toNat 0
def spanStep (times : List Int) (st : List SpanP × Int) (t : Int) : List SpanP × Int := (st.1 ++ [(t, st.2, st.2 + tm times t)], st.2 + tm times t)
def spanSt (times way : List Int) (a : Int) : List SpanP × Int := way.foldl (spanStep times) ([], a)
def spans (times way : List Int) (a : Int) : List SpanP := (spanSt times way a).1
def endOf (times way : List Int) (a : Int) : Int := (spanSt times way a).2
theorem spanSt_snoc (times way : List Int) (a t : Int) : spanSt times (way ++ [t]) a = (spans times way a ++ [(t, endOf times way a, endOf times way a + tm times t)], endOf times way a + tm times t) := by
  unfold spanSt; rw [List.foldl_append]; rfl
theorem spans_snoc (times way : List Int) (a t : Int) : spans times (way ++ [t]) a = spans times way a ++ [(t, endOf times way a, endOf times way a + tm times t)] := by
  unfold spans; rw [spanSt_snoc]; rfl
theorem endOf_snoc (times way : List Int) (a t : Int) : endOf times (way ++ [t]) a = endOf times way a + tm times t := by
  unfold endOf; rw [spanSt_snoc]; rfl
theorem snoc_ind {α : Type} {P : List α → Prop} (h0 : P []) (h1 : ∀ l x, P l → P (l ++ [x])) : ∀ l, P l := by
  intro l
  rw [← List.reverse_reverse l]
  induction l.reverse with
  | nil => exact h0
  | cons x l ih => rw [List.reverse_cons]; exact h1 _ _ ih
theorem spans_length (times : List Int) (a : Int) : ∀ way : List Int, (spans times way a).length = way.length := by
  refine snoc_ind rfl fun l x ih => ?_
  rw [spans_snoc]; simp [ih]

/-- Times of tubes. -/
def okTimes (times : List Int) : Bool := inB 1 24 times.length && times.all (inB 1 1000)
def okWay (times way : List Int) : Bool := inB 1 12 way.length && way.all (inB 0 (times.length - 1))
theorem tm_bound {times : List Int} (h : okTimes times = true) {t : Int} (ht : inB 0 (times.length - 1) t = true) : 1 ≤ tm times t ∧ tm times t ≤ 1000 := by
  unfold okTimes at h
  rw [Bool.and_eq_true, List.all_eq_true] at h
  unfold inB at ht
  simp only [Bool.and_eq_true, decide_eq_true_eq] at ht
  have hl : t.toNat < times.length := by omega
  have := h.2 _ (List.getElem_mem hl)
  unfold tm
  rw [show times.getD t.toNat 0 = times[t.toNat] by simp [List.getD, hl]]
  unfold inB at this
  simpa using this
/-- What a way's spans are like: they begin not before the start, each ends behind its beginning, and all end by the end. -/
theorem spans_fit {times : List Int} (h : okTimes times = true) (a : Int) : ∀ way : List Int, way.all (inB 0 (times.length - 1)) = true →
    a ≤ endOf times way a ∧ endOf times way a ≤ a + 1000 * way.length ∧ ∀ s ∈ spans times way a, inB 0 (times.length - 1) s.1 = true ∧ a ≤ s.2.1 ∧ s.2.1 < s.2.2 ∧ s.2.2 ≤ endOf times way a := by
  refine snoc_ind ?_ fun l x ih hw => ?_
  · intro _
    refine ⟨Int.le_refl _, by show a ≤ _; simp, fun s hs => ?_⟩
    simp [spans, spanSt] at hs
  · rw [List.all_append, Bool.and_eq_true] at hw
    have hx : inB 0 (times.length - 1) x = true := by simpa using hw.2
    obtain ⟨i1, i2, i3⟩ := ih hw.1
    have hb := tm_bound h hx
    rw [endOf_snoc, spans_snoc]
    refine ⟨by omega, by simp only [List.length_append, List.length_singleton]; omega, fun s hs => ?_⟩
    rcases List.mem_append.1 hs with hs | hs
    · have := i3 s hs
      exact ⟨this.1, this.2.1, this.2.2.1, by omega⟩
    · rw [List.mem_singleton.1 hs]
      exact ⟨hx, i1, by simp only; omega, Int.le_refl _⟩

def meets (s o : SpanP) : Bool := decide (s.1 = o.1) && decide (s.2.1 < o.2.2) && decide (o.2.1 < s.2.2)
theorem meets_comm (s o : SpanP) : meets s o = meets o s := by
  unfold meets
  rw [show decide (s.1 = o.1) = decide (o.1 = s.1) by congr 1; exact propext ⟨Eq.symm, Eq.symm⟩, Bool.and_assoc, Bool.and_assoc, Bool.and_comm (decide (s.2.1 < o.2.2))]

def wait1 (s : SpanP) (os : List SpanP) (w : Int) : Int := os.foldl (fun w o => if meets s o then max w (o.2.2 - s.2.1) else w) w
def wait (ss os : List SpanP) : Int := ss.foldl (fun w s => wait1 s os w) 0
theorem wait1_snoc (s : SpanP) (os : List SpanP) (w : Int) (o : SpanP) : wait1 s (os ++ [o]) w = if meets s o then max (wait1 s os w) (o.2.2 - s.2.1) else wait1 s os w := by
  unfold wait1; rw [List.foldl_append]; rfl
theorem wait_snoc (ss os : List SpanP) (s : SpanP) : wait (ss ++ [s]) os = wait1 s os (wait ss os) := by
  unfold wait; rw [List.foldl_append]; rfl
theorem wait1_ge (s : SpanP) (w : Int) : ∀ os : List SpanP, w ≤ wait1 s os w ∧ ∀ o ∈ os, meets s o = true → o.2.2 - s.2.1 ≤ wait1 s os w := by
  refine snoc_ind ⟨Int.le_refl _, by simp⟩ fun l x ih => ?_
  rw [wait1_snoc]
  by_cases hm : meets s x = true
  · rw [if_pos hm]
    refine ⟨by omega, fun o ho hmo => ?_⟩
    rcases List.mem_append.1 ho with ho | ho
    · have := ih.2 o ho hmo; omega
    · rw [List.mem_singleton.1 ho]; omega
  · rw [if_neg hm]
    refine ⟨ih.1, fun o ho hmo => ?_⟩
    rcases List.mem_append.1 ho with ho | ho
    · exact ih.2 o ho hmo
    · rw [List.mem_singleton.1 ho] at hmo; exact absurd hmo hm
theorem wait1_le (s : SpanP) (w B : Int) (hw : w ≤ B) : ∀ os : List SpanP, (∀ o ∈ os, o.2.2 - s.2.1 ≤ B) → wait1 s os w ≤ B := by
  refine snoc_ind (fun _ => hw) fun l x ih h => ?_
  rw [wait1_snoc]
  have i := ih fun o ho => h o (by simp [ho])
  have hx := h x (by simp)
  split <;> omega
theorem wait_ge (os : List SpanP) : ∀ ss : List SpanP, 0 ≤ wait ss os ∧ ∀ s ∈ ss, ∀ o ∈ os, meets s o = true → o.2.2 - s.2.1 ≤ wait ss os := by
  refine snoc_ind ⟨Int.le_refl _, by simp⟩ fun l x ih => ?_
  rw [wait_snoc]
  have g := wait1_ge x (wait l os) os
  refine ⟨by omega, fun s hs o ho hm => ?_⟩
  rcases List.mem_append.1 hs with hs | hs
  · have := ih.2 s hs o ho hm; omega
  · rw [List.mem_singleton.1 hs] at hm ⊢; exact g.2 o ho hm
theorem wait_le (os : List SpanP) (B : Int) (hB : 0 ≤ B) : ∀ ss : List SpanP, (∀ s ∈ ss, ∀ o ∈ os, o.2.2 - s.2.1 ≤ B) → wait ss os ≤ B := by
  refine snoc_ind (fun _ => hB) fun l x ih h => ?_
  rw [wait_snoc]
  exact wait1_le x _ B (ih fun s hs => h s (by simp [hs])) os (h x (by simp))
/-- No wait, no meeting. -/
theorem wait_zero {ss os : List SpanP} (h : wait ss os = 0) : ∀ s ∈ ss, ∀ o ∈ os, meets s o = false := fun s hs o ho => by
  cases hm : meets s o with
  | false => rfl
  | true =>
    have := (wait_ge os ss).2 s hs o ho hm
    unfold meets at hm
    simp only [Bool.and_eq_true, decide_eq_true_eq] at hm
    omega

def taken (times : List Int) (rs : List RunP) : List SpanP := rs.flatMap fun r => spans times r.1 r.2
theorem taken_snoc (times : List Int) (rs : List RunP) (r : RunP) : taken times (rs ++ [r]) = taken times rs ++ spans times r.1 r.2 := by
  unfold taken; rw [List.flatMap_append]; simp

/-- The least tick from f on at which a way meets none of what is taken, with so many tries. -/
def est (times way : List Int) (os : List SpanP) : Nat → Int → Int
  | 0, f => f
  | n + 1, f => if wait (spans times way f) os = 0 then f else est times way os n (f + wait (spans times way f) os)
theorem est_stop {times way : List Int} {os : List SpanP} {n : Nat} {f : Int} (h : wait (spans times way f) os = 0) : est times way os (n + 1) f = f := by simp [est, h]
theorem est_go {times way : List Int} {os : List SpanP} {n : Nat} {f : Int} (h : wait (spans times way f) os ≠ 0) : est times way os (n + 1) f = est times way os n (f + wait (spans times way f) os) := by simp [est, h]
/-- A wait ends by the end of all that is taken. -/
theorem wait_bound {times way : List Int} {os : List SpanP} (ht : okTimes times = true) (hw : way.all (inB 0 (times.length - 1)) = true) {M f : Int} (hM : ∀ o ∈ os, o.2.2 ≤ M) (hf : f ≤ M) : 0 ≤ wait (spans times way f) os ∧ f + wait (spans times way f) os ≤ M := by
  refine ⟨(wait_ge _ _).1, ?_⟩
  have := wait_le os (M - f) (by omega) (spans times way f) fun s hs o ho => by
    have a := hM o ho
    have b := ((spans_fit ht f way hw).2.2 s hs).2.1
    omega
  omega
theorem est_fits {times way : List Int} {os : List SpanP} (ht : okTimes times = true) (hw : way.all (inB 0 (times.length - 1)) = true) {M : Int} (hM : ∀ o ∈ os, o.2.2 ≤ M) : ∀ (n : Nat) (f : Int), f ≤ M → M - f < n → f ≤ est times way os n f ∧ est times way os n f ≤ M ∧ wait (spans times way (est times way os n f)) os = 0 := by
  intro n
  induction n with
  | zero => intro f h1 h2; omega
  | succ n ih =>
    intro f h1 h2
    by_cases h : wait (spans times way f) os = 0
    · rw [est_stop h]; exact ⟨Int.le_refl _, h1, h⟩
    · rw [est_go h]
      have hb := wait_bound ht hw hM h1
      have := ih (f + wait (spans times way f) os) hb.2 (by omega)
      exact ⟨by omega, this.2.1, this.2.2⟩

/-- How many tries are always enough. -/
def TRIES : Nat := 200000
def estart (times : List Int) (rs : List RunP) (way : List Int) (f : Int) : Int := est times way (taken times rs) TRIES f

/-! ### plans -/
def okWish (times : List Int) (x : WishP) : Bool := okWay times x.1 && inB 0 10000 x.2.1 && inB 0 10000 x.2.2
def okWishes (times : List Int) (xs : List WishP) : Bool := okTimes times && decide (xs.length ≤ 6) && xs.all (okWish times)
def zW : WishP := ([], 0, 0)
def zR : RunP := ([], 0)
def planRun (times : List Int) (xs : List WishP) (done : List RunP) (k : Int) : RunP := ((xs.getD k.toNat zW).1, estart times done (xs.getD k.toNat zW).1 (xs.getD k.toNat zW).2.1)
def planStep (times : List Int) (xs : List WishP) (st : List RunP × List RunP) (k : Int) : List RunP × List RunP := (st.1.set k.toNat (planRun times xs st.2 k), st.2 ++ [planRun times xs st.2 k])
def planSt (times : List Int) (xs : List WishP) (order : List Int) : List RunP × List RunP := order.foldl (planStep times xs) (List.replicate xs.length zR, [])
def plan (times : List Int) (xs : List WishP) (order : List Int) : List RunP := (planSt times xs order).1
theorem planSt_snoc (times : List Int) (xs : List WishP) (order : List Int) (k : Int) : planSt times xs (order ++ [k]) = planStep times xs (planSt times xs order) k := by
  unfold planSt; rw [List.foldl_append]; rfl
theorem plan_length (times : List Int) (xs : List WishP) : ∀ order : List Int, (plan times xs order).length = xs.length := by
  refine snoc_ind (by simp [plan, planSt]) fun l x ih => ?_
  unfold plan at ih ⊢
  rw [planSt_snoc]
  simp only [planStep, List.length_set]
  exact ih

/-- An order of n things. -/
def okOrder (n : Nat) (o : List Int) : Prop := o.length = n ∧ (∀ k ∈ o, 0 ≤ k ∧ k < n) ∧ o.Nodup
def okPart (n : Nat) (o : List Int) : Prop := (∀ k ∈ o, 0 ≤ k ∧ k < n) ∧ o.Nodup
theorem okPart_snoc {n : Nat} {o : List Int} {k : Int} (h : okPart n (o ++ [k])) : okPart n o ∧ 0 ≤ k ∧ k < n ∧ k ∉ o := by
  obtain ⟨h1, h2⟩ := h
  rw [List.nodup_append] at h2
  refine ⟨⟨fun x hx => h1 x (by simp [hx]), h2.1⟩, (h1 k (by simp)).1, (h1 k (by simp)).2, fun hm => h2.2.2 k hm k (by simp) rfl⟩

/-- Two runs do not meet. -/
def apart (times : List Int) (r q : RunP) : Prop := ∀ s ∈ spans times r.1 r.2, ∀ o ∈ spans times q.1 q.2, meets s o = false
theorem apart_comm {times : List Int} {r q : RunP} (h : apart times r q) : apart times q r := fun s hs o ho => by rw [meets_comm]; exact h o ho s hs
theorem okWishes_at {times : List Int} {xs : List WishP} (h : okWishes times xs = true) {k : Int} (h0 : 0 ≤ k) (hk : k < xs.length) :
    okTimes times = true ∧ xs.length ≤ 6 ∧ okWay times (xs.getD k.toNat zW).1 = true ∧ inB 0 10000 (xs.getD k.toNat zW).2.1 = true ∧ inB 0 10000 (xs.getD k.toNat zW).2.2 = true := by
  unfold okWishes at h
  simp only [Bool.and_eq_true, decide_eq_true_eq, List.all_eq_true] at h
  obtain ⟨⟨h1, h2⟩, h3⟩ := h
  have hl : k.toNat < xs.length := by omega
  have := h3 _ (List.getElem_mem hl)
  rw [show xs.getD k.toNat zW = xs[k.toNat] by simp [List.getD, hl]]
  unfold okWish at this
  simp only [Bool.and_eq_true] at this
  exact ⟨h1, h2, this.1.1, this.1.2, this.2⟩
theorem okWay_all {times way : List Int} (h : okWay times way = true) : way.all (inB 0 (times.length - 1)) = true ∧ 1 ≤ way.length ∧ way.length ≤ 12 := by
  unfold okWay at h
  rw [Bool.and_eq_true] at h
  refine ⟨h.2, ?_⟩
  have := h.1
  unfold inB at this
  simp only [Bool.and_eq_true, decide_eq_true_eq] at this
  omega

/-- What a plan is like, order by order. -/
structure Planned (times : List Int) (xs : List WishP) (order : List Int) : Prop where
  len : (planSt times xs order).2.length = order.length
  fits : ∀ r ∈ (planSt times xs order).2, okWay times r.1 = true ∧ 0 ≤ r.2 ∧ endOf times r.1 r.2 ≤ 10000 + 12000 * order.length ∧ r.2 ≤ 10000 + 12000 * order.length
  tak : ∀ o ∈ taken times (planSt times xs order).2, o.2.2 ≤ 10000 + 12000 * order.length
  parted : (planSt times xs order).2.Pairwise (apart times)
  out : ∀ p, p < order.length → (plan times xs order).getD (order.getD p 0).toNat zR = (planSt times xs order).2.getD p zR
  ways : ∀ p, p < order.length → ((planSt times xs order).2.getD p zR).1 = (xs.getD (order.getD p 0).toNat zW).1 ∧ (xs.getD (order.getD p 0).toNat zW).2.1 ≤ ((planSt times xs order).2.getD p zR).2

theorem getD_snoc {α : Type} (z : α) (l : List α) (x : α) (p : Nat) : (l ++ [x]).getD p z = if p < l.length then l.getD p z else if p = l.length then x else z := by
  simp only [List.getD]
  by_cases h : p < l.length
  · rw [if_pos h, List.getElem?_append_left h]
  · rw [if_neg h, List.getElem?_append_right (by omega)]
    by_cases e : p = l.length
    · rw [if_pos e, e]; simp
    · rw [if_neg e, List.getElem?_eq_none (by simp; omega)]; rfl
theorem taken_mem {times : List Int} {rs : List RunP} {o : SpanP} (h : o ∈ taken times rs) : ∃ r ∈ rs, o ∈ spans times r.1 r.2 := by
  unfold taken at h
  exact List.mem_flatMap.1 h

/-- The run that the plan's next step adds. -/
theorem plan_next {times : List Int} {xs : List WishP} (hok : okWishes times xs = true) {order : List Int} (hP : Planned times xs order) (hl : order.length < 6) {k : Int} (h0 : 0 ≤ k) (hk : k < xs.length) :
    okWay times (planRun times xs (planSt times xs order).2 k).1 = true ∧ (xs.getD k.toNat zW).2.1 ≤ (planRun times xs (planSt times xs order).2 k).2 ∧ 0 ≤ (xs.getD k.toNat zW).2.1 ∧ (planRun times xs (planSt times xs order).2 k).2 ≤ 10000 + 12000 * order.length ∧
    wait (spans times (planRun times xs (planSt times xs order).2 k).1 (planRun times xs (planSt times xs order).2 k).2) (taken times (planSt times xs order).2) = 0 := by
  obtain ⟨ht, _, hw, hr, _⟩ := okWishes_at hok h0 hk
  have hr' : 0 ≤ (xs.getD k.toNat zW).2.1 ∧ (xs.getD k.toNat zW).2.1 ≤ 10000 := by unfold inB at hr; simpa using hr
  have hf := est_fits (os := taken times (planSt times xs order).2) ht (okWay_all hw).1 hP.tak TRIES (xs.getD k.toNat zW).2.1 (by omega) (by unfold TRIES; omega)
  exact ⟨hw, hf.1, hr'.1, hf.2.1, hf.2.2⟩

theorem planned {times : List Int} {xs : List WishP} (hok : okWishes times xs = true) : ∀ order : List Int, okPart xs.length order → order.length ≤ 6 → Planned times xs order := by
  refine snoc_ind ?_ fun l k ih hp hl => ?_
  · intro _ _
    exact ⟨rfl, by simp [planSt], by simp [planSt, taken], by simp [planSt], by simp, by simp⟩
  · obtain ⟨hpl, h0, hk, hn⟩ := okPart_snoc hp
    simp only [List.length_append, List.length_singleton] at hl
    have hP := ih hpl (by omega)
    obtain ⟨n1, n2, n3, n4, n5⟩ := plan_next hok hP (by omega) h0 hk
    have ht : okTimes times = true := (okWishes_at hok h0 hk).1
    have hpr : (planRun times xs (planSt times xs l).2 k).1 = (xs.getD k.toNat zW).1 := rfl
    generalize hR : planRun times xs (planSt times xs l).2 k = R at n1 n2 n4 n5 hpr
    have hst : planSt times xs (l ++ [k]) = ((planSt times xs l).1.set k.toNat R, (planSt times xs l).2 ++ [R]) := by rw [planSt_snoc, planStep, hR]
    have hw := okWay_all n1
    have hfit := spans_fit ht R.2 R.1 hw.1
    have hlen := hP.len
    have hol : (plan times xs l).length = xs.length := plan_length _ _ _
    have hlo : ((l ++ [k]).length : Int) = l.length + 1 := by simp
    refine ⟨?_, ?_, ?_, ?_, ?_, ?_⟩
    · rw [hst]; simp [hlen]
    · rw [hst, hlo]
      intro r hr
      rcases List.mem_append.1 hr with hr | hr
      · have := hP.fits r hr
        exact ⟨this.1, this.2.1, by omega, by omega⟩
      · rw [List.mem_singleton.1 hr]
        exact ⟨n1, by omega, by omega, by omega⟩
    · rw [hst, hlo]
      intro o ho
      simp only [taken_snoc] at ho
      rcases List.mem_append.1 ho with ho | ho
      · have := hP.tak o ho; omega
      · have := (hfit.2.2 o ho).2.2.2; omega
    · rw [hst, List.pairwise_append]
      refine ⟨hP.parted, List.pairwise_singleton _ _, fun q hq r hr => ?_⟩
      rw [List.mem_singleton.1 hr]
      refine apart_comm fun s hs o ho => wait_zero n5 s hs o ?_
      unfold taken
      exact List.mem_flatMap.2 ⟨q, hq, ho⟩
    · intro p hpp
      simp only [List.length_append, List.length_singleton] at hpp
      have hpl2 : plan times xs (l ++ [k]) = (plan times xs l).set k.toNat R := by unfold plan; rw [hst]
      rw [hpl2, hst, getD_snoc, getD_snoc, hlen]
      by_cases e : p < l.length
      · rw [if_pos e, if_pos e, ← hP.out p e]
        have hmem : l.getD p 0 ∈ l := by rw [show l.getD p 0 = l[p] by simp [List.getD, e]]; exact List.getElem_mem e
        have hb := hpl.1 _ hmem
        have hne : k.toNat ≠ (l.getD p 0).toNat := fun q => hn (by rw [show k = l.getD p 0 by omega]; exact hmem)
        generalize (l.getD p 0).toNat = q at hne ⊢
        simp only [List.getD, List.getElem?_set, if_neg hne]
      · obtain rfl : p = l.length := by omega
        rw [if_neg e, if_pos rfl, if_neg e, if_pos rfl]
        have hkl : k.toNat < (plan times xs l).length := by omega
        simp only [List.getD, List.getElem?_set, hkl, if_true, Option.getD_some]
    · intro p hpp
      simp only [List.length_append, List.length_singleton] at hpp
      rw [hst]
      simp only [getD_snoc, hlen]
      by_cases e : p < l.length
      · rw [if_pos e, if_pos e]; exact hP.ways p e
      · obtain rfl : p = l.length := by omega
        rw [if_neg e, if_pos rfl, if_neg e, if_pos rfl]
        exact ⟨hpr, n2⟩

end Go.Proofs.YthlpbeohlhhblaaGreat
namespace Go.Proofs.YthlpbeohlhhblaaGreat
open Go.RowKit

def RV : EncV (Value × Int) := ⟨2, fun p => [p.1, .int .i64 p.2], (vz, 0), fun _ => rfl, by decide⟩
def WV : EncV (Value × Int × Int) := ⟨3, fun p => [p.1, .int .i64 p.2.1, .int .i64 p.2.2], (vz, 0, 0), fun _ => rfl, by decide⟩
def LV : EncV Value := ⟨1, fun v => [v], vz, fun _ => rfl, by decide⟩

/-- What lies in the cells, rs, are the runs xs, the ways being read in w. -/
def RunRows (w : World) (rs : List (Value × Int)) (xs : List RunP) : Prop :=
  rs.length = xs.length ∧ ∀ i, i < xs.length → RI w (rs.getD i (vz, 0)).1 (xs.getD i zR).1 ∧ (rs.getD i (vz, 0)).2 = (xs.getD i zR).2
def WishRows (w : World) (rs : List (Value × Int × Int)) (xs : List WishP) : Prop :=
  rs.length = xs.length ∧ ∀ i, i < xs.length → RI w (rs.getD i (vz, 0, 0)).1 (xs.getD i zW).1 ∧ (rs.getD i (vz, 0, 0)).2 = (xs.getD i zW).2
def WayRows (w : World) (rs : List Value) (xs : List (List Int)) : Prop :=
  rs.length = xs.length ∧ ∀ i, i < xs.length → RI w (rs.getD i vz) (xs.getD i [])

theorem RunRows.below {w w' : World} {rs : List (Value × Int)} {xs : List RunP} (h : RunRows w rs xs) (hb : Below w.heap.size w w') : RunRows w' rs xs := ⟨h.1, fun i hi => ⟨(h.2 i hi).1.below hb, (h.2 i hi).2⟩⟩
theorem WishRows.below {w w' : World} {rs : List (Value × Int × Int)} {xs : List WishP} (h : WishRows w rs xs) (hb : Below w.heap.size w w') : WishRows w' rs xs := ⟨h.1, fun i hi => ⟨(h.2 i hi).1.below hb, (h.2 i hi).2⟩⟩
theorem WayRows.below {w w' : World} {rs : List Value} {xs : List (List Int)} (h : WayRows w rs xs) (hb : Below w.heap.size w w') : WayRows w' rs xs := ⟨h.1, fun i hi => (h.2 i hi).below hb⟩

/-- In w the slice value v reads as these runs (wishes, ways). -/
def RunsI (w : World) (v : Value) (xs : List RunP) : Prop := ∃ rs, SV RV w v rs ∧ RunRows w rs xs
def WishI (w : World) (v : Value) (xs : List WishP) : Prop := ∃ rs, SV WV w v rs ∧ WishRows w rs xs
def WaysI (w : World) (v : Value) (xs : List (List Int)) : Prop := ∃ rs, SV LV w v rs ∧ WayRows w rs xs

theorem RunsI.below {w w' : World} {v : Value} {xs : List RunP} (h : RunsI w v xs) (hb : Below w.heap.size w w') : RunsI w' v xs := by
  obtain ⟨rs, h1, h2⟩ := h
  exact ⟨rs, h1.below hb, h2.below hb⟩
theorem WishI.below {w w' : World} {v : Value} {xs : List WishP} (h : WishI w v xs) (hb : Below w.heap.size w w') : WishI w' v xs := by
  obtain ⟨rs, h1, h2⟩ := h
  exact ⟨rs, h1.below hb, h2.below hb⟩
theorem WaysI.below {w w' : World} {v : Value} {xs : List (List Int)} (h : WaysI w v xs) (hb : Below w.heap.size w w') : WaysI w' v xs := by
  obtain ⟨rs, h1, h2⟩ := h
  exact ⟨rs, h1.below hb, h2.below hb⟩

theorem RunsI.shape {w : World} {v : Value} {xs : List RunP} (h : RunsI w v xs) : ∃ a cap, v = .slice a xs.length cap ∧ xs.length ≤ cap ∧ cap ≤ maxLen := by
  obtain ⟨rs, ⟨⟨a, cap, h1, h2, h3, _⟩, _⟩, h4, _⟩ := h
  exact ⟨a, cap, by rw [← h4]; exact h1, by omega, h3⟩
theorem WishI.shape {w : World} {v : Value} {xs : List WishP} (h : WishI w v xs) : ∃ a cap, v = .slice a xs.length cap ∧ xs.length ≤ cap ∧ cap ≤ maxLen := by
  obtain ⟨rs, ⟨⟨a, cap, h1, h2, h3, _⟩, _⟩, h4, _⟩ := h
  exact ⟨a, cap, by rw [← h4]; exact h1, by omega, h3⟩
theorem WaysI.shape {w : World} {v : Value} {xs : List (List Int)} (h : WaysI w v xs) : ∃ a cap, v = .slice a xs.length cap ∧ xs.length ≤ cap ∧ cap ≤ maxLen := by
  obtain ⟨rs, ⟨⟨a, cap, h1, h2, h3, _⟩, _⟩, h4, _⟩ := h
  exact ⟨a, cap, by rw [← h4]; exact h1, by omega, h3⟩

theorem RunsI.cells {w : World} {a : Option Addr} {n cap : Nat} {xs : List RunP} (h : RunsI w (.slice a n cap) xs) (hp : 0 < xs.length) :
    ∃ b off, a = some ⟨b, off, none⟩ ∧ b < w.heap.size ∧ ∀ i, i < xs.length → ∃ s, RI w s (xs.getD i zR).1 ∧ w.cell? ⟨b, off + i * 2, none⟩ = some s ∧ w.cell? ⟨b, off + i * 2 + 1, none⟩ = some (.int .i64 (xs.getD i zR).2) := by
  obtain ⟨rs, h1, h2, h3⟩ := h
  obtain ⟨b, off, ha, hb, hc⟩ := h1.cells (by omega)
  refine ⟨b, off, ha, hb, fun i hi => ⟨(rs.getD i (vz, 0)).1, (h3 i hi).1, hc i 0 (by omega) (by decide), ?_⟩⟩
  rw [← (h3 i hi).2]
  exact hc i 1 (by omega) (by decide)
theorem WishI.cells {w : World} {a : Option Addr} {n cap : Nat} {xs : List WishP} (h : WishI w (.slice a n cap) xs) (hp : 0 < xs.length) :
    ∃ b off, a = some ⟨b, off, none⟩ ∧ b < w.heap.size ∧ ∀ i, i < xs.length → ∃ s, RI w s (xs.getD i zW).1 ∧ w.cell? ⟨b, off + i * 3, none⟩ = some s ∧ w.cell? ⟨b, off + i * 3 + 1, none⟩ = some (.int .i64 (xs.getD i zW).2.1) ∧ w.cell? ⟨b, off + i * 3 + 2, none⟩ = some (.int .i64 (xs.getD i zW).2.2) := by
  obtain ⟨rs, h1, h2, h3⟩ := h
  obtain ⟨b, off, ha, hb, hc⟩ := h1.cells (by omega)
  refine ⟨b, off, ha, hb, fun i hi => ⟨(rs.getD i (vz, 0, 0)).1, (h3 i hi).1, hc i 0 (by omega) (by decide), ?_, ?_⟩⟩
  · rw [← (h3 i hi).2]
    exact hc i 1 (by omega) (by decide)
  · rw [← (h3 i hi).2]
    exact hc i 2 (by omega) (by decide)
theorem WaysI.cells {w : World} {a : Option Addr} {n cap : Nat} {xs : List (List Int)} (h : WaysI w (.slice a n cap) xs) (hp : 0 < xs.length) :
    ∃ b off, a = some ⟨b, off, none⟩ ∧ b < w.heap.size ∧ ∀ i, i < xs.length → ∃ s, RI w s (xs.getD i []) ∧ w.cell? ⟨b, off + i, none⟩ = some s := by
  obtain ⟨rs, h1, h2, h3⟩ := h
  obtain ⟨b, off, ha, hb, hc⟩ := h1.cells (by omega)
  refine ⟨b, off, ha, hb, fun i hi => ⟨rs.getD i vz, h3 i hi, ?_⟩⟩
  have := hc i 0 (by omega) (by decide)
  rw [show i * LV.m + 0 = i by show i * 1 + 0 = i; omega] at this
  exact this

/-- A slice is one cell. -/
theorem RI.one {w : World} {v : Value} {xs : List Int} (h : RI w v xs) : v.oneCell' = true := by
  obtain ⟨a, cap, rfl⟩ := h.shape
  rfl
theorem int_one (n : Int) : (Value.int .i64 n).oneCell' = true := rfl

theorem RunRows.nil (w : World) : RunRows w [] [] := ⟨rfl, fun i hi => absurd hi (Nat.not_lt_zero _)⟩
theorem RunRows.snoc {w : World} {rs : List (Value × Int)} {xs : List RunP} (h : RunRows w rs xs) {s : Value} {x : RunP} (hs : RI w s x.1) : RunRows w (rs ++ [(s, x.2)]) (xs ++ [x]) := by
  refine ⟨by simp [h.1], fun i hi => ?_⟩
  simp only [List.length_append, List.length_singleton] at hi
  rw [getD_snoc, getD_snoc, h.1]
  by_cases e : i < xs.length
  · rw [if_pos e, if_pos e]; exact h.2 i e
  · rw [if_neg e, if_neg e, if_pos (by omega), if_pos (by omega)]; exact ⟨hs, rfl⟩
theorem WishRows.nil (w : World) : WishRows w [] [] := ⟨rfl, fun i hi => absurd hi (Nat.not_lt_zero _)⟩
theorem WishRows.snoc {w : World} {rs : List (Value × Int × Int)} {xs : List WishP} (h : WishRows w rs xs) {s : Value} {x : WishP} (hs : RI w s x.1) : WishRows w (rs ++ [(s, x.2)]) (xs ++ [x]) := by
  refine ⟨by simp [h.1], fun i hi => ?_⟩
  simp only [List.length_append, List.length_singleton] at hi
  rw [getD_snoc, getD_snoc, h.1]
  by_cases e : i < xs.length
  · rw [if_pos e, if_pos e]; exact h.2 i e
  · rw [if_neg e, if_neg e, if_pos (by omega), if_pos (by omega)]; exact ⟨hs, rfl⟩
theorem WayRows.nil (w : World) : WayRows w [] [] := ⟨rfl, fun i hi => absurd hi (Nat.not_lt_zero _)⟩
theorem WayRows.snoc {w : World} {rs : List Value} {xs : List (List Int)} (h : WayRows w rs xs) {s : Value} {x : List Int} (hs : RI w s x) : WayRows w (rs ++ [s]) (xs ++ [x]) := by
  refine ⟨by simp [h.1], fun i hi => ?_⟩
  simp only [List.length_append, List.length_singleton] at hi
  rw [getD_snoc, getD_snoc, h.1]
  by_cases e : i < xs.length
  · rw [if_pos e, if_pos e]; exact h.2 i e
  · rw [if_neg e, if_neg e, if_pos (by omega), if_pos (by omega)]; exact hs
/-- A run is put in another's place. -/
theorem RunRows.set {w : World} {rs : List (Value × Int)} {xs : List RunP} (h : RunRows w rs xs) {s : Value} {x : RunP} (hs : RI w s x.1) (k : Nat) : RunRows w (rs.set k (s, x.2)) (xs.set k x) := by
  refine ⟨by simp [h.1], fun i hi => ?_⟩
  rw [List.length_set] at hi
  simp only [List.getD, List.getElem?_set]
  by_cases e : k = i
  · subst e
    rw [if_pos rfl, if_pos rfl, if_pos hi, if_pos (by rw [h.1]; exact hi)]
    exact ⟨hs, rfl⟩
  · rw [if_neg e, if_neg e]
    exact h.2 i hi
/-- Only the first of them. -/
theorem RunsI.take {w : World} {a : Option Addr} {n cap : Nat} {xs : List RunP} (h : RunsI w (.slice a n cap) xs) (k : Nat) (hk : k ≤ xs.length) : RunsI w (.slice a k cap) (xs.take k) := by
  obtain ⟨rs, h1, h2, h3⟩ := h
  refine ⟨rs.take k, h1.take k (by omega), by simp [h2], fun i hi => ?_⟩
  simp only [List.length_take] at hi
  have := h3 i (by omega)
  simp only [List.getD, List.getElem?_take, if_pos (show i < k by omega)]
  exact this

end Go.Proofs.YthlpbeohlhhblaaGreat
namespace Go.Proofs.YthlpbeohlhhblaaGreat
open Go.RowKit

/-- All that lay in w lies so in w', but for the blocks of p. -/
structure Keeps (p : Nat → Prop) (w w' : World) : Prop where
  os : w'.os = w.os
  tape : w'.tape = w.tape
  output : w'.output = w.output
  size : w.heap.size ≤ w'.heap.size
  block : ∀ k, k < w.heap.size → ¬ p k → w'.heap[k]? = w.heap[k]?

theorem Keeps.refl (p : Nat → Prop) (w : World) : Keeps p w w := ⟨rfl, rfl, rfl, Nat.le_refl _, fun _ _ _ => rfl⟩
theorem Keeps.trans {p : Nat → Prop} {a b c : World} (h : Keeps p a b) (k : Keeps p b c) : Keeps p a c :=
  ⟨k.os.trans h.os, k.tape.trans h.tape, k.output.trans h.output, Nat.le_trans h.size k.size, fun i hi hn => (k.block i (Nat.lt_of_lt_of_le hi h.size) hn).trans (h.block i hi hn)⟩
theorem Keeps.of_below {p : Nat → Prop} {w w' : World} (h : Below w.heap.size w w') : Keeps p w w' := ⟨h.os, h.tape, h.output, h.size, fun k hk _ => h.block k hk⟩
theorem Keeps.of_grown {p : Nat → Prop} {w w' : World} {row : Option Nat} (h : w.grownBy w' row) (hp : ∀ k, row = some k → p k) : Keeps p w w' := ⟨h.os, h.tape, h.output, h.size, fun k hk hn => h.block k hk fun e => hn (hp k e.symm)⟩
theorem Keeps.then_below {p : Nat → Prop} {a b c : World} (h : Keeps p a b) (k : Below b.heap.size b c) : Keeps p a c := h.trans (Keeps.of_below k)
theorem Keeps.below {p : Nat → Prop} {w w' : World} {B : Nat} (h : Keeps p w w') (hp : ∀ k, p k → B ≤ k) (hB : B ≤ w.heap.size) : Below B w w' :=
  ⟨h.os, h.tape, h.output, h.size, fun k hk => h.block k (Nat.lt_of_lt_of_le hk hB) fun e => by have := hp k e; omega⟩
theorem Keeps.cell {p : Nat → Prop} {w w' : World} (h : Keeps p w w') {b o : Nat} (hb : b < w.heap.size) (hn : ¬ p b) : w'.cell? ⟨b, o, none⟩ = w.cell? ⟨b, o, none⟩ := World.cell?_of_block (h.block b hb hn)
theorem Keeps.frozen {p : Nat → Prop} {w w' : World} (h : Keeps p w w') {b o : Nat} (hb : b < w.heap.size) (hn : ¬ p b) : w'.frozen? ⟨b, o, none⟩ = w.frozen? ⟨b, o, none⟩ := World.frozen?_of_block (h.block b hb hn)
/-- v's block is none of p. -/
def Off (p : Nat → Prop) (v : Value) : Prop := ∀ k, v.ownBlock = some k → ¬ p k
theorem RI.keeps {p : Nat → Prop} {w w' : World} {v : Value} {xs : List Int} (h : RI w v xs) (hk : Keeps p w w') (hn : Off p v) : RI w' v xs := by
  obtain ⟨⟨a, cap, rfl, h1, h2, h3⟩, hgd⟩ := h
  refine ⟨⟨a, cap, rfl, h1, h2, ?_⟩, hgd⟩
  rcases h3 with h3 | ⟨b, off, rfl, hlt, hc⟩
  · exact .inl h3
  · exact .inr ⟨b, off, rfl, Nat.lt_of_lt_of_le hlt hk.size, fun j hj => (hk.cell hlt (hn b rfl)).trans (hc j hj)⟩
theorem off_new {p : Nat → Prop} {e : TypeId} {w : World} {base : Nat} {v : Value} {xs : List Int} (h : OI e w base v xs) (hp : ∀ k, p k → k < base) : Off p v := fun k hk hpk => by
  have := (h.lt k hk).1
  have := hp k hpk
  omega
theorem off_old {p : Nat → Prop} {w : World} {v : Value} {xs : List Int} (h : RI w v xs) (hp : ∀ k, p k → w.heap.size ≤ k) (hne : xs ≠ []) : Off p v := fun k hk hpk => by
  obtain ⟨⟨a, cap, rfl, _, _, h3⟩, _⟩ := h
  rcases h3 with h3 | ⟨b, off, rfl, hlt, _⟩
  · exact hne h3
  · have : b = k := Option.some.inj hk
    have := hp k hpk
    omega

end Go.Proofs.YthlpbeohlhhblaaGreat
namespace Go.Proofs.YthlpbeohlhhblaaGreat

/-- A list without repeats, all of whose members lie in another one, is no longer. -/
theorem nodup_most : ∀ {l m : List Int}, l.Nodup → (∀ x ∈ l, x ∈ m) → l.length ≤ m.length := by
  intro l
  induction l with
  | nil => intro m _ _; exact Nat.zero_le _
  | cons x l ih =>
    intro m hp hs
    have hx := hs x (by simp)
    have h2 := List.nodup_cons.1 hp
    have i := ih (m := m.erase x) h2.2 fun y hy => (List.mem_erase_of_ne (fun (e : y = x) => h2.1 (e ▸ hy))).2 (hs y (by simp [hy]))
    rw [List.length_erase_of_mem hx] at i
    have := List.length_pos_of_mem hx
    simp only [List.length_cons]
    omega
def nums (n : Nat) : List Int := (List.range n).map fun (i : Nat) => (i : Int)
theorem nums_mem {n : Nat} {x : Int} : x ∈ nums n ↔ 0 ≤ x ∧ x < n := by
  unfold nums
  rw [List.mem_map]
  constructor
  · rintro ⟨i, hi, rfl⟩
    have := List.mem_range.1 hi
    omega
  · intro h
    exact ⟨x.toNat, List.mem_range.2 (by omega), by omega⟩
theorem nums_length (n : Nat) : (nums n).length = n := by simp [nums]
theorem nums_nodup (n : Nat) : (nums n).Nodup := by
  unfold nums
  unfold List.Nodup
  rw [List.pairwise_map]
  exact List.Pairwise.imp (fun h => by omega) (List.nodup_range (n := n))
/-- An order has each number. -/
theorem order_has {n : Nat} {o : List Int} (h : okOrder n o) {i : Nat} (hi : i < n) : (i : Int) ∈ o := by
  obtain ⟨h1, h2, h3⟩ := h
  refine Classical.byContradiction fun hn => ?_
  have := nodup_most (l := (i : Int) :: o) (m := nums n) (List.nodup_cons.2 ⟨hn, h3⟩) fun x hx => by
    rcases List.mem_cons.1 hx with rfl | hx
    · exact nums_mem.2 (by omega)
    · exact nums_mem.2 (h2 x hx)
  rw [nums_length] at this
  simp only [List.length_cons] at this
  omega
theorem order_at {n : Nat} {o : List Int} (h : okOrder n o) {i : Nat} (hi : i < n) : ∃ p, p < n ∧ (o.getD p 0).toNat = i := by
  obtain ⟨p, hp, he⟩ := List.getElem_of_mem (order_has h hi)
  refine ⟨p, by rw [← h.1]; exact hp, ?_⟩
  rw [show o.getD p 0 = o[p] by simp [List.getD, hp], he]
  omega

/-! ### delays -/
def delay (xs : List WishP) (rs : List RunP) (k : Nat) : Int := sumI ((List.range k).map fun i => (rs.getD i zR).2 - (xs.getD i zW).2.1)
theorem delay_succ (xs : List WishP) (rs : List RunP) (k : Nat) : delay xs rs (k + 1) = delay xs rs k + ((rs.getD k zR).2 - (xs.getD k zW).2.1) := by
  unfold delay
  rw [List.range_succ, List.map_append]
  exact sumI_snoc _ _
def cost (times : List Int) (xs : List WishP) (order : List Int) : Int := delay xs (plan times xs order) xs.length

/-- The runs of a whole order's plan. -/
theorem plan_fits {times : List Int} {xs : List WishP} (hok : okWishes times xs = true) {o : List Int} (ho : okOrder xs.length o) {i : Nat} (hi : i < xs.length) :
    ((plan times xs o).getD i zR).1 = (xs.getD i zW).1 ∧ okWay times ((plan times xs o).getD i zR).1 = true ∧ (xs.getD i zW).2.1 ≤ ((plan times xs o).getD i zR).2 ∧ 0 ≤ (xs.getD i zW).2.1 ∧ ((plan times xs o).getD i zR).2 ≤ 82000 := by
  have h6 : xs.length ≤ 6 := (okWishes_at hok (k := i) (by omega) (by omega)).2.1
  have hP := planned hok o ⟨ho.2.1, ho.2.2⟩ (by rw [ho.1]; exact h6)
  obtain ⟨p, hp, he⟩ := order_at ho hi
  rw [← ho.1] at hp
  have e1 := hP.out p hp
  have e2 := hP.ways p hp
  have hl := hP.len
  have hm : (planSt times xs o).2.getD p zR ∈ (planSt times xs o).2 := by
    rw [show (planSt times xs o).2.getD p zR = (planSt times xs o).2[p]'(by omega) by simp [List.getD, show p < (planSt times xs o).2.length by omega]]
    exact List.getElem_mem _
  have e3 := hP.fits _ hm
  rw [he] at e1 e2
  rw [e1]
  have hr := (okWishes_at hok (k := i) (by omega) (by omega)).2.2.2.1
  rw [Int.toNat_natCast] at hr
  unfold inB at hr
  simp only [Bool.and_eq_true, decide_eq_true_eq] at hr
  have h1 := ho.1
  exact ⟨e2.1, e3.1, e2.2, hr.1, by omega⟩
/-- .. do not meet. -/
theorem plan_apart {times : List Int} {xs : List WishP} (hok : okWishes times xs = true) {o : List Int} (ho : okOrder xs.length o) {i k : Nat} (hi : i < xs.length) (hk : k < xs.length) (hne : i ≠ k) :
    apart times ((plan times xs o).getD i zR) ((plan times xs o).getD k zR) := by
  have h6 : xs.length ≤ 6 := (okWishes_at hok (k := i) (by omega) (by omega)).2.1
  have hP := planned hok o ⟨ho.2.1, ho.2.2⟩ (by rw [ho.1]; exact h6)
  obtain ⟨p, hp, he⟩ := order_at ho hi
  obtain ⟨q, hq, hf⟩ := order_at ho hk
  rw [← ho.1] at hp hq
  have e1 := hP.out p hp
  have e2 := hP.out q hq
  have hl := hP.len
  rw [he] at e1
  rw [hf] at e2
  rw [e1, e2]
  have hpq : p ≠ q := fun e => hne (by rw [← he, ← hf, e])
  have hg : ∀ r, (hr : r < (planSt times xs o).2.length) → (planSt times xs o).2.getD r zR = (planSt times xs o).2[r] := fun r hr => by simp [List.getD, hr]
  rw [hg p (by omega), hg q (by omega)]
  rcases Nat.lt_or_gt_of_ne hpq with h | h
  · exact List.pairwise_iff_getElem.1 hP.parted p q (by omega) (by omega) h
  · exact apart_comm (List.pairwise_iff_getElem.1 hP.parted q p (by omega) (by omega) h)

theorem delay_bound {times : List Int} {xs : List WishP} (hok : okWishes times xs = true) {o : List Int} (ho : okOrder xs.length o) : ∀ k, k ≤ xs.length → 0 ≤ delay xs (plan times xs o) k ∧ delay xs (plan times xs o) k ≤ 100000 * k := by
  intro k
  induction k with
  | zero => intro _; simp [delay, sumI]
  | succ k ih =>
    intro hk
    have i := ih (by omega)
    have f := plan_fits hok ho (i := k) (by omega)
    rw [delay_succ]
    omega
theorem cost_bound {times : List Int} {xs : List WishP} (hok : okWishes times xs = true) {o : List Int} (ho : okOrder xs.length o) : 0 ≤ cost times xs o ∧ cost times xs o ≤ 600000 := by
  have h := delay_bound hok ho xs.length (Nat.le_refl _)
  have h6 : xs.length ≤ 6 := by
    unfold okWishes at hok
    simp only [Bool.and_eq_true, decide_eq_true_eq] at hok
    exact hok.1.2
  unfold cost
  omega

/-! ### all orders -/
def allOrders (n : Nat) : Nat → List Int → List (List Int)
  | 0, done => [done]
  | m + 1, done => (List.range n).flatMap fun (k : Nat) => if done.contains (k : Int) then [] else allOrders n m (done ++ [(k : Int)])

theorem okPart_add {n : Nat} {done : List Int} (h : okPart n done) {k : Nat} (hk : k < n) (hc : done.contains (k : Int) = false) : okPart n (done ++ [(k : Int)]) := by
  refine ⟨fun x hx => ?_, ?_⟩
  · rcases List.mem_append.1 hx with hx | hx
    · exact h.1 x hx
    · rw [List.mem_singleton.1 hx]; omega
  · rw [List.nodup_append]
    refine ⟨h.2, by simp, fun a ha b hb e => ?_⟩
    rw [List.mem_singleton.1 hb] at e
    rw [e] at ha
    have : done.contains (k : Int) = true := by simpa using ha
    rw [this] at hc
    cases hc
theorem allOrders_ok {n : Nat} : ∀ (m : Nat) (done : List Int), okPart n done → done.length + m = n → ∀ o ∈ allOrders n m done, okOrder n o := by
  intro m
  induction m with
  | zero =>
    intro done h hl o ho
    simp only [allOrders, List.mem_singleton] at ho
    subst ho
    exact ⟨by omega, h.1, h.2⟩
  | succ m ih =>
    intro done h hl o ho
    simp only [allOrders] at ho
    obtain ⟨k, hk, ho⟩ := List.mem_flatMap.1 ho
    have hk := List.mem_range.1 hk
    cases hc : done.contains (k : Int) with
    | true => rw [hc] at ho; simp at ho
    | false =>
      rw [hc] at ho
      exact ih _ (okPart_add h hk hc) (by simp; omega) o ho
theorem allOrders_all {n : Nat} {o : List Int} (h : okOrder n o) : ∀ (m : Nat), m ≤ n → o ∈ allOrders n m (o.take (n - m)) := by
  intro m
  induction m with
  | zero =>
    intro _
    simp only [allOrders, List.mem_singleton]
    rw [List.take_of_length_le (by rw [h.1]; omega)]
  | succ m ih =>
    intro hm
    have i := ih (by omega)
    have hl : n - (m + 1) < o.length := by rw [h.1]; omega
    have e : o.take (n - m) = o.take (n - (m + 1)) ++ [o[n - (m + 1)]] := by
      rw [show n - m = n - (m + 1) + 1 by omega, List.take_succ_eq_append_getElem hl]
    have hb := h.2.1 _ (List.getElem_mem hl)
    have hc : (o.take (n - (m + 1))).contains o[n - (m + 1)] = false := by
      cases hq : (o.take (n - (m + 1))).contains o[n - (m + 1)] with
      | false => rfl
      | true =>
        exfalso
        have hmem : o[n - (m + 1)] ∈ o.take (n - (m + 1)) := by simpa using hq
        obtain ⟨j, hj, hje⟩ := List.getElem_of_mem hmem
        rw [List.getElem_take] at hje
        have hjl : j < n - (m + 1) := by simp at hj; omega
        exact (List.pairwise_iff_getElem.1 h.2.2 j (n - (m + 1)) (by omega) hl hjl) hje
    simp only [allOrders]
    refine List.mem_flatMap.2 ⟨(o[n - (m + 1)]).toNat, List.mem_range.2 (by omega), ?_⟩
    rw [show ((o[n - (m + 1)]).toNat : Int) = o[n - (m + 1)] by omega, hc, ← e]
    exact i

/-! ### the best -/
def bestStep (val : List Int → Int) (st : List Int × Int) (o : List Int) : List Int × Int := if st.2 < 0 ∨ val o < st.2 then (o, val o) else st
def best (val : List Int → Int) (os : List (List Int)) : List Int × Int := os.foldl (bestStep val) ([], -1)
theorem best_snoc (val : List Int → Int) (os : List (List Int)) (o : List Int) : best val (os ++ [o]) = bestStep val (best val os) o := by
  unfold best; rw [List.foldl_append]; rfl
theorem best_fits (val : List Int → Int) : ∀ os : List (List Int), (∀ o ∈ os, 0 ≤ val o) →
    (os = [] ∧ best val os = ([], -1)) ∨ ((best val os).1 ∈ os ∧ (best val os).2 = val (best val os).1 ∧ ∀ o ∈ os, (best val os).2 ≤ val o) := by
  refine snoc_ind (fun _ => .inl ⟨rfl, rfl⟩) fun os o ih h => .inr ?_
  have i := ih fun q hq => h q (by simp [hq])
  have h0 := h o (by simp)
  rw [best_snoc]
  rcases i with ⟨rfl, e⟩ | ⟨i1, i2, i3⟩
  · rw [e]
    refine ⟨by simp [bestStep], by simp [bestStep], fun q hq => ?_⟩
    simp at hq
    subst hq
    simp [bestStep]
  · have hp := h _ (List.mem_append.2 (.inl i1))
    unfold bestStep
    by_cases hc : (best val os).2 < 0 ∨ val o < (best val os).2
    · rw [if_pos hc]
      refine ⟨by simp, rfl, fun q hq => ?_⟩
      rcases List.mem_append.1 hq with hq | hq
      · have := i3 q hq; show val o ≤ val q; omega
      · rw [List.mem_singleton.1 hq]; exact Int.le_refl _
    · rw [if_neg hc]
      refine ⟨List.mem_append.2 (.inl i1), i2, fun q hq => ?_⟩
      rcases List.mem_append.1 hq with hq | hq
      · exact i3 q hq
      · rw [List.mem_singleton.1 hq]; omega
/-- The best order of all, and what it costs. -/
theorem best_order {times : List Int} {xs : List WishP} (hok : okWishes times xs = true) {b : List Int} {l : Int} (h : best (cost times xs) (allOrders xs.length xs.length []) = (b, l)) :
    okOrder xs.length b ∧ cost times xs b = l ∧ ∀ o, okOrder xs.length o → l ≤ cost times xs o := by
  have hall := allOrders_ok (n := xs.length) xs.length [] ⟨by simp, by simp⟩ (by simp)
  have hb := best_fits (cost times xs) (allOrders xs.length xs.length []) fun o ho => (cost_bound hok (hall o ho)).1
  have hsome : nums xs.length ∈ allOrders xs.length xs.length [] := by
    have := allOrders_all (n := xs.length) (o := nums xs.length) ⟨nums_length _, fun k hk => nums_mem.1 hk, nums_nodup _⟩ xs.length (Nat.le_refl _)
    simpa using this
  rw [h] at hb
  rcases hb with ⟨e, _⟩ | ⟨b1, b2, b3⟩
  · rw [e] at hsome; simp at hsome
  · refine ⟨hall b b1, b2.symm, fun o ho => b3 o ?_⟩
    have := allOrders_all ho xs.length (Nat.le_refl _)
    simpa using this

end Go.Proofs.YthlpbeohlhhblaaGreat
namespace Go.Proofs.YthlpbeohlhhblaaGreat
open Go.RowKit

theorem info64 : (Tryz.prog.info? 2).map (fun i => (i.zero, i.size, i.bytes)) = some (some (.int .i64 0), 1, 8) := by kernel_rfl

theorem l00In_any (n lo hi : Int) (w : World) : Calls Tryz.prog 107 #[.int .i64 n, .int .i64 lo, .int .i64 hi] w fun e w' => e = .returned (.bool (inB lo hi n)) ∧ w = w' := by
  by_cases h : lo ≤ n
  · go_enter Tryz.func107, Tryz.ntmps107
    go_wp2
    go_ret
    simp [h, inB]
  · have hd : decide (lo ≤ n) = false := by simpa using h
    go_enter Tryz.func107, Tryz.ntmps107
    go_wp2
    go_ret
    exact ⟨ret_bool (by simp [inB, hd]), rfl⟩

theorem within_any (n lo hi : Int) (w : World) : Calls Tryz.prog 59 #[.int .i64 n, .int .i64 lo, .int .i64 hi] w fun e w' => e = .returned (.bool (inB lo hi n)) ∧ w = w' := by
  by_cases h : lo ≤ n
  · go_enter Tryz.func59, Tryz.ntmps59
    go_wp2
    go_ret
    simp [h, inB]
  · have hd : decide (lo ≤ n) = false := by simpa using h
    go_enter Tryz.func59, Tryz.ntmps59
    go_wp2
    go_ret
    exact ⟨ret_bool (by simp [inB, hd]), rfl⟩

end Go.Proofs.YthlpbeohlhhblaaGreat
