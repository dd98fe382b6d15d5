/-
  Sums of leaks as potentials: what explains tests, what bounds it, and the fewest leaks. In plain Lean.
-/
import Derived.Test.YtpgnndpjlcihiaaDoorLeakVals
namespace Go.Proofs.YtpgnndpjlcihiaaDoor

/-- p gives the sums before each place of leaks that explain the tests; where tf says so there is none. -/
structure Pot (s : Nat) (tf : Nat → Bool) (xs : List (Int × Int × Int)) (p : Nat → Int) : Prop where
  up : ∀ k, k < s → p k ≤ p (k + 1)
  tight : ∀ k, k < s → tf k = true → p (k + 1) ≤ p k
  test : ∀ x ∈ xs, p x.2.1.toNat - p x.1.toNat = x.2.2
  near : ∀ a b, a ≤ s → b ≤ s → p b - p a ≤ INF

theorem pot_bound {p : Nat → Int} {f : Nat → Nat → Int} (h : ∀ a b, p b - p a ≤ f a b) (i k : Nat) (x : Int) (hx : p k - p i ≤ x) : ∀ a b, p b - p a ≤ boundF f i k x a b := fun a b => by
  unfold boundF
  by_cases e : a = i ∧ b = k
  · obtain ⟨rfl, rfl⟩ := e
    rw [upd_at]
    have := h a b
    omega
  · rw [upd_else _ _ _ _ _ _ e]; exact h a b
theorem pot_tests {p : Nat → Int} (xs : List (Int × Int × Int)) (ht : ∀ x ∈ xs, p x.2.1.toNat - p x.1.toNat = x.2.2) : ∀ f : Nat → Nat → Int, (∀ a b, p b - p a ≤ f a b) → ∀ a b, p b - p a ≤ testsF f xs a b := by
  induction xs with
  | nil => intro f h a b; exact h a b
  | cons x xs ih =>
    intro f h a b
    have q := ht x (by simp)
    refine ih (fun y hy => ht y (by simp [hy])) (testF f x) ?_ a b
    unfold testF
    exact pot_bound (pot_bound h _ _ _ (by omega)) _ _ _ (by omega)
/-- The potential, with nothing beyond the places in sight. -/
def cutP (s : Nat) (p : Nat → Int) : Nat → Int := fun a => p (min a s)
theorem pot_init {s : Nat} {tf : Nat → Bool} {xs : List (Int × Int × Int)} {p : Nat → Int} (hx : fitT s xs) (h : Pot s tf xs p) : ∀ a b, cutP s p b - cutP s p a ≤ initA s tf xs a b := by
  have hI : INF = 1099511627776 := rfl
  refine pot_tests xs (fun x hxm => ?_) _ fun a b => ?_
  · have q := hx x hxm
    have t := h.test x hxm
    unfold cutP
    rw [show min x.2.1.toNat s = x.2.1.toNat by omega, show min x.1.toNat s = x.1.toNat by omega]
    exact t
  · rw [edgeA_val]
    unfold cutP
    by_cases e : (b + 1 = a ∧ b < s) ∨ (a + 1 = b ∧ a < s ∧ tf a = true)
    · rw [if_pos e]
      rcases e with ⟨rfl, hb⟩ | ⟨rfl, ha, ht⟩
      · have := h.up b hb
        rw [show min b s = b by omega, show min (b + 1) s = b + 1 by omega]; omega
      · have := h.tight a ha ht
        rw [show min a s = a by omega, show min (a + 1) s = a + 1 by omega]; omega
    · rw [if_neg e]
      exact h.near _ _ (by omega) (by omega)
theorem pot_step {p : Nat → Int} {g : Nat → Nat → Int} (h : ∀ a b, p b - p a ≤ g a b) (m i k : Nat) : ∀ a b, p b - p a ≤ stepA g m i k a b := fun a b => by
  unfold stepA
  split
  · by_cases e : a = i ∧ b = k
    · obtain ⟨rfl, rfl⟩ := e
      rw [upd_at]
      have h1 := h a b
      have h2 := h a m
      have h3 := h m b
      omega
    · rw [upd_else _ _ _ _ _ _ e]; exact h a b
  · exact h a b
theorem pot_col {p : Nat → Int} {g : Nat → Nat → Int} (h : ∀ a b, p b - p a ≤ g a b) (m i k : Nat) : ∀ a b, p b - p a ≤ colA g m i k a b := by
  induction k with
  | zero => exact h
  | succ k ih => exact pot_step ih m i k
theorem pot_row {p : Nat → Int} (n : Nat) {g : Nat → Nat → Int} (h : ∀ a b, p b - p a ≤ g a b) (m i : Nat) : ∀ a b, p b - p a ≤ rowA n g m i a b := by
  induction i with
  | zero => exact h
  | succ i ih => exact pot_col ih m i n
theorem pot_all {p : Nat → Int} (n : Nat) {g : Nat → Nat → Int} (h : ∀ a b, p b - p a ≤ g a b) (m : Nat) : ∀ a b, p b - p a ≤ allA n g m a b := by
  induction m with
  | zero => exact h
  | succ m ih => exact pot_row n ih m n
/-- No potential exceeds the table. -/
theorem pot_end {s : Nat} {tf : Nat → Bool} {xs : List (Int × Int × Int)} {p : Nat → Int} (hx : fitT s xs) (h : Pot s tf xs p) {a b : Nat} (ha : a ≤ s) (hb : b ≤ s) : p b - p a ≤ endA s tf xs a b := by
  have := pot_all (s + 1) (pot_init hx h) (s + 1) a b
  unfold cutP at this
  rw [show min a s = a by omega, show min b s = b by omega] at this
  exact this
theorem pot_ok {s : Nat} {tf : Nat → Bool} {xs : List (Int × Int × Int)} {p : Nat → Int} (hx : fitT s xs) (h : Pot s tf xs p) : okA s tf xs = true := by
  unfold okA
  rw [List.all_eq_true]
  intro a ha
  have ha := List.mem_range.1 ha
  have := pot_end hx h (show a ≤ s by omega) (show a ≤ s by omega)
  exact decide_eq_true (by omega)
theorem pot_open {s : Nat} {tf : Nat → Bool} {xs : List (Int × Int × Int)} {p : Nat → Int} (h : Pot s tf xs p) : Pot s openT xs p := ⟨h.up, fun k _ ht => (by unfold openT at ht; cases ht), h.test, h.near⟩

theorem boundF_at (f : Nat → Nat → Int) (i k : Nat) (x : Int) : boundF f i k x i k ≤ x := by
  unfold boundF
  rw [upd_at]; omega
theorem tests_mem {x : Int × Int × Int} (xs : List (Int × Int × Int)) (hx : x ∈ xs) : ∀ f : Nat → Nat → Int, testsF f xs x.1.toNat x.2.1.toNat ≤ x.2.2 ∧ testsF f xs x.2.1.toNat x.1.toNat ≤ -x.2.2 := by
  induction xs with
  | nil => simp at hx
  | cons y xs ih =>
    intro f
    rcases List.mem_cons.1 hx with rfl | hx
    · refine ⟨Int.le_trans (testsF_le xs _ _ _) ?_, Int.le_trans (testsF_le xs _ _ _) ?_⟩
      · unfold testF; exact Int.le_trans (boundF_le _ _ _ _ _ _) (boundF_at _ _ _ _)
      · unfold testF; exact boundF_at _ _ _ _
    · exact ih hx (testF f y)

/-- The late leaks' sums. -/
def lateP (s : Nat) (tf : Nat → Bool) (xs : List (Int × Int × Int)) (a : Nat) : Int := if a = 0 then 0 else -(endA s tf xs a 0)
theorem late_edge {s : Nat} (hs : s ≤ 9) (tf : Nat → Bool) {xs : List (Int × Int × Int)} (hx : fitT s xs) (hok : okA s tf xs = true) {a b : Nat} (ha : a ≤ s) (hb : b ≤ s) (hab : a ≠ b) (hw : initA s tf xs a b < INF) : lateP s tf xs b - lateP s tf xs a ≤ initA s tf xs a b := by
  have hI : INF = 1099511627776 := rfl
  obtain ⟨h1, h2, h3⟩ := end_stg hs tf hx hok
  have hz : ∀ q, 1 ≤ q → q ≤ s → stg (initA s tf xs) (s + 1) q 0 ≤ 0 := fun q hq hqs => by
    have := end_zero hs tf hx hok (q - 1) (by omega)
    rw [h3 _ _ (by omega) (by omega), show q - 1 + 1 = q by omega] at this
    exact this
  have hle := stg_le (initA s tf xs) (s + 1) a b
  unfold lateP
  by_cases ha0 : a = 0
  · subst ha0
    rw [if_pos rfl, if_neg (fun e => hab e.symm), h3 b 0 (by omega) (by omega)]
    have hb0 := hz b (by omega) hb
    have t := stg_tri h1 (show s + 1 ≤ 10 by omega) h2 (show b < s + 1 by omega) (i := 0) (k := 0) (by omega) (by omega)
    have h00 : 0 ≤ stg (initA s tf xs) (s + 1) 0 0 := by
      unfold okA at hok
      rw [List.all_eq_true] at hok
      have := of_decide_eq_true (hok 0 (List.mem_range.2 (by omega)))
      rw [h3 0 0 (by omega) (by omega)] at this
      exact this
    omega
  · rw [if_neg ha0, h3 a 0 (by omega) (by omega)]
    by_cases hb0 : b = 0
    · subst hb0
      rw [if_pos rfl]
      omega
    · rw [if_neg hb0, h3 b 0 (by omega) (by omega)]
      have hbz := hz b (by omega) hb
      have t := stg_tri h1 (show s + 1 ≤ 10 by omega) h2 (show b < s + 1 by omega) (i := a) (k := 0) (by omega) (by omega)
      omega
theorem late_pot {s : Nat} (hs : s ≤ 9) (tf : Nat → Bool) {xs : List (Int × Int × Int)} (hx : fitT s xs) (hok : okA s tf xs = true) : Pot s tf xs (lateP s tf xs) := by
  have hI : INF = 1099511627776 := rfl
  obtain ⟨h1, h2, h3⟩ := end_stg hs tf hx hok
  refine ⟨fun k hk => ?_, fun k hk ht => ?_, fun x hxm => ?_, fun a b ha hb => ?_⟩
  · have e := init_step s tf xs k hk
    have := late_edge hs tf hx hok (a := k + 1) (b := k) (by omega) (by omega) (by omega) (by omega)
    omega
  · have e : initA s tf xs k (k + 1) ≤ 0 := by
      refine Int.le_trans (testsF_le xs _ _ _) ?_
      rw [edgeA_val, if_pos (.inr ⟨rfl, hk, ht⟩)]
      exact Int.le_refl _
    have := late_edge hs tf hx hok (a := k) (b := k + 1) (by omega) (by omega) (by omega) (by omega)
    omega
  · have q := hx x hxm
    obtain ⟨e1, e2⟩ := tests_mem xs hxm (edgeA tf s)
    have a1 := late_edge hs tf hx hok (a := x.1.toNat) (b := x.2.1.toNat) (by omega) (by omega) (by omega) (by show testsF (edgeA tf s) xs _ _ < INF; omega)
    have a2 := late_edge hs tf hx hok (a := x.2.1.toNat) (b := x.1.toNat) (by omega) (by omega) (by omega) (by show testsF (edgeA tf s) xs _ _ < INF; omega)
    have a3 : initA s tf xs x.1.toNat x.2.1.toNat ≤ x.2.2 := e1
    have a4 : initA s tf xs x.2.1.toNat x.1.toNat ≤ -x.2.2 := e2
    omega
  · have hb : ∀ q, q ≤ s → -110000 ≤ lateP s tf xs q ∧ lateP s tf xs q ≤ 110000 := fun q hq => by
      unfold lateP
      by_cases e : q = 0
      · rw [if_pos e]; omega
      · rw [if_neg e, h3 q 0 (by omega) (by omega)]
        have hz := end_zero hs tf hx hok (q - 1) (by omega)
        rw [h3 _ _ (by omega) (by omega), show q - 1 + 1 = q by omega] at hz
        have := stg_tight h1 (show s + 1 ≤ 10 by omega) h2 (i := q) (k := 0) e (by omega)
        omega
    have := hb a ha
    have := hb b (by assumption)
    omega
theorem late_val {s : Nat} {xs : List (Int × Int × Int)} (k : Nat) : valLate s xs k = lateP s openT xs (k + 1) - lateP s openT xs k := by
  unfold valLate lateP DA
  by_cases e : k = 0
  · subst e; simp
  · rw [if_neg e, if_neg (by omega), if_neg e, if_neg (by omega)]; omega

end Go.Proofs.YtpgnndpjlcihiaaDoor
