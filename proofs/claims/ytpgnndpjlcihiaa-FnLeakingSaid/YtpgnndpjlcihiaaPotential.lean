/-
  Sums of leaks as potentials: what explains tests, what bounds it, and the fewest leaks. In plain Lean.
-/
import Derived.Test.YtpgnndpjlcihiaaLeakVals
import Derived.Test.YtpgnndpjlcihiaaFewLeaks
namespace Go.Proofs.Ytpgnndpjlcihiaa

/-- p gives the sums before each place of leaks that explain the tests; where tf says so there is none. -/
structure Pot (s : Nat) (tf : Nat → Bool) (xs : List (Int × Int × Int)) (p : Nat → Int) : Prop where
  up : ∀ k, k < s → p k ≤ p (k + 1)
  tight : ∀ k, k < s → tf k = true → p (k + 1) ≤ p k
  test : ∀ x ∈ xs, p x.2.1.toNat - p x.1.toNat = x.2.2
  near : ∀ a b, a ≤ s → b ≤ s → p b - p a ≤ INF

theorem pot_bound {p : Nat → Int} {f : Nat → Nat → Int} (h : ∀ a b, p b - p a ≤ f a b) (i k : Nat) (x : Int) (hx : p k - p i ≤ x) : ∀ a b, p b - p a ≤ boundF f i k x a b := fun a b => by
  unfold boundF
  by_cases e : a = i ∧ b = k
  · obtain ⟨rfl, rfl⟩ := e
    rw [upd_at]
    have := h a b
    omega
  · rw [upd_else _ _ _ _ _ _ e]; exact h a b
theorem pot_tests {p : Nat → Int} (xs : List (Int × Int × Int)) (ht : ∀ x ∈ xs, p x.2.1.toNat - p x.1.toNat = x.2.2) : ∀ f : Nat → Nat → Int, (∀ a b, p b - p a ≤ f a b) → ∀ a b, p b - p a ≤ testsF f xs a b := by
  induction xs with
  | nil => intro f h a b; exact h a b
  | cons x xs ih =>
    intro f h a b
    have q := ht x (by simp)
    refine ih (fun y hy => ht y (by simp [hy])) (testF f x) ?_ a b
    unfold testF
    exact pot_bound (pot_bound h _ _ _ (by omega)) _ _ _ (by omega)
/-- The potential, with nothing beyond the places in sight. -/
def cutP (s : Nat) (p : Nat → Int) : Nat → Int := fun a => p (min a s)
theorem pot_init {s : Nat} {tf : Nat → Bool} {xs : List (Int × Int × Int)} {p : Nat → Int} (hx : fitT s xs) (h : Pot s tf xs p) : ∀ a b, cutP s p b - cutP s p a ≤ initA s tf xs a b := by
  have hI : INF = 1099511627776 := rfl
  refine pot_tests xs (fun x hxm => ?_) _ fun a b => ?_
  · have q := hx x hxm
    have t := h.test x hxm
    unfold cutP
    rw [show min x.2.1.toNat s = x.2.1.toNat by omega, show min x.1.toNat s = x.1.toNat by omega]
    exact t
  · rw [edgeA_val]
    unfold cutP
    by_cases e : (b + 1 = a ∧ b < s) ∨ (a + 1 = b ∧ a < s ∧ tf a = true)
    · rw [if_pos e]
      rcases e with ⟨rfl, hb⟩ | ⟨rfl, ha, ht⟩
      · have := h.up b hb
        rw [show min b s = b by omega, show min (b + 1) s = b + 1 by omega]; omega
      · have := h.tight a ha ht
        rw [show min a s = a by omega, show min (a + 1) s = a + 1 by omega]; omega
    · rw [if_neg e]
      exact h.near _ _ (by omega) (by omega)
theorem pot_step {p : Nat → Int} {g : Nat → Nat → Int} (h : ∀ a b, p b - p a ≤ g a b) (m i k : Nat) : ∀ a b, p b - p a ≤ stepA g m i k a b := fun a b => by
  unfold stepA
  split
  · by_cases e : a = i ∧ b = k
    · obtain ⟨rfl, rfl⟩ := e
      rw [upd_at]
      have h1 := h a b
      have h2 := h a m
      have h3 := h m b
      omega
    · rw [upd_else _ _ _ _ _ _ e]; exact h a b
  · exact h a b
theorem pot_col {p : Nat → Int} {g : Nat → Nat → Int} (h : ∀ a b, p b - p a ≤ g a b) (m i k : Nat) : ∀ a b, p b - p a ≤ colA g m i k a b := by
  induction k with
  | zero => exact h
  | succ k ih => exact pot_step ih m i k
theorem pot_row {p : Nat → Int} (n : Nat) {g : Nat → Nat → Int} (h : ∀ a b, p b - p a ≤ g a b) (m i : Nat) : ∀ a b, p b - p a ≤ rowA n g m i a b := by
  induction i with
  | zero => exact h
  | succ i ih => exact pot_col ih m i n
theorem pot_all {p : Nat → Int} (n : Nat) {g : Nat → Nat → Int} (h : ∀ a b, p b - p a ≤ g a b) (m : Nat) : ∀ a b, p b - p a ≤ allA n g m a b := by
  induction m with
  | zero => exact h
  | succ m ih => exact pot_row n ih m n
/-- No potential exceeds the table. -/
theorem pot_end {s : Nat} {tf : Nat → Bool} {xs : List (Int × Int × Int)} {p : Nat → Int} (hx : fitT s xs) (h : Pot s tf xs p) {a b : Nat} (ha : a ≤ s) (hb : b ≤ s) : p b - p a ≤ endA s tf xs a b := by
  have := pot_all (s + 1) (pot_init hx h) (s + 1) a b
  unfold cutP at this
  rw [show min a s = a by omega, show min b s = b by omega] at this
  exact this
theorem pot_ok {s : Nat} {tf : Nat → Bool} {xs : List (Int × Int × Int)} {p : Nat → Int} (hx : fitT s xs) (h : Pot s tf xs p) : okA s tf xs = true := by
  unfold okA
  rw [List.all_eq_true]
  intro a ha
  have ha := List.mem_range.1 ha
  have := pot_end hx h (show a ≤ s by omega) (show a ≤ s by omega)
  exact decide_eq_true (by omega)
theorem pot_open {s : Nat} {tf : Nat → Bool} {xs : List (Int × Int × Int)} {p : Nat → Int} (h : Pot s tf xs p) : Pot s openT xs p := ⟨h.up, fun k _ ht => (by unfold openT at ht; cases ht), h.test, h.near⟩

theorem boundF_at (f : Nat → Nat → Int) (i k : Nat) (x : Int) : boundF f i k x i k ≤ x := by
  unfold boundF
  rw [upd_at]; omega
theorem tests_mem {x : Int × Int × Int} (xs : List (Int × Int × Int)) (hx : x ∈ xs) : ∀ f : Nat → Nat → Int, testsF f xs x.1.toNat x.2.1.toNat ≤ x.2.2 ∧ testsF f xs x.2.1.toNat x.1.toNat ≤ -x.2.2 := by
  induction xs with
  | nil => simp at hx
  | cons y xs ih =>
    intro f
    rcases List.mem_cons.1 hx with rfl | hx
    · refine ⟨Int.le_trans (testsF_le xs _ _ _) ?_, Int.le_trans (testsF_le xs _ _ _) ?_⟩
      · unfold testF; exact Int.le_trans (boundF_le _ _ _ _ _ _) (boundF_at _ _ _ _)
      · unfold testF; exact boundF_at _ _ _ _
    · exact ih hx (testF f y)

/-- The late leaks' sums. -/
def lateP (s : Nat) (tf : Nat → Bool) (xs : List (Int × Int × Int)) (a : Nat) : Int := if a = 0 then 0 else -(endA s tf xs a 0)
theorem late_edge {s : Nat} (hs : s ≤ 9) (tf : Nat → Bool) {xs : List (Int × Int × Int)} (hx : fitT s xs) (hok : okA s tf xs = true) {a b : Nat} (ha : a ≤ s) (hb : b ≤ s) (hab : a ≠ b) (hw : initA s tf xs a b < INF) : lateP s tf xs b - lateP s tf xs a ≤ initA s tf xs a b := by
  have hI : INF = 1099511627776 := rfl
  obtain ⟨h1, h2, h3⟩ := end_stg hs tf hx hok
  have hz : ∀ q, 1 ≤ q → q ≤ s → stg (initA s tf xs) (s + 1) q 0 ≤ 0 := fun q hq hqs => by
    have := end_zero hs tf hx hok (q - 1) (by omega)
    rw [h3 _ _ (by omega) (by omega), show q - 1 + 1 = q by omega] at this
    exact this
  have hle := stg_le (initA s tf xs) (s + 1) a b
  unfold lateP
  by_cases ha0 : a = 0
  · subst ha0
    rw [if_pos rfl, if_neg (fun e => hab e.symm), h3 b 0 (by omega) (by omega)]
    have hb0 := hz b (by omega) hb
    have t := stg_tri h1 (show s + 1 ≤ 10 by omega) h2 (show b < s + 1 by omega) (i := 0) (k := 0) (by omega) (by omega)
    have h00 : 0 ≤ stg (initA s tf xs) (s + 1) 0 0 := by
      unfold okA at hok
      rw [List.all_eq_true] at hok
      have := of_decide_eq_true (hok 0 (List.mem_range.2 (by omega)))
      rw [h3 0 0 (by omega) (by omega)] at this
      exact this
    omega
  · rw [if_neg ha0, h3 a 0 (by omega) (by omega)]
    by_cases hb0 : b = 0
    · subst hb0
      rw [if_pos rfl]
      omega
    · rw [if_neg hb0, h3 b 0 (by omega) (by omega)]
      have hbz := hz b (by omega) hb
      have t := stg_tri h1 (show s + 1 ≤ 10 by omega) h2 (show b < s + 1 by omega) (i := a) (k := 0) (by omega) (by omega)
      omega
theorem late_pot {s : Nat} (hs : s ≤ 9) (tf : Nat → Bool) {xs : List (Int × Int × Int)} (hx : fitT s xs) (hok : okA s tf xs = true) : Pot s tf xs (lateP s tf xs) := by
  have hI : INF = 1099511627776 := rfl
  obtain ⟨h1, h2, h3⟩ := end_stg hs tf hx hok
  refine ⟨fun k hk => ?_, fun k hk ht => ?_, fun x hxm => ?_, fun a b ha hb => ?_⟩
  · have e := init_step s tf xs k hk
    have := late_edge hs tf hx hok (a := k + 1) (b := k) (by omega) (by omega) (by omega) (by omega)
    omega
  · have e : initA s tf xs k (k + 1) ≤ 0 := by
      refine Int.le_trans (testsF_le xs _ _ _) ?_
      rw [edgeA_val, if_pos (.inr ⟨rfl, hk, ht⟩)]
      exact Int.le_refl _
    have := late_edge hs tf hx hok (a := k) (b := k + 1) (by omega) (by omega) (by omega) (by omega)
    omega
  · have q := hx x hxm
    obtain ⟨e1, e2⟩ := tests_mem xs hxm (edgeA tf s)
    have a1 := late_edge hs tf hx hok (a := x.1.toNat) (b := x.2.1.toNat) (by omega) (by omega) (by omega) (by show testsF (edgeA tf s) xs _ _ < INF; omega)
    have a2 := late_edge hs tf hx hok (a := x.2.1.toNat) (b := x.1.toNat) (by omega) (by omega) (by omega) (by show testsF (edgeA tf s) xs _ _ < INF; omega)
    have a3 : initA s tf xs x.1.toNat x.2.1.toNat ≤ x.2.2 := e1
    have a4 : initA s tf xs x.2.1.toNat x.1.toNat ≤ -x.2.2 := e2
    omega
  · have hb : ∀ q, q ≤ s → -110000 ≤ lateP s tf xs q ∧ lateP s tf xs q ≤ 110000 := fun q hq => by
      unfold lateP
      by_cases e : q = 0
      · rw [if_pos e]; omega
      · rw [if_neg e, h3 q 0 (by omega) (by omega)]
        have hz := end_zero hs tf hx hok (q - 1) (by omega)
        rw [h3 _ _ (by omega) (by omega), show q - 1 + 1 = q by omega] at hz
        have := stg_tight h1 (show s + 1 ≤ 10 by omega) h2 (i := q) (k := 0) e (by omega)
        omega
    have := hb a ha
    have := hb b (by assumption)
    omega
theorem late_val {s : Nat} {xs : List (Int × Int × Int)} (k : Nat) : valLate s xs k = lateP s openT xs (k + 1) - lateP s openT xs k := by
  unfold valLate lateP DA
  by_cases e : k = 0
  · subst e; simp
  · rw [if_neg e, if_neg (by omega), if_neg e, if_neg (by omega)]; omega

/-! ### sets -/
theorem hasB_bit (m k : Nat) : hasB (m : Int) (k : Nat) = m.testBit k := by
  unfold hasB
  rw [Nat.testBit_eq_decide_div_mod_eq, Int.toNat_natCast]
  have e : ((m : Int) / 2 ^ k) = ((m / 2 ^ k : Nat) : Int) := by rw [Int.natCast_ediv, Int.natCast_pow]; rfl
  rw [e, Bool.eq_iff_iff, beq_iff_eq, decide_eq_true_iff]
  omega
theorem set_of (q : Nat → Bool) (s : Nat) : ∃ m : Nat, m < 2 ^ s ∧ ∀ k, k < s → hasB (m : Int) (k : Nat) = q k := by
  induction s with
  | zero => exact ⟨0, by simp, fun k hk => absurd hk (Nat.not_lt_zero _)⟩
  | succ s ih =>
    obtain ⟨m, hm, h⟩ := ih
    have e : 2 ^ (s + 1) = 2 ^ s + 2 ^ s := by rw [Nat.pow_succ]; omega
    cases hq : q s with
    | false =>
      refine ⟨m, by omega, fun k hk => ?_⟩
      by_cases ek : k = s
      · subst ek; rw [hq, hasB_bit]; exact Nat.testBit_lt_two_pow hm
      · exact h k (by omega)
    | true =>
      refine ⟨2 ^ s + m, by omega, fun k hk => ?_⟩
      rw [hasB_bit]
      by_cases ek : k = s
      · subst ek
        rw [Nat.testBit_two_pow_add_eq, Nat.testBit_lt_two_pow hm, hq]; rfl
      · rw [Nat.testBit_two_pow_add_gt (by omega), ← hasB_bit]
        exact h k (by omega)
theorem lessL_len {a b : List Int} : (lessL a b = true → a.length ≤ b.length) ∧ (lessL a b = false → b.length ≤ a.length) := by
  unfold lessL
  by_cases h : a.length = b.length
  · exact ⟨fun _ => by omega, fun _ => by omega⟩
  · rw [if_neg h]
    exact ⟨fun h2 => by have := of_decide_eq_true h2; omega, fun h2 => by have := of_decide_eq_false h2; omega⟩
/-- The best set: it explains the tests, and no set that does has fewer. -/
theorem best_set (s : Nat) (xs : List (Int × Int × Int)) (k : Nat) : ((bsL s xs k).2 = true → ∃ m : Nat, m < k ∧ (bsL s xs k).1 = ownL m s ∧ okA s (tfOf m) xs = true) ∧ (∀ m : Nat, m < k → okA s (tfOf m) xs = true → (bsL s xs k).2 = true ∧ (bsL s xs k).1.length ≤ (ownL m s).length) := by
  induction k with
  | zero => exact ⟨fun h => (by cases h), fun m hm => absurd hm (Nat.not_lt_zero _)⟩
  | succ k ih =>
    obtain ⟨i1, i2⟩ := ih
    by_cases hc : ((bsL s xs k).2 = false ∨ lessL (ownL k s) (bsL s xs k).1 = true) ∧ okA s (tfOf k) xs = true
    · rw [bsL_yes hc.1 hc.2]
      refine ⟨fun _ => ⟨k, by omega, rfl, hc.2⟩, fun m hm hok => ⟨rfl, ?_⟩⟩
      by_cases e : m = k
      · subst e; exact Nat.le_refl _
      · obtain ⟨j1, j2⟩ := i2 m (by omega) hok
        rcases hc.1 with h | h
        · rw [j1] at h; cases h
        · exact Nat.le_trans (lessL_len.1 h) j2
    · rw [bsL_no hc]
      refine ⟨fun h => ?_, fun m hm hok => ?_⟩
      · obtain ⟨m, h1, h2⟩ := i1 h
        exact ⟨m, by omega, h2⟩
      · by_cases e : m = k
        · subst e
          cases hb : (bsL s xs m).2 with
          | false => exact absurd ⟨.inl hb, hok⟩ hc
          | true =>
            refine ⟨rfl, ?_⟩
            cases hl : lessL (ownL m s) (bsL s xs m).1 with
            | true => exact absurd ⟨.inr hl, hok⟩ hc
            | false => exact lessL_len.2 hl
        · exact i2 m (by omega) hok
theorem edge_congr {tf tf' : Nat → Bool} (s : Nat) (h : ∀ k, k < s → tf k = tf' k) : edgeA tf s = edgeA tf' s := by
  induction s with
  | zero => rfl
  | succ s ih => simp only [edgeA]; rw [ih (fun k hk => h k (by omega)), h s (by omega)]
theorem okA_congr {s : Nat} {tf tf' : Nat → Bool} {xs : List (Int × Int × Int)} (h : ∀ k, k < s → tf k = tf' k) : okA s tf xs = okA s tf' xs := by
  unfold okA endA initA
  rw [edge_congr s h]

/-- How many of the first k places have a property. -/
def cntL (p : Nat → Bool) : Nat → Nat
  | 0 => 0
  | k + 1 => cntL p k + (if p k = true then 1 else 0)
theorem cnt_filterL (p : Nat → Bool) (n : Nat) : ((List.range n).filter p).length = cntL p n := by
  induction n with
  | zero => rfl
  | succ n ih =>
    rw [List.range_succ, List.filter_append, List.length_append, ih]
    show _ = cntL p n + (if p n = true then 1 else 0)
    by_cases h : p n = true
    · simp [h]
    · simp [h]
theorem cntL_mono {p q : Nat → Bool} {n : Nat} (h : ∀ k, k < n → p k = true → q k = true) : cntL p n ≤ cntL q n := by
  induction n with
  | zero => exact Nat.le_refl _
  | succ n ih =>
    have := ih (fun k hk => h k (by omega))
    simp only [cntL]
    by_cases hp : p n = true
    · rw [if_pos hp, if_pos (h n (by omega) hp)]; omega
    · rw [if_neg hp]; omega
theorem cntL_lt {p q : Nat → Bool} {n j : Nat} (h : ∀ k, k < n → p k = true → q k = true) (hj : j < n) (hp : p j = false) (hq : q j = true) : cntL p n < cntL q n := by
  induction n with
  | zero => omega
  | succ n ih =>
    simp only [cntL]
    by_cases e : j = n
    · subst e
      have := cntL_mono (n := j) (fun k hk => h k (by omega))
      rw [if_neg (by rw [hp]; decide), if_pos hq]; omega
    · have := ih (fun k hk => h k (by omega)) (by omega)
      by_cases hp2 : p n = true
      · rw [if_pos hp2, if_pos (h n (by omega) hp2)]; omega
      · rw [if_neg hp2]; omega
/-- All that FnLeaking says of the fewest leaks, the sure ones, the tight ones and the late ones. -/
theorem few_facts {s : Nat} (hs : s ≤ 9) {xs : List (Int × Int × Int)} (hx : fitT s xs) (hok : okA s openT xs = true) :
    ∃ m : Nat, (bsL s xs (2 ^ s)).1 = ownL m s ∧ (∀ k, k < s → 0 < valLow s xs k → hasB (m : Int) (k : Nat) = true) ∧ (∀ k, k < s → valHigh s xs k = 0 → hasB (m : Int) (k : Nat) = false) ∧
      (ownL m s).length ≤ (selL (fun k => decide (0 < valLate s xs k)) s).length := by
  have hI : INF = 1099511627776 := rfl
  obtain ⟨m0, hm0, hb0⟩ := set_of (fun _ => true) s
  have hok0 : okA s (tfOf m0) xs = true := by
    rw [okA_congr (tf' := openT) (fun k hk => by unfold tfOf openT; rw [hb0 k hk]; rfl)]
    exact hok
  obtain ⟨j1, j2⟩ := best_set s xs (2 ^ s)
  obtain ⟨m, hm, hown, hokm⟩ := j1 (j2 m0 hm0 hok0).1
  have hpm := late_pot hs (tfOf m) hx hokm
  generalize lateP s (tfOf m) xs = p at hpm
  have hmin : ∀ q : Nat → Bool, (∃ p', Pot s (fun k => !q k) xs p') → (ownL m s).length ≤ (selL q s).length := fun q hq => by
    obtain ⟨m', hm', hb'⟩ := set_of q s
    obtain ⟨p', hp'⟩ := hq
    have h1 : okA s (tfOf m') xs = true := by
      rw [okA_congr (tf' := fun k => !q k) (fun k hk => by unfold tfOf; rw [hb' k hk])]
      exact pot_ok hx hp'
    have := (j2 m' hm' h1).2
    rw [hown] at this
    have e : ownL m' s = selL q s := selL_congr hb'
    rw [e] at this
    exact this
  refine ⟨m, hown, fun k hk hl => ?_, fun k hk hh => ?_, ?_⟩
  · cases hb : hasB (m : Int) (k : Nat) with
    | true => rfl
    | false =>
      have t := hpm.tight k hk (by unfold tfOf; rw [hb]; rfl)
      have e := pot_end hx (pot_open hpm) (a := k + 1) (b := k) (by omega) (by omega)
      unfold valLow DA at hl
      rw [if_neg (by omega)] at hl
      omega
  · cases hb : hasB (m : Int) (k : Nat) with
    | false => rfl
    | true =>
      have e := pot_end hx (pot_open hpm) (a := k) (b := k + 1) (by omega) (by omega)
      have hz : endA s openT xs k (k + 1) ≤ 0 := by
        have hd : DA s xs k (k + 1) = endA s openT xs k (k + 1) := by unfold DA; rw [if_neg (by omega)]
        unfold valHigh at hh
        rw [hd] at hh
        by_cases hi : INF ≤ endA s openT xs k (k + 1)
        · rw [if_pos hi] at hh; omega
        · rw [if_neg hi] at hh; omega
      have hle := hmin (fun j => hasB (m : Int) (j : Nat) && !decide (j = k)) ⟨p, hpm.up, fun j hj ht => by
        by_cases ej : j = k
        · subst ej; omega
        · refine hpm.tight j hj ?_
          unfold tfOf
          rw [decide_eq_false ej] at ht
          simpa using ht, hpm.test, hpm.near⟩
      have hlt : (selL (fun j => hasB (m : Int) (j : Nat) && !decide (j = k)) s).length < (ownL m s).length := by
        unfold ownL selL
        rw [List.length_map, List.length_map, cnt_filterL, cnt_filterL]
        refine cntL_lt (j := k) (fun j _ h => by rw [Bool.and_eq_true] at h; exact h.1) hk (by simp) hb
      omega
  · refine hmin _ ⟨lateP s openT xs, ?_⟩
    have hp := late_pot hs openT hx hok
    refine ⟨hp.up, fun k hk ht => ?_, hp.test, hp.near⟩
    have hn : decide (0 < valLate s xs k) = false := by simpa using ht
    have := of_decide_eq_false hn
    rw [late_val] at this
    omega

end Go.Proofs.Ytpgnndpjlcihiaa
