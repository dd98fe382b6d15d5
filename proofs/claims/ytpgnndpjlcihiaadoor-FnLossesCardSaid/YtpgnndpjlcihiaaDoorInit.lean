/-
  The first tables of both sides, out of the tests; and what both sides know of them at the end. In plain Lean, no program in sight.
-/
import Derived.Test.YtpgnndpjlcihiaaDoorLock
namespace Go.Proofs.YtpgnndpjlcihiaaDoor

/-- An entry becomes no greater than x. -/
def boundF (f : Nat → Nat → Int) (i k : Nat) (x : Int) : Nat → Nat → Int := upd f i k (min (f i k) x)
/-- The bounds that need no test: leaks are none or more, tight sections have none. -/
def edgeA (tf : Nat → Bool) : Nat → Nat → Nat → Int
  | 0 => fun _ _ => INF
  | k + 1 => if tf k then boundF (boundF (edgeA tf k) (k + 1) k 0) k (k + 1) 0 else boundF (edgeA tf k) (k + 1) k 0
/-- A test's two bounds. -/
def testF (f : Nat → Nat → Int) (x : Int × Int × Int) : Nat → Nat → Int := boundF (boundF f x.1.toNat x.2.1.toNat x.2.2) x.2.1.toNat x.1.toNat (-x.2.2)
def testsF (f : Nat → Nat → Int) (xs : List (Int × Int × Int)) : Nat → Nat → Int := xs.foldl testF f
def edgeB (s : Nat) (tf : Nat → Bool) : Nat → Nat → Int := fun i k => if k = i ∨ k + 1 = i ∨ (i + 1 = k ∧ i < s ∧ tf i = true) then 0 else FAR
def initA (s : Nat) (tf : Nat → Bool) (xs : List (Int × Int × Int)) : Nat → Nat → Int := testsF (edgeA tf s) xs
def initB (s : Nat) (tf : Nat → Bool) (xs : List (Int × Int × Int)) : Nat → Nat → Int := testsF (edgeB s tf) xs

theorem edgeA_val (tf : Nat → Bool) (m : Nat) : ∀ a b, edgeA tf m a b = if (b + 1 = a ∧ b < m) ∨ (a + 1 = b ∧ a < m ∧ tf a = true) then 0 else INF := by
  have hI : INF = 1099511627776 := rfl
  induction m with
  | zero => intro a b; simp [edgeA]
  | succ m ih =>
    intro a b
    have e1 : boundF (edgeA tf m) (m + 1) m 0 a b = if a = m + 1 ∧ b = m then 0 else edgeA tf m a b := by
      by_cases h : a = m + 1 ∧ b = m
      · obtain ⟨rfl, rfl⟩ := h
        rw [if_pos ⟨rfl, rfl⟩]
        unfold boundF
        rw [upd_at, ih, if_neg (by omega)]; omega
      · rw [if_neg h]; unfold boundF; exact upd_else _ _ _ _ _ _ h
    simp only [edgeA]
    cases ht : tf m with
    | false =>
      simp only [Bool.false_eq_true, if_false]
      rw [e1, ih]
      by_cases h : a = m + 1 ∧ b = m
      · rw [if_pos h, if_pos (by omega)]
      · rw [if_neg h]
        by_cases h2 : (b + 1 = a ∧ b < m) ∨ (a + 1 = b ∧ a < m ∧ tf a = true)
        · rw [if_pos h2, if_pos (by rcases h2 with h3 | h3; · exact .inl ⟨h3.1, by omega⟩
                                    · exact .inr ⟨h3.1, by omega, h3.2.2⟩)]
        · rw [if_neg h2, if_neg]
          rintro (h3 | ⟨h3, h4, h5⟩)
          · exact h2 (.inl ⟨h3.1, by omega⟩)
          · by_cases h6 : a = m
            · subst h6; rw [ht] at h5; simp at h5
            · exact h2 (.inr ⟨h3, by omega, h5⟩)
    | true =>
      simp only [if_true]
      by_cases h : a = m ∧ b = m + 1
      · obtain ⟨rfl, rfl⟩ := h
        rw [if_pos (.inr ⟨rfl, by omega, ht⟩)]
        rw [show boundF (boundF (edgeA tf a) (a + 1) a 0) a (a + 1) 0 a (a + 1) = min (boundF (edgeA tf a) (a + 1) a 0 a (a + 1)) 0 from upd_at _ _ _ _]
        have : boundF (edgeA tf a) (a + 1) a 0 a (a + 1) = INF := by
          rw [show boundF (edgeA tf a) (a + 1) a 0 a (a + 1) = edgeA tf a a (a + 1) from upd_else _ _ _ _ _ _ (by omega), ih, if_neg (by omega)]
        rw [this]; omega
      · rw [show boundF (boundF (edgeA tf m) (m + 1) m 0) m (m + 1) 0 a b = boundF (edgeA tf m) (m + 1) m 0 a b from upd_else _ _ _ _ _ _ h, e1, ih]
        by_cases h1 : a = m + 1 ∧ b = m
        · rw [if_pos h1, if_pos (by omega)]
        · rw [if_neg h1]
          by_cases h2 : (b + 1 = a ∧ b < m) ∨ (a + 1 = b ∧ a < m ∧ tf a = true)
          · rw [if_pos h2, if_pos (by rcases h2 with h3 | h3; · exact .inl ⟨h3.1, by omega⟩
                                      · exact .inr ⟨h3.1, by omega, h3.2.2⟩)]
          · rw [if_neg h2, if_neg]
            rintro (h3 | ⟨h3, h4, h5⟩)
            · exact h2 (.inl ⟨h3.1, by omega⟩)
            · by_cases h6 : a = m
              · exact h (by omega)
              · exact h2 (.inr ⟨h3, by omega, h5⟩)

/-- The two first tables, alike. -/
def alike (n : Nat) (g h : Nat → Nat → Int) : Prop := small g ∧ (∀ a, 0 ≤ g a a) ∧ ∀ a b, a < n → b < n → (a ≠ b → (g a b = INF ∧ h a b = FAR) ∨ (g a b = h a b ∧ -10000 ≤ h a b ∧ h a b ≤ 10000)) ∧ (a = b → h a b = 0)

theorem alike_bound {n : Nat} {g h : Nat → Nat → Int} (H : alike n g h) (i k : Nat) (hi : i < n) (hk : k < n) (hik : i ≠ k) (x : Int) (hx : -10000 ≤ x ∧ x ≤ 10000) : alike n (boundF g i k x) (boundF h i k x) := by
  have hI : INF = 1099511627776 := rfl
  have hF : FAR = 1000000 := rfl
  obtain ⟨h1, h2, h3⟩ := H
  refine ⟨fun a b => ?_, fun a => ?_, fun a b ha hb => ?_⟩
  · by_cases e : a = i ∧ b = k
    · obtain ⟨rfl, rfl⟩ := e
      have := h1 a b
      unfold boundF
      rw [upd_at]
      omega
    · have := h1 a b
      unfold boundF
      rw [upd_else _ _ _ _ _ _ e]
      exact this
  · have e : ¬ (a = i ∧ a = k) := by omega
    unfold boundF
    rw [upd_else _ _ _ _ _ _ e]
    exact h2 a
  · by_cases e : a = i ∧ b = k
    · obtain ⟨rfl, rfl⟩ := e
      refine ⟨fun _ => .inr ?_, fun hc => absurd hc hik⟩
      unfold boundF
      rw [upd_at, upd_at]
      rcases (h3 a b ha hb).1 hik with ⟨q1, q2⟩ | ⟨q1, q2, q3⟩
      · rw [q1, q2]; omega
      · rw [q1]; omega
    · unfold boundF
      rw [upd_else _ _ _ _ _ _ e, upd_else _ _ _ _ _ _ e]
      exact h3 a b ha hb

theorem alike_edge (s : Nat) (tf : Nat → Bool) : alike (s + 1) (edgeA tf s) (edgeB s tf) := by
  have hI : INF = 1099511627776 := rfl
  refine ⟨fun a b => ?_, fun a => ?_, fun a b ha hb => ?_⟩
  · rw [edgeA_val]; split <;> omega
  · rw [edgeA_val]; split <;> omega
  · rw [edgeA_val]
    unfold edgeB
    refine ⟨fun hab => ?_, fun hab => by rw [if_pos (.inl hab.symm)]⟩
    by_cases h : (b + 1 = a ∧ b < s) ∨ (a + 1 = b ∧ a < s ∧ tf a = true)
    · rw [if_pos h, if_pos (by rcases h with h | h; · exact .inr (.inl h.1)
                               · exact .inr (.inr h))]
      right; omega
    · rw [if_neg h, if_neg]
      · exact .inl ⟨rfl, rfl⟩
      · rintro (h3 | h3 | h3)
        · exact hab h3.symm
        · exact h (.inl ⟨h3, by omega⟩)
        · exact h (.inr h3)

/-- Valid tests of s sections. -/
def fitT (s : Nat) (xs : List (Int × Int × Int)) : Prop := ∀ x ∈ xs, 0 ≤ x.1 ∧ x.1 < x.2.1 ∧ x.2.1 ≤ s ∧ 0 ≤ x.2.2 ∧ x.2.2 ≤ 10000
theorem alike_tests {s : Nat} {xs : List (Int × Int × Int)} (hx : fitT s xs) : ∀ {g h : Nat → Nat → Int}, alike (s + 1) g h → alike (s + 1) (testsF g xs) (testsF h xs) := by
  induction xs with
  | nil => intro g h H; exact H
  | cons x xs ih =>
    intro g h H
    have q := hx x (by simp)
    refine ih (fun y hy => hx y (by simp [hy])) ?_
    unfold testF
    refine alike_bound (alike_bound H _ _ (by omega) (by omega) (by omega) _ (by omega)) _ _ (by omega) (by omega) (by omega) _ (by omega)
theorem alike_init {s : Nat} (tf : Nat → Bool) {xs : List (Int × Int × Int)} (hx : fitT s xs) : alike (s + 1) (initA s tf xs) (initB s tf xs) := alike_tests hx (alike_edge s tf)

/-- What the program's table says at the end, and the reference's. -/
def endA (s : Nat) (tf : Nat → Bool) (xs : List (Int × Int × Int)) : Nat → Nat → Int := allA (s + 1) (initA s tf xs) (s + 1)
def endB (s : Nat) (tf : Nat → Bool) (xs : List (Int × Int × Int)) : Nat → Nat → Int := allB (s + 1) (initB s tf xs) (s + 1)
/-- Does anything explain the tests? -/
def okA (s : Nat) (tf : Nat → Bool) (xs : List (Int × Int × Int)) : Bool := (List.range (s + 1)).all fun a => decide (0 ≤ endA s tf xs a a)
def okB (s : Nat) (tf : Nat → Bool) (xs : List (Int × Int × Int)) : Bool := (List.range (s + 1)).all fun a => decide (0 ≤ endB s tf xs a a)

theorem end_cases {s : Nat} (hs : s ≤ 9) (tf : Nat → Bool) {xs : List (Int × Int × Int)} (hx : fitT s xs) :
    (okA s tf xs = true ∧ okB s tf xs = true ∧ ∀ a b, a < s + 1 → b < s + 1 → (a ≠ b → (endA s tf xs a b = INF ∧ endB s tf xs a b = FAR) ∨ (endA s tf xs a b = endB s tf xs a b ∧ -110000 ≤ endB s tf xs a b ∧ endB s tf xs a b ≤ 110000)) ∧ (a = b → endB s tf xs a b = 0)) ∨
    (okA s tf xs = false ∧ okB s tf xs = false) := by
  obtain ⟨h1, h2, h3⟩ := alike_init tf hx
  have hsame : same (s + 1) (initA s tf xs) (initB s tf xs) := fun a b ha hb => by
    obtain ⟨q1, q2⟩ := h3 a b ha hb
    refine ⟨fun hab => ?_, q2⟩
    rcases q1 hab with q | ⟨q, q', q''⟩
    · exact .inl q
    · exact .inr ⟨q, by omega, by omega⟩
  rcases side_by_side (show s + 1 ≤ 10 by omega) h1 (fun a _ => h2 a) hsame (s + 1) (Nat.le_refl _) with ⟨_, k2, k3, k4⟩ | ⟨⟨a, ha, k1⟩, b, hb, k2⟩
  · left
    refine ⟨?_, ?_, fun a b ha hb => ?_⟩
    · unfold okA endA
      rw [List.all_eq_true]
      intro a ha
      have ha' := List.mem_range.1 ha
      rw [k3 a a ha' ha']
      exact decide_eq_true (k2 a ha')
    · unfold okB endB
      rw [List.all_eq_true]
      intro a ha
      have ha' := List.mem_range.1 ha
      rw [(k4 a a ha' ha').2 rfl]
      rfl
    · unfold endA endB
      rw [k3 a b ha hb]
      exact k4 a b ha hb
  · right
    constructor
    · unfold okA endA
      rw [List.all_eq_false]
      exact ⟨a, List.mem_range.2 ha, by simp only [decide_eq_true_eq]; omega⟩
    · unfold okB endB
      rw [List.all_eq_false]
      exact ⟨b, List.mem_range.2 hb, by simp only [decide_eq_true_eq]; omega⟩
theorem ok_same {s : Nat} (hs : s ≤ 9) (tf : Nat → Bool) {xs : List (Int × Int × Int)} (hx : fitT s xs) : okA s tf xs = okB s tf xs := by
  rcases end_cases hs tf hx with ⟨h1, h2, _⟩ | ⟨h1, h2⟩ <;> rw [h1, h2]

/-- No entry of the program's first table is below -10000. -/
theorem init_low {s : Nat} (tf : Nat → Bool) {xs : List (Int × Int × Int)} (hx : fitT s xs) : low (s + 1) 10000 (initA s tf xs) := fun a b _ _ => by
  have hI : INF = 1099511627776 := rfl
  have := (alike_init tf hx).1 a b
  omega
theorem initB_low {s : Nat} (tf : Nat → Bool) {xs : List (Int × Int × Int)} (hx : fitT s xs) : lowB (s + 1) (initB s tf xs) := fun a b ha hb => by
  have hF : FAR = 1000000 := rfl
  obtain ⟨q1, q2⟩ := (alike_init tf hx).2.2 a b ha hb
  by_cases e : a = b
  · rw [q2 e]; omega
  · rcases q1 e with ⟨_, h⟩ | ⟨_, h, h'⟩ <;> omega

end Go.Proofs.YtpgnndpjlcihiaaDoor
