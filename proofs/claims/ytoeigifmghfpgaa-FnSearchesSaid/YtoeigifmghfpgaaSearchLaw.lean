/-
  The search by worst prices: the worst price is met, the openings tell the section. In plain Lean, no program in sight.
-/
import Derived.Test.YtoeigifmghfpgaaMeanLaw
import Derived.Test.YtoeigifmghfpgaaNarrow
namespace Go.Proofs.Ytoeigifmghfpgaa
open Plain

/-- No section costs more than the worst price, and one costs it. -/
theorem worst_all (xs : List Int) : ∀ f lo hi, lo ≤ hi → hi - lo ≤ f → f ≤ 9 → (∀ s : Nat, lo ≤ s → s ≤ hi → (findR (bWorst xs) xs s f lo hi).2 ≤ (price (cWorst xs) f lo hi).1) ∧ ∃ s : Nat, lo ≤ s ∧ s ≤ hi ∧ (findR (bWorst xs) xs s f lo hi).2 = (price (cWorst xs) f lo hi).1 := by
  intro f
  induction f with
  | zero =>
    intro lo hi h1 h2 _
    obtain rfl : lo = hi := by omega
    refine ⟨fun s _ _ => ?_, lo, Nat.le_refl _, Nat.le_refl _, ?_⟩ <;> rw [price_none, findR_done _ _ _ _ _ _ (by omega)]
    exact Int.le_refl _
  | succ f ih =>
    intro lo hi h1 h2 h9
    by_cases h : lo < hi
    · obtain ⟨b1, b2, b3⟩ := bWorst_mem xs lo hi h
      rw [price_nine (cWorst xs) h2 h9] at b3
      rw [price_succ] at b3 ⊢
      rcases scan_cases (cost (cWorst xs) f lo hi) lo (hi - lo) with ⟨h0, _⟩ | ⟨k, _, _, hk⟩
      · omega
      · rw [hk] at b3 ⊢
        simp only at b3 ⊢
        have hkb : k = bWorst xs lo hi := by omega
        have hc : cost (cWorst xs) f lo hi k = xs.getD k 0 + max (price (cWorst xs) f lo k).1 (price (cWorst xs) f (k + 1) hi).1 := rfl
        rw [hc]
        obtain ⟨l1, s1, l2, l3, l4⟩ := ih lo k (by omega) (by omega) (by omega)
        obtain ⟨r1, s2, r2, r3, r4⟩ := ih (k + 1) hi (by omega) (by omega) (by omega)
        have step : ∀ s : Nat, lo ≤ s → s ≤ hi → (findR (bWorst xs) xs s (f + 1) lo hi).2 = if s ≤ k then xs.getD k 0 + (findR (bWorst xs) xs s f lo k).2 else xs.getD k 0 + (findR (bWorst xs) xs s f (k + 1) hi).2 := by
          intro s _ _
          simp only [findR, if_pos h, ← hkb]
          by_cases hs : s ≤ k
          · rw [if_pos hs, if_pos (by omega)]
          · rw [if_neg hs, if_neg (by omega)]
        refine ⟨fun s q1 q2 => ?_, ?_⟩
        · rw [step s q1 q2]
          split
          · have := l1 s q1 (by omega); omega
          · have := r1 s (by omega) q2; omega
        · by_cases hm : (price (cWorst xs) f (k + 1) hi).1 ≤ (price (cWorst xs) f lo k).1
          · refine ⟨s1, l2, by omega, ?_⟩
            rw [step s1 l2 (by omega), if_pos l3, l4]; omega
          · refine ⟨s2, by omega, r3, ?_⟩
            rw [step s2 (by omega) r3, if_neg (by omega), r4]; omega
    · obtain rfl : lo = hi := by omega
      refine ⟨fun s _ _ => ?_, lo, Nat.le_refl _, Nat.le_refl _, ?_⟩ <;> rw [price_none, findR_done _ _ _ _ _ _ (by omega)]
      exact Int.le_refl _
/-- The worst price of all: the first opening and the worse part. -/
theorem worst_parts (xs : List Int) {n : Nat} (h : 0 < n) (h9 : n ≤ 9) : (price (cWorst xs) 9 0 n).1 = xs.getD (bWorst xs 0 n) 0 + max (price (cWorst xs) 9 0 (bWorst xs 0 n)).1 (price (cWorst xs) 9 (bWorst xs 0 n + 1) n).1 := by
  obtain ⟨b1, b2, b3⟩ := bWorst_mem xs 0 n h
  have e : price (cWorst xs) 9 0 n = scan (cost (cWorst xs) 8 0 n) 0 (n - 0) := price_succ _ 8 0 n
  rcases scan_cases (cost (cWorst xs) 8 0 n) 0 (n - 0) with ⟨h0, _⟩ | ⟨k, _, _, hk⟩
  · omega
  · rw [e, hk] at b3
    simp only at b3
    have hkb : k = bWorst xs 0 n := by omega
    rw [e, hk, hkb]
    have e1 : price (cWorst xs) 9 0 (bWorst xs 0 n) = price (cWorst xs) 8 0 (bWorst xs 0 n) := price_nine _ (by omega) (by omega)
    have e2 : price (cWorst xs) 9 (bWorst xs 0 n + 1) n = price (cWorst xs) 8 (bWorst xs 0 n + 1) n := price_nine _ (by omega) (by omega)
    rw [e1, e2]
    rfl

/-- The openings of a search lie among the sections, tell the section, and cost what they cost. -/
theorem find_tells (xs : List Int) (s : Nat) : ∀ f lo hi, lo ≤ s → s ≤ hi → hi - lo ≤ f →
    (∀ x ∈ (findR (bWorst xs) xs s f lo hi).1, (lo : Int) ≤ x ∧ x < hi) ∧ (s = lo ∨ (s : Int) - 1 ∈ (findR (bWorst xs) xs s f lo hi).1) ∧ (s = hi ∨ (s : Int) ∈ (findR (bWorst xs) xs s f lo hi).1) ∧
      sumI ((findR (bWorst xs) xs s f lo hi).1.map fun x => xs.getD x.toNat 0) = (findR (bWorst xs) xs s f lo hi).2 := by
  intro f
  induction f with
  | zero =>
    intro lo hi h1 h2 h3
    exact ⟨fun x hx => by simp [findR] at hx, .inl (by omega), .inl (by omega), rfl⟩
  | succ f ih =>
    intro lo hi h1 h2 h3
    by_cases h : lo < hi
    · obtain ⟨b1, b2, _⟩ := bWorst_mem xs lo hi h
      simp only [findR, if_pos h]
      generalize bWorst xs lo hi = k at b1 b2
      by_cases hs : (s : Int) ≤ k
      · rw [if_pos hs]
        obtain ⟨i1, i2, i3, i4⟩ := ih lo k h1 (by omega) (by omega)
        refine ⟨fun x hx => ?_, ?_, ?_, ?_⟩
        · rcases List.mem_cons.1 hx with rfl | hx
          · omega
          · have := i1 x hx; omega
        · rcases i2 with i2 | i2
          · exact .inl i2
          · exact .inr (List.mem_cons_of_mem _ i2)
        · rcases i3 with i3 | i3
          · exact .inr (by rw [i3]; exact List.mem_cons_self)
          · exact .inr (List.mem_cons_of_mem _ i3)
        · simp only [List.map_cons, sumI_cons, i4, Int.toNat_natCast]
      · rw [if_neg hs]
        obtain ⟨i1, i2, i3, i4⟩ := ih (k + 1) hi (by omega) h2 (by omega)
        refine ⟨fun x hx => ?_, ?_, ?_, ?_⟩
        · rcases List.mem_cons.1 hx with rfl | hx
          · omega
          · have := i1 x hx; omega
        · rcases i2 with i2 | i2
          · exact .inr (by rw [show (s : Int) - 1 = k by omega]; exact List.mem_cons_self)
          · exact .inr (List.mem_cons_of_mem _ i2)
        · rcases i3 with i3 | i3
          · exact .inl i3
          · exact .inr (List.mem_cons_of_mem _ i3)
        · simp only [List.map_cons, sumI_cons, i4, Int.toNat_natCast]
    · rw [findR_done _ _ _ _ _ _ h]
      exact ⟨fun x hx => by simp at hx, .inl (by omega), .inl (by omega), rfl⟩

/-- The answer to an opening. -/
def ansOf (L : List Int) (s : Nat) (k : Nat) : Nat := if (k : Int) ∉ L then 63 else if s ≤ k then 60 else 62
theorem narrow_to (L : List Int) (s n : Nat) (b : ByteArray) (hs : s ≤ n) (hb : ∀ k, k < n → byteAt b k = ansOf L s k) : ∀ m, m ≤ n → ∃ lo hi : Int, narrow b n m = some (lo, hi) ∧ 0 ≤ lo ∧ lo ≤ s ∧ (s : Int) ≤ hi ∧ hi ≤ n ∧ ((s : Int) - 1 ∈ L → 1 ≤ s → s ≤ m → lo = s) ∧ ((s : Int) ∈ L → s < m → hi = s) := by
  intro m
  induction m with
  | zero => intro _; exact ⟨0, n, rfl, by omega, by omega, by omega, by omega, fun _ _ h => by omega, fun _ h => by omega⟩
  | succ m ih =>
    intro hm
    obtain ⟨lo, hi, h1, h2, h3, h4, h5, h6, h7⟩ := ih (by omega)
    have hbm := hb m (by omega)
    by_cases q : (m : Int) ∈ L
    · by_cases q2 : s ≤ m
      · have e : byteAt b m = 60 := by rw [hbm]; unfold ansOf; rw [if_neg (by simpa using q), if_pos q2]
        refine ⟨lo, min hi m, by simp only [narrow, h1, e]; rfl, h2, h3, by omega, by omega, fun a b c => h6 a b (by omega), fun a c => ?_⟩
        by_cases e2 : s = m
        · omega
        · have := h7 a (by omega); omega
      · have e : byteAt b m = 62 := by rw [hbm]; unfold ansOf; rw [if_neg (by simpa using q), if_neg q2]
        refine ⟨max lo (m + 1), hi, by simp only [narrow, h1, e]; rfl, by omega, by omega, h4, h5, fun a b c => ?_, fun a c => by omega⟩
        omega
    · have e : byteAt b m = 63 := by rw [hbm]; unfold ansOf; rw [if_pos q]
      refine ⟨lo, hi, by simp only [narrow, h1, e]; rfl, h2, h3, h4, h5, fun a b c => ?_, fun a c => ?_⟩
      · by_cases e2 : s = m + 1
        · exact absurd (by rw [e2] at a; simpa using a) q
        · exact h6 a b (by omega)
      · by_cases e2 : s = m
        · exact absurd (e2 ▸ a) q
        · exact h7 a (by omega)
/-- The answers to all openings of a search tell the section. -/
theorem narrow_end (xs : List Int) (s : Nat) (hs : s ≤ xs.length) (h9 : xs.length ≤ 9) (hok : okOpen xs = true) (b : ByteArray) (hbs : b.size = xs.length) (hb : ∀ k, k < xs.length → byteAt b k = ansOf (findR (bWorst xs) xs s 9 0 xs.length).1 s k) : valNarrow xs b = ((s : Int), (s : Int), 0) := by
  obtain ⟨_, t1, t2, _⟩ := find_tells xs s 9 0 xs.length (Nat.zero_le _) hs (by omega)
  obtain ⟨lo, hi, h1, h2, h3, h4, h5, h6, h7⟩ := narrow_to _ s xs.length b hs hb xs.length (Nat.le_refl _)
  have e1 : lo = s := by
    rcases t1 with t1 | t1
    · omega
    · by_cases h0 : s = 0
      · omega
      · exact h6 t1 (by omega) hs
  have e2 : hi = s := by
    rcases t2 with t2 | t2
    · omega
    · by_cases h0 : s = xs.length
      · omega
      · exact h7 t2 (by omega)
  unfold valNarrow
  rw [if_pos hok, if_pos hbs, h1]
  simp only
  rw [e1, e2, if_neg (by omega)]

end Go.Proofs.Ytoeigifmghfpgaa
