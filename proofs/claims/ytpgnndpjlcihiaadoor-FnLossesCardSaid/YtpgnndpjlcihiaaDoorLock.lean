/-
  The program's and the reference's least sums, entry by entry, side by side; in plain Lean. No program in sight.
-/
import Derived.Test.YtpgnndpjlcihiaaDoorStages
namespace Go.Proofs.YtpgnndpjlcihiaaDoor

/-- A table with one entry written. -/
def upd (f : Nat → Nat → Int) (i k : Nat) (x : Int) : Nat → Nat → Int := fun a b => if a = i ∧ b = k then x else f a b
theorem upd_at (f : Nat → Nat → Int) (i k : Nat) (x : Int) : upd f i k x i k = x := by simp [upd]
theorem upd_else (f : Nat → Nat → Int) (i k : Nat) (x : Int) (a b : Nat) (h : ¬ (a = i ∧ b = k)) : upd f i k x a b = f a b := by simp only [upd, if_neg h]

/-- More than all sums, in the reference. -/
def FAR : Int := 1000000

def stepA (g : Nat → Nat → Int) (m i k : Nat) : Nat → Nat → Int := if g i m < INF ∧ g m k < INF then upd g i k (min (g i k) (g i m + g m k)) else g
def colA (g : Nat → Nat → Int) (m i : Nat) : Nat → Nat → Nat → Int
  | 0 => g
  | k + 1 => stepA (colA g m i k) m i k
def rowA (n : Nat) (g : Nat → Nat → Int) (m : Nat) : Nat → Nat → Nat → Int
  | 0 => g
  | i + 1 => colA (rowA n g m i) m i n
def allA (n : Nat) (g : Nat → Nat → Int) : Nat → Nat → Nat → Int
  | 0 => g
  | m + 1 => rowA n (allA n g m) m n
def stepB (h : Nat → Nat → Int) (m i k : Nat) : Nat → Nat → Int := if h i m < FAR ∧ h m k < FAR then upd h i k (max (-FAR) (min (h i k) (h i m + h m k))) else h
def colB (h : Nat → Nat → Int) (m i : Nat) : Nat → Nat → Nat → Int
  | 0 => h
  | k + 1 => stepB (colB h m i k) m i k
def rowB (n : Nat) (h : Nat → Nat → Int) (m : Nat) : Nat → Nat → Nat → Int
  | 0 => h
  | i + 1 => colB (rowB n h m i) m i n
def allB (n : Nat) (h : Nat → Nat → Int) : Nat → Nat → Nat → Int
  | 0 => h
  | m + 1 => rowB n (allB n h m) m n
/-- A stage of the reference. -/
def parB (h : Nat → Nat → Int) (m : Nat) : Nat → Nat → Int := fun i k => if h i m < FAR ∧ h m k < FAR then max (-FAR) (min (h i k) (h i m + h m k)) else h i k

/-! ### entries one by one, or all at once -/
theorem colA_par {n m i : Nat} {g g0 : Nat → Nat → Int} (hm : m < n) (hi : i < n) (h0 : 0 ≤ g0 m m) (hg : ∀ a b, a < n → b < n → g a b = if a < i then par g0 m a b else g0 a b) :
    ∀ k, k ≤ n → ∀ a b, a < n → b < n → colA g m i k a b = if a < i ∨ (a = i ∧ b < k) then par g0 m a b else g0 a b := by
  intro k
  induction k with
  | zero => intro _ a b ha hb; simp only [colA]; rw [hg a b ha hb]; simp
  | succ k ih =>
    intro hk a b ha hb
    have IH := ih (by omega)
    have e1 : colA g m i k i m = g0 i m := by
      rw [IH i m hi hm]; split
      · exact par_col g0 m i h0
      · rfl
    have e2 : colA g m i k m k = g0 m k := by
      rw [IH m k hm (by omega)]; split
      · exact par_row g0 m k h0
      · rfl
    have e3 : colA g m i k i k = g0 i k := by rw [IH i k hi (by omega), if_neg (by omega)]
    simp only [colA, stepA, e1, e2, e3]
    by_cases hab : a = i ∧ b = k
    · obtain ⟨rfl, rfl⟩ := hab
      rw [if_pos (show a < a ∨ a = a ∧ b < b + 1 by omega)]
      unfold par
      split
      · exact upd_at _ _ _ _
      · exact e3
    · have : (if g0 i m < INF ∧ g0 m k < INF then upd (colA g m i k) i k (min (g0 i k) (g0 i m + g0 m k)) else colA g m i k) a b = colA g m i k a b := by
        split
        · exact upd_else _ _ _ _ _ _ hab
        · rfl
      rw [this, IH a b ha hb]
      by_cases hv : a < i ∨ (a = i ∧ b < k)
      · rw [if_pos hv, if_pos (by omega)]
      · rw [if_neg hv, if_neg (by omega)]
theorem rowA_par {n m : Nat} {g0 g : Nat → Nat → Int} (hm : m < n) (h0 : 0 ≤ g0 m m) (hg : ∀ a b, a < n → b < n → g a b = g0 a b) :
    ∀ i, i ≤ n → ∀ a b, a < n → b < n → rowA n g m i a b = if a < i then par g0 m a b else g0 a b := by
  intro i
  induction i with
  | zero => intro _ a b ha hb; simp only [rowA]; rw [hg a b ha hb]; simp
  | succ i ih =>
    intro hi a b ha hb
    simp only [rowA]
    rw [colA_par hm (by omega) h0 (ih (by omega)) n (Nat.le_refl _) a b ha hb]
    by_cases hv : a < i ∨ (a = i ∧ b < n)
    · rw [if_pos hv, if_pos (by omega)]
    · rw [if_neg hv, if_neg (by omega)]

theorem parB_col {h : Nat → Nat → Int} {m i : Nat} (h0 : h m m = 0) (hl : -FAR ≤ h i m) : parB h m i m = h i m := by
  unfold parB; rw [h0]; split <;> omega
theorem parB_row {h : Nat → Nat → Int} {m k : Nat} (h0 : h m m = 0) (hl : -FAR ≤ h m k) : parB h m m k = h m k := by
  unfold parB; rw [h0]; split <;> omega
theorem colB_par {n m i : Nat} {g g0 : Nat → Nat → Int} (hm : m < n) (hi : i < n) (h0 : g0 m m = 0) (hl : ∀ a b, a < n → b < n → -FAR ≤ g0 a b) (hg : ∀ a b, a < n → b < n → g a b = if a < i then parB g0 m a b else g0 a b) :
    ∀ k, k ≤ n → ∀ a b, a < n → b < n → colB g m i k a b = if a < i ∨ (a = i ∧ b < k) then parB g0 m a b else g0 a b := by
  intro k
  induction k with
  | zero => intro _ a b ha hb; simp only [colB]; rw [hg a b ha hb]; simp
  | succ k ih =>
    intro hk a b ha hb
    have IH := ih (by omega)
    have e1 : colB g m i k i m = g0 i m := by
      rw [IH i m hi hm]; split
      · exact parB_col h0 (hl i m hi hm)
      · rfl
    have e2 : colB g m i k m k = g0 m k := by
      rw [IH m k hm (by omega)]; split
      · exact parB_row h0 (hl m k hm (by omega))
      · rfl
    have e3 : colB g m i k i k = g0 i k := by rw [IH i k hi (by omega), if_neg (by omega)]
    simp only [colB, stepB, e1, e2, e3]
    by_cases hab : a = i ∧ b = k
    · obtain ⟨rfl, rfl⟩ := hab
      rw [if_pos (show a < a ∨ a = a ∧ b < b + 1 by omega)]
      unfold parB
      split
      · exact upd_at _ _ _ _
      · exact e3
    · have : (if g0 i m < FAR ∧ g0 m k < FAR then upd (colB g m i k) i k (max (-FAR) (min (g0 i k) (g0 i m + g0 m k))) else colB g m i k) a b = colB g m i k a b := by
        split
        · exact upd_else _ _ _ _ _ _ hab
        · rfl
      rw [this, IH a b ha hb]
      by_cases hv : a < i ∨ (a = i ∧ b < k)
      · rw [if_pos hv, if_pos (by omega)]
      · rw [if_neg hv, if_neg (by omega)]
theorem rowB_par {n m : Nat} {g0 g : Nat → Nat → Int} (hm : m < n) (h0 : g0 m m = 0) (hl : ∀ a b, a < n → b < n → -FAR ≤ g0 a b) (hg : ∀ a b, a < n → b < n → g a b = g0 a b) :
    ∀ i, i ≤ n → ∀ a b, a < n → b < n → rowB n g m i a b = if a < i then parB g0 m a b else g0 a b := by
  intro i
  induction i with
  | zero => intro _ a b ha hb; simp only [rowB]; rw [hg a b ha hb]; simp
  | succ i ih =>
    intro hi a b ha hb
    simp only [rowB]
    rw [colB_par hm (by omega) h0 hl (ih (by omega)) n (Nat.le_refl _) a b ha hb]
    by_cases hv : a < i ∨ (a = i ∧ b < n)
    · rw [if_pos hv, if_pos (by omega)]
    · rw [if_neg hv, if_neg (by omega)]

/-! ### what is less than none stays so -/
theorem stepA_le (g : Nat → Nat → Int) (m i k a b : Nat) : stepA g m i k a b ≤ g a b := by
  unfold stepA
  split
  · by_cases hab : a = i ∧ b = k
    · obtain ⟨rfl, rfl⟩ := hab; rw [upd_at]; omega
    · rw [upd_else _ _ _ _ _ _ hab]; exact Int.le_refl _
  · exact Int.le_refl _
theorem colA_le (g : Nat → Nat → Int) (m i k a b : Nat) : colA g m i k a b ≤ g a b := by
  induction k with
  | zero => exact Int.le_refl _
  | succ k ih => exact Int.le_trans (stepA_le _ _ _ _ _ _) ih
theorem rowA_le (n : Nat) (g : Nat → Nat → Int) (m i a b : Nat) : rowA n g m i a b ≤ g a b := by
  induction i with
  | zero => exact Int.le_refl _
  | succ i ih => exact Int.le_trans (colA_le _ _ _ _ _ _) ih
theorem stepB_neg {h : Nat → Nat → Int} (m i k : Nat) {a b : Nat} (hn : h a b < 0) : stepB h m i k a b < 0 := by
  have hF : FAR = 1000000 := rfl
  unfold stepB
  split
  · by_cases hab : a = i ∧ b = k
    · obtain ⟨rfl, rfl⟩ := hab; rw [upd_at]; omega
    · rw [upd_else _ _ _ _ _ _ hab]; exact hn
  · exact hn
theorem colB_neg {h : Nat → Nat → Int} (m i k : Nat) {a b : Nat} (hn : h a b < 0) : colB h m i k a b < 0 := by
  induction k with
  | zero => exact hn
  | succ k ih => exact stepB_neg _ _ _ ih
theorem rowB_neg (n : Nat) {h : Nat → Nat → Int} (m i : Nat) {a b : Nat} (hn : h a b < 0) : rowB n h m i a b < 0 := by
  induction i with
  | zero => exact hn
  | succ i ih => exact colB_neg _ _ _ ih

/-! ### side by side -/
/-- The same table, as both keep it. -/
def same (n : Nat) (g h : Nat → Nat → Int) : Prop := ∀ a b, a < n → b < n → (a ≠ b → (g a b = INF ∧ h a b = FAR) ∨ (g a b = h a b ∧ -110000 ≤ h a b ∧ h a b ≤ 110000)) ∧ (a = b → h a b = 0)
/-- Both know that nothing explains the tests. -/
def bad (n : Nat) (g h : Nat → Nat → Int) : Prop := (∃ a, a < n ∧ g a a < 0) ∧ ∃ a, a < n ∧ h a a < 0

theorem side_by_side {n : Nat} (hn : n ≤ 10) {w h : Nat → Nat → Int} (hw : small w) (hd : ∀ a, a < n → 0 ≤ w a a) (hs : same n w h) : ∀ m, m ≤ n →
    (fine w m ∧ (∀ a, a < n → 0 ≤ stg w m a a) ∧ (∀ a b, a < n → b < n → allA n w m a b = stg w m a b) ∧ same n (stg w m) (allB n h m)) ∨ bad n (allA n w m) (allB n h m) := by
  intro m
  have hI : INF = 1099511627776 := rfl
  have hF : FAR = 1000000 := rfl
  induction m with
  | zero => intro _; left; exact ⟨fun j hj => absurd hj (Nat.not_lt_zero _), hd, fun _ _ _ _ => rfl, hs⟩
  | succ m ih =>
    intro hm
    rcases ih (by omega) with ⟨h1, h2, h3, h4⟩ | ⟨⟨a, ha, h1⟩, b, hb, h2⟩
    · have hm0 := h2 m (by omega)
      have hB0 : allB n h m m m = 0 := (h4 m m (by omega) (by omega)).2 rfl
      have hfine : fine w (m + 1) := fun j hj => by
        by_cases e : j = m
        · subst e; exact hm0
        · exact h1 j (by omega)
      have hl : ∀ a b, a < n → b < n → -FAR ≤ allB n h m a b := fun a b ha hb => by
        by_cases e : a = b
        · rw [(h4 a b ha hb).2 e]; omega
        · rcases (h4 a b ha hb).1 e with ⟨_, h5⟩ | ⟨_, h5, _⟩ <;> omega
      have eA : ∀ a b, a < n → b < n → allA n w (m + 1) a b = stg w (m + 1) a b := fun a b ha hb => by
        show rowA n (allA n w m) m n a b = _
        rw [rowA_par (by omega) hm0 h3 n (Nat.le_refl _) a b ha hb, if_pos ha]; rfl
      have eB : ∀ a b, a < n → b < n → allB n h (m + 1) a b = parB (allB n h m) m a b := fun a b ha hb => by
        show rowB n (allB n h m) m n a b = _
        rw [rowB_par (by omega) hB0 hl (fun _ _ _ _ => rfl) n (Nat.le_refl _) a b ha hb, if_pos ha]
      -- entries through m
      have hat : ∀ a b, a < n → b < n → (stg w m a m < INF ∧ stg w m m b < INF → allB n h m a m < FAR ∧ allB n h m m b < FAR ∧ (a ≠ m → m ≠ b → allB n h m a m = stg w m a m ∧ allB n h m m b = stg w m m b ∧ -220000 ≤ stg w m a m + stg w m m b ∧ stg w m a m + stg w m m b ≤ 220000)) ∧
          (¬ (stg w m a m < INF ∧ stg w m m b < INF) → a ≠ m → m ≠ b → ¬ (allB n h m a m < FAR ∧ allB n h m m b < FAR)) := fun a b ha hb => by
        have q1 := h4 a m ha (by omega)
        have q2 := h4 m b (by omega) hb
        refine ⟨fun hh => ⟨?_, ?_, fun ne1 ne2 => ?_⟩, fun hh ne1 ne2 => ?_⟩
        · by_cases e : a = m
          · rw [q1.2 e]; omega
          · rcases q1.1 e with ⟨h5, _⟩ | ⟨_, _, h5⟩ <;> omega
        · by_cases e : m = b
          · rw [q2.2 e]; omega
          · rcases q2.1 e with ⟨h5, _⟩ | ⟨_, _, h5⟩ <;> omega
        · rcases q1.1 ne1 with ⟨h5, _⟩ | ⟨h5, h6, h7⟩ <;> rcases q2.1 ne2 with ⟨h8, _⟩ | ⟨h8, h9, h10⟩ <;> omega
        · rcases q1.1 ne1 with ⟨h5, h5'⟩ | ⟨h5, h6, h7⟩ <;> rcases q2.1 ne2 with ⟨h8, h8'⟩ | ⟨h8, h9, h10⟩ <;> omega
      by_cases hneg : ∀ a, a < n → 0 ≤ stg w (m + 1) a a
      · left
        refine ⟨hfine, hneg, eA, fun a b ha hb => ⟨fun hab => ?_, fun hab => ?_⟩⟩
        · rw [eB a b ha hb]
          have hq := (h4 a b ha hb).1 hab
          by_cases e1 : a = m
          · subst e1
            rw [show stg w (a + 1) a b = stg w a a b from par_row _ _ _ hm0, parB_row hB0 (hl a b ha hb)]
            exact hq
          · by_cases e2 : m = b
            · subst e2
              rw [show stg w (m + 1) a m = stg w m a m from par_col _ _ _ hm0, parB_col hB0 (hl a m ha hb)]
              exact hq
            · obtain ⟨g1, g2⟩ := hat a b ha hb
              have ht := fun (hh : stg w (m + 1) a b < INF) => stg_tight hw (show m + 1 ≤ 10 by omega) hfine hab hh
              change par (stg w m) m a b < INF → -110000 ≤ par (stg w m) m a b ∧ par (stg w m) m a b ≤ 110000 at ht
              show (par (stg w m) m a b = INF ∧ parB (allB n h m) m a b = FAR) ∨ (par (stg w m) m a b = parB (allB n h m) m a b ∧ _ ≤ parB (allB n h m) m a b ∧ parB (allB n h m) m a b ≤ _)
              by_cases hh : stg w m a m < INF ∧ stg w m m b < INF
              · obtain ⟨k1, k2, k3⟩ := g1 hh
                obtain ⟨k4, k5, k6, k7⟩ := k3 e1 e2
                have eP : par (stg w m) m a b = min (stg w m a b) (stg w m a m + stg w m m b) := by unfold par; rw [if_pos hh]
                have eQ : parB (allB n h m) m a b = max (-FAR) (min (allB n h m a b) (stg w m a m + stg w m m b)) := by unfold parB; rw [if_pos ⟨k1, k2⟩, k4, k5]
                rw [eP] at ht ⊢
                rw [eQ]
                rcases hq with ⟨q1, q2⟩ | ⟨q1, q2, q3⟩
                · rw [q1] at ht ⊢
                  rw [q2]
                  have := ht (by omega)
                  omega
                · rw [q1] at ht ⊢
                  have := ht (by omega)
                  omega
              · have k1 := g2 hh e1 e2
                have eP : par (stg w m) m a b = stg w m a b := by unfold par; rw [if_neg hh]
                have eQ : parB (allB n h m) m a b = allB n h m a b := by unfold parB; rw [if_neg k1]
                rw [eP, eQ]
                exact hq
        · subst hab
          rw [eB a a ha ha]
          have hz := (h4 a a ha ha).2 rfl
          by_cases e1 : a = m
          · subst e1; rw [parB_col hB0 (hl a a ha ha)]; exact hz
          · obtain ⟨g1, g2⟩ := hat a a ha ha
            have hp := hneg a ha
            change 0 ≤ par (stg w m) m a a at hp
            by_cases hh : stg w m a m < INF ∧ stg w m m a < INF
            · obtain ⟨k1, k2, k3⟩ := g1 hh
              obtain ⟨k4, k5, k6, k7⟩ := k3 e1 (fun e => e1 e.symm)
              have eP : par (stg w m) m a a = min (stg w m a a) (stg w m a m + stg w m m a) := by unfold par; rw [if_pos hh]
              rw [eP] at hp
              unfold parB
              rw [if_pos ⟨k1, k2⟩, k4, k5, hz]
              omega
            · have k1 := g2 hh e1 (fun e => e1 e.symm)
              unfold parB
              rw [if_neg k1]; exact hz
      · right
        have hneg' : ∃ a, a < n ∧ stg w (m + 1) a a < 0 := Classical.byContradiction fun hc => hneg fun a ha => Classical.byContradiction fun hc2 => hc ⟨a, ha, by omega⟩
        obtain ⟨a, ha, hna⟩ := hneg'
        refine ⟨⟨a, ha, by rw [eA a a ha ha]; exact hna⟩, a, ha, ?_⟩
        rw [eB a a ha ha]
        have hz := (h4 a a ha ha).2 rfl
        have h2a := h2 a ha
        change par (stg w m) m a a < 0 at hna
        have e1 : a ≠ m := by
          rintro rfl
          rw [par_col _ _ _ hm0] at hna
          omega
        obtain ⟨g1, g2⟩ := hat a a ha ha
        by_cases hh : stg w m a m < INF ∧ stg w m m a < INF
        · obtain ⟨k1, k2, k3⟩ := g1 hh
          obtain ⟨k4, k5, k6, k7⟩ := k3 e1 (fun e => e1 e.symm)
          have eP : par (stg w m) m a a = min (stg w m a a) (stg w m a m + stg w m m a) := by unfold par; rw [if_pos hh]
          rw [eP] at hna
          unfold parB
          rw [if_pos ⟨k1, k2⟩, k4, k5, hz]
          omega
        · have eP : par (stg w m) m a a = stg w m a a := by unfold par; rw [if_neg hh]
          rw [eP] at hna
          omega
    · right
      exact ⟨⟨a, ha, by have := rowA_le n (allA n w m) m n a a; show rowA n (allA n w m) m n a a < 0; omega⟩, b, hb, rowB_neg n m n h2⟩

/-! ### how great entries become, whatever happens -/
/-- No entry is below -x. -/
def low (n : Nat) (x : Int) (g : Nat → Nat → Int) : Prop := ∀ a b, a < n → b < n → g a b ≤ INF ∧ -x ≤ g a b
/-- Within stage m, at row i and column k. -/
def mid (n : Nat) (x : Int) (m i k : Nat) (g : Nat → Nat → Int) : Prop := ∀ a b, a < n → b < n → g a b ≤ INF ∧ -(6 * x) ≤ g a b ∧ (a = m ∨ b = m → -(3 * x) ≤ g a b) ∧ (a = m → b = m → -(2 * x) ≤ g a b) ∧ (¬ (a < i ∨ (a = i ∧ b < k)) → -x ≤ g a b)
theorem mid_start {n : Nat} {x : Int} (hx : 0 ≤ x) {g : Nat → Nat → Int} (h : low n x g) (m : Nat) : mid n x m 0 0 g := fun a b ha hb => by
  have := h a b ha hb
  exact ⟨this.1, by omega, fun _ => by omega, fun _ _ => by omega, fun _ => this.2⟩
theorem mid_row {n : Nat} {x : Int} {m i : Nat} {g : Nat → Nat → Int} (h : mid n x m i n g) : mid n x m (i + 1) 0 g := fun a b ha hb => by
  obtain ⟨h1, h2, h3, h4, h5⟩ := h a b ha hb
  exact ⟨h1, h2, h3, h4, fun hv => h5 (by omega)⟩
theorem mid_end {n : Nat} {x : Int} {m : Nat} {g : Nat → Nat → Int} (h : mid n x m n 0 g) : low n (6 * x) g := fun a b ha hb => ⟨(h a b ha hb).1, (h a b ha hb).2.1⟩
theorem mid_step {n : Nat} {x : Int} (hx : 0 ≤ x) {m i k : Nat} (hm : m < n) (hi : i < n) (hk : k < n) {g : Nat → Nat → Int} (h : mid n x m i k g) : mid n x m i (k + 1) (stepA g m i k) := fun a b ha hb => by
  have q := h a b ha hb
  have q1 := h i m hi hm
  have q2 := h m k hm hk
  have q3 := h i k hi hk
  by_cases hab : a = i ∧ b = k
  · obtain ⟨rfl, rfl⟩ := hab
    have old : -x ≤ g a b := q3.2.2.2.2 (by omega)
    unfold stepA
    split
    · rw [upd_at]
      by_cases e1 : a = m
      · subst e1
        by_cases e2 : b = a
        · subst e2
          exact ⟨by omega, by omega, fun _ => by omega, fun _ _ => by omega, fun hv => absurd (.inr ⟨rfl, by omega⟩) hv⟩
        · have s1 := q1.2.2.2.1 rfl rfl
          exact ⟨by omega, by omega, fun _ => by omega, fun _ e => absurd e e2, fun hv => absurd (.inr ⟨rfl, by omega⟩) hv⟩
      · by_cases e2 : b = m
        · subst e2
          have s1 := q2.2.2.2.1 rfl rfl
          exact ⟨by omega, by omega, fun _ => by omega, fun e _ => absurd e e1, fun hv => absurd (.inr ⟨rfl, by omega⟩) hv⟩
        · have s1 := q1.2.2.1 (.inr rfl)
          have s2 := q2.2.2.1 (.inl rfl)
          exact ⟨by omega, by omega, fun e => by omega, fun e _ => absurd e e1, fun hv => absurd (.inr ⟨rfl, by omega⟩) hv⟩
    · exact ⟨q.1, q.2.1, q.2.2.1, q.2.2.2.1, fun hv => absurd (.inr ⟨rfl, by omega⟩) hv⟩
  · have e : stepA g m i k a b = g a b := by
      unfold stepA
      split
      · exact upd_else _ _ _ _ _ _ hab
      · rfl
    rw [e]
    exact ⟨q.1, q.2.1, q.2.2.1, q.2.2.2.1, fun hv => q.2.2.2.2 (by omega)⟩
theorem colA_mid {n : Nat} {x : Int} (hx : 0 ≤ x) {m i : Nat} (hm : m < n) (hi : i < n) {g : Nat → Nat → Int} (h : mid n x m i 0 g) (k : Nat) (hk : k ≤ n) : mid n x m i k (colA g m i k) := by
  induction k with
  | zero => exact h
  | succ k ih => exact mid_step hx hm hi (by omega) (ih (by omega))
theorem rowA_mid {n : Nat} {x : Int} (hx : 0 ≤ x) {m : Nat} (hm : m < n) {g : Nat → Nat → Int} (h : low n x g) (i : Nat) (hi : i ≤ n) : mid n x m i 0 (rowA n g m i) := by
  induction i with
  | zero => exact mid_start hx h m
  | succ i ih => exact mid_row (colA_mid hx hm (by omega) (ih (by omega)) n (Nat.le_refl _))
theorem allA_low {n : Nat} {g : Nat → Nat → Int} (h : low n 10000 g) (m : Nat) (hm : m ≤ n) : low n (10000 * 6 ^ m) (allA n g m) := by
  induction m with
  | zero => simpa [allA] using h
  | succ m ih =>
    have hp : (0 : Int) < 6 ^ m := Int.pow_pos (by omega)
    have h1 := mid_end (rowA_mid (show (0 : Int) ≤ 10000 * 6 ^ m by omega) (show m < n by omega) (ih (by omega)) n (Nat.le_refl _))
    have e : (10000 * 6 ^ (m + 1) : Int) = 6 * (10000 * 6 ^ m) := by rw [Int.pow_succ]; omega
    rw [e]; exact h1

/-- No entry of the reference leaves its bounds. -/
def lowB (n : Nat) (h : Nat → Nat → Int) : Prop := ∀ a b, a < n → b < n → -FAR ≤ h a b ∧ h a b ≤ FAR
theorem stepB_low {n : Nat} {h : Nat → Nat → Int} (hl : lowB n h) (m i k : Nat) : lowB n (stepB h m i k) := fun a b ha hb => by
  have hF : FAR = 1000000 := rfl
  have q := hl a b ha hb
  unfold stepB
  split
  · by_cases hab : a = i ∧ b = k
    · obtain ⟨rfl, rfl⟩ := hab; rw [upd_at]; omega
    · rw [upd_else _ _ _ _ _ _ hab]; exact q
  · exact q
theorem colB_low {n : Nat} {h : Nat → Nat → Int} (hl : lowB n h) (m i k : Nat) : lowB n (colB h m i k) := by
  induction k with
  | zero => exact hl
  | succ k ih => exact stepB_low ih m i k
theorem rowB_low {n : Nat} {h : Nat → Nat → Int} (hl : lowB n h) (m i : Nat) : lowB n (rowB n h m i) := by
  induction i with
  | zero => exact hl
  | succ i ih => exact colB_low ih m i n
theorem allB_low {n : Nat} {h : Nat → Nat → Int} (hl : lowB n h) (m : Nat) : lowB n (allB n h m) := by
  induction m with
  | zero => exact hl
  | succ m ih => exact rowB_low ih m n

end Go.Proofs.YtpgnndpjlcihiaaDoor
