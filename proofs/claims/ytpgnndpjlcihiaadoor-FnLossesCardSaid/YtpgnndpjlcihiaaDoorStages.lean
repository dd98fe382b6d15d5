/-
  Least sums of ways, by stages (one more place to go through at each), in plain Lean. No program in sight.
-/
import Derived.Test.YtpgnndpjlcihiaaDoorPigeon
namespace Go.Proofs.YtpgnndpjlcihiaaDoor

/-- More than all sums: no way. -/
def INF : Int := 1099511627776

/-- A stage: ways may go through m too. -/
def par (d : Nat → Nat → Int) (m : Nat) : Nat → Nat → Int := fun i k => if d i m < INF ∧ d m k < INF then min (d i k) (d i m + d m k) else d i k
def stg (w : Nat → Nat → Int) : Nat → Nat → Nat → Int
  | 0 => w
  | m + 1 => par (stg w m) m

theorem par_le (d : Nat → Nat → Int) (m i k : Nat) : par d m i k ≤ d i k := by
  unfold par; split <;> omega
theorem par_through (d : Nat → Nat → Int) (m i k : Nat) (h1 : d i m < INF) (h2 : d m k < INF) : par d m i k ≤ d i m + d m k := by
  unfold par; rw [if_pos ⟨h1, h2⟩]; omega
theorem par_cases (d : Nat → Nat → Int) (m i k : Nat) : par d m i k = d i k ∨ (d i m < INF ∧ d m k < INF ∧ d i m + d m k < d i k ∧ par d m i k = d i m + d m k) := by
  unfold par
  split
  · rename_i h
    by_cases h2 : d i k ≤ d i m + d m k
    · left; omega
    · right; exact ⟨h.1, h.2, by omega, by omega⟩
  · left; rfl
theorem par_col (d : Nat → Nat → Int) (m i : Nat) (h : 0 ≤ d m m) : par d m i m = d i m := by
  rcases par_cases d m i m with h1 | ⟨_, _, h1, _⟩
  · exact h1
  · omega
theorem par_row (d : Nat → Nat → Int) (m k : Nat) (h : 0 ≤ d m m) : par d m m k = d m k := by
  rcases par_cases d m m k with h1 | ⟨_, _, h1, _⟩
  · exact h1
  · omega

/-- The weights: none, or small. -/
def small (w : Nat → Nat → Int) : Prop := ∀ i k, w i k ≤ INF ∧ (w i k < INF → -10000 ≤ w i k ∧ w i k ≤ 10000)

theorem stg_bound {w : Nat → Nat → Int} (hw : small w) (m i k : Nat) : stg w m i k ≤ INF ∧ (stg w m i k < INF → -(10000 * 2 ^ m) ≤ stg w m i k ∧ stg w m i k ≤ 10000 * 2 ^ m) := by
  induction m generalizing i k with
  | zero => have := hw i k; simpa [stg] using this
  | succ m ih =>
    have e : (2 : Int) ^ (m + 1) = 2 * 2 ^ m := by rw [Int.pow_succ]; omega
    have hp : (0 : Int) < 2 ^ m := Int.pow_pos (by omega)
    show par (stg w m) m i k ≤ INF ∧ (par (stg w m) m i k < INF → _ ≤ par (stg w m) m i k ∧ par (stg w m) m i k ≤ _)
    have h1 := ih i k
    rcases par_cases (stg w m) m i k with h | ⟨h2, h3, h4, h⟩
    · rw [h, e]; omega
    · have h5 := (ih i m).2 h2
      have h6 := (ih m k).2 h3
      rw [h, e]
      omega
theorem pow10 {m : Nat} (h : m ≤ 10) : (2 : Int) ^ m ≤ 1024 := by
  rcases (by omega : m = 0 ∨ m = 1 ∨ m = 2 ∨ m = 3 ∨ m = 4 ∨ m = 5 ∨ m = 6 ∨ m = 7 ∨ m = 8 ∨ m = 9 ∨ m = 10) with rfl | rfl | rfl | rfl | rfl | rfl | rfl | rfl | rfl | rfl | rfl <;> decide +kernel
theorem stg_small {w : Nat → Nat → Int} (hw : small w) {m : Nat} (hm : m ≤ 10) {i k : Nat} (h : stg w m i k < INF) : -10240000 ≤ stg w m i k ∧ stg w m i k ≤ 10240000 := by
  have h1 := (stg_bound hw m i k).2 h
  have := pow10 hm
  omega
theorem stg_le (w : Nat → Nat → Int) (m i k : Nat) : stg w m i k ≤ w i k := by
  induction m with
  | zero => exact Int.le_refl _
  | succ m ih => exact Int.le_trans (par_le _ _ _ _) ih

/-- No way back to a place is less than none, as far as the stages went. -/
def fine (w : Nat → Nat → Int) (m : Nat) : Prop := ∀ j, j < m → 0 ≤ stg w j j j

theorem stg_tri {w : Nat → Nat → Int} (hw : small w) : ∀ {m : Nat}, m ≤ 10 → fine w m → ∀ {v : Nat}, v < m → ∀ {i k : Nat}, stg w m i v < INF → stg w m v k < INF → stg w m i k ≤ stg w m i v + stg w m v k := by
  intro m
  induction m with
  | zero => intro _ _ v hv; omega
  | succ m ih =>
    intro hm hf v hv i k h1 h2
    have hfm : 0 ≤ stg w m m m := hf m (by omega)
    have T : ∀ {v : Nat}, v < m → ∀ {i k : Nat}, stg w m i v < INF → stg w m v k < INF → stg w m i k ≤ stg w m i v + stg w m v k := fun {v} hv {i k} a b => ih (by omega) (fun j hj => hf j (by omega)) hv a b
    have S := fun {i k : Nat} (h : stg w m i k < INF) => stg_small hw (show m ≤ 10 by omega) h
    show par (stg w m) m i k ≤ par (stg w m) m i v + par (stg w m) m v k
    change par (stg w m) m i v < INF at h1
    change par (stg w m) m v k < INF at h2
    generalize hd : stg w m = d at *
    have hI : INF = 1099511627776 := rfl
    by_cases hvm : v = m
    · subst hvm
      rw [par_col d v i hfm] at h1 ⊢
      rw [par_row d v k hfm] at h2 ⊢
      exact par_through d v i k h1 h2
    · have hv' : v < m := by omega
      have hle := par_le d m i k
      rcases par_cases d m i v with e1 | ⟨a1, a2, a3, e1⟩
      · rcases par_cases d m v k with e2 | ⟨b1, b2, b3, e2⟩
        · rw [e1] at h1 ⊢
          rw [e2] at h2 ⊢
          exact Int.le_trans hle (T hv' h1 h2)
        · rw [e1] at h1 ⊢
          rw [e2]
          have t1 := T (i := i) (k := m) hv' h1 b1
          have s1 := S h1
          have s2 := S b1
          have := par_through d m i k (by omega) b2
          omega
      · rcases par_cases d m v k with e2 | ⟨b1, b2, b3, e2⟩
        · rw [e1]
          rw [e2] at h2 ⊢
          have t1 := T (i := m) (k := k) hv' a2 h2
          have s1 := S a2
          have s2 := S h2
          have := par_through d m i k a1 (by omega)
          omega
        · rw [e1, e2]
          have t1 := T (i := m) (k := m) hv' a2 b1
          have := par_through d m i k a1 b2
          omega

/-- The sum of a way from i to k through the places l. -/
def pw (w : Nat → Nat → Int) : Nat → List Nat → Nat → Int
  | i, [], k => w i k
  | i, v :: l, k => w i v + pw w v l k
/-- Is it a way? -/
def isWay (w : Nat → Nat → Int) : Nat → List Nat → Nat → Prop
  | i, [], k => w i k < INF
  | i, v :: l, k => w i v < INF ∧ isWay w v l k
theorem pw_split (w : Nat → Nat → Int) (i : Nat) (l1 : List Nat) (v : Nat) (l2 : List Nat) (k : Nat) : pw w i (l1 ++ v :: l2) k = pw w i l1 v + pw w v l2 k := by
  induction l1 generalizing i with
  | nil => rfl
  | cons a l1 ih => simp only [List.cons_append, pw, ih]; omega
theorem way_split (w : Nat → Nat → Int) (i : Nat) (l1 : List Nat) (v : Nat) (l2 : List Nat) (k : Nat) : isWay w i (l1 ++ v :: l2) k ↔ isWay w i l1 v ∧ isWay w v l2 k := by
  induction l1 generalizing i with
  | nil => exact Iff.rfl
  | cons a l1 ih => simp only [List.cons_append, isWay, ih, and_assoc]
theorem pw_bound {w : Nat → Nat → Int} (hw : small w) (i : Nat) (l : List Nat) (k : Nat) (h : isWay w i l k) : -(10000 * (l.length + 1)) ≤ pw w i l k ∧ pw w i l k ≤ 10000 * (l.length + 1) := by
  induction l generalizing i with
  | nil => have := (hw i k).2 h; simpa [pw] using this
  | cons v l ih =>
    have h1 := (hw i v).2 h.1
    have h2 := ih v h.2
    simp only [pw, List.length_cons]
    omega

theorem stg_opt {w : Nat → Nat → Int} (hw : small w) {m : Nat} (hm : m ≤ 10) (hf : fine w m) (l : List Nat) : ∀ (i k : Nat), (∀ v ∈ l, v < m) → isWay w i l k → stg w m i k ≤ pw w i l k ∧ stg w m i k < INF := by
  induction l with
  | nil =>
    intro i k _ h
    have h1 := stg_le w m i k
    have h2 : w i k < INF := h
    exact ⟨h1, by omega⟩
  | cons v l ih =>
    intro i k hl h
    have h1 := stg_le w m i v
    have h2 : w i v < INF := h.1
    have h3 : stg w m i v < INF := by omega
    obtain ⟨h4, h5⟩ := ih v k (fun u hu => hl u (by simp [hu])) h.2
    have h6 := stg_tri hw hm hf (hl v (by simp)) h3 h5
    have h7 := stg_small hw hm h3
    have h8 := stg_small hw hm h5
    have hI : INF = 1099511627776 := rfl
    simp only [pw]
    omega

theorem stg_path {w : Nat → Nat → Int} (hw : small w) : ∀ {m : Nat}, m ≤ 10 → fine w m → ∀ {i k : Nat}, i ≠ k → stg w m i k < INF → ∃ l : List Nat, l.Nodup ∧ (∀ v ∈ l, v < m) ∧ i ∉ l ∧ k ∉ l ∧ isWay w i l k ∧ stg w m i k = pw w i l k := by
  intro m
  induction m with
  | zero => intro _ _ i k _ h; exact ⟨[], List.nodup_nil, by simp, by simp, by simp, h, rfl⟩
  | succ m ih =>
    intro hm hf i k hik h
    have hfm : 0 ≤ stg w m m m := hf m (by omega)
    have hf' : fine w m := fun j hj => hf j (by omega)
    have hm' : m ≤ 10 := by omega
    change par (stg w m) m i k < INF at h
    rcases par_cases (stg w m) m i k with e | ⟨h1, h2, h3, e⟩
    · rw [e] at h
      obtain ⟨l, l1, l2, l3, l4, l5, l6⟩ := ih hm' hf' hik h
      refine ⟨l, l1, fun v hv => by have := l2 v hv; omega, l3, l4, l5, ?_⟩
      show par (stg w m) m i k = _
      rw [e, l6]
    · have him : i ≠ m := by rintro rfl; omega
      have hmk : m ≠ k := by rintro rfl; omega
      obtain ⟨a, a1, a2, a3, a4, a5, a6⟩ := ih hm' hf' him h1
      obtain ⟨b, b1, b2, b3, b4, b5, b6⟩ := ih hm' hf' hmk h2
      have spl : ∀ {x y : Nat} {l : List Nat} {v : Nat}, (∀ u ∈ l, u < m) → isWay w x l y → v ∈ l → stg w m x v < INF ∧ stg w m v y < INF ∧ stg w m x v + stg w m v y ≤ pw w x l y := by
        intro x y l v hl hw' hv
        obtain ⟨s, t, rfl⟩ := List.append_of_mem hv
        rw [way_split] at hw'
        obtain ⟨o1, o2⟩ := stg_opt hw hm' hf' s x v (fun u hu => hl u (by simp [hu])) hw'.1
        obtain ⟨o3, o4⟩ := stg_opt hw hm' hf' t v y (fun u hu => hl u (by simp [hu])) hw'.2
        rw [pw_split]
        exact ⟨o2, o4, by omega⟩
      have hib : i ∉ b := fun hc => by
        obtain ⟨o1, o2, o3⟩ := spl b2 b5 hc
        have := stg_tri hw hm' hf' (b2 i hc) o1 h1
        omega
      have hka : k ∉ a := fun hc => by
        obtain ⟨o1, o2, o3⟩ := spl a2 a5 hc
        have := stg_tri hw hm' hf' (a2 k hc) h2 o2
        omega
      have hab : ∀ v ∈ a, v ∉ b := fun v ha hb => by
        obtain ⟨o1, o2, o3⟩ := spl a2 a5 ha
        obtain ⟨o4, o5, o6⟩ := spl b2 b5 hb
        have t1 := stg_tri hw hm' hf' (a2 v ha) o4 o2
        have t2 := stg_tri hw hm' hf' (a2 v ha) o1 o5
        omega
      refine ⟨a ++ m :: b, ?_, ?_, ?_, ?_, ?_, ?_⟩
      · rw [List.nodup_append]
        refine ⟨a1, List.nodup_cons.2 ⟨fun hc => by have := b2 m hc; omega, b1⟩, ?_⟩
        intro x hx y hy e2
        subst e2
        rcases List.mem_cons.1 hy with rfl | hy
        · have := a2 _ hx; omega
        · exact hab x hx hy
      · intro v hv
        rcases List.mem_append.1 hv with hv | hv
        · have := a2 v hv; omega
        · rcases List.mem_cons.1 hv with rfl | hv
          · omega
          · have := b2 v hv; omega
      · intro hc
        rcases List.mem_append.1 hc with hc | hc
        · exact a3 hc
        · rcases List.mem_cons.1 hc with hc | hc
          · exact him hc
          · exact hib hc
      · intro hc
        rcases List.mem_append.1 hc with hc | hc
        · exact hka hc
        · rcases List.mem_cons.1 hc with hc | hc
          · exact hmk hc.symm
          · exact b4 hc
      · rw [way_split]; exact ⟨a5, b5⟩
      · show par (stg w m) m i k = _
        rw [e, pw_split, a6, b6]

/-- As long as no way back is less than none, sums are small. -/
theorem stg_tight {w : Nat → Nat → Int} (hw : small w) {m : Nat} (hm : m ≤ 10) (hf : fine w m) {i k : Nat} (hik : i ≠ k) (h : stg w m i k < INF) : -110000 ≤ stg w m i k ∧ stg w m i k ≤ 110000 := by
  obtain ⟨l, l1, l2, _, _, l5, l6⟩ := stg_path hw hm hf hik h
  have h1 := nodup_le m l l1 l2
  have h2 := pw_bound hw i l k l5
  rw [l6]
  omega

end Go.Proofs.YtpgnndpjlcihiaaDoor
