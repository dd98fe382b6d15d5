/-
  What trials of real switches show of them. In plain Lean, no program in sight.
-/
import Derived.Test.YtejnfngnofilfaaRunPlain
import Derived.Test.YtejnfngnofilfaaNextPlain
import Derived.Test.YtejnfngnofilfaaRuns
import Derived.Test.YtejnfngnofilfaaContrary
namespace Go.Proofs.Ytejnfngnofilfaa
open Go.RowKit

/-- What a switch has shown is true of it. -/
def trueOf (xs : List (Int × Int)) (v : Int) (s : B4) : Prop := (s.1 = true → sideF xs v ≠ 1) ∧ (s.2.1 = true → sideF xs v ≠ 0) ∧ (s.2.2.1 = true → sideF xs v = 0) ∧ (s.2.2.2 = true → sideF xs v = 1)
theorem true_hit {d : Int} {xs : List (Int × Int)} (h : okStuck d xs = true) {v : Int} {s : B4} (hs : trueOf xs v s) (dg : Int) (hd : 0 ≤ dg ∧ dg ≤ 1) : trueOf xs v (hit s (goes xs v dg == 1) (dg != goes xs v dg)) := by
  have hb := sideF_bound h v
  obtain ⟨a, b, c, e⟩ := s
  obtain ⟨h1, h2, h3, h4⟩ := hs
  simp only at h1 h2 h3 h4
  unfold trueOf hit goes
  by_cases hn : sideF xs v < 0
  · rw [if_pos hn]
    by_cases g : dg = 1
    · subst g
      exact ⟨h1, fun _ => by omega, h3, fun q => by simpa using h4 (by simpa using q)⟩
    · have g0 : dg = 0 := by omega
      subst g0
      exact ⟨fun _ => by omega, h2, fun q => by simpa using h3 (by simpa using q), h4⟩
  · rw [if_neg hn]
    by_cases g : sideF xs v = 1
    · rw [g]
      exact ⟨fun q => by have := h1 q; omega, fun _ => by omega, fun q => by have := h3 q; omega, fun _ => rfl⟩
    · have g0 : sideF xs v = 0 := by omega
      rw [g0]
      exact ⟨fun _ => by omega, fun q => by have := h2 q; omega, fun _ => rfl, fun q => by have := h4 q; omega⟩
def allTrue (xs : List (Int × Int)) (st : List B4) : Prop := ∀ v : Nat, trueOf xs v (st.getD v z4)
theorem allTrue_start (xs : List (Int × Int)) (m : Nat) : allTrue xs (List.replicate m z4) := fun v => by
  have : (List.replicate m z4).getD v z4 = z4 := by simp [List.getD, List.getElem?_replicate]; split <;> rfl
  rw [this]
  exact ⟨fun h => by simp [z4] at h, fun h => by simp [z4] at h, fun h => by simp [z4] at h, fun h => by simp [z4] at h⟩
theorem allTrue_set {xs : List (Int × Int)} {st : List B4} (h : allTrue xs st) (v : Nat) (s : B4) (hs : trueOf xs v s) : allTrue xs (st.set v s) := fun u => by
  by_cases e : v = u
  · subst e
    by_cases hl : v < st.length
    · have : (st.set v s).getD v z4 = s := by simp [List.getD, hl]
      rw [this]; exact hs
    · rw [List.set_eq_of_length_le (by omega)]; exact h v
  · have : (st.set v s).getD u z4 = st.getD u z4 := by simp [List.getD, List.getElem?_set, e]
    rw [this]; exact h u
theorem allTrue_trial {n : Nat} {xs : List (Int × Int)} (h : okStuck n xs = true) (a : Int) {st : List B4} (hst : allTrue xs st) : ∀ k, k ≤ n → allTrue xs (trialTo n (a, runE n xs a) st k) := by
  intro k
  induction k with
  | zero => intro _; exact hst
  | succ k ih =>
    intro hk
    rw [trialTo_succ]
    have i := ih (by omega)
    unfold stepS
    simp only
    have hw := way_run h a k (by omega)
    have hd := dig_run h a k (by omega)
    have hb := runAt_pow h a k
    have hp := pow_pos1 k
    obtain ⟨V, hV⟩ : ∃ V : Nat, runAt n xs a k = V := ⟨(runAt n xs a k).toNat, by omega⟩
    rw [hw, hd, hV, Int.toNat_natCast]
    exact allTrue_set i V _ (true_hit h (i V) _ (dig_01 _ _ _))
theorem allTrue_runs {n : Nat} {xs : List (Int × Int)} (h : okStuck n xs = true) (ys : List Int) : allTrue xs (seenTo n (runs n xs ys)) := by
  unfold seenTo runs
  have h0 := allTrue_start xs (2 ^ (n : Int).toNat)
  generalize List.replicate (2 ^ (n : Int).toNat) z4 = st at h0
  induction ys generalizing st with
  | nil => exact h0
  | cons y ys ih => exact ih _ (allTrue_trial h y h0 n (Nat.le_refl _))
theorem true_noClash {xs : List (Int × Int)} {v : Int} {s : B4} (h : trueOf xs v s) : clash4 s = false := by
  obtain ⟨a, b, c, e⟩ := s
  obtain ⟨h1, h2, h3, h4⟩ := h
  simp only at h1 h2 h3 h4
  cases a <;> cases b <;> cases c <;> cases e <;> simp_all [clash4]
theorem runs_noClash {n : Nat} {xs : List (Int × Int)} (h : okStuck n xs = true) (ys : List Int) : clashes n (runs n xs ys) = false := by
  unfold clashes
  rw [List.any_eq_false]
  intro s hs
  obtain ⟨j, hj, rfl⟩ := List.getElem_of_mem hs
  have := true_noClash (allTrue_runs h ys j)
  simpa [List.getD, hj] using this
theorem runs_take (n : Int) (xs : List (Int × Int)) (ys : List Int) (k : Nat) : (runs n xs ys).take k = runs n xs (ys.take k) := by simp [runs, List.map_take]
/-- A letter tells the side. -/
theorem letter_true {d : Int} {xs : List (Int × Int)} (h : okStuck d xs = true) {v : Int} {s : B4} (hs : trueOf xs v s) :
    (wrong4 s = true ↔ letter4 s = 48 ∨ letter4 s = 49) ∧ (letter4 s = 48 → sideF xs v = 0) ∧ (letter4 s = 49 → sideF xs v = 1) ∧ (letter4 s = 119 → sideF xs v = -1) ∧ (letter4 s = 97 → sideF xs v ≠ 1) ∧ (letter4 s = 98 → sideF xs v ≠ 0) := by
  have hb := sideF_bound h v
  obtain ⟨a, b, c, e⟩ := s
  obtain ⟨h1, h2, h3, h4⟩ := hs
  simp only at h1 h2 h3 h4
  cases a <;> cases b <;> cases c <;> cases e <;> simp_all [letter4, wrong4] <;> omega
/-- Which switches the fewest ones name. -/
theorem few_told (st : List B4) (k v : Nat) (hv : v < k) : ((fewTo st k).any fun p => p.1 == (v : Int)) = wrong4 (st.getD v z4) := by
  rw [Bool.eq_iff_iff, List.any_eq_true]
  unfold fewTo
  constructor
  · rintro ⟨p, hp, he⟩
    obtain ⟨u, hu, rfl⟩ := List.mem_map.1 hp
    obtain ⟨h1, h2⟩ := List.mem_filter.1 hu
    have : u = v := by simp only [beq_iff_eq] at he; omega
    rw [← this]; exact h2
  · intro hw
    exact ⟨((v : Int), side4 (st.getD v z4)), List.mem_map.2 ⟨v, List.mem_filter.2 ⟨List.mem_range.2 hv, hw⟩, rfl⟩, by simp⟩

/-! ### a trial with all digits turned clashes with its own -/
theorem stepS_keeps {d : Int} {t : Int × Int} {st : List B4} {k v : Nat} (h : (wayAt d t.2 k).toNat ≠ v) : (stepS d t st k).getD v z4 = st.getD v z4 := by
  unfold stepS
  simp [List.getD, List.getElem?_set, h]
/-- The first switch is on the way once. -/
theorem trial_root {n : Nat} (t : Int × Int) {st : List B4} (hl : 1 < st.length) (k : Nat) (hk : 1 ≤ k) : (trialTo n t st k).getD 1 z4 = hit (st.getD 1 z4) (dig n t.2 0 == 1) (dig n t.1 0 != dig n t.2 0) := by
  induction k with
  | zero => omega
  | succ k ih =>
    rw [trialTo_succ]
    by_cases h0 : k = 0
    · subst h0
      show ((st.set (wayAt n t.2 0).toNat _).getD 1 z4) = _
      have : (wayAt n t.2 0).toNat = 1 := rfl
      simp only [this]
      have e0 : trialTo (n : Int) t st 0 = st := rfl
      rw [e0]
      simp [List.getD, hl]
    · rw [stepS_keeps, ih (by omega)]
      have hp := wayAt_pow n t.2 k
      have h2 : (2 : Int) ≤ 2 ^ k := by
        obtain ⟨m, rfl⟩ : ∃ m, k = m + 1 := ⟨k - 1, by omega⟩
        have := pow_pos1 m
        rw [Int.pow_succ]; omega
      omega

def ledTo (s : B4) (g : Int) : Bool := if g = 1 then s.2.1 else s.1
theorem led_keeps (s : B4) (g : Int) (one wr : Bool) (h : ledTo s g = true) : ledTo (hit s one wr) g = true := by
  obtain ⟨a, b, c, e⟩ := s
  unfold ledTo at *
  cases one <;> by_cases hg : g = 1 <;> simp_all [hit]
theorem led_hit (s : B4) (g : Int) (hg : 0 ≤ g ∧ g ≤ 1) (wr : Bool) : ledTo (hit s (g == 1) wr) g = true := by
  obtain ⟨a, b, c, e⟩ := s
  unfold ledTo
  rcases (by omega : g = 0 ∨ g = 1) with rfl | rfl <;> simp [hit]
theorem seen_len (n : Nat) (ts : List (Int × Int)) : (seenTo n ts).length = 2 ^ n := by
  unfold seenTo
  have h0 : (List.replicate (2 ^ (n : Int).toNat) z4).length = 2 ^ n := by simp
  generalize List.replicate (2 ^ (n : Int).toNat) z4 = st at h0
  induction ts generalizing st with
  | nil => exact h0
  | cons t ts ih => exact ih _ (by rw [trialTo_length]; exact h0)
theorem seen_root {n : Nat} (hn : 1 ≤ n) (ts : List (Int × Int)) (t : Int × Int) : (seenTo n (ts ++ [t])).getD 1 z4 = hit ((seenTo n ts).getD 1 z4) (dig n t.2 0 == 1) (dig n t.1 0 != dig n t.2 0) := by
  rw [seenTo_snoc, Int.toNat_natCast]
  refine trial_root t ?_ n hn
  rw [seen_len]
  obtain ⟨m, rfl⟩ : ∃ m, n = m + 1 := ⟨n - 1, by omega⟩
  have := Nat.one_le_two_pow (n := m)
  rw [Nat.pow_succ]; omega
theorem root_holds {n : Nat} (hn : 1 ≤ n) (x : Int × Int) : ∀ (ts : List (Int × Int)) (l : List (Int × Int)), ts = l.reverse → x ∈ ts → ledTo ((seenTo n ts).getD 1 z4) (dig n x.2 0) = true ∧ (dig n x.1 0 ≠ dig n x.2 0 → wrong4 ((seenTo n ts).getD 1 z4) = true) := by
  intro ts l
  induction l generalizing ts with
  | nil => intro e hx; subst e; simp at hx
  | cons t l ih =>
    intro e hx
    have e2 : ts = l.reverse ++ [t] := by rw [e]; simp
    rw [e2] at hx ⊢
    rw [seen_root hn]
    rcases List.mem_append.1 hx with hx | hx
    · obtain ⟨i1, i2⟩ := ih l.reverse rfl hx
      exact ⟨led_keeps _ _ _ _ i1, fun h => by rw [wrong_hit, i2 h]; rfl⟩
    · rw [List.mem_singleton.1 hx]
      exact ⟨led_hit _ _ (dig_01 _ _ _) _, fun h => by rw [wrong_hit]; simp [h]⟩
theorem dig_turned {n e : Nat} (hn : 1 ≤ n ∧ n ≤ 4) (he : e < 2 ^ n) : dig n ((2 : Int) ^ n - 1 - e) 0 = 1 - dig n e 0 := by
  have h4 := pow4 hn.2
  have key : ∀ n : Fin 5, ∀ e : Fin 16, 1 ≤ n.val → e.val < 2 ^ n.val → dig (n.val : Int) ((2 : Int) ^ n.val - 1 - (e.val : Int)) 0 = 1 - dig (n.val : Int) (e.val : Int) 0 := by decide +kernel
  exact key ⟨n, by omega⟩ ⟨e, by omega⟩ hn.1 he
/-- A trial with the exit turned clashes. -/
theorem turned_clash {n : Nat} (hn : 1 ≤ n ∧ n ≤ 4) (ts : List (Int × Int)) (a : Int) (e : Nat) (he : e < 2 ^ n) (hx : (a, (e : Int)) ∈ ts) : clashes n (ts ++ [(a, (2 : Int) ^ n - 1 - e)]) = true := by
  obtain ⟨h1, h2⟩ := root_holds hn.1 (a, (e : Int)) ts ts.reverse (by simp) hx
  simp only at h1 h2
  have hd := dig_01 n e 0
  have ha := dig_01 n a 0
  have hr := seen_root hn.1 ts (a, (2 : Int) ^ n - 1 - e)
  simp only at hr
  rw [dig_turned hn he] at hr
  have hc : clash4 ((seenTo n (ts ++ [(a, (2 : Int) ^ n - 1 - e)])).getD 1 z4) = true := by
    rw [hr]
    generalize (seenTo n ts).getD 1 z4 = s at h1 h2
    generalize dig n e 0 = g at hd h1 h2
    generalize dig n a 0 = q at ha h2
    obtain ⟨x, y, c, f⟩ := s
    unfold ledTo at h1
    rcases (by omega : g = 0 ∨ g = 1) with rfl | rfl <;> rcases (by omega : q = 0 ∨ q = 1) with rfl | rfl <;> cases x <;> cases y <;> cases c <;> cases f <;> simp_all [hit, clash4, wrong4]
  unfold clashes
  rw [List.any_eq_true]
  have hl : 1 < (seenTo n (ts ++ [(a, (2 : Int) ^ n - 1 - e)])).length := by
    rw [seen_len]
    obtain ⟨m, hm⟩ : ∃ m, n = m + 1 := ⟨n - 1, by omega⟩
    have := Nat.one_le_two_pow (n := m)
    rw [hm, Nat.pow_succ]; omega
  exact ⟨_, List.getElem_mem hl, by simpa [List.getD, hl] using hc⟩

/-! ### the next address -/
theorem next_some {n : Nat} {ts : List (Int × Int)} (h : codeF n ts = 0) {a : Nat} (hn : nextA n ts = some a) : valNext n ts = ((a : Int), 0) ∧ a < 2 ^ n ∧ tried ts a = false := by
  refine ⟨by simp [valNext, h, hn], ?_⟩
  unfold nextA at hn
  rw [Int.toNat_natCast, List.find?_range_eq_some] at hn
  obtain ⟨h1, h2, _⟩ := hn
  refine ⟨List.mem_range.1 h2, ?_⟩
  unfold goodA at h1
  simp only [Bool.and_eq_true, Bool.not_eq_true'] at h1
  exact h1.1
theorem next_none {n : Nat} {ts : List (Int × Int)} (h : codeF n ts = 0) (hn : nextA n ts = none) : valNext n ts = (0, 3) := by simp [valNext, h, hn]
theorem next_first {n : Nat} (hn : 1 ≤ n) : nextA n [] = some 0 := by
  have hp := Nat.one_le_two_pow (n := n)
  have h2 : 1 < 2 ^ n := by
    obtain ⟨m, rfl⟩ : ∃ m, n = m + 1 := ⟨n - 1, by omega⟩
    have := Nat.one_le_two_pow (n := m)
    rw [Nat.pow_succ]; omega
  unfold nextA
  rw [Int.toNat_natCast, List.find?_range_eq_some]
  refine ⟨?_, List.mem_range.2 (by omega), fun j hj => absurd hj (Nat.not_lt_zero _)⟩
  unfold goodA newAt
  have ht : tried [] ((0 : Nat) : Int) = false := rfl
  rw [ht]
  simp only [Bool.not_false, Bool.true_and]
  rw [List.any_eq_true]
  refine ⟨0, List.mem_range.2 hn, ?_⟩
  have hs : (seenTo (n : Int) []).getD 1 z4 = z4 := by simp [seenTo, List.getD, h2]
  have hl : (lettersTo (seenTo (n : Int) []) (2 ^ n)).getD 1 0 = 63 := by
    unfold lettersTo
    have : ((List.range (2 ^ n)).map fun (v : Nat) => letter4 ((seenTo (n : Int) []).getD v z4)).getD 1 0 = letter4 ((seenTo (n : Int) []).getD 1 z4) := by simp [List.getD, h2]
    rw [this, hs]; rfl
  show newL ((lettersTo (seenTo (n : Int) []) (2 ^ n)).getD 1 0) = true
  rw [hl]; rfl

end Go.Proofs.Ytejnfngnofilfaa
