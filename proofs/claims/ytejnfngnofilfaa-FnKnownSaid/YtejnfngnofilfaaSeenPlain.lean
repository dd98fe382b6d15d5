/-
  What trials tell of switches, in plain Lean: which sides each switch led carriers to, and which ones wrongly. No program in sight.
-/
import Derived.Test.YtejnfngnofilfaaTrials
import Derived.Test.YtejnfngnofilfaaExit
namespace Go.Proofs.Ytejnfngnofilfaa
open Go.RowKit

/-- Of one switch: did it lead to side 0, to side 1, wrongly to 0, wrongly to 1? -/
abbrev B4 := Bool × Bool × Bool × Bool
def z4 : B4 := (false, false, false, false)
def hit (s : B4) (one wr : Bool) : B4 := if one then (s.1, true, s.2.2.1, s.2.2.2 || wr) else (true, s.2.1, s.2.2.1 || wr, s.2.2.2)
/-- One step of one trial's way. -/
def stepS (d : Int) (t : Int × Int) (st : List B4) (k : Nat) : List B4 :=
  st.set (wayAt d t.2 k).toNat (hit (st.getD (wayAt d t.2 k).toNat z4) (dig d t.2 k == 1) (dig d t.1 k != dig d t.2 k))
def trialTo (d : Int) (t : Int × Int) (st : List B4) (k : Nat) : List B4 := (List.range k).foldl (stepS d t) st
def seenTo (d : Int) (ts : List (Int × Int)) : List B4 := ts.foldl (fun st t => trialTo d t st d.toNat) (List.replicate (2 ^ d.toNat) z4)

def clash4 (s : B4) : Bool := (s.2.2.1 || s.2.2.2) && s.1 && s.2.1
def sides4 (s : B4) : Int := (if s.1 then 1 else 0) + (if s.2.1 then 2 else 0)
def wrong4 (s : B4) : Bool := s.2.2.1 || s.2.2.2
def good4 (s : B4) : Prop := (s.2.2.1 = true → s.1 = true) ∧ (s.2.2.2 = true → s.2.1 = true)
/-- Does nothing explain these trials? -/
def clashes (d : Int) (ts : List (Int × Int)) : Bool := (seenTo d ts).any clash4

theorem trialTo_succ (d : Int) (t : Int × Int) (st : List B4) (k : Nat) : trialTo d t st (k + 1) = stepS d t (trialTo d t st k) k := by simp [trialTo, List.range_succ]
theorem seenTo_snoc (d : Int) (ts : List (Int × Int)) (t : Int × Int) : seenTo d (ts ++ [t]) = trialTo d t (seenTo d ts) d.toNat := by simp [seenTo]
theorem trialTo_length (d : Int) (t : Int × Int) (st : List B4) (k : Nat) : (trialTo d t st k).length = st.length := by
  induction k with
  | zero => rfl
  | succ k ih => rw [trialTo_succ, stepS, List.length_set, ih]

theorem good_hit (s : B4) (one wr : Bool) (h : good4 s) : good4 (hit s one wr) := by
  obtain ⟨a, b, c, e⟩ := s
  cases one <;> cases wr <;> cases a <;> cases b <;> cases c <;> cases e <;> simp_all [good4, hit]

/-- What holds of a list of such: its length, that wrong sides were led to, and that there is no switch 0. -/
def fit4 (n : Nat) (st : List B4) : Prop := st.length = n ∧ (∀ i, good4 (st.getD i z4)) ∧ st.getD 0 z4 = z4

theorem fit4_set {n : Nat} {st : List B4} (h : fit4 n st) (v : Nat) (hv : 1 ≤ v) (one wr : Bool) : fit4 n (st.set v (hit (st.getD v z4) one wr)) := by
  obtain ⟨h1, h2, h3⟩ := h
  refine ⟨by rw [List.length_set]; exact h1, fun i => ?_, ?_⟩
  · by_cases hi : v = i
    · subst hi
      by_cases hl : v < st.length
      · have : (st.set v (hit (st.getD v z4) one wr)).getD v z4 = hit (st.getD v z4) one wr := by simp [List.getD, hl]
        rw [this]; exact good_hit _ _ _ (h2 v)
      · have : st.set v (hit (st.getD v z4) one wr) = st := List.set_eq_of_length_le (by omega)
        rw [this]; exact h2 v
    · have : (st.set v (hit (st.getD v z4) one wr)).getD i z4 = st.getD i z4 := by simp [List.getD, List.getElem?_set, hi]
      rw [this]; exact h2 i
  · have : (st.set v (hit (st.getD v z4) one wr)).getD 0 z4 = st.getD 0 z4 := by simp [List.getD, List.getElem?_set, show ¬ v = 0 by omega]
    rw [this]; exact h3

theorem fit4_trial {d : Int} {n : Nat} {t : Int × Int} {st : List B4} (h : fit4 n st) (k : Nat) (hk : k ≤ 4) : fit4 n (trialTo d t st k) := by
  induction k with
  | zero => exact h
  | succ k ih =>
    rw [trialTo_succ]
    have := wayAt_bound d t.2 k (by omega)
    exact fit4_set (ih (by omega)) _ (by omega) _ _

theorem fit4_seen {d : Int} (hd : inB 1 4 d = true) (ts : List (Int × Int)) : fit4 (2 ^ d.toNat) (seenTo d ts) := by
  have h4 : d.toNat ≤ 4 := by simp [inB] at hd; omega
  have h0 : fit4 (2 ^ d.toNat) (List.replicate (2 ^ d.toNat) z4) := by
    refine ⟨by simp, fun i => ?_, ?_⟩
    · have : (List.replicate (2 ^ d.toNat) z4).getD i z4 = z4 := by simp [List.getD, List.getElem?_replicate]; split <;> rfl
      rw [this]; simp [good4, z4]
    · simp [List.getD, List.getElem?_replicate]; split <;> rfl
  unfold seenTo
  generalize List.replicate (2 ^ d.toNat) z4 = st at h0
  induction ts generalizing st with
  | nil => exact h0
  | cons t ts ih => exact ih _ (fit4_trial h0 _ h4)

/-! ### how the reference keeps it -/
theorem sides4_bound (s : B4) : 0 ≤ sides4 s ∧ sides4 s ≤ 3 := by
  obtain ⟨a, b, c, e⟩ := s
  cases a <;> cases b <;> simp [sides4]
theorem sides_hit (s : B4) (g : Int) (hg : 0 ≤ g ∧ g ≤ 1) (b : Bool) : bits BinOp.or IntKind.i64 (sides4 s) (g + 1) = sides4 (hit s (g == 1) b) := by
  obtain ⟨x, y, c, e⟩ := s
  rcases (by omega : g = 0 ∨ g = 1) with rfl | rfl <;> (clear hg; revert x y c e b; decide +kernel)
theorem wrong_hit (s : B4) (one b : Bool) : wrong4 (hit s one b) = (wrong4 s || b) := by
  obtain ⟨x, y, c, e⟩ := s
  cases one <;> cases b <;> cases c <;> cases e <;> rfl
theorem clash_spec {s : B4} (h : good4 s) : clash4 s = (wrong4 s && decide (sides4 s = 3)) := by
  obtain ⟨x, y, c, e⟩ := s
  cases x <;> cases y <;> cases c <;> cases e <;> simp_all [good4, clash4, wrong4, sides4]

end Go.Proofs.Ytejnfngnofilfaa
