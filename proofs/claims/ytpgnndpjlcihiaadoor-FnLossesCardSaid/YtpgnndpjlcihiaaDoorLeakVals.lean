/-
  What the functions over the least sums answer: the values. In plain Lean, no program in sight.
-/
import Derived.Test.YtpgnndpjlcihiaaDoorEnds
import Derived.Test.YtpgnndpjlcihiaaDoorLeaks
namespace Go.Proofs.YtpgnndpjlcihiaaDoor

theorem fitT_of {n : Int} {xs : List (Int × Int × Int)} (h : okLosses n xs = true) : fitT n.toNat xs := fun x hx => by
  have h1 := okLosses_mem h hx
  have h2 := okLosses_n h
  exact ⟨h1.1, h1.2.1, by omega, h1.2.2.2.1, h1.2.2.2.2⟩
theorem fitT_take {s : Nat} {xs : List (Int × Int × Int)} (h : fitT s xs) (k : Nat) : fitT s (xs.take k) := fun x hx => h x (List.mem_of_mem_take hx)
theorem fitT_snoc {s : Nat} {xs : List (Int × Int × Int)} (h : fitT s xs) {x : Int × Int × Int} (hx : 0 ≤ x.1 ∧ x.1 < x.2.1 ∧ x.2.1 ≤ s ∧ 0 ≤ x.2.2 ∧ x.2.2 ≤ 10000) : fitT s (xs ++ [x]) := fun y hy => by
  rcases List.mem_append.1 hy with hy | hy
  · exact h y hy
  · rw [List.mem_singleton.1 hy]; exact hx

/-- The numbers below k that p picks. -/
def selL (p : Nat → Bool) (k : Nat) : List Int := ((List.range k).filter p).map fun (i : Nat) => (i : Int)
theorem selL_yes {p : Nat → Bool} {k : Nat} (h : p k = true) : selL p (k + 1) = selL p k ++ [(k : Int)] := by
  unfold selL
  rw [List.range_succ, List.filter_append, List.map_append, List.filter_cons_of_pos h]
  rfl
theorem selL_no {p : Nat → Bool} {k : Nat} (h : p k = false) : selL p (k + 1) = selL p k := by
  unfold selL
  rw [List.range_succ, List.filter_append, List.map_append, List.filter_cons_of_neg (by rw [h]; exact Bool.false_ne_true)]
  simp
theorem selL_len (p : Nat → Bool) (k : Nat) : (selL p k).length ≤ k := by
  unfold selL
  rw [List.length_map]
  exact Nat.le_trans (List.length_filter_le _ _) (by simp)
theorem selL_congr {p q : Nat → Bool} {k : Nat} (h : ∀ i, i < k → p i = q i) : selL p k = selL q k := by
  unfold selL
  congr 1
  apply List.filter_congr
  intro i hi
  exact h i (List.mem_range.1 hi)
/-- The numbers f 0 to f (k - 1). -/
def mapL (f : Nat → Int) (k : Nat) : List Int := (List.range k).map f
theorem mapL_succ (f : Nat → Int) (k : Nat) : mapL f (k + 1) = mapL f k ++ [f k] := by
  unfold mapL
  rw [List.range_succ, List.map_append]
  rfl
theorem mapL_len (f : Nat → Int) (k : Nat) : (mapL f k).length = k := by simp [mapL]
theorem mapL_getD (f : Nat → Int) (n k : Nat) (h : k < n) : (mapL f n).getD k 0 = f k := by simp [mapL, List.getD, h]

def codeL (n : Int) (xs : List (Int × Int × Int)) : Int := if okLosses n xs then (if okA n.toNat openT xs then 0 else 9) else 1
def valAgree (n : Int) (xs : List (Int × Int × Int)) : Bool × Int := if okLosses n xs then (okA n.toNat openT xs, 0) else (false, 1)
def oddL (s : Nat) (xs : List (Int × Int × Int)) : Int × Int := match (List.range xs.length).find? (fun i => !okA s openT (xs.take (i + 1))) with
  | some i => ((i : Int), 0)
  | none => (0, 3)
def valOdd (n : Int) (xs : List (Int × Int × Int)) : Int × Int := if okLosses n xs then oddL n.toNat xs else (0, 1)
theorem oddL_hit {s : Nat} {xs : List (Int × Int × Int)} {k : Nat} (hk : k < xs.length) (h : ∀ j, j < k → okA s openT (xs.take (j + 1)) = true) (hn : okA s openT (xs.take (k + 1)) = false) : oddL s xs = ((k : Int), 0) := by
  unfold oddL
  rw [List.find?_range_eq_some.2 ⟨by rw [hn]; rfl, List.mem_range.2 hk, fun j hj => by rw [h j hj]; rfl⟩]
theorem oddL_miss {s : Nat} {xs : List (Int × Int × Int)} (h : ∀ j, j < xs.length → okA s openT (xs.take (j + 1)) = true) : oddL s xs = (0, 3) := by
  unfold oddL
  rw [List.find?_eq_none.2 (fun j hj => by rw [h j (List.mem_range.1 hj)]; simp)]
def valLeakB (n : Int) (xs : List (Int × Int × Int)) (k : Int) : Int × Int × Int :=
  if okLosses n xs then (if inB 0 (n - 1) k then (if okA n.toNat openT xs then (valLow n.toNat xs k.toNat, valHigh n.toNat xs k.toNat, 0) else (0, 0, 9)) else (0, 0, 2)) else (0, 0, 1)
def valTight (n : Int) (xs : List (Int × Int × Int)) : List Int × Int := (if codeL n xs = 0 then selL (fun k => decide (valHigh n.toNat xs k = 0)) n.toNat else [], codeL n xs)
def valSure (n : Int) (xs : List (Int × Int × Int)) : List Int × Int := (if codeL n xs = 0 then selL (fun k => decide (0 < valLow n.toNat xs k)) n.toNat else [], codeL n xs)
def valLateL (n : Int) (xs : List (Int × Int × Int)) : List Int × Int := (if codeL n xs = 0 then mapL (valLate n.toNat xs) n.toNat else [], codeL n xs)
theorem codeL_zero {n : Int} {xs : List (Int × Int × Int)} (h : codeL n xs = 0) : okLosses n xs = true ∧ okA n.toNat openT xs = true := by
  unfold codeL at h
  cases h1 : okLosses n xs with
  | false => rw [h1] at h; simp at h
  | true =>
    cases h2 : okA n.toNat openT xs with
    | false => rw [h1, h2] at h; simp at h
    | true => exact ⟨rfl, rfl⟩
theorem codeL_bad {n : Int} {xs : List (Int × Int × Int)} (h : okLosses n xs = false) : codeL n xs = 1 := by simp [codeL, h]
theorem codeL_clash {n : Int} {xs : List (Int × Int × Int)} (h : okLosses n xs = true) (h2 : okA n.toNat openT xs = false) : codeL n xs = 9 := by simp [codeL, h, h2]
theorem codeL_ok {n : Int} {xs : List (Int × Int × Int)} (h : okLosses n xs = true) (h2 : okA n.toNat openT xs = true) : codeL n xs = 0 := by simp [codeL, h, h2]
theorem small_nat {n : Int} {xs : List (Int × Int × Int)} (h : codeL n xs = 0) : n.toNat ≤ 9 := by
  have := okLosses_n (codeL_zero h).1
  omega
theorem valTight_len (n : Int) (xs : List (Int × Int × Int)) : (valTight n xs).1.length ≤ 9 := by
  unfold valTight
  by_cases h : codeL n xs = 0
  · simp only [if_pos h]
    have h1 := selL_len (fun k => decide (valHigh n.toNat xs k = 0)) n.toNat
    have h2 := small_nat h
    omega
  · simp [if_neg h]
theorem valSure_len (n : Int) (xs : List (Int × Int × Int)) : (valSure n xs).1.length ≤ 9 := by
  unfold valSure
  by_cases h : codeL n xs = 0
  · simp only [if_pos h]
    have h1 := selL_len (fun k => decide (0 < valLow n.toNat xs k)) n.toNat
    have h2 := small_nat h
    omega
  · simp [if_neg h]
theorem valLateL_len (n : Int) (xs : List (Int × Int × Int)) : (valLateL n xs).1.length ≤ 9 := by
  unfold valLateL
  by_cases h : codeL n xs = 0
  · simp only [if_pos h, mapL_len]
    exact small_nat h
  · simp [if_neg h]
def valAdd (n : Int) (xs : List (Int × Int × Int)) (x : Int × Int × Int) : List (Int × Int × Int) × Int :=
  if okLosses n xs then (if okLoss n x then (if xs.length < 20 then (if okA n.toNat openT (xs ++ [x]) then (xs ++ [x], 0) else ([], 9)) else ([], 5)) else ([], 2)) else ([], 1)

end Go.Proofs.YtpgnndpjlcihiaaDoor
