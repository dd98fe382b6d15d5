/-
  All that FnKnown asks of the trials of real switches. In plain Lean, no program in sight.
-/
import Derived.Test.YtejnfngnofilfaaKnownLaw
import Derived.Test.YtejnfngnofilfaaDrawAddr
import Derived.Test.YtejnfngnofilfaaNext
namespace Go.Proofs.Ytejnfngnofilfaa
open Go.RowKit

theorem sideTo_neg {d : Int} {xs : List (Int × Int)} (h : okStuck d xs = true) {v s : Int} (hs : sideTo xs v (-1) xs.length s) : s = sideF xs v := by
  rcases hs with ⟨rfl, hn⟩ | ⟨j, hj, hv, rfl⟩
  · rw [sideF_miss hn]
  · rw [sideF_hit hj hv (fun i hi => by have := okStuck_lt h j i hi hj; omega)]
theorem sideTo_neg_bound {d : Int} {xs : List (Int × Int)} (h : okStuck d xs = true) {v s : Int} {k : Nat} (hk : k ≤ xs.length) (hs : sideTo xs v (-1) k s) : -1 ≤ s ∧ s ≤ 1 := by
  rcases hs with ⟨rfl, _⟩ | ⟨j, hj, _, rfl⟩
  · omega
  · have := okStuck_side h (show j < xs.length by omega); omega

theorem runs_len (n : Int) (xs : List (Int × Int)) (ys : List Int) : (runs n xs ys).length = ys.length := by simp [runs]
theorem runs_ok {n : Nat} (hd : inB 1 4 (n : Int) = true) {xs : List (Int × Int)} (h : okStuck n xs = true) {ys : List Int} (hy : ∀ x ∈ ys, 0 ≤ x ∧ x < ((2 ^ n : Nat) : Int)) (hl : ys.length ≤ 8) : okTrials n (runs n xs ys) = true := by
  have hE : ex (n : Int) = ((2 ^ n : Nat) : Int) := by simp [ex]
  simp only [okTrials, Bool.and_eq_true, List.all_eq_true, decide_eq_true_eq]
  refine ⟨⟨hd, fun t ht => ?_⟩, by rw [runs_len]; omega⟩
  obtain ⟨a, ha, rfl⟩ := List.mem_map.1 ht
  have h1 := hy a ha
  have h2 := runE_bound h a
  rw [hE] at h2
  simp only [okTrial, inB, Bool.and_eq_true, decide_eq_true_eq]
  rw [hE]
  omega
theorem runs_val {n : Nat} {xs : List (Int × Int)} (h : okStuck n xs = true) {ys : List Int} (hy : ∀ x ∈ ys, 0 ≤ x ∧ x < ((2 ^ n : Nat) : Int)) (hl : ys.length ≤ 8) : valRuns n xs ys = (runs n xs ys, 0) := by
  simp [valRuns, h, okAddr_yes hy hl]
theorem runs_code {n : Nat} (hd : inB 1 4 (n : Int) = true) {xs : List (Int × Int)} (h : okStuck n xs = true) {ys : List Int} (hy : ∀ x ∈ ys, 0 ≤ x ∧ x < ((2 ^ n : Nat) : Int)) (hl : ys.length ≤ 8) : codeF n (runs n xs ys) = 0 := by
  simp [codeF, runs_ok hd h hy hl, runs_noClash h ys]
theorem runs_contrary {n : Nat} (hd : inB 1 4 (n : Int) = true) {xs : List (Int × Int)} (h : okStuck n xs = true) {ys : List Int} (hy : ∀ x ∈ ys, 0 ≤ x ∧ x < ((2 ^ n : Nat) : Int)) (hl : ys.length ≤ 8) : valContrary n (runs n xs ys) = (0, 3) :=
  contrary_miss (runs_ok hd h hy hl) fun j _ => by rw [runs_take]; exact runs_noClash h _
theorem runs_fewest {n : Nat} (hd : inB 1 4 (n : Int) = true) {xs : List (Int × Int)} (h : okStuck n xs = true) {ys : List Int} (hy : ∀ x ∈ ys, 0 ≤ x ∧ x < ((2 ^ n : Nat) : Int)) (hl : ys.length ≤ 8) : valFewest n (runs n xs ys) = (fewTo (seenTo n (runs n xs ys)) (2 ^ n), 0) := by
  have h0 := runs_code hd h hy hl
  refine Prod.ext (valFewest_good h0) h0
theorem known_size (n : Nat) (ts : List (Int × Int)) : (known n ts).size = 2 ^ n - 1 := by
  unfold known
  rw [strOfNums_size, List.length_drop, lettersTo_length]
theorem runs_known {n : Nat} (hd : inB 1 4 (n : Int) = true) {xs : List (Int × Int)} (h : okStuck n xs = true) {ys : List Int} (hy : ∀ x ∈ ys, 0 ≤ x ∧ x < ((2 ^ n : Nat) : Int)) (hl : ys.length ≤ 8) : valKnown n (runs n xs ys) = (known n (runs n xs ys), 0) := by
  simp [valKnown, runs_code hd h hy hl]

/-- What a letter, the list of the fewest, and a switch's side have to do with one another. -/
def fitL (c : Int) (told : Bool) (sd : Int) : Prop := (c = 48 ∧ told = true ∧ sd = 0) ∨ (c = 49 ∧ told = true ∧ sd = 1) ∨ (c = 119 ∧ told = false ∧ sd = -1) ∨ (c = 97 ∧ told = false ∧ sd ≠ 1) ∨ (c = 98 ∧ told = false ∧ sd ≠ 0) ∨ (c = 63 ∧ told = false)
theorem fit_letter {d : Int} {xs : List (Int × Int)} (h : okStuck d xs = true) {v : Int} {s : B4} (hs : trueOf xs v s) : fitL (letter4 s) (wrong4 s) (sideF xs v) := by
  obtain ⟨h1, h2, h3, h4, h5, h6⟩ := letter_true h hs
  have hc : letter4 s = 48 ∨ letter4 s = 49 ∨ letter4 s = 119 ∨ letter4 s = 97 ∨ letter4 s = 98 ∨ letter4 s = 63 := by
    unfold letter4
    split
    · omega
    split
    · omega
    split
    · omega
    split
    · omega
    split <;> omega
  have hf : letter4 s ≠ 48 → letter4 s ≠ 49 → wrong4 s = false := fun a b => by
    cases hw : wrong4 s with
    | false => rfl
    | true => rcases h1.1 hw with e | e <;> omega
  unfold fitL
  rcases hc with e | e | e | e | e | e
  · exact .inl ⟨e, h1.2 (.inl e), h2 e⟩
  · exact .inr (.inl ⟨e, h1.2 (.inr e), h3 e⟩)
  · exact .inr (.inr (.inl ⟨e, hf (by omega) (by omega), h4 e⟩))
  · exact .inr (.inr (.inr (.inl ⟨e, hf (by omega) (by omega), h5 e⟩)))
  · exact .inr (.inr (.inr (.inr (.inl ⟨e, hf (by omega) (by omega), h6 e⟩))))
  · exact .inr (.inr (.inr (.inr (.inr ⟨e, hf (by omega) (by omega)⟩))))
theorem fit_known {n : Nat} {xs : List (Int × Int)} (h : okStuck n xs = true) (ys : List Int) (j : Nat) (hj : j < (known n (runs n xs ys)).size) :
    fitL ((((known n (runs n xs ys))[j]'hj).toNat : Nat) : Int) ((fewTo (seenTo n (runs n xs ys)) (2 ^ n)).any fun p => p.1 == (((j + 1 : Nat)) : Int)) (sideF xs ((j + 1 : Nat) : Int)) := by
  have hs := known_size n (runs n xs ys)
  have hj2 : j + 1 < 2 ^ n := by omega
  have hb := known_byte (seenTo n (runs n xs ys)) (2 ^ n) j hj
  have hl : (lettersTo (seenTo n (runs n xs ys)) (2 ^ n)).getD (j + 1) 0 = letter4 ((seenTo n (runs n xs ys)).getD (j + 1) z4) := by simp [lettersTo, List.getD, hj2]
  rw [few_told _ _ _ hj2]
  have := fit_letter h (allTrue_runs h ys (j + 1))
  rw [← hl, ← hb] at this
  exact this

theorem tried_runs (n : Int) (xs : List (Int × Int)) (ys : List Int) (a : Int) : tried (runs n xs ys) a = decide (a ∈ ys) := by
  rw [Bool.eq_iff_iff, decide_eq_true_iff]
  unfold tried runs
  rw [List.any_eq_true]
  constructor
  · rintro ⟨t, ht, he⟩
    obtain ⟨b, hb, rfl⟩ := List.mem_map.1 ht
    simp only [beq_iff_eq] at he
    rw [← he]; exact hb
  · intro h
    exact ⟨_, List.mem_map.2 ⟨a, h, rfl⟩, by simp⟩
/-- The next address: there is none, or it is a new one; the first one is 0. -/
theorem runs_next {n : Nat} (hd : inB 1 4 (n : Int) = true) {xs : List (Int × Int)} (h : okStuck n xs = true) {ys : List Int} (hy : ∀ x ∈ ys, 0 ≤ x ∧ x < ((2 ^ n : Nat) : Int)) (hl : ys.length ≤ 8) :
    valNext n (runs n xs ys) = (0, 3) ∨ ∃ a : Nat, valNext n (runs n xs ys) = ((a : Int), 0) ∧ a < 2 ^ n ∧ decide ((a : Int) ∈ ys) = false ∧ (ys.length = 0 → a = 0) := by
  have h0 := runs_code hd h hy hl
  have hn : 1 ≤ n := by simp [inB] at hd; omega
  cases hx : nextA n (runs n xs ys) with
  | none => exact .inl (next_none h0 hx)
  | some a =>
    obtain ⟨h1, h2, h3⟩ := next_some h0 hx
    rw [tried_runs] at h3
    refine .inr ⟨a, h1, h2, h3, fun hz => ?_⟩
    have : ys = [] := List.length_eq_zero_iff.1 hz
    subst this
    have e : nextA n [] = some a := hx
    rw [next_first hn] at e
    exact (Option.some.inj e).symm

theorem runs_bad {n : Nat} (hd : inB 1 4 (n : Int) = true) {xs : List (Int × Int)} (h : okStuck n xs = true) {ys : List Int} (hy : ∀ x ∈ ys, 0 ≤ x ∧ x < ((2 ^ n : Nat) : Int)) (hl : ys.length ≤ 8) (hp : 0 < ys.length) :
    0 ≤ ((runs n xs ys).getD 0 (0, 0)).1 ∧ ((runs n xs ys).getD 0 (0, 0)).1 < ((2 ^ n : Nat) : Int) ∧ 0 ≤ ((runs n xs ys).getD 0 (0, 0)).2 ∧ ((runs n xs ys).getD 0 (0, 0)).2 < ((2 ^ n : Nat) : Int) ∧
    valContrary n (runs n xs ys ++ [(((runs n xs ys).getD 0 (0, 0)).1, ((2 ^ n : Nat) : Int) - 1 - ((runs n xs ys).getD 0 (0, 0)).2)]) = ((ys.length : Int), 0) := by
  have hn : 1 ≤ n ∧ n ≤ 4 := by simp [inB] at hd; omega
  have hE : ex (n : Int) = ((2 ^ n : Nat) : Int) := by simp [ex]
  have hlen := runs_len n xs ys
  have hok := runs_ok hd h hy hl
  have hmem : (runs n xs ys).getD 0 (0, 0) ∈ runs n xs ys := by
    rw [show (runs n xs ys).getD 0 (0, 0) = (runs n xs ys)[0]'(by omega) by simp [List.getD, show 0 < (runs n xs ys).length by omega]]
    exact List.getElem_mem _
  have hok2 := hok
  simp only [okTrials, Bool.and_eq_true, List.all_eq_true, decide_eq_true_eq] at hok
  have ht := hok.1.2 _ hmem
  generalize hT : (runs n xs ys).getD 0 (0, 0) = t at hmem ht
  obtain ⟨a, e⟩ := t
  simp only [okTrial, inB, Bool.and_eq_true, decide_eq_true_eq] at ht
  rw [hE] at ht
  obtain ⟨E, rfl⟩ : ∃ E : Nat, e = E := ⟨e.toNat, by omega⟩
  have hEl : E < 2 ^ n := by omega
  refine ⟨by omega, by omega, by simp only; omega, by simp only; omega, ?_⟩
  simp only
  have hcl := turned_clash hn (runs n xs ys) a E hEl hmem
  have ep : (2 : Int) ^ n - 1 - (E : Int) = ((2 ^ n : Nat) : Int) - 1 - (E : Int) := by simp
  rw [ep] at hcl
  have hb : okTrials n (runs n xs ys ++ [(a, ((2 ^ n : Nat) : Int) - 1 - (E : Int))]) = true := by
    simp only [okTrials, Bool.and_eq_true, List.all_eq_true, decide_eq_true_eq]
    refine ⟨⟨hd, fun x hx => ?_⟩, by simp [hlen]; omega⟩
    rcases List.mem_append.1 hx with hx | hx
    · exact hok.1.2 x hx
    · rw [List.mem_singleton.1 hx]
      simp only [okTrial, inB, Bool.and_eq_true, decide_eq_true_eq]
      rw [hE]
      omega
  rw [← hlen]
  refine contrary_hit hb (by simp) ?_ ?_
  · rw [List.take_of_length_le (by simp)]; exact hcl
  · intro j hj
    rw [List.take_append_of_le_length (by omega), runs_take]
    exact runs_noClash h _

end Go.Proofs.Ytejnfngnofilfaa
