/-
  The first table of the reference: its rows. In plain Lean, no program in sight.
-/
import Derived.Test.YtpgnndpjlcihiaaDoorTable
import Derived.Test.YtpgnndpjlcihiaaDoorInit
namespace Go.Proofs.YtpgnndpjlcihiaaDoor

def farF : Nat → Nat → Int := fun _ _ => FAR
theorem rowL_const' (x : Int) (n i : Nat) : rowL (fun _ _ => x) n i = List.replicate n x := by simp [rowL, List.map_const']
theorem rowL_far (n i : Nat) : rowL farF n i = List.replicate n FAR := rowL_const' FAR n i
theorem edgeB_no {s : Nat} {tf : Nat → Bool} {i : Nat} (h : ¬ (i < s ∧ tf i = true)) (k : Nat) : edgeB s tf i k = if k = i ∨ k + 1 = i then 0 else FAR := by
  unfold edgeB
  by_cases e : k = i ∨ k + 1 = i
  · rw [if_pos e, if_pos (by rcases e with e | e; · exact .inl e
                             · exact .inr (.inl e))]
  · rw [if_neg e, if_neg]
    rintro (e2 | e2 | ⟨_, e2⟩)
    · exact e (.inl e2)
    · exact e (.inr e2)
    · exact h e2
theorem edgeB_yes {s : Nat} {tf : Nat → Bool} {i : Nat} (h1 : i < s) (h2 : tf i = true) (k : Nat) : edgeB s tf i k = if k = i ∨ k + 1 = i ∨ i + 1 = k then 0 else FAR := by
  unfold edgeB
  by_cases e : k = i ∨ k + 1 = i ∨ i + 1 = k
  · rw [if_pos e, if_pos (by rcases e with e | e | e; · exact .inl e
                             · exact .inr (.inl e)
                             · exact .inr (.inr ⟨e, h1, h2⟩))]
  · rw [if_neg e, if_neg]
    rintro (e2 | e2 | ⟨e2, _⟩)
    · exact e (.inl e2)
    · exact e (.inr (.inl e2))
    · exact e (.inr (.inr e2))
theorem row_zero_no {s : Nat} {tf : Nat → Bool} {i : Nat} (h0 : i = 0) (h : ¬ (i < s ∧ tf i = true)) : rowL (upd farF i i 0) (s + 1) i = rowL (edgeB s tf) (s + 1) i := by
  unfold rowL
  apply List.map_congr_left
  intro b _
  rw [edgeB_no h]
  simp only [upd, farF, true_and]
  split <;> split <;> omega
theorem row_zero_yes {s : Nat} {tf : Nat → Bool} {i : Nat} (h0 : i = 0) (h1 : i < s) (h2 : tf i = true) : rowL (upd (upd farF i i 0) i (i + 1) 0) (s + 1) i = rowL (edgeB s tf) (s + 1) i := by
  unfold rowL
  apply List.map_congr_left
  intro b _
  rw [edgeB_yes h1 h2]
  simp only [upd, farF, true_and]
  split <;> split <;> (try split) <;> omega
theorem row_some_no {s : Nat} {tf : Nat → Bool} {i : Nat} (h0 : 0 < i) (h : ¬ (i < s ∧ tf i = true)) : rowL (upd (upd farF i i 0) i (i - 1) 0) (s + 1) i = rowL (edgeB s tf) (s + 1) i := by
  unfold rowL
  apply List.map_congr_left
  intro b _
  rw [edgeB_no h]
  simp only [upd, farF, true_and]
  split <;> split <;> (try split) <;> omega
theorem row_some_yes {s : Nat} {tf : Nat → Bool} {i : Nat} (h0 : 0 < i) (h1 : i < s) (h2 : tf i = true) : rowL (upd (upd (upd farF i i 0) i (i - 1) 0) i (i + 1) 0) (s + 1) i = rowL (edgeB s tf) (s + 1) i := by
  unfold rowL
  apply List.map_congr_left
  intro b _
  rw [edgeB_yes h1 h2]
  simp only [upd, farF, true_and]
  split <;> split <;> (try split) <;> (try split) <;> omega
theorem okB_false {s : Nat} {tf : Nat → Bool} {xs : List (Int × Int × Int)} {k : Nat} (hk : k < s + 1) (h : endB s tf xs k k < 0) : okB s tf xs = false := by
  unfold okB
  rw [List.all_eq_false]
  exact ⟨k, List.mem_range.2 hk, by simp only [decide_eq_true_eq]; omega⟩
theorem okB_true {s : Nat} {tf : Nat → Bool} {xs : List (Int × Int × Int)} (h : ∀ a, a < s + 1 → 0 ≤ endB s tf xs a a) : okB s tf xs = true := by
  unfold okB
  rw [List.all_eq_true]
  intro a ha
  exact decide_eq_true (h a (List.mem_range.1 ha))
theorem tests_snoc' (f : Nat → Nat → Int) (xs : List (Int × Int × Int)) (x y z : Int) : testsF f (xs ++ [(x, y, z)]) = boundF (boundF (testsF f xs) x.toNat y.toNat z) y.toNat x.toNat (-z) := by
  unfold testsF
  rw [List.foldl_append]
  rfl

end Go.Proofs.YtpgnndpjlcihiaaDoor
