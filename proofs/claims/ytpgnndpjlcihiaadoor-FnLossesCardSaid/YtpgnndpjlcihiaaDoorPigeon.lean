/-
  Different numbers below a number, counted. No program in sight.
-/
import Derived.Test.YtpgnndpjlcihiaaDoorLib
namespace Go.Proofs.YtpgnndpjlcihiaaDoor

/-- Different numbers below N are no more than N. -/
theorem nodup_le (N : Nat) : ∀ l : List Nat, l.Nodup → (∀ x ∈ l, x < N) → l.length ≤ N := by
  induction N with
  | zero =>
    intro l _ h
    cases l with
    | nil => exact Nat.le_refl _
    | cons a l => have := h a (by simp); omega
  | succ N ih =>
    intro l hn h
    by_cases hN : N ∈ l
    · have h1 := ih (l.erase N) (hn.erase N) (fun x hx => by
        have h2 := (hn.mem_erase_iff.1 hx)
        have := h x h2.2
        have := h2.1
        omega)
      rw [List.length_erase_of_mem hN] at h1
      omega
    · have h1 := ih l hn (fun x hx => by
        have := h x hx
        have : x ≠ N := fun e => hN (e ▸ hx)
        omega)
      omega
/-- N different numbers below N are all of them. -/
theorem nodup_all (N : Nat) (l : List Nat) (hn : l.Nodup) (h : ∀ x ∈ l, x < N) (hl : l.length = N) (k : Nat) (hk : k < N) : k ∈ l := by
  refine Classical.byContradiction fun hc => ?_
  have h1 := nodup_le N (k :: l) (List.nodup_cons.2 ⟨hc, hn⟩) (fun x hx => by
    rcases List.mem_cons.1 hx with rfl | hx
    · exact hk
    · exact h x hx)
  simp at h1
  omega

end Go.Proofs.YtpgnndpjlcihiaaDoor
