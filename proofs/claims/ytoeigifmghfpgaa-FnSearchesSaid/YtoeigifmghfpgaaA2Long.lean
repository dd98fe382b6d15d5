/-
  a2Long of the laws, in a text of its own (not each seat holds the other helpers).
-/
import Derived.Test.YtoeigifmghfpgaaSrc
namespace Go.Proofs.Ytoeigifmghfpgaa
open Go.RowKit

theorem a2Long_any (v u : Value) (n m : Nat) (w : World) (hv : BI w v n) (hu : BI w u m) :
    Calls Try.prog 18 #[v, u] w fun e w' => ∃ b : Bool, e = .returned (.bool b) ∧ w = w' := by
  obtain ⟨a, cap, rfl⟩ := hv.shape
  obtain ⟨a2, cap2, rfl⟩ := hu.shape
  have l1 := hv.len
  have l2 := hu.len
  clear hv hu
  go_enter Try.func18, Try.ntmps18
  go_wp2
  all_goals
    go_ret
    first
      | exact ⟨_, rfl, rfl⟩
      | exact ⟨.inl rfl, rfl⟩
      | exact ⟨.inr rfl, rfl⟩

end Go.Proofs.Ytoeigifmghfpgaa
