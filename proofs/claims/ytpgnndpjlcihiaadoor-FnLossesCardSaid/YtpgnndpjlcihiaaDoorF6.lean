/-
  f6big and f6ints of the laws.
-/
import Derived.Test.YtpgnndpjlcihiaaDoorSrc
import Derived.Test.YtpgnndpjlcihiaaDoorIn
namespace Go.Proofs.YtpgnndpjlcihiaaDoor
open Go.RowKit

theorem f6big_any (v : Value) (n : Nat) (w : World) (hv : BI w v n) :
    Calls Tryd.prog 8 #[v] w fun e w' => ∃ b : Bool, e = .returned (.bool b) ∧ w = w' := by
  obtain ⟨a, cap, rfl⟩ := hv.shape
  clear hv
  go_enter Tryd.func8, Tryd.ntmps8
  go_wp2
  go_ret
  first
    | exact ⟨_, rfl, rfl⟩
    | exact ⟨.inl rfl, rfl⟩
    | exact ⟨.inr rfl, rfl⟩

/-- Two readings of one list are equal. -/
theorem f6ints_any (v : Value) (u : Value) (xs : List Int) (w : World) (hv : RI w v xs) (hu : RI w u xs) :
    Calls Tryd.prog 24 #[v, u] w fun e w' => e = .returned (.bool true) ∧ Below w.heap.size w w' := by
  obtain ⟨a, cap, rfl⟩ := hv.shape
  obtain ⟨a2, cap2, rfl⟩ := hu.shape
  have hl := hv.len
  have HV := Lib.hid hv
  have HU := Lib.hid hu
  clear hv hu
  go_enter Tryd.func24, Tryd.ntmps24
  go_wp2_with fail
  go_loopw [5] (fun i wr => ∃ k : Nat, k ≤ xs.length ∧ i = .int .i64 k ∧ Below w.heap.size w wr) (fun i _ => xs.length - (intOf i).toNat)
  case atStart => exact ⟨0, Nat.zero_le _, rfl, Below.refl _ _⟩
  case round =>
    obtain ⟨k, hk, rfl, hb⟩ := hrel
    by_cases hlt : k < xs.length
    · obtain ⟨b, off, rfl, hbl, hc⟩ := HV.out.cells (by omega)
      obtain ⟨b2, off2, rfl, hbl2, hc2⟩ := HU.out.cells (by omega)
      have g := (hb.cell (p := ⟨b, off + k, none⟩) hbl).trans (hc k hlt)
      have g2 := (hb.cell (p := ⟨b2, off2 + k, none⟩) hbl2).trans (hc2 k hlt)
      have hki : (k : Int) < xs.length := by omega
      clear hc hc2
      generalize xs.getD k 0 = x at g g2
      go_wp2_with fail
      go_quiet (fail)
      go_wp2_with fail
      go_roundw
      case rel => exact ⟨k + 1, by omega, by go_num, below_drewN hb _⟩
      case measure => simp [intOf]; omega
    · obtain rfl : k = xs.length := by omega
      go_wp2_with fail
      go_ret
      exact ⟨rfl, hb⟩

end Go.Proofs.YtpgnndpjlcihiaaDoor
