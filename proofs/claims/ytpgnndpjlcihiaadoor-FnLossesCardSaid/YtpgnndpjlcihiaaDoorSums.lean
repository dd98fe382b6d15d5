/-
  The sum of a list of int64, of the reference and of the program.
-/
import Derived.Test.YtpgnndpjlcihiaaDoorCut
namespace Go.Proofs.YtpgnndpjlcihiaaDoor
open Go.RowKit

theorem l00Sum_any (v : Value) (xs : List Int) (w : World) (hv : RI w v xs) (hs : ∀ k, Good (sumI (xs.take k))) :
    Calls Tryd.prog 68 #[v] w fun e w' => e = .returned (.int .i64 (sumI xs)) ∧ w = w' := by
  obtain ⟨a, cap, rfl⟩ := hv.shape
  have hl := hv.len
  have HV := Lib.hid hv
  have HS := Lib.hid hs
  clear hv hs
  go_enter Tryd.func68, Tryd.ntmps68
  go_wp2
  go_loop [3, 4] (fun s i => ∃ k : Nat, k ≤ xs.length ∧ i = .int .i64 k ∧ s = .int .i64 (sumI (xs.take k))) (fun _ i => xs.length - (intOf i).toNat)
  case atStart => exact ⟨0, Nat.zero_le _, rfl, rfl⟩
  case round =>
    obtain ⟨k, hk, rfl, rfl⟩ := hrel
    by_cases hlt : k < xs.length
    · obtain ⟨b, off, rfl, hb, hc⟩ := HV.out.cells (by omega)
      have g := hc k hlt
      clear hc
      have h1 := HS.out k
      have h2 := HS.out (k + 1)
      rw [take_snoc xs k hlt, sumI_snoc] at h2
      have S1 : sumI (xs.take (k + 1)) = sumI (xs.take k) + xs.getD k 0 := by rw [take_snoc xs k hlt, sumI_snoc]
      generalize xs.getD k 0 = x at g h2 S1
      have H1 := Lib.hid S1
      clear S1
      generalize sumI (xs.take k) = s at *
      unfold Good at h1 h2
      go_wp2
      go_round
      case rel => exact ⟨k + 1, by omega, by go_num, by rw [H1.out]⟩
      case measure => simp [intOf]; omega
    · go_wp2
      go_ret
      exact ⟨ret_int (by rw [List.take_of_length_le (by omega)]), rfl⟩

theorem sumOf_any (v : Value) (xs : List Int) (w : World) (hv : RI w v xs) (hs : ∀ k, Good (sumI (xs.take k))) :
    Calls Tryd.prog 51 #[v] w fun e w' => e = .returned (.int .i64 (sumI xs)) ∧ w = w' := by
  obtain ⟨a, cap, rfl⟩ := hv.shape
  have hl := hv.len
  have HV := Lib.hid hv
  have HS := Lib.hid hs
  clear hv hs
  go_enter Tryd.func51, Tryd.ntmps51
  go_wp2
  go_loop [3, 8] (fun s i => ∃ k : Nat, k ≤ xs.length ∧ i = .int .i64 k ∧ s = .int .i64 (sumI (xs.take k))) (fun _ i => xs.length - (intOf i).toNat)
  case atStart => exact ⟨0, Nat.zero_le _, rfl, rfl⟩
  case round =>
    obtain ⟨k, hk, rfl, rfl⟩ := hrel
    by_cases hlt : k < xs.length
    · obtain ⟨b, off, rfl, hb, hc⟩ := HV.out.cells (by omega)
      have g := hc k hlt
      clear hc
      have h1 := HS.out k
      have h2 := HS.out (k + 1)
      rw [take_snoc xs k hlt, sumI_snoc] at h2
      have S1 : sumI (xs.take (k + 1)) = sumI (xs.take k) + xs.getD k 0 := by rw [take_snoc xs k hlt, sumI_snoc]
      generalize xs.getD k 0 = x at g h2 S1
      have H1 := Lib.hid S1
      clear S1
      generalize sumI (xs.take k) = s at *
      unfold Good at h1 h2
      go_wp2
      go_round
      case rel => exact ⟨k + 1, by omega, by go_num, by rw [H1.out]⟩
      case measure => simp [intOf]; omega
    · go_wp2
      go_ret
      exact ⟨ret_int (by rw [List.take_of_length_le (by omega)]), rfl⟩

end Go.Proofs.YtpgnndpjlcihiaaDoor
