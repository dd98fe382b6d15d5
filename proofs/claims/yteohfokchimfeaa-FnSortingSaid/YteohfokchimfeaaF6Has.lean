/-
  f6has of the laws.
-/
import Derived.Test.YteohfokchimfeaaBase
namespace Go.Proofs.Yteohfokchimfeaa
open Go.RowKit

theorem f6has_any (v : Value) (xs : List Int) (x : Int) (w : World) (hv : RI w v xs) :
    Calls Try.prog 56 #[v, .int .i64 x] w fun e w' => e = .returned (.bool (decide (x ∈ xs))) ∧ w = w' := by
  obtain ⟨a, cap, rfl⟩ := hv.shape
  have hl := hv.len
  have HV := Lib.hid hv
  clear hv
  go_enter Try.func56, Try.ntmps56
  go_wp2
  go_loop [5] (fun i => ∃ k : Nat, k ≤ xs.length ∧ i = .int .i64 k ∧ ∀ y ∈ xs.take k, y ≠ x) (fun i => xs.length - (intOf i).toNat)
  case atStart => exact ⟨0, Nat.zero_le _, rfl, by simp⟩
  case round =>
    obtain ⟨k, hk, rfl, hno⟩ := hrel
    have HNO := Lib.hid hno
    clear hno
    by_cases hlt : k < xs.length
    · obtain ⟨b, off, rfl, hb, hc⟩ := HV.out.cells (by omega)
      have g := hc k hlt
      clear hc
      have S1 := take_snoc xs k hlt
      have hmem : xs.getD k 0 ∈ xs := by simp only [List.getD, List.getElem?_eq_getElem hlt, Option.getD_some]; exact List.getElem_mem hlt
      generalize xs.getD k 0 = y at g S1 hmem
      have HS := Lib.hid S1
      have HM := Lib.hid hmem
      clear S1 hmem
      by_cases hy : y = x
      · have hyb : (y == x) = true := by rw [beq_iff_eq]; exact hy
        have HE := Lib.hid (show decide (x ∈ xs) = true from decide_eq_true (hy ▸ HM.out))
        clear hy
        go_wp2
        go_ret
        exact ⟨ret_bool HE.out.symm, rfl⟩
      · have hyb : (y == x) = false := by rw [beq_eq_false_iff_ne]; exact hy
        have HY := Lib.hid hy
        clear hy
        go_wp2
        go_round
        case rel => exact ⟨k + 1, by omega, by go_num, by
          intro z hz
          rw [HS.out] at hz
          rcases List.mem_append.1 hz with hz | hz
          · exact HNO.out z hz
          · rw [List.mem_singleton.1 hz]; exact HY.out⟩
        case measure => simp [intOf]; omega
    · have HE := Lib.hid (show decide (x ∈ xs) = false from decide_eq_false (fun hm => HNO.out x (by rw [List.take_of_length_le (by omega)]; exact hm) rfl))
      go_wp2
      go_ret
      exact ⟨ret_bool HE.out.symm, rfl⟩

end Go.Proofs.Yteohfokchimfeaa
