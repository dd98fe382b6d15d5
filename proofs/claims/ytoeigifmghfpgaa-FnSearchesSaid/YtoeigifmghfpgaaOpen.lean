/-
  ValidOpenings of the reference and of the program: what each returns.
-/
import Derived.Test.YtoeigifmghfpgaaSlices
namespace Go.Proofs.Ytoeigifmghfpgaa
open Go.RowKit

/-- Prices of openings. -/
def okOpen (xs : List Int) : Bool := xs.all (inB 1 1000) && decide (xs.length ≤ 9)

theorem l16Ok_any (v : Value) (xs : List Int) (w : World) (hv : RI w v xs) :
    Calls Try.prog 40 #[v] w fun e w' => e = .returned (.bool (okOpen xs)) ∧ w = w' := by
  obtain ⟨a, cap, rfl⟩ := hv.shape
  have hl := hv.len
  have HV := Lib.hid hv
  clear hv
  go_enter Try.func40, Try.ntmps40
  go_wp2
  go_loop [2, 3] (fun r i => ∃ k : Nat, k ≤ xs.length ∧ r = .bool false ∧ i = .int .i64 k ∧ (xs.take k).all (inB 1 1000) = true) (fun _ i => xs.length - (intOf i).toNat)
  case atStart => exact ⟨0, Nat.zero_le _, rfl, rfl, rfl⟩
  case round =>
    obtain ⟨k, hk, rfl, rfl, hall⟩ := hrel
    have HA := Lib.hid hall
    clear hall
    by_cases hlt : k < xs.length
    · obtain ⟨b, off, rfl, hb, hc⟩ := HV.out.cells (by omega)
      have g := hc k hlt
      clear hc
      have S1 := take_snoc xs k hlt
      have hmem : xs.getD k 0 ∈ xs := by simp only [List.getD, List.getElem?_eq_getElem hlt, Option.getD_some]; exact List.getElem_mem hlt
      generalize xs.getD k 0 = x at g S1 hmem
      have HS := Lib.hid S1
      have HM := Lib.hid hmem
      clear S1 hmem
      cases hx : inB 1 1000 x with
      | true =>
        have HX := Lib.hid hx
        have hc := l00In_any x 1 1000 w
        rw [hx] at hc
        have HC := Lib.hid hc
        clear hx hc
        go_wp2_with fail
        refine HC.out.mono ?_
        rintro e w' ⟨rfl, rfl⟩
        go_wp2
        go_round
        case rel => exact ⟨k + 1, by omega, rfl, by go_num, by rw [HS.out, List.all_append, HA.out]; simp [HX.out]⟩
        case measure => simp [intOf]; omega
      | false =>
        have HX := Lib.hid hx
        have hc := l00In_any x 1 1000 w
        rw [hx] at hc
        have HC := Lib.hid hc
        clear hx hc
        go_wp2_with fail
        refine HC.out.mono ?_
        rintro e w' ⟨rfl, rfl⟩
        go_wp2
        go_ret
        refine ⟨ret_bool ?_, rfl⟩
        have : xs.all (inB 1 1000) = false := by rw [List.all_eq_false]; exact ⟨x, HM.out, by simp [HX.out]⟩
        simp [okOpen, this]
    · go_wp2
      go_ret
      refine ⟨ret_bool ?_, rfl⟩
      have h1 := HA.out
      rw [List.take_of_length_le (by omega)] at h1
      simp [okOpen, h1]
      omega

theorem specValidOpenings_any (v : Value) (xs : List Int) (w : World) (hv : RI w v xs) :
    Calls Try.prog 14 #[v] w fun e w' => e = .returned (.bool (okOpen xs)) ∧ w = w' := by
  have HV := Lib.hid hv
  clear hv
  go_enter Try.func14, Try.ntmps14
  go_wp2_with fail
  refine (l16Ok_any v xs _ HV.out).mono ?_
  rintro e w' ⟨rfl, rfl⟩
  go_wp2
  go_ret
  exact ⟨rfl, rfl⟩

theorem okOpen_eq (xs : List Int) : (decide (xs.length ≤ 9) && !(xs.any fun n => !inB 1 1000 n)) = okOpen xs := by
  unfold okOpen
  rw [Bool.and_comm]
  congr 1
  induction xs with
  | nil => rfl
  | cons x xs ih => simp [List.all_cons, List.any_cons, ← ih]

theorem implValidOpenings_any (v : Value) (xs : List Int) (w : World) (hv : RI w v xs) :
    Calls Try.prog 16 #[v] w fun e w' => e = .returned (.bool (okOpen xs)) ∧ Below w.heap.size w w' := by
  obtain ⟨a, cap, rfl⟩ := hv.shape
  have hl := hv.len
  have HV := Lib.hid hv
  have HE := Lib.hid (okOpen_eq xs)
  clear hv
  by_cases h9 : xs.length ≤ 9
  · go_enter Try.func16, Try.ntmps16
    go_wp2_with fail
    refine (outside_any _ xs _ _ _ HV.out).mono ?_
    rintro e w' ⟨rfl, hb⟩
    go_wp2
    go_ret
    refine ⟨ret_bool ?_, hb⟩
    rw [← HE.out]
    simp [h9]
  · have hd : decide ((xs.length : Int) ≤ 9) = false := by simp; omega
    go_enter Try.func16, Try.ntmps16
    go_wp2
    go_ret
    refine ⟨ret_bool ?_, Below.refl _ _⟩
    simp [okOpen, h9]

end Go.Proofs.Ytoeigifmghfpgaa
