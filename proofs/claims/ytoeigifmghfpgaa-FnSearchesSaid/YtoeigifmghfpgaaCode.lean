/-
  The code of prices and of sections, of the reference and of the program.
-/
import Derived.Test.YtoeigifmghfpgaaOpen
namespace Go.Proofs.Ytoeigifmghfpgaa
open Go.RowKit

/-- The code of prices and sections from one to another one. -/
def codeS (xs : List Int) (lo hi : Int) : Int := if okOpen xs = true then (if 0 ≤ lo ∧ lo ≤ hi ∧ hi ≤ xs.length then 0 else 2) else 1

theorem isSection_any (a : Option Addr) (n cap : Nat) (x : Int) (w : World) : Calls Try.prog 57 #[.slice a n cap, .int .i64 x] w fun e w' => e = .returned (.bool (inB 0 n x)) ∧ w = w' := by
  go_enter Try.func57, Try.ntmps57
  go_wp2_with (go_at_call 61; refine (within_any _ _ _ _).mono ?_; rintro e w' ⟨rfl, rfl⟩)
  go_ret
  exact ⟨rfl, rfl⟩

theorem sectionsCode_any (v : Value) (xs : List Int) (lo hi : Int) (w : World) (hv : RI w v xs) :
    Calls Try.prog 45 #[v, .int .i64 lo, .int .i64 hi] w fun e w' => e = .returned (.int .i64 (codeS xs lo hi)) ∧ Below w.heap.size w w' := by
  obtain ⟨a, cap, rfl⟩ := hv.shape
  have HV := Lib.hid hv
  clear hv
  cases hok : okOpen xs with
  | false =>
    go_enter Try.func45, Try.ntmps45
    go_wp2_with (go_at_call 16; refine (implValidOpenings_any _ xs _ HV.out).mono ?_; rintro e w1 ⟨rfl, hb⟩)
    go_ret
    exact ⟨ret_int (by simp [codeS, hok]), by assumption⟩
  | true =>
    cases h1 : inB 0 xs.length lo with
    | false =>
      have e1 : codeS xs lo hi = 2 := by
        unfold codeS; rw [if_pos hok, if_neg]; intro h; simp [inB] at h1; omega
      have HE := Lib.hid e1
      clear e1
      go_enter Try.func45, Try.ntmps45
      go_wp2_with (first | (go_at_call 16; refine (implValidOpenings_any _ xs _ HV.out).mono ?_; rintro e w1 ⟨rfl, hb⟩) | (go_at_call 57; refine (isSection_any _ _ _ _ _).mono ?_; rintro e w' ⟨rfl, rfl⟩))
      go_ret
      exact ⟨ret_int HE.out.symm, by assumption⟩
    | true =>
      cases h2 : inB 0 xs.length hi with
      | false =>
        have e1 : codeS xs lo hi = 2 := by
          unfold codeS; rw [if_pos hok, if_neg]; intro h; simp [inB] at h1 h2; omega
        have HE := Lib.hid e1
        clear e1
        go_enter Try.func45, Try.ntmps45
        go_wp2_with (first | (go_at_call 16; refine (implValidOpenings_any _ xs _ HV.out).mono ?_; rintro e w1 ⟨rfl, hb⟩) | (go_at_call 57; refine (isSection_any _ _ _ _ _).mono ?_; rintro e w' ⟨rfl, rfl⟩))
        go_ret
        exact ⟨ret_int HE.out.symm, by assumption⟩
      | true =>
        by_cases h3 : hi < lo
        · have e1 : codeS xs lo hi = 2 := by
            unfold codeS; rw [if_pos hok, if_neg]; intro h; simp [inB] at h1 h2; omega
          have HE := Lib.hid e1
          clear e1
          go_enter Try.func45, Try.ntmps45
          go_wp2_with (first | (go_at_call 16; refine (implValidOpenings_any _ xs _ HV.out).mono ?_; rintro e w1 ⟨rfl, hb⟩) | (go_at_call 57; refine (isSection_any _ _ _ _ _).mono ?_; rintro e w' ⟨rfl, rfl⟩))
          go_ret
          exact ⟨ret_int HE.out.symm, by assumption⟩
        · have e1 : codeS xs lo hi = 0 := by
            unfold codeS; rw [if_pos hok, if_pos]; simp [inB] at h1 h2; omega
          have HE := Lib.hid e1
          clear e1
          have h3d : decide (hi < lo) = false := by simpa using h3
          go_enter Try.func45, Try.ntmps45
          go_wp2_with (first | (go_at_call 16; refine (implValidOpenings_any _ xs _ HV.out).mono ?_; rintro e w1 ⟨rfl, hb⟩) | (go_at_call 57; refine (isSection_any _ _ _ _ _).mono ?_; rintro e w' ⟨rfl, rfl⟩))
          go_ret
          exact ⟨ret_int HE.out.symm, by assumption⟩

theorem l16Code_any (v : Value) (xs : List Int) (lo hi : Int) (w : World) (hv : RI w v xs) :
    Calls Try.prog 49 #[v, .int .i64 lo, .int .i64 hi] w fun e w' => e = .returned (.int .i64 (codeS xs lo hi)) ∧ w = w' := by
  obtain ⟨a, cap, rfl⟩ := hv.shape
  have HV := Lib.hid hv
  clear hv
  cases hok : okOpen xs with
  | false =>
    go_enter Try.func49, Try.ntmps49
    go_wp2_with (go_at_call 40; refine (l16Ok_any _ xs _ HV.out).mono ?_; rintro e w1 ⟨rfl, rfl⟩)
    go_ret
    exact ⟨ret_int (by simp [codeS, hok]), rfl⟩
  | true =>
    cases h1 : inB 0 xs.length hi with
    | false =>
      have e1 : codeS xs lo hi = 2 := by
        unfold codeS; rw [if_pos hok, if_neg]; intro h; simp [inB] at h1; omega
      have HE := Lib.hid e1
      clear e1
      go_enter Try.func49, Try.ntmps49
      go_wp2_with (first | (go_at_call 40; refine (l16Ok_any _ xs _ HV.out).mono ?_; rintro e w1 ⟨rfl, rfl⟩) | (go_at_call 58; refine (l00In_any _ _ _ _).mono ?_; rintro e w' ⟨rfl, rfl⟩))
      go_ret
      exact ⟨ret_int HE.out.symm, rfl⟩
    | true =>
      cases h2 : inB 0 hi lo with
      | false =>
        have e1 : codeS xs lo hi = 2 := by
          unfold codeS; rw [if_pos hok, if_neg]; intro h; simp [inB] at h1 h2; omega
        have HE := Lib.hid e1
        clear e1
        go_enter Try.func49, Try.ntmps49
        go_wp2_with (first | (go_at_call 40; refine (l16Ok_any _ xs _ HV.out).mono ?_; rintro e w1 ⟨rfl, rfl⟩) | (go_at_call 58; refine (l00In_any _ _ _ _).mono ?_; rintro e w' ⟨rfl, rfl⟩))
        go_ret
        exact ⟨ret_int HE.out.symm, rfl⟩
      | true =>
        have e1 : codeS xs lo hi = 0 := by
          unfold codeS; rw [if_pos hok, if_pos]; simp [inB] at h1 h2; omega
        have HE := Lib.hid e1
        clear e1
        go_enter Try.func49, Try.ntmps49
        go_wp2_with (first | (go_at_call 40; refine (l16Ok_any _ xs _ HV.out).mono ?_; rintro e w1 ⟨rfl, rfl⟩) | (go_at_call 58; refine (l00In_any _ _ _ _).mono ?_; rintro e w' ⟨rfl, rfl⟩))
        go_ret
        exact ⟨ret_int HE.out.symm, rfl⟩

end Go.Proofs.Ytoeigifmghfpgaa
