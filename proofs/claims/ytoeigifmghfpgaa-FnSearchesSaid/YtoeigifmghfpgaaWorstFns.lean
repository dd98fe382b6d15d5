/-
  WorstSearch and NextOpening of both sides.
-/
import Derived.Test.YtoeigifmghfpgaaPrice
import Derived.Test.YtoeigifmghfpgaaCode
namespace Go.Proofs.Ytoeigifmghfpgaa
open Go.RowKit Plain

theorem codeS_zero {xs : List Int} {lo hi : Int} (h : codeS xs lo hi = 0) : okOpen xs = true ∧ 0 ≤ lo ∧ lo ≤ hi ∧ hi ≤ xs.length := by
  unfold codeS at h
  split at h
  · rename_i h1
    split at h
    · rename_i h2; exact ⟨h1, h2⟩
    · simp at h
  · simp at h

/-- The worst price of sections, and a code. -/
def valWorst (xs : List Int) (lo hi : Int) : Int × Int := if codeS xs lo hi = 0 then ((price (cWorst xs) 9 lo.toNat hi.toNat).1, 0) else (0, codeS xs lo hi)
/-- The next opening for sections, and a code. -/
def valNext (xs : List Int) (lo hi : Int) : Int × Int := if codeS xs lo hi = 0 then (if lo = hi then (0, 6) else ((price (cWorst xs) 9 lo.toNat hi.toNat).2, 0)) else (0, codeS xs lo hi)

theorem specWorstSearch_any (v : Value) (xs : List Int) (lo hi : Int) (w : World) (hv : RI w v xs) :
    Calls Try.prog 33 #[v, .int .i64 lo, .int .i64 hi] w fun e w' => e = .returned (.tuple #[.int .i64 (valWorst xs lo hi).1, .int .i64 (valWorst xs lo hi).2]) ∧ Below w.heap.size w w' := by
  have HV := Lib.hid hv
  clear hv
  by_cases hc : codeS xs lo hi = 0
  · obtain ⟨hok, h1, h2, h3⟩ := codeS_zero hc
    have l9 := okOpen_len hok
    have C2 := Lib.hid (worst_any v xs hok 9 lo.toNat hi.toNat lo hi w (by omega) (by omega) (by omega) (by omega) (by omega) (by omega) HV.out)
    have HE : Hid (valWorst xs lo hi = ((price (cWorst xs) 9 lo.toNat hi.toNat).1, 0)) := if_pos hc
    have C1 := l16Code_any v xs lo hi w HV.out
    rw [hc] at C1
    have C1 := Lib.hid C1
    clear hc
    go_enter Try.func33, Try.ntmps33
    go_wp2_with fail
    refine C1.out.mono ?_
    rintro e w' ⟨rfl, rfl⟩
    go_wp2_with fail
    refine C2.out.mono ?_
    rintro e w' ⟨rfl, hb⟩
    go_wp2_with fail
    go_ret2
    exact ⟨ret_ii (by rw [HE.out]) (by rw [HE.out]), hb⟩
  · have HE : Hid (valWorst xs lo hi = (0, codeS xs lo hi)) := if_neg hc
    have C1 := Lib.hid (l16Code_any v xs lo hi w HV.out)
    generalize codeS xs lo hi = c at *
    have hn : (c != 0) = true := by rw [bne_iff_ne]; exact hc
    clear hc
    go_enter Try.func33, Try.ntmps33
    go_wp2_with fail
    refine C1.out.mono ?_
    rintro e w' ⟨rfl, rfl⟩
    go_wp2_with fail
    go_ret2
    exact ⟨ret_ii (by rw [HE.out]) (by rw [HE.out]), Below.refl _ _⟩

theorem implWorstSearch_any (v : Value) (xs : List Int) (lo hi : Int) (w : World) (hv : RI w v xs) :
    Calls Try.prog 20 #[v, .int .i64 lo, .int .i64 hi] w fun e w' => e = .returned (.tuple #[.int .i64 (valWorst xs lo hi).1, .int .i64 (valWorst xs lo hi).2]) ∧ Below w.heap.size w w' := by
  obtain ⟨a, cap, rfl⟩ := hv.shape
  have HV := Lib.hid hv
  clear hv
  by_cases hc : codeS xs lo hi = 0
  · obtain ⟨hok, h1, h2, h3⟩ := codeS_zero hc
    have l9 := okOpen_len hok
    have C2 := Lib.hid (fun W B => priceW_any _ xs hok 9 lo.toNat hi.toNat lo hi W (by omega) (by omega) (by omega) (by omega) (by omega) (by omega) (HV.out.below B))
    have HE : Hid (valWorst xs lo hi = ((price (cWorst xs) 9 lo.toNat hi.toNat).1, 0)) := if_pos hc
    have C1 := sectionsCode_any _ xs lo hi w HV.out
    rw [hc] at C1
    have C1 := Lib.hid C1
    clear hc
    go_enter Try.func20, Try.ntmps20
    go_wp2_with fail
    refine C1.out.mono ?_
    rintro e w1 ⟨rfl, hb1⟩
    go_wp2_with fail
    refine (C2.out _ hb1).mono ?_
    rintro e w2 ⟨rfl, hb2⟩
    go_wp2_with fail
    go_ret2
    exact ⟨ret_ii (by rw [HE.out]) (by rw [HE.out]), bthen hb1 hb2⟩
  · have HE : Hid (valWorst xs lo hi = (0, codeS xs lo hi)) := if_neg hc
    have C1 := Lib.hid (sectionsCode_any _ xs lo hi w HV.out)
    generalize codeS xs lo hi = c at *
    have hn : (c != 0) = true := by rw [bne_iff_ne]; exact hc
    clear hc
    go_enter Try.func20, Try.ntmps20
    go_wp2_with fail
    refine C1.out.mono ?_
    rintro e w1 ⟨rfl, hb1⟩
    go_wp2_with fail
    go_ret2
    exact ⟨ret_ii (by rw [HE.out]) (by rw [HE.out]), hb1⟩

theorem specNextOpening_any (v : Value) (xs : List Int) (lo hi : Int) (w : World) (hv : RI w v xs) :
    Calls Try.prog 34 #[v, .int .i64 lo, .int .i64 hi] w fun e w' => e = .returned (.tuple #[.int .i64 (valNext xs lo hi).1, .int .i64 (valNext xs lo hi).2]) ∧ Below w.heap.size w w' := by
  have HV := Lib.hid hv
  clear hv
  by_cases hc : codeS xs lo hi = 0
  · obtain ⟨hok, h1, h2, h3⟩ := codeS_zero hc
    have l9 := okOpen_len hok
    have C2 := Lib.hid (worst_any v xs hok 9 lo.toNat hi.toNat lo hi w (by omega) (by omega) (by omega) (by omega) (by omega) (by omega) HV.out)
    have HE : Hid (valNext xs lo hi = if lo = hi then (0, 6) else ((price (cWorst xs) 9 lo.toNat hi.toNat).2, 0)) := if_pos hc
    have C1 := l16Code_any v xs lo hi w HV.out
    rw [hc] at C1
    have C1 := Lib.hid C1
    clear hc
    by_cases hlh : lo = hi
    · have HE2 := Lib.hid (HE.out.trans (if_pos hlh))
      have hb : (lo == hi) = true := by rw [beq_iff_eq]; exact hlh
      clear hlh
      go_enter Try.func34, Try.ntmps34
      go_wp2_with fail
      refine C1.out.mono ?_
      rintro e w' ⟨rfl, rfl⟩
      go_wp2_with fail
      go_ret2
      exact ⟨ret_ii (by rw [HE2.out]) (by rw [HE2.out]), Below.refl _ _⟩
    · have HE2 := Lib.hid (HE.out.trans (if_neg hlh))
      have hb : (lo == hi) = false := by rw [beq_eq_false_iff_ne]; exact hlh
      clear hlh
      go_enter Try.func34, Try.ntmps34
      go_wp2_with fail
      refine C1.out.mono ?_
      rintro e w' ⟨rfl, rfl⟩
      go_wp2_with fail
      refine C2.out.mono ?_
      rintro e w' ⟨rfl, hb⟩
      go_wp2_with fail
      go_ret2
      exact ⟨ret_ii (by rw [HE2.out]) (by rw [HE2.out]), hb⟩
  · have HE : Hid (valNext xs lo hi = (0, codeS xs lo hi)) := if_neg hc
    have C1 := Lib.hid (l16Code_any v xs lo hi w HV.out)
    generalize codeS xs lo hi = c at *
    have hn : (c != 0) = true := by rw [bne_iff_ne]; exact hc
    have hn2 : (c == 0) = false := by rw [beq_eq_false_iff_ne]; exact hc
    clear hc
    go_enter Try.func34, Try.ntmps34
    go_wp2_with fail
    refine C1.out.mono ?_
    rintro e w' ⟨rfl, rfl⟩
    go_wp2_with fail
    go_ret2
    exact ⟨ret_ii (by rw [HE.out]) (by rw [HE.out]), Below.refl _ _⟩

theorem implNextOpening_any (v : Value) (xs : List Int) (lo hi : Int) (w : World) (hv : RI w v xs) :
    Calls Try.prog 26 #[v, .int .i64 lo, .int .i64 hi] w fun e w' => e = .returned (.tuple #[.int .i64 (valNext xs lo hi).1, .int .i64 (valNext xs lo hi).2]) ∧ Below w.heap.size w w' := by
  obtain ⟨a, cap, rfl⟩ := hv.shape
  have HV := Lib.hid hv
  clear hv
  by_cases hc : codeS xs lo hi = 0
  · obtain ⟨hok, h1, h2, h3⟩ := codeS_zero hc
    have l9 := okOpen_len hok
    have C2 := Lib.hid (fun W B => priceW_any _ xs hok 9 lo.toNat hi.toNat lo hi W (by omega) (by omega) (by omega) (by omega) (by omega) (by omega) (HV.out.below B))
    have HE : Hid (valNext xs lo hi = if lo = hi then (0, 6) else ((price (cWorst xs) 9 lo.toNat hi.toNat).2, 0)) := if_pos hc
    have C1 := sectionsCode_any _ xs lo hi w HV.out
    rw [hc] at C1
    have C1 := Lib.hid C1
    clear hc
    by_cases hlh : lo = hi
    · have HE2 := Lib.hid (HE.out.trans (if_pos hlh))
      have hb : (lo == hi) = true := by rw [beq_iff_eq]; exact hlh
      clear hlh
      go_enter Try.func26, Try.ntmps26
      go_wp2_with fail
      refine C1.out.mono ?_
      rintro e w1 ⟨rfl, hb1⟩
      go_wp2_with fail
      go_ret2
      exact ⟨ret_ii (by rw [HE2.out]) (by rw [HE2.out]), hb1⟩
    · have HE2 := Lib.hid (HE.out.trans (if_neg hlh))
      have hb : (lo == hi) = false := by rw [beq_eq_false_iff_ne]; exact hlh
      clear hlh
      go_enter Try.func26, Try.ntmps26
      go_wp2_with fail
      refine C1.out.mono ?_
      rintro e w1 ⟨rfl, hb1⟩
      go_wp2_with fail
      refine (C2.out _ hb1).mono ?_
      rintro e w2 ⟨rfl, hb2⟩
      go_wp2_with fail
      go_ret2
      exact ⟨ret_ii (by rw [HE2.out]) (by rw [HE2.out]), bthen hb1 hb2⟩
  · have HE : Hid (valNext xs lo hi = (0, codeS xs lo hi)) := if_neg hc
    have C1 := Lib.hid (sectionsCode_any _ xs lo hi w HV.out)
    generalize codeS xs lo hi = c at *
    have hn : (c != 0) = true := by rw [bne_iff_ne]; exact hc
    clear hc
    go_enter Try.func26, Try.ntmps26
    go_wp2_with fail
    refine C1.out.mono ?_
    rintro e w1 ⟨rfl, hb1⟩
    go_wp2_with fail
    go_ret2
    exact ⟨ret_ii (by rw [HE.out]) (by rw [HE.out]), hb1⟩

end Go.Proofs.Ytoeigifmghfpgaa
