/-
  DueDay, NextDue and LateBy of the reference and of the program: what each returns.
-/
import Derived.Test.YtjpihhioaccgbaaPoints
import Derived.Deep.RegionWith
namespace Go.Proofs.Ytjpihhioaccgbaa
open Go.RowKit

/-- The first day on which a point is due. -/
def due (p : Int × Int) : Int := p.2 + p.1
/-- The code of points and a day. -/
def codeP (xs : List (Int × Int)) (day : Int) : Int := if okPoints xs then (if inB 0 100000 day then 0 else 2) else 1
/-- The least due day of the first points. -/
def leastTo (xs : List (Int × Int)) (k : Nat) : Int := (xs.take k).foldl (fun a p => min a (due p)) (due (xs.getD 0 (0, 0)))
/-- The days since the first points were due. -/
def lateTo (xs : List (Int × Int)) (day : Int) (k : Nat) : Int := (xs.take k).foldl (fun a p => a + max (day - due p) 0) 0

def valDueDay (xs : List (Int × Int)) (k : Int) : Int × Int := if okPoints xs then (if inB 0 (xs.length - 1) k then (due (xs.getD k.toNat (0, 0)), 0) else (0, 2)) else (0, 1)
def valNextDue (xs : List (Int × Int)) : Int × Int := if okPoints xs then (if 0 < xs.length then (leastTo xs xs.length, 0) else (0, 3)) else (0, 1)
def valLateBy (xs : List (Int × Int)) (day : Int) : Int × Int := if codeP xs day = 0 then (lateTo xs day xs.length, 0) else (0, codeP xs day)

theorem okPoints_len {xs : List (Int × Int)} (h : okPoints xs = true) : xs.length ≤ 30 := by
  simp [okPoints] at h; exact h.2
theorem okPoints_at {xs : List (Int × Int)} (h : okPoints xs = true) {k : Nat} (hk : k < xs.length) : (1 ≤ (xs.getD k (0, 0)).1 ∧ (xs.getD k (0, 0)).1 ≤ 1000) ∧ 0 ≤ (xs.getD k (0, 0)).2 ∧ (xs.getD k (0, 0)).2 ≤ 100000 := by
  simp only [okPoints, Bool.and_eq_true, List.all_eq_true] at h
  have h1 := h.1 _ (List.getElem_mem hk)
  simp only [List.getD, List.getElem?_eq_getElem hk, Option.getD_some]
  simp only [okPoint, inB, Bool.and_eq_true, decide_eq_true_eq] at h1
  omega
theorem leastTo_succ (xs : List (Int × Int)) (k : Nat) (hk : k < xs.length) : leastTo xs (k + 1) = min (leastTo xs k) (due (xs.getD k (0, 0))) := by
  unfold leastTo
  rw [take_snocG (0, 0) xs k hk, List.foldl_append]; rfl
theorem lateTo_succ (xs : List (Int × Int)) (day : Int) (k : Nat) (hk : k < xs.length) : lateTo xs day (k + 1) = lateTo xs day k + max (day - due (xs.getD k (0, 0))) 0 := by
  unfold lateTo
  rw [take_snocG (0, 0) xs k hk, List.foldl_append]; rfl
theorem leastTo_bound {xs : List (Int × Int)} (h : okPoints xs = true) (h0 : 0 < xs.length) (k : Nat) (hk : k ≤ xs.length) : 0 ≤ leastTo xs k ∧ leastTo xs k ≤ 101000 := by
  induction k with
  | zero => have := okPoints_at h h0; simp only [leastTo, List.take_zero, List.foldl_nil, due]; omega
  | succ k ih =>
    have := okPoints_at h (show k < xs.length by omega)
    have := ih (by omega)
    rw [leastTo_succ xs k (by omega)]
    simp only [due]; omega
theorem lateTo_bound {xs : List (Int × Int)} (h : okPoints xs = true) {day : Int} (hd : day ≤ 100000) (k : Nat) (hk : k ≤ xs.length) : 0 ≤ lateTo xs day k ∧ lateTo xs day k ≤ 100000 * k := by
  induction k with
  | zero => simp [lateTo]
  | succ k ih =>
    have := okPoints_at h (show k < xs.length by omega)
    have := ih (by omega)
    rw [lateTo_succ xs day k (by omega)]
    simp only [due]; omega
theorem leastTo_one (xs : List (Int × Int)) (h0 : 0 < xs.length) : leastTo xs 1 = due (xs.getD 0 (0, 0)) := by
  rw [leastTo_succ xs 0 h0]; simp [leastTo]

/-! ### the program -/
theorem due_any (x y : Int) (w : World) (hx : 0 ≤ x ∧ x ≤ 1000) (hy : 0 ≤ y ∧ y ≤ 100000) : Calls Try.prog 31 #[.agg #[.int .i64 x, .int .i64 y]] w fun e w' => e = .returned (.int .i64 (y + x)) ∧ Below w.heap.size w w' := by
  have hb : ∀ o : Obj, Below w.heap.size w (w.alloc o) := fun o => (Below.refl _ _).alloc (Nat.le_refl _) _
  obtain ⟨x0, x1⟩ := hx
  obtain ⟨y0, y1⟩ := hy
  go_enter Try.func31, Try.ntmps31
  go_wp2
  go_ret
  exact ⟨rfl, hb _⟩

theorem pointsCode_any (v : Value) (xs : List (Int × Int)) (day : Int) (w : World) (hv : SI P2 w v xs) :
    Calls Try.prog 35 #[v, .int .i64 day] w fun e w' => e = .returned (.int .i64 (codeP xs day)) ∧ Below w.heap.size w w' := by
  have C1 := implValidPoints_any v xs w hv
  clear hv
  cases h1 : okPoints xs with
  | false =>
    rw [h1] at C1
    have D1 := Lib.hid C1
    clear C1
    go_enter Try.func35, Try.ntmps35
    go_wp2_with (go_at_call 14; refine D1.out.mono ?_; rintro e w1 ⟨rfl, hb1⟩)
    go_ret
    exact ⟨ret_int (by simp [codeP, h1]), hb1⟩
  | true =>
    rw [h1] at C1
    have D1 := Lib.hid C1
    clear C1
    cases h2 : inB 0 100000 day with
    | false =>
      go_enter Try.func35, Try.ntmps35
      go_wp2_with (first | (go_at_call 14; refine D1.out.mono ?_; rintro e w1 ⟨rfl, hb1⟩) | (go_at_call 37; refine (isRoundDay_any _ _).mono ?_; rintro e w' ⟨rfl, rfl⟩; rw [h2]))
      go_ret
      exact ⟨ret_int (by simp [codeP, h1, h2]), hb1⟩
    | true =>
      go_enter Try.func35, Try.ntmps35
      go_wp2_with (first | (go_at_call 14; refine D1.out.mono ?_; rintro e w1 ⟨rfl, hb1⟩) | (go_at_call 37; refine (isRoundDay_any _ _).mono ?_; rintro e w' ⟨rfl, rfl⟩; rw [h2]))
      go_ret
      exact ⟨ret_int (by simp [codeP, h1, h2]), hb1⟩

theorem implDueDay_any (v : Value) (xs : List (Int × Int)) (k : Int) (w : World) (hv : SI P2 w v xs) :
    Calls Try.prog 16 #[v, .int .i64 k] w fun e w' => e = .returned (.tuple #[.int .i64 (valDueDay xs k).1, .int .i64 (valDueDay xs k).2]) ∧ Below w.heap.size w w' := by
  obtain ⟨a, cap, rfl⟩ := hv.shape
  have hl := hv.len
  have HV := Lib.hid hv
  have C1 := implValidPoints_any _ xs w hv
  clear hv
  cases h1 : okPoints xs with
  | false =>
    rw [h1] at C1
    have D1 := Lib.hid C1
    have HE := Lib.hid (show valDueDay xs k = (0, 1) by simp [valDueDay, h1])
    clear C1 h1
    go_enter Try.func16, Try.ntmps16
    go_wp2_with (go_at_call 14; refine D1.out.mono ?_; rintro e w1 ⟨rfl, hb1⟩)
    go_ret2
    exact ⟨by rw [HE.out]; rfl, hb1⟩
  | true =>
    rw [h1] at C1
    have D1 := Lib.hid C1
    have HK := Lib.hid h1
    clear C1
    have h30 := okPoints_len h1
    cases h2 : inB 0 (xs.length - 1) k with
    | false =>
      have HE := Lib.hid (show valDueDay xs k = (0, 2) by simp [valDueDay, h1, h2])
      have HB := Lib.hid h2
      clear h1 h2
      go_enter Try.func16, Try.ntmps16
      go_wp2_with (first | (go_at_call 14; refine D1.out.mono ?_; rintro e w1 ⟨rfl, hb1⟩) | (go_at_call 30; refine (within_any _ _ _ _).mono ?_; rintro e w' ⟨rfl, rfl⟩; rw [HB.out]))
      go_ret2
      exact ⟨by rw [HE.out]; rfl, hb1⟩
    | true =>
      have HE := Lib.hid (show valDueDay xs k = (due (xs.getD k.toNat (0, 0)), 0) by simp [valDueDay, h1, h2])
      have hkk : 0 ≤ k ∧ k ≤ (xs.length : Int) - 1 := by simpa [inB] using h2
      obtain ⟨j, rfl⟩ : ∃ j : Nat, k = j := ⟨k.toNat, by omega⟩
      have hlt : j < xs.length := by omega
      have HB := Lib.hid h2
      obtain ⟨b, off, rfl, hb, hc⟩ := HV.out.cells2 (by omega)
      obtain ⟨g1, g2⟩ := hc j hlt
      have HP := okPoints_at h1 hlt
      rw [show ((j : Nat) : Int).toNat = j by simp] at HE
      generalize xs.getD j (0, 0) = p at g1 g2 HP HE
      obtain ⟨x, y⟩ := p
      simp only at g1 g2 HP
      have HC := Lib.hid (And.intro g1 g2)
      clear h1 h2 hc hkk g1 g2
      go_enter Try.func16, Try.ntmps16
      go_wp2_with (first | (go_at_call 14; refine D1.out.mono ?_; rintro e w1 ⟨rfl, hb1⟩; have g1 := (hb1.cell (p := ⟨b, off + j * 2, none⟩) hb).trans HC.out.1; have g2 := (hb1.cell (p := ⟨b, off + j * 2 + 1, none⟩) hb).trans HC.out.2) | (go_at_call 30; refine (within_any _ _ _ _).mono ?_; rintro e w' ⟨rfl, rfl⟩; rw [HB.out]) | (go_at_call 31; refine (due_any x y _ (by omega) (by omega)).mono ?_; rintro e w2 ⟨rfl, hb2⟩))
      go_ret2
      exact ⟨by rw [HE.out]; rfl, bthen hb1 hb2⟩

theorem implNextDue_any (v : Value) (xs : List (Int × Int)) (w : World) (hv : SI P2 w v xs) :
    Calls Try.prog 18 #[v] w fun e w' => e = .returned (.tuple #[.int .i64 (valNextDue xs).1, .int .i64 (valNextDue xs).2]) ∧ Below w.heap.size w w' := by
  obtain ⟨a, cap, rfl⟩ := hv.shape
  have hl := hv.len
  have HV := Lib.hid hv
  have C1 := implValidPoints_any _ xs w hv
  clear hv
  cases h1 : okPoints xs with
  | false =>
    rw [h1] at C1
    have D1 := Lib.hid C1
    have HE := Lib.hid (show valNextDue xs = (0, 1) by simp [valNextDue, h1])
    clear C1 h1
    go_enter Try.func18, Try.ntmps18
    go_wp2_with (go_at_call 14; refine D1.out.mono ?_; rintro e w1 ⟨rfl, hb1⟩)
    go_ret2
    exact ⟨by rw [HE.out]; rfl, hb1⟩
  | true =>
    rw [h1] at C1
    have D1 := Lib.hid C1
    have HK := Lib.hid h1
    clear C1
    have h30 := okPoints_len h1
    by_cases h0 : 0 < xs.length
    · have HE := Lib.hid (show valNextDue xs = (leastTo xs xs.length, 0) by simp [valNextDue, h1, h0])
      have hne : ((xs.length : Int) == 0) = false := by rw [beq_eq_false_iff_ne]; omega
      have HZ := Lib.hid (show leastTo xs 0 = due (xs.getD 0 (0, 0)) by rfl)
      obtain ⟨b, off, rfl, hb, hc⟩ := HV.out.cells2 (by omega)
      have HC := Lib.hid hc
      obtain ⟨g1, g2⟩ := hc 0 h0
      have HP := okPoints_at h1 h0
      generalize xs.getD 0 (0, 0) = p at g1 g2 HP HZ
      obtain ⟨x, y⟩ := p
      simp only [Nat.zero_mul, Nat.add_zero] at g1 g2 HP
      have HG := Lib.hid (And.intro g1 g2)
      clear h1 hc g1 g2
      go_enter Try.func18, Try.ntmps18
      go_wp2_with (first | (go_at_call 14; refine D1.out.mono ?_; rintro e w1 ⟨rfl, hb1⟩; have g1 := (hb1.cell (p := ⟨b, off, none⟩) hb).trans HG.out.1; have g2 := (hb1.cell (p := ⟨b, off + 1, none⟩) hb).trans HG.out.2) | (go_at_call 31; refine (due_any x y _ (by omega) (by omega)).mono ?_; rintro e w2 ⟨rfl, hb2⟩))
      have hbb := bthen hb1 hb2
      clear hb1 hb2 g1 g2
      go_loopw [4, 21] (fun m i wr => ∃ k : Nat, k ≤ xs.length ∧ m = .int .i64 (leastTo xs k) ∧ i = .int .i64 k ∧ Below w.heap.size w wr) (fun _ i _ => xs.length - (intOf i).toNat)
      case atStart => exact ⟨0, Nat.zero_le _, by rw [HZ.out]; rfl, rfl, hbb⟩
      case round =>
        obtain ⟨k, hk, rfl, rfl, hw⟩ := hrel
        by_cases hlt : k < xs.length
        · obtain ⟨g1, g2⟩ := HC.out k hlt
          replace g1 := (hw.cell (p := ⟨b, off + k * 2, none⟩) hb).trans g1
          replace g2 := (hw.cell (p := ⟨b, off + k * 2 + 1, none⟩) hb).trans g2
          have HP := okPoints_at HK.out hlt
          have S1 := leastTo_succ xs k hlt
          generalize xs.getD k (0, 0) = p at g1 g2 HP S1
          obtain ⟨x, y⟩ := p
          simp only at g1 g2 HP
          have HS := Lib.hid S1
          clear S1
          go_wp2_with (go_at_call 31; refine (due_any x y _ (by omega) (by omega)).mono ?_; rintro e w2 ⟨rfl, hb2⟩)
          go_roundw
          case rel => exact ⟨k + 1, by omega, congrArg (Value.int .i64) (by rw [HS.out]; simp only [due]; split <;> omega), by go_num, bthen (hw.alloc hw.size _) hb2⟩
          case measure => simp [intOf]; omega
        · have hkn : k = xs.length := by omega
          subst hkn
          go_wp2
          go_ret2
          exact ⟨by rw [HE.out]; rfl, hw⟩
    · have HE := Lib.hid (show valNextDue xs = (0, 3) by simp [valNextDue, h1, h0])
      have hne : ((xs.length : Int) == 0) = true := by rw [beq_iff_eq]; omega
      clear h1
      go_enter Try.func18, Try.ntmps18
      go_wp2_with (go_at_call 14; refine D1.out.mono ?_; rintro e w1 ⟨rfl, hb1⟩)
      go_ret2
      exact ⟨by rw [HE.out]; rfl, hb1⟩

theorem implLateBy_any (v : Value) (xs : List (Int × Int)) (day : Int) (w : World) (hv : SI P2 w v xs) :
    Calls Try.prog 20 #[v, .int .i64 day] w fun e w' => e = .returned (.tuple #[.int .i64 (valLateBy xs day).1, .int .i64 (valLateBy xs day).2]) ∧ Below w.heap.size w w' := by
  obtain ⟨a, cap, rfl⟩ := hv.shape
  have hl := hv.len
  have HV := Lib.hid hv
  have C1 := pointsCode_any _ xs day w hv
  clear hv
  by_cases h1 : codeP xs day = 0
  · rw [h1] at C1
    have D1 := Lib.hid C1
    have HE := Lib.hid (show valLateBy xs day = (lateTo xs day xs.length, 0) by simp [valLateBy, h1])
    obtain ⟨hk, hd⟩ : okPoints xs = true ∧ inB 0 100000 day = true := by
      simp only [codeP] at h1
      split at h1
      · split at h1
        · exact ⟨‹_›, ‹_›⟩
        · simp at h1
      · simp at h1
    have HK := Lib.hid hk
    have hdd : 0 ≤ day ∧ day ≤ 100000 := by simpa [inB] using hd
    obtain ⟨d0, d1⟩ := hdd
    have h30 := okPoints_len hk
    clear C1 h1 hk hd
    go_enter Try.func20, Try.ntmps20
    go_wp2_with (go_at_call 35; refine D1.out.mono ?_; rintro e w1 ⟨rfl, hb1⟩)
    go_loopw [7, 18] (fun m i wr => ∃ k : Nat, k ≤ xs.length ∧ m = .int .i64 (lateTo xs day k) ∧ i = .int .i64 k ∧ Below w.heap.size w wr) (fun _ i _ => xs.length - (intOf i).toNat)
    case atStart => exact ⟨0, Nat.zero_le _, rfl, rfl, hb1⟩
    case round =>
      obtain ⟨k, hk, rfl, rfl, hw⟩ := hrel
      have HB := lateTo_bound HK.out d1 k hk
      by_cases hlt : k < xs.length
      · obtain ⟨b, off, rfl, hb, hc⟩ := HV.out.cells2 (by omega)
        obtain ⟨g1, g2⟩ := hc k hlt
        replace g1 := (hw.cell (p := ⟨b, off + k * 2, none⟩) hb).trans g1
        replace g2 := (hw.cell (p := ⟨b, off + k * 2 + 1, none⟩) hb).trans g2
        clear hc
        have HP := okPoints_at HK.out hlt
        have S1 := lateTo_succ xs day k hlt
        generalize xs.getD k (0, 0) = p at g1 g2 HP S1
        obtain ⟨x, y⟩ := p
        simp only at g1 g2 HP
        have HS := Lib.hid S1
        generalize lateTo xs day k = z at *
        obtain ⟨z0, z1⟩ := HB
        obtain ⟨⟨x0, x1⟩, y0, y1⟩ := HP
        clear S1
        go_wp2_with (go_at_call 31; refine (due_any x y _ (by omega) (by omega)).mono ?_; rintro e w2 ⟨rfl, hb2⟩)
        go_roundw
        case rel => exact ⟨k + 1, by omega, congrArg (Value.int .i64) (by rw [HS.out]; simp only [due]; split <;> omega), by go_num, bthen (hw.alloc hw.size _) hb2⟩
        case measure => simp [intOf]; omega
      · have hkn : k = xs.length := by omega
        subst hkn
        go_wp2
        go_ret2
        exact ⟨by rw [HE.out]; rfl, hw⟩
  · have HE := Lib.hid (show valLateBy xs day = (0, codeP xs day) by simp [valLateBy, h1])
    have hn : (codeP xs day != 0) = true := by simpa using h1
    generalize codeP xs day = c at *
    have D1 := Lib.hid C1
    clear C1 h1
    go_enter Try.func20, Try.ntmps20
    go_wp2_with (go_at_call 35; refine D1.out.mono ?_; rintro e w1 ⟨rfl, hb1⟩)
    go_ret2
    exact ⟨by rw [HE.out]; rfl, hb1⟩

/-! ### the reference -/
theorem l19Due_any (x y : Int) (b o : Nat) (w : World) (h1 : w.cell? ⟨b, o, none⟩ = some (.int .i64 x)) (h2 : w.cell? ⟨b, o + 1, none⟩ = some (.int .i64 y)) (hx : 0 ≤ x ∧ x ≤ 1000) (hy : 0 ≤ y ∧ y ≤ 100000) :
    Calls Try.prog 29 #[.pointer (some ⟨b, o, none⟩)] w fun e w' => e = .returned (.int .i64 (y + x)) ∧ Below w.heap.size w w' := by
  obtain ⟨x0, x1⟩ := hx
  obtain ⟨y0, y1⟩ := hy
  go_enter Try.func29, Try.ntmps29
  go_wp2
  go_region
  go_wp2
  go_ret
  exact ⟨rfl, (Below.refl _ _).drew⟩

theorem l19Code_any (v : Value) (xs : List (Int × Int)) (day : Int) (w : World) (hv : SI P2 w v xs) :
    Calls Try.prog 33 #[v, .int .i64 day] w fun e w' => e = .returned (.int .i64 (codeP xs day)) ∧ Below w.heap.size w w' := by
  have C1 := l19Ok_any v xs w hv
  clear hv
  cases h1 : okPoints xs with
  | false =>
    rw [h1] at C1
    have D1 := Lib.hid C1
    clear C1
    go_enter Try.func33, Try.ntmps33
    go_wp2_with (go_at_call 24; refine D1.out.mono ?_; rintro e w1 ⟨rfl, hb1⟩)
    go_ret
    exact ⟨ret_int (by simp [codeP, h1]), hb1⟩
  | true =>
    rw [h1] at C1
    have D1 := Lib.hid C1
    clear C1
    cases h2 : inB 0 100000 day with
    | false =>
      go_enter Try.func33, Try.ntmps33
      go_wp2_with (first | (go_at_call 24; refine D1.out.mono ?_; rintro e w1 ⟨rfl, hb1⟩) | (go_at_call 28; refine (l00In_any _ _ _ _).mono ?_; rintro e w' ⟨rfl, rfl⟩; rw [h2]))
      go_ret
      exact ⟨ret_int (by simp [codeP, h1, h2]), hb1⟩
    | true =>
      go_enter Try.func33, Try.ntmps33
      go_wp2_with (first | (go_at_call 24; refine D1.out.mono ?_; rintro e w1 ⟨rfl, hb1⟩) | (go_at_call 28; refine (l00In_any _ _ _ _).mono ?_; rintro e w' ⟨rfl, rfl⟩; rw [h2]))
      go_ret
      exact ⟨ret_int (by simp [codeP, h1, h2]), hb1⟩

theorem l00Min_any (a b : Int) (w : World) : Calls Try.prog 32 #[.int .i64 a, .int .i64 b] w fun e w' => e = .returned (.int .i64 (min a b)) ∧ w = w' := by
  by_cases h : a < b
  · go_enter Try.func32, Try.ntmps32
    go_wp2
    go_ret
    exact ⟨ret_int (by omega), rfl⟩
  · go_enter Try.func32, Try.ntmps32
    go_wp2
    go_ret
    exact ⟨ret_int (by omega), rfl⟩

theorem l00Max_any (a b : Int) (w : World) : Calls Try.prog 34 #[.int .i64 a, .int .i64 b] w fun e w' => e = .returned (.int .i64 (max a b)) ∧ w = w' := by
  by_cases h : b < a
  · go_enter Try.func34, Try.ntmps34
    go_wp2
    go_ret
    exact ⟨ret_int (by omega), rfl⟩
  · go_enter Try.func34, Try.ntmps34
    go_wp2
    go_ret
    exact ⟨ret_int (by omega), rfl⟩

theorem specDueDay_any (v : Value) (xs : List (Int × Int)) (k : Int) (w : World) (hv : SI P2 w v xs) :
    Calls Try.prog 15 #[v, .int .i64 k] w fun e w' => e = .returned (.tuple #[.int .i64 (valDueDay xs k).1, .int .i64 (valDueDay xs k).2]) ∧ Below w.heap.size w w' := by
  obtain ⟨a, cap, rfl⟩ := hv.shape
  have hl := hv.len
  have HV := Lib.hid hv
  have C1 := l19Ok_any _ xs w hv
  clear hv
  cases h1 : okPoints xs with
  | false =>
    rw [h1] at C1
    have D1 := Lib.hid C1
    have HE := Lib.hid (show valDueDay xs k = (0, 1) by simp [valDueDay, h1])
    clear C1 h1
    go_enter Try.func15, Try.ntmps15
    go_wp2_with (go_at_call 24; refine D1.out.mono ?_; rintro e w1 ⟨rfl, hb1⟩)
    go_ret2
    exact ⟨by rw [HE.out]; rfl, hb1⟩
  | true =>
    rw [h1] at C1
    have D1 := Lib.hid C1
    have HK := Lib.hid h1
    clear C1
    have h30 := okPoints_len h1
    cases h2 : inB 0 (xs.length - 1) k with
    | false =>
      have HE := Lib.hid (show valDueDay xs k = (0, 2) by simp [valDueDay, h1, h2])
      have HB := Lib.hid h2
      clear h1 h2
      go_enter Try.func15, Try.ntmps15
      go_wp2_with (first | (go_at_call 24; refine D1.out.mono ?_; rintro e w1 ⟨rfl, hb1⟩) | (go_at_call 28; refine (l00In_any _ _ _ _).mono ?_; rintro e w' ⟨rfl, rfl⟩; rw [HB.out]))
      go_ret2
      exact ⟨by rw [HE.out]; rfl, hb1⟩
    | true =>
      have HE := Lib.hid (show valDueDay xs k = (due (xs.getD k.toNat (0, 0)), 0) by simp [valDueDay, h1, h2])
      have hkk : 0 ≤ k ∧ k ≤ (xs.length : Int) - 1 := by simpa [inB] using h2
      obtain ⟨j, rfl⟩ : ∃ j : Nat, k = j := ⟨k.toNat, by omega⟩
      have hlt : j < xs.length := by omega
      have HB := Lib.hid h2
      obtain ⟨b, off, rfl, hb, hc⟩ := HV.out.cells2 (by omega)
      obtain ⟨g1, g2⟩ := hc j hlt
      have HP := okPoints_at h1 hlt
      rw [show ((j : Nat) : Int).toNat = j by simp] at HE
      generalize xs.getD j (0, 0) = p at g1 g2 HP HE
      obtain ⟨x, y⟩ := p
      simp only at g1 g2 HP
      have HC := Lib.hid (And.intro g1 g2)
      clear h1 h2 hc hkk g1 g2
      go_enter Try.func15, Try.ntmps15
      go_wp2_with (first | (go_at_call 24; refine D1.out.mono ?_; rintro e w1 ⟨rfl, hb1⟩; have g1 := (hb1.cell (p := ⟨b, off + j * 2, none⟩) hb).trans HC.out.1; have g2 := (hb1.cell (p := ⟨b, off + j * 2 + 1, none⟩) hb).trans HC.out.2) | (go_at_call 28; refine (l00In_any _ _ _ _).mono ?_; rintro e w' ⟨rfl, rfl⟩; rw [HB.out]) | (go_at_call 29; refine (l19Due_any x y b (off + j * 2) _ g1 g2 (by omega) (by omega)).mono ?_; rintro e w2 ⟨rfl, hb2⟩))
      go_ret2
      exact ⟨by rw [HE.out]; rfl, bthen hb1 hb2⟩

theorem specNextDue_any (v : Value) (xs : List (Int × Int)) (w : World) (hv : SI P2 w v xs) :
    Calls Try.prog 17 #[v] w fun e w' => e = .returned (.tuple #[.int .i64 (valNextDue xs).1, .int .i64 (valNextDue xs).2]) ∧ Below w.heap.size w w' := by
  obtain ⟨a, cap, rfl⟩ := hv.shape
  have hl := hv.len
  have HV := Lib.hid hv
  have C1 := l19Ok_any _ xs w hv
  clear hv
  cases h1 : okPoints xs with
  | false =>
    rw [h1] at C1
    have D1 := Lib.hid C1
    have HE := Lib.hid (show valNextDue xs = (0, 1) by simp [valNextDue, h1])
    clear C1 h1
    go_enter Try.func17, Try.ntmps17
    go_wp2_with (go_at_call 24; refine D1.out.mono ?_; rintro e w1 ⟨rfl, hb1⟩)
    go_ret2
    exact ⟨by rw [HE.out]; rfl, hb1⟩
  | true =>
    rw [h1] at C1
    have D1 := Lib.hid C1
    have HK := Lib.hid h1
    clear C1
    have h30 := okPoints_len h1
    by_cases h0 : 0 < xs.length
    · have HE := Lib.hid (show valNextDue xs = (leastTo xs xs.length, 0) by simp [valNextDue, h1, h0])
      have hne : ((xs.length : Int) == 0) = false := by rw [beq_eq_false_iff_ne]; omega
      have HZ := Lib.hid (leastTo_one xs h0)
      obtain ⟨b, off, rfl, hb, hc⟩ := HV.out.cells2 (by omega)
      have HC := Lib.hid hc
      obtain ⟨g1, g2⟩ := hc 0 h0
      have HP := okPoints_at h1 h0
      generalize xs.getD 0 (0, 0) = p at g1 g2 HP HZ
      obtain ⟨x, y⟩ := p
      simp only [Nat.zero_mul, Nat.add_zero] at g1 g2 HP
      have HG := Lib.hid (And.intro g1 g2)
      clear h1 hc g1 g2
      go_enter Try.func17, Try.ntmps17
      go_wp2_with (first | (go_at_call 24; refine D1.out.mono ?_; rintro e w1 ⟨rfl, hb1⟩; have g1 := (hb1.cell (p := ⟨b, off, none⟩) hb).trans HG.out.1; have g2 := (hb1.cell (p := ⟨b, off + 1, none⟩) hb).trans HG.out.2) | (go_at_call 29; refine (l19Due_any x y b off _ g1 g2 (by omega) (by omega)).mono ?_; rintro e w2 ⟨rfl, hb2⟩))
      clear g1 g2
      go_loopw [4, 5] (fun m i wr => ∃ k : Nat, 1 ≤ k ∧ k ≤ xs.length ∧ m = .int .i64 (leastTo xs k) ∧ i = .int .i64 k ∧ Below w.heap.size w wr) (fun _ i _ => xs.length - (intOf i).toNat)
      case atStart => exact ⟨1, Nat.le_refl _, h0, by rw [HZ.out]; rfl, rfl, bthen hb1 hb2⟩
      case round =>
        obtain ⟨k, hk1, hk, rfl, rfl, hw⟩ := hrel
        by_cases hlt : k < xs.length
        · obtain ⟨g1, g2⟩ := HC.out k hlt
          replace g1 := (hw.cell (p := ⟨b, off + k * 2, none⟩) hb).trans g1
          replace g2 := (hw.cell (p := ⟨b, off + k * 2 + 1, none⟩) hb).trans g2
          have HP := okPoints_at HK.out hlt
          have S1 := leastTo_succ xs k hlt
          generalize xs.getD k (0, 0) = p at g1 g2 HP S1
          obtain ⟨x, y⟩ := p
          simp only at g1 g2 HP
          have HS := Lib.hid S1
          clear S1
          go_wp2_with (first | (go_at_call 29; refine (l19Due_any x y b (off + k * 2) _ g1 g2 (by omega) (by omega)).mono ?_; rintro e w2 ⟨rfl, hb2⟩) | (go_at_call 32; refine (l00Min_any _ _ _).mono ?_; rintro e w2 ⟨rfl, rfl⟩))
          go_roundw
          case rel => exact ⟨k + 1, by omega, by omega, by rw [HS.out]; rfl, by go_num, bthen hw hb2⟩
          case measure => simp [intOf]; omega
        · have hkn : k = xs.length := by omega
          subst hkn
          go_wp2
          go_ret2
          exact ⟨by rw [HE.out]; rfl, hw⟩
    · have HE := Lib.hid (show valNextDue xs = (0, 3) by simp [valNextDue, h1, h0])
      have hne : ((xs.length : Int) == 0) = true := by rw [beq_iff_eq]; omega
      clear h1
      go_enter Try.func17, Try.ntmps17
      go_wp2_with (go_at_call 24; refine D1.out.mono ?_; rintro e w1 ⟨rfl, hb1⟩)
      go_ret2
      exact ⟨by rw [HE.out]; rfl, hb1⟩


theorem specLateBy_any (v : Value) (xs : List (Int × Int)) (day : Int) (w : World) (hv : SI P2 w v xs) :
    Calls Try.prog 19 #[v, .int .i64 day] w fun e w' => e = .returned (.tuple #[.int .i64 (valLateBy xs day).1, .int .i64 (valLateBy xs day).2]) ∧ Below w.heap.size w w' := by
  obtain ⟨a, cap, rfl⟩ := hv.shape
  have hl := hv.len
  have HV := Lib.hid hv
  have C1 := l19Code_any _ xs day w hv
  clear hv
  by_cases h1 : codeP xs day = 0
  · rw [h1] at C1
    have D1 := Lib.hid C1
    have HE := Lib.hid (show valLateBy xs day = (lateTo xs day xs.length, 0) by simp [valLateBy, h1])
    obtain ⟨hk, hd⟩ : okPoints xs = true ∧ inB 0 100000 day = true := by
      simp only [codeP] at h1
      split at h1
      · split at h1
        · exact ⟨‹_›, ‹_›⟩
        · simp at h1
      · simp at h1
    have HK := Lib.hid hk
    have hdd : 0 ≤ day ∧ day ≤ 100000 := by simpa [inB] using hd
    obtain ⟨d0, d1⟩ := hdd
    have h30 := okPoints_len hk
    clear C1 h1 hk hd
    go_enter Try.func19, Try.ntmps19
    go_wp2_with (go_at_call 33; refine D1.out.mono ?_; rintro e w1 ⟨rfl, hb1⟩)
    go_loopw [7, 8] (fun m i wr => ∃ k : Nat, k ≤ xs.length ∧ m = .int .i64 (lateTo xs day k) ∧ i = .int .i64 k ∧ Below w.heap.size w wr) (fun _ i _ => xs.length - (intOf i).toNat)
    case atStart => exact ⟨0, Nat.zero_le _, rfl, rfl, hb1⟩
    case round =>
      obtain ⟨k, hk, rfl, rfl, hw⟩ := hrel
      have HB := lateTo_bound HK.out d1 k hk
      by_cases hlt : k < xs.length
      · obtain ⟨b, off, rfl, hb, hc⟩ := HV.out.cells2 (by omega)
        obtain ⟨g1, g2⟩ := hc k hlt
        replace g1 := (hw.cell (p := ⟨b, off + k * 2, none⟩) hb).trans g1
        replace g2 := (hw.cell (p := ⟨b, off + k * 2 + 1, none⟩) hb).trans g2
        clear hc
        have HP := okPoints_at HK.out hlt
        have S1 := lateTo_succ xs day k hlt
        generalize xs.getD k (0, 0) = p at g1 g2 HP S1
        obtain ⟨x, y⟩ := p
        simp only at g1 g2 HP
        have HS := Lib.hid S1
        generalize lateTo xs day k = z at *
        obtain ⟨z0, z1⟩ := HB
        obtain ⟨⟨x0, x1⟩, y0, y1⟩ := HP
        clear S1
        go_wp2_with (first | (go_at_call 29; refine (l19Due_any x y b (off + k * 2) _ g1 g2 (by omega) (by omega)).mono ?_; rintro e w2 ⟨rfl, hb2⟩) | (go_at_call 34; refine (l00Max_any _ _ _).mono ?_; rintro e w2 ⟨rfl, rfl⟩))
        go_roundw
        case rel => exact ⟨k + 1, by omega, by rw [HS.out]; simp [due]; omega, by go_num, bthen hw hb2⟩
        case measure => simp [intOf]; omega
      · have hkn : k = xs.length := by omega
        subst hkn
        go_wp2
        go_ret2
        exact ⟨by rw [HE.out]; rfl, hw⟩
  · have HE := Lib.hid (show valLateBy xs day = (0, codeP xs day) by simp [valLateBy, h1])
    have hn : (codeP xs day != 0) = true := by simpa using h1
    generalize codeP xs day = c at *
    have D1 := Lib.hid C1
    clear C1 h1
    go_enter Try.func19, Try.ntmps19
    go_wp2_with (go_at_call 33; refine D1.out.mono ?_; rintro e w1 ⟨rfl, hb1⟩)
    go_ret2
    exact ⟨by rw [HE.out]; rfl, hb1⟩

end Go.Proofs.Ytjpihhioaccgbaa
