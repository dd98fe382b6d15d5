/-
  The order of lists: by length, then by their numbers, as the reference and the library tell it; and the bits of a set.
-/
import Derived.Test.YteohfokchimfeaaBase
import Derived.Lib.RabinKarpLaws
import Derived.Deep.QuietTactic
import Derived.BigQuiet
namespace Go.Proofs.Yteohfokchimfeaa
open Go.RowKit

/-- Of two lists of one length: is the first one less at the first place at which they differ? -/
def lexB : List Int → List Int → Bool
  | x :: xs, y :: ys => if x = y then lexB xs ys else decide (x < y)
  | _, _ => false
def lessL (xs ys : List Int) : Bool := if xs.length = ys.length then lexB xs ys else decide (xs.length < ys.length)
theorem lexB_at : ∀ (k : Nat) (xs ys : List Int), xs.take k = ys.take k → k < xs.length → k < ys.length → xs.getD k 0 ≠ ys.getD k 0 → lexB xs ys = decide (xs.getD k 0 < ys.getD k 0) := by
  intro k
  induction k with
  | zero =>
    intro xs ys _ h1 h2 h3
    match xs, ys, h1, h2 with
    | x :: xs, y :: ys, _, _ =>
      simp only [List.getD_cons_zero] at h3 ⊢
      simp only [lexB, if_neg h3]
  | succ k ih =>
    intro xs ys ht h1 h2 h3
    match xs, ys, h1, h2 with
    | x :: xs, y :: ys, h1, h2 =>
      simp only [List.take_succ_cons, List.cons.injEq] at ht
      simp only [List.getD_cons_succ] at h3 ⊢
      simp only [lexB, if_pos ht.1]
      exact ih xs ys ht.2 (by simpa using h1) (by simpa using h2) h3
theorem lexB_self (xs : List Int) : lexB xs xs = false := by
  induction xs with
  | nil => rfl
  | cons x xs ih => simp [lexB, ih]

theorem l15Less_any (va : Value) (xs : List Int) (vb : Value) (ys : List Int) (w : World) (ha : RI w va xs) (hb : RI w vb ys) :
    Calls Try.prog 74 #[va, vb] w fun e w' => e = .returned (.bool (lessL xs ys)) ∧ Below w.heap.size w w' := by
  obtain ⟨a, ca, rfl⟩ := ha.shape
  obtain ⟨b, cb, rfl⟩ := hb.shape
  have la := ha.len
  have lb := hb.len
  have HA := Lib.hid ha
  have HB := Lib.hid hb
  clear ha hb
  by_cases hl : xs.length = ys.length
  · have hl1 : ((xs.length : Int) != (ys.length : Int)) = false := by rw [hl]; simp
    have HL := Lib.hid hl
    have HE := Lib.hid (show lessL xs ys = lexB xs ys by simp [lessL, hl])
    clear hl
    go_enter Try.func74, Try.ntmps74
    go_wp2
    go_loopw [5] (fun i wr => ∃ k : Nat, k ≤ xs.length ∧ i = .int .i64 k ∧ Below w.heap.size w wr ∧ xs.take k = ys.take k) (fun i _ => xs.length - (intOf i).toNat)
    case atStart => exact ⟨0, Nat.zero_le _, rfl, Below.refl _ _, rfl⟩
    case round =>
      obtain ⟨k, hk, rfl, hw, ht⟩ := hrel
      have HT := Lib.hid ht
      clear ht
      by_cases hlt : k < xs.length
      · have hlt2 : k < ys.length := by have := HL.out; omega
        obtain ⟨b1, o1, rfl, h1, c1⟩ := HA.out.cells (by omega)
        obtain ⟨b2, o2, rfl, h2, c2⟩ := HB.out.cells (by omega)
        have g1 := (hw.cell (p := ⟨b1, o1 + k, none⟩) h1).trans (c1 k hlt)
        have g2 := (hw.cell (p := ⟨b2, o2 + k, none⟩) h2).trans (c2 k hlt2)
        have hky : (k : Int) < ys.length := by omega
        have hkx : (k : Int) < xs.length := by omega
        have hk0 : (0 : Int) ≤ k := by omega
        clear c1 c2
        have S1 := Lib.hid (fun (e : xs.getD k 0 = ys.getD k 0) => show xs.take (k + 1) = ys.take (k + 1) by rw [take_snoc xs k hlt, take_snoc ys k hlt2, HT.out, e])
        have S2 := Lib.hid (fun e => lexB_at k xs ys HT.out hlt hlt2 e)
        generalize xs.getD k 0 = x at g1 S1 S2
        generalize ys.getD k 0 = y at g2 S1 S2
        by_cases exy : x = y
        · have hne : (x != y) = false := by simp [exy]
          have H1 := Lib.hid (S1.out exy)
          clear S1 S2 exy
          go_wp2
          go_quiet (fail)
          rename_i nq
          go_wp2
          go_roundw
          case rel => exact ⟨k + 1, by omega, by go_num, below_drewN hw _, H1.out⟩
          case measure => simp [intOf]; omega
        · have hne : (x != y) = true := by simp [exy]
          have H2 := Lib.hid (S2.out exy)
          clear S1 S2 exy
          go_wp2
          go_quiet (fail)
          rename_i nq
          go_wp2
          go_quiet (fail)
          rename_i nq2
          go_wp2
          go_ret
          exact ⟨ret_bool (by rw [HE.out, H2.out]), below_drewN (below_drewN hw _) _⟩
      · have H1 := Lib.hid (show lexB xs ys = false by
          have h := HT.out
          rw [List.take_of_length_le (by omega), List.take_of_length_le (by have := HL.out; omega)] at h
          rw [h]; exact lexB_self ys)
        go_wp2
        go_ret
        exact ⟨ret_bool (by rw [HE.out, H1.out]), hw⟩
  · have hl1 : ((xs.length : Int) != (ys.length : Int)) = true := by rw [bne_iff_ne]; omega
    have HE := Lib.hid (show lessL xs ys = decide (xs.length < ys.length) by rw [lessL, if_neg hl])
    clear hl
    go_enter Try.func74, Try.ntmps74
    go_wp2
    go_ret
    exact ⟨ret_bool HE.out.symm, Below.refl _ _⟩

/-! ### the library's comparison -/
theorem isNaN_any (x : Int) (w : World) : Calls Try.prog 91 #[.int .i64 x] w fun e w' => e = .returned (.bool false) ∧ w = w' := by
  have h : (x != x) = false := by simp
  go_enter Try.func91, Try.ntmps91
  go_wp2
  go_ret
  exact ⟨rfl, rfl⟩
def cmpI (x y : Int) : Int := if x < y then -1 else if y < x then 1 else 0
theorem cmp_any (x y : Int) (w : World) : Calls Try.prog 88 #[.int .i64 x, .int .i64 y] w fun e w' => e = .returned (.int .i64 (cmpI x y)) ∧ w = w' := by
  by_cases h1 : x < y
  · have HE := Lib.hid (show cmpI x y = -1 by simp [cmpI, h1])
    go_enter Try.func88, Try.ntmps88
    go_wp2_with (go_at_call 91; refine (isNaN_any _ _).mono ?_; rintro e w' ⟨rfl, rfl⟩)
    go_ret
    exact ⟨ret_int HE.out.symm, rfl⟩
  · have hd1 : decide (x < y) = false := decide_eq_false h1
    by_cases h2 : y < x
    · have HE := Lib.hid (show cmpI x y = 1 by simp [cmpI, h1, h2])
      go_enter Try.func88, Try.ntmps88
      go_wp2_with (go_at_call 91; refine (isNaN_any _ _).mono ?_; rintro e w' ⟨rfl, rfl⟩)
      go_ret
      exact ⟨ret_int HE.out.symm, rfl⟩
    · have hd2 : decide (y < x) = false := decide_eq_false h2
      have HE := Lib.hid (show cmpI x y = 0 by simp [cmpI, h1, h2])
      go_enter Try.func88, Try.ntmps88
      go_wp2_with (go_at_call 91; refine (isNaN_any _ _).mono ?_; rintro e w' ⟨rfl, rfl⟩)
      go_ret
      exact ⟨ret_int HE.out.symm, rfl⟩

theorem compare_any (va : Value) (xs : List Int) (vb : Value) (ys : List Int) (w : World) (ha : RI w va xs) (hb : RI w vb ys) (hl : xs.length = ys.length) :
    Calls Try.prog 76 #[va, vb] w fun e w' => ∃ c : Int, e = .returned (.int .i64 c) ∧ decide (c < 0) = lexB xs ys ∧ w = w' := by
  obtain ⟨a, ca, rfl⟩ := ha.shape
  obtain ⟨b, cb, rfl⟩ := hb.shape
  have la := ha.len
  have lb := hb.len
  have HA := Lib.hid ha
  have HB := Lib.hid hb
  have HL := Lib.hid hl
  clear ha hb hl
  go_enter Try.func76, Try.ntmps76
  go_wp2
  go_loop [11] (fun i => ∃ k : Nat, k ≤ xs.length ∧ i = .int .i64 k ∧ xs.take k = ys.take k) (fun i => xs.length - (intOf i).toNat)
  case atStart => exact ⟨0, Nat.zero_le _, rfl, rfl⟩
  case round =>
    obtain ⟨k, hk, rfl, ht⟩ := hrel
    have HT := Lib.hid ht
    clear ht
    by_cases hlt : k < xs.length
    · have hlt2 : k < ys.length := by have := HL.out; omega
      obtain ⟨b1, o1, rfl, h1, c1⟩ := HA.out.cells (by omega)
      obtain ⟨b2, o2, rfl, h2, c2⟩ := HB.out.cells (by omega)
      have g1 := c1 k hlt
      have g2 := c2 k hlt2
      clear c1 c2
      have S1 := Lib.hid (fun (e : xs.getD k 0 = ys.getD k 0) => show xs.take (k + 1) = ys.take (k + 1) by rw [take_snoc xs k hlt, take_snoc ys k hlt2, HT.out, e])
      have S2 := Lib.hid (fun e => lexB_at k xs ys HT.out hlt hlt2 e)
      generalize xs.getD k 0 = x at g1 S1 S2
      generalize ys.getD k 0 = y at g2 S1 S2
      by_cases exy : x = y
      · have HC := Lib.hid (show cmpI x y = 0 by simp [cmpI, exy])
        have H1 := Lib.hid (S1.out exy)
        clear S1 S2 exy
        go_wp2_with (go_at_call 88; refine (cmp_any _ _ _).mono ?_; rintro e w' ⟨rfl, rfl⟩; rw [HC.out])
        go_round
        case rel => exact ⟨k + 1, by omega, by go_num, H1.out⟩
        case measure => simp [intOf]; omega
      · have H2 := Lib.hid (S2.out exy)
        have hcn : (cmpI x y != 0) = true ∧ decide (cmpI x y < 0) = decide (x < y) := by
          unfold cmpI
          by_cases h : x < y
          · simp [h]
          · have : y < x := by omega
            simp [h, this]
        generalize hcc : cmpI x y = cc at hcn
        have HC := Lib.hid hcc
        obtain ⟨hc1, hc2⟩ := hcn
        have HC2 := Lib.hid hc2
        clear S1 S2 exy hcc hc2
        go_wp2_with (go_at_call 88; refine (cmp_any _ _ _).mono ?_; rintro e w' ⟨rfl, rfl⟩; rw [HC.out])
        go_ret
        exact ⟨_, rfl, by rw [HC2.out, H2.out], rfl⟩
    · have H1 := Lib.hid (show lexB xs ys = false by
        have h := HT.out
        rw [List.take_of_length_le (by omega), List.take_of_length_le (by have := HL.out; omega)] at h
        rw [h]; exact lexB_self ys)
      have hd : ¬ xs.length < ys.length := by have := HL.out; omega
      go_wp2
      go_ret
      exact ⟨_, rfl, by rw [H1.out]; rfl, rfl⟩

/-! ### sets as bits -/
def hasB (s k : Int) : Bool := (s / 2 ^ k.toNat) % 2 == 1
theorem bit_and (s : Int) (m : Nat) (h0 : 0 ≤ s) (h1 : s ≤ 9223372036854775807) : bits BinOp.and IntKind.i64 (s / 2 ^ m) 1 = (s / 2 ^ m) % 2 := by
  obtain ⟨n, rfl⟩ : ∃ n : Nat, s = n := ⟨s.toNat, by omega⟩
  have e : ((n : Int) / 2 ^ m) = ((n / 2 ^ m : Nat) : Int) := by rw [Int.natCast_ediv, Int.natCast_pow]; rfl
  have hle : n / 2 ^ m ≤ n := Nat.div_le_self _ _
  rw [e, and_one _ (by omega)]
  omega
theorem has_any (s k : Int) (w : World) (h0 : 0 ≤ s) (h1 : s ≤ 9223372036854775807) (k0 : 0 ≤ k) (k1 : k ≤ 40) :
    Calls Try.prog 75 #[.int .i64 s, .int .i64 k] w fun e w' => e = .returned (.bool (hasB s k)) ∧ w = w' := by
  have HB := Lib.hid (bit_and s k.toNat h0 h1)
  go_enter Try.func75, Try.ntmps75
  go_wp2
  go_ret
  exact ⟨ret_bool (by rw [HB.out]; rfl), rfl⟩

end Go.Proofs.Yteohfokchimfeaa
