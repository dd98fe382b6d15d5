/-
  InversionsOf of both sides.
-/
import Derived.Test.YteohfokchimfeaaOrder
namespace Go.Proofs.Yteohfokchimfeaa
open Go.RowKit

theorem okOrder_len {xs : List Int} (h : okOrder xs = true) : xs.length ≤ 40 := by
  simp [okOrder] at h; exact h.2

/-- How many of the first k places have a property. -/
def cnt (p : Nat → Bool) : Nat → Nat
  | 0 => 0
  | k + 1 => cnt p k + (if p k = true then 1 else 0)
theorem cnt_le (p : Nat → Bool) (k : Nat) : cnt p k ≤ k := by
  induction k with
  | zero => exact Nat.le_refl _
  | succ k ih => simp only [cnt]; split <;> omega

/-- Does the greater number of two stand first? -/
def isInv (xs : List Int) (i j : Nat) : Bool := decide (xs.getD i 0 < xs.getD j 0)

/-- How many pairs end in the first i places of which the greater number stands first. -/
def invTo (xs : List Int) : Nat → Nat
  | 0 => 0
  | i + 1 => invTo xs i + cnt (isInv xs i) i
theorem invTo_le (xs : List Int) (i : Nat) (h : i ≤ 40) : invTo xs i ≤ i * 40 := by
  induction i with
  | zero => exact Nat.le_refl _
  | succ i ih =>
    have := cnt_le (isInv xs i) i
    have := ih (by omega)
    simp only [invTo]; omega

def valInv (xs : List Int) : Int × Int := if okOrder xs = true then ((invTo xs xs.length : Int), 0) else (0, 1)

set_option maxHeartbeats 1000000 in
theorem specInversionsOf_any (v : Value) (xs : List Int) (w : World) (hv : RI w v xs) :
    Calls Try.prog 21 #[v] w fun e w' => e = .returned (.tuple #[.int .i64 (valInv xs).1, .int .i64 (valInv xs).2]) ∧ Below w.heap.size w w' := by
  obtain ⟨a, cap, rfl⟩ := hv.shape
  have HV := Lib.hid hv
  clear hv
  cases hok : okOrder xs with
  | false =>
    have HE : Hid (valInv xs = (0, 1)) := if_neg (by rw [hok]; simp)
    go_enter Try.func21, Try.ntmps21
    go_wp2_with (go_at_call 57; refine (l17Ok_any _ xs _ HV.out).mono ?_; rintro e w1 ⟨rfl, hb1⟩)
    go_ret2
    exact ⟨ret_ii (by rw [HE.out]) (by rw [HE.out]), by assumption⟩
  | true =>
    have l40 := okOrder_len hok
    have HE : Hid (valInv xs = ((invTo xs xs.length : Int), 0)) := if_pos hok
    have C1 := l17Ok_any _ xs w HV.out
    rw [hok] at C1
    have D1 := Lib.hid C1
    clear C1 hok
    go_enter Try.func21, Try.ntmps21
    go_wp2_with fail
    refine D1.out.mono ?_
    rintro e w1 ⟨rfl, hb1⟩
    go_wp2_with fail
    go_loopw [4, 5] (fun n i wr => ∃ i' : Nat, i' ≤ xs.length ∧ i = .int .i64 i' ∧ n = .int .i64 (invTo xs i' : Nat) ∧ Below w.heap.size w wr) (fun _ i _ => xs.length - (intOf i).toNat)
    case atStart => exact ⟨0, Nat.zero_le _, rfl, rfl, hb1⟩
    case round =>
      obtain ⟨i, hi, rfl, rfl, hb⟩ := hrel
      by_cases hlt : i < xs.length
      · have hI := invTo_le xs i (by omega)
        have HI1 : Hid (invTo xs (i + 1) = invTo xs i + cnt (isInv xs i) i) := rfl
        obtain ⟨wo, rfl⟩ : ∃ wo : World, wo = wr := ⟨_, rfl⟩
        go_wp2_with fail
        go_loopw [4, 6] (fun n k wr => ∃ k' : Nat, k' ≤ i ∧ k = .int .i64 k' ∧ n = .int .i64 ((invTo xs i + cnt (isInv xs i) k' : Nat) : Int) ∧ Below w.heap.size w wr) (fun _ k _ => i - (intOf k).toNat)
        case atStart => exact ⟨0, Nat.zero_le _, rfl, rfl, hb⟩
        case round =>
          obtain ⟨k, hk, rfl, rfl, hb2⟩ := hrel
          by_cases hkt : k < i
          · obtain ⟨b, off, rfl, hbl, hc⟩ := HV.out.cells (by omega)
            have g1 := (hb2.cell (p := ⟨b, off + k, none⟩) hbl).trans (hc k (by omega))
            have g2 := (hb2.cell (p := ⟨b, off + i, none⟩) hbl).trans (hc i hlt)
            clear hc
            have hC := cnt_le (isInv xs i) k
            have S1 : cnt (isInv xs i) (k + 1) = cnt (isInv xs i) k + (if isInv xs i k = true then 1 else 0) := rfl
            have HS := Lib.hid S1
            clear S1
            generalize hcn : cnt (isInv xs i) k = c0 at *
            generalize invTo xs i = n0 at *
            have hki : (k : Int) < xs.length := by omega
            have hii : (i : Int) < xs.length := by omega
            have HCN := Lib.hid hcn
            clear hcn
            by_cases hx : xs.getD i 0 < xs.getD k 0
            · have HS2 := Lib.hid (HS.out.trans (by rw [isInv, decide_eq_true hx, if_pos rfl]))
              generalize xs.getD i 0 = x at g2 hx
              generalize xs.getD k 0 = y at g1 hx
              go_wp2_with fail
              go_quiet (fail)
              go_wp2_with fail
              go_roundw
              case rel => exact ⟨k + 1, by omega, by go_num, by rw [HS2.out]; go_num, below_drewN hb2 _⟩
              case measure => simp [intOf]; omega
            · have HS2 := Lib.hid (HS.out.trans (by rw [isInv, decide_eq_false hx, if_neg (by simp)]))
              generalize xs.getD i 0 = x at g2 hx
              generalize xs.getD k 0 = y at g1 hx
              have hd : decide (x < y) = false := by simpa using hx
              go_wp2_with fail
              go_quiet (fail)
              go_wp2_with fail
              go_roundw
              case rel => exact ⟨k + 1, by omega, by go_num, by rw [HS2.out]; go_num, below_drewN hb2 _⟩
              case measure => simp [intOf]; omega
          · obtain rfl : k = i := by omega
            go_wp2_with fail
            go_roundw
            case rel => exact ⟨k + 1, by omega, by go_num, by rw [HI1.out], hb2⟩
            case measure => simp [intOf]; omega
      · obtain rfl : i = xs.length := by omega
        go_wp2_with fail
        go_ret2
        exact ⟨ret_ii (by rw [HE.out]) (by rw [HE.out]), hb⟩

set_option maxHeartbeats 1000000 in
theorem implInversionsOf_any (v : Value) (xs : List Int) (w : World) (hv : RI w v xs) (hs : xs.length ≤ 1099511627776) :
    Calls Try.prog 22 #[v] w fun e w' => e = .returned (.tuple #[.int .i64 (valInv xs).1, .int .i64 (valInv xs).2]) ∧ Below w.heap.size w w' := by
  obtain ⟨a, cap, rfl⟩ := hv.shape
  have HV := Lib.hid hv
  clear hv
  cases hok : okOrder xs with
  | false =>
    have HE : Hid (valInv xs = (0, 1)) := if_neg (by rw [hok]; simp)
    go_enter Try.func22, Try.ntmps22
    go_wp2_with (go_at_call 19; refine (implValidOrder_any _ xs _ HV.out hs).mono ?_; rintro e w1 ⟨rfl, hb1⟩)
    go_ret2
    exact ⟨ret_ii (by rw [HE.out]) (by rw [HE.out]), by assumption⟩
  | true =>
    have l40 := okOrder_len hok
    have HE : Hid (valInv xs = ((invTo xs xs.length : Int), 0)) := if_pos hok
    have C1 := implValidOrder_any _ xs w HV.out hs
    rw [hok] at C1
    have D1 := Lib.hid C1
    clear C1 hok
    go_enter Try.func22, Try.ntmps22
    go_wp2_with fail
    refine D1.out.mono ?_
    rintro e w1 ⟨rfl, hb1⟩
    go_wp2_with fail
    go_loop [4, 14] (fun n i => ∃ i' : Nat, i' ≤ xs.length ∧ i = .int .i64 i' ∧ n = .int .i64 (invTo xs i' : Nat)) (fun _ i => xs.length - (intOf i).toNat)
    case atStart => exact ⟨0, Nat.zero_le _, rfl, rfl⟩
    case round =>
      obtain ⟨i, hi, rfl, rfl⟩ := hrel
      by_cases hlt : i < xs.length
      · have hI := invTo_le xs i (by omega)
        have HI1 : Hid (invTo xs (i + 1) = invTo xs i + cnt (isInv xs i) i) := rfl
        obtain ⟨v1, hv1, hcut⟩ := cutToI HV.out i hi
        have hcut' := fun W => hcut W (i : Int) rfl
        obtain ⟨a1, cap1, rfl⟩ := hv1.shape
        have hln : (xs.take i).length = i := by simp; omega
        rw [hln] at hcut' hv1
        have HV1 := Lib.hid hv1
        obtain ⟨b, off, rfl, hbl, hc⟩ := HV.out.cells (by omega)
        have g2 := (hb1.cell (p := ⟨b, off + i, none⟩) hbl).trans (hc i hlt)
        clear hc hcut hv1 hln
        generalize invTo xs i = n0 at *
        obtain ⟨x, hx⟩ : ∃ x, x = xs.getD i 0 := ⟨_, rfl⟩
        rw [← hx] at g2
        have HX := Lib.hid hx
        clear hx
        go_wp2_with fail
        clear hcut'
        go_loop [4, 23] (fun n k => ∃ k' : Nat, k' ≤ i ∧ k = .int .i64 k' ∧ n = .int .i64 ((n0 + cnt (isInv xs i) k' : Nat) : Int)) (fun _ k => i - (intOf k).toNat)
        case atStart => exact ⟨0, Nat.zero_le _, rfl, rfl⟩
        case round =>
          obtain ⟨k, hk, rfl, rfl⟩ := hrel
          by_cases hkt : k < i
          · have hv1 := HV1.out
            obtain ⟨b1, off1, rfl, hbl1, hc1⟩ := hv1.cells (by simp; omega)
            have g1 := (hb1.cell (p := ⟨b1, off1 + k, none⟩) hbl1).trans (hc1 k (by simp; omega))
            have hgd : (xs.take i).getD k 0 = xs.getD k 0 := by simp [List.getD, List.getElem?_take, hkt]
            rw [hgd] at g1
            clear hc1 hgd hv1
            have hC := cnt_le (isInv xs i) k
            have S1 : cnt (isInv xs i) (k + 1) = cnt (isInv xs i) k + (if isInv xs i k = true then 1 else 0) := rfl
            have HS := Lib.hid S1
            clear S1
            generalize cnt (isInv xs i) k = c0 at *
            obtain ⟨y, hy⟩ : ∃ y, y = xs.getD k 0 := ⟨_, rfl⟩
            rw [← hy] at g1
            have HY := Lib.hid hy
            clear hy
            by_cases hx : x < y
            · have HS2 := Lib.hid (HS.out.trans (by rw [isInv, ← HX.out, ← HY.out, decide_eq_true hx, if_pos rfl]))
              go_wp2_with fail
              go_round
              case rel => exact ⟨k + 1, by omega, by go_num, by rw [HS2.out]; go_num⟩
              case measure => simp [intOf]; omega
            · have HS2 := Lib.hid (HS.out.trans (by rw [isInv, ← HX.out, ← HY.out, decide_eq_false hx, if_neg (by simp)]))
              have hd : decide (x < y) = false := by simpa using hx
              go_wp2_with fail
              go_round
              case rel => exact ⟨k + 1, by omega, by go_num, by rw [HS2.out]; go_num⟩
              case measure => simp [intOf]; omega
          · obtain rfl : k = i := by omega
            go_wp2_with fail
            go_round
            case rel => exact ⟨k + 1, by omega, by go_num, by rw [HI1.out]⟩
            case measure => simp [intOf]; omega
      · obtain rfl : i = xs.length := by omega
        go_wp2_with fail
        go_ret2
        exact ⟨ret_ii (by rw [HE.out]) (by rw [HE.out]), hb1⟩

end Go.Proofs.Yteohfokchimfeaa
