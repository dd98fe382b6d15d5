/-
  The code of an order and stacks, and IsSorted, of both sides.
-/
import Derived.Test.YteohfokchimfeaaInv
import Derived.Test.YteohfokchimfeaaSlices
namespace Go.Proofs.Yteohfokchimfeaa
open Go.RowKit

/-- Stacks of an order. -/
def okStacks (xs ss : List Int) : Bool := decide (ss.length = xs.length) && ss.all (inB 0 39)
def codeSt (xs ss : List Int) : Int := if okOrder xs = true then (if okStacks xs ss = true then 0 else 2) else 1
theorem codeSt_zero {xs ss : List Int} (h : codeSt xs ss = 0) : okOrder xs = true ∧ ss.length = xs.length ∧ ∀ x ∈ ss, 0 ≤ x ∧ x ≤ 39 := by
  unfold codeSt at h
  split at h
  · rename_i h1
    split at h
    · rename_i h2
      simp [okStacks, inB] at h2
      exact ⟨h1, h2.1, fun x hx => h2.2 x hx⟩
    · simp at h
  · simp at h

theorem l17Code_any (v : Value) (xs : List Int) (u : Value) (ss : List Int) (w : World) (hv : RI w v xs) (hu : RI w u ss) :
    Calls Try.prog 68 #[v, u] w fun e w' => e = .returned (.int .i64 (codeSt xs ss)) ∧ Below w.heap.size w w' := by
  obtain ⟨a, cap, rfl⟩ := hv.shape
  obtain ⟨a2, cap2, rfl⟩ := hu.shape
  have hl2 := hu.len
  have HV := Lib.hid hv
  have HU := Lib.hid hu
  clear hv hu
  cases hok : okOrder xs with
  | false =>
    have HE : Hid (codeSt xs ss = 1) := if_neg (by rw [hok]; simp)
    go_enter Try.func68, Try.ntmps68
    go_wp2_with (go_at_call 57; refine (l17Ok_any _ xs _ HV.out).mono ?_; rintro e w1 ⟨rfl, hb1⟩)
    go_ret
    exact ⟨ret_int HE.out.symm, by assumption⟩
  | true =>
    have l40 := okOrder_len hok
    have HE : Hid (codeSt xs ss = if okStacks xs ss = true then 0 else 2) := if_pos hok
    have C1 := l17Ok_any _ xs w HV.out
    rw [hok] at C1
    have D1 := Lib.hid C1
    clear C1 hok
    go_enter Try.func68, Try.ntmps68
    go_wp2_with fail
    refine D1.out.mono ?_
    rintro e w1 ⟨rfl, hb1⟩
    go_wp2_with fail
    go_loop [5] (fun i => ∃ k : Nat, k ≤ ss.length ∧ i = .int .i64 k ∧ (ss.take k).all (inB 0 39) = true) (fun i => ss.length - (intOf i).toNat)
    case atStart => exact ⟨0, Nat.zero_le _, rfl, rfl⟩
    case round =>
      obtain ⟨k, hk, rfl, hall⟩ := hrel
      have HA := Lib.hid hall
      clear hall
      by_cases hlt : k < ss.length
      · obtain ⟨bl, off, rfl, hbl, hc⟩ := HU.out.cells (by omega)
        have g := (hb1.cell (p := ⟨bl, off + k, none⟩) hbl).trans (hc k hlt)
        clear hc
        have S1 := take_snoc ss k hlt
        have hmem : ss.getD k 0 ∈ ss := by simp only [List.getD, List.getElem?_eq_getElem hlt, Option.getD_some]; exact List.getElem_mem hlt
        generalize ss.getD k 0 = x at g S1 hmem
        have HS := Lib.hid S1
        have HM := Lib.hid hmem
        clear S1 hmem
        cases hx : inB 0 39 x with
        | true =>
          have HX := Lib.hid hx
          go_wp2_with (go_at_call 59; refine (l00In_any _ _ _ _).mono ?_; rintro e w' ⟨rfl, rfl⟩)
          go_round
          case rel => exact ⟨k + 1, by omega, by go_num, by rw [HS.out, List.all_append, HA.out]; simp [HX.out]⟩
          case measure => simp [intOf]; omega
        | false =>
          have HX := Lib.hid hx
          go_wp2_with (go_at_call 59; refine (l00In_any _ _ _ _).mono ?_; rintro e w' ⟨rfl, rfl⟩)
          go_ret
          refine ⟨ret_int ?_, hb1⟩
          have : ss.all (inB 0 39) = false := by rw [List.all_eq_false]; exact ⟨x, HM.out, by simp [HX.out]⟩
          rw [HE.out, if_neg]; simp [okStacks, this]
      · have h1 := HA.out
        rw [List.take_of_length_le (by omega)] at h1
        have H1 := Lib.hid h1
        clear h1
        by_cases hn : ss.length = xs.length
        · have hd : ((ss.length : Int) != (xs.length : Int)) = false := by rw [hn]; simp
          have HN := Lib.hid hn
          clear hn
          go_wp2_with fail
          go_ret
          refine ⟨ret_int ?_, hb1⟩
          rw [HE.out, if_pos]; simp only [okStacks, H1.out, decide_eq_true HN.out, Bool.true_and]
        · have hd : ((ss.length : Int) != (xs.length : Int)) = true := by rw [bne_iff_ne]; omega
          have HN := Lib.hid hn
          clear hn
          go_wp2_with fail
          go_ret
          refine ⟨ret_int ?_, hb1⟩
          rw [HE.out, if_neg]; simp [okStacks, HN.out]

theorem any_not_all (p : Int → Bool) (ws : List Int) : (!(ws.any fun n => !p n)) = ws.all p := by
  induction ws with
  | nil => rfl
  | cons x xs ih => simp [List.all_cons, List.any_cons, ← ih]

theorem stacksCode_any (v : Value) (xs : List Int) (u : Value) (ss : List Int) (w : World) (hv : RI w v xs) (hu : RI w u ss) (hs : xs.length ≤ 1048576) :
    Calls Try.prog 69 #[v, u] w fun e w' => e = .returned (.int .i64 (codeSt xs ss)) ∧ Below w.heap.size w w' := by
  obtain ⟨a, cap, rfl⟩ := hv.shape
  obtain ⟨a2, cap2, rfl⟩ := hu.shape
  have hl2 := hu.len
  have HV := Lib.hid hv
  have HU := Lib.hid hu
  clear hv hu
  cases hok : okOrder xs with
  | false =>
    have HE : Hid (codeSt xs ss = 1) := if_neg (by rw [hok]; simp)
    go_enter Try.func69, Try.ntmps69
    go_wp2_with (go_at_call 19; refine (implValidOrder_any _ xs _ HV.out (by omega)).mono ?_; rintro e w1 ⟨rfl, hb1⟩)
    go_ret
    exact ⟨ret_int HE.out.symm, by assumption⟩
  | true =>
    have l40 := okOrder_len hok
    have HE : Hid (codeSt xs ss = if okStacks xs ss = true then 0 else 2) := if_pos hok
    have C1 := implValidOrder_any _ xs w HV.out (by omega)
    rw [hok] at C1
    have D1 := Lib.hid C1
    clear C1 hok
    by_cases hn : ss.length = xs.length
    · have hd : ((ss.length : Int) != (xs.length : Int)) = false := by rw [hn]; simp
      have HN := Lib.hid hn
      have HA := Lib.hid (any_not_all (inB 0 39) ss)
      clear hn
      cases ho : ss.any (fun n => !inB 0 39 n) with
      | true =>
        have C2 := fun W B => outside_any _ ss 0 39 W (HU.out.below B)
        rw [ho] at C2
        have D2 := Lib.hid C2
        have h1 := HA.out
        rw [ho] at h1
        have H1 := Lib.hid h1
        clear C2 ho h1
        go_enter Try.func69, Try.ntmps69
        go_wp2_with fail
        refine D1.out.mono ?_
        rintro e w1 ⟨rfl, hb1⟩
        go_wp2_with fail
        refine (D2.out _ hb1).mono ?_
        rintro e w2 ⟨rfl, hb2⟩
        go_wp2_with fail
        go_ret
        refine ⟨ret_int ?_, bthen hb1 hb2⟩
        rw [HE.out, if_neg]; rw [okStacks, ← H1.out]; simp
      | false =>
        have C2 := fun W B => outside_any _ ss 0 39 W (HU.out.below B)
        rw [ho] at C2
        have D2 := Lib.hid C2
        have h1 := HA.out
        rw [ho] at h1
        have H1 := Lib.hid h1
        clear C2 ho h1
        go_enter Try.func69, Try.ntmps69
        go_wp2_with fail
        refine D1.out.mono ?_
        rintro e w1 ⟨rfl, hb1⟩
        go_wp2_with fail
        refine (D2.out _ hb1).mono ?_
        rintro e w2 ⟨rfl, hb2⟩
        go_wp2_with fail
        go_ret
        refine ⟨ret_int ?_, bthen hb1 hb2⟩
        rw [HE.out, if_pos]; rw [okStacks, ← H1.out, decide_eq_true HN.out]; rfl
    · have hd : ((ss.length : Int) != (xs.length : Int)) = true := by rw [bne_iff_ne]; omega
      have HN := Lib.hid hn
      clear hn
      go_enter Try.func69, Try.ntmps69
      go_wp2_with fail
      refine D1.out.mono ?_
      rintro e w1 ⟨rfl, hb1⟩
      go_wp2_with fail
      go_ret
      refine ⟨ret_int ?_, hb1⟩
      rw [HE.out, if_neg]; simp [okStacks, HN.out]

/-- Does place k stand against place i? -/
def badPair (xs ss : List Int) (i k : Nat) : Bool := (ss.getD k 0 == ss.getD i 0) && decide (xs.getD k 0 < xs.getD i 0)
def sortedB (xs ss : List Int) : Bool := !((List.range xs.length).any fun i => (List.range i).any fun k => badPair xs ss i k)
theorem sortedB_false {xs ss : List Int} {i k : Nat} (hi : i < xs.length) (hk : k < i) (h : badPair xs ss i k = true) : sortedB xs ss = false := by
  unfold sortedB
  rw [Bool.not_eq_false']
  rw [List.any_eq_true]
  exact ⟨i, List.mem_range.2 hi, by rw [List.any_eq_true]; exact ⟨k, List.mem_range.2 hk, h⟩⟩
theorem sortedB_true {xs ss : List Int} (h : ∀ i, i < xs.length → ∀ k, k < i → badPair xs ss i k = false) : sortedB xs ss = true := by
  unfold sortedB
  rw [Bool.not_eq_true', List.any_eq_false]
  intro i hi
  rw [Bool.not_eq_true, List.any_eq_false]
  intro k hk
  rw [h i (List.mem_range.1 hi) k (List.mem_range.1 hk)]; simp
def valSorted (xs ss : List Int) : Bool × Int := if codeSt xs ss = 0 then (sortedB xs ss, 0) else (false, codeSt xs ss)

end Go.Proofs.Yteohfokchimfeaa
