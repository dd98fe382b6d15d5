/-
  IsSorted of both sides.
-/
import Derived.Test.YteohfokchimfeaaSorted
namespace Go.Proofs.Yteohfokchimfeaa
open Go.RowKit

set_option maxHeartbeats 2000000 in
theorem specIsSorted_any (v : Value) (xs : List Int) (u : Value) (ss : List Int) (w : World) (hv : RI w v xs) (hu : RI w u ss) :
    Calls Try.prog 37 #[v, u] w fun e w' => e = .returned (.tuple #[.bool (valSorted xs ss).1, .int .i64 (valSorted xs ss).2]) ∧ Below w.heap.size w w' := by
  have HV := Lib.hid hv
  have HU := Lib.hid hu
  by_cases hc : codeSt xs ss = 0
  · obtain ⟨hok, hlen, hss⟩ := codeSt_zero hc
    have l40 := okOrder_len hok
    have HE : Hid (valSorted xs ss = (sortedB xs ss, 0)) := if_pos hc
    have C1 := l17Code_any v xs u ss w HV.out HU.out
    rw [hc] at C1
    have D1 := Lib.hid C1
    have HL := Lib.hid hlen
    obtain ⟨a, cap, rfl⟩ := hv.shape
    obtain ⟨a2, cap2, rfl⟩ := hu.shape
    clear C1 hc hok hlen hss hv hu
    go_enter Try.func37, Try.ntmps37
    go_wp2_with fail
    refine D1.out.mono ?_
    rintro e w1 ⟨rfl, hb1⟩
    go_wp2_with fail
    go_loopw [7] (fun i wr => ∃ i' : Nat, i' ≤ xs.length ∧ i = .int .i64 i' ∧ Hid (∀ j, j < i' → ∀ k, k < j → badPair xs ss j k = false) ∧ Below w.heap.size w wr) (fun i _ => xs.length - (intOf i).toNat)
    case atStart => exact ⟨0, Nat.zero_le _, rfl, Lib.hid (fun j hj => absurd hj (Nat.not_lt_zero _)), hb1⟩
    case round =>
      obtain ⟨i, hi, rfl, HB, hb⟩ := hrel
      by_cases hlt : i < xs.length
      · obtain ⟨wo, rfl⟩ : ∃ wo : World, wo = wr := ⟨_, rfl⟩
        go_wp2_with fail
        go_loopw [8] (fun k wr => ∃ k' : Nat, k' ≤ i ∧ k = .int .i64 k' ∧ Hid (∀ k, k < k' → badPair xs ss i k = false) ∧ Below w.heap.size w wr) (fun k _ => i - (intOf k).toNat)
        case atStart => exact ⟨0, Nat.zero_le _, rfl, Lib.hid (fun k hk => absurd hk (Nat.not_lt_zero _)), hb⟩
        case round =>
          obtain ⟨k, hk, rfl, HK, hb2⟩ := hrel
          by_cases hkt : k < i
          · obtain ⟨b, off, rfl, hbl, hcx⟩ := HV.out.cells (by omega)
            obtain ⟨b2, off2, rfl, hbl2, hcs⟩ := HU.out.cells (by have := HL.out; omega)
            have g1 := (hb2.cell (p := ⟨b, off + k, none⟩) hbl).trans (hcx k (by omega))
            have g2 := (hb2.cell (p := ⟨b, off + i, none⟩) hbl).trans (hcx i hlt)
            have g3 := (hb2.cell (p := ⟨b2, off2 + k, none⟩) hbl2).trans (hcs k (by have := HL.out; omega))
            have g4 := (hb2.cell (p := ⟨b2, off2 + i, none⟩) hbl2).trans (hcs i (by have := HL.out; omega))
            have hki : (k : Int) < xs.length := by omega
            have hii : (i : Int) < xs.length := by omega
            have hks : (k : Int) < ss.length := by have := HL.out; omega
            have his : (i : Int) < ss.length := by have := HL.out; omega
            clear hcx hcs
            have S1 : badPair xs ss i k = ((ss.getD k 0 == ss.getD i 0) && decide (xs.getD k 0 < xs.getD i 0)) := rfl
            generalize xs.getD k 0 = x at *
            generalize xs.getD i 0 = y at *
            generalize ss.getD k 0 = p at *
            generalize ss.getD i 0 = q at *
            have HS := Lib.hid S1
            clear S1
            have fin : badPair xs ss i k = false → ∀ k', k' < k + 1 → badPair xs ss i k' = false := fun h k' hk' => by
              by_cases e : k' = k
              · subst e; exact h
              · exact HK.out k' (by omega)
            have FIN := Lib.hid fin
            clear fin
            by_cases hpq : p = q
            · have e1 : (p == q) = true := by rw [beq_iff_eq]; exact hpq
              clear hpq
              by_cases hxy : x < y
              · have e2 : decide (x < y) = true := by simpa using hxy
                have HS2 := Lib.hid (HS.out.trans (by rw [e1, e2]))
                go_wp2_with fail
                go_quiet (fail)
                go_wp2_with fail
                go_ret2
                exact ⟨ret_bi (by rw [HE.out, sortedB_false hlt hkt HS2.out]) (by rw [HE.out]), below_drewN hb2 _⟩
              · have e2 : decide (x < y) = false := by simpa using hxy
                have HS2 := Lib.hid (HS.out.trans (by rw [e1, e2]))
                go_wp2_with fail
                go_quiet (fail)
                go_wp2_with fail
                go_roundw
                case rel => exact ⟨k + 1, by omega, by go_num, Lib.hid (FIN.out HS2.out), below_drewN hb2 _⟩
                case measure => simp [intOf]; omega
            · have e1 : (p == q) = false := by rw [beq_eq_false_iff_ne]; exact hpq
              have HS2 := Lib.hid (HS.out.trans (by rw [e1]))
              clear hpq
              go_wp2_with fail
              go_quiet (fail)
              go_wp2_with fail
              go_roundw
              case rel => exact ⟨k + 1, by omega, by go_num, Lib.hid (FIN.out HS2.out), below_drewN hb2 _⟩
              case measure => simp [intOf]; omega
          · obtain rfl : k = i := by omega
            go_wp2_with fail
            go_roundw
            case rel =>
              refine ⟨k + 1, by omega, by go_num, Lib.hid (fun j hj => ?_), hb2⟩
              by_cases e : j = k
              · subst e; exact HK.out
              · exact HB.out j (by omega)
            case measure => simp [intOf]; omega
      · obtain rfl : i = xs.length := by omega
        go_wp2_with fail
        go_ret2
        exact ⟨ret_bi (by rw [HE.out, sortedB_true HB.out]) (by rw [HE.out]), hb⟩
  · have HE : Hid (valSorted xs ss = (false, codeSt xs ss)) := if_neg hc
    have C1 := Lib.hid (l17Code_any v xs u ss w HV.out HU.out)
    generalize codeSt xs ss = c at *
    have hn : (c != 0) = true := by rw [bne_iff_ne]; exact hc
    clear hc hv hu
    go_enter Try.func37, Try.ntmps37
    go_wp2_with fail
    refine C1.out.mono ?_
    rintro e w1 ⟨rfl, hb1⟩
    go_wp2_with fail
    go_ret2
    exact ⟨ret_bi (by rw [HE.out]) (by rw [HE.out]), hb1⟩

set_option maxHeartbeats 2000000 in
theorem implIsSorted_any (v : Value) (xs : List Int) (u : Value) (ss : List Int) (w : World) (hv : RI w v xs) (hu : RI w u ss) (hs : xs.length ≤ 1048576) :
    Calls Try.prog 38 #[v, u] w fun e w' => e = .returned (.tuple #[.bool (valSorted xs ss).1, .int .i64 (valSorted xs ss).2]) ∧ Below w.heap.size w w' := by
  have HV := Lib.hid hv
  have HU := Lib.hid hu
  by_cases hc : codeSt xs ss = 0
  · obtain ⟨hok, hlen, hss⟩ := codeSt_zero hc
    have l40 := okOrder_len hok
    have HE : Hid (valSorted xs ss = (sortedB xs ss, 0)) := if_pos hc
    have C1 := stacksCode_any v xs u ss w HV.out HU.out hs
    rw [hc] at C1
    have D1 := Lib.hid C1
    have HL := Lib.hid hlen
    obtain ⟨a, cap, rfl⟩ := hv.shape
    obtain ⟨a2, cap2, rfl⟩ := hu.shape
    clear C1 hc hok hlen hss hv hu
    go_enter Try.func38, Try.ntmps38
    go_wp2_with fail
    refine D1.out.mono ?_
    rintro e w1 ⟨rfl, hb1⟩
    go_wp2_with fail
    go_loopw [19] (fun i wr => ∃ i' : Nat, i' ≤ xs.length ∧ i = .int .i64 i' ∧ Hid (∀ j, j < i' → ∀ k, k < j → badPair xs ss j k = false) ∧ Below w.heap.size w wr) (fun i _ => xs.length - (intOf i).toNat)
    case atStart => exact ⟨0, Nat.zero_le _, rfl, Lib.hid (fun j hj => absurd hj (Nat.not_lt_zero _)), hb1⟩
    case round =>
      obtain ⟨i, hi, rfl, HB, hb⟩ := hrel
      by_cases hlt : i < xs.length
      · obtain ⟨wo, rfl⟩ : ∃ wo : World, wo = wr := ⟨_, rfl⟩
        obtain ⟨b, off, rfl, hbl, hcx⟩ := HV.out.cells (by omega)
        have g2 := (hb.cell (p := ⟨b, off + i, none⟩) hbl).trans (hcx i hlt)
        clear hcx
        obtain ⟨y, hy⟩ : ∃ y, y = xs.getD i 0 := ⟨_, rfl⟩
        rw [← hy] at g2
        have HY := Lib.hid hy
        obtain ⟨vc, hvc, hcut⟩ := cutToI HV.out i hi
        have hcut' := fun W => hcut W (i : Int) rfl
        obtain ⟨ac, capc, rfl⟩ := hvc.shape
        have hln : (xs.take i).length = i := by simp; omega
        rw [hln] at hcut' hvc
        have HVC := Lib.hid hvc
        clear hcut hvc hln hy
        go_wp2_with fail
        clear hcut' g2
        go_loopw [28] (fun k wr => ∃ k' : Nat, k' ≤ i ∧ k = .int .i64 k' ∧ Hid (∀ k, k < k' → badPair xs ss i k = false) ∧ Below w.heap.size w wr) (fun k _ => i - (intOf k).toNat)
        case atStart => exact ⟨0, Nat.zero_le _, rfl, Lib.hid (fun k hk => absurd hk (Nat.not_lt_zero _)), hb⟩
        case round =>
          obtain ⟨k, hk, rfl, HK, hb2⟩ := hrel
          by_cases hkt : k < i
          · have hvc := HVC.out
            obtain ⟨bc, offc, rfl, hblc, hcc⟩ := hvc.cells (by simp; omega)
            obtain ⟨b2, off2, rfl, hbl2, hcs⟩ := HU.out.cells (by have := HL.out; omega)
            have g1 := (hb2.cell (p := ⟨bc, offc + k, none⟩) hblc).trans (hcc k (by simp; omega))
            have hgd : (xs.take i).getD k 0 = xs.getD k 0 := by simp [List.getD, List.getElem?_take, hkt]
            rw [hgd] at g1
            have g3 := (hb2.cell (p := ⟨b2, off2 + k, none⟩) hbl2).trans (hcs k (by have := HL.out; omega))
            have g4 := (hb2.cell (p := ⟨b2, off2 + i, none⟩) hbl2).trans (hcs i (by have := HL.out; omega))
            have hki : (k : Int) < i := by omega
            have hks : (k : Int) < ss.length := by have := HL.out; omega
            have his : (i : Int) < ss.length := by have := HL.out; omega
            clear hcc hcs hvc hgd
            have S1 : badPair xs ss i k = ((ss.getD k 0 == ss.getD i 0) && decide (xs.getD k 0 < y)) := by rw [HY.out]; rfl
            generalize xs.getD k 0 = x at *
            generalize ss.getD k 0 = p at *
            generalize ss.getD i 0 = q at *
            have HS := Lib.hid S1
            clear S1
            have fin : badPair xs ss i k = false → ∀ k', k' < k + 1 → badPair xs ss i k' = false := fun h k' hk' => by
              by_cases e : k' = k
              · subst e; exact h
              · exact HK.out k' (by omega)
            have FIN := Lib.hid fin
            clear fin
            by_cases hpq : p = q
            · have e1 : (p == q) = true := by rw [beq_iff_eq]; exact hpq
              clear hpq
              by_cases hxy : x < y
              · have e2 : decide (x < y) = true := by simpa using hxy
                have HS2 := Lib.hid (HS.out.trans (by rw [e1, e2]))
                go_wp2_with fail
                go_quiet (fail)
                go_wp2_with fail
                go_ret2
                exact ⟨ret_bi (by rw [HE.out, sortedB_false hlt hkt HS2.out]) (by rw [HE.out]), below_drewN hb2 _⟩
              · have e2 : decide (x < y) = false := by simpa using hxy
                have HS2 := Lib.hid (HS.out.trans (by rw [e1, e2]))
                go_wp2_with fail
                go_quiet (fail)
                go_wp2_with fail
                go_roundw
                case rel => exact ⟨k + 1, by omega, by go_num, Lib.hid (FIN.out HS2.out), below_drewN hb2 _⟩
                case measure => simp [intOf]; omega
            · have e1 : (p == q) = false := by rw [beq_eq_false_iff_ne]; exact hpq
              have HS2 := Lib.hid (HS.out.trans (by rw [e1]))
              clear hpq
              go_wp2_with fail
              go_quiet (fail)
              go_wp2_with fail
              go_roundw
              case rel => exact ⟨k + 1, by omega, by go_num, Lib.hid (FIN.out HS2.out), below_drewN hb2 _⟩
              case measure => simp [intOf]; omega
          · obtain rfl : k = i := by omega
            go_wp2_with fail
            go_roundw
            case rel =>
              refine ⟨k + 1, by omega, by go_num, Lib.hid (fun j hj => ?_), hb2⟩
              by_cases e : j = k
              · subst e; exact HK.out
              · exact HB.out j (by omega)
            case measure => simp [intOf]; omega
      · obtain rfl : i = xs.length := by omega
        go_wp2_with fail
        go_ret2
        exact ⟨ret_bi (by rw [HE.out, sortedB_true HB.out]) (by rw [HE.out]), hb⟩
  · have HE : Hid (valSorted xs ss = (false, codeSt xs ss)) := if_neg hc
    have C1 := Lib.hid (stacksCode_any v xs u ss w HV.out HU.out hs)
    generalize codeSt xs ss = c at *
    have hn : (c != 0) = true := by rw [bne_iff_ne]; exact hc
    clear hc hv hu
    go_enter Try.func38, Try.ntmps38
    go_wp2_with fail
    refine C1.out.mono ?_
    rintro e w1 ⟨rfl, hb1⟩
    go_wp2_with fail
    go_ret2
    exact ⟨ret_bi (by rw [HE.out]) (by rw [HE.out]), hb1⟩

end Go.Proofs.Yteohfokchimfeaa
