/-
  Weights of sections, and the mean price of sections of both sides, by contracts.
-/
import Derived.Test.YtoeigifmghfpgaaPrice
import Derived.Test.YtoeigifmghfpgaaSums
namespace Go.Proofs.Ytoeigifmghfpgaa
open Go.RowKit Plain

/-- Prices and weights. -/
def okWeights (xs ws : List Int) : Bool := okOpen xs && (decide (ws.length = xs.length + 1) && ws.all (inB 1 100))

theorem okWeights_iff {xs ws : List Int} (h : okWeights xs ws = true) : okOpen xs = true ∧ ws.length = xs.length + 1 ∧ ∀ x ∈ ws, 1 ≤ x ∧ x ≤ 100 := by
  simp [okWeights, inB] at h
  exact ⟨h.1, h.2.1, fun x hx => h.2.2 x hx⟩

theorem l16Weights_any (v u : Value) (xs ws : List Int) (w : World) (hv : RI w v xs) (hu : RI w u ws) :
    Calls Try.prog 52 #[v, u] w fun e w' => e = .returned (.bool (okWeights xs ws)) ∧ w = w' := by
  obtain ⟨a, cap, rfl⟩ := hv.shape
  obtain ⟨a2, cap2, rfl⟩ := hu.shape
  have hl := hv.len
  have hl2 := hu.len
  have HV := Lib.hid hv
  have HU := Lib.hid hu
  clear hv hu
  go_enter Try.func52, Try.ntmps52
  go_wp2
  go_loop [5] (fun i => ∃ k : Nat, k ≤ ws.length ∧ i = .int .i64 k ∧ (ws.take k).all (inB 1 100) = true) (fun i => ws.length - (intOf i).toNat)
  case atStart => exact ⟨0, Nat.zero_le _, rfl, rfl⟩
  case round =>
    obtain ⟨k, hk, rfl, hall⟩ := hrel
    have HA := Lib.hid hall
    clear hall
    by_cases hlt : k < ws.length
    · obtain ⟨b, off, rfl, hb, hc⟩ := HU.out.cells (by omega)
      have g := hc k hlt
      clear hc
      have S1 := take_snoc ws k hlt
      have hmem : ws.getD k 0 ∈ ws := by simp only [List.getD, List.getElem?_eq_getElem hlt, Option.getD_some]; exact List.getElem_mem hlt
      generalize ws.getD k 0 = x at g S1 hmem
      have HS := Lib.hid S1
      have HM := Lib.hid hmem
      clear S1 hmem
      cases hx : inB 1 100 x with
      | true =>
        have HX := Lib.hid hx
        go_wp2_with (go_at_call 58; refine (l00In_any _ _ _ _).mono ?_; rintro e w' ⟨rfl, rfl⟩)
        go_round
        case rel => exact ⟨k + 1, by omega, by go_num, by rw [HS.out, List.all_append, HA.out]; simp [HX.out]⟩
        case measure => simp [intOf]; omega
      | false =>
        have HX := Lib.hid hx
        go_wp2_with (go_at_call 58; refine (l00In_any _ _ _ _).mono ?_; rintro e w' ⟨rfl, rfl⟩)
        go_ret
        refine ⟨ret_bool ?_, rfl⟩
        have : ws.all (inB 1 100) = false := by rw [List.all_eq_false]; exact ⟨x, HM.out, by simp [HX.out]⟩
        simp [okWeights, this]
    · have h1 := HA.out
      rw [List.take_of_length_le (by omega)] at h1
      have H1 := Lib.hid h1
      clear h1
      cases hok : okOpen xs with
      | true =>
        have l9 := okOpen_len hok
        go_wp2_with (go_at_call 40; refine (l16Ok_any _ xs _ HV.out).mono ?_; rintro e w' ⟨rfl, rfl⟩)
        go_ret
        refine ⟨ret_bool ?_, rfl⟩
        rw [okWeights, hok, H1.out, Bool.true_and, Bool.and_true]
        rw [Bool.eq_iff_iff]; simp; omega
      | false =>
        go_wp2_with (go_at_call 40; refine (l16Ok_any _ xs _ HV.out).mono ?_; rintro e w' ⟨rfl, rfl⟩)
        go_ret
        exact ⟨ret_bool (by rw [okWeights, hok, Bool.false_and]), rfl⟩

theorem any_not_all (p : Int → Bool) (ws : List Int) : (!(ws.any fun n => !p n)) = ws.all p := by
  induction ws with
  | nil => rfl
  | cons x xs ih => simp [List.all_cons, List.any_cons, ← ih]

theorem validWeights_any (v u : Value) (xs ws : List Int) (w : World) (hv : RI w v xs) (hu : RI w u ws) :
    Calls Try.prog 54 #[v, u] w fun e w' => e = .returned (.bool (okWeights xs ws)) ∧ Below w.heap.size w w' := by
  obtain ⟨a, cap, rfl⟩ := hv.shape
  obtain ⟨a2, cap2, rfl⟩ := hu.shape
  have hl := hv.len
  have hl2 := hu.len
  have HV := Lib.hid hv
  have HU := Lib.hid hu
  have HN := Lib.hid (any_not_all (inB 1 100) ws)
  clear hv hu
  cases hok : okOpen xs with
  | false =>
    go_enter Try.func54, Try.ntmps54
    go_wp2_with (go_at_call 16; refine (implValidOpenings_any _ xs _ HV.out).mono ?_; rintro e w1 ⟨rfl, hb1⟩)
    go_ret
    exact ⟨ret_bool (by rw [okWeights, hok, Bool.false_and]), by assumption⟩
  | true =>
    have hok9 := okOpen_len hok
    by_cases hn : ws.length = xs.length + 1
    · have hb : ((ws.length : Int) == (xs.length : Int) + 1) = true := by rw [beq_iff_eq]; omega
      have HE := Lib.hid hn
      clear hn
      go_enter Try.func54, Try.ntmps54
      go_wp2_with fail
      refine (implValidOpenings_any _ xs _ HV.out).mono ?_
      rintro e w1 ⟨rfl, hb1⟩
      go_wp2_with fail
      refine (outside_any _ ws _ _ _ (HU.out.below hb1)).mono ?_
      rintro e w2 ⟨rfl, hb2⟩
      go_wp2_with fail
      go_ret
      refine ⟨ret_bool ?_, bthen hb1 hb2⟩
      rw [HN.out, okWeights, hok, Bool.true_and, decide_eq_true HE.out, Bool.true_and]
    · have hb : ((ws.length : Int) == (xs.length : Int) + 1) = false := by rw [beq_eq_false_iff_ne]; omega
      have HE := Lib.hid hn
      clear hn
      go_enter Try.func54, Try.ntmps54
      go_wp2_with (go_at_call 16; refine (implValidOpenings_any _ xs _ HV.out).mono ?_; rintro e w1 ⟨rfl, hb1⟩)
      go_ret
      refine ⟨ret_bool ?_, by assumption⟩
      rw [okWeights, hok, Bool.true_and, decide_eq_false HE.out, Bool.false_and]

/-! ### the mean price -/
theorem sum_part (ws : List Int) (h : ∀ x ∈ ws, 1 ≤ x ∧ x ≤ 100) (h10 : ws.length ≤ 10) (lo hi k : Nat) : 0 ≤ sumI (((ws.take hi).drop lo).take k) ∧ sumI (((ws.take hi).drop lo).take k) ≤ 1000 := by
  have a := sumI_bound (((ws.take hi).drop lo).take k) 100 (fun x hx => by have := h x (List.mem_of_mem_take (List.mem_of_mem_drop (List.mem_of_mem_take hx))); omega)
  have b : (((ws.take hi).drop lo).take k).length ≤ 10 := by simp; omega
  omega

theorem mul_part (x S : Int) (h1 : 1 ≤ x) (h2 : x ≤ 1000) (h3 : 0 ≤ S) (h4 : S ≤ 1000) : 0 ≤ x * S ∧ x * S ≤ 1000000 := by
  refine ⟨Int.mul_nonneg (by omega) h3, ?_⟩
  have := Int.mul_le_mul h2 h4 h3 (by omega : (0 : Int) ≤ 1000)
  omega

theorem pow_step (f : Nat) : (2 : Int) ^ (f + 1) = 2 * 2 ^ f := by rw [Int.pow_succ, Int.mul_comm]

theorem mean_le (xs ws : List Int) (h : okWeights xs ws = true) (f lo hi : Nat) (hh : hi ≤ xs.length) : 0 ≤ (price (cMean xs ws) f lo hi).1 ∧ (price (cMean xs ws) f lo hi).1 ≤ 1000000 * (2 ^ f - 1) := by
  obtain ⟨hok, hl, hw⟩ := okWeights_iff h
  have l9 := okOpen_len hok
  refine price_le (cMean xs ws) (fun f => 1000000 * (2 ^ f - 1)) (fun f => ?_) xs.length (fun f lo hi k a b hk _ _ _ h1 h2 h3 h4 => ?_) f lo hi hh
  · have : (1 : Int) ≤ 2 ^ f := by
      induction f with
      | zero => simp
      | succ f ih => rw [pow_step]; omega
    omega
  · have hx := okOpen_getD hok k hk
    have hs := sum_part ws hw (by omega) lo (hi + 1) (((ws.take (hi + 1)).drop lo).length)
    rw [List.take_length] at hs
    have hm := mul_part _ _ hx.1 hx.2 hs.1 hs.2
    simp only [cMean] at *
    rw [pow_step]
    omega

theorem pow_le9 (f : Nat) (h : f ≤ 8) : (2 : Int) ^ f ≤ 256 := by
  match f, h with
  | 0, _ => decide
  | 1, _ => decide
  | 2, _ => decide
  | 3, _ => decide
  | 4, _ => decide
  | 5, _ => decide
  | 6, _ => decide
  | 7, _ => decide
  | 8, _ => decide

set_option maxHeartbeats 1000000 in
theorem mean_any (v u : Value) (xs ws : List Int) (hok : okWeights xs ws = true) : ∀ (f : Nat) (lo hi : Nat) (lo' hi' : Int) (w : World), lo' = lo → hi' = hi → hi ≤ xs.length → lo ≤ hi → hi - lo ≤ f → f ≤ 9 → RI w v xs → RI w u ws →
    Calls Try.prog 53 #[v, u, .int .i64 lo', .int .i64 hi'] w fun e w' => e = .returned (.tuple #[.int .i64 (price (cMean xs ws) f lo hi).1, .int .i64 (price (cMean xs ws) f lo hi).2]) ∧ Below w.heap.size w w' := by
  intro f
  induction f with
  | zero =>
    intro lo hi lo' hi' w hlo hhi hh hl hf hf9 hv hu
    subst hlo hhi
    obtain ⟨hok1, hlw, hww⟩ := okWeights_iff hok
    have l9 := okOpen_len hok1
    obtain ⟨a2, cap2, rfl⟩ := hu.shape
    obtain ⟨v1, hv1, hcut⟩ := cutI hu lo (hi + 1) (by omega) (by omega)
    have HS1 := Lib.hid (fun W B => l00Sum_any v1 _ W (hv1.below B) (fun k => by have := sum_part ws hww (by omega) lo (hi + 1) k; unfold Good; omega))
    have hcut' := fun W => hcut W (lo : Int) ((hi : Int) + 1) rfl (by omega)
    clear hcut hv1 hlw hww hok hok1
    go_enter Try.func53, Try.ntmps53
    go_wp2_with fail
    refine (HS1.out _ (Below.refl _ _)).mono ?_
    rintro e w' ⟨rfl, rfl⟩
    go_wp2_with fail
    go_loop [11, 12, 13] (fun b l k => b = .int .i64 (-1) ∧ l = .int .i64 0 ∧ k = .int .i64 lo) (fun _ _ _ => 0)
    case atStart => exact ⟨rfl, rfl, rfl⟩
    case round =>
      obtain ⟨rfl, rfl, rfl⟩ := hrel
      have hge : ¬ ((lo : Int) < hi) := by omega
      go_wp2_with fail
      go_ret2
      exact ⟨rfl, Below.refl _ _⟩
  | succ f ih =>
    intro lo hi lo' hi' w hlo hhi hh hl hf hf9 hv hu
    subst hlo hhi
    obtain ⟨hok1, hlw, hww⟩ := okWeights_iff hok
    have l9 := okOpen_len hok1
    have HV := Lib.hid hv
    have HU := Lib.hid hu
    have IH := Lib.hid ih
    have HOK := Lib.hid hok
    obtain ⟨a, cap, rfl⟩ := hv.shape
    obtain ⟨a2, cap2, rfl⟩ := hu.shape
    obtain ⟨v1, hv1, hcut⟩ := cutI hu lo (hi + 1) (by omega) (by omega)
    have HS1 := Lib.hid (fun W B => l00Sum_any v1 _ W (hv1.below B) (fun k => by have := sum_part ws hww (by omega) lo (hi + 1) k; unfold Good; omega))
    have hcut' := fun W => hcut W (lo : Int) ((hi : Int) + 1) rfl (by omega)
    have hSum := sum_part ws hww (by omega) lo (hi + 1) (((ws.take (hi + 1)).drop lo).length)
    rw [List.take_length] at hSum
    clear hv hu ih hok hcut hv1 hww hlw
    have HK1 := Lib.hid hok1
    clear hok1
    go_enter Try.func53, Try.ntmps53
    go_wp2_with fail
    refine (HS1.out _ (Below.refl _ _)).mono ?_
    rintro e w' ⟨rfl, rfl⟩
    clear hcut'
    go_wp2_with fail
    go_loopw [11, 12, 13] (fun b l k wr => ∃ j : Nat, lo + j ≤ hi ∧ k = .int .i64 ((lo + j : Nat) : Int) ∧ Below w.heap.size w wr ∧
        l = .int .i64 (scan (cost (cMean xs ws) f lo hi) lo j).1 ∧ b = .int .i64 (scan (cost (cMean xs ws) f lo hi) lo j).2)
      (fun _ _ k _ => hi - (intOf k).toNat)
    case atStart => exact ⟨0, by omega, rfl, Below.refl _ _, rfl, rfl⟩
    case round =>
      obtain ⟨j, hj, rfl, hb, rfl, rfl⟩ := hrel
      by_cases hlt : lo + j < hi
      · have hok1 := HK1.out
        have hS : scan (cost (cMean xs ws) f lo hi) lo (j + 1) = tryOne (cost (cMean xs ws) f lo hi) (scan (cost (cMean xs ws) f lo hi) lo j) (lo + j) := rfl
        have hC : cost (cMean xs ws) f lo hi (lo + j) = xs.getD (lo + j) 0 * sumI ((ws.take (hi + 1)).drop lo) + (price (cMean xs ws) f lo (lo + j)).1 + (price (cMean xs ws) f (lo + j + 1) hi).1 := rfl
        have p1 := mean_le xs ws HOK.out f lo (lo + j) (by omega)
        have p2 := mean_le xs ws HOK.out f (lo + j + 1) hi hh
        have pw := pow_le9 f (by omega)
        have px := okOpen_getD hok1 (lo + j) (by omega)
        have pm := mul_part _ _ px.1 px.2 hSum.1 hSum.2
        obtain ⟨b, off, rfl, hbl, hc⟩ := HV.out.cells (by omega)
        have HG := Lib.hid (hc (lo + j) (by omega))
        clear hc
        have C1 := Lib.hid (fun W B => IH.out lo (lo + j) (lo : Int) ((lo : Int) + j) W rfl (by omega) (by omega) (by omega) (by omega) (by omega) (HV.out.below B) (HU.out.below B))
        have C2 := Lib.hid (fun W B => IH.out (lo + j + 1) hi ((lo : Int) + j + 1) hi W (by omega) rfl (by omega) (by omega) (by omega) (by omega) (HV.out.below B) (HU.out.below B))
        generalize price (cMean xs ws) f lo (lo + j) = q1 at *
        generalize price (cMean xs ws) f (lo + j + 1) hi = q2 at *
        obtain ⟨a1, b1⟩ := q1
        obtain ⟨a2, b2⟩ := q2
        generalize xs.getD (lo + j) 0 = x at *
        generalize scan (cost (cMean xs ws) f lo hi) lo j = acc at *
        obtain ⟨least, best⟩ := acc
        simp only at p1 p2 hC
        clear hok1
        generalize sumI ((ws.take (hi + 1)).drop lo) = S at *
        have HS := Lib.hid hS
        have HC := Lib.hid hC
        clear hS hC
        go_wp2_with fail
        refine (C1.out _ hb).mono ?_
        rintro e w1 ⟨rfl, hb1⟩
        go_wp2_with fail
        refine (C2.out _ (bthen hb hb1)).mono ?_
        rintro e w2 ⟨rfl, hb2⟩
        have hb12 := bthen (bthen hb hb1) hb2
        have g := (hb12.cell (p := ⟨b, off + (lo + j), none⟩) hbl).trans HG.out
        have hkl : (lo : Int) + j < xs.length := by omega
        have fin : ∀ (y z : Int), y = (tryOne (cost (cMean xs ws) f lo hi) (least, best) (lo + j)).1 → z = (tryOne (cost (cMean xs ws) f lo hi) (least, best) (lo + j)).2 →
            ∃ j_1 : Nat, lo + j_1 ≤ hi ∧ Value.int .i64 ((lo : Int) + j + 1) = .int .i64 ((lo + j_1 : Nat) : Int) ∧ Below w.heap.size w w2 ∧
              Value.int .i64 y = .int .i64 (scan (cost (cMean xs ws) f lo hi) lo j_1).1 ∧ Value.int .i64 z = .int .i64 (scan (cost (cMean xs ws) f lo hi) lo j_1).2 :=
          fun y z hy hz => ⟨j + 1, by omega, by go_num, hb12, by rw [HS.out, hy], by rw [HS.out, hz]⟩
        have FIN := Lib.hid fin
        clear fin
        by_cases hbest : best < 0
        · have HB := Lib.hid hbest
          go_wp2_with fail
          go_roundw
          case rel => exact FIN.out _ _ (by rw [tryOne, if_pos (.inl HB.out), HC.out]) (by rw [tryOne, if_pos (.inl HB.out)]; simp)
          case measure => simp [intOf]; omega
        · have HB := Lib.hid hbest
          have hbd : decide (best < 0) = false := by simpa using hbest
          by_cases hl : x * S + a1 + a2 < least
          · have HL := Lib.hid hl
            go_wp2_with fail
            go_roundw
            case rel => exact FIN.out _ _ (by rw [tryOne, if_pos (.inr (by rw [HC.out]; exact HL.out)), HC.out]) (by rw [tryOne, if_pos (.inr (by rw [HC.out]; exact HL.out))]; simp)
            case measure => simp [intOf]; omega
          · have HL := Lib.hid hl
            have hld : decide (x * S + a1 + a2 < least) = false := by simpa using hl
            go_wp2_with fail
            go_roundw
            case rel => exact FIN.out _ _ (by rw [tryOne, if_neg (by rw [HC.out]; have h1 := HB.out; have h2 := HL.out; simp only; omega)]) (by rw [tryOne, if_neg (by rw [HC.out]; have h1 := HB.out; have h2 := HL.out; simp only; omega)])
            case measure => simp [intOf]; omega
      · have hE : (scan (cost (cMean xs ws) f lo hi) lo j) = price (cMean xs ws) (f + 1) lo hi := by
          rw [price_succ, show hi - lo = j by omega]
        have HE := Lib.hid hE
        clear hE
        go_wp2_with fail
        go_ret2
        exact ⟨ret_ii (by rw [HE.out]) (by rw [HE.out]), hb⟩

end Go.Proofs.Ytoeigifmghfpgaa
