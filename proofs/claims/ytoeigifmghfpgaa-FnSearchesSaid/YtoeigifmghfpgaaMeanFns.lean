/-
  The program's price of sections, with weights, by a contract; MeanSearch and MeanOpening of both sides.
-/
import Derived.Test.YtoeigifmghfpgaaMean
namespace Go.Proofs.Ytoeigifmghfpgaa
open Go.RowKit Plain

set_option maxHeartbeats 1000000 in
theorem priceM_any (v u : Value) (xs ws : List Int) (hok : okWeights xs ws = true) : ∀ (f : Nat) (lo hi : Nat) (lo' hi' : Int) (w : World), lo' = lo → hi' = hi → hi ≤ xs.length → lo ≤ hi → hi - lo ≤ f → f ≤ 9 → RI w v xs → RI w u ws →
    Calls Try.prog 46 #[.agg #[v, u], .int .i64 lo', .int .i64 hi'] w fun e w' => e = .returned (.tuple #[.int .i64 (price (cMean xs ws) f lo hi).1, .int .i64 (price (cMean xs ws) f lo hi).2]) ∧ Below w.heap.size w w' := by
  intro f
  induction f with
  | zero =>
    intro lo hi lo' hi' w hlo hhi hh hl hf hf9 hv hu
    subst hlo hhi
    clear hok
    go_enter Try.func46, Try.ntmps46
    go_wp2_with fail
    go_loop [8, 9, 10] (fun b l k => b = .int .i64 (-1) ∧ l = .int .i64 0 ∧ k = .int .i64 lo) (fun _ _ _ => 0)
    case atStart => exact ⟨rfl, rfl, rfl⟩
    case round =>
      obtain ⟨rfl, rfl, rfl⟩ := hrel
      have hge : ¬ ((lo : Int) < hi) := by omega
      go_wp2_with fail
      go_ret2
      exact ⟨rfl, (Below.refl _ _).alloc (Nat.le_refl _) _⟩
  | succ f ih =>
    intro lo hi lo' hi' w hlo hhi hh hl hf hf9 hv hu
    subst hlo hhi
    obtain ⟨hok1, hlw, hww⟩ := okWeights_iff hok
    have l9 := okOpen_len hok1
    have HV := Lib.hid hv
    have HU := Lib.hid hu
    have IH := Lib.hid ih
    have HOK := Lib.hid hok
    obtain ⟨a, cap, rfl⟩ := hv.shape
    obtain ⟨a2, cap2, rfl⟩ := hu.shape
    obtain ⟨bw, offw, rfl, _, _⟩ := hu.cells (by omega)
    obtain ⟨v1, hv1, hcut⟩ := cutI hu lo (hi + 1) (by omega) (by omega)
    have HS1 := Lib.hid (fun W B => sumOf_any v1 _ W (hv1.below B) (fun k => by have := sum_part ws hww (by omega) lo (hi + 1) k; unfold Good; omega))
    have HCUT := Lib.hid (fun W => hcut W (lo : Int) ((hi : Int) + 1) rfl (by omega))
    have hSum := sum_part ws hww (by omega) lo (hi + 1) (((ws.take (hi + 1)).drop lo).length)
    rw [List.take_length] at hSum
    clear hv hu ih hok hcut hv1 hww hlw
    have HK1 := Lib.hid hok1
    clear hok1
    have hz0 : w.heap.size < (w.alloc (.cells #[.slice a xs.length cap, .slice (some ⟨bw, offw, none⟩) ws.length cap2] 52)).heap.size := by simp
    have B0 := Lib.hid ((Below.refl w.heap.size w).alloc (Nat.le_refl _) (.cells #[.slice a xs.length cap, .slice (some ⟨bw, offw, none⟩) ws.length cap2] 52))
    have c0 : (w.alloc (.cells #[.slice a xs.length cap, .slice (some ⟨bw, offw, none⟩) ws.length cap2] 52)).cell? ⟨w.heap.size, 0, none⟩ = some (.slice a xs.length cap) := by rw [World.cell?_alloc_at _ _ _ _ rfl]; rfl
    have c1 : (w.alloc (.cells #[.slice a xs.length cap, .slice (some ⟨bw, offw, none⟩) ws.length cap2] 52)).cell? ⟨w.heap.size, 1, none⟩ = some (.slice (some ⟨bw, offw, none⟩) ws.length cap2) := by rw [World.cell?_alloc_at _ _ _ _ rfl]; rfl
    go_enter Try.func46, Try.ntmps46
    go_wp2_with fail
    go_loopw [8, 9, 10] (fun b l k wr => ∃ j : Nat, lo + j ≤ hi ∧ k = .int .i64 ((lo + j : Nat) : Int) ∧ Below w.heap.size w wr ∧ w.heap.size < wr.heap.size ∧ wr.cell? ⟨w.heap.size, 0, none⟩ = some (.slice a xs.length cap) ∧ wr.cell? ⟨w.heap.size, 1, none⟩ = some (.slice (some ⟨bw, offw, none⟩) ws.length cap2) ∧
        l = .int .i64 (scan (cost (cMean xs ws) f lo hi) lo j).1 ∧ b = .int .i64 (scan (cost (cMean xs ws) f lo hi) lo j).2)
      (fun _ _ k _ => hi - (intOf k).toNat)
    case atStart => exact ⟨0, by omega, rfl, B0.out, hz0, c0, c1, rfl, rfl⟩
    case round =>
      obtain ⟨j, hj, rfl, hb, hz, d0, d1, rfl, rfl⟩ := hrel
      clear c0 c1 hz0
      by_cases hlt : lo + j < hi
      · have hok1 := HK1.out
        have hS : scan (cost (cMean xs ws) f lo hi) lo (j + 1) = tryOne (cost (cMean xs ws) f lo hi) (scan (cost (cMean xs ws) f lo hi) lo j) (lo + j) := rfl
        have hC : cost (cMean xs ws) f lo hi (lo + j) = xs.getD (lo + j) 0 * sumI ((ws.take (hi + 1)).drop lo) + (price (cMean xs ws) f lo (lo + j)).1 + (price (cMean xs ws) f (lo + j + 1) hi).1 := rfl
        have p1 := mean_le xs ws HOK.out f lo (lo + j) (by omega)
        have p2 := mean_le xs ws HOK.out f (lo + j + 1) hi hh
        have pw := pow_le9 f (by omega)
        have px := okOpen_getD hok1 (lo + j) (by omega)
        have pm := mul_part _ _ px.1 px.2 hSum.1 hSum.2
        obtain ⟨b, off, rfl, hbl, hc⟩ := HV.out.cells (by omega)
        have HG := Lib.hid (hc (lo + j) (by omega))
        clear hc
        have C1 := Lib.hid (fun W B => IH.out lo (lo + j) (lo : Int) ((lo : Int) + j) W rfl (by omega) (by omega) (by omega) (by omega) (by omega) (HV.out.below B) (HU.out.below B))
        have C2 := Lib.hid (fun W B => IH.out (lo + j + 1) hi ((lo : Int) + j + 1) hi W (by omega) rfl (by omega) (by omega) (by omega) (by omega) (HV.out.below B) (HU.out.below B))
        generalize price (cMean xs ws) f lo (lo + j) = q1 at *
        generalize price (cMean xs ws) f (lo + j + 1) hi = q2 at *
        obtain ⟨a1, b1⟩ := q1
        obtain ⟨a2, b2⟩ := q2
        generalize xs.getD (lo + j) 0 = x at *
        generalize scan (cost (cMean xs ws) f lo hi) lo j = acc at *
        obtain ⟨least, best⟩ := acc
        simp only at p1 p2 hC
        clear hok1
        generalize sumI ((ws.take (hi + 1)).drop lo) = S at *
        obtain ⟨m, hm⟩ : ∃ m, m = max a1 a2 := ⟨_, rfl⟩
        have hmx : (if a1 < a2 then a2 else a1) = m := by rw [hm]; split <;> omega
        have pmm : 0 ≤ m ∧ m ≤ 1000000000 := by omega
        clear hm
        have HS := Lib.hid hS
        have HC := Lib.hid hC
        clear hS hC
        go_wp2_with fail
        refine (C1.out _ hb).mono ?_
        rintro e w1 ⟨rfl, hb1⟩
        have e0 := (hb1.cell (p := ⟨w.heap.size, 0, none⟩) hz).trans d0
        have e1 := (hb1.cell (p := ⟨w.heap.size, 1, none⟩) hz).trans d1
        have hz1 := Nat.lt_of_lt_of_le hz hb1.size
        clear d0 d1
        go_wp2_with fail
        refine (C2.out _ (bthen hb hb1)).mono ?_
        rintro e w2 ⟨rfl, hb2⟩
        have f0 := (hb2.cell (p := ⟨w.heap.size, 0, none⟩) hz1).trans e0
        have f1 := (hb2.cell (p := ⟨w.heap.size, 1, none⟩) hz1).trans e1
        have hz2 := Nat.lt_of_lt_of_le hz1 hb2.size
        clear e0 e1
        have hb12 := bthen (bthen hb hb1) hb2
        have g := (hb12.cell (p := ⟨b, off + (lo + j), none⟩) hbl).trans HG.out
        have hkl : (lo : Int) + j < xs.length := by omega
        go_wp2_with fail
        have hcut' := HCUT.out
        have hw1 : IntKind.i64.wrap ((hi : Int) + 1) = (hi : Int) + 1 := IntWalk.i64_in _ (by omega)
        have hw2 : IntKind.i64.wrap (x * S) = x * S := IntWalk.i64_in _ (by omega)
        have hw3 : IntKind.i64.wrap (x * S + a1) = x * S + a1 := IntWalk.i64_in _ (by omega)
        have hw4 : IntKind.i64.wrap (x * S + a1 + a2) = x * S + a1 + a2 := IntWalk.i64_in _ (by omega)
        have hn : ((lo : Int) + j).toNat = lo + j := by omega
        have h0 : (0 : Int) ≤ (lo : Int) + j := by omega
        go_quiet ((go_at_call 48; exact quiet_eq (HS1.out _ (bthen0 hb12 _))))
        clear hn h0 hcut' hw1 hw2 hw3 hw4
        have fin : ∀ (y z : Int), y = (tryOne (cost (cMean xs ws) f lo hi) (least, best) (lo + j)).1 → z = (tryOne (cost (cMean xs ws) f lo hi) (least, best) (lo + j)).2 →
            ∃ j_1 : Nat, lo + j_1 ≤ hi ∧ Value.int .i64 ((lo : Int) + j + 1) = .int .i64 ((lo + j_1 : Nat) : Int) ∧ Below w.heap.size w (w2.drewN nq) ∧ w.heap.size < (w2.drewN nq).heap.size ∧ (w2.drewN nq).cell? ⟨w.heap.size, 0, none⟩ = some (.slice (some ⟨b, off, none⟩) xs.length cap) ∧ (w2.drewN nq).cell? ⟨w.heap.size, 1, none⟩ = some (.slice (some ⟨bw, offw, none⟩) ws.length cap2) ∧
              Value.int .i64 y = .int .i64 (scan (cost (cMean xs ws) f lo hi) lo j_1).1 ∧ Value.int .i64 z = .int .i64 (scan (cost (cMean xs ws) f lo hi) lo j_1).2 :=
          fun y z hy hz => ⟨j + 1, by omega, by go_num, below_drewN hb12 _, hz2, f0, f1, by rw [HS.out, hy], by rw [HS.out, hz]⟩
        have FIN := Lib.hid fin
        clear fin
        by_cases hbest : best < 0
        · have HB := Lib.hid hbest
          go_wp2_with fail
          go_roundw
          case rel => exact FIN.out _ _ (by rw [tryOne, if_pos (.inl HB.out), HC.out]) (by rw [tryOne, if_pos (.inl HB.out)]; simp)
          case measure => simp [intOf]; omega
        · have HB := Lib.hid hbest
          have hbd : decide (best < 0) = false := by simpa using hbest
          by_cases hl : x * S + a1 + a2 < least
          · have HL := Lib.hid hl
            go_wp2_with fail
            go_roundw
            case rel => exact FIN.out _ _ (by rw [tryOne, if_pos (.inr (by rw [HC.out]; exact HL.out)), HC.out]) (by rw [tryOne, if_pos (.inr (by rw [HC.out]; exact HL.out))]; simp)
            case measure => simp [intOf]; omega
          · have HL := Lib.hid hl
            have hld : decide (x * S + a1 + a2 < least) = false := by simpa using hl
            go_wp2_with fail
            go_roundw
            case rel => exact FIN.out _ _ (by rw [tryOne, if_neg (by rw [HC.out]; have h1 := HB.out; have h2 := HL.out; simp only; omega)]) (by rw [tryOne, if_neg (by rw [HC.out]; have h1 := HB.out; have h2 := HL.out; simp only; omega)])
            case measure => simp [intOf]; omega
      · have hE : (scan (cost (cMean xs ws) f lo hi) lo j) = price (cMean xs ws) (f + 1) lo hi := by
          rw [price_succ, show hi - lo = j by omega]
        have HE := Lib.hid hE
        clear hE
        go_wp2_with fail
        go_ret2
        exact ⟨ret_ii (by rw [HE.out]) (by rw [HE.out]), hb⟩

/-- The mean price of all sections, and a code. -/
def valMean (xs ws : List Int) : Int × Int := if okWeights xs ws = true then ((price (cMean xs ws) 9 0 xs.length).1, 0) else (0, 1)
/-- The first opening of the mean search, and a code. -/
def valMeanOpening (xs ws : List Int) : Int × Int := if okWeights xs ws = true then (if xs.length = 0 then (0, 6) else ((price (cMean xs ws) 9 0 xs.length).2, 0)) else (0, 1)

theorem specMeanSearch_any (v : Value) (xs : List Int) (u : Value) (ws : List Int) (w : World) (hv : RI w v xs) (hu : RI w u ws) :
    Calls Try.prog 29 #[v, u] w fun e w' => e = .returned (.tuple #[.int .i64 (valMean xs ws).1, .int .i64 (valMean xs ws).2]) ∧ Below w.heap.size w w' := by
  obtain ⟨a, cap, rfl⟩ := hv.shape
  obtain ⟨a2, cap2, rfl⟩ := hu.shape
  have HV := Lib.hid hv
  have HU := Lib.hid hu
  clear hv hu
  cases hc : okWeights xs ws with
  | true =>
    have hok1 := (okWeights_iff hc).1
    have l9 := okOpen_len hok1
    have C2 := Lib.hid (fun W B => mean_any _ _ xs ws hc 9 0 xs.length 0 xs.length W rfl rfl (by omega) (by omega) (by omega) (by omega) (HV.out.below B) (HU.out.below B))
    have C1 := l16Weights_any _ _ xs ws w HV.out HU.out
    rw [hc] at C1
    have D1 := Lib.hid C1
    have HE : Hid (valMean xs ws = ((price (cMean xs ws) 9 0 xs.length).1, 0)) := if_pos hc
    clear C1 hc hok1
    go_enter Try.func29, Try.ntmps29
    go_wp2_with fail
    refine D1.out.mono ?_
    rintro e w1 ⟨rfl, rfl⟩
    go_wp2_with fail
    refine (C2.out _ (Below.refl _ _)).mono ?_
    rintro e w2 ⟨rfl, hb2⟩
    go_wp2_with fail
    go_ret2
    exact ⟨ret_ii (by rw [HE.out]) (by rw [HE.out]), hb2⟩
  | false =>
    have HE : Hid (valMean xs ws = (0, 1)) := if_neg (by rw [hc]; simp)
    have C1 := l16Weights_any _ _ xs ws w HV.out HU.out
    rw [hc] at C1
    have D1 := Lib.hid C1
    clear C1 hc
    go_enter Try.func29, Try.ntmps29
    go_wp2_with fail
    refine D1.out.mono ?_
    rintro e w1 ⟨rfl, rfl⟩
    go_wp2_with fail
    go_ret2
    exact ⟨ret_ii (by rw [HE.out]) (by rw [HE.out]), Below.refl _ _⟩

theorem specMeanOpening_any (v : Value) (xs : List Int) (u : Value) (ws : List Int) (w : World) (hv : RI w v xs) (hu : RI w u ws) :
    Calls Try.prog 31 #[v, u] w fun e w' => e = .returned (.tuple #[.int .i64 (valMeanOpening xs ws).1, .int .i64 (valMeanOpening xs ws).2]) ∧ Below w.heap.size w w' := by
  obtain ⟨a, cap, rfl⟩ := hv.shape
  obtain ⟨a2, cap2, rfl⟩ := hu.shape
  have HV := Lib.hid hv
  have HU := Lib.hid hu
  clear hv hu
  cases hc : okWeights xs ws with
  | true =>
    have hok1 := (okWeights_iff hc).1
    have l9 := okOpen_len hok1
    have C2 := Lib.hid (fun W B => mean_any _ _ xs ws hc 9 0 xs.length 0 xs.length W rfl rfl (by omega) (by omega) (by omega) (by omega) (HV.out.below B) (HU.out.below B))
    have C1 := l16Weights_any _ _ xs ws w HV.out HU.out
    rw [hc] at C1
    have D1 := Lib.hid C1
    have HE : Hid (valMeanOpening xs ws = if xs.length = 0 then (0, 6) else ((price (cMean xs ws) 9 0 xs.length).2, 0)) := if_pos hc
    clear C1 hc hok1
    by_cases hlh : xs.length = 0
    · have HE2 := Lib.hid (HE.out.trans (if_pos hlh))
      have hb : ((xs.length : Int) == 0) = true := by rw [beq_iff_eq]; omega
      clear hlh
      go_enter Try.func31, Try.ntmps31
      go_wp2_with fail
      refine D1.out.mono ?_
      rintro e w1 ⟨rfl, rfl⟩
      go_wp2_with fail
      go_ret2
      exact ⟨ret_ii (by rw [HE2.out]) (by rw [HE2.out]), Below.refl _ _⟩
    · have HE2 := Lib.hid (HE.out.trans (if_neg hlh))
      have hb : ((xs.length : Int) == 0) = false := by rw [beq_eq_false_iff_ne]; omega
      clear hlh
      go_enter Try.func31, Try.ntmps31
      go_wp2_with fail
      refine D1.out.mono ?_
      rintro e w1 ⟨rfl, rfl⟩
      go_wp2_with fail
      refine (C2.out _ (Below.refl _ _)).mono ?_
      rintro e w2 ⟨rfl, hb2⟩
      go_wp2_with fail
      go_ret2
      exact ⟨ret_ii (by rw [HE2.out]) (by rw [HE2.out]), hb2⟩
  | false =>
    have HE : Hid (valMeanOpening xs ws = (0, 1)) := if_neg (by rw [hc]; simp)
    have C1 := l16Weights_any _ _ xs ws w HV.out HU.out
    rw [hc] at C1
    have D1 := Lib.hid C1
    clear C1 hc
    go_enter Try.func31, Try.ntmps31
    go_wp2_with fail
    refine D1.out.mono ?_
    rintro e w1 ⟨rfl, rfl⟩
    go_wp2_with fail
    go_ret2
    exact ⟨ret_ii (by rw [HE.out]) (by rw [HE.out]), Below.refl _ _⟩

theorem implMeanSearch_any (v : Value) (xs : List Int) (u : Value) (ws : List Int) (w : World) (hv : RI w v xs) (hu : RI w u ws) :
    Calls Try.prog 30 #[v, u] w fun e w' => e = .returned (.tuple #[.int .i64 (valMean xs ws).1, .int .i64 (valMean xs ws).2]) ∧ Below w.heap.size w w' := by
  obtain ⟨a, cap, rfl⟩ := hv.shape
  obtain ⟨a2, cap2, rfl⟩ := hu.shape
  have HV := Lib.hid hv
  have HU := Lib.hid hu
  clear hv hu
  cases hc : okWeights xs ws with
  | true =>
    have hok1 := (okWeights_iff hc).1
    have l9 := okOpen_len hok1
    have C2 := Lib.hid (fun W B => priceM_any _ _ xs ws hc 9 0 xs.length 0 xs.length W rfl rfl (by omega) (by omega) (by omega) (by omega) (HV.out.below B) (HU.out.below B))
    have C1 := validWeights_any _ _ xs ws w HV.out HU.out
    rw [hc] at C1
    have D1 := Lib.hid C1
    have HE : Hid (valMean xs ws = ((price (cMean xs ws) 9 0 xs.length).1, 0)) := if_pos hc
    clear C1 hc hok1
    go_enter Try.func30, Try.ntmps30
    go_wp2_with fail
    refine D1.out.mono ?_
    rintro e w1 ⟨rfl, hb1⟩
    go_wp2_with fail
    refine (C2.out _ hb1).mono ?_
    rintro e w2 ⟨rfl, hb2⟩
    go_wp2_with fail
    go_ret2
    exact ⟨ret_ii (by rw [HE.out]) (by rw [HE.out]), bthen hb1 hb2⟩
  | false =>
    have HE : Hid (valMean xs ws = (0, 1)) := if_neg (by rw [hc]; simp)
    have C1 := validWeights_any _ _ xs ws w HV.out HU.out
    rw [hc] at C1
    have D1 := Lib.hid C1
    clear C1 hc
    go_enter Try.func30, Try.ntmps30
    go_wp2_with fail
    refine D1.out.mono ?_
    rintro e w1 ⟨rfl, hb1⟩
    go_wp2_with fail
    go_ret2
    exact ⟨ret_ii (by rw [HE.out]) (by rw [HE.out]), hb1⟩

theorem implMeanOpening_any (v : Value) (xs : List Int) (u : Value) (ws : List Int) (w : World) (hv : RI w v xs) (hu : RI w u ws) :
    Calls Try.prog 32 #[v, u] w fun e w' => e = .returned (.tuple #[.int .i64 (valMeanOpening xs ws).1, .int .i64 (valMeanOpening xs ws).2]) ∧ Below w.heap.size w w' := by
  obtain ⟨a, cap, rfl⟩ := hv.shape
  obtain ⟨a2, cap2, rfl⟩ := hu.shape
  have HV := Lib.hid hv
  have HU := Lib.hid hu
  clear hv hu
  cases hc : okWeights xs ws with
  | true =>
    have hok1 := (okWeights_iff hc).1
    have l9 := okOpen_len hok1
    have C2 := Lib.hid (fun W B => priceM_any _ _ xs ws hc 9 0 xs.length 0 xs.length W rfl rfl (by omega) (by omega) (by omega) (by omega) (HV.out.below B) (HU.out.below B))
    have C1 := validWeights_any _ _ xs ws w HV.out HU.out
    rw [hc] at C1
    have D1 := Lib.hid C1
    have HE : Hid (valMeanOpening xs ws = if xs.length = 0 then (0, 6) else ((price (cMean xs ws) 9 0 xs.length).2, 0)) := if_pos hc
    clear C1 hc hok1
    by_cases hlh : xs.length = 0
    · have HE2 := Lib.hid (HE.out.trans (if_pos hlh))
      have hb : ((xs.length : Int) == 0) = true := by rw [beq_iff_eq]; omega
      clear hlh
      go_enter Try.func32, Try.ntmps32
      go_wp2_with fail
      refine D1.out.mono ?_
      rintro e w1 ⟨rfl, hb1⟩
      go_wp2_with fail
      go_ret2
      exact ⟨ret_ii (by rw [HE2.out]) (by rw [HE2.out]), hb1⟩
    · have HE2 := Lib.hid (HE.out.trans (if_neg hlh))
      have hb : ((xs.length : Int) == 0) = false := by rw [beq_eq_false_iff_ne]; omega
      clear hlh
      go_enter Try.func32, Try.ntmps32
      go_wp2_with fail
      refine D1.out.mono ?_
      rintro e w1 ⟨rfl, hb1⟩
      go_wp2_with fail
      refine (C2.out _ hb1).mono ?_
      rintro e w2 ⟨rfl, hb2⟩
      go_wp2_with fail
      go_ret2
      exact ⟨ret_ii (by rw [HE2.out]) (by rw [HE2.out]), bthen hb1 hb2⟩
  | false =>
    have HE : Hid (valMeanOpening xs ws = (0, 1)) := if_neg (by rw [hc]; simp)
    have C1 := validWeights_any _ _ xs ws w HV.out HU.out
    rw [hc] at C1
    have D1 := Lib.hid C1
    clear C1 hc
    go_enter Try.func32, Try.ntmps32
    go_wp2_with fail
    refine D1.out.mono ?_
    rintro e w1 ⟨rfl, hb1⟩
    go_wp2_with fail
    go_ret2
    exact ⟨ret_ii (by rw [HE.out]) (by rw [HE.out]), hb1⟩

end Go.Proofs.Ytoeigifmghfpgaa
