/-
  The program's price of sections, without weights, by a contract.
-/
import Derived.Test.YtoeigifmghfpgaaWorst
namespace Go.Proofs.Ytoeigifmghfpgaa
open Go.RowKit Plain

set_option maxHeartbeats 1000000 in
theorem priceW_any (v : Value) (xs : List Int) (hok : okOpen xs = true) : ∀ (f : Nat) (lo hi : Nat) (lo' hi' : Int) (w : World), lo' = lo → hi' = hi → hi ≤ xs.length → lo ≤ xs.length → hi - lo ≤ f → f ≤ 9 → RI w v xs →
    Calls Try.prog 46 #[.agg #[v, .slice none 0 0], .int .i64 lo', .int .i64 hi'] w fun e w' => e = .returned (.tuple #[.int .i64 (price (cWorst xs) f lo hi).1, .int .i64 (price (cWorst xs) f lo hi).2]) ∧ Below w.heap.size w w' := by
  intro f
  induction f with
  | zero =>
    intro lo hi lo' hi' w hlo hhi hh hl hf hf9 hv
    subst hlo hhi
    go_enter Try.func46, Try.ntmps46
    go_wp2_with fail
    go_loop [8, 9, 10] (fun b l k => b = .int .i64 (-1) ∧ l = .int .i64 0 ∧ k = .int .i64 lo) (fun _ _ _ => 0)
    case atStart => exact ⟨rfl, rfl, rfl⟩
    case round =>
      obtain ⟨rfl, rfl, rfl⟩ := hrel
      have hge : ¬ ((lo : Int) < hi) := by omega
      go_wp2_with fail
      go_ret2
      exact ⟨rfl, (Below.refl _ _).alloc (Nat.le_refl _) _⟩
  | succ f ih =>
    intro lo hi lo' hi' w hlo hhi hh hl hf hf9 hv
    subst hlo hhi
    have HV := Lib.hid hv
    have IH := Lib.hid ih
    have HOK := Lib.hid hok
    have l9 := okOpen_len hok
    obtain ⟨a, cap, rfl⟩ := hv.shape
    clear hv ih hok
    have hz0 : w.heap.size < (w.alloc (.cells #[.slice a xs.length cap, .slice none 0 0] 52)).heap.size := by simp
    have B0 := Lib.hid ((Below.refl w.heap.size w).alloc (Nat.le_refl _) (.cells #[.slice a xs.length cap, .slice none 0 0] 52))
    have c0 : (w.alloc (.cells #[.slice a xs.length cap, .slice none 0 0] 52)).cell? ⟨w.heap.size, 0, none⟩ = some (.slice a xs.length cap) := by rw [World.cell?_alloc_at _ _ _ _ rfl]; rfl
    have c1 : (w.alloc (.cells #[.slice a xs.length cap, .slice none 0 0] 52)).cell? ⟨w.heap.size, 1, none⟩ = some (.slice none 0 0) := by rw [World.cell?_alloc_at _ _ _ _ rfl]; rfl
    go_enter Try.func46, Try.ntmps46
    go_wp2_with fail
    go_loopw [8, 9, 10] (fun b l k wr => ∃ j : Nat, lo + j ≤ max lo hi ∧ k = .int .i64 ((lo + j : Nat) : Int) ∧ Below w.heap.size w wr ∧ w.heap.size < wr.heap.size ∧ wr.cell? ⟨w.heap.size, 0, none⟩ = some (.slice a xs.length cap) ∧ wr.cell? ⟨w.heap.size, 1, none⟩ = some (.slice none 0 0) ∧
        l = .int .i64 (scan (cost (cWorst xs) f lo hi) lo j).1 ∧ b = .int .i64 (scan (cost (cWorst xs) f lo hi) lo j).2)
      (fun _ _ k _ => hi - (intOf k).toNat)
    case atStart => exact ⟨0, by omega, rfl, B0.out, hz0, c0, c1, rfl, rfl⟩
    case round =>
      obtain ⟨j, hj, rfl, hb, hz, d0, d1, rfl, rfl⟩ := hrel
      clear c0 c1 hz0
      by_cases hlt : lo + j < hi
      · have hS : scan (cost (cWorst xs) f lo hi) lo (j + 1) = tryOne (cost (cWorst xs) f lo hi) (scan (cost (cWorst xs) f lo hi) lo j) (lo + j) := rfl
        have hC : cost (cWorst xs) f lo hi (lo + j) = xs.getD (lo + j) 0 + max (price (cWorst xs) f lo (lo + j)).1 (price (cWorst xs) f (lo + j + 1) hi).1 := rfl
        have p1 := worst_le xs HOK.out f lo (lo + j) (by omega)
        have p2 := worst_le xs HOK.out f (lo + j + 1) hi hh
        have px := okOpen_getD HOK.out (lo + j) (by omega)
        obtain ⟨b, off, rfl, hbl, hc⟩ := HV.out.cells (by omega)
        have HG := Lib.hid (hc (lo + j) (by omega))
        clear hc
        have C1 := Lib.hid (fun W B => IH.out lo (lo + j) (lo : Int) ((lo : Int) + j) W rfl (by omega) (by omega) (by omega) (by omega) (by omega) (HV.out.below B))
        have C2 := Lib.hid (fun W B => IH.out (lo + j + 1) hi ((lo : Int) + j + 1) hi W (by omega) rfl (by omega) (by omega) (by omega) (by omega) (HV.out.below B))
        generalize price (cWorst xs) f lo (lo + j) = q1 at *
        generalize price (cWorst xs) f (lo + j + 1) hi = q2 at *
        obtain ⟨a1, b1⟩ := q1
        obtain ⟨a2, b2⟩ := q2
        generalize xs.getD (lo + j) 0 = x at *
        generalize scan (cost (cWorst xs) f lo hi) lo j = acc at *
        obtain ⟨least, best⟩ := acc
        simp only at p1 p2 hC
        obtain ⟨m, hm⟩ : ∃ m, m = max a1 a2 := ⟨_, rfl⟩
        have hmx : (if a1 < a2 then a2 else a1) = m := by rw [hm]; split <;> omega
        have pm : 0 ≤ m ∧ m ≤ 1000 * f := by omega
        rw [← hm] at hC
        clear hm
        have HS := Lib.hid hS
        have HC := Lib.hid hC
        clear hS hC
        go_wp2_with fail
        refine (C1.out _ hb).mono ?_
        rintro e w1 ⟨rfl, hb1⟩
        have e0 := (hb1.cell (p := ⟨w.heap.size, 0, none⟩) hz).trans d0
        have e1 := (hb1.cell (p := ⟨w.heap.size, 1, none⟩) hz).trans d1
        have hz1 := Nat.lt_of_lt_of_le hz hb1.size
        clear d0 d1
        go_wp2_with fail
        refine (C2.out _ (bthen hb hb1)).mono ?_
        rintro e w2 ⟨rfl, hb2⟩
        have f0 := (hb2.cell (p := ⟨w.heap.size, 0, none⟩) hz1).trans e0
        have f1 := (hb2.cell (p := ⟨w.heap.size, 1, none⟩) hz1).trans e1
        have hz2 := Nat.lt_of_lt_of_le hz1 hb2.size
        clear e0 e1
        have hb12 := bthen (bthen hb hb1) hb2
        have g := (hb12.cell (p := ⟨b, off + (lo + j), none⟩) hbl).trans HG.out
        have hkl : (lo : Int) + j < xs.length := by omega
        have fin : ∀ (y z : Int), y = (tryOne (cost (cWorst xs) f lo hi) (least, best) (lo + j)).1 → z = (tryOne (cost (cWorst xs) f lo hi) (least, best) (lo + j)).2 →
            ∃ j_1 : Nat, lo + j_1 ≤ max lo hi ∧ Value.int .i64 ((lo : Int) + j + 1) = .int .i64 ((lo + j_1 : Nat) : Int) ∧ Below w.heap.size w w2 ∧ w.heap.size < w2.heap.size ∧ w2.cell? ⟨w.heap.size, 0, none⟩ = some (.slice (some ⟨b, off, none⟩) xs.length cap) ∧ w2.cell? ⟨w.heap.size, 1, none⟩ = some (.slice none 0 0) ∧
              Value.int .i64 y = .int .i64 (scan (cost (cWorst xs) f lo hi) lo j_1).1 ∧ Value.int .i64 z = .int .i64 (scan (cost (cWorst xs) f lo hi) lo j_1).2 :=
          fun y z hy hz => ⟨j + 1, by omega, by go_num, hb12, hz2, f0, f1, by rw [HS.out, hy], by rw [HS.out, hz]⟩
        have FIN := Lib.hid fin
        clear fin
        by_cases hbest : best < 0
        · have HB := Lib.hid hbest
          go_wp2_with fail
          go_roundw
          case rel => exact FIN.out _ _ (by rw [tryOne, if_pos (.inl HB.out), HC.out]) (by rw [tryOne, if_pos (.inl HB.out)]; simp)
          case measure => simp [intOf]; omega
        · have HB := Lib.hid hbest
          have hbd : decide (best < 0) = false := by simpa using hbest
          by_cases hl : x + m < least
          · have HL := Lib.hid hl
            go_wp2_with fail
            go_roundw
            case rel => exact FIN.out _ _ (by rw [tryOne, if_pos (.inr (by rw [HC.out]; exact HL.out)), HC.out]) (by rw [tryOne, if_pos (.inr (by rw [HC.out]; exact HL.out))]; simp)
            case measure => simp [intOf]; omega
          · have HL := Lib.hid hl
            have hld : decide (x + m < least) = false := by simpa using hl
            go_wp2_with fail
            go_roundw
            case rel => exact FIN.out _ _ (by rw [tryOne, if_neg (by rw [HC.out]; have h1 := HB.out; have h2 := HL.out; simp only; omega)]) (by rw [tryOne, if_neg (by rw [HC.out]; have h1 := HB.out; have h2 := HL.out; simp only; omega)])
            case measure => simp [intOf]; omega
      · have hE : (scan (cost (cWorst xs) f lo hi) lo j) = price (cWorst xs) (f + 1) lo hi := by
          rw [price_succ]
          by_cases h0 : lo ≤ hi
          · rw [show hi - lo = j by omega]
          · rw [show hi - lo = 0 by omega, show j = 0 by omega]
        have HE := Lib.hid hE
        clear hE
        go_wp2_with fail
        go_ret2
        exact ⟨ret_ii (by rw [HE.out]) (by rw [HE.out]), hb⟩

end Go.Proofs.Ytoeigifmghfpgaa
