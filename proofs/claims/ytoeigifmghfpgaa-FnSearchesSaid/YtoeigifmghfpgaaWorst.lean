/-
  The reference's worst price of sections, by a contract.
-/
import Derived.Test.YtoeigifmghfpgaaOpen
import Derived.Test.YtoeigifmghfpgaaPlainSearch
namespace Go.Proofs.Ytoeigifmghfpgaa
open Go.RowKit Plain

theorem l00Max_any (a b : Int) (w : World) : Calls Try.prog 51 #[.int .i64 a, .int .i64 b] w fun e w' => e = .returned (.int .i64 (max a b)) ∧ w = w' := by
  by_cases h : b < a
  · go_enter Try.func51, Try.ntmps51
    go_wp2
    go_ret
    exact ⟨ret_int (by omega), rfl⟩
  · go_enter Try.func51, Try.ntmps51
    go_wp2
    go_ret
    exact ⟨ret_int (by omega), rfl⟩

theorem okOpen_len {xs : List Int} (h : okOpen xs = true) : xs.length ≤ 9 := by
  simp [okOpen] at h; exact h.2
theorem okOpen_mem {xs : List Int} (h : okOpen xs = true) (x : Int) (hx : x ∈ xs) : 1 ≤ x ∧ x ≤ 1000 := by
  simp [okOpen, inB] at h; exact h.1 x hx
theorem okOpen_getD {xs : List Int} (h : okOpen xs = true) (k : Nat) (hk : k < xs.length) : 1 ≤ xs.getD k 0 ∧ xs.getD k 0 ≤ 1000 := by
  refine okOpen_mem h _ ?_
  simp only [List.getD, List.getElem?_eq_getElem hk, Option.getD_some]; exact List.getElem_mem hk

theorem worst_le (xs : List Int) (h : okOpen xs = true) (f lo hi : Nat) (hh : hi ≤ xs.length) : 0 ≤ (price (cWorst xs) f lo hi).1 ∧ (price (cWorst xs) f lo hi).1 ≤ 1000 * f := by
  refine price_le (cWorst xs) (fun f => 1000 * f) (fun f => by omega) xs.length (fun f lo hi k a b hk _ _ _ h1 h2 h3 h4 => ?_) f lo hi hh
  have := okOpen_getD h k hk
  simp only [cWorst]
  omega

set_option maxHeartbeats 1000000 in
theorem worst_any (v : Value) (xs : List Int) (hok : okOpen xs = true) : ∀ (f : Nat) (lo hi : Nat) (lo' hi' : Int) (w : World), lo' = lo → hi' = hi → hi ≤ xs.length → lo ≤ xs.length → hi - lo ≤ f → f ≤ 9 → RI w v xs →
    Calls Try.prog 55 #[v, .int .i64 lo', .int .i64 hi'] w fun e w' => e = .returned (.tuple #[.int .i64 (price (cWorst xs) f lo hi).1, .int .i64 (price (cWorst xs) f lo hi).2]) ∧ Below w.heap.size w w' := by
  intro f
  induction f with
  | zero =>
    intro lo hi lo' hi' w hlo hhi hh hl hf hf9 hv
    subst hlo hhi
    go_enter Try.func55, Try.ntmps55
    go_wp2_with fail
    go_loop [8, 9, 10] (fun b l k => b = .int .i64 (-1) ∧ l = .int .i64 0 ∧ k = .int .i64 lo) (fun _ _ _ => 0)
    case atStart => exact ⟨rfl, rfl, rfl⟩
    case round =>
      obtain ⟨rfl, rfl, rfl⟩ := hrel
      have hge : ¬ ((lo : Int) < hi) := by omega
      go_wp2_with fail
      go_ret2
      exact ⟨rfl, Below.refl _ _⟩
  | succ f ih =>
    intro lo hi lo' hi' w hlo hhi hh hl hf hf9 hv
    subst hlo hhi
    have HV := Lib.hid hv
    have IH := Lib.hid ih
    have HOK := Lib.hid hok
    have l9 := okOpen_len hok
    obtain ⟨a, cap, rfl⟩ := hv.shape
    clear hv ih hok
    go_enter Try.func55, Try.ntmps55
    go_wp2_with fail
    go_loopw [8, 9, 10] (fun b l k wr => ∃ j : Nat, lo + j ≤ max lo hi ∧ k = .int .i64 ((lo + j : Nat) : Int) ∧ Below w.heap.size w wr ∧
        l = .int .i64 (scan (cost (cWorst xs) f lo hi) lo j).1 ∧ b = .int .i64 (scan (cost (cWorst xs) f lo hi) lo j).2)
      (fun _ _ k _ => hi - (intOf k).toNat)
    case atStart => exact ⟨0, by omega, rfl, Below.refl _ _, rfl, rfl⟩
    case round =>
      obtain ⟨j, hj, rfl, hb, rfl, rfl⟩ := hrel
      by_cases hlt : lo + j < hi
      · have hS : scan (cost (cWorst xs) f lo hi) lo (j + 1) = tryOne (cost (cWorst xs) f lo hi) (scan (cost (cWorst xs) f lo hi) lo j) (lo + j) := rfl
        have hC : cost (cWorst xs) f lo hi (lo + j) = xs.getD (lo + j) 0 + max (price (cWorst xs) f lo (lo + j)).1 (price (cWorst xs) f (lo + j + 1) hi).1 := rfl
        have p1 := worst_le xs HOK.out f lo (lo + j) (by omega)
        have p2 := worst_le xs HOK.out f (lo + j + 1) hi hh
        have px := okOpen_getD HOK.out (lo + j) (by omega)
        obtain ⟨b, off, rfl, hbl, hc⟩ := HV.out.cells (by omega)
        have HG := Lib.hid (hc (lo + j) (by omega))
        clear hc
        have C1 := Lib.hid (fun W B => IH.out lo (lo + j) (lo : Int) ((lo : Int) + j) W rfl (by omega) (by omega) (by omega) (by omega) (by omega) (HV.out.below B))
        have C2 := Lib.hid (fun W B => IH.out (lo + j + 1) hi ((lo : Int) + j + 1) hi W (by omega) rfl (by omega) (by omega) (by omega) (by omega) (HV.out.below B))
        generalize price (cWorst xs) f lo (lo + j) = q1 at *
        generalize price (cWorst xs) f (lo + j + 1) hi = q2 at *
        obtain ⟨a1, b1⟩ := q1
        obtain ⟨a2, b2⟩ := q2
        generalize xs.getD (lo + j) 0 = x at *
        generalize scan (cost (cWorst xs) f lo hi) lo j = acc at *
        obtain ⟨least, best⟩ := acc
        simp only at p1 p2 hC
        have HS := Lib.hid hS
        have HC := Lib.hid hC
        clear hS hC
        go_wp2_with fail
        refine (C1.out _ hb).mono ?_
        rintro e w1 ⟨rfl, hb1⟩
        go_wp2_with fail
        refine (C2.out _ (bthen hb hb1)).mono ?_
        rintro e w2 ⟨rfl, hb2⟩
        have hb12 := bthen (bthen hb hb1) hb2
        have g := (hb12.cell (p := ⟨b, off + (lo + j), none⟩) hbl).trans HG.out
        have hkl : (lo : Int) + j < xs.length := by omega
        go_wp2_with fail
        have hwr : IntKind.i64.wrap (x + max a1 a2) = x + max a1 a2 := IntWalk.i64_in _ (by omega)
        have hw1 : IntKind.i64.wrap ((lo : Int) + j + 1) = (lo : Int) + j + 1 := IntWalk.i64_in _ (by omega)
        have hn : ((lo : Int) + j).toNat = lo + j := by omega
        have h0 : (0 : Int) ≤ (lo : Int) + j := by omega
        go_quiet ((go_at_call 51; exact quiet_eq (l00Max_any _ _ _)))
        clear hn h0
        have fin : ∀ (y z : Int), y = (tryOne (cost (cWorst xs) f lo hi) (least, best) (lo + j)).1 → z = (tryOne (cost (cWorst xs) f lo hi) (least, best) (lo + j)).2 →
            ∃ j_1 : Nat, lo + j_1 ≤ max lo hi ∧ Value.int .i64 ((lo : Int) + j + 1) = .int .i64 ((lo + j_1 : Nat) : Int) ∧ Below w.heap.size w (w2.drewN nq) ∧
              Value.int .i64 y = .int .i64 (scan (cost (cWorst xs) f lo hi) lo j_1).1 ∧ Value.int .i64 z = .int .i64 (scan (cost (cWorst xs) f lo hi) lo j_1).2 :=
          fun y z hy hz => ⟨j + 1, by omega, by go_num, below_drewN (bthen hb12 (Below.refl _ _)) _, by rw [HS.out, hy], by rw [HS.out, hz]⟩
        have FIN := Lib.hid fin
        clear fin
        by_cases hbest : best < 0
        · have HB := Lib.hid hbest
          go_wp2_with fail
          go_roundw
          case rel => exact FIN.out _ _ (by rw [tryOne, if_pos (.inl HB.out), HC.out]) (by rw [tryOne, if_pos (.inl HB.out)]; simp)
          case measure => simp [intOf]; omega
        · have HB := Lib.hid hbest
          have hbd : decide (best < 0) = false := by simpa using hbest
          by_cases hl : x + max a1 a2 < least
          · have HL := Lib.hid hl
            go_wp2_with fail
            go_roundw
            case rel => exact FIN.out _ _ (by rw [tryOne, if_pos (.inr (by rw [HC.out]; exact HL.out)), HC.out]) (by rw [tryOne, if_pos (.inr (by rw [HC.out]; exact HL.out))]; simp)
            case measure => simp [intOf]; omega
          · have HL := Lib.hid hl
            have hld : decide (x + max a1 a2 < least) = false := by simpa using hl
            go_wp2_with fail
            go_roundw
            case rel => exact FIN.out _ _ (by rw [tryOne, if_neg (by rw [HC.out]; exact fun h => h.elim HB.out HL.out)]) (by rw [tryOne, if_neg (by rw [HC.out]; exact fun h => h.elim HB.out HL.out)])
            case measure => simp [intOf]; omega
      · have hE : (scan (cost (cWorst xs) f lo hi) lo j) = price (cWorst xs) (f + 1) lo hi := by
          rw [price_succ]
          by_cases h0 : lo ≤ hi
          · rw [show hi - lo = j by omega]
          · rw [show hi - lo = 0 by omega, show j = 0 by omega]
        have HE := Lib.hid hE
        clear hE
        go_wp2_with fail
        go_ret2
        exact ⟨ret_ii (by rw [HE.out]) (by rw [HE.out]), hb⟩

end Go.Proofs.Ytoeigifmghfpgaa
