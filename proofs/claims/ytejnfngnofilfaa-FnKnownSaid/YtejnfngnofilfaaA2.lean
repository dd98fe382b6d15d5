/-
  The small helpers of the laws: a2Long, a2At, a2Has, a2Rises.
-/
import Derived.Test.YtejnfngnofilfaaSrc
namespace Go.Proofs.Ytejnfngnofilfaa
open Go.RowKit

theorem a2Long_any (v u : Value) (n m : Nat) (w : World) (hv : BI w v n) (hu : BI w u m) :
    Calls Try.prog 31 #[v, u] w fun e w' => ∃ b : Bool, e = .returned (.bool b) ∧ w = w' := by
  obtain ⟨a, cap, rfl⟩ := hv.shape
  obtain ⟨a2, cap2, rfl⟩ := hu.shape
  have l1 := hv.len
  have l2 := hu.len
  clear hv hu
  go_enter Try.func31, Try.ntmps31
  go_wp2
  all_goals
    go_ret
    first
      | exact ⟨_, rfl, rfl⟩
      | exact ⟨.inl rfl, rfl⟩
      | exact ⟨.inr rfl, rfl⟩

set_option maxRecDepth 100000 in
theorem a2At_any (v : Value) (n : Nat) (k : Int) (w : World) (hv : BI w v n) :
    Calls Try.prog 32 #[v, .int .i64 0, .int .i64 k] w fun e w' => ∃ y : Int, e = .returned (.int .i64 y) ∧ 0 ≤ y ∧ (1 ≤ k → y < k) ∧ Below w.heap.size w w' := by
  obtain ⟨a, cap, rfl⟩ := hv.shape
  have hl := hv.len
  have HV := Lib.hid hv
  clear hv
  by_cases h0 : n = 0
  · subst h0
    go_enter Try.func32, Try.ntmps32
    go_wp2
    go_ret
    exact ⟨0, rfl, by omega, by omega, Below.refl _ _⟩
  · have hd : decide ((n : Int) ≤ 0) = false := decide_eq_false (by omega)
    have hn0 : (0 : Int) < n := by omega
    by_cases hk : k < 1
    · have hdk : decide (k < 1) = true := decide_eq_true hk
      clear h0
      go_enter Try.func32, Try.ntmps32
      go_wp2
      go_ret
      exact ⟨0, rfl, by omega, by omega, Below.refl _ _⟩
    · have hdk : decide (k < 1) = false := decide_eq_false hk
      have hk0 : k ≠ 0 := by omega
      obtain ⟨b, o, rfl, hb, hc⟩ := BI.cells HV.out (by omega)
      obtain ⟨y, y0, y1, hy⟩ := hc 0 (by omega)
      rw [Nat.add_zero] at hy
      have b1 : 0 ≤ y % k := Int.emod_nonneg _ hk0
      have b2 : y % k < k := Int.emod_lt_of_pos _ (by omega)
      clear h0 hc
      go_enter Try.func32, Try.ntmps32
      go_wp2
      go_ret
      first
        | exact ⟨_, rfl, b1, fun _ => b2, Below.refl _ _⟩
        | exact ⟨_, rfl, b1, b2, Below.refl _ _⟩

theorem a2Has_any (v : Value) (xs : List Int) (x : Int) (w : World) (hv : RI w v xs) :
    Calls Try.prog 40 #[v, .int .i64 x] w fun e w' => e = .returned (.bool (decide (x ∈ xs))) ∧ w = w' := by
  obtain ⟨a, cap, rfl⟩ := hv.shape
  have hl := hv.len
  have HV := Lib.hid hv
  clear hv
  go_enter Try.func40, Try.ntmps40
  go_wp2
  go_loop [5] (fun i => ∃ k : Nat, k ≤ xs.length ∧ i = .int .i64 k ∧ ∀ y ∈ xs.take k, y ≠ x) (fun i => xs.length - (intOf i).toNat)
  case atStart => exact ⟨0, Nat.zero_le _, rfl, by simp⟩
  case round =>
    obtain ⟨k, hk, rfl, hno⟩ := hrel
    have HNO := Lib.hid hno
    clear hno
    by_cases hlt : k < xs.length
    · obtain ⟨b, off, rfl, hb, hc⟩ := HV.out.cells (by omega)
      have g := hc k hlt
      clear hc
      have S1 := take_snoc xs k hlt
      have hmem : xs.getD k 0 ∈ xs := by simp only [List.getD, List.getElem?_eq_getElem hlt, Option.getD_some]; exact List.getElem_mem hlt
      generalize xs.getD k 0 = y at g S1 hmem
      have HS := Lib.hid S1
      have HM := Lib.hid hmem
      clear S1 hmem
      by_cases hy : y = x
      · have hyb : (y == x) = true := by rw [beq_iff_eq]; exact hy
        have HE := Lib.hid (show decide (x ∈ xs) = true from decide_eq_true (hy ▸ HM.out))
        clear hy
        go_wp2
        go_ret
        exact ⟨ret_bool HE.out.symm, rfl⟩
      · have hyb : (y == x) = false := by rw [beq_eq_false_iff_ne]; exact hy
        have HY := Lib.hid hy
        clear hy
        go_wp2
        go_round
        case rel => exact ⟨k + 1, by omega, by go_num, by
          intro z hz
          rw [HS.out] at hz
          rcases List.mem_append.1 hz with hz | hz
          · exact HNO.out z hz
          · rw [List.mem_singleton.1 hz]; exact HY.out⟩
        case measure => simp [intOf]; omega
    · have HE := Lib.hid (show decide (x ∈ xs) = false from decide_eq_false (fun hm => HNO.out x (by rw [List.take_of_length_le (by omega)]; exact hm) rfl))
      go_wp2
      go_ret
      exact ⟨ret_bool HE.out.symm, rfl⟩

/-- A list that rises, of numbers from 0 to n - 1. -/
theorem a2Rises_any (v : Value) (xs : List Int) (n : Int) (w : World) (hv : RI w v xs) (hr : ∀ x ∈ xs, 0 ≤ x ∧ x < n) (hs : xs.Pairwise (· < ·)) :
    Calls Try.prog 44 #[v, .int .i64 n] w fun e w' => e = .returned (.bool true) ∧ Below w.heap.size w w' := by
  obtain ⟨a, cap, rfl⟩ := hv.shape
  have hl := hv.len
  have HV := Lib.hid hv
  have HR := Lib.hid (show ∀ k, k < xs.length → 0 ≤ xs.getD k 0 ∧ xs.getD k 0 < n from fun k hk => hr _ (by simp only [List.getD, List.getElem?_eq_getElem hk, Option.getD_some]; exact List.getElem_mem hk))
  have HS := Lib.hid (show ∀ k, k + 1 < xs.length → xs.getD k 0 < xs.getD (k + 1) 0 from fun k hk => by
    have := List.pairwise_iff_getElem.1 hs k (k + 1) (by omega) hk (by omega)
    simpa [List.getD, hk, show k < xs.length by omega] using this)
  clear hv hr hs
  go_enter Try.func44, Try.ntmps44
  go_wp2
  go_loopw [5] (fun i wr => ∃ k : Nat, k ≤ xs.length ∧ i = .int .i64 k ∧ Below w.heap.size w wr) (fun i _ => xs.length - (intOf i).toNat)
  case atStart => exact ⟨0, Nat.zero_le _, rfl, Below.refl _ _⟩
  case round =>
    obtain ⟨k, hk, rfl, hb⟩ := hrel
    rename World => wo
    by_cases hlt : k < xs.length
    · obtain ⟨b, off, rfl, hbl, hc⟩ := HV.out.cells (by omega)
      have g := (hb.cell (p := ⟨b, off + k, none⟩) hbl).trans (hc k hlt)
      obtain ⟨x0, x1⟩ := HR.out k hlt
      have hd0 : decide (xs.getD k 0 < 0) = false := decide_eq_false (by omega)
      have hd1 : decide (n ≤ xs.getD k 0) = false := decide_eq_false (by omega)
      have hki : (k : Int) < xs.length := by omega
      rcases (by omega : k = 0 ∨ 0 < k) with h0 | h0
      · have H0 := Lib.hid h0
        have hdp : decide ((0 : Int) < (k : Int)) = false := decide_eq_false (by omega)
        have hdp2 : decide (0 < k) = false := decide_eq_false (by omega)
        clear hc h0
        generalize xs.getD k 0 = x at g x0 x1 hd0 hd1
        go_wp2_with fail
        go_quiet (fail)
        rename_i nq
        go_wp2
        go_roundw
        case rel => exact ⟨k + 1, by omega, by go_num, below_drewN hb _⟩
        case measure => simp [intOf]; omega
      · obtain ⟨q, hq⟩ : ∃ q, k = q + 1 := ⟨k - 1, by omega⟩
        have gq := (hb.cell (p := ⟨b, off + q, none⟩) hbl).trans (hc q (by omega))
        have hlt2 := HS.out q (by omega)
        rw [← hq] at hlt2
        have hwq : IntKind.i64.wrap ((k : Int) - 1) = (q : Int) := by rw [IntWalk.i64_in _ (by omega)]; omega
        have hqi : (q : Int) < xs.length := by omega
        have hd2 : decide (xs.getD k 0 ≤ xs.getD q 0) = false := decide_eq_false (by omega)
        have hdp : decide ((0 : Int) < (k : Int)) = true := decide_eq_true (by omega)
        have hdp2 : decide (0 < k) = true := decide_eq_true h0
        clear hc hq hlt2
        generalize xs.getD k 0 = x at g x0 x1 hd0 hd1 hd2
        generalize xs.getD q 0 = z at gq hd2
        go_wp2_with fail
        go_quiet (fail)
        rename_i nq
        go_wp2
        go_roundw
        case rel => exact ⟨k + 1, by omega, by go_num, below_drewN hb _⟩
        case measure => simp [intOf]; omega
    · go_wp2
      go_ret
      exact ⟨rfl, hb⟩

end Go.Proofs.Ytejnfngnofilfaa
