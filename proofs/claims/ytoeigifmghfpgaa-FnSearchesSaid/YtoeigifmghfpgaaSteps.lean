/-
  StepSearch and NarrowTo of both sides.
-/
import Derived.Test.YtoeigifmghfpgaaWorstFns
import Derived.Test.YtoeigifmghfpgaaSums
namespace Go.Proofs.Ytoeigifmghfpgaa
open Go.RowKit Plain

/-- The price of the openings from the beginning on, and a code. -/
def valStep (xs : List Int) (s : Int) : Int × Int := if codeS xs s s = 0 then (sumI (xs.take (s.toNat + 1)), 0) else (0, codeS xs s s)

theorem open_sum {xs : List Int} (h : okOpen xs = true) (k : Nat) : 0 ≤ sumI (xs.take k) ∧ sumI (xs.take k) ≤ 9000 := by
  have l9 := okOpen_len h
  have a := sumI_bound (xs.take k) 1000 (fun x hx => by have := okOpen_mem h x (List.mem_of_mem_take hx); omega)
  have b : (xs.take k).length ≤ 9 := by simp; omega
  omega

theorem specStepSearch_any (v : Value) (xs : List Int) (s : Int) (w : World) (hv : RI w v xs) :
    Calls Try.prog 27 #[v, .int .i64 s] w fun e w' => e = .returned (.tuple #[.int .i64 (valStep xs s).1, .int .i64 (valStep xs s).2]) ∧ Below w.heap.size w w' := by
  obtain ⟨a, cap, rfl⟩ := hv.shape
  have HV := Lib.hid hv
  clear hv
  by_cases hc : codeS xs s s = 0
  · obtain ⟨hok, h1, h2, h3⟩ := codeS_zero hc
    have l9 := okOpen_len hok
    have HE : Hid (valStep xs s = (sumI (xs.take (s.toNat + 1)), 0)) := if_pos hc
    have C1 := l16Code_any _ xs s s w HV.out
    rw [hc] at C1
    have D1 := Lib.hid C1
    have HOK := Lib.hid hok
    clear hc C1 hok
    obtain ⟨t, rfl⟩ := Int.eq_ofNat_of_zero_le h1
    go_enter Try.func27, Try.ntmps27
    go_wp2_with fail
    refine D1.out.mono ?_
    rintro e w' ⟨rfl, rfl⟩
    go_wp2_with fail
    go_loop [7, 8] (fun r i => ∃ k : Nat, k ≤ xs.length ∧ k ≤ t + 1 ∧ i = .int .i64 k ∧ r = .int .i64 (sumI (xs.take k))) (fun _ i => xs.length - (intOf i).toNat)
    case atStart => exact ⟨0, Nat.zero_le _, Nat.zero_le _, rfl, rfl⟩
    case round =>
      obtain ⟨k, hk, hkt, rfl, rfl⟩ := hrel
      by_cases hlt : k < xs.length
      · by_cases hkt2 : k ≤ t
        · obtain ⟨b, off, rfl, hbl, hcl⟩ := HV.out.cells (by omega)
          have g := hcl k hlt
          clear hcl
          have p1 := open_sum HOK.out k
          have p2 := open_sum HOK.out (k + 1)
          have S1 : sumI (xs.take (k + 1)) = sumI (xs.take k) + xs.getD k 0 := by rw [take_snoc xs k hlt, sumI_snoc]
          rw [S1] at p2
          have H1 := Lib.hid S1
          clear S1
          generalize xs.getD k 0 = x at *
          generalize sumI (xs.take k) = r at *
          go_wp2_with fail
          go_round
          case rel => exact ⟨k + 1, by omega, by omega, by go_num, by rw [H1.out]⟩
          case measure => simp [intOf]; omega
        · have hd : decide ((k : Int) ≤ (t : Int)) = false := by simpa using hkt2
          go_wp2_with fail
          go_ret2
          exact ⟨ret_ii (by rw [HE.out, show k = t + 1 by omega]; rfl) (by rw [HE.out]), Below.refl _ _⟩
      · have hd : decide ((k : Int) < (xs.length : Int)) = false := by simpa using hlt
        go_wp2_with fail
        go_ret2
        refine ⟨ret_ii ?_ (by rw [HE.out]), Below.refl _ _⟩
        rw [HE.out, List.take_of_length_le (by omega), List.take_of_length_le (by omega)]
  · have HE : Hid (valStep xs s = (0, codeS xs s s)) := if_neg hc
    have C1 := Lib.hid (l16Code_any _ xs s s w HV.out)
    generalize codeS xs s s = c at *
    have hn : (c != 0) = true := by rw [bne_iff_ne]; exact hc
    clear hc
    go_enter Try.func27, Try.ntmps27
    go_wp2_with fail
    refine C1.out.mono ?_
    rintro e w' ⟨rfl, rfl⟩
    go_wp2_with fail
    go_ret2
    exact ⟨ret_ii (by rw [HE.out]) (by rw [HE.out]), Below.refl _ _⟩

theorem implStepSearch_any (v : Value) (xs : List Int) (s : Int) (w : World) (hv : RI w v xs) :
    Calls Try.prog 22 #[v, .int .i64 s] w fun e w' => e = .returned (.tuple #[.int .i64 (valStep xs s).1, .int .i64 (valStep xs s).2]) ∧ Below w.heap.size w w' := by
  obtain ⟨a, cap, rfl⟩ := hv.shape
  have HV := Lib.hid hv
  clear hv
  by_cases hc : codeS xs s s = 0
  · obtain ⟨hok, h1, h2, h3⟩ := codeS_zero hc
    have l9 := okOpen_len hok
    have HE : Hid (valStep xs s = (sumI (xs.take (s.toNat + 1)), 0)) := if_pos hc
    have C1 := sectionsCode_any _ xs s s w HV.out
    rw [hc] at C1
    have D1 := Lib.hid C1
    obtain ⟨t, rfl⟩ := Int.eq_ofNat_of_zero_le h1
    obtain ⟨m, hm⟩ : ∃ m : Nat, m = min (t + 1) xs.length := ⟨_, rfl⟩
    have htk : xs.take (t + 1) = xs.take m := by
      rw [hm]
      by_cases hlt : t + 1 ≤ xs.length
      · rw [show min (t + 1) xs.length = t + 1 by omega]
      · rw [List.take_of_length_le (by omega), List.take_of_length_le (by omega)]
    have HT := Lib.hid htk
    obtain ⟨v1, hv1, hcut⟩ := cutToI HV.out m (by omega)
    have D2 := Lib.hid (fun W B => sumOf_any v1 _ W (hv1.below B) (fun k => by rw [List.take_take]; have := open_sum hok (min k m); unfold Good; omega))
    have hcut' := fun W => hcut W (m : Int) rfl
    have hmx : (if (t : Int) + 1 < xs.length then (t : Int) + 1 else (xs.length : Int)) = m := by rw [hm]; split <;> omega
    have hmx2 : (if (xs.length : Int) < (t : Int) + 1 then (xs.length : Int) else (t : Int) + 1) = m := by rw [hm]; split <;> omega
    clear hc C1 hok htk hv1 hcut hm
    go_enter Try.func22, Try.ntmps22
    go_wp2_with fail
    refine D1.out.mono ?_
    rintro e w1 ⟨rfl, hb1⟩
    go_wp2_with fail
    refine (D2.out _ hb1).mono ?_
    rintro e w' ⟨rfl, rfl⟩
    go_wp2_with fail
    go_ret2
    exact ⟨ret_ii (by rw [HE.out, ← HT.out]; rfl) (by rw [HE.out]), hb1⟩
  · have HE : Hid (valStep xs s = (0, codeS xs s s)) := if_neg hc
    have C1 := Lib.hid (sectionsCode_any _ xs s s w HV.out)
    generalize codeS xs s s = c at *
    have hn : (c != 0) = true := by rw [bne_iff_ne]; exact hc
    clear hc
    go_enter Try.func22, Try.ntmps22
    go_wp2_with fail
    refine C1.out.mono ?_
    rintro e w1 ⟨rfl, hb1⟩
    go_wp2_with fail
    go_ret2
    exact ⟨ret_ii (by rw [HE.out]) (by rw [HE.out]), hb1⟩

end Go.Proofs.Ytoeigifmghfpgaa
