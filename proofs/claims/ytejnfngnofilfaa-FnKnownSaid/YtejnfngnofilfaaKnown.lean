/-
  KnownSwitches of the reference and of the program: what each returns.
-/
import Derived.Test.YtejnfngnofilfaaLetters
namespace Go.Proofs.Ytejnfngnofilfaa
open Go.RowKit

theorem codeF_zero {d : Int} {ts : List (Int × Int)} (h : codeF d ts = 0) : okTrials d ts = true ∧ clashes d ts = false := by
  unfold codeF at h
  split at h
  · split at h
    · simp at h
    · rename_i h1 h2; exact ⟨h1, by simpa using h2⟩
  · simp at h

theorem specKnownSwitches_any (d : Int) (v : Value) (ts : List (Int × Int)) (w : World) (hv : SI P2 w v ts) :
    Calls Try.prog 50 #[.int .i64 d, v] w fun e w' => e = .returned (.tuple #[.string (valKnown d ts).1, .int .i64 (valKnown d ts).2]) ∧ Below w.heap.size w w' := by
  have HV := Lib.hid hv
  have C1 := l18Code_any d v ts w hv
  clear hv
  have e2 : (valFewest d ts).2 = codeF d ts := rfl
  rw [e2] at C1
  by_cases h0 : codeF d ts = 0
  · obtain ⟨h1, h2⟩ := codeF_zero h0
    have hd := okTrials_depth h1
    obtain ⟨n, rfl⟩ : ∃ n : Nat, d = n := ⟨d.toNat, by simp [inB] at hd; omega⟩
    have HE := Lib.hid (show valKnown n ts = (known n ts, 0) by simp [valKnown, h0])
    have C2 := Lib.hid (fun (W : World) (h : SI P2 W v ts) => l18Letters_any n v ts W h h1 h2)
    rw [h0] at C1
    have D1 := Lib.hid C1
    clear C1 h0 h1 h2 hd e2
    go_enter Try.func50, Try.ntmps50
    go_wp2_with fail
    refine D1.out.mono ?_
    rintro e w1 ⟨u, rfl, _, hb1⟩
    go_wp2_with fail
    refine (C2.out _ (HV.out.below hb1)).mono ?_
    rintro e w2 ⟨rfl, hb2⟩
    go_wp2_with fail
    go_ret2
    exact ⟨by rw [HE.out]; rfl, bthen hb1 hb2⟩
  · have HE := Lib.hid (show valKnown d ts = (⟨#[]⟩, codeF d ts) by simp [valKnown, h0])
    have hne : (codeF d ts != 0) = true := by simpa using h0
    generalize codeF d ts = c at *
    have D1 := Lib.hid C1
    clear C1 h0 e2
    go_enter Try.func50, Try.ntmps50
    go_wp2_with fail
    refine D1.out.mono ?_
    rintro e w1 ⟨u, rfl, _, hb1⟩
    go_wp2_with fail
    go_ret2
    exact ⟨by rw [HE.out]; rfl, hb1⟩

theorem implKnownSwitches_any (d : Int) (v : Value) (ts : List (Int × Int)) (w : World) (hv : SI P2 w v ts) :
    Calls Try.prog 36 #[.int .i64 d, v] w fun e w' => e = .returned (.tuple #[.string (valKnown d ts).1, .int .i64 (valKnown d ts).2]) ∧ Below w.heap.size w w' := by
  have HV := Lib.hid hv
  have C1 := diagnosed_any d v ts w hv
  clear hv
  have e2 : (valFewest d ts).2 = codeF d ts := rfl
  rw [e2] at C1
  by_cases h0 : codeF d ts = 0
  · obtain ⟨h1, h2⟩ := codeF_zero h0
    have hd := okTrials_depth h1
    obtain ⟨n, rfl⟩ : ∃ n : Nat, d = n := ⟨d.toNat, by simp [inB] at hd; omega⟩
    have hE : ex (n : Int) = ((2 ^ n : Nat) : Int) := by simp [ex]
    obtain ⟨_, _, e3, e4⟩ := wrap_ex hd
    have hN2 : 2 ≤ 2 ^ n := by omega
    have HE := Lib.hid (show valKnown n ts = (strOfNums ((lettersTo (seenTo n ts) (2 ^ n)).drop 1), 0) by simp [valKnown, h0, known])
    have hL : letters n ts = lettersTo (seenTo n ts) (2 ^ n) := by simp [letters, h0]
    have hlen : (letters n ts).length = 2 ^ n := by rw [hL, lettersTo_length]
    rw [← hL] at HE
    rw [h0] at C1
    generalize 2 ^ n = N at hlen hN2
    generalize letters n ts = ls at hlen HE C1
    have D1 := Lib.hid C1
    clear C1 h0 h1 h2 hd e2 hE hL e3 e4
    go_enter Try.func36, Try.ntmps36
    go_wp2_with fail
    refine D1.out.mono ?_
    rintro e w1 ⟨u, u2, rfl, _, hy, hb1⟩
    obtain ⟨g, cap, rfl, hcap⟩ : ∃ g cap, u2 = .slice (some ⟨g, 0, none⟩) N cap ∧ N ≤ cap := by
      rcases hy.shape with ⟨_, h⟩ | ⟨g, cap, h, _, _, hc⟩
      · rw [h] at hlen; simp at hlen; omega
      · exact ⟨g, cap, by rw [h, hlen], by omega⟩
    have hcv := run_convert_bytes_arg (P := Try.prog) w1 42 5 Try.underlying42 Try.underlying5 g 1 (N - 1) (cap - 1) (ls.drop 1) (by rw [List.length_drop, hlen]) (fun i hi => by rw [hy.cell (1 + i) (by omega), show 1 + i = i + 1 by omega]; simp [List.getD]) 9 Try.underlying9
    clear hy
    have h1N : (1 : Int) ≤ N := by omega
    have hNc : (N : Int) ≤ cap := by omega
    go_wp2_with fail
    go_ret2
    exact ⟨by rw [HE.out, List.drop_one]; rfl, hb1⟩
  · have HE := Lib.hid (show valKnown d ts = (⟨#[]⟩, codeF d ts) by simp [valKnown, h0])
    have hne : (codeF d ts != 0) = true := by simpa using h0
    generalize codeF d ts = c at *
    have D1 := Lib.hid C1
    clear C1 h0 e2
    go_enter Try.func36, Try.ntmps36
    go_wp2_with fail
    refine D1.out.mono ?_
    rintro e w1 ⟨u, u2, rfl, _, _, hb1⟩
    go_wp2_with fail
    go_ret2
    exact ⟨by rw [HE.out]; rfl, hb1⟩

end Go.Proofs.Ytejnfngnofilfaa
