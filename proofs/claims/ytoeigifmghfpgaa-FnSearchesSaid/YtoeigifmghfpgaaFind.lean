/-
  The openings that are made for a section, of the reference.
-/
import Derived.Test.YtoeigifmghfpgaaMeanFns
import Derived.Test.YtoeigifmghfpgaaCode
namespace Go.Proofs.Ytoeigifmghfpgaa
open Go.RowKit Plain

set_option maxHeartbeats 2000000 in
theorem findW_any (v u : Value) (xs : List Int) (sec : Int) (w : World) (hok : okOpen xs = true) (hv : RI w v xs) (hu : RI w u []) :
    Calls Try.prog 56 #[v, u, .int .i64 sec] w fun e w' => ∃ v', e = .returned (.tuple #[v', .int .i64 (findR (bWorst xs) xs sec 9 0 xs.length).2]) ∧ OI 2 w' w.heap.size v' (findR (bWorst xs) xs sec 9 0 xs.length).1 ∧ Below w.heap.size w w' := by
  obtain ⟨a, cap, rfl⟩ := hv.shape
  obtain ⟨a2, cap2, rfl⟩ := hu.shape
  have HV := Lib.hid hv
  clear hv hu
  have l9 := okOpen_len hok
  have HOK := Lib.hid hok
  have HFB := Lib.hid (findR_bounds (bWorst xs) xs sec (fun k hk => okOpen_getD HOK.out k hk) (fun lo hi h _ => ⟨(bWorst_mem xs lo hi h).1, (bWorst_mem xs lo hi h).2.1⟩))
  clear hok
  obtain ⟨i0, hi0, hz0, hz1, hz2⟩ := info_parts info64
  have HI := Lib.hid hi0
  clear hi0
  obtain ⟨R, hR⟩ : ∃ R, R = findR (bWorst xs) xs sec 9 0 xs.length := ⟨_, rfl⟩
  have HR := Lib.hid hR
  rw [← hR]
  have hRb := HFB.out 9 0 xs.length (Nat.le_refl _)
  rw [← hR] at hRb
  clear hR
  go_enter Try.func56, Try.ntmps56
  go_wp2_with fail
  go_loopw [8, 9, 10, 11] (fun l h o s wr => ∃ (f lo hi : Nat) (out : List Int) (sum : Int) (vo : Value), l = .int .i64 lo ∧ h = .int .i64 hi ∧ o = vo ∧ s = .int .i64 sum ∧ hi ≤ xs.length ∧ lo ≤ hi ∧ hi - lo ≤ f ∧ f ≤ 9 ∧ out.length ≤ 9 - f ∧ 0 ≤ sum ∧
      out ++ (findR (bWorst xs) xs sec f lo hi).1 = R.1 ∧ sum + (findR (bWorst xs) xs sec f lo hi).2 = R.2 ∧ OI 2 wr w.heap.size vo out ∧ Below w.heap.size w wr) (fun l h _ _ _ => (intOf h).toNat - (intOf l).toNat)
  case atStart => exact ⟨9, 0, xs.length, [], 0, _, rfl, rfl, rfl, rfl, Nat.le_refl _, Nat.zero_le _, by omega, by omega, by simp, by omega, by rw [HR.out]; rfl, by rw [HR.out]; simp, OI.lit0 _ _ _ (Nat.le_refl _), (Below.refl _ _).alloc (Nat.le_refl _) _⟩
  case round =>
    obtain ⟨f, lo, hi, out, sum, vo, rfl, rfl, rfl, rfl, hh, hlh, hf, hf9, hol, hs0, he1, he2, ho, hb⟩ := hrel
    have HO := Lib.hid ho
    have HE1 := Lib.hid he1
    clear ho he1
    by_cases hlt : lo < hi
    · obtain ⟨b1, b2, b3⟩ := bWorst_mem xs lo hi hlt
      have hx := okOpen_getD HOK.out (bWorst xs lo hi) (by omega)
      obtain ⟨f', rfl⟩ : ∃ f', f = f' + 1 := ⟨f - 1, by omega⟩
      have hfr : findR (bWorst xs) xs sec (f' + 1) lo hi = _ := if_pos hlt
      have HFR := Lib.hid hfr
      have hp := HFB.out (f' + 1) lo hi hh
      have HE2 := Lib.hid he2
      have hsum : sum + (findR (bWorst xs) xs sec (f' + 1) lo hi).2 ≤ 9000 := by rw [he2]; omega
      have C1 := fun W B => worst_any _ xs HOK.out 9 lo hi lo hi W rfl rfl hh (by omega) (by omega) (by omega) (HV.out.below B)
      rw [b3] at C1
      have D1 := Lib.hid C1
      clear hfr he2 C1 b3
      obtain ⟨b, off, rfl, hbl, hc⟩ := HV.out.cells (by omega)
      have HG := Lib.hid (hc (bWorst xs lo hi) (by omega))
      clear hc
      have hkx : (bWorst xs lo hi : Int) < xs.length := by omega
      generalize bWorst xs lo hi = k at *
      have hgoodk : Good (k : Int) := by unfold Good; omega
      have HGK := Lib.hid hgoodk
      clear hgoodk
      have fin : ∀ (lo' hi' : Nat) (v2 : Value) (w2 : World) (y : Int), findR (bWorst xs) xs sec (f' + 1) lo hi = ((k : Int) :: (findR (bWorst xs) xs sec f' lo' hi').1, xs.getD k 0 + (findR (bWorst xs) xs sec f' lo' hi').2) → hi' ≤ xs.length → lo' ≤ hi' → hi' - lo' ≤ f' → y = sum + xs.getD k 0 →
          OI 2 w2 w.heap.size v2 (out ++ [(k : Int)]) → Below w.heap.size w w2 →
          ∃ (f lo hi : Nat) (out : List Int) (sum : Int) (vo : Value), Value.int .i64 (lo' : Int) = .int .i64 lo ∧ Value.int .i64 (hi' : Int) = .int .i64 hi ∧ v2 = vo ∧ Value.int .i64 y = .int .i64 sum ∧ hi ≤ xs.length ∧ lo ≤ hi ∧ hi - lo ≤ f ∧ f ≤ 9 ∧ out.length ≤ 9 - f ∧ 0 ≤ sum ∧
            out ++ (findR (bWorst xs) xs sec f lo hi).1 = R.1 ∧ sum + (findR (bWorst xs) xs sec f lo hi).2 = R.2 ∧ OI 2 w2 w.heap.size vo out ∧ Below w.heap.size w w2 := by
        intro lo' hi' v2 w2 y hq h1 h2 h3 hy h4 h5
        refine ⟨f', lo', hi', _, _, _, rfl, rfl, rfl, rfl, h1, h2, h3, by omega, by simp; omega, by omega, ?_, ?_, h4, h5⟩
        · have := HE1.out
          rw [hq] at this
          rw [← this, List.append_assoc]; rfl
        · have := HE2.out
          rw [hq] at this
          simp only at this
          omega
      have FIN := Lib.hid fin
      clear fin
      generalize xs.getD k 0 = x at *
      have hsx : sum + x ≤ 10000 := by omega
      by_cases hsk : sec ≤ (k : Int)
      · have HQ := Lib.hid (HFR.out.trans (if_pos hsk))
        go_wp2_with fail
        refine (D1.out _ hb).mono ?_
        rintro e w1 ⟨rfl, hb1⟩
        have hb01 := bthen hb hb1
        have HO1 := Lib.hid (HO.out.below hb1)
        go_wp2_with (at_builtin; refine wpList_app1 rfl _ _ 22 rfl 2 _ i0 Try.underlying22 HI.out hz0 hz1 hz2 w.heap.size _ _ rfl HO1.out _ rfl HGK.out ?_ hb01.size ?_)
        · omega
        · intro v2 w2 h1 h2
          have hb4 := HO1.out.step hb01 h2
          have H1 := Lib.hid h1
          have g := (hb4.cell (p := ⟨b, off + k, none⟩) hbl).trans HG.out
          clear h1 h2
          go_wp2_with fail
          go_roundw
          case rel => exact FIN.out lo k v2 _ _ HQ.out (by omega) (by omega) (by omega) rfl H1.out hb4
          case measure => simp [intOf]; omega
      · have HQ := Lib.hid (HFR.out.trans (if_neg hsk))
        have hskd : decide (sec ≤ (k : Int)) = false := by simpa using hsk
        go_wp2_with fail
        refine (D1.out _ hb).mono ?_
        rintro e w1 ⟨rfl, hb1⟩
        have hb01 := bthen hb hb1
        have HO1 := Lib.hid (HO.out.below hb1)
        go_wp2_with (at_builtin; refine wpList_app1 rfl _ _ 22 rfl 2 _ i0 Try.underlying22 HI.out hz0 hz1 hz2 w.heap.size _ _ rfl HO1.out _ rfl HGK.out ?_ hb01.size ?_)
        · omega
        · intro v2 w2 h1 h2
          have hb4 := HO1.out.step hb01 h2
          have H1 := Lib.hid h1
          have g := (hb4.cell (p := ⟨b, off + k, none⟩) hbl).trans HG.out
          clear h1 h2
          go_wp2_with fail
          go_roundw
          case rel => exact FIN.out (k + 1) hi v2 _ _ HQ.out hh (by omega) (by omega) rfl H1.out hb4
          case measure => simp [intOf]; omega
    · have hdone := findR_done (bWorst xs) xs sec f lo hi hlt
      have h1 := HE1.out
      rw [hdone] at h1 he2
      have HE3 := Lib.hid h1
      have HE4 := Lib.hid he2
      clear h1 he2 hdone
      go_wp2_with fail
      go_ret2
      refine ⟨_, by rw [← HE4.out]; simp; rfl, ?_, hb⟩
      rw [← HE3.out]; simpa using HO.out

end Go.Proofs.Ytoeigifmghfpgaa
