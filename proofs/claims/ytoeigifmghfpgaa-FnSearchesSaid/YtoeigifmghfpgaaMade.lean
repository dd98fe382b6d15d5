/-
  The openings that are made for a section, of the program.
-/
import Derived.Test.YtoeigifmghfpgaaFindM
import Derived.Deep.RegionHeld3
namespace Go.Proofs.Ytoeigifmghfpgaa
open Go.RowKit Plain

set_option maxHeartbeats 2000000 in
theorem madeW_any (v : Value) (xs : List Int) (sec : Int) (w : World) (hok : okOpen xs = true) (hv : RI w v xs) :
    Calls Try.prog 47 #[.agg #[v, .slice none 0 0], .int .i64 sec] w fun e w' => ∃ v', e = .returned (.tuple #[v', .int .i64 (findR (bWorst xs) xs sec 9 0 xs.length).2]) ∧ OI 2 w' w.heap.size v' (findR (bWorst xs) xs sec 9 0 xs.length).1 ∧ Below w.heap.size w w' := by
  obtain ⟨a, cap, rfl⟩ := hv.shape
  have HV := Lib.hid hv
  clear hv
  have l9 := okOpen_len hok
  have HOK := Lib.hid hok
  have HFB := Lib.hid (findR_bounds (bWorst xs) xs sec (fun k hk => okOpen_getD HOK.out k hk) (fun lo hi h _ => ⟨(bWorst_mem xs lo hi h).1, (bWorst_mem xs lo hi h).2.1⟩))
  clear hok
  obtain ⟨i0, hi0, iz0, iz1, iz2⟩ := info_parts info64
  have HI := Lib.hid hi0
  clear hi0
  obtain ⟨R, hR⟩ : ∃ R, R = findR (bWorst xs) xs sec 9 0 xs.length := ⟨_, rfl⟩
  have HR := Lib.hid hR
  rw [← hR]
  have hRb := HFB.out 9 0 xs.length (Nat.le_refl _)
  rw [← hR] at hRb
  clear hR
  have hz0' : w.heap.size < (w.alloc (.cells #[.slice a xs.length cap, .slice none 0 0] 52)).heap.size := by simp
  have B0 := Lib.hid ((Below.refl w.heap.size w).alloc (Nat.le_refl _) (.cells #[.slice a xs.length cap, .slice none 0 0] 52))
  have c0 : (w.alloc (.cells #[.slice a xs.length cap, .slice none 0 0] 52)).cell? ⟨w.heap.size, 0, none⟩ = some (.slice a xs.length cap) := by rw [World.cell?_alloc_at _ _ _ _ rfl]; rfl
  have c1 : (w.alloc (.cells #[.slice a xs.length cap, .slice none 0 0] 52)).cell? ⟨w.heap.size, 1, none⟩ = some (.slice none 0 0) := by rw [World.cell?_alloc_at _ _ _ _ rfl]; rfl
  go_enter Try.func47, Try.ntmps47
  go_wp2_with fail
  go_region
  go_wp2_with fail
  obtain ⟨hs1, hs2, hs3⟩ := made_start w (.cells #[.slice a xs.length cap, .slice none 0 0] 52) 2
  go_loopw [8, 9, 6, 7] (fun l h o s wr => ∃ (f lo hi : Nat) (out : List Int) (sum : Int) (vo : Value), l = .int .i64 lo ∧ h = .int .i64 hi ∧ o = vo ∧ s = .int .i64 sum ∧ hi ≤ xs.length ∧ lo ≤ hi ∧ hi - lo ≤ f ∧ f ≤ 9 ∧ out.length ≤ 9 - f ∧ 0 ≤ sum ∧
      out ++ (findR (bWorst xs) xs sec f lo hi).1 = R.1 ∧ sum + (findR (bWorst xs) xs sec f lo hi).2 = R.2 ∧ OI 2 wr (w.heap.size + 1) vo out ∧ Below w.heap.size w wr ∧ w.heap.size < wr.heap.size ∧ wr.cell? ⟨w.heap.size, 0, none⟩ = some (.slice a xs.length cap) ∧ wr.cell? ⟨w.heap.size, 1, none⟩ = some (.slice none 0 0)) (fun l h _ _ _ => (intOf h).toNat - (intOf l).toNat)
  case atStart => exact ⟨9, 0, xs.length, [], 0, _, rfl, rfl, rfl, rfl, Nat.le_refl _, Nat.zero_le _, by omega, by omega, by simp, by omega, by rw [HR.out]; rfl, by rw [HR.out]; simp, hs3, hs1, by simp; omega, hs2 0 _ c0, hs2 1 _ c1⟩
  case round =>
    obtain ⟨f, lo, hi, out, sum, vo, rfl, rfl, rfl, rfl, hh, hlh, hf, hf9, hol, hs0, he1, he2, ho, hb, hz, d0, d1⟩ := hrel
    clear c0 c1 hz0'
    have HO := Lib.hid ho
    have HE1 := Lib.hid he1
    clear ho he1
    by_cases hlt : lo < hi
    · obtain ⟨b1, b2, b3⟩ := bWorst_mem xs lo hi hlt
      have hx := okOpen_getD HOK.out (bWorst xs lo hi) (by omega)
      obtain ⟨f', rfl⟩ : ∃ f', f = f' + 1 := ⟨f - 1, by omega⟩
      have hfr : findR (bWorst xs) xs sec (f' + 1) lo hi = _ := if_pos hlt
      have HFR := Lib.hid hfr
      have hp := HFB.out (f' + 1) lo hi hh
      have HE2 := Lib.hid he2
      have hsum : sum + (findR (bWorst xs) xs sec (f' + 1) lo hi).2 ≤ 9000 := by rw [he2]; omega
      have C1 := fun W B => priceW_any _ xs HOK.out 9 lo hi lo hi W rfl rfl hh (by omega) (by omega) (by omega) (HV.out.below B)
      rw [b3] at C1
      have D1 := Lib.hid C1
      clear hfr he2 C1 b3
      obtain ⟨b, off, rfl, hbl, hc⟩ := HV.out.cells (by omega)
      have HG := Lib.hid (hc (bWorst xs lo hi) (by omega))
      clear hc
      have hkx : (bWorst xs lo hi : Int) < xs.length := by omega
      generalize bWorst xs lo hi = k at *
      have hgoodk : Good (k : Int) := by unfold Good; omega
      have HGK := Lib.hid hgoodk
      clear hgoodk
      have fin : ∀ (lo' hi' : Nat) (v2 : Value) (w2 : World) (y : Int), findR (bWorst xs) xs sec (f' + 1) lo hi = ((k : Int) :: (findR (bWorst xs) xs sec f' lo' hi').1, xs.getD k 0 + (findR (bWorst xs) xs sec f' lo' hi').2) → hi' ≤ xs.length → lo' ≤ hi' → hi' - lo' ≤ f' → y = sum + xs.getD k 0 →
          OI 2 w2 (w.heap.size + 1) v2 (out ++ [(k : Int)]) → Below w.heap.size w w2 → w.heap.size < w2.heap.size → w2.cell? ⟨w.heap.size, 0, none⟩ = some (.slice (some ⟨b, off, none⟩) xs.length cap) → w2.cell? ⟨w.heap.size, 1, none⟩ = some (.slice none 0 0) →
          ∃ (f lo hi : Nat) (out : List Int) (sum : Int) (vo : Value), Value.int .i64 (lo' : Int) = .int .i64 lo ∧ Value.int .i64 (hi' : Int) = .int .i64 hi ∧ v2 = vo ∧ Value.int .i64 y = .int .i64 sum ∧ hi ≤ xs.length ∧ lo ≤ hi ∧ hi - lo ≤ f ∧ f ≤ 9 ∧ out.length ≤ 9 - f ∧ 0 ≤ sum ∧
            out ++ (findR (bWorst xs) xs sec f lo hi).1 = R.1 ∧ sum + (findR (bWorst xs) xs sec f lo hi).2 = R.2 ∧ OI 2 w2 (w.heap.size + 1) vo out ∧ Below w.heap.size w w2 ∧ w.heap.size < w2.heap.size ∧ w2.cell? ⟨w.heap.size, 0, none⟩ = some (.slice (some ⟨b, off, none⟩) xs.length cap) ∧ w2.cell? ⟨w.heap.size, 1, none⟩ = some (.slice none 0 0) := by
        intro lo' hi' v2 w2 y hq h1 h2 h3 hy h4 h5 h6 h7 h8
        refine ⟨f', lo', hi', _, _, _, rfl, rfl, rfl, rfl, h1, h2, h3, by omega, by simp; omega, by omega, ?_, ?_, h4, h5, h6, h7, h8⟩
        · have := HE1.out
          rw [hq] at this
          rw [← this, List.append_assoc]; rfl
        · have := HE2.out
          rw [hq] at this
          simp only at this
          omega
      have FIN := Lib.hid fin
      clear fin
      generalize xs.getD k 0 = x at *
      have hsx : sum + x ≤ 10000 := by omega
      by_cases hsk : sec ≤ (k : Int)
      · have HQ := Lib.hid (HFR.out.trans (if_pos hsk))
        go_wp2_with fail
        refine (D1.out _ hb).mono ?_
        rintro e w1 ⟨rfl, hb1⟩
        have hb01 := bthen hb hb1
        have HO1 := Lib.hid (HO.out.below hb1)
        have hz1 := Nat.lt_of_lt_of_le hz hb1.size
        have e0 := (hb1.cell (p := ⟨w.heap.size, 0, none⟩) hz).trans d0
        have e1 := (hb1.cell (p := ⟨w.heap.size, 1, none⟩) hz).trans d1
        have g := (hb01.cell (p := ⟨b, off + k, none⟩) hbl).trans HG.out
        have hbl1 : b < w1.heap.size := by omega
        clear d0 d1
        go_wp2_with fail
        go_region_held3 (fun w' => w'.cell? ⟨w.heap.size, 0, none⟩ = some (.slice (some ⟨b, off, none⟩) xs.length cap) ∧ w'.cell? ⟨b, off + k, none⟩ = some (.int .i64 x))
          (first
            | go_keep
            | (go_split_ands
               refine ⟨?_, ?_⟩
               · (rw [cell_older hown0 hgrow (by simp; omega) (by omega)]; assumption)
               · (rw [cell_older hown0 hgrow (by simp; omega) (by omega)]; assumption)))
          ((have hown0 := HO1.out.below (below_new w1 (.cells #[.int .i64 (k : Int)] 2)); refine step_app1 (by rfl) _ _ 22 (by rfl) 2 i0 Try.underlying22 HI.out iz0 iz1 iz2 (w.heap.size + 1) _ out (by rfl) hown0 ⟨w1.heap.size, 0, none⟩ k (by rfl) (cell_new _ _ _) HGK.out (by omega) (by simp; omega) ?_; intro v2 w2 hown1 hgrow))
        obtain ⟨hb2, hz2, hcc⟩ := after_app hb01 hz1 hown0 hgrow
        have f0 := (hcc 0).trans e0
        have f1 := (hcc 1).trans e1
        have H1 := Lib.hid hown1
        clear hown1 hown0 hgrow hcc e0 e1
        go_wp2_with fail
        go_roundw
        case rel => exact FIN.out lo k v2 _ _ HQ.out (by omega) (by omega) (by omega) (IntWalk.i64_in _ (by omega)) H1.out hb2 hz2 f0 f1
        case measure => simp [intOf]; omega
      · have HQ := Lib.hid (HFR.out.trans (if_neg hsk))
        have hskd : decide (sec ≤ (k : Int)) = false := by simpa using hsk
        go_wp2_with fail
        refine (D1.out _ hb).mono ?_
        rintro e w1 ⟨rfl, hb1⟩
        have hb01 := bthen hb hb1
        have HO1 := Lib.hid (HO.out.below hb1)
        have hz1 := Nat.lt_of_lt_of_le hz hb1.size
        have e0 := (hb1.cell (p := ⟨w.heap.size, 0, none⟩) hz).trans d0
        have e1 := (hb1.cell (p := ⟨w.heap.size, 1, none⟩) hz).trans d1
        have g := (hb01.cell (p := ⟨b, off + k, none⟩) hbl).trans HG.out
        have hbl1 : b < w1.heap.size := by omega
        clear d0 d1
        go_wp2_with fail
        go_region_held3 (fun w' => w'.cell? ⟨w.heap.size, 0, none⟩ = some (.slice (some ⟨b, off, none⟩) xs.length cap) ∧ w'.cell? ⟨b, off + k, none⟩ = some (.int .i64 x))
          (first
            | go_keep
            | (go_split_ands
               refine ⟨?_, ?_⟩
               · (rw [cell_older hown0 hgrow (by simp; omega) (by omega)]; assumption)
               · (rw [cell_older hown0 hgrow (by simp; omega) (by omega)]; assumption)))
          ((have hown0 := HO1.out.below (below_new w1 (.cells #[.int .i64 (k : Int)] 2)); refine step_app1 (by rfl) _ _ 22 (by rfl) 2 i0 Try.underlying22 HI.out iz0 iz1 iz2 (w.heap.size + 1) _ out (by rfl) hown0 ⟨w1.heap.size, 0, none⟩ k (by rfl) (cell_new _ _ _) HGK.out (by omega) (by simp; omega) ?_; intro v2 w2 hown1 hgrow))
        obtain ⟨hb2, hz2, hcc⟩ := after_app hb01 hz1 hown0 hgrow
        have f0 := (hcc 0).trans e0
        have f1 := (hcc 1).trans e1
        have H1 := Lib.hid hown1
        clear hown1 hown0 hgrow hcc e0 e1
        go_wp2_with fail
        go_roundw
        case rel => exact FIN.out (k + 1) hi v2 _ _ HQ.out hh (by omega) (by omega) (IntWalk.i64_in _ (by omega)) H1.out hb2 hz2 f0 f1
        case measure => simp [intOf]; omega
    · have hdone := findR_done (bWorst xs) xs sec f lo hi hlt
      have h1 := HE1.out
      rw [hdone] at h1 he2
      have HE3 := Lib.hid h1
      have HE4 := Lib.hid he2
      clear h1 he2 hdone
      go_wp2_with fail
      go_ret2
      refine ⟨_, by rw [← HE4.out]; simp; rfl, ?_, hb⟩
      rw [← HE3.out]; simpa using HO.out.mono (Nat.le_succ _)

end Go.Proofs.Ytoeigifmghfpgaa
