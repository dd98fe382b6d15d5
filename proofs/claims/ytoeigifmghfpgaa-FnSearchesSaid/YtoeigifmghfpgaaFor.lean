/-
  SearchFor and MeanSearchFor of both sides.
-/
import Derived.Test.YtoeigifmghfpgaaMade
import Derived.Test.YtoeigifmghfpgaaWorstFns
namespace Go.Proofs.Ytoeigifmghfpgaa
open Go.RowKit Plain

set_option maxHeartbeats 2000000 in
theorem madeM_any (v u : Value) (xs ws : List Int) (sec : Int) (w : World) (hokw : okWeights xs ws = true) (hv : RI w v xs) (hu : RI w u ws) :
    Calls Try.prog 47 #[.agg #[v, u], .int .i64 sec] w fun e w' => ∃ v', e = .returned (.tuple #[v', .int .i64 (findR (bMean xs ws) xs sec 9 0 xs.length).2]) ∧ OI 2 w' w.heap.size v' (findR (bMean xs ws) xs sec 9 0 xs.length).1 ∧ Below w.heap.size w w' := by
  obtain ⟨a, cap, rfl⟩ := hv.shape
  obtain ⟨a2, cap2, rfl⟩ := hu.shape
  have HV := Lib.hid hv
  have HU := Lib.hid hu
  have HOKW := Lib.hid hokw
  obtain ⟨hok, hlw, hww⟩ := okWeights_iff hokw
  clear hv hu hlw hww hokw
  have l9 := okOpen_len hok
  have HOK := Lib.hid hok
  have HFB := Lib.hid (findR_bounds (bMean xs ws) xs sec (fun k hk => okOpen_getD HOK.out k hk) (fun lo hi h _ => ⟨(bMean_mem xs ws lo hi h).1, (bMean_mem xs ws lo hi h).2.1⟩))
  clear hok
  obtain ⟨i0, hi0, iz0, iz1, iz2⟩ := info_parts info64
  have HI := Lib.hid hi0
  clear hi0
  obtain ⟨R, hR⟩ : ∃ R, R = findR (bMean xs ws) xs sec 9 0 xs.length := ⟨_, rfl⟩
  have HR := Lib.hid hR
  rw [← hR]
  have hRb := HFB.out 9 0 xs.length (Nat.le_refl _)
  rw [← hR] at hRb
  clear hR
  have hz0' : w.heap.size < (w.alloc (.cells #[.slice a xs.length cap, .slice a2 ws.length cap2] 52)).heap.size := by simp
  have B0 := Lib.hid ((Below.refl w.heap.size w).alloc (Nat.le_refl _) (.cells #[.slice a xs.length cap, .slice a2 ws.length cap2] 52))
  have c0 : (w.alloc (.cells #[.slice a xs.length cap, .slice a2 ws.length cap2] 52)).cell? ⟨w.heap.size, 0, none⟩ = some (.slice a xs.length cap) := by rw [World.cell?_alloc_at _ _ _ _ rfl]; rfl
  have c1 : (w.alloc (.cells #[.slice a xs.length cap, .slice a2 ws.length cap2] 52)).cell? ⟨w.heap.size, 1, none⟩ = some (.slice a2 ws.length cap2) := by rw [World.cell?_alloc_at _ _ _ _ rfl]; rfl
  go_enter Try.func47, Try.ntmps47
  go_wp2_with fail
  go_region
  go_wp2_with fail
  obtain ⟨hs1, hs2, hs3⟩ := made_start w (.cells #[.slice a xs.length cap, .slice a2 ws.length cap2] 52) 2
  go_loopw [8, 9, 6, 7] (fun l h o s wr => ∃ (f lo hi : Nat) (out : List Int) (sum : Int) (vo : Value), l = .int .i64 lo ∧ h = .int .i64 hi ∧ o = vo ∧ s = .int .i64 sum ∧ hi ≤ xs.length ∧ lo ≤ hi ∧ hi - lo ≤ f ∧ f ≤ 9 ∧ out.length ≤ 9 - f ∧ 0 ≤ sum ∧
      out ++ (findR (bMean xs ws) xs sec f lo hi).1 = R.1 ∧ sum + (findR (bMean xs ws) xs sec f lo hi).2 = R.2 ∧ OI 2 wr (w.heap.size + 1) vo out ∧ Below w.heap.size w wr ∧ w.heap.size < wr.heap.size ∧ wr.cell? ⟨w.heap.size, 0, none⟩ = some (.slice a xs.length cap) ∧ wr.cell? ⟨w.heap.size, 1, none⟩ = some (.slice a2 ws.length cap2)) (fun l h _ _ _ => (intOf h).toNat - (intOf l).toNat)
  case atStart => exact ⟨9, 0, xs.length, [], 0, _, rfl, rfl, rfl, rfl, Nat.le_refl _, Nat.zero_le _, by omega, by omega, by simp, by omega, by rw [HR.out]; rfl, by rw [HR.out]; simp, hs3, hs1, by simp; omega, hs2 0 _ c0, hs2 1 _ c1⟩
  case round =>
    obtain ⟨f, lo, hi, out, sum, vo, rfl, rfl, rfl, rfl, hh, hlh, hf, hf9, hol, hs0, he1, he2, ho, hb, hz, d0, d1⟩ := hrel
    clear c0 c1 hz0'
    have HO := Lib.hid ho
    have HE1 := Lib.hid he1
    clear ho he1
    by_cases hlt : lo < hi
    · obtain ⟨b1, b2, b3⟩ := bMean_mem xs ws lo hi hlt
      have hx := okOpen_getD HOK.out (bMean xs ws lo hi) (by omega)
      obtain ⟨f', rfl⟩ : ∃ f', f = f' + 1 := ⟨f - 1, by omega⟩
      have hfr : findR (bMean xs ws) xs sec (f' + 1) lo hi = _ := if_pos hlt
      have HFR := Lib.hid hfr
      have hp := HFB.out (f' + 1) lo hi hh
      have HE2 := Lib.hid he2
      have hsum : sum + (findR (bMean xs ws) xs sec (f' + 1) lo hi).2 ≤ 9000 := by rw [he2]; omega
      have C1 := fun W B => priceM_any _ _ xs ws HOKW.out 9 lo hi lo hi W rfl rfl hh (by omega) (by omega) (by omega) (HV.out.below B) (HU.out.below B)
      rw [b3] at C1
      have D1 := Lib.hid C1
      clear hfr he2 C1 b3
      obtain ⟨b, off, rfl, hbl, hc⟩ := HV.out.cells (by omega)
      have HG := Lib.hid (hc (bMean xs ws lo hi) (by omega))
      clear hc
      have hkx : (bMean xs ws lo hi : Int) < xs.length := by omega
      generalize bMean xs ws lo hi = k at *
      have hgoodk : Good (k : Int) := by unfold Good; omega
      have HGK := Lib.hid hgoodk
      clear hgoodk
      have fin : ∀ (lo' hi' : Nat) (v2 : Value) (w2 : World) (y : Int), findR (bMean xs ws) xs sec (f' + 1) lo hi = ((k : Int) :: (findR (bMean xs ws) xs sec f' lo' hi').1, xs.getD k 0 + (findR (bMean xs ws) xs sec f' lo' hi').2) → hi' ≤ xs.length → lo' ≤ hi' → hi' - lo' ≤ f' → y = sum + xs.getD k 0 →
          OI 2 w2 (w.heap.size + 1) v2 (out ++ [(k : Int)]) → Below w.heap.size w w2 → w.heap.size < w2.heap.size → w2.cell? ⟨w.heap.size, 0, none⟩ = some (.slice (some ⟨b, off, none⟩) xs.length cap) → w2.cell? ⟨w.heap.size, 1, none⟩ = some (.slice a2 ws.length cap2) →
          ∃ (f lo hi : Nat) (out : List Int) (sum : Int) (vo : Value), Value.int .i64 (lo' : Int) = .int .i64 lo ∧ Value.int .i64 (hi' : Int) = .int .i64 hi ∧ v2 = vo ∧ Value.int .i64 y = .int .i64 sum ∧ hi ≤ xs.length ∧ lo ≤ hi ∧ hi - lo ≤ f ∧ f ≤ 9 ∧ out.length ≤ 9 - f ∧ 0 ≤ sum ∧
            out ++ (findR (bMean xs ws) xs sec f lo hi).1 = R.1 ∧ sum + (findR (bMean xs ws) xs sec f lo hi).2 = R.2 ∧ OI 2 w2 (w.heap.size + 1) vo out ∧ Below w.heap.size w w2 ∧ w.heap.size < w2.heap.size ∧ w2.cell? ⟨w.heap.size, 0, none⟩ = some (.slice (some ⟨b, off, none⟩) xs.length cap) ∧ w2.cell? ⟨w.heap.size, 1, none⟩ = some (.slice a2 ws.length cap2) := by
        intro lo' hi' v2 w2 y hq h1 h2 h3 hy h4 h5 h6 h7 h8
        refine ⟨f', lo', hi', _, _, _, rfl, rfl, rfl, rfl, h1, h2, h3, by omega, by simp; omega, by omega, ?_, ?_, h4, h5, h6, h7, h8⟩
        · have := HE1.out
          rw [hq] at this
          rw [← this, List.append_assoc]; rfl
        · have := HE2.out
          rw [hq] at this
          simp only at this
          omega
      have FIN := Lib.hid fin
      clear fin
      generalize xs.getD k 0 = x at *
      have hsx : sum + x ≤ 10000 := by omega
      by_cases hsk : sec ≤ (k : Int)
      · have HQ := Lib.hid (HFR.out.trans (if_pos hsk))
        go_wp2_with fail
        refine (D1.out _ hb).mono ?_
        rintro e w1 ⟨rfl, hb1⟩
        have hb01 := bthen hb hb1
        have HO1 := Lib.hid (HO.out.below hb1)
        have hz1 := Nat.lt_of_lt_of_le hz hb1.size
        have e0 := (hb1.cell (p := ⟨w.heap.size, 0, none⟩) hz).trans d0
        have e1 := (hb1.cell (p := ⟨w.heap.size, 1, none⟩) hz).trans d1
        have g := (hb01.cell (p := ⟨b, off + k, none⟩) hbl).trans HG.out
        have hbl1 : b < w1.heap.size := by omega
        clear d0 d1
        go_wp2_with fail
        go_region_held3 (fun w' => w'.cell? ⟨w.heap.size, 0, none⟩ = some (.slice (some ⟨b, off, none⟩) xs.length cap) ∧ w'.cell? ⟨b, off + k, none⟩ = some (.int .i64 x))
          (first
            | go_keep
            | (go_split_ands
               refine ⟨?_, ?_⟩
               · (rw [cell_older hown0 hgrow (by simp; omega) (by omega)]; assumption)
               · (rw [cell_older hown0 hgrow (by simp; omega) (by omega)]; assumption)))
          ((have hown0 := HO1.out.below (below_new w1 (.cells #[.int .i64 (k : Int)] 2)); refine step_app1 (by rfl) _ _ 22 (by rfl) 2 i0 Try.underlying22 HI.out iz0 iz1 iz2 (w.heap.size + 1) _ out (by rfl) hown0 ⟨w1.heap.size, 0, none⟩ k (by rfl) (cell_new _ _ _) HGK.out (by omega) (by simp; omega) ?_; intro v2 w2 hown1 hgrow))
        obtain ⟨hb2, hz2, hcc⟩ := after_app hb01 hz1 hown0 hgrow
        have f0 := (hcc 0).trans e0
        have f1 := (hcc 1).trans e1
        have H1 := Lib.hid hown1
        clear hown1 hown0 hgrow hcc e0 e1
        go_wp2_with fail
        go_roundw
        case rel => exact FIN.out lo k v2 _ _ HQ.out (by omega) (by omega) (by omega) (IntWalk.i64_in _ (by omega)) H1.out hb2 hz2 f0 f1
        case measure => simp [intOf]; omega
      · have HQ := Lib.hid (HFR.out.trans (if_neg hsk))
        have hskd : decide (sec ≤ (k : Int)) = false := by simpa using hsk
        go_wp2_with fail
        refine (D1.out _ hb).mono ?_
        rintro e w1 ⟨rfl, hb1⟩
        have hb01 := bthen hb hb1
        have HO1 := Lib.hid (HO.out.below hb1)
        have hz1 := Nat.lt_of_lt_of_le hz hb1.size
        have e0 := (hb1.cell (p := ⟨w.heap.size, 0, none⟩) hz).trans d0
        have e1 := (hb1.cell (p := ⟨w.heap.size, 1, none⟩) hz).trans d1
        have g := (hb01.cell (p := ⟨b, off + k, none⟩) hbl).trans HG.out
        have hbl1 : b < w1.heap.size := by omega
        clear d0 d1
        go_wp2_with fail
        go_region_held3 (fun w' => w'.cell? ⟨w.heap.size, 0, none⟩ = some (.slice (some ⟨b, off, none⟩) xs.length cap) ∧ w'.cell? ⟨b, off + k, none⟩ = some (.int .i64 x))
          (first
            | go_keep
            | (go_split_ands
               refine ⟨?_, ?_⟩
               · (rw [cell_older hown0 hgrow (by simp; omega) (by omega)]; assumption)
               · (rw [cell_older hown0 hgrow (by simp; omega) (by omega)]; assumption)))
          ((have hown0 := HO1.out.below (below_new w1 (.cells #[.int .i64 (k : Int)] 2)); refine step_app1 (by rfl) _ _ 22 (by rfl) 2 i0 Try.underlying22 HI.out iz0 iz1 iz2 (w.heap.size + 1) _ out (by rfl) hown0 ⟨w1.heap.size, 0, none⟩ k (by rfl) (cell_new _ _ _) HGK.out (by omega) (by simp; omega) ?_; intro v2 w2 hown1 hgrow))
        obtain ⟨hb2, hz2, hcc⟩ := after_app hb01 hz1 hown0 hgrow
        have f0 := (hcc 0).trans e0
        have f1 := (hcc 1).trans e1
        have H1 := Lib.hid hown1
        clear hown1 hown0 hgrow hcc e0 e1
        go_wp2_with fail
        go_roundw
        case rel => exact FIN.out (k + 1) hi v2 _ _ HQ.out hh (by omega) (by omega) (IntWalk.i64_in _ (by omega)) H1.out hb2 hz2 f0 f1
        case measure => simp [intOf]; omega
    · have hdone := findR_done (bMean xs ws) xs sec f lo hi hlt
      have h1 := HE1.out
      rw [hdone] at h1 he2
      have HE3 := Lib.hid h1
      have HE4 := Lib.hid he2
      clear h1 he2 hdone
      go_wp2_with fail
      go_ret2
      refine ⟨_, by rw [← HE4.out]; simp; rfl, ?_, hb⟩
      rw [← HE3.out]; simpa using HO.out.mono (Nat.le_succ _)

/-- The openings that are made for a section, their price, and a code. -/
def valSearchFor (xs : List Int) (s : Int) : List Int × Int × Int := if codeS xs s s = 0 then ((findR (bWorst xs) xs s 9 0 xs.length).1, (findR (bWorst xs) xs s 9 0 xs.length).2, 0) else ([], 0, codeS xs s s)
def valMeanFor (xs ws : List Int) (s : Int) : List Int × Int × Int :=
  if okWeights xs ws = true then (if codeS xs s s = 0 then ((findR (bMean xs ws) xs s 9 0 xs.length).1, (findR (bMean xs ws) xs s 9 0 xs.length).2, 0) else ([], 0, 2)) else ([], 0, 1)

theorem valSearchFor_len (xs : List Int) (s : Int) : (valSearchFor xs s).1.length ≤ 1048576 := by
  unfold valSearchFor
  split
  · rename_i h
    obtain ⟨hok, _⟩ := codeS_zero h
    have := findR_bounds (bWorst xs) xs s (fun k hk => okOpen_getD hok k hk) (fun lo hi h _ => ⟨(bWorst_mem xs lo hi h).1, (bWorst_mem xs lo hi h).2.1⟩) 9 0 xs.length (Nat.le_refl _)
    simp only; omega
  · simp
theorem valMeanFor_len (xs ws : List Int) (s : Int) : (valMeanFor xs ws s).1.length ≤ 1048576 := by
  unfold valMeanFor
  split
  · rename_i hw
    split
    · obtain ⟨hok, _⟩ := okWeights_iff hw
      have := findR_bounds (bMean xs ws) xs s (fun k hk => okOpen_getD hok k hk) (fun lo hi h _ => ⟨(bMean_mem xs ws lo hi h).1, (bMean_mem xs ws lo hi h).2.1⟩) 9 0 xs.length (Nat.le_refl _)
      simp only; omega
    · simp
  · simp

theorem specSearchFor_any (v : Value) (xs : List Int) (s : Int) (w : World) (hv : RI w v xs) :
    Calls Try.prog 35 #[v, .int .i64 s] w fun e w' => ∃ v', e = .returned (.tuple #[v', .int .i64 (valSearchFor xs s).2.1, .int .i64 (valSearchFor xs s).2.2]) ∧ OI 2 w' w.heap.size v' (valSearchFor xs s).1 ∧ Below w.heap.size w w' := by
  have HV := Lib.hid hv
  clear hv
  by_cases hc : codeS xs s s = 0
  · obtain ⟨hok, h1, h2, h3⟩ := codeS_zero hc
    have HE : Hid (valSearchFor xs s = _) := if_pos hc
    have C1 := l16Code_any v xs s s w HV.out
    rw [hc] at C1
    have D1 := Lib.hid C1
    have HOK := Lib.hid hok
    clear C1 hc hok
    go_enter Try.func35, Try.ntmps35
    go_wp2_with fail
    refine D1.out.mono ?_
    rintro e w' ⟨rfl, rfl⟩
    have B0 : Below w.heap.size w (w.alloc (.cells #[] 2)) := (Below.refl _ _).alloc (Nat.le_refl _) _
    go_wp2_with fail
    refine (findW_any v _ xs s _ HOK.out (HV.out.below B0) (OI.lit0 2 _ 0 (Nat.zero_le _)).ri).mono ?_
    rintro e w2 ⟨v2, rfl, ho2, hb2⟩
    have HO := Lib.hid ho2
    clear ho2
    go_wp2_with fail
    go_ret3
    exact ⟨_, by rw [HE.out]; rfl, by rw [HE.out]; exact HO.out.mono B0.size, bthen B0 hb2⟩
  · have HE : Hid (valSearchFor xs s = ([], 0, codeS xs s s)) := if_neg hc
    have C1 := Lib.hid (l16Code_any v xs s s w HV.out)
    generalize codeS xs s s = c at *
    have hn : (c != 0) = true := by rw [bne_iff_ne]; exact hc
    clear hc
    go_enter Try.func35, Try.ntmps35
    go_wp2_with fail
    refine C1.out.mono ?_
    rintro e w' ⟨rfl, rfl⟩
    go_wp2_with fail
    go_ret3
    exact ⟨_, by rw [HE.out]; rfl, by rw [HE.out]; exact OI.nil _ _ _, Below.refl _ _⟩

theorem implSearchFor_any (v : Value) (xs : List Int) (s : Int) (w : World) (hv : RI w v xs) :
    Calls Try.prog 21 #[v, .int .i64 s] w fun e w' => ∃ v', e = .returned (.tuple #[v', .int .i64 (valSearchFor xs s).2.1, .int .i64 (valSearchFor xs s).2.2]) ∧ OI 2 w' w.heap.size v' (valSearchFor xs s).1 ∧ Below w.heap.size w w' := by
  obtain ⟨a, cap, rfl⟩ := hv.shape
  have HV := Lib.hid hv
  clear hv
  by_cases hc : codeS xs s s = 0
  · obtain ⟨hok, h1, h2, h3⟩ := codeS_zero hc
    have HE : Hid (valSearchFor xs s = _) := if_pos hc
    have C1 := sectionsCode_any _ xs s s w HV.out
    rw [hc] at C1
    have D1 := Lib.hid C1
    have HOK := Lib.hid hok
    clear C1 hc hok
    go_enter Try.func21, Try.ntmps21
    go_wp2_with fail
    refine D1.out.mono ?_
    rintro e w1 ⟨rfl, hb1⟩
    go_wp2_with fail
    refine (madeW_any _ xs s _ HOK.out (HV.out.below hb1)).mono ?_
    rintro e w2 ⟨v2, rfl, ho2, hb2⟩
    have HO := Lib.hid ho2
    clear ho2
    go_wp2_with fail
    go_ret3
    exact ⟨_, by rw [HE.out]; rfl, by rw [HE.out]; exact HO.out.mono hb1.size, bthen hb1 hb2⟩
  · have HE : Hid (valSearchFor xs s = ([], 0, codeS xs s s)) := if_neg hc
    have C1 := Lib.hid (sectionsCode_any _ xs s s w HV.out)
    generalize codeS xs s s = c at *
    have hn : (c != 0) = true := by rw [bne_iff_ne]; exact hc
    clear hc
    go_enter Try.func21, Try.ntmps21
    go_wp2_with fail
    refine C1.out.mono ?_
    rintro e w1 ⟨rfl, hb1⟩
    go_wp2_with fail
    go_ret3
    exact ⟨_, by rw [HE.out]; rfl, by rw [HE.out]; exact OI.nil _ _ _, hb1⟩

theorem codeS_valid {xs : List Int} (h : okOpen xs = true) (s : Int) : codeS xs s s = if inB 0 xs.length s = true then 0 else 2 := by
  unfold codeS
  rw [if_pos h]
  by_cases h2 : inB 0 xs.length s = true
  · rw [if_pos h2, if_pos]; simp [inB] at h2; omega
  · rw [if_neg h2, if_neg]; intro h3; apply h2; simp [inB]; omega

theorem specMeanSearchFor_any (v : Value) (xs : List Int) (u : Value) (ws : List Int) (s : Int) (w : World) (hv : RI w v xs) (hu : RI w u ws) :
    Calls Try.prog 38 #[v, u, .int .i64 s] w fun e w' => ∃ v', e = .returned (.tuple #[v', .int .i64 (valMeanFor xs ws s).2.1, .int .i64 (valMeanFor xs ws s).2.2]) ∧ OI 2 w' w.heap.size v' (valMeanFor xs ws s).1 ∧ Below w.heap.size w w' := by
  have HV := Lib.hid hv
  have HU := Lib.hid hu
  clear hv hu
  cases hc : okWeights xs ws with
  | false =>
    have HE : Hid (valMeanFor xs ws s = ([], 0, 1)) := if_neg (by rw [hc]; simp)
    have C1 := l16Weights_any v u xs ws w HV.out HU.out
    rw [hc] at C1
    have D1 := Lib.hid C1
    clear C1 hc
    go_enter Try.func38, Try.ntmps38
    go_wp2_with fail
    refine D1.out.mono ?_
    rintro e w' ⟨rfl, rfl⟩
    go_wp2_with fail
    go_ret3
    exact ⟨_, by rw [HE.out]; rfl, by rw [HE.out]; exact OI.nil _ _ _, Below.refl _ _⟩
  | true =>
    have hok := (okWeights_iff hc).1
    have C1 := l16Weights_any v u xs ws w HV.out HU.out
    rw [hc] at C1
    have D1 := Lib.hid C1
    have HOK := Lib.hid hok
    have HC := Lib.hid hc
    by_cases hs : codeS xs s s = 0
    · have HE : Hid (valMeanFor xs ws s = _) := (if_pos hc).trans (if_pos hs)
      have C2 := l16Code_any v xs s s w HV.out
      rw [hs] at C2
      have D2 := Lib.hid C2
      clear C1 C2 hc hok hs
      go_enter Try.func38, Try.ntmps38
      go_wp2_with fail
      refine D1.out.mono ?_
      rintro e w' ⟨rfl, rfl⟩
      go_wp2_with fail
      refine D2.out.mono ?_
      rintro e w' ⟨rfl, rfl⟩
      go_wp2_with fail
      refine (findM_any v u xs ws s _ HC.out HV.out HU.out).mono ?_
      rintro e w2 ⟨v2, rfl, ho2, hb2⟩
      have HO := Lib.hid ho2
      clear ho2
      go_wp2_with fail
      go_ret3
      exact ⟨_, by rw [HE.out]; rfl, by rw [HE.out]; exact HO.out, hb2⟩
    · have HE : Hid (valMeanFor xs ws s = ([], 0, 2)) := (if_pos hc).trans (if_neg hs)
      have h2 : codeS xs s s = 2 := by
        have := codeS_valid hok s
        split at this
        · exact absurd this hs
        · exact this
      have C2 := l16Code_any v xs s s w HV.out
      rw [h2] at C2
      have D2 := Lib.hid C2
      clear C1 C2 hc hok hs h2
      go_enter Try.func38, Try.ntmps38
      go_wp2_with fail
      refine D1.out.mono ?_
      rintro e w' ⟨rfl, rfl⟩
      go_wp2_with fail
      refine D2.out.mono ?_
      rintro e w' ⟨rfl, rfl⟩
      go_wp2_with fail
      go_ret3
      exact ⟨_, by rw [HE.out]; rfl, by rw [HE.out]; exact OI.nil _ _ _, Below.refl _ _⟩

theorem implMeanSearchFor_any (v : Value) (xs : List Int) (u : Value) (ws : List Int) (s : Int) (w : World) (hv : RI w v xs) (hu : RI w u ws) :
    Calls Try.prog 39 #[v, u, .int .i64 s] w fun e w' => ∃ v', e = .returned (.tuple #[v', .int .i64 (valMeanFor xs ws s).2.1, .int .i64 (valMeanFor xs ws s).2.2]) ∧ OI 2 w' w.heap.size v' (valMeanFor xs ws s).1 ∧ Below w.heap.size w w' := by
  obtain ⟨a, cap, rfl⟩ := hv.shape
  obtain ⟨a2, cap2, rfl⟩ := hu.shape
  have HV := Lib.hid hv
  have HU := Lib.hid hu
  clear hv hu
  cases hc : okWeights xs ws with
  | false =>
    have HE : Hid (valMeanFor xs ws s = ([], 0, 1)) := if_neg (by rw [hc]; simp)
    have C1 := validWeights_any _ _ xs ws w HV.out HU.out
    rw [hc] at C1
    have D1 := Lib.hid C1
    clear C1 hc
    go_enter Try.func39, Try.ntmps39
    go_wp2_with fail
    refine D1.out.mono ?_
    rintro e w1 ⟨rfl, hb1⟩
    go_wp2_with fail
    go_ret3
    exact ⟨_, by rw [HE.out]; rfl, by rw [HE.out]; exact OI.nil _ _ _, hb1⟩
  | true =>
    have hok := (okWeights_iff hc).1
    have hcv := codeS_valid hok s
    have C1 := validWeights_any _ _ xs ws w HV.out HU.out
    rw [hc] at C1
    have D1 := Lib.hid C1
    have HC := Lib.hid hc
    cases hs : inB 0 xs.length s with
    | true =>
      rw [if_pos hs] at hcv
      have HE : Hid (valMeanFor xs ws s = _) := (if_pos hc).trans (if_pos hcv)
      clear C1 hc hok hcv
      go_enter Try.func39, Try.ntmps39
      go_wp2_with fail
      refine D1.out.mono ?_
      rintro e w1 ⟨rfl, hb1⟩
      go_wp2_with (go_at_call 57; refine (isSection_any _ _ _ _ _).mono ?_; rintro e w' ⟨rfl, rfl⟩)
      refine (madeM_any _ _ xs ws s _ HC.out (HV.out.below hb1) (HU.out.below hb1)).mono ?_
      rintro e w2 ⟨v2, rfl, ho2, hb2⟩
      have HO := Lib.hid ho2
      clear ho2
      go_wp2_with fail
      go_ret3
      exact ⟨_, by rw [HE.out]; rfl, by rw [HE.out]; exact HO.out.mono hb1.size, bthen hb1 hb2⟩
    | false =>
      rw [if_neg (by rw [hs]; simp)] at hcv
      have HE : Hid (valMeanFor xs ws s = ([], 0, 2)) := (if_pos hc).trans (if_neg (by rw [hcv]; simp))
      clear C1 hc hok hcv
      go_enter Try.func39, Try.ntmps39
      go_wp2_with fail
      refine D1.out.mono ?_
      rintro e w1 ⟨rfl, hb1⟩
      go_wp2_with (go_at_call 57; refine (isSection_any _ _ _ _ _).mono ?_; rintro e w' ⟨rfl, rfl⟩)
      go_ret3
      exact ⟨_, by rw [HE.out]; rfl, by rw [HE.out]; exact OI.nil _ _ _, hb1⟩

end Go.Proofs.Ytoeigifmghfpgaa
