/-
  AddLoss of both sides: what each returns.
-/
import Derived.Test.YtpgnndpjlcihiaaDoorAgree
import Derived.Test.YtpgnndpjlcihiaaDoorAppL
namespace Go.Proofs.YtpgnndpjlcihiaaDoor
open Go.RowKit

theorem valAdd_len (n : Int) (xs : List (Int × Int × Int)) (x : Int × Int × Int) : (valAdd n xs x).1.length ≤ 20 := by
  unfold valAdd
  split
  · split
    · split
      · split
        · simp; omega
        · simp
      · simp
    · simp
  · simp
theorem okLoss_nums {n f t l : Int} (h : okLoss n (f, t, l) = true) : 0 ≤ f ∧ f < t ∧ t ≤ n ∧ 0 ≤ l ∧ l ≤ 10000 := by
  rw [okLoss_impl] at h
  simp only [inB, Bool.and_eq_true, decide_eq_true_eq] at h
  omega

section
variable (f t l : Int) (w : World)
/-- The three ways in which the two lists come to lie. -/
theorem add_one (T : TypeId) (base : Nat) (hb : base ≤ w.heap.size) : OS P3 T (w.alloc (.cells #[] T)).drew base (.slice (some ⟨w.heap.size, 0, none⟩) 0 0) [] := OS.lit0 T w base hb
theorem add_two (T : TypeId) (base : Nat) (hb : base ≤ w.heap.size) (x : Obj) : OS P3 T ((w.alloc (.cells #[] T)).alloc x).drew base (.slice (some ⟨w.heap.size, 0, none⟩) 0 0) [] :=
  (OS.lit0 T w base hb).below (((Below.refl _ (w.alloc (.cells #[] T))).alloc (Nat.le_refl _) x).drew)
theorem add_three (T : TypeId) (base : Nat) (hb : base ≤ w.heap.size) (x : Obj) : OS P3 T ((w.alloc x).alloc (.cells #[] T)).drew base (.slice (some ⟨w.heap.size + 1, 0, none⟩) 0 0) [] := by
  have h := OS.lit0 (E := P3) T (w.alloc x) base (by simp; omega)
  rw [show (w.alloc x).heap.size = w.heap.size + 1 by simp] at h
  exact h
end

set_option maxRecDepth 100000 in
set_option maxHeartbeats 2000000 in
theorem specAddLoss_any (n : Int) (v : Value) (xs : List (Int × Int × Int)) (f t l : Int) (w : World) (hv : SI P3 w v xs) :
    Calls Tryd.prog 21 #[.int .i64 n, v, .agg #[.int .i64 f, .int .i64 t, .int .i64 l]] w fun e w' => ∃ v', e = .returned (.tuple #[v', .int .i64 (valAdd n xs (f, t, l)).2]) ∧ OS P3 25 w' w.heap.size v' (valAdd n xs (f, t, l)).1 ∧ Below w.heap.size w w' := by
  obtain ⟨a, cap, rfl⟩ := hv.shape
  have hl := hv.len
  have HV := Lib.hid hv
  have C1 := fun W h => l15Ok_any n (.slice a xs.length cap) xs W h
  have HB0 := Lib.hid ((Below.refl w.heap.size w).alloc (Nat.le_refl _) (.cells #[.int .i64 f, .int .i64 t, .int .i64 l] 25))
  have hz0 : w.heap.size < (w.alloc (.cells #[.int .i64 f, .int .i64 t, .int .i64 l] 25)).heap.size := by simp
  have c0a := cell3a w (.int .i64 f) (.int .i64 t) (.int .i64 l) 25
  have c0b := cell3b w (.int .i64 f) (.int .i64 t) (.int .i64 l) 25
  have c0c := cell3c w (.int .i64 f) (.int .i64 t) (.int .i64 l) 25
  clear hv
  cases h1 : okLosses n xs with
  | false =>
    rw [show valAdd n xs (f, t, l) = ([], 1) by simp [valAdd, h1]]
    rw [h1] at C1
    have D1 := Lib.hid C1
    clear C1 h1
    go_enter Tryd.func21, Tryd.ntmps21
    go_wp2_with (go_at_call 41; refine (D1.out _ (HV.out.below HB0.out)).mono ?_; rintro e w1 ⟨rfl, hb1⟩)
    go_ret2
    exact ⟨_, rfl, OS.nil _ _ _, bthen HB0.out hb1⟩
  | true =>
    rw [h1] at C1
    have D1 := Lib.hid C1
    have hn := okLosses_n h1
    cases h2 : okLoss n (f, t, l) with
    | false =>
      rw [show valAdd n xs (f, t, l) = ([], 2) by simp [valAdd, h1, h2]]
      have HO := Lib.hid h2
      clear C1 h1 h2
      go_enter Tryd.func21, Tryd.ntmps21
      go_wp2_with (first
        | (go_at_call 30; refine (l15One_any n f t l w.heap.size 0 w1 hn c1a c1b c1c).mono ?_; rintro e w2 ⟨rfl, hb2⟩; rw [HO.out])
        | (go_at_call 41; refine (D1.out _ (HV.out.below HB0.out)).mono ?_; rintro e w1 ⟨rfl, hb1⟩; have c1a := (hb1.cell (p := ⟨w.heap.size, 0, none⟩) hz0).trans c0a; have c1b := (hb1.cell (p := ⟨w.heap.size, 1, none⟩) hz0).trans c0b; have c1c := (hb1.cell (p := ⟨w.heap.size, 2, none⟩) hz0).trans c0c))
      go_ret2
      exact ⟨_, rfl, OS.nil _ _ _, bthen (bthen HB0.out hb1) hb2⟩
    | true =>
      have HO := Lib.hid h2
      by_cases h20 : xs.length < 20
      · have hd20 : decide ((20 : Int) ≤ (xs.length : Int)) = false := decide_eq_false (by omega)
        have hnum := okLoss_nums h2
        obtain ⟨s, rfl⟩ : ∃ s : Nat, n = s := ⟨n.toNat, by omega⟩
        have HX := Lib.hid (show fitT s (xs ++ [(f, t, l)]) from fitT_snoc (fitT_of h1) hnum)
        have HGf := Lib.hid (show Good f by unfold Good; omega)
        have HGt := Lib.hid (show Good t by unfold Good; omega)
        have HGl := Lib.hid (show Good l by unfold Good; omega)
        have C2 := fun u v W h3 h4 => tableOpen_any s v (xs ++ [(f, t, l)]) u W (by omega) (by omega) h3 HX.out h4
        obtain ⟨i0, hi, iz0, iz1, iz2⟩ := info_parts infoLoss
        have HI := Lib.hid hi
        have hval : valAdd s xs (f, t, l) = if okA s openT (xs ++ [(f, t, l)]) then (xs ++ [(f, t, l)], 0) else ([], 9) := by
          simp only [valAdd, h1, h2, if_true, if_pos h20]; rfl
        rw [hval]
        generalize okA s openT (xs ++ [(f, t, l)]) = bb at C2 ⊢
        clear C1 h1 h2 hi hval hl
        cases bb
        all_goals
          simp only [if_true, Bool.false_eq_true, if_false]
          have D2 := Lib.hid C2
          clear C2
          go_enter Tryd.func21, Tryd.ntmps21
          go_wp2_with (first
            | (go_at_call 30; refine (l15One_any s f t l w.heap.size 0 w1 hn c1a c1b c1c).mono ?_; rintro e w2 ⟨rfl, hb2⟩; rw [HO.out])
            | (go_at_call 41; refine (D1.out _ (HV.out.below HB0.out)).mono ?_; rintro e w1 ⟨rfl, hb1⟩; have hz1 := Nat.lt_of_lt_of_le hz0 hb1.size; have c1a := (hb1.cell (p := ⟨w.heap.size, 0, none⟩) hz0).trans c0a; have c1b := (hb1.cell (p := ⟨w.heap.size, 1, none⟩) hz0).trans c0b; have c1c := (hb1.cell (p := ⟨w.heap.size, 2, none⟩) hz0).trans c0c))
          have hB2 := bthen (bthen HB0.out hb1) hb2
          have HB2 := Lib.hid hB2
          have c2a := (hb2.cell (p := ⟨w.heap.size, 0, none⟩) hz1).trans c1a
          have c2b := (hb2.cell (p := ⟨w.heap.size, 1, none⟩) hz1).trans c1b
          have c2c := (hb2.cell (p := ⟨w.heap.size, 2, none⟩) hz1).trans c1c
          have hz2 := Nat.lt_of_lt_of_le hz1 hb2.size
          clear hB2 c1a c1b c1c c0a c0b c0c hz0 hz1 hb1 hb2
          have hA1 := (below_new w2 (.cells #[] 25))
          have hA2 : Below w2.heap.size w2 ((w2.alloc (.cells #[] 25)).alloc (.cells #[.int .i64 f, .int .i64 t, .int .i64 l] 25)).drew := (((Below.refl _ _).alloc (Nat.le_refl _) _).alloc (by simp) _).drew
          have hA3 : Below w2.heap.size w2 ((w2.alloc (.cells #[.int .i64 f, .int .i64 t, .int .i64 l] 25)).alloc (.cells #[] 25)).drew := (((Below.refl _ _).alloc (Nat.le_refl _) _).alloc (by simp) _).drew
          have K1 := Lib.hid (show OS P3 25 _ w.heap.size _ [] ∧ SI P3 _ _ _ ∧ Below w.heap.size w _ from ⟨add_one w2 25 w.heap.size HB2.out.size, (HV.out.below HB2.out).below hA1, bthen HB2.out hA1⟩)
          have K2 := Lib.hid (show OS P3 25 _ w.heap.size _ [] ∧ SI P3 _ _ _ ∧ Below w.heap.size w _ from ⟨add_two w2 25 w.heap.size HB2.out.size (.cells #[.int .i64 f, .int .i64 t, .int .i64 l] 25), (HV.out.below HB2.out).below hA2, bthen HB2.out hA2⟩)
          have K3 := Lib.hid (show OS P3 25 _ w.heap.size _ [] ∧ SI P3 _ _ _ ∧ Below w.heap.size w _ from ⟨add_three w2 25 w.heap.size HB2.out.size (.cells #[.int .i64 f, .int .i64 t, .int .i64 l] 25), (HV.out.below HB2.out).below hA3, bthen HB2.out hA3⟩)
          have M1 := Lib.hid (show (w2.alloc (.cells #[] 25)).drew.cell? ⟨w.heap.size, 0, none⟩ = some (.int .i64 f) ∧ (w2.alloc (.cells #[] 25)).drew.cell? ⟨w.heap.size, 1, none⟩ = some (.int .i64 t) ∧ (w2.alloc (.cells #[] 25)).drew.cell? ⟨w.heap.size, 2, none⟩ = some (.int .i64 l) from ⟨(hA1.cell (p := ⟨w.heap.size, 0, none⟩) hz2).trans c2a, (hA1.cell (p := ⟨w.heap.size, 1, none⟩) hz2).trans c2b, (hA1.cell (p := ⟨w.heap.size, 2, none⟩) hz2).trans c2c⟩)
          have M2 := Lib.hid (show ((w2.alloc (.cells #[] 25)).alloc (.cells #[.int .i64 f, .int .i64 t, .int .i64 l] 25)).drew.cell? ⟨w.heap.size, 0, none⟩ = some (.int .i64 f) ∧ ((w2.alloc (.cells #[] 25)).alloc (.cells #[.int .i64 f, .int .i64 t, .int .i64 l] 25)).drew.cell? ⟨w.heap.size, 1, none⟩ = some (.int .i64 t) ∧ ((w2.alloc (.cells #[] 25)).alloc (.cells #[.int .i64 f, .int .i64 t, .int .i64 l] 25)).drew.cell? ⟨w.heap.size, 2, none⟩ = some (.int .i64 l) from ⟨(hA2.cell (p := ⟨w.heap.size, 0, none⟩) hz2).trans c2a, (hA2.cell (p := ⟨w.heap.size, 1, none⟩) hz2).trans c2b, (hA2.cell (p := ⟨w.heap.size, 2, none⟩) hz2).trans c2c⟩)
          have M3 := Lib.hid (show ((w2.alloc (.cells #[.int .i64 f, .int .i64 t, .int .i64 l] 25)).alloc (.cells #[] 25)).drew.cell? ⟨w.heap.size, 0, none⟩ = some (.int .i64 f) ∧ ((w2.alloc (.cells #[.int .i64 f, .int .i64 t, .int .i64 l] 25)).alloc (.cells #[] 25)).drew.cell? ⟨w.heap.size, 1, none⟩ = some (.int .i64 t) ∧ ((w2.alloc (.cells #[.int .i64 f, .int .i64 t, .int .i64 l] 25)).alloc (.cells #[] 25)).drew.cell? ⟨w.heap.size, 2, none⟩ = some (.int .i64 l) from ⟨(hA3.cell (p := ⟨w.heap.size, 0, none⟩) hz2).trans c2a, (hA3.cell (p := ⟨w.heap.size, 1, none⟩) hz2).trans c2b, (hA3.cell (p := ⟨w.heap.size, 2, none⟩) hz2).trans c2c⟩)
          have hs1 : (w2.alloc (.cells #[] 25)).heap.size = w2.heap.size + 1 := by simp
          have N2 := Lib.hid (show ((w2.alloc (.cells #[] 25)).alloc (.cells #[.int .i64 f, .int .i64 t, .int .i64 l] 25)).drew.cell? ⟨w2.heap.size + 1, 0, none⟩ = some (.int .i64 f) ∧ ((w2.alloc (.cells #[] 25)).alloc (.cells #[.int .i64 f, .int .i64 t, .int .i64 l] 25)).drew.cell? ⟨w2.heap.size + 1, 1, none⟩ = some (.int .i64 t) ∧ ((w2.alloc (.cells #[] 25)).alloc (.cells #[.int .i64 f, .int .i64 t, .int .i64 l] 25)).drew.cell? ⟨w2.heap.size + 1, 2, none⟩ = some (.int .i64 l) ∧ w2.heap.size + 1 < ((w2.alloc (.cells #[] 25)).alloc (.cells #[.int .i64 f, .int .i64 t, .int .i64 l] 25)).drew.heap.size from by
            rw [← hs1]
            exact ⟨cell3a _ _ _ _ _, cell3b _ _ _ _ _, cell3c _ _ _ _ _, by simp⟩)
          have hA4 : Below (w2.alloc (.cells #[.int .i64 f, .int .i64 t, .int .i64 l] 25)).heap.size (w2.alloc (.cells #[.int .i64 f, .int .i64 t, .int .i64 l] 25)) ((w2.alloc (.cells #[.int .i64 f, .int .i64 t, .int .i64 l] 25)).alloc (.cells #[] 25)).drew := ((Below.refl _ _).alloc (Nat.le_refl _) _).drew
          have N3 := Lib.hid (show ((w2.alloc (.cells #[.int .i64 f, .int .i64 t, .int .i64 l] 25)).alloc (.cells #[] 25)).drew.cell? ⟨w2.heap.size, 0, none⟩ = some (.int .i64 f) ∧ ((w2.alloc (.cells #[.int .i64 f, .int .i64 t, .int .i64 l] 25)).alloc (.cells #[] 25)).drew.cell? ⟨w2.heap.size, 1, none⟩ = some (.int .i64 t) ∧ ((w2.alloc (.cells #[.int .i64 f, .int .i64 t, .int .i64 l] 25)).alloc (.cells #[] 25)).drew.cell? ⟨w2.heap.size, 2, none⟩ = some (.int .i64 l) ∧ w2.heap.size < ((w2.alloc (.cells #[.int .i64 f, .int .i64 t, .int .i64 l] 25)).alloc (.cells #[] 25)).drew.heap.size from ⟨(hA4.cell (p := ⟨w2.heap.size, 0, none⟩) (by simp)).trans (cell3a w2 _ _ _ _), (hA4.cell (p := ⟨w2.heap.size, 1, none⟩) (by simp)).trans (cell3b w2 _ _ _ _), (hA4.cell (p := ⟨w2.heap.size, 2, none⟩) (by simp)).trans (cell3c w2 _ _ _ _), by simp; omega⟩)
          clear hs1 hA4
          clear hA1 hA2 hA3
          go_wp2_with fail
          go_region_law (first
            | (refine step_appL (E := P3) (by rfl) _ _ 30 (by rfl) 25 i0 _ Tryd.underlying30 HI.out iz0 (by rfl) iz1 24 iz2 (by decide) w.heap.size _ xs (by rfl) (OS.below h1 ((Below.refl w5.heap.size w5).alloc (Nat.le_refl _) (.cells #[.int .i64 f, .int .i64 t, .int .i64 l] 25))) _ [(f, t, l)] (by rfl) (SI_one3 (by simp) (cell3a w5 (.int .i64 f) (.int .i64 t) (.int .i64 l) 25) (cell3b w5 (.int .i64 f) (.int .i64 t) (.int .i64 l) 25) (cell3c w5 (.int .i64 f) (.int .i64 t) (.int .i64 l) 25) HGf.out HGt.out HGl.out) (by simp; omega) (Nat.le_trans hb5.size ((Below.refl w5.heap.size w5).alloc (Nat.le_refl _) (.cells #[.int .i64 f, .int .i64 t, .int .i64 l] 25)).size) ?_; intro v6 w6 h3 h4; have hb6 := OS.step (OS.below h1 ((Below.refl w5.heap.size w5).alloc (Nat.le_refl _) (.cells #[.int .i64 f, .int .i64 t, .int .i64 l] 25))) (bthen hb5 ((Below.refl w5.heap.size w5).alloc (Nat.le_refl _) (.cells #[.int .i64 f, .int .i64 t, .int .i64 l] 25))) h4)
            | (refine step_appL (E := P3) (by rfl) _ _ 30 (by rfl) 25 i0 _ Tryd.underlying30 HI.out iz0 (by rfl) iz1 24 iz2 (by decide) w.heap.size _ xs (by rfl) h1 _ [(f, t, l)] (by rfl) (SI_one3 hbz q0 q1 q2 HGf.out HGt.out HGl.out) (by simp; omega) hb5.size ?_; intro v6 w6 h3 h4; have hb6 := OS.step h1 hb5 h4)
            | (refine step_appL (E := P3) (by rfl) _ _ 30 (by rfl) 25 i0 _ Tryd.underlying30 HI.out iz0 (by rfl) iz1 24 iz2 (by decide) w.heap.size _ [] (by rfl) K1.out.1 _ xs (by rfl) K1.out.2.1 (by simp; omega) K1.out.2.2.size ?_; intro v5 w5 h1 h2; have hb5 := OS.step K1.out.1 K1.out.2.2 h2; have hg := h2.block w.heap.size (by first | (simp; done) | (simp; omega)) (fun e => Nat.ne_of_lt hz2 (Option.some.inj e)); have d5a := (World.cell?_of_block (a := ⟨w.heap.size, 0, none⟩) hg).trans M1.out.1; have d5b := (World.cell?_of_block (a := ⟨w.heap.size, 1, none⟩) hg).trans M1.out.2.1; have d5c := (World.cell?_of_block (a := ⟨w.heap.size, 2, none⟩) hg).trans M1.out.2.2)
            | (refine step_appL (E := P3) (by rfl) _ _ 30 (by rfl) 25 i0 _ Tryd.underlying30 HI.out iz0 (by rfl) iz1 24 iz2 (by decide) w.heap.size _ [] (by rfl) K2.out.1 _ xs (by rfl) K2.out.2.1 (by simp; omega) K2.out.2.2.size ?_; intro v5 w5 h1 h2; have hb5 := OS.step K2.out.1 K2.out.2.2 h2; have hg := h2.block w.heap.size (by first | (simp; done) | (simp; omega)) (fun e => Nat.ne_of_lt hz2 (Option.some.inj e)); have d5a := (World.cell?_of_block (a := ⟨w.heap.size, 0, none⟩) hg).trans M2.out.1; have d5b := (World.cell?_of_block (a := ⟨w.heap.size, 1, none⟩) hg).trans M2.out.2.1; have d5c := (World.cell?_of_block (a := ⟨w.heap.size, 2, none⟩) hg).trans M2.out.2.2; have hgb := h2.block (w2.heap.size + 1) (by first | (simp; done) | (simp; omega)) (fun e => Nat.succ_ne_self _ (Option.some.inj e)); have hbz := Nat.lt_of_lt_of_le N2.out.2.2.2 h2.size; have q0 := (World.cell?_of_block (a := ⟨(w2.heap.size + 1), 0, none⟩) hgb).trans N2.out.1; have q1 := (World.cell?_of_block (a := ⟨(w2.heap.size + 1), 1, none⟩) hgb).trans N2.out.2.1; have q2 := (World.cell?_of_block (a := ⟨(w2.heap.size + 1), 2, none⟩) hgb).trans N2.out.2.2.1)
            | (refine step_appL (E := P3) (by rfl) _ _ 30 (by rfl) 25 i0 _ Tryd.underlying30 HI.out iz0 (by rfl) iz1 24 iz2 (by decide) w.heap.size _ [] (by rfl) K3.out.1 _ xs (by rfl) K3.out.2.1 (by simp; omega) K3.out.2.2.size ?_; intro v5 w5 h1 h2; have hb5 := OS.step K3.out.1 K3.out.2.2 h2; have hg := h2.block w.heap.size (by first | (simp; done) | (simp; omega)) (fun e => Nat.ne_of_lt (Nat.lt_succ_of_lt hz2) (Option.some.inj e)); have d5a := (World.cell?_of_block (a := ⟨w.heap.size, 0, none⟩) hg).trans M3.out.1; have d5b := (World.cell?_of_block (a := ⟨w.heap.size, 1, none⟩) hg).trans M3.out.2.1; have d5c := (World.cell?_of_block (a := ⟨w.heap.size, 2, none⟩) hg).trans M3.out.2.2; have hgb := h2.block w2.heap.size (by first | (simp; done) | (simp; omega)) (fun e => Nat.ne_of_lt (Nat.lt_succ_self _) (Option.some.inj e)); have hbz := Nat.lt_of_lt_of_le N3.out.2.2.2 h2.size; have q0 := (World.cell?_of_block (a := ⟨w2.heap.size, 0, none⟩) hgb).trans N3.out.1; have q1 := (World.cell?_of_block (a := ⟨w2.heap.size, 1, none⟩) hgb).trans N3.out.2.1; have q2 := (World.cell?_of_block (a := ⟨w2.heap.size, 2, none⟩) hgb).trans N3.out.2.2.1))
          all_goals
            have HS6 := Lib.hid (show OS P3 25 w6 w.heap.size v6 (xs ++ [(f, t, l)]) from h3)
            have HB6 := Lib.hid hb6
            clear h1 h2 h3 h4 hb5 hb6 hg d5a d5b d5c c2a c2b c2c
            try clear q0 q1 q2 hbz hgb
            go_wp2_with (first
              | (go_at_call 42; refine (D2.out _ _ _ (HS6.out.si.below hb7) ho7.ri).mono ?_; rintro e w8 ⟨v8, rfl, hb8, _⟩)
              | (go_at_call 43; refine (l15Open_any s w6 (by omega) (by omega)).mono ?_; rintro e w7 ⟨u7, rfl, ho7, hb7⟩))
            go_ret2
            first
              | exact ⟨_, rfl, OS.nil _ _ _, bthen (bthen HB6.out hb7) hb8⟩
              | exact ⟨_, rfl, HS6.out.below (bthen hb7 hb8), bthen (bthen HB6.out hb7) hb8⟩
      · have hd20 : decide ((20 : Int) ≤ (xs.length : Int)) = true := decide_eq_true (by omega)
        rw [show valAdd n xs (f, t, l) = ([], 5) by simp [valAdd, h1, h2, h20]]
        clear C1 h1 h2
        go_enter Tryd.func21, Tryd.ntmps21
        go_wp2_with (first
          | (go_at_call 30; refine (l15One_any n f t l w.heap.size 0 w1 hn c1a c1b c1c).mono ?_; rintro e w2 ⟨rfl, hb2⟩; rw [HO.out])
          | (go_at_call 41; refine (D1.out _ (HV.out.below HB0.out)).mono ?_; rintro e w1 ⟨rfl, hb1⟩; have c1a := (hb1.cell (p := ⟨w.heap.size, 0, none⟩) hz0).trans c0a; have c1b := (hb1.cell (p := ⟨w.heap.size, 1, none⟩) hz0).trans c0b; have c1c := (hb1.cell (p := ⟨w.heap.size, 2, none⟩) hz0).trans c0c))
        go_ret2
        exact ⟨_, rfl, OS.nil _ _ _, bthen (bthen HB0.out hb1) hb2⟩

set_option maxRecDepth 100000 in
set_option maxHeartbeats 2000000 in
theorem implAddLoss_any (n : Int) (v : Value) (xs : List (Int × Int × Int)) (f t l : Int) (w : World) (hv : SI P3 w v xs) :
    Calls Tryd.prog 20 #[.int .i64 n, v, .agg #[.int .i64 f, .int .i64 t, .int .i64 l]] w fun e w' => ∃ v', e = .returned (.tuple #[v', .int .i64 (valAdd n xs (f, t, l)).2]) ∧ OS P3 25 w' w.heap.size v' (valAdd n xs (f, t, l)).1 ∧ Below w.heap.size w w' := by
  obtain ⟨a, cap, rfl⟩ := hv.shape
  have hl := hv.len
  have HV := Lib.hid hv
  have C1 := fun W h => implValidLosses_any n (.slice a xs.length cap) xs W h
  have HB0 := Lib.hid ((Below.refl w.heap.size w).alloc (Nat.le_refl _) (.cells #[.int .i64 f, .int .i64 t, .int .i64 l] 25))
  have hz0 : w.heap.size < (w.alloc (.cells #[.int .i64 f, .int .i64 t, .int .i64 l] 25)).heap.size := by simp
  have c0a := cell3a w (.int .i64 f) (.int .i64 t) (.int .i64 l) 25
  have c0b := cell3b w (.int .i64 f) (.int .i64 t) (.int .i64 l) 25
  have c0c := cell3c w (.int .i64 f) (.int .i64 t) (.int .i64 l) 25
  clear hv
  cases h1 : okLosses n xs with
  | false =>
    rw [show valAdd n xs (f, t, l) = ([], 1) by simp [valAdd, h1]]
    rw [h1] at C1
    have D1 := Lib.hid C1
    clear C1 h1
    go_enter Tryd.func20, Tryd.ntmps20
    go_wp2_with (go_at_call 27; refine (D1.out _ (HV.out.below HB0.out)).mono ?_; rintro e w1 ⟨rfl, hb1⟩)
    go_ret2
    exact ⟨_, rfl, OS.nil _ _ _, bthen HB0.out hb1⟩
  | true =>
    rw [h1] at C1
    have D1 := Lib.hid C1
    have hn := okLosses_n h1
    have h20le : xs.length ≤ 20 := by
      have h := h1
      simp only [okLosses, Bool.and_eq_true, decide_eq_true_eq] at h
      exact h.2
    cases h2 : okLoss n (f, t, l) with
    | false =>
      rw [show valAdd n xs (f, t, l) = ([], 2) by simp [valAdd, h1, h2]]
      have HO := Lib.hid h2
      clear C1 h1 h2
      go_enter Tryd.func20, Tryd.ntmps20
      go_wp2_with (first
        | (go_at_call 32; refine (isLoss_any n f t l w1).mono ?_; rintro e w2 ⟨rfl, hb2⟩; rw [HO.out])
        | (go_at_call 27; refine (D1.out _ (HV.out.below HB0.out)).mono ?_; rintro e w1 ⟨rfl, hb1⟩; have hz1 := Nat.lt_of_lt_of_le hz0 hb1.size; have c1a := (hb1.cell (p := ⟨w.heap.size, 0, none⟩) hz0).trans c0a; have c1b := (hb1.cell (p := ⟨w.heap.size, 1, none⟩) hz0).trans c0b; have c1c := (hb1.cell (p := ⟨w.heap.size, 2, none⟩) hz0).trans c0c))
      go_ret2
      exact ⟨_, rfl, OS.nil _ _ _, bthen (bthen HB0.out hb1) hb2⟩
    | true =>
      have HO := Lib.hid h2
      by_cases h20 : xs.length < 20
      · have hd20 : ((xs.length : Int) == 20) = false := by rw [beq_eq_false_iff_ne]; omega
        have hnum := okLoss_nums h2
        obtain ⟨s, rfl⟩ : ∃ s : Nat, n = s := ⟨n.toNat, by omega⟩
        have HX := Lib.hid (show fitT s (xs ++ [(f, t, l)]) from fitT_snoc (fitT_of h1) hnum)
        have HGf := Lib.hid (show Good f by unfold Good; omega)
        have HGt := Lib.hid (show Good t by unfold Good; omega)
        have HGl := Lib.hid (show Good l by unfold Good; omega)
        have C2 := fun v W h3 => agree_any s v (xs ++ [(f, t, l)]) W (by omega) (by omega) h3 HX.out
        obtain ⟨i0, hi, iz0, iz1, iz2⟩ := info_parts infoLoss
        have HI := Lib.hid hi
        have hval : valAdd s xs (f, t, l) = if okA s openT (xs ++ [(f, t, l)]) then (xs ++ [(f, t, l)], 0) else ([], 9) := by
          simp only [valAdd, h1, h2, if_true, if_pos h20]; rfl
        rw [hval]
        generalize okA s openT (xs ++ [(f, t, l)]) = bb at C2 ⊢
        clear C1 h1 h2 hi hval hl
        cases bb
        all_goals
          simp only [if_true, Bool.false_eq_true, if_false]
          have D2 := Lib.hid C2
          clear C2
          go_enter Tryd.func20, Tryd.ntmps20
          go_wp2_with (first
            | (go_at_call 32; refine (isLoss_any s f t l w1).mono ?_; rintro e w2 ⟨rfl, hb2⟩; rw [HO.out])
            | (go_at_call 27; refine (D1.out _ (HV.out.below HB0.out)).mono ?_; rintro e w1 ⟨rfl, hb1⟩; have hz1 := Nat.lt_of_lt_of_le hz0 hb1.size; have c1a := (hb1.cell (p := ⟨w.heap.size, 0, none⟩) hz0).trans c0a; have c1b := (hb1.cell (p := ⟨w.heap.size, 1, none⟩) hz0).trans c0b; have c1c := (hb1.cell (p := ⟨w.heap.size, 2, none⟩) hz0).trans c0c))
          have hB2 := bthen (bthen HB0.out hb1) hb2
          have HB2 := Lib.hid hB2
          have c2a := (hb2.cell (p := ⟨w.heap.size, 0, none⟩) hz1).trans c1a
          have c2b := (hb2.cell (p := ⟨w.heap.size, 1, none⟩) hz1).trans c1b
          have c2c := (hb2.cell (p := ⟨w.heap.size, 2, none⟩) hz1).trans c1c
          have hz2 := Nat.lt_of_lt_of_le hz1 hb2.size
          clear hB2 c1a c1b c1c c0a c0b c0c hz0 hz1 hb1 hb2
          have hA1 : Below w2.heap.size w2 w2.drew := (Below.refl _ _).drew
          have hA2 : Below w2.heap.size w2 (w2.alloc (.cells #[.int .i64 f, .int .i64 t, .int .i64 l] 25)).drew := below_new w2 (.cells #[.int .i64 f, .int .i64 t, .int .i64 l] 25)
          have K1 := Lib.hid (show SI P3 w2.drew _ _ ∧ Below w.heap.size w w2.drew from ⟨(HV.out.below HB2.out).below hA1, bthen HB2.out hA1⟩)
          have K2 := Lib.hid (show SI P3 (w2.alloc (.cells #[.int .i64 f, .int .i64 t, .int .i64 l] 25)).drew _ _ ∧ Below w.heap.size w (w2.alloc (.cells #[.int .i64 f, .int .i64 t, .int .i64 l] 25)).drew from ⟨(HV.out.below HB2.out).below hA2, bthen HB2.out hA2⟩)
          have M1 := Lib.hid (show w2.drew.cell? ⟨w.heap.size, 0, none⟩ = some (.int .i64 f) ∧ w2.drew.cell? ⟨w.heap.size, 1, none⟩ = some (.int .i64 t) ∧ w2.drew.cell? ⟨w.heap.size, 2, none⟩ = some (.int .i64 l) from ⟨(hA1.cell (p := ⟨w.heap.size, 0, none⟩) hz2).trans c2a, (hA1.cell (p := ⟨w.heap.size, 1, none⟩) hz2).trans c2b, (hA1.cell (p := ⟨w.heap.size, 2, none⟩) hz2).trans c2c⟩)
          have M2 := Lib.hid (show (w2.alloc (.cells #[.int .i64 f, .int .i64 t, .int .i64 l] 25)).drew.cell? ⟨w.heap.size, 0, none⟩ = some (.int .i64 f) ∧ (w2.alloc (.cells #[.int .i64 f, .int .i64 t, .int .i64 l] 25)).drew.cell? ⟨w.heap.size, 1, none⟩ = some (.int .i64 t) ∧ (w2.alloc (.cells #[.int .i64 f, .int .i64 t, .int .i64 l] 25)).drew.cell? ⟨w.heap.size, 2, none⟩ = some (.int .i64 l) from ⟨(hA2.cell (p := ⟨w.heap.size, 0, none⟩) hz2).trans c2a, (hA2.cell (p := ⟨w.heap.size, 1, none⟩) hz2).trans c2b, (hA2.cell (p := ⟨w.heap.size, 2, none⟩) hz2).trans c2c⟩)
          have N2 := Lib.hid (show (w2.alloc (.cells #[.int .i64 f, .int .i64 t, .int .i64 l] 25)).drew.cell? ⟨w2.heap.size, 0, none⟩ = some (.int .i64 f) ∧ (w2.alloc (.cells #[.int .i64 f, .int .i64 t, .int .i64 l] 25)).drew.cell? ⟨w2.heap.size, 1, none⟩ = some (.int .i64 t) ∧ (w2.alloc (.cells #[.int .i64 f, .int .i64 t, .int .i64 l] 25)).drew.cell? ⟨w2.heap.size, 2, none⟩ = some (.int .i64 l) ∧ w2.heap.size < (w2.alloc (.cells #[.int .i64 f, .int .i64 t, .int .i64 l] 25)).drew.heap.size from ⟨cell3a w2 _ _ _ _, cell3b w2 _ _ _ _, cell3c w2 _ _ _ _, by simp⟩)
          go_wp2_with fail
          go_region_law (first
            | (refine step_appL (E := P3) (by rfl) _ _ 30 (by rfl) 25 i0 _ Tryd.underlying30 HI.out iz0 (by rfl) iz1 24 iz2 (by decide) w.heap.size _ xs (by rfl) (OS.below h1 ((Below.refl w5.heap.size w5).alloc (Nat.le_refl _) (.cells #[.int .i64 f, .int .i64 t, .int .i64 l] 25))) _ [(f, t, l)] (by rfl) (SI_one3 (by simp) (cell3a w5 (.int .i64 f) (.int .i64 t) (.int .i64 l) 25) (cell3b w5 (.int .i64 f) (.int .i64 t) (.int .i64 l) 25) (cell3c w5 (.int .i64 f) (.int .i64 t) (.int .i64 l) 25) HGf.out HGt.out HGl.out) (by simp; omega) (Nat.le_trans hb5.size ((Below.refl w5.heap.size w5).alloc (Nat.le_refl _) (.cells #[.int .i64 f, .int .i64 t, .int .i64 l] 25)).size) ?_; intro v6 w6 h3 h4; have hb6 := OS.step (OS.below h1 ((Below.refl w5.heap.size w5).alloc (Nat.le_refl _) (.cells #[.int .i64 f, .int .i64 t, .int .i64 l] 25))) (bthen hb5 ((Below.refl w5.heap.size w5).alloc (Nat.le_refl _) (.cells #[.int .i64 f, .int .i64 t, .int .i64 l] 25))) h4)
            | (refine step_appL (E := P3) (by rfl) _ _ 30 (by rfl) 25 i0 _ Tryd.underlying30 HI.out iz0 (by rfl) iz1 24 iz2 (by decide) w.heap.size _ xs (by rfl) h1 _ [(f, t, l)] (by rfl) (SI_one3 hbz q0 q1 q2 HGf.out HGt.out HGl.out) (by simp; omega) hb5.size ?_; intro v6 w6 h3 h4; have hb6 := OS.step h1 hb5 h4)
            | (go_simp; go_at_call 55; refine (cloneLoss_any _ xs w2.drew K1.out.1 (by omega)).mono ?_; rintro e w5 ⟨v5, rfl, h1, hbc⟩; replace h1 := OS.mono h1 K1.out.2.size; have hb5 := bthen K1.out.2 hbc; have hzz := Nat.lt_of_lt_of_le hz2 hA1.size; have d5a := (hbc.cell (p := ⟨w.heap.size, 0, none⟩) hzz).trans M1.out.1; have d5b := (hbc.cell (p := ⟨w.heap.size, 1, none⟩) hzz).trans M1.out.2.1; have d5c := (hbc.cell (p := ⟨w.heap.size, 2, none⟩) hzz).trans M1.out.2.2)
            | (go_simp; go_at_call 55; refine (cloneLoss_any _ xs (w2.alloc (.cells #[.int .i64 f, .int .i64 t, .int .i64 l] 25)).drew K2.out.1 (by omega)).mono ?_; rintro e w5 ⟨v5, rfl, h1, hbc⟩; replace h1 := OS.mono h1 K2.out.2.size; have hb5 := bthen K2.out.2 hbc; have hzz := Nat.lt_of_lt_of_le hz2 hA2.size; have d5a := (hbc.cell (p := ⟨w.heap.size, 0, none⟩) hzz).trans M2.out.1; have d5b := (hbc.cell (p := ⟨w.heap.size, 1, none⟩) hzz).trans M2.out.2.1; have d5c := (hbc.cell (p := ⟨w.heap.size, 2, none⟩) hzz).trans M2.out.2.2; have hbz := Nat.lt_of_lt_of_le N2.out.2.2.2 hbc.size; have q0 := (hbc.cell (p := ⟨w2.heap.size, 0, none⟩) N2.out.2.2.2).trans N2.out.1; have q1 := (hbc.cell (p := ⟨w2.heap.size, 1, none⟩) N2.out.2.2.2).trans N2.out.2.1; have q2 := (hbc.cell (p := ⟨w2.heap.size, 2, none⟩) N2.out.2.2.2).trans N2.out.2.2.1))
          all_goals
            have HS6 := Lib.hid (show OS P3 25 w6 w.heap.size v6 (xs ++ [(f, t, l)]) from h3)
            have HB6 := Lib.hid hb6
            clear h1 h3 h4 hb5 hb6 hbc hA1 hA2 d5a d5b d5c c2a c2b c2c
            try clear q0 q1 q2 hbz
            go_wp2_with (go_at_call 40; refine (D2.out _ _ HS6.out.si).mono ?_; rintro e w8 ⟨rfl, hb8⟩)
            go_ret2
            first
              | exact ⟨_, rfl, OS.nil _ _ _, bthen HB6.out hb8⟩
              | exact ⟨_, rfl, HS6.out.below hb8, bthen HB6.out hb8⟩
      · have hd20 : ((xs.length : Int) == 20) = true := by rw [beq_iff_eq]; omega
        rw [show valAdd n xs (f, t, l) = ([], 5) by simp [valAdd, h1, h2, h20]]
        clear C1 h1 h2
        go_enter Tryd.func20, Tryd.ntmps20
        go_wp2_with (first
          | (go_at_call 32; refine (isLoss_any n f t l w1).mono ?_; rintro e w2 ⟨rfl, hb2⟩; rw [HO.out])
          | (go_at_call 27; refine (D1.out _ (HV.out.below HB0.out)).mono ?_; rintro e w1 ⟨rfl, hb1⟩; have hz1 := Nat.lt_of_lt_of_le hz0 hb1.size; have c1a := (hb1.cell (p := ⟨w.heap.size, 0, none⟩) hz0).trans c0a; have c1b := (hb1.cell (p := ⟨w.heap.size, 1, none⟩) hz0).trans c0b; have c1c := (hb1.cell (p := ⟨w.heap.size, 2, none⟩) hz0).trans c0c))
        go_ret2
        exact ⟨_, rfl, OS.nil _ _ _, bthen (bthen HB0.out hb1) hb2⟩

end Go.Proofs.YtpgnndpjlcihiaaDoor
