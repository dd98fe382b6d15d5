/-
  Explains of the reference and of the program: what each returns.
-/
import Derived.Test.YtejnfngnofilfaaExit
import Derived.Test.YtejnfngnofilfaaTrials
import Derived.Deep.RegionHeld3
namespace Go.Proofs.Ytejnfngnofilfaa
open Go.RowKit

/-- Do stuck switches explain trials? -/
def explains (d : Int) (xs ts : List (Int × Int)) : Bool := ts.all fun t => runE d xs t.1 == t.2
def valExplains (d : Int) (xs ts : List (Int × Int)) : Bool × Int := if okStuck d xs && okTrials d ts then (explains d xs ts, 0) else (false, 1)

theorem okTrials_at {d : Int} {ts : List (Int × Int)} (h : okTrials d ts = true) {k : Nat} (hk : k < ts.length) : (0 ≤ (ts.getD k (0, 0)).1 ∧ (ts.getD k (0, 0)).1 ≤ 15) ∧ 0 ≤ (ts.getD k (0, 0)).2 ∧ (ts.getD k (0, 0)).2 ≤ 15 := by
  simp only [okTrials, Bool.and_eq_true, List.all_eq_true] at h
  have h1 := h.1.2 _ (List.getElem_mem hk)
  have h2 := (wrap_ex h.1.1).2.2.2
  simp only [List.getD, List.getElem?_eq_getElem hk, Option.getD_some]
  simp only [okTrial, inB, Bool.and_eq_true, decide_eq_true_eq] at h1
  omega

theorem l18Explains_any (d : Int) (v : Value) (xs : List (Int × Int)) (u : Value) (ts : List (Int × Int)) (w : World) (hv : SI P2 w v xs) (hu : SI P2 w u ts) (hok : okStuck d xs = true) (hot : okTrials d ts = true) :
    Calls Try.prog 86 #[.int .i64 d, v, u] w fun e w' => e = .returned (.bool (explains d xs ts)) ∧ Below w.heap.size w w' := by
  obtain ⟨a, cap, rfl⟩ := hu.shape
  have hl := hu.len
  have HV := Lib.hid hv
  have HU := Lib.hid hu
  have HK := Lib.hid hok
  have HT := Lib.hid hot
  clear hv hu hok hot
  go_enter Try.func86, Try.ntmps86
  go_wp2
  go_loopw [6, 7] (fun r i wr => ∃ k : Nat, k ≤ ts.length ∧ r = .bool false ∧ i = .int .i64 k ∧ Below w.heap.size w wr ∧ explains d xs (ts.take k) = true) (fun _ i _ => ts.length - (intOf i).toNat)
  case atStart => exact ⟨0, Nat.zero_le _, rfl, rfl, Below.refl _ _, rfl⟩
  case round =>
    obtain ⟨k, hk, rfl, rfl, hw, hall⟩ := hrel
    have HA := Lib.hid hall
    clear hall
    by_cases hlt : k < ts.length
    · obtain ⟨b, off, rfl, hb, hc⟩ := HU.out.cells2 (by omega)
      obtain ⟨g1, g2⟩ := hc k hlt
      replace g1 := (hw.cell (p := ⟨b, off + k * 2, none⟩) hb).trans g1
      replace g2 := (hw.cell (p := ⟨b, off + k * 2 + 1, none⟩) hb).trans g2
      obtain ⟨⟨x0, x1⟩, _⟩ := okTrials_at HT.out hlt
      have S1 := take_snocG (0, 0) ts k hlt
      have hmem : ts.getD k (0, 0) ∈ ts := by simp only [List.getD, List.getElem?_eq_getElem hlt, Option.getD_some]; exact List.getElem_mem hlt
      have hkx : (k : Int) < ts.length := by omega
      have hk0 : (0 : Int) ≤ k := by omega
      clear hc
      generalize ts.getD k (0, 0) = p at g1 g2 S1 hmem x0 x1
      obtain ⟨x, y⟩ := p
      simp only at g1 g2 x0 x1
      have HS := Lib.hid S1
      have HM := Lib.hid hmem
      clear S1 hmem
      have C1 := l18Run_any d v xs x
      generalize hr : runE d xs x = r at C1
      have HR := Lib.hid hr
      have HC := Lib.hid C1
      clear hr C1
      by_cases hxy : r = y
      · have hn : (r != y) = false := by simp [hxy]
        have HX := Lib.hid hxy
        clear hxy
        go_wp2_with fail
        go_quiet ((go_at_call 84; exact quiet_eq (HC.out _ (HV.out.below (below_drewN hw _)) HK.out x0 (by omega))))
        go_wp2
        go_roundw
        case rel => exact ⟨k + 1, by omega, rfl, by go_num, below_drewN hw _, by
            have h1 := HA.out
            unfold explains at h1 ⊢
            rw [HS.out, List.all_append, h1, List.all_cons, List.all_nil]
            simp [HR.out, HX.out]⟩
        case measure => simp [intOf]; omega
      · have hn : (r != y) = true := by simp [hxy]
        have HX := Lib.hid hxy
        clear hxy
        go_wp2_with fail
        go_quiet ((go_at_call 84; exact quiet_eq (HC.out _ (HV.out.below (below_drewN hw _)) HK.out x0 (by omega))))
        go_wp2
        go_ret
        refine ⟨ret_bool ?_, below_drewN hw _⟩
        symm
        rw [explains, List.all_eq_false]
        exact ⟨_, HM.out, by simp [HR.out]; exact HX.out⟩
    · have HE : Hid (explains d xs ts = true) := by have h1 := HA.out; rw [List.take_of_length_le (by omega)] at h1; exact h1
      go_wp2
      go_ret
      exact ⟨ret_bool HE.out.symm, hw⟩

theorem specExplains_any (d : Int) (v : Value) (xs : List (Int × Int)) (u : Value) (ts : List (Int × Int)) (w : World) (hv : SI P2 w v xs) (hu : SI P2 w u ts) :
    Calls Try.prog 48 #[.int .i64 d, v, u] w fun e w' => e = .returned (.tuple #[.bool (valExplains d xs ts).1, .int .i64 (valExplains d xs ts).2]) ∧ Below w.heap.size w w' := by
  have HV := Lib.hid hv
  have HU := Lib.hid hu
  have C1 := fun (W : World) (h : SI P2 W v xs) => l18Ok_any d v xs W h
  have C2 := fun (W : World) (h : SI P2 W u ts) => l18Trials_any d u ts W h
  clear hv hu
  cases h1 : okStuck d xs with
  | false =>
    rw [h1] at C1
    have D1 := Lib.hid C1
    have HE := Lib.hid (show valExplains d xs ts = (false, 1) by simp only [valExplains, h1]; rfl)
    clear C1 C2 h1
    go_enter Try.func48, Try.ntmps48
    go_wp2_with (go_at_call 58; refine (D1.out _ HV.out).mono ?_; rintro e w1 ⟨rfl, hb1⟩)
    go_ret2
    exact ⟨by rw [HE.out]; rfl, hb1⟩
  | true =>
    rw [h1] at C1
    have D1 := Lib.hid C1
    cases h2 : okTrials d ts with
    | false =>
      rw [h2] at C2
      have D2 := Lib.hid C2
      have HE := Lib.hid (show valExplains d xs ts = (false, 1) by simp only [valExplains, h1, h2]; rfl)
      clear C1 C2 h1 h2
      go_enter Try.func48, Try.ntmps48
      go_wp2_with (first | (go_at_call 58; refine (D1.out _ HV.out).mono ?_; rintro e w1 ⟨rfl, hb1⟩) | (go_at_call 68; refine (D2.out _ (HU.out.below hb1)).mono ?_; rintro e w2 ⟨rfl, hb2⟩))
      go_ret2
      exact ⟨by rw [HE.out]; rfl, bthen hb1 hb2⟩
    | true =>
      rw [h2] at C2
      have D2 := Lib.hid C2
      have HE := Lib.hid (show valExplains d xs ts = (explains d xs ts, 0) by simp only [valExplains, h1, h2]; rfl)
      have HK := Lib.hid h1
      have HT := Lib.hid h2
      clear C1 C2 h1 h2
      go_enter Try.func48, Try.ntmps48
      go_wp2_with (first | (go_at_call 58; refine (D1.out _ HV.out).mono ?_; rintro e w1 ⟨rfl, hb1⟩) | (go_at_call 68; refine (D2.out _ (HU.out.below hb1)).mono ?_; rintro e w2 ⟨rfl, hb2⟩) | (go_at_call 86; refine (l18Explains_any d v xs u ts _ (HV.out.below (bthen hb1 hb2)) (HU.out.below (bthen hb1 hb2)) HK.out HT.out).mono ?_; rintro e w3 ⟨rfl, hb3⟩))
      go_ret2
      exact ⟨by rw [HE.out]; rfl, bthen (bthen hb1 hb2) hb3⟩

theorem explains1_any (d : Int) (v : Value) (xs : List (Int × Int)) (x y : Int) (b1 b2 : Nat) (w : World) (h1 : w.cell? ⟨b1, 0, none⟩ = some (.int .i64 d)) (h2 : w.cell? ⟨b2, 0, none⟩ = some v) (l1 : b1 < w.heap.size) (l2 : b2 < w.heap.size)
    (hv : SI P2 w v xs) (hok : okStuck d xs = true) (x0 : 0 ≤ x) (x1 : x ≤ 9223372036854775807) :
    Calls Try.prog 87 #[.agg #[.int .i64 x, .int .i64 y], .pointer (some ⟨b1, 0, none⟩), .pointer (some ⟨b2, 0, none⟩)] w fun e w' => e = .returned (.bool (runE d xs x != y)) ∧ Below w.heap.size w w' := by
  obtain ⟨a, cap, rfl⟩ := hv.shape
  have HV := Lib.hid hv
  have HK := Lib.hid hok
  clear hv hok
  have C1 := fun (W : World) (h : SI P2 W (.slice a xs.length cap) xs) => exitOf_any d _ xs x W h HK.out x0 x1
  generalize runE d xs x = r at C1 ⊢
  have D1 := Lib.hid C1
  clear C1
  go_enter Try.func87, Try.ntmps87
  go_wp2_with fail
  have hbn := below_new w (.cells #[.int .i64 x, .int .i64 y] 60)
  have hne := cell_new2 w (.int .i64 x) (.int .i64 y) 60
  have c1 := (hbn.cell (p := ⟨b1, 0, none⟩) l1).trans h1
  have c2 := (hbn.cell (p := ⟨b2, 0, none⟩) l2).trans h2
  obtain ⟨c3, c4⟩ := hne
  have hsz : w.heap.size < (w.alloc (.cells #[.int .i64 x, .int .i64 y] 60)).drew.heap.size := by simp
  go_region_held3 (fun w' => w'.cell? ⟨b1, 0, none⟩ = some (.int .i64 d) ∧ w'.cell? ⟨b2, 0, none⟩ = some (.slice a xs.length cap) ∧ w'.cell? ⟨w.heap.size, 0, none⟩ = some (.int .i64 x) ∧ w'.cell? ⟨w.heap.size, 1, none⟩ = some (.int .i64 y))
    (first
      | go_keep
      | (go_split_ands
         refine ⟨?_, ?_, ?_, ?_⟩
         · (rw [hb2.cell (p := ⟨b1, 0, none⟩) (by simp; omega)]; assumption)
         · (rw [hb2.cell (p := ⟨b2, 0, none⟩) (by simp; omega)]; assumption)
         · (rw [hb2.cell (p := ⟨w.heap.size, 0, none⟩) (by simp)]; assumption)
         · (rw [hb2.cell (p := ⟨w.heap.size, 1, none⟩) (by simp)]; assumption)))
    ((go_at_call 78; refine (D1.out _ (HV.out.below hbn)).mono ?_; rintro e w2 ⟨rfl, hb2⟩))
  go_wp2_with fail
  go_ret
  exact ⟨rfl, bthen hbn hb2⟩

theorem explains_enters : ∀ args w, (callFunc 87 args).run Try.prog w = .ok (.enter 87 args) w := enters_of Try.func87 (by kernel_rfl) rfl

theorem explains_eq (d : Int) (xs ts : List (Int × Int)) : (!(ts.any fun t => runE d xs t.1 != t.2)) = explains d xs ts := by
  unfold explains
  induction ts with
  | nil => rfl
  | cons t ts ih => simp [List.all_cons, List.any_cons, ← ih, bne]

theorem implExplains_any (d : Int) (v : Value) (xs : List (Int × Int)) (u : Value) (ts : List (Int × Int)) (w : World) (hv : SI P2 w v xs) (hu : SI P2 w u ts) :
    Calls Try.prog 49 #[.int .i64 d, v, u] w fun e w' => e = .returned (.tuple #[.bool (valExplains d xs ts).1, .int .i64 (valExplains d xs ts).2]) ∧ Below w.heap.size w w' := by
  obtain ⟨a, cap, rfl⟩ := hv.shape
  have HV := Lib.hid hv
  have HU := Lib.hid hu
  have C1 := fun (W : World) (h : SI P2 W (.slice a xs.length cap) xs) => implValidStuck_any d _ xs W h
  have C2 := fun (W : World) (h : SI P2 W u ts) => implValidTrials_any d u ts W h
  clear hv hu
  have hmf : ∀ (fn : Fn) (first cap : Array Value) (w : World), (Instr.makeFunc fn first cap).run Try.prog w = .ok (.func fn first cap) w := fun _ _ _ _ => rfl
  have B2 : Below w.heap.size w ((w.alloc (.cells #[.int .i64 d] 2)).alloc (.cells #[.slice a xs.length cap] 25)) := ((Below.refl _ _).alloc (Nat.le_refl _) _).alloc (by simp) _
  cases h1 : okStuck d xs with
  | false =>
    rw [h1] at C1
    have D1 := Lib.hid C1
    have HE := Lib.hid (show valExplains d xs ts = (false, 1) by simp only [valExplains, h1]; rfl)
    clear C1 C2 h1
    go_enter Try.func49, Try.ntmps49
    go_wp2_with (go_at_call 19; refine (D1.out _ (HV.out.below B2)).mono ?_; rintro e w1 ⟨rfl, hb1⟩)
    go_ret2
    exact ⟨by rw [HE.out]; rfl, bthen B2 hb1⟩
  | true =>
    rw [h1] at C1
    have D1 := Lib.hid C1
    have HK := Lib.hid h1
    cases h2 : okTrials d ts with
    | false =>
      rw [h2] at C2
      have D2 := Lib.hid C2
      have HE := Lib.hid (show valExplains d xs ts = (false, 1) by simp only [valExplains, h1, h2]; rfl)
      clear C1 C2 h1 h2
      go_enter Try.func49, Try.ntmps49
      go_wp2_with fail
      refine (D1.out _ (HV.out.below B2)).mono ?_
      rintro e w1 ⟨rfl, hb1⟩
      have c1 := (hb1.cell (p := ⟨w.heap.size, 0, none⟩) (by simp; omega)).trans (cell_alloc2a _ _ _ _ _)
      go_wp2_with fail
      refine (D2.out _ (HU.out.below (bthen B2 hb1))).mono ?_
      rintro e w2 ⟨rfl, hb2⟩
      go_wp2
      go_ret2
      exact ⟨by rw [HE.out]; rfl, bthen (bthen B2 hb1) hb2⟩
    | true =>
      rw [h2] at C2
      have D2 := Lib.hid C2
      have HT := Lib.hid h2
      have HE := Lib.hid (show valExplains d xs ts = (explains d xs ts, 0) by simp only [valExplains, h1, h2]; rfl)
      clear C1 C2 h1 h2
      go_enter Try.func49, Try.ntmps49
      go_wp2_with fail
      refine (D1.out _ (HV.out.below B2)).mono ?_
      rintro e w1 ⟨rfl, hb1⟩
      have c1 := (hb1.cell (p := ⟨w.heap.size, 0, none⟩) (by simp; omega)).trans (cell_alloc2a _ _ _ _ _)
      have c2 := (hb1.cell (p := ⟨w.heap.size + 1, 0, none⟩) (by simp)).trans (cell_alloc2b _ _ _ _ _)
      have z1 : w.heap.size + 1 < w1.heap.size := Nat.lt_of_lt_of_le (by simp) hb1.size
      go_wp2_with fail
      refine (D2.out _ (HU.out.below (bthen B2 hb1))).mono ?_
      rintro e w2 ⟨rfl, hb2⟩
      have k1 := (hb2.cell (p := ⟨w.heap.size, 0, none⟩) (by simp; omega)).trans c1
      have k2 := (hb2.cell (p := ⟨w.heap.size + 1, 0, none⟩) (by simp; omega)).trans c2
      have z2 : w.heap.size + 1 < w2.heap.size := Nat.lt_of_lt_of_le z1 hb2.size
      have B5 := bthen (bthen B2 hb1) hb2
      clear c1 c2
      go_wp2_with fail
      refine (containsTrial_any 87 _ (fun t => runE d xs t.1 != t.2) _ ts _ explains_enters ?_ (HU.out.below B5)).mono ?_
      · intro W x y hW hm _ _
        obtain ⟨i, hi, hxy⟩ := List.getElem_of_mem hm
        have hr := (okTrials_at HT.out hi).1
        simp only [List.getD, List.getElem?_eq_getElem hi, Option.getD_some, hxy] at hr
        refine (explains1_any d (.slice a xs.length cap) xs x y w.heap.size (w.heap.size + 1) W ?_ ?_ ?_ ?_ (HV.out.below (bthen B5 hW)) HK.out hr.1 (by omega)).mono fun e w' ⟨he, hb'⟩ => ⟨he, bthen hW hb'⟩
        · exact (hW.cell (p := ⟨w.heap.size, 0, none⟩) (by simp; omega)).trans k1
        · exact (hW.cell (p := ⟨w.heap.size + 1, 0, none⟩) (by simp; omega)).trans k2
        · exact Nat.lt_of_lt_of_le (by omega) hW.size
        · exact Nat.lt_of_lt_of_le (by omega) hW.size
      · rintro e w' ⟨rfl, hb'⟩
        go_wp2
        go_ret2
        exact ⟨by rw [HE.out, ← explains_eq]; rfl, bthen B5 hb'⟩

end Go.Proofs.Ytejnfngnofilfaa
