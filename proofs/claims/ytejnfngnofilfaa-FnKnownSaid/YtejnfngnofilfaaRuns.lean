/-
  RunTrials of the reference and of the program: what each returns.
-/
import Derived.Test.YtejnfngnofilfaaExit
import Derived.Test.YtejnfngnofilfaaSlices
import Derived.Deep.RegionHeld3
namespace Go.Proofs.Ytejnfngnofilfaa
open Go.RowKit

/-- The trials of addresses. -/
def runs (d : Int) (xs : List (Int × Int)) (ys : List Int) : List (Int × Int) := ys.map fun a => (a, runE d xs a)
def okAddr (d : Int) (ys : List Int) : Bool := ys.all (inB 0 (ex d - 1)) && decide (ys.length ≤ 16)
def valRuns (d : Int) (xs : List (Int × Int)) (ys : List Int) : List (Int × Int) × Int :=
  if okStuck d xs then (if okAddr d ys then (runs d xs ys, 0) else ([], 2)) else ([], 1)

theorem infoTrial2 : (Try.prog.info? 60).map (fun i => (i.zero, i.size, i.bytes)) = some (some (.agg #[.int .i64 0, .int .i64 0]), 2, 16) := by kernel_rfl

theorem runs_snoc (d : Int) (xs : List (Int × Int)) (ys : List Int) (k : Nat) (h : k < ys.length) : runs d xs (ys.take (k + 1)) = runs d xs (ys.take k) ++ [(ys.getD k 0, runE d xs (ys.getD k 0))] := by
  rw [take_snoc ys k h]; simp [runs]

theorem valRuns_len (d : Int) (xs : List (Int × Int)) (ys : List Int) : (valRuns d xs ys).1.length ≤ 16 := by
  unfold valRuns
  split
  · split
    · rename_i h; simp [okAddr] at h; simp [runs]; exact h.2
    · simp
  · simp

theorem okAddr_at {d : Int} {ys : List Int} (h : okAddr d ys = true) (hd : inB 1 4 d = true) {k : Nat} (hk : k < ys.length) : 0 ≤ ys.getD k 0 ∧ ys.getD k 0 ≤ 15 := by
  simp only [okAddr, Bool.and_eq_true, List.all_eq_true] at h
  have h1 := h.1 _ (List.getElem_mem hk)
  have h2 := (wrap_ex hd).2.2.2
  simp only [List.getD, List.getElem?_eq_getElem hk, Option.getD_some]
  simp only [inB, Bool.and_eq_true, decide_eq_true_eq] at h1
  omega

theorem implRunTrials_any (d : Int) (v : Value) (xs : List (Int × Int)) (u : Value) (ys : List Int) (w : World) (hv : SI P2 w v xs) (hu : RI w u ys) :
    Calls Try.prog 35 #[.int .i64 d, v, u] w fun e w' => ∃ v', e = .returned (.tuple #[v', .int .i64 (valRuns d xs ys).2]) ∧ OS P2 60 w' w.heap.size v' (valRuns d xs ys).1 ∧ Below w.heap.size w w' := by
  obtain ⟨a, cap, rfl⟩ := hu.shape
  have hl := hu.len
  have HV := Lib.hid hv
  have HU := Lib.hid hu
  have C1 := implValidStuck_any d v xs w hv
  clear hv hu
  cases h1 : okStuck d xs with
  | false =>
    rw [h1] at C1
    have D1 := Lib.hid C1
    have HE := Lib.hid (show valRuns d xs ys = ([], 1) by simp only [valRuns, h1]; rfl)
    clear C1 h1
    go_enter Try.func35, Try.ntmps35
    go_wp2_with (go_at_call 19; refine D1.out.mono ?_; rintro e w1 ⟨rfl, hb1⟩)
    go_ret2
    exact ⟨_, by rw [HE.out]; rfl, by rw [HE.out]; exact OS.nil _ _ _, hb1⟩
  | true =>
    rw [h1] at C1
    have D1 := Lib.hid C1
    have HK := Lib.hid h1
    have hd := okStuck_depth h1
    have HD := Lib.hid hd
    have hdd : 1 ≤ d ∧ d ≤ 4 := by simpa [inB] using hd
    obtain ⟨d1, d2⟩ := hdd
    obtain ⟨e1, e2, e3, e4⟩ := wrap_ex hd
    have E1 := Lib.hid e1
    have E2 := Lib.hid e2
    clear hd e1 e2
    by_cases h16 : ys.length ≤ 16
    · have hd2 : decide ((16 : Int) < ys.length) = false := by rw [decide_eq_false_iff_not]; omega
      have C2 := fun (W : World) (h : RI W (.slice a ys.length cap) ys) => outside_any _ ys 0 (ex d - 1) W h
      have hany : ys.any (fun n => !inB 0 (ex d - 1) n) = !okAddr d ys := by
        rw [okAddr, show decide (ys.length ≤ 16) = true by simpa using h16, Bool.and_true]
        clear C2 hd2 h16 C1 D1 HU hl
        induction ys with
        | nil => rfl
        | cons x ys ih => simp [List.all_cons, List.any_cons, ih]
      rw [hany] at C2
      clear hany
      cases h2 : okAddr d ys with
      | false =>
        rw [h2] at C2
        have D2 := Lib.hid C2
        have HE := Lib.hid (show valRuns d xs ys = ([], 2) by simp only [valRuns, h1, h2]; rfl)
        clear C1 C2 h1 h2
        go_enter Try.func35, Try.ntmps35
        go_wp2_with fail
        refine D1.out.mono ?_
        rintro e w1 ⟨rfl, hb1⟩
        go_wp2_with fail
        rw [E1.out, E2.out]
        refine (D2.out _ (HU.out.below hb1)).mono ?_
        rintro e w2 ⟨rfl, hb2⟩
        go_wp2
        go_ret2
        exact ⟨_, by rw [HE.out]; rfl, by rw [HE.out]; exact OS.nil _ _ _, bthen hb1 hb2⟩
      | true =>
        rw [h2] at C2
        have D2 := Lib.hid C2
        have HA := Lib.hid h2
        have HE := Lib.hid (show valRuns d xs ys = (runs d xs ys, 0) by simp only [valRuns, h1, h2]; rfl)
        clear C1 C2 h1 h2
        obtain ⟨i0, hi, hz0, hz1, hz2⟩ := info_parts infoTrial2
        have HI := Lib.hid hi
        clear hi
        go_enter Try.func35, Try.ntmps35
        go_wp2_with fail
        refine D1.out.mono ?_
        rintro e w1 ⟨rfl, hb1⟩
        go_wp2_with fail
        rw [E1.out, E2.out]
        refine (D2.out _ (HU.out.below hb1)).mono ?_
        rintro e w2 ⟨rfl, hb2⟩
        have B2 := bthen hb1 hb2
        clear hb1 hb2
        go_wp2_with fail
        go_loopw [8, 31] (fun vo i wr => ∃ (k : Nat) (o : Value), k ≤ ys.length ∧ vo = o ∧ i = .int .i64 k ∧ Below w.heap.size w wr ∧ OS P2 60 wr w.heap.size o (runs d xs (ys.take k))) (fun _ i _ => ys.length - (intOf i).toNat)
        case atStart => exact ⟨0, _, Nat.zero_le _, rfl, rfl, B2.alloc B2.size _, OS.lit0 _ _ _ B2.size⟩
        case round =>
          obtain ⟨k, o, hk, rfl, rfl, hw, ho⟩ := hrel
          have HO := Lib.hid ho
          clear ho
          by_cases hlt : k < ys.length
          · obtain ⟨b, off, rfl, hb, hc⟩ := HU.out.cells (by omega)
            have g1 := (hw.cell (p := ⟨b, off + k, none⟩) hb).trans (hc k hlt)
            obtain ⟨x0, x1⟩ := okAddr_at HA.out HD.out hlt
            have S1 := runs_snoc d xs ys k hlt
            clear hc
            generalize ys.getD k 0 = x at g1 x0 x1 S1
            have hrb := runE_bound HK.out x
            have C3 := fun (W : World) (h : SI P2 W v xs) => exitOf_any d v xs x W h HK.out x0 (by omega)
            generalize runE d xs x = r at C3 S1 hrb
            obtain ⟨r0, r1⟩ := hrb
            have D3 := Lib.hid C3
            have HS := Lib.hid S1
            clear C3 S1
            have HLen : (runs d xs (ys.take k)).length ≤ 16 := by simp [runs]; omega
            go_wp2_with fail
            refine (D3.out _ (HV.out.below hw)).mono ?_
            rintro e w3 ⟨rfl, hb3⟩
            have hw3 := bthen hw hb3
            have HO3 := Lib.hid (HO.out.below hb3)
            go_wp2_with (at_builtin; refine wpList_appS (E := P2) rfl _ _ 38 rfl 60 _ i0 _ Try.underlying38 HI.out hz0 rfl hz1 16 hz2 (by decide) w.heap.size _ _ rfl HO3.out (x, r) _ rfl _ (by simp) rfl ?_ ?_ hw3.size ?_)
            · intro y hy; simp [P2] at hy; unfold Good; omega
            · omega
            · intro v9 w9 h1 h2 _
              have hb9 := HO3.out.step hw3 h2
              have H9 := Lib.hid h1
              clear h1 h2
              go_wp2_with fail
              go_roundw
              case rel => exact ⟨k + 1, v9, by omega, rfl, by go_num, hb9, by rw [HS.out]; exact H9.out⟩
              case measure => simp [intOf]; omega
          · go_wp2
            go_ret2
            have h3 := HO.out
            rw [List.take_of_length_le (by omega)] at h3
            exact ⟨_, by rw [HE.out]; rfl, by rw [HE.out]; exact h3, hw⟩
    · have hd2 : decide ((16 : Int) < ys.length) = true := by rw [decide_eq_true_iff]; omega
      have hd3 : okAddr d ys = false := by simp [okAddr]; intro _; omega
      have HE := Lib.hid (show valRuns d xs ys = ([], 2) by simp only [valRuns, h1, hd3]; rfl)
      clear C1 h1 hd3
      go_enter Try.func35, Try.ntmps35
      go_wp2_with (go_at_call 19; refine D1.out.mono ?_; rintro e w1 ⟨rfl, hb1⟩)
      go_ret2
      exact ⟨_, by rw [HE.out]; rfl, by rw [HE.out]; exact OS.nil _ _ _, hb1⟩

set_option maxRecDepth 100000 in
theorem specRunTrials_any (d : Int) (v : Value) (xs : List (Int × Int)) (u : Value) (ys : List Int) (w : World) (hv : SI P2 w v xs) (hu : RI w u ys) :
    Calls Try.prog 51 #[.int .i64 d, v, u] w fun e w' => ∃ v', e = .returned (.tuple #[v', .int .i64 (valRuns d xs ys).2]) ∧ OS P2 60 w' w.heap.size v' (valRuns d xs ys).1 ∧ Below w.heap.size w w' := by
  obtain ⟨a, cap, rfl⟩ := hu.shape
  have hl := hu.len
  have HV := Lib.hid hv
  have HU := Lib.hid hu
  have C1 := l18Ok_any d v xs w hv
  clear hv hu
  cases h1 : okStuck d xs with
  | false =>
    rw [h1] at C1
    have D1 := Lib.hid C1
    have HE := Lib.hid (show valRuns d xs ys = ([], 1) by simp only [valRuns, h1]; rfl)
    clear C1 h1
    go_enter Try.func51, Try.ntmps51
    go_wp2_with (go_at_call 58; refine D1.out.mono ?_; rintro e w1 ⟨rfl, hb1⟩)
    go_ret2
    exact ⟨_, by rw [HE.out]; rfl, by rw [HE.out]; exact OS.nil _ _ _, hb1⟩
  | true =>
    rw [h1] at C1
    have D1 := Lib.hid C1
    have HK := Lib.hid h1
    have hd := okStuck_depth h1
    have HD := Lib.hid hd
    have hval : valRuns d xs ys = if okAddr d ys then (runs d xs ys, 0) else ([], 2) := by simp only [valRuns, h1]; rfl
    have HVal := Lib.hid hval
    obtain ⟨_, _, e3, e4⟩ := wrap_ex hd
    clear C1 h1 hd hval
    obtain ⟨i0, hi, hz0, hz1, hz2⟩ := info_parts infoTrial2
    have HI := Lib.hid hi
    clear hi
    go_enter Try.func51, Try.ntmps51
    go_wp2_with (go_at_call 58; refine D1.out.mono ?_; rintro e w1 ⟨rfl, hb1⟩)
    go_loopw [6, 7, 8] (fun r1 r2 i wr => ∃ k : Nat, k ≤ ys.length ∧ r1 = .slice none 0 0 ∧ r2 = .int .i64 0 ∧ i = .int .i64 k ∧ Below w.heap.size w wr ∧ (ys.take k).all (inB 0 (ex d - 1)) = true) (fun _ _ i _ => ys.length - (intOf i).toNat)
    case atStart => exact ⟨0, Nat.zero_le _, rfl, rfl, rfl, hb1, rfl⟩
    case round =>
      obtain ⟨k, hk, rfl, rfl, rfl, hw, hall⟩ := hrel
      have HA := Lib.hid hall
      clear hall
      by_cases hlt : k < ys.length
      · obtain ⟨b, off, rfl, hb, hc⟩ := HU.out.cells (by omega)
        have g1 := (hw.cell (p := ⟨b, off + k, none⟩) hb).trans (hc k hlt)
        have S1 := take_snoc ys k hlt
        have hmem : ys.getD k 0 ∈ ys := by simp only [List.getD, List.getElem?_eq_getElem hlt, Option.getD_some]; exact List.getElem_mem hlt
        clear hc
        generalize ys.getD k 0 = x at g1 S1 hmem
        have HS := Lib.hid S1
        have HM := Lib.hid hmem
        clear S1 hmem
        cases hx : inB 0 (ex d - 1) x with
        | true =>
          go_wp2_with (go_at_call 64; refine (l18Exit_any _ _ _ HD.out).mono ?_; rintro e w' ⟨rfl, rfl⟩; rw [hx])
          go_roundw
          case rel => exact ⟨k + 1, by omega, rfl, rfl, by go_num, hw, by rw [HS.out, List.all_append, HA.out]; simp [hx]⟩
          case measure => simp [intOf]; omega
        | false =>
          have hno : okAddr d ys = false := by
            have : ys.all (inB 0 (ex d - 1)) = false := by rw [List.all_eq_false]; exact ⟨x, HM.out, by simp [hx]⟩
            simp [okAddr, this]
          have HE : Hid (valRuns d xs ys = ([], 2)) := by rw [HVal.out, hno]; rfl
          clear hno
          go_wp2_with (go_at_call 64; refine (l18Exit_any _ _ _ HD.out).mono ?_; rintro e w' ⟨rfl, rfl⟩; rw [hx])
          go_ret2
          exact ⟨_, by rw [HE.out]; rfl, by rw [HE.out]; exact OS.nil _ _ _, hw⟩
      · have hall2 : ys.all (inB 0 (ex d - 1)) = true := by have h1 := HA.out; rwa [List.take_of_length_le (by omega)] at h1
        by_cases h16 : ys.length ≤ 16
        · have hd2 : decide ((16 : Int) < ys.length) = false := by rw [decide_eq_false_iff_not]; omega
          have hoa : okAddr d ys = true := by simp only [okAddr, hall2, Bool.true_and, decide_eq_true_eq]; exact h16
          have HAA := Lib.hid hoa
          have HE : Hid (valRuns d xs ys = (runs d xs ys, 0)) := by rw [HVal.out, hoa]; rfl
          clear hoa hall2
          go_wp2_with fail
          go_loopw [9, 10] (fun vo i wr => ∃ (k : Nat) (o : Value), k ≤ ys.length ∧ vo = o ∧ i = .int .i64 k ∧ Below w.heap.size w wr ∧ OS P2 60 wr w.heap.size o (runs d xs (ys.take k))) (fun _ i _ => ys.length - (intOf i).toNat)
          case atStart => exact ⟨0, _, Nat.zero_le _, rfl, rfl, hw.alloc hw.size _, OS.lit0 _ _ _ hw.size⟩
          case round =>
            obtain ⟨k, o, hk, rfl, rfl, hw, ho⟩ := hrel
            have HO := Lib.hid ho
            clear ho
            by_cases hlt : k < ys.length
            · obtain ⟨b, off, rfl, hb, hc⟩ := HU.out.cells (by omega)
              have g1 := (hw.cell (p := ⟨b, off + k, none⟩) hb).trans (hc k hlt)
              obtain ⟨x0, x1⟩ := okAddr_at HAA.out HD.out hlt
              have S1 := runs_snoc d xs ys k hlt
              have hkx : (k : Int) < ys.length := by omega
              have hk0 : (0 : Int) ≤ k := by omega
              clear hc
              generalize ys.getD k 0 = x at g1 x0 x1 S1
              have hrb := runE_bound HK.out x
              have C3 := fun (W : World) (h : SI P2 W v xs) => l18Run_any d v xs x W h HK.out x0 (by omega)
              generalize runE d xs x = r at C3 S1 hrb
              obtain ⟨r0, r1⟩ := hrb
              have D3 := Lib.hid C3
              have HS := Lib.hid S1
              clear C3 S1
              have HLen : (runs d xs (ys.take k)).length ≤ 16 := by simp [runs]; omega
              have hGx : Good x := by unfold Good; omega
              have hGr : Good r := by unfold Good; omega
              have HGx := Lib.hid hGx
              have HGr := Lib.hid hGr
              clear hGx hGr
              have hz := hw.size
              go_wp2_with fail
              go_region_held3 (fun w' => w'.cell? ⟨b, off + k, none⟩ = some (.int .i64 x))
                (first
                  | go_keep
                  | (rw [cell_older2 hown0 hgrow (by simp; omega) (by omega)]; assumption))
                (first
                  | (go_at_call 84; refine (D3.out _ (HV.out.below hw.drew)).mono ?_; rintro e w' ⟨rfl, rfl⟩)
                  | (have hown0 := HO.out.below (below_new wr (.cells #[.int .i64 x, .int .i64 r] 60)); refine step_app2 (W := (wr.alloc (.cells #[.int .i64 x, .int .i64 r] 60)).drew) rfl _ _ 38 rfl 60 i0 _ Try.underlying38 HI.out hz0 rfl hz1 hz2 w.heap.size _ (runs d xs (ys.take k)) rfl hown0 wr.heap.size x r rfl (cell_new2 _ _ _ _).1 (cell_new2 _ _ _ _).2 HGx.out HGr.out (by omega) (by simp; omega) ?_; intro v2 w2 hown1 hgrow))
              have hb2 := hown0.step (bthen hw (below_new wr _)) hgrow
              have H1 := Lib.hid hown1
              clear hown1 hown0 hgrow
              go_wp2_with fail
              go_roundw
              case rel => exact ⟨k + 1, v2, by omega, rfl, by go_num, hb2, by rw [HS.out]; exact H1.out⟩
              case measure => simp [intOf]; omega
            · go_wp2
              go_ret2
              have h3 := HO.out
              rw [List.take_of_length_le (by omega)] at h3
              exact ⟨_, by rw [HE.out]; rfl, by rw [HE.out]; exact h3, hw⟩
        · have hd2 : decide ((16 : Int) < ys.length) = true := by rw [decide_eq_true_iff]; omega
          have hd3 : okAddr d ys = false := by simp [okAddr]; intro _; omega
          have HE : Hid (valRuns d xs ys = ([], 2)) := by rw [HVal.out, hd3]; rfl
          clear hd3 hall2
          go_wp2
          go_ret2
          exact ⟨_, by rw [HE.out]; rfl, by rw [HE.out]; exact OS.nil _ _ _, hw⟩

end Go.Proofs.Ytejnfngnofilfaa
