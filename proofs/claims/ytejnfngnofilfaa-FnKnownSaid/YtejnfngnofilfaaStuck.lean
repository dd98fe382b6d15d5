/-
  ValidStuck and ValidTrials of the reference and of the program: what each returns.
-/
import Derived.Test.YtejnfngnofilfaaRec
import Derived.Test.YtejnfngnofilfaaBase
import Derived.IntWalk
namespace Go.Proofs.Ytejnfngnofilfaa
open Go.RowKit

/-- The number of exits of a depth. -/
def ex (d : Int) : Int := 2 ^ d.toNat

theorem depth_cases {d : Int} (h : inB 1 4 d = true) : d = 1 ∨ d = 2 ∨ d = 3 ∨ d = 4 := by
  simp [inB] at h; omega

theorem l18Depth_any (n : Int) (w : World) : Calls Try.prog 63 #[.int .i64 n] w fun e w' => e = .returned (.bool (inB 1 4 n)) ∧ w = w' := by
  go_enter Try.func63, Try.ntmps63
  go_wp2_with (go_at_call 91; refine (l00In_any _ _ _ _).mono ?_; rintro e w' ⟨rfl, rfl⟩)
  go_ret
  exact ⟨rfl, rfl⟩

theorem isDepth_any (n : Int) (w : World) : Calls Try.prog 60 #[.int .i64 n] w fun e w' => e = .returned (.bool (inB 1 4 n)) ∧ w = w' := by
  go_enter Try.func60, Try.ntmps60
  go_wp2_with (go_at_call 61; refine (within_any _ _ _ _).mono ?_; rintro e w' ⟨rfl, rfl⟩)
  go_ret
  exact ⟨rfl, rfl⟩

theorem l18Exits_any (n : Int) (w : World) (h : inB 1 4 n = true) : Calls Try.prog 76 #[.int .i64 n] w fun e w' => e = .returned (.int .i64 (ex n)) ∧ w = w' := by
  rcases depth_cases h with rfl | rfl | rfl | rfl
  all_goals
    clear h
    go_enter Try.func76, Try.ntmps76
    go_wp2
    go_ret
    exact ⟨rfl, rfl⟩

theorem wrap_ex {d : Int} (h : inB 1 4 d = true) : wrap64 (2 ^ d.toNat) = ex d ∧ wrap64 (ex d - 1) = ex d - 1 ∧ 2 ≤ ex d ∧ ex d ≤ 16 := by
  rcases depth_cases h with rfl | rfl | rfl | rfl <;> exact ⟨by kernel_rfl, by kernel_rfl, by decide +kernel, by decide +kernel⟩

theorem isExit_any (d n : Int) (w : World) (h : inB 1 4 d = true) : Calls Try.prog 66 #[.int .i64 d, .int .i64 n] w fun e w' => e = .returned (.bool (inB 0 (ex d - 1) n)) ∧ w = w' := by
  have h1 : 1 ≤ d ∧ d ≤ 4 := by simpa [inB] using h
  obtain ⟨h2, h3⟩ := h1
  have HW := Lib.hid (wrap_ex h)
  clear h
  go_enter Try.func66, Try.ntmps66
  go_wp2_with fail
  rw [HW.out.1, HW.out.2.1]
  refine (within_any _ _ _ _).mono ?_
  rintro e w' ⟨rfl, rfl⟩
  go_wp2
  go_ret
  exact ⟨rfl, rfl⟩

theorem l18Exit_any (d n : Int) (w : World) (h : inB 1 4 d = true) : Calls Try.prog 64 #[.int .i64 d, .int .i64 n] w fun e w' => e = .returned (.bool (inB 0 (ex d - 1) n)) ∧ w = w' := by
  have HW := Lib.hid (wrap_ex h)
  have HH := Lib.hid h
  have h2 := (wrap_ex h).2.2.1
  have h3 := (wrap_ex h).2.2.2
  clear h
  go_enter Try.func64, Try.ntmps64
  go_wp2_with fail
  refine (l18Exits_any _ _ HH.out).mono ?_
  rintro e w' ⟨rfl, rfl⟩
  go_wp2_with fail
  refine (l00In_any _ _ _ _).mono ?_
  rintro e w' ⟨rfl, rfl⟩
  go_wp2
  go_ret
  exact ⟨rfl, rfl⟩

/-- Is the i-th stuck switch valid beside the one before it? -/
def okS (d : Int) (xs : List (Int × Int)) (i : Nat) : Bool :=
  inB 1 (ex d - 1) (xs.getD i (0, 0)).1 && inB 0 1 (xs.getD i (0, 0)).2 && (decide (i = 0) || decide ((xs.getD (i - 1) (0, 0)).1 < (xs.getD i (0, 0)).1))
def okStuck (d : Int) (xs : List (Int × Int)) : Bool := inB 1 4 d && (List.range xs.length).all (okS d xs)

theorem okStuck_no {d : Int} {xs : List (Int × Int)} {k : Nat} (hk : k < xs.length) (h : okS d xs k = false) : okStuck d xs = false := by
  have : (List.range xs.length).all (okS d xs) = false := by
    rw [List.all_eq_false]; exact ⟨k, List.mem_range.2 hk, by simp [h]⟩
  simp [okStuck, this]
theorem okStuck_yes {d : Int} {xs : List (Int × Int)} (h : ∀ j, j < xs.length → okS d xs j = true) (hd : inB 1 4 d = true) : okStuck d xs = true := by
  have : (List.range xs.length).all (okS d xs) = true := by
    rw [List.all_eq_true]; intro j hj; exact h j (List.mem_range.1 hj)
  simp [okStuck, this, hd]

theorem l18Ok_any (d : Int) (v : Value) (xs : List (Int × Int)) (w : World) (hv : SI P2 w v xs) :
    Calls Try.prog 58 #[.int .i64 d, v] w fun e w' => e = .returned (.bool (okStuck d xs)) ∧ Below w.heap.size w w' := by
  obtain ⟨a, cap, rfl⟩ := hv.shape
  have hl := hv.len
  have HV := Lib.hid hv
  clear hv
  cases hd : inB 1 4 d with
  | false =>
    go_enter Try.func58, Try.ntmps58
    go_wp2_with (go_at_call 63; refine (l18Depth_any _ _).mono ?_; rintro e w' ⟨rfl, rfl⟩)
    go_ret
    exact ⟨ret_bool (by simp [okStuck, hd]), Below.refl _ _⟩
  | true =>
    have HD := Lib.hid hd
    obtain ⟨_, e2, e3, e4⟩ := wrap_ex hd
    have E2 := Lib.hid e2
    clear e2
    go_enter Try.func58, Try.ntmps58
    go_wp2_with (go_at_call 63; refine (l18Depth_any _ _).mono ?_; rintro e w' ⟨rfl, rfl⟩)
    clear hd
    go_loopw [4, 5] (fun r i wr => ∃ k : Nat, k ≤ xs.length ∧ r = .bool false ∧ i = .int .i64 k ∧ Below w.heap.size w wr ∧ ∀ j, j < k → okS d xs j = true) (fun _ i _ => xs.length - (intOf i).toNat)
    case atStart => exact ⟨0, Nat.zero_le _, rfl, rfl, Below.refl _ _, fun j hj => absurd hj (Nat.not_lt_zero _)⟩
    case round =>
      obtain ⟨k, hk, rfl, rfl, hw, hall⟩ := hrel
      have HA := Lib.hid hall
      clear hall
      by_cases hlt : k < xs.length
      · obtain ⟨b, off, rfl, hb, hc⟩ := HV.out.cells2 (by omega)
        obtain ⟨g1, g2⟩ := hc k hlt
        replace g1 := (hw.cell (p := ⟨b, off + k * 2, none⟩) hb).trans g1
        replace g2 := (hw.cell (p := ⟨b, off + k * 2 + 1, none⟩) hb).trans g2
        have hok : okS d xs k = (inB 1 (ex d - 1) (xs.getD k (0, 0)).1 && inB 0 1 (xs.getD k (0, 0)).2 && (decide (k = 0) || decide ((xs.getD (k - 1) (0, 0)).1 < (xs.getD k (0, 0)).1))) := rfl
        have hkx : (k : Int) < xs.length := by omega
        have hk0 : (0 : Int) ≤ k := by omega
        generalize xs.getD k (0, 0) = p at g1 g2 hok
        obtain ⟨x, y⟩ := p
        simp only at g1 g2 hok
        cases h1 : inB 1 (ex d - 1) x with
        | false =>
          have HN := Lib.hid (okStuck_no hlt (hok.trans (by simp [h1])))
          clear hok hc
          go_wp2_with fail
          have e2 := E2.out
          go_quiet ((first | (go_at_call 76; exact quiet_eq (l18Exits_any _ _ HD.out)) | (go_at_call 91; exact quiet_eq (l00In_any _ _ _ _))))
          clear e2
          go_wp2
          go_ret
          exact ⟨ret_bool HN.out.symm, below_drewN hw _⟩
        | true =>
          cases h2 : inB 0 1 y with
          | false =>
            have HN := Lib.hid (okStuck_no hlt (hok.trans (by simp [h2])))
            clear hok hc
            go_wp2_with fail
            have e2 := E2.out
            go_quiet ((first | (go_at_call 76; exact quiet_eq (l18Exits_any _ _ HD.out)) | (go_at_call 91; exact quiet_eq (l00In_any _ _ _ _))))
            clear e2
            go_wp2
            go_ret
            exact ⟨ret_bool HN.out.symm, below_drewN hw _⟩
          | true =>
            by_cases hk1 : k = 0
            · have hk2 : decide ((0 : Int) < k) = false := by rw [decide_eq_false_iff_not]; omega
              have hk3 : decide (0 < k) = false := by rw [decide_eq_false_iff_not]; omega
              have hn : okS d xs k = true := hok.trans (by simp [h1, h2, hk1])
              clear hk1
              have HN := Lib.hid hn
              clear hn
              clear hok hc
              go_wp2_with fail
              have e2 := E2.out
              go_quiet ((first | (go_at_call 76; exact quiet_eq (l18Exits_any _ _ HD.out)) | (go_at_call 91; exact quiet_eq (l00In_any _ _ _ _))))
              clear e2
              go_wp2
              go_roundw
              case rel => exact ⟨k + 1, by omega, rfl, by go_num, below_drewN hw _, fun j hj => by
                by_cases e : j = k
                · rw [e]; exact HN.out
                · exact HA.out j (by omega)⟩
              case measure => simp [intOf]; omega
            · obtain ⟨g3, _⟩ := hc (k - 1) (by omega)
              replace g3 := (hw.cell (p := ⟨b, off + (k - 1) * 2, none⟩) hb).trans g3
              have hk2 : decide ((0 : Int) < k) = true := by rw [decide_eq_true_iff]; omega
              have hk3 : decide (0 < k) = true := by rw [decide_eq_true_iff]; omega
              generalize (xs.getD (k - 1) (0, 0)).1 = z at g3 hok
              have hk5 : (k : Int) - 1 < xs.length := by omega
              have hk4 : (0 : Int) ≤ (k : Int) - 1 := by omega
              have hk6 : IntKind.i64.wrap ((k : Int) - 1) = (k : Int) - 1 := IntWalk.i64_in _ (by omega)
              have hk7 : ((k : Int) - 1).toNat = k - 1 := by omega
              have K6 := Lib.hid hk6
              have K7 := Lib.hid hk7
              clear hk6 hk7
              by_cases hz : z < x
              · have hz2 : decide (x ≤ z) = false := by rw [decide_eq_false_iff_not]; omega
                have hn : okS d xs k = true := hok.trans (by simp [h1, h2, hz])
                have HN := Lib.hid hn
                clear hn
                clear hok hc
                go_wp2_with fail
                have e2 := E2.out
                have k6 := K6.out
                have k7 := K7.out
                go_quiet ((first | (go_at_call 76; exact quiet_eq (l18Exits_any _ _ HD.out)) | (go_at_call 91; exact quiet_eq (l00In_any _ _ _ _))))
                clear e2 k6 k7
                go_wp2
                go_roundw
                case rel => exact ⟨k + 1, by omega, rfl, by go_num, below_drewN hw _, fun j hj => by
                  by_cases e : j = k
                  · rw [e]; exact HN.out
                  · exact HA.out j (by omega)⟩
                case measure => simp [intOf]; omega
              · have hz2 : decide (x ≤ z) = true := by rw [decide_eq_true_iff]; omega
                have HN := Lib.hid (okStuck_no hlt (hok.trans (by simp [hk1, hz])))
                clear hok hc
                go_wp2_with fail
                have e2 := E2.out
                have k6 := K6.out
                have k7 := K7.out
                go_quiet ((first | (go_at_call 76; exact quiet_eq (l18Exits_any _ _ HD.out)) | (go_at_call 91; exact quiet_eq (l00In_any _ _ _ _))))
                clear e2 k6 k7
                go_wp2
                go_ret
                exact ⟨ret_bool HN.out.symm, below_drewN hw _⟩
      · go_wp2
        go_ret
        exact ⟨ret_bool (okStuck_yes (fun j hj => HA.out j (by omega)) HD.out).symm, hw⟩

theorem specValidStuck_any (d : Int) (v : Value) (xs : List (Int × Int)) (w : World) (hv : SI P2 w v xs) :
    Calls Try.prog 17 #[.int .i64 d, v] w fun e w' => e = .returned (.bool (okStuck d xs)) ∧ Below w.heap.size w w' := by
  have HV := Lib.hid hv
  clear hv
  go_enter Try.func17, Try.ntmps17
  go_wp2_with fail
  refine (l18Ok_any d v xs _ HV.out).mono ?_
  rintro e w' ⟨rfl, hb⟩
  go_wp2
  go_ret
  exact ⟨rfl, hb⟩

theorem implValidStuck_any (d : Int) (v : Value) (xs : List (Int × Int)) (w : World) (hv : SI P2 w v xs) :
    Calls Try.prog 19 #[.int .i64 d, v] w fun e w' => e = .returned (.bool (okStuck d xs)) ∧ Below w.heap.size w w' := by
  obtain ⟨a, cap, rfl⟩ := hv.shape
  have hl := hv.len
  have HV := Lib.hid hv
  clear hv
  cases hd : inB 1 4 d with
  | false =>
    go_enter Try.func19, Try.ntmps19
    go_wp2_with (go_at_call 60; refine (isDepth_any _ _).mono ?_; rintro e w' ⟨rfl, rfl⟩)
    go_ret
    exact ⟨ret_bool (by simp [okStuck, hd]), Below.refl _ _⟩
  | true =>
    have HD := Lib.hid hd
    have h1 : 1 ≤ d ∧ d ≤ 4 := by simpa [inB] using hd
    obtain ⟨d1, d2⟩ := h1
    obtain ⟨e0, e2, e3, e4⟩ := wrap_ex hd
    have E0 := Lib.hid e0
    have E2 := Lib.hid e2
    clear e0 e2
    go_enter Try.func19, Try.ntmps19
    go_wp2_with (go_at_call 60; refine (isDepth_any _ _).mono ?_; rintro e w' ⟨rfl, rfl⟩)
    clear hd
    go_loopw [4, 12] (fun r i wr => ∃ k : Nat, k ≤ xs.length ∧ r = .bool false ∧ i = .int .i64 k ∧ Below w.heap.size w wr ∧ ∀ j, j < k → okS d xs j = true) (fun _ i _ => xs.length - (intOf i).toNat)
    case atStart => exact ⟨0, Nat.zero_le _, rfl, rfl, Below.refl _ _, fun j hj => absurd hj (Nat.not_lt_zero _)⟩
    case round =>
      obtain ⟨k, hk, rfl, rfl, hw, hall⟩ := hrel
      have HA := Lib.hid hall
      clear hall
      by_cases hlt : k < xs.length
      · obtain ⟨b, off, rfl, hb, hc⟩ := HV.out.cells2 (by omega)
        obtain ⟨g1, g2⟩ := hc k hlt
        replace g1 := (hw.cell (p := ⟨b, off + k * 2, none⟩) hb).trans g1
        replace g2 := (hw.cell (p := ⟨b, off + k * 2 + 1, none⟩) hb).trans g2
        have hok : okS d xs k = (inB 1 (ex d - 1) (xs.getD k (0, 0)).1 && inB 0 1 (xs.getD k (0, 0)).2 && (decide (k = 0) || decide ((xs.getD (k - 1) (0, 0)).1 < (xs.getD k (0, 0)).1))) := rfl
        have hbw : b < wr.heap.size := Nat.lt_of_lt_of_le hb hw.size
        have hkx : (k : Int) < xs.length := by omega
        have hk0 : (0 : Int) ≤ k := by omega
        generalize xs.getD k (0, 0) = p at g1 g2 hok
        obtain ⟨x, y⟩ := p
        simp only at g1 g2 hok
        cases h1 : inB 1 (ex d - 1) x with
        | false =>
          have HN := Lib.hid (okStuck_no hlt (hok.trans (by simp [h1])))
          clear hok hc
          go_wp2_with fail
          have e0 := E0.out
          have e2 := E2.out
          go_quiet ((go_at_call 61; exact quiet_eq (within_any _ _ _ _)))
          clear e0 e2
          go_wp2
          go_ret
          exact ⟨ret_bool HN.out.symm, below_drewN (hw.alloc hw.size _) _⟩
        | true =>
          cases h2 : inB 0 1 y with
          | false =>
            have HN := Lib.hid (okStuck_no hlt (hok.trans (by simp [h2])))
            clear hok hc
            go_wp2_with fail
            have e0 := E0.out
            have e2 := E2.out
            go_quiet ((go_at_call 61; exact quiet_eq (within_any _ _ _ _)))
            clear e0 e2
            go_wp2
            go_ret
            exact ⟨ret_bool HN.out.symm, below_drewN (hw.alloc hw.size _) _⟩
          | true =>
            by_cases hk1 : k = 0
            · have hk2 : decide ((0 : Int) < k) = false := by rw [decide_eq_false_iff_not]; omega
              have hk3 : decide (0 < k) = false := by rw [decide_eq_false_iff_not]; omega
              have hn : okS d xs k = true := hok.trans (by simp [h1, h2, hk1])
              clear hk1
              have HN := Lib.hid hn
              clear hn
              clear hok hc
              go_wp2_with fail
              have e0 := E0.out
              have e2 := E2.out
              go_quiet ((go_at_call 61; exact quiet_eq (within_any _ _ _ _)))
              clear e0 e2
              go_wp2
              go_roundw
              case rel => exact ⟨k + 1, by omega, rfl, by go_num, below_drewN (hw.alloc hw.size _) _, fun j hj => by
                by_cases e : j = k
                · rw [e]; exact HN.out
                · exact HA.out j (by omega)⟩
              case measure => simp [intOf]; omega
            · obtain ⟨g3, _⟩ := hc (k - 1) (by omega)
              replace g3 := (hw.cell (p := ⟨b, off + (k - 1) * 2, none⟩) hb).trans g3
              have hk2 : decide ((0 : Int) < k) = true := by rw [decide_eq_true_iff]; omega
              have hk3 : decide (0 < k) = true := by rw [decide_eq_true_iff]; omega
              generalize (xs.getD (k - 1) (0, 0)).1 = z at g3 hok
              have hk5 : (k : Int) - 1 < xs.length := by omega
              have hk4 : (0 : Int) ≤ (k : Int) - 1 := by omega
              have hk6 : IntKind.i64.wrap ((k : Int) - 1) = (k : Int) - 1 := IntWalk.i64_in _ (by omega)
              have hk7 : ((k : Int) - 1).toNat = k - 1 := by omega
              have K6 := Lib.hid hk6
              have K7 := Lib.hid hk7
              clear hk6 hk7
              by_cases hz : z < x
              · have hz2 : decide (x ≤ z) = false := by rw [decide_eq_false_iff_not]; omega
                have hn : okS d xs k = true := hok.trans (by simp [h1, h2, hz])
                have HN := Lib.hid hn
                clear hn
                clear hok hc
                go_wp2_with fail
                have e0 := E0.out
                have e2 := E2.out
                have k6 := K6.out
                have k7 := K7.out
                go_quiet ((go_at_call 61; exact quiet_eq (within_any _ _ _ _)))
                clear e0 e2 k6 k7
                go_wp2
                go_roundw
                case rel => exact ⟨k + 1, by omega, rfl, by go_num, below_drewN (hw.alloc hw.size _) _, fun j hj => by
                  by_cases e : j = k
                  · rw [e]; exact HN.out
                  · exact HA.out j (by omega)⟩
                case measure => simp [intOf]; omega
              · have hz2 : decide (x ≤ z) = true := by rw [decide_eq_true_iff]; omega
                have HN := Lib.hid (okStuck_no hlt (hok.trans (by simp [hk1, hz])))
                clear hok hc
                go_wp2_with fail
                have e0 := E0.out
                have e2 := E2.out
                have k6 := K6.out
                have k7 := K7.out
                go_quiet ((go_at_call 61; exact quiet_eq (within_any _ _ _ _)))
                clear e0 e2 k6 k7
                go_wp2
                go_ret
                exact ⟨ret_bool HN.out.symm, below_drewN (hw.alloc hw.size _) _⟩
      · go_wp2
        go_ret
        exact ⟨ret_bool (okStuck_yes (fun j hj => HA.out j (by omega)) HD.out).symm, hw⟩

end Go.Proofs.Ytejnfngnofilfaa
