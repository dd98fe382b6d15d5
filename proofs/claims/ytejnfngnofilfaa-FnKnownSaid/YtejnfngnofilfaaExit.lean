/-
  ExitOf of the reference and of the program: what each returns.
-/
import Derived.Test.YtejnfngnofilfaaSwitches
namespace Go.Proofs.Ytejnfngnofilfaa
open Go.RowKit

/-- The side at which a switch is stuck; -1 if it is not. -/
def sideF (xs : List (Int × Int)) (v : Int) : Int := match xs.find? (fun p => p.1 == v) with | some p => p.2 | none => -1

theorem sideF_hit {xs : List (Int × Int)} {v : Int} {k : Nat} (hk : k < xs.length) (hp : (xs.getD k (0, 0)).1 = v) (hn : ∀ j, j < k → (xs.getD j (0, 0)).1 ≠ v) : sideF xs v = (xs.getD k (0, 0)).2 := by
  induction xs generalizing k with
  | nil => simp at hk
  | cons x xs ih =>
    cases k with
    | zero => simp at hp; simp [sideF, hp]
    | succ k =>
      have h0 := hn 0 (by omega)
      simp at h0
      have := ih (k := k) (by simpa using hk) (by simpa using hp) (fun j hj => by have := hn (j + 1) (by omega); simpa using this)
      simp only [List.getD_cons_succ]
      rw [← this]
      simp [sideF, List.find?_cons, h0]

theorem sideF_miss {xs : List (Int × Int)} {v : Int} (hn : ∀ j, j < xs.length → (xs.getD j (0, 0)).1 ≠ v) : sideF xs v = -1 := by
  have : xs.find? (fun p => p.1 == v) = none := by
    rw [List.find?_eq_none]
    intro x hx
    obtain ⟨j, hj, rfl⟩ := List.getElem_of_mem hx
    have := hn j hj
    simp only [List.getD, List.getElem?_eq_getElem hj, Option.getD_some] at this
    simp [this]
  simp [sideF, this]

theorem okStuck_at {d : Int} {xs : List (Int × Int)} (h : okStuck d xs = true) {k : Nat} (hk : k < xs.length) : okS d xs k = true := by
  simp only [okStuck, Bool.and_eq_true, List.all_eq_true] at h
  exact h.2 k (List.mem_range.2 hk)

theorem okStuck_lt {d : Int} {xs : List (Int × Int)} (h : okStuck d xs = true) : ∀ j i, i < j → j < xs.length → (xs.getD i (0, 0)).1 < (xs.getD j (0, 0)).1 := by
  intro j
  induction j with
  | zero => intro i hi; omega
  | succ j ih =>
    intro i hi hj
    have h1 := okStuck_at h hj
    simp [okS] at h1
    have h2 := h1.2
    by_cases e : i = j
    · subst e; simpa using h2
    · have h3 := ih i (by omega) (by omega)
      simp only [List.getD] at h3 ⊢
      omega

theorem okStuck_side {d : Int} {xs : List (Int × Int)} (h : okStuck d xs = true) {k : Nat} (hk : k < xs.length) : 0 ≤ (xs.getD k (0, 0)).2 ∧ (xs.getD k (0, 0)).2 ≤ 1 := by
  have h1 := okStuck_at h hk
  simp only [okS, Bool.and_eq_true] at h1
  have h2 := h1.1.2
  simpa only [inB, Bool.and_eq_true, decide_eq_true_eq] using h2

/-- The side to which a carrier goes at a switch. -/
def goes (xs : List (Int × Int)) (v dg : Int) : Int := if sideF xs v < 0 then dg else sideF xs v

theorem sideF_bound {d : Int} {xs : List (Int × Int)} (h : okStuck d xs = true) (v : Int) : -1 ≤ sideF xs v ∧ sideF xs v ≤ 1 := by
  by_cases hn : ∀ j, j < xs.length → (xs.getD j (0, 0)).1 ≠ v
  · rw [sideF_miss hn]; omega
  · have : ∃ j, j < xs.length ∧ (xs.getD j (0, 0)).1 = v := Classical.byContradiction fun h => hn fun j hj e => h ⟨j, hj, e⟩
    obtain ⟨j, hj, hv⟩ := this
    rw [sideF_hit hj hv (fun i hi => by have := okStuck_lt h j i hi hj; omega)]
    have := okStuck_side h hj
    omega

theorem goes_01 {d : Int} {xs : List (Int × Int)} (h : okStuck d xs = true) (v dg : Int) (hd : 0 ≤ dg ∧ dg ≤ 1) : 0 ≤ goes xs v dg ∧ goes xs v dg ≤ 1 := by
  have := sideF_bound h v
  unfold goes; split <;> omega

/-- What the program's loop over the stuck switches holds behind k of them. -/
def sideTo (xs : List (Int × Int)) (v dg : Int) (k : Nat) (s : Int) : Prop :=
  (s = dg ∧ ∀ j, j < k → (xs.getD j (0, 0)).1 ≠ v) ∨ ∃ j, j < k ∧ (xs.getD j (0, 0)).1 = v ∧ s = (xs.getD j (0, 0)).2

theorem sideTo_end {d : Int} {xs : List (Int × Int)} (h : okStuck d xs = true) {v dg s : Int} (hs : sideTo xs v dg xs.length s) : s = goes xs v dg := by
  rcases hs with ⟨rfl, hn⟩ | ⟨j, hj, hv, rfl⟩
  · rw [goes, sideF_miss hn]; rfl
  · have := okStuck_side h hj
    rw [goes, sideF_hit hj hv (fun i hi => by have := okStuck_lt h j i hi hj; omega), if_neg (by omega)]

theorem sideTo_hit {xs : List (Int × Int)} {v dg : Int} {k : Nat} (hk : (xs.getD k (0, 0)).1 = v) : sideTo xs v dg (k + 1) (xs.getD k (0, 0)).2 := .inr ⟨k, by omega, hk, rfl⟩
theorem sideTo_skip {xs : List (Int × Int)} {v dg s : Int} {k : Nat} (h : sideTo xs v dg k s) (hk : (xs.getD k (0, 0)).1 ≠ v) : sideTo xs v dg (k + 1) s := by
  rcases h with ⟨rfl, hn⟩ | ⟨j, hj, hv, rfl⟩
  · refine .inl ⟨rfl, fun j hj => ?_⟩
    by_cases e : j = k
    · rw [e]; exact hk
    · exact hn j (by omega)
  · exact .inr ⟨j, by omega, hv, rfl⟩

theorem sideTo_01 {d : Int} {xs : List (Int × Int)} (h : okStuck d xs = true) {v dg s : Int} {k : Nat} (hk : k ≤ xs.length) (hd : 0 ≤ dg ∧ dg ≤ 1) (hs : sideTo xs v dg k s) : 0 ≤ s ∧ s ≤ 1 := by
  rcases hs with ⟨rfl, _⟩ | ⟨j, hj, _, rfl⟩
  · exact hd
  · exact okStuck_side h (by omega)

/-- The k-th switch at which a carrier comes. -/
def runAt (d : Int) (xs : List (Int × Int)) (a : Int) : Nat → Int
  | 0 => 1
  | k + 1 => 2 * runAt d xs a k + goes xs (runAt d xs a k) (dig d a k)

theorem runAt_pow {d : Int} {xs : List (Int × Int)} (h : okStuck d xs = true) (a : Int) (k : Nat) : (2 : Int) ^ k ≤ runAt d xs a k ∧ runAt d xs a k + 1 ≤ 2 ^ (k + 1) := by
  induction k with
  | zero => simp [runAt]
  | succ k ih =>
    have h := goes_01 h (runAt d xs a k) (dig d a k) (dig_01 d a k)
    have e1 : (2 : Int) ^ (k + 1) = 2 * 2 ^ k := by rw [Int.pow_succ]; omega
    have e2 : (2 : Int) ^ (k + 1 + 1) = 2 * 2 ^ (k + 1) := by rw [Int.pow_succ]; omega
    simp only [runAt]
    omega

theorem runAt_bound {d : Int} {xs : List (Int × Int)} (h : okStuck d xs = true) (a : Int) (k : Nat) (hk : k ≤ 4) : 1 ≤ runAt d xs a k ∧ runAt d xs a k ≤ 31 := by
  have h := runAt_pow h a k
  have h1 := pow_le hk
  have h2 := pow_pos1 k
  omega

/-- The exit to which a carrier runs. -/
def runE (d : Int) (xs : List (Int × Int)) (a : Int) : Int := runAt d xs a d.toNat - ex d

theorem runE_bound {d : Int} {xs : List (Int × Int)} (h : okStuck d xs = true) (a : Int) : 0 ≤ runE d xs a ∧ runE d xs a ≤ ex d - 1 := by
  have h := runAt_pow h a d.toNat
  have e2 : (2 : Int) ^ (d.toNat + 1) = 2 * 2 ^ d.toNat := by rw [Int.pow_succ]; omega
  unfold runE ex
  omega

def valExit (d : Int) (xs : List (Int × Int)) (a : Int) : Int × Int :=
  if okStuck d xs then (if inB 0 (ex d - 1) a then (runE d xs a, 0) else (0, 2)) else (0, 1)

theorem okStuck_depth {d : Int} {xs : List (Int × Int)} (h : okStuck d xs = true) : inB 1 4 d = true := by
  simp only [okStuck, Bool.and_eq_true] at h; exact h.1

theorem l18Side_any (v : Value) (xs : List (Int × Int)) (s : Int) (w : World) (hv : SI P2 w v xs) :
    Calls Try.prog 102 #[v, .int .i64 s] w fun e w' => e = .returned (.int .i64 (sideF xs s)) ∧ w = w' := by
  obtain ⟨a, cap, rfl⟩ := hv.shape
  have hl := hv.len
  have HV := Lib.hid hv
  clear hv
  go_enter Try.func102, Try.ntmps102
  go_wp2
  go_loop [4, 5] (fun r i => ∃ k : Nat, k ≤ xs.length ∧ r = .int .i64 0 ∧ i = .int .i64 k ∧ ∀ j, j < k → (xs.getD j (0, 0)).1 ≠ s) (fun _ i => xs.length - (intOf i).toNat)
  case atStart => exact ⟨0, Nat.zero_le _, rfl, rfl, fun j hj => absurd hj (Nat.not_lt_zero _)⟩
  case round =>
    obtain ⟨k, hk, rfl, rfl, hno⟩ := hrel
    have HN := Lib.hid hno
    clear hno
    by_cases hlt : k < xs.length
    · obtain ⟨b, off, rfl, hb, hc⟩ := HV.out.cells2 (by omega)
      obtain ⟨g1, g2⟩ := hc k hlt
      clear hc
      generalize hp : xs.getD k (0, 0) = p at g1 g2
      have HP := Lib.hid hp
      clear hp
      obtain ⟨x, y⟩ := p
      simp only at g1 g2
      by_cases hxs : x = s
      · have he : (x == s) = true := by simp [hxs]
        have HX := Lib.hid hxs
        clear hxs
        go_wp2
        go_ret
        exact ⟨ret_int (by rw [sideF_hit hlt (by rw [HP.out]; exact HX.out) HN.out, HP.out]), rfl⟩
      · have he : (x == s) = false := by simp [hxs]
        have HX := Lib.hid hxs
        clear hxs
        go_wp2
        go_round
        case rel => exact ⟨k + 1, by omega, rfl, by go_num, fun j hj => by
          by_cases e : j = k
          · rw [e, HP.out]; exact HX.out
          · exact HN.out j (by omega)⟩
        case measure => simp [intOf]; omega
    · go_wp2
      go_ret
      exact ⟨ret_int (sideF_miss (fun j hj => HN.out j (by omega))).symm, rfl⟩

theorem l18Run_any (d : Int) (v : Value) (xs : List (Int × Int)) (x : Int) (w : World) (hv : SI P2 w v xs) (hok : okStuck d xs = true) (x0 : 0 ≤ x) (x1 : x ≤ 9223372036854775807) :
    Calls Try.prog 84 #[.int .i64 d, v, .int .i64 x] w fun e w' => e = .returned (.int .i64 (runE d xs x)) ∧ w = w' := by
  have HV := Lib.hid hv
  have HK := Lib.hid hok
  have hd := okStuck_depth hok
  have HD := Lib.hid hd
  obtain ⟨n, rfl⟩ : ∃ n : Nat, d = n := ⟨d.toNat, by simp [inB] at hd; omega⟩
  have hn : 1 ≤ n ∧ n ≤ 4 := by simp [inB] at hd; omega
  obtain ⟨hn1, hn4⟩ := hn
  have e3 := (wrap_ex hd).2.2.1
  have e4 := (wrap_ex hd).2.2.2
  clear hv hok hd
  go_enter Try.func84, Try.ntmps84
  go_wp2
  go_loop [7, 8] (fun vv i => ∃ (k : Nat) (v : Int), k ≤ n ∧ vv = .int .i64 v ∧ v = runAt n xs x k ∧ i = .int .i64 k) (fun _ i => n - (intOf i).toNat)
  case atStart => exact ⟨0, 1, Nat.zero_le _, rfl, rfl, rfl⟩
  case round =>
    obtain ⟨k, v, hk, rfl, hv, rfl⟩ := hrel
    have HB := runAt_bound HK.out x k (by omega)
    rw [← hv] at HB
    obtain ⟨v1, v2⟩ := HB
    have HR := Lib.hid hv
    clear hv
    by_cases hlt : k < n
    · have hdd := dig_01 n x k
      generalize hdg : dig n x k = dg at hdd
      have HG := Lib.hid hdg
      clear hdg
      obtain ⟨d1, d2⟩ := hdd
      have hsb := sideF_bound HK.out v
      generalize hsf : sideF xs v = sf at hsb
      have HF := Lib.hid hsf
      clear hsf
      obtain ⟨s1, s2⟩ := hsb
      by_cases hneg : sf < 0
      · have hgo : goes xs v dg = dg := by unfold goes; rw [HF.out, if_pos hneg]
        have HGo := Lib.hid hgo
        clear hgo
        have hnd : decide (sf < 0) = true := by rw [decide_eq_true_iff]; exact hneg
        go_wp2_with (first | (go_at_call 102; refine (l18Side_any _ xs _ _ HV.out).mono ?_; rintro e w' ⟨rfl, rfl⟩; rw [HF.out]) | (go_at_call 65; refine (l18Digit_any n x k _ (by omega) (by omega) (by omega) x0 x1).mono ?_; rintro e w' ⟨rfl, rfl⟩; rw [HG.out]))
        go_round
        case rel => exact ⟨k + 1, _, by omega, rfl, by rw [runAt, ← HR.out, HG.out, HGo.out], by go_num⟩
        case measure => simp [intOf]; omega
      · have hgo : goes xs v dg = sf := by unfold goes; rw [HF.out, if_neg hneg]
        have HGo := Lib.hid hgo
        clear hgo
        have hnd : decide (sf < 0) = false := by rw [decide_eq_false_iff_not]; exact hneg
        go_wp2_with (first | (go_at_call 102; refine (l18Side_any _ xs _ _ HV.out).mono ?_; rintro e w' ⟨rfl, rfl⟩; rw [HF.out]) | (go_at_call 65; refine (l18Digit_any n x k _ (by omega) (by omega) (by omega) x0 x1).mono ?_; rintro e w' ⟨rfl, rfl⟩; rw [HG.out]))
        go_round
        case rel => exact ⟨k + 1, _, by omega, rfl, by rw [runAt, ← HR.out, HG.out, HGo.out], by go_num⟩
        case measure => simp [intOf]; omega
    · have hkn : k = n := by omega
      subst hkn
      go_wp2_with (go_at_call 76; refine (l18Exits_any _ _ HD.out).mono ?_; rintro e w' ⟨rfl, rfl⟩)
      go_ret
      exact ⟨ret_int (by rw [HR.out]; rfl), rfl⟩

theorem exitOf_any (d : Int) (v : Value) (xs : List (Int × Int)) (x : Int) (w : World) (hv : SI P2 w v xs) (hok : okStuck d xs = true) (x0 : 0 ≤ x) (x1 : x ≤ 9223372036854775807) :
    Calls Try.prog 78 #[.int .i64 d, v, .int .i64 x] w fun e w' => e = .returned (.int .i64 (runE d xs x)) ∧ Below w.heap.size w w' := by
  obtain ⟨a, cap, rfl⟩ := hv.shape
  have hl := hv.len
  have HV := Lib.hid hv
  have HK := Lib.hid hok
  have hd := okStuck_depth hok
  obtain ⟨n, rfl⟩ : ∃ n : Nat, d = n := ⟨d.toNat, by simp [inB] at hd; omega⟩
  have hn : 1 ≤ n ∧ n ≤ 4 := by simp [inB] at hd; omega
  obtain ⟨hn1, hn4⟩ := hn
  obtain ⟨e1, _, e3, e4⟩ := wrap_ex hd
  have e1' : wrap64 (2 ^ n) = ex n := by simpa using e1
  have E1 := Lib.hid e1'
  clear hv hok hd e1 e1'
  go_enter Try.func78, Try.ntmps78
  go_wp2
  go_loopw [7, 13] (fun vv i wr => ∃ (k : Nat) (v : Int), k ≤ n ∧ vv = .int .i64 v ∧ v = runAt n xs x k ∧ i = .int .i64 k ∧ Below w.heap.size w wr) (fun _ i _ => n - (intOf i).toNat)
  case atStart => exact ⟨0, 1, Nat.zero_le _, rfl, rfl, rfl, Below.refl _ _⟩
  case round =>
    obtain ⟨k, v, hk, rfl, hv, rfl, hw⟩ := hrel
    have HB := runAt_bound HK.out x k (by omega)
    rw [← hv] at HB
    obtain ⟨v1, v2⟩ := HB
    have HR := Lib.hid hv
    clear hv
    by_cases hlt : k < n
    · have hdd := dig_01 n x k
      generalize hdg : dig n x k = dg at hdd
      have HG := Lib.hid hdg
      clear hdg
      have HDD := Lib.hid hdd
      obtain ⟨d1, d2⟩ := hdd
      obtain ⟨wo, rfl⟩ : ∃ wo : World, wo = wr := ⟨_, rfl⟩
      go_wp2_with (go_at_call 92; refine (digit_any n x k _ (by omega) (by omega) (by omega) x0 x1).mono ?_; rintro e w' ⟨rfl, rfl⟩; rw [HG.out])
      go_loopw [9, 22] (fun ss i wr => ∃ (j : Nat) (s : Int), j ≤ xs.length ∧ ss = .int .i64 s ∧ sideTo xs v dg j s ∧ i = .int .i64 j ∧ Below w.heap.size w wr) (fun _ i _ => xs.length - (intOf i).toNat)
      case atStart => exact ⟨0, dg, Nat.zero_le _, rfl, .inl ⟨rfl, fun j hj => absurd hj (Nat.not_lt_zero _)⟩, rfl, hw⟩
      case round =>
        obtain ⟨j, s, hj, rfl, hs, rfl, hw2⟩ := hrel
        have HS := Lib.hid hs
        obtain ⟨s1, s2⟩ := sideTo_01 HK.out hj HDD.out hs
        clear hs
        by_cases hjl : j < xs.length
        · obtain ⟨b, off, rfl, hb, hc⟩ := HV.out.cells2 (by omega)
          obtain ⟨g1, g2⟩ := hc j hjl
          replace g1 := (hw2.cell (p := ⟨b, off + j * 2, none⟩) hb).trans g1
          replace g2 := (hw2.cell (p := ⟨b, off + j * 2 + 1, none⟩) hb).trans g2
          clear hc
          generalize hp : xs.getD j (0, 0) = p at g1 g2
          have HP := Lib.hid hp
          clear hp
          obtain ⟨y, z⟩ := p
          simp only at g1 g2
          by_cases hyv : y = v
          · have he : (y == v) = true := by simp [hyv]
            have HX := Lib.hid hyv
            clear hyv
            go_wp2
            go_roundw
            case rel =>
              refine ⟨j + 1, z, by omega, rfl, ?_, by go_num, hw2.alloc hw2.size _⟩
              have := sideTo_hit (dg := dg) (show (xs.getD j (0, 0)).1 = v by rw [HP.out]; exact HX.out)
              rw [HP.out] at this
              exact this
            case measure => simp [intOf]; omega
          · have he : (y == v) = false := by simp [hyv]
            have HX := Lib.hid hyv
            clear hyv
            go_wp2
            go_roundw
            case rel => exact ⟨j + 1, s, by omega, rfl, sideTo_skip HS.out (by rw [HP.out]; exact HX.out), by go_num, hw2.alloc hw2.size _⟩
            case measure => simp [intOf]; omega
        · have hjx : j = xs.length := by omega
          have hfin := HS.out
          rw [hjx] at hfin
          have HF := Lib.hid (sideTo_end HK.out hfin)
          clear hfin hjx
          go_wp2
          go_roundw
          case rel => exact ⟨k + 1, _, by omega, rfl, by rw [runAt, ← HR.out, HG.out, ← HF.out], by go_num, hw2⟩
          case measure => simp [intOf]; omega
    · have hkn : k = n := by omega
      subst hkn
      have e1 := E1.out
      go_wp2
      go_ret
      exact ⟨ret_int (by rw [HR.out]; rfl), hw⟩

theorem specExitOf_any (d : Int) (v : Value) (xs : List (Int × Int)) (x : Int) (w : World) (hv : SI P2 w v xs) :
    Calls Try.prog 41 #[.int .i64 d, v, .int .i64 x] w fun e w' => e = .returned (.tuple #[.int .i64 (valExit d xs x).1, .int .i64 (valExit d xs x).2]) ∧ Below w.heap.size w w' := by
  have HV := Lib.hid hv
  have hc := l18Ok_any d v xs w hv
  clear hv
  cases hok : okStuck d xs with
  | false =>
    rw [hok] at hc
    have HC := Lib.hid hc
    have HE := Lib.hid (show valExit d xs x = (0, 1) by simp only [valExit, hok]; rfl)
    clear hc hok
    go_enter Try.func41, Try.ntmps41
    go_wp2_with (go_at_call 58; refine HC.out.mono ?_; rintro e w1 ⟨rfl, hb1⟩)
    go_ret2
    exact ⟨by rw [HE.out]; rfl, hb1⟩
  | true =>
    rw [hok] at hc
    have HC := Lib.hid hc
    have HK := Lib.hid hok
    have HD := Lib.hid (okStuck_depth hok)
    cases hx : inB 0 (ex d - 1) x with
    | false =>
      have HE := Lib.hid (show valExit d xs x = (0, 2) by simp only [valExit, hok, hx]; rfl)
      clear hc hok
      go_enter Try.func41, Try.ntmps41
      go_wp2_with (first | (go_at_call 58; refine HC.out.mono ?_; rintro e w1 ⟨rfl, hb1⟩) | (go_at_call 64; refine (l18Exit_any _ _ _ HD.out).mono ?_; rintro e w' ⟨rfl, rfl⟩; rw [hx]))
      go_ret2
      exact ⟨by rw [HE.out]; rfl, hb1⟩
    | true =>
      have HE := Lib.hid (show valExit d xs x = (runE d xs x, 0) by simp only [valExit, hok, hx]; rfl)
      have h1 : 0 ≤ x ∧ x ≤ ex d - 1 := by simpa [inB] using hx
      obtain ⟨x0, x1⟩ := h1
      have h2 := (wrap_ex HD.out).2.2.2
      clear hc hok
      go_enter Try.func41, Try.ntmps41
      go_wp2_with (first | (go_at_call 58; refine HC.out.mono ?_; rintro e w1 ⟨rfl, hb1⟩) | (go_at_call 64; refine (l18Exit_any _ _ _ HD.out).mono ?_; rintro e w' ⟨rfl, rfl⟩; rw [hx]) | (go_at_call 84; refine (l18Run_any d v xs x _ (HV.out.below hb1) HK.out x0 (by omega)).mono ?_; rintro e w' ⟨rfl, rfl⟩))
      go_ret2
      exact ⟨by rw [HE.out]; rfl, hb1⟩

theorem implExitOf_any (d : Int) (v : Value) (xs : List (Int × Int)) (x : Int) (w : World) (hv : SI P2 w v xs) :
    Calls Try.prog 42 #[.int .i64 d, v, .int .i64 x] w fun e w' => e = .returned (.tuple #[.int .i64 (valExit d xs x).1, .int .i64 (valExit d xs x).2]) ∧ Below w.heap.size w w' := by
  have HV := Lib.hid hv
  have hc := implValidStuck_any d v xs w hv
  clear hv
  cases hok : okStuck d xs with
  | false =>
    rw [hok] at hc
    have HC := Lib.hid hc
    have HE := Lib.hid (show valExit d xs x = (0, 1) by simp only [valExit, hok]; rfl)
    clear hc hok
    go_enter Try.func42, Try.ntmps42
    go_wp2_with (go_at_call 19; refine HC.out.mono ?_; rintro e w1 ⟨rfl, hb1⟩)
    go_ret2
    exact ⟨by rw [HE.out]; rfl, hb1⟩
  | true =>
    rw [hok] at hc
    have HC := Lib.hid hc
    have HK := Lib.hid hok
    have HD := Lib.hid (okStuck_depth hok)
    cases hx : inB 0 (ex d - 1) x with
    | false =>
      have HE := Lib.hid (show valExit d xs x = (0, 2) by simp only [valExit, hok, hx]; rfl)
      clear hc hok
      go_enter Try.func42, Try.ntmps42
      go_wp2_with (first | (go_at_call 19; refine HC.out.mono ?_; rintro e w1 ⟨rfl, hb1⟩) | (go_at_call 66; refine (isExit_any _ _ _ HD.out).mono ?_; rintro e w' ⟨rfl, rfl⟩; rw [hx]))
      go_ret2
      exact ⟨by rw [HE.out]; rfl, hb1⟩
    | true =>
      have HE := Lib.hid (show valExit d xs x = (runE d xs x, 0) by simp only [valExit, hok, hx]; rfl)
      have h1 : 0 ≤ x ∧ x ≤ ex d - 1 := by simpa [inB] using hx
      obtain ⟨x0, x1⟩ := h1
      have h2 := (wrap_ex HD.out).2.2.2
      clear hc hok
      go_enter Try.func42, Try.ntmps42
      go_wp2_with (first | (go_at_call 19; refine HC.out.mono ?_; rintro e w1 ⟨rfl, hb1⟩) | (go_at_call 66; refine (isExit_any _ _ _ HD.out).mono ?_; rintro e w' ⟨rfl, rfl⟩; rw [hx]) | (go_at_call 78; refine (exitOf_any d v xs x _ (HV.out.below hb1) HK.out x0 (by omega)).mono ?_; rintro e w2 ⟨rfl, hb2⟩))
      go_ret2
      exact ⟨by rw [HE.out]; rfl, bthen hb1 hb2⟩

end Go.Proofs.Ytejnfngnofilfaa
