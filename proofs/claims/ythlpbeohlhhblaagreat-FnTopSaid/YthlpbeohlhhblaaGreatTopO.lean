/-
  ValidStuck and ValidTrials of the reference and of the program: what each returns.
  SwitchesTo of the reference and of the program: what each returns.
  ExitOf of the reference and of the program: what each returns.
  A list of bools in memory of the call's own.
  LostExits of the reference and of the program: what each returns.
-/
import Derived.Test.YthlpbeohlhhblaaGreatTopB
import Derived.Test.YthlpbeohlhhblaaGreatTopN
import Derived.Test.YthlpbeohlhhblaaGreatTopA
import Derived.IntWalk
import Derived.Lib.RabinKarpLaws
namespace Go.Proofs.YthlpbeohlhhblaaGreat
open Go.RowKit

/-- The number of exits of a depth. -/
def ex (d : Int) : Int := 2 ^ d.toNat

theorem depth_cases {d : Int} (h : inB 1 4 d = true) : d = 1 ∨ d = 2 ∨ d = 3 ∨ d = 4 := by
  simp [inB] at h; omega

theorem isDepth_any (n : Int) (w : World) : Calls Tryz.prog 78 #[.int .i64 n] w fun e w' => e = .returned (.bool (inB 1 4 n)) ∧ w = w' := by
  go_enter Tryz.func78, Tryz.ntmps78
  go_wp2_with (go_at_call 59; refine (within_any _ _ _ _).mono ?_; rintro e w' ⟨rfl, rfl⟩)
  go_ret
  exact ⟨rfl, rfl⟩

theorem l18Exits_any (n : Int) (w : World) (h : inB 1 4 n = true) : Calls Tryz.prog 48 #[.int .i64 n] w fun e w' => e = .returned (.int .i64 (ex n)) ∧ w = w' := by
  rcases depth_cases h with rfl | rfl | rfl | rfl
  all_goals
    clear h
    go_enter Tryz.func48, Tryz.ntmps48
    go_wp2
    go_ret
    exact ⟨rfl, rfl⟩

theorem wrap_ex {d : Int} (h : inB 1 4 d = true) : wrap64 (2 ^ d.toNat) = ex d ∧ wrap64 (ex d - 1) = ex d - 1 ∧ 2 ≤ ex d ∧ ex d ≤ 16 := by
  rcases depth_cases h with rfl | rfl | rfl | rfl <;> exact ⟨by kernel_rfl, by kernel_rfl, by decide +kernel, by decide +kernel⟩

theorem isExit_any (d n : Int) (w : World) (h : inB 1 4 d = true) : Calls Tryz.prog 85 #[.int .i64 d, .int .i64 n] w fun e w' => e = .returned (.bool (inB 0 (ex d - 1) n)) ∧ w = w' := by
  have h1 : 1 ≤ d ∧ d ≤ 4 := by simpa [inB] using h
  obtain ⟨h2, h3⟩ := h1
  have HW := Lib.hid (wrap_ex h)
  clear h
  go_enter Tryz.func85, Tryz.ntmps85
  go_wp2_with fail
  rw [HW.out.1, HW.out.2.1]
  refine (within_any _ _ _ _).mono ?_
  rintro e w' ⟨rfl, rfl⟩
  go_wp2
  go_ret
  exact ⟨rfl, rfl⟩

/-- Is the i-th stuck switch valid beside the one before it? -/
def okS (d : Int) (xs : List (Int × Int)) (i : Nat) : Bool :=
  inB 1 (ex d - 1) (xs.getD i (0, 0)).1 && inB 0 1 (xs.getD i (0, 0)).2 && (decide (i = 0) || decide ((xs.getD (i - 1) (0, 0)).1 < (xs.getD i (0, 0)).1))
def okStuck (d : Int) (xs : List (Int × Int)) : Bool := inB 1 4 d && (List.range xs.length).all (okS d xs)

theorem okStuck_no {d : Int} {xs : List (Int × Int)} {k : Nat} (hk : k < xs.length) (h : okS d xs k = false) : okStuck d xs = false := by
  have : (List.range xs.length).all (okS d xs) = false := by
    rw [List.all_eq_false]; exact ⟨k, List.mem_range.2 hk, by simp [h]⟩
  simp [okStuck, this]
theorem okStuck_yes {d : Int} {xs : List (Int × Int)} (h : ∀ j, j < xs.length → okS d xs j = true) (hd : inB 1 4 d = true) : okStuck d xs = true := by
  have : (List.range xs.length).all (okS d xs) = true := by
    rw [List.all_eq_true]; intro j hj; exact h j (List.mem_range.1 hj)
  simp [okStuck, this, hd]

theorem implValidStuck_any (d : Int) (v : Value) (xs : List (Int × Int)) (w : World) (hv : SI P2 w v xs) :
    Calls Tryz.prog 45 #[.int .i64 d, v] w fun e w' => e = .returned (.bool (okStuck d xs)) ∧ Below w.heap.size w w' := by
  obtain ⟨a, cap, rfl⟩ := hv.shape
  have hl := hv.len
  have HV := Lib.hid hv
  clear hv
  cases hd : inB 1 4 d with
  | false =>
    go_enter Tryz.func45, Tryz.ntmps45
    go_wp2_with (go_at_call 78; refine (isDepth_any _ _).mono ?_; rintro e w' ⟨rfl, rfl⟩)
    go_ret
    exact ⟨ret_bool (by simp [okStuck, hd]), Below.refl _ _⟩
  | true =>
    have HD := Lib.hid hd
    have h1 : 1 ≤ d ∧ d ≤ 4 := by simpa [inB] using hd
    obtain ⟨d1, d2⟩ := h1
    obtain ⟨e0, e2, e3, e4⟩ := wrap_ex hd
    have E0 := Lib.hid e0
    have E2 := Lib.hid e2
    clear e0 e2
    go_enter Tryz.func45, Tryz.ntmps45
    go_wp2_with (go_at_call 78; refine (isDepth_any _ _).mono ?_; rintro e w' ⟨rfl, rfl⟩)
    clear hd
    go_loopw [4, 12] (fun r i wr => ∃ k : Nat, k ≤ xs.length ∧ r = .bool false ∧ i = .int .i64 k ∧ Below w.heap.size w wr ∧ ∀ j, j < k → okS d xs j = true) (fun _ i _ => xs.length - (intOf i).toNat)
    case atStart => exact ⟨0, Nat.zero_le _, rfl, rfl, Below.refl _ _, fun j hj => absurd hj (Nat.not_lt_zero _)⟩
    case round =>
      obtain ⟨k, hk, rfl, rfl, hw, hall⟩ := hrel
      have HA := Lib.hid hall
      clear hall
      by_cases hlt : k < xs.length
      · obtain ⟨b, off, rfl, hb, hc⟩ := HV.out.cells2 (by omega)
        obtain ⟨g1, g2⟩ := hc k hlt
        replace g1 := (hw.cell (p := ⟨b, off + k * 2, none⟩) hb).trans g1
        replace g2 := (hw.cell (p := ⟨b, off + k * 2 + 1, none⟩) hb).trans g2
        have hok : okS d xs k = (inB 1 (ex d - 1) (xs.getD k (0, 0)).1 && inB 0 1 (xs.getD k (0, 0)).2 && (decide (k = 0) || decide ((xs.getD (k - 1) (0, 0)).1 < (xs.getD k (0, 0)).1))) := rfl
        have hbw : b < wr.heap.size := Nat.lt_of_lt_of_le hb hw.size
        have hkx : (k : Int) < xs.length := by omega
        have hk0 : (0 : Int) ≤ k := by omega
        generalize xs.getD k (0, 0) = p at g1 g2 hok
        obtain ⟨x, y⟩ := p
        simp only at g1 g2 hok
        cases h1 : inB 1 (ex d - 1) x with
        | false =>
          have HN := Lib.hid (okStuck_no hlt (hok.trans (by simp [h1])))
          clear hok hc
          go_wp2_with fail
          have e0 := E0.out
          have e2 := E2.out
          go_quiet ((go_at_call 59; exact quiet_eq (within_any _ _ _ _)))
          clear e0 e2
          go_wp2
          go_ret
          exact ⟨ret_bool HN.out.symm, below_drewN (hw.alloc hw.size _) _⟩
        | true =>
          cases h2 : inB 0 1 y with
          | false =>
            have HN := Lib.hid (okStuck_no hlt (hok.trans (by simp [h2])))
            clear hok hc
            go_wp2_with fail
            have e0 := E0.out
            have e2 := E2.out
            go_quiet ((go_at_call 59; exact quiet_eq (within_any _ _ _ _)))
            clear e0 e2
            go_wp2
            go_ret
            exact ⟨ret_bool HN.out.symm, below_drewN (hw.alloc hw.size _) _⟩
          | true =>
            by_cases hk1 : k = 0
            · have hk2 : decide ((0 : Int) < k) = false := by rw [decide_eq_false_iff_not]; omega
              have hk3 : decide (0 < k) = false := by rw [decide_eq_false_iff_not]; omega
              have hn : okS d xs k = true := hok.trans (by simp [h1, h2, hk1])
              clear hk1
              have HN := Lib.hid hn
              clear hn
              clear hok hc
              go_wp2_with fail
              have e0 := E0.out
              have e2 := E2.out
              go_quiet ((go_at_call 59; exact quiet_eq (within_any _ _ _ _)))
              clear e0 e2
              go_wp2
              go_roundw
              case rel => exact ⟨k + 1, by omega, rfl, by go_num, below_drewN (hw.alloc hw.size _) _, fun j hj => by
                by_cases e : j = k
                · rw [e]; exact HN.out
                · exact HA.out j (by omega)⟩
              case measure => simp [intOf]; omega
            · obtain ⟨g3, _⟩ := hc (k - 1) (by omega)
              replace g3 := (hw.cell (p := ⟨b, off + (k - 1) * 2, none⟩) hb).trans g3
              have hk2 : decide ((0 : Int) < k) = true := by rw [decide_eq_true_iff]; omega
              have hk3 : decide (0 < k) = true := by rw [decide_eq_true_iff]; omega
              generalize (xs.getD (k - 1) (0, 0)).1 = z at g3 hok
              have hk5 : (k : Int) - 1 < xs.length := by omega
              have hk4 : (0 : Int) ≤ (k : Int) - 1 := by omega
              have hk6 : IntKind.i64.wrap ((k : Int) - 1) = (k : Int) - 1 := IntWalk.i64_in _ (by omega)
              have hk7 : ((k : Int) - 1).toNat = k - 1 := by omega
              have K6 := Lib.hid hk6
              have K7 := Lib.hid hk7
              clear hk6 hk7
              by_cases hz : z < x
              · have hz2 : decide (x ≤ z) = false := by rw [decide_eq_false_iff_not]; omega
                have hn : okS d xs k = true := hok.trans (by simp [h1, h2, hz])
                have HN := Lib.hid hn
                clear hn
                clear hok hc
                go_wp2_with fail
                have e0 := E0.out
                have e2 := E2.out
                have k6 := K6.out
                have k7 := K7.out
                go_quiet ((go_at_call 59; exact quiet_eq (within_any _ _ _ _)))
                clear e0 e2 k6 k7
                go_wp2
                go_roundw
                case rel => exact ⟨k + 1, by omega, rfl, by go_num, below_drewN (hw.alloc hw.size _) _, fun j hj => by
                  by_cases e : j = k
                  · rw [e]; exact HN.out
                  · exact HA.out j (by omega)⟩
                case measure => simp [intOf]; omega
              · have hz2 : decide (x ≤ z) = true := by rw [decide_eq_true_iff]; omega
                have HN := Lib.hid (okStuck_no hlt (hok.trans (by simp [hk1, hz])))
                clear hok hc
                go_wp2_with fail
                have e0 := E0.out
                have e2 := E2.out
                have k6 := K6.out
                have k7 := K7.out
                go_quiet ((go_at_call 59; exact quiet_eq (within_any _ _ _ _)))
                clear e0 e2 k6 k7
                go_wp2
                go_ret
                exact ⟨ret_bool HN.out.symm, below_drewN (hw.alloc hw.size _) _⟩
      · go_wp2
        go_ret
        exact ⟨ret_bool (okStuck_yes (fun j hj => HA.out j (by omega)) HD.out).symm, hw⟩

end Go.Proofs.YthlpbeohlhhblaaGreat
namespace Go.Proofs.YthlpbeohlhhblaaGreat
open Go.RowKit

/-- Digit k of an address of d digits, the first one being 0. -/
def dig (d a k : Int) : Int := (a / 2 ^ (d - 1 - k).toNat) % 2

theorem dig_01 (d a k : Int) : 0 ≤ dig d a k ∧ dig d a k ≤ 1 := by unfold dig; omega

/-- The k-th switch of the way to an exit. -/
def wayAt (d e : Int) : Nat → Int
  | 0 => 1
  | k + 1 => 2 * wayAt d e k + dig d e k

theorem pow_le {k : Nat} (hk : k ≤ 4) : (2 : Int) ^ (k + 1) ≤ 32 := by
  rcases (by omega : k = 0 ∨ k = 1 ∨ k = 2 ∨ k = 3 ∨ k = 4) with rfl | rfl | rfl | rfl | rfl <;> decide +kernel

theorem wayAt_pow (d e : Int) (k : Nat) : (2 : Int) ^ k ≤ wayAt d e k ∧ wayAt d e k + 1 ≤ 2 ^ (k + 1) := by
  induction k with
  | zero => simp [wayAt]
  | succ k ih =>
    have h := dig_01 d e k
    have e1 : (2 : Int) ^ (k + 1) = 2 * 2 ^ k := by rw [Int.pow_succ]; omega
    have e2 : (2 : Int) ^ (k + 1 + 1) = 2 * 2 ^ (k + 1) := by rw [Int.pow_succ]; omega
    simp only [wayAt]
    omega

theorem pow_pos1 (k : Nat) : (1 : Int) ≤ 2 ^ k := by
  induction k with
  | zero => simp
  | succ k ih => rw [Int.pow_succ]; omega

theorem wayAt_bound (d e : Int) (k : Nat) (hk : k ≤ 4) : 1 ≤ wayAt d e k ∧ wayAt d e k ≤ 31 := by
  have h := wayAt_pow d e k
  have h1 := pow_le hk
  have h2 := pow_pos1 k
  omega

/-- All switches of the way to an exit. -/
def way (d e : Int) : List Int := (List.range d.toNat).map (wayAt d e)

def valSwitches (d e : Int) : List Int × Int :=
  if inB 1 4 d then (if inB 0 (ex d - 1) e then (way d e, 0) else ([], 2)) else ([], 1)

theorem dig_bits (d a k : Int) (ha : 0 ≤ a) (ha2 : a ≤ 9223372036854775807) : bits BinOp.and IntKind.i64 (a / 2 ^ (d - 1 - k).toNat) 1 = dig d a k := by
  obtain ⟨n, rfl⟩ : ∃ n : Nat, a = n := ⟨a.toNat, by omega⟩
  unfold dig
  generalize (d - 1 - k).toNat = m
  have e : ((n : Int) / 2 ^ m) = ((n / 2 ^ m : Nat) : Int) := by rw [Int.natCast_ediv, Int.natCast_pow]; rfl
  have hle : n / 2 ^ m ≤ n := Nat.div_le_self _ _
  rw [e, and_one _ (by omega)]
  omega

theorem digit_any (d a k : Int) (w : World) (h0 : 0 ≤ k) (h1 : k < d) (h2 : d ≤ 4) (ha : 0 ≤ a) (ha2 : a ≤ 9223372036854775807) : Calls Tryz.prog 81 #[.int .i64 d, .int .i64 a, .int .i64 k] w fun e w' => e = .returned (.int .i64 (dig d a k)) ∧ w = w' := by
  have HD := Lib.hid (dig_bits d a k ha ha2)
  go_enter Tryz.func81, Tryz.ntmps81
  go_wp2
  go_ret
  exact ⟨ret_int HD.out, rfl⟩

theorem range_snoc (f : Nat → Int) (k : Nat) : (List.range k).map f ++ [f k] = (List.range (k + 1)).map f := by rw [List.range_succ, List.map_append]; rfl

theorem switchesTo_any (d x : Int) (w : World) (hd : inB 1 4 d = true) (hx : 0 ≤ x) (hx2 : x ≤ 9223372036854775807) : Calls Tryz.prog 103 #[.int .i64 d, .int .i64 x] w fun e w' => ∃ v', e = .returned v' ∧ OI 2 w' w.heap.size v' (way d x) ∧ Below w.heap.size w w' := by
  obtain ⟨n, rfl⟩ : ∃ n : Nat, d = n := ⟨d.toNat, by simp [inB] at hd; omega⟩
  have hn : 1 ≤ n ∧ n ≤ 4 := by simp [inB] at hd; omega
  obtain ⟨hn1, hn4⟩ := hn
  clear hd
  obtain ⟨i0, hi, hz0, hz1, hz2⟩ := info_parts info64
  have HI := Lib.hid hi
  clear hi
  go_enter Tryz.func103, Tryz.ntmps103
  go_wp2
  go_loopw [5, 6, 10] (fun vo vv i wr => ∃ (k : Nat) (o : Value) (v : Int), k ≤ n ∧ vo = o ∧ vv = .int .i64 v ∧ v = wayAt n x k ∧ i = .int .i64 k ∧ Below w.heap.size w wr ∧ OI 2 wr w.heap.size o ((List.range k).map (wayAt n x))) (fun _ _ i _ => n - (intOf i).toNat)
  case atStart => exact ⟨0, _, 1, Nat.zero_le _, rfl, rfl, rfl, rfl, (Below.refl _ _).alloc (Nat.le_refl _) _, OI.lit0 _ _ _ (Nat.le_refl _)⟩
  case round =>
    obtain ⟨k, o, v, hk, rfl, rfl, hv, rfl, hw, ho⟩ := hrel
    have HO := Lib.hid ho
    have HB := wayAt_bound n x k (by omega)
    rw [← hv] at HB
    obtain ⟨v1, v2⟩ := HB
    have HV := Lib.hid hv
    clear ho hv
    by_cases hlt : k < n
    · go_wp2_with (at_builtin; refine wpList_app1n rfl _ _ 24 rfl 2 _ i0 Tryz.underlying24 HI.out hz0 hz1 hz2 w.heap.size _ _ rfl HO.out _ _ (by simp) rfl ?_ ?_ hw.size ?_)
      · unfold Good; omega
      · simp; omega
      · intro v9 w9 h1 h2 _
        have hb9 := HO.out.step hw h2
        have H9 := Lib.hid h1
        clear h1 h2
        have hdd := dig_01 n x k
        generalize hdg : dig n x k = dg at hdd
        have HG := Lib.hid hdg
        clear hdg
        obtain ⟨d1, d2⟩ := hdd
        go_wp2_with (go_at_call 81; refine (digit_any n x k _ (by omega) (by omega) (by omega) hx hx2).mono ?_; rintro e w' ⟨rfl, rfl⟩; rw [HG.out])
        go_roundw
        case rel => exact ⟨k + 1, _, _, by omega, rfl, rfl, by rw [wayAt, HG.out, ← HV.out], by go_num, hb9, by rw [← range_snoc, ← HV.out]; exact H9.out⟩
        case measure => simp [intOf]; omega
    · have hkn : k = n := by omega
      subst hkn
      go_wp2
      go_ret
      exact ⟨_, rfl, HO.out, hw⟩

theorem valSwitches_len (d x : Int) : (valSwitches d x).1.length ≤ 1048576 := by
  unfold valSwitches
  split
  · rename_i h
    split
    · simp [way]; simp [inB] at h; omega
    · simp
  · simp

end Go.Proofs.YthlpbeohlhhblaaGreat
namespace Go.Proofs.YthlpbeohlhhblaaGreat
open Go.RowKit

/-- The side at which a switch is stuck; -1 if it is not. -/
def sideF (xs : List (Int × Int)) (v : Int) : Int := match xs.find? (fun p => p.1 == v) with | some p => p.2 | none => -1

theorem sideF_hit {xs : List (Int × Int)} {v : Int} {k : Nat} (hk : k < xs.length) (hp : (xs.getD k (0, 0)).1 = v) (hn : ∀ j, j < k → (xs.getD j (0, 0)).1 ≠ v) : sideF xs v = (xs.getD k (0, 0)).2 := by
  induction xs generalizing k with
  | nil => simp at hk
  | cons x xs ih =>
    cases k with
    | zero => simp at hp; simp [sideF, hp]
    | succ k =>
      have h0 := hn 0 (by omega)
      simp at h0
      have := ih (k := k) (by simpa using hk) (by simpa using hp) (fun j hj => by have := hn (j + 1) (by omega); simpa using this)
      simp only [List.getD_cons_succ]
      rw [← this]
      simp [sideF, List.find?_cons, h0]

theorem sideF_miss {xs : List (Int × Int)} {v : Int} (hn : ∀ j, j < xs.length → (xs.getD j (0, 0)).1 ≠ v) : sideF xs v = -1 := by
  have : xs.find? (fun p => p.1 == v) = none := by
    rw [List.find?_eq_none]
    intro x hx
    obtain ⟨j, hj, rfl⟩ := List.getElem_of_mem hx
    have := hn j hj
    simp only [List.getD, List.getElem?_eq_getElem hj, Option.getD_some] at this
    simp [this]
  simp [sideF, this]

theorem okStuck_at {d : Int} {xs : List (Int × Int)} (h : okStuck d xs = true) {k : Nat} (hk : k < xs.length) : okS d xs k = true := by
  simp only [okStuck, Bool.and_eq_true, List.all_eq_true] at h
  exact h.2 k (List.mem_range.2 hk)

theorem okStuck_lt {d : Int} {xs : List (Int × Int)} (h : okStuck d xs = true) : ∀ j i, i < j → j < xs.length → (xs.getD i (0, 0)).1 < (xs.getD j (0, 0)).1 := by
  intro j
  induction j with
  | zero => intro i hi; omega
  | succ j ih =>
    intro i hi hj
    have h1 := okStuck_at h hj
    simp [okS] at h1
    have h2 := h1.2
    by_cases e : i = j
    · subst e; simpa using h2
    · have h3 := ih i (by omega) (by omega)
      simp only [List.getD] at h3 ⊢
      omega

theorem okStuck_side {d : Int} {xs : List (Int × Int)} (h : okStuck d xs = true) {k : Nat} (hk : k < xs.length) : 0 ≤ (xs.getD k (0, 0)).2 ∧ (xs.getD k (0, 0)).2 ≤ 1 := by
  have h1 := okStuck_at h hk
  simp only [okS, Bool.and_eq_true] at h1
  have h2 := h1.1.2
  simpa only [inB, Bool.and_eq_true, decide_eq_true_eq] using h2

/-- The side to which a carrier goes at a switch. -/
def goes (xs : List (Int × Int)) (v dg : Int) : Int := if sideF xs v < 0 then dg else sideF xs v

theorem sideF_bound {d : Int} {xs : List (Int × Int)} (h : okStuck d xs = true) (v : Int) : -1 ≤ sideF xs v ∧ sideF xs v ≤ 1 := by
  by_cases hn : ∀ j, j < xs.length → (xs.getD j (0, 0)).1 ≠ v
  · rw [sideF_miss hn]; omega
  · have : ∃ j, j < xs.length ∧ (xs.getD j (0, 0)).1 = v := Classical.byContradiction fun h => hn fun j hj e => h ⟨j, hj, e⟩
    obtain ⟨j, hj, hv⟩ := this
    rw [sideF_hit hj hv (fun i hi => by have := okStuck_lt h j i hi hj; omega)]
    have := okStuck_side h hj
    omega

theorem goes_01 {d : Int} {xs : List (Int × Int)} (h : okStuck d xs = true) (v dg : Int) (hd : 0 ≤ dg ∧ dg ≤ 1) : 0 ≤ goes xs v dg ∧ goes xs v dg ≤ 1 := by
  have := sideF_bound h v
  unfold goes; split <;> omega

/-- What the program's loop over the stuck switches holds behind k of them. -/
def sideTo (xs : List (Int × Int)) (v dg : Int) (k : Nat) (s : Int) : Prop :=
  (s = dg ∧ ∀ j, j < k → (xs.getD j (0, 0)).1 ≠ v) ∨ ∃ j, j < k ∧ (xs.getD j (0, 0)).1 = v ∧ s = (xs.getD j (0, 0)).2

theorem sideTo_end {d : Int} {xs : List (Int × Int)} (h : okStuck d xs = true) {v dg s : Int} (hs : sideTo xs v dg xs.length s) : s = goes xs v dg := by
  rcases hs with ⟨rfl, hn⟩ | ⟨j, hj, hv, rfl⟩
  · rw [goes, sideF_miss hn]; rfl
  · have := okStuck_side h hj
    rw [goes, sideF_hit hj hv (fun i hi => by have := okStuck_lt h j i hi hj; omega), if_neg (by omega)]

theorem sideTo_hit {xs : List (Int × Int)} {v dg : Int} {k : Nat} (hk : (xs.getD k (0, 0)).1 = v) : sideTo xs v dg (k + 1) (xs.getD k (0, 0)).2 := .inr ⟨k, by omega, hk, rfl⟩
theorem sideTo_skip {xs : List (Int × Int)} {v dg s : Int} {k : Nat} (h : sideTo xs v dg k s) (hk : (xs.getD k (0, 0)).1 ≠ v) : sideTo xs v dg (k + 1) s := by
  rcases h with ⟨rfl, hn⟩ | ⟨j, hj, hv, rfl⟩
  · refine .inl ⟨rfl, fun j hj => ?_⟩
    by_cases e : j = k
    · rw [e]; exact hk
    · exact hn j (by omega)
  · exact .inr ⟨j, by omega, hv, rfl⟩

theorem sideTo_01 {d : Int} {xs : List (Int × Int)} (h : okStuck d xs = true) {v dg s : Int} {k : Nat} (hk : k ≤ xs.length) (hd : 0 ≤ dg ∧ dg ≤ 1) (hs : sideTo xs v dg k s) : 0 ≤ s ∧ s ≤ 1 := by
  rcases hs with ⟨rfl, _⟩ | ⟨j, hj, _, rfl⟩
  · exact hd
  · exact okStuck_side h (by omega)

/-- The k-th switch at which a carrier comes. -/
def runAt (d : Int) (xs : List (Int × Int)) (a : Int) : Nat → Int
  | 0 => 1
  | k + 1 => 2 * runAt d xs a k + goes xs (runAt d xs a k) (dig d a k)

theorem runAt_pow {d : Int} {xs : List (Int × Int)} (h : okStuck d xs = true) (a : Int) (k : Nat) : (2 : Int) ^ k ≤ runAt d xs a k ∧ runAt d xs a k + 1 ≤ 2 ^ (k + 1) := by
  induction k with
  | zero => simp [runAt]
  | succ k ih =>
    have h := goes_01 h (runAt d xs a k) (dig d a k) (dig_01 d a k)
    have e1 : (2 : Int) ^ (k + 1) = 2 * 2 ^ k := by rw [Int.pow_succ]; omega
    have e2 : (2 : Int) ^ (k + 1 + 1) = 2 * 2 ^ (k + 1) := by rw [Int.pow_succ]; omega
    simp only [runAt]
    omega

theorem runAt_bound {d : Int} {xs : List (Int × Int)} (h : okStuck d xs = true) (a : Int) (k : Nat) (hk : k ≤ 4) : 1 ≤ runAt d xs a k ∧ runAt d xs a k ≤ 31 := by
  have h := runAt_pow h a k
  have h1 := pow_le hk
  have h2 := pow_pos1 k
  omega

/-- The exit to which a carrier runs. -/
def runE (d : Int) (xs : List (Int × Int)) (a : Int) : Int := runAt d xs a d.toNat - ex d

theorem runE_bound {d : Int} {xs : List (Int × Int)} (h : okStuck d xs = true) (a : Int) : 0 ≤ runE d xs a ∧ runE d xs a ≤ ex d - 1 := by
  have h := runAt_pow h a d.toNat
  have e2 : (2 : Int) ^ (d.toNat + 1) = 2 * 2 ^ d.toNat := by rw [Int.pow_succ]; omega
  unfold runE ex
  omega

def valExit (d : Int) (xs : List (Int × Int)) (a : Int) : Int × Int :=
  if okStuck d xs then (if inB 0 (ex d - 1) a then (runE d xs a, 0) else (0, 2)) else (0, 1)

theorem okStuck_depth {d : Int} {xs : List (Int × Int)} (h : okStuck d xs = true) : inB 1 4 d = true := by
  simp only [okStuck, Bool.and_eq_true] at h; exact h.1

theorem exitOf_any (d : Int) (v : Value) (xs : List (Int × Int)) (x : Int) (w : World) (hv : SI P2 w v xs) (hok : okStuck d xs = true) (x0 : 0 ≤ x) (x1 : x ≤ 9223372036854775807) :
    Calls Tryz.prog 47 #[.int .i64 d, v, .int .i64 x] w fun e w' => e = .returned (.int .i64 (runE d xs x)) ∧ Below w.heap.size w w' := by
  obtain ⟨a, cap, rfl⟩ := hv.shape
  have hl := hv.len
  have HV := Lib.hid hv
  have HK := Lib.hid hok
  have hd := okStuck_depth hok
  obtain ⟨n, rfl⟩ : ∃ n : Nat, d = n := ⟨d.toNat, by simp [inB] at hd; omega⟩
  have hn : 1 ≤ n ∧ n ≤ 4 := by simp [inB] at hd; omega
  obtain ⟨hn1, hn4⟩ := hn
  obtain ⟨e1, _, e3, e4⟩ := wrap_ex hd
  have e1' : wrap64 (2 ^ n) = ex n := by simpa using e1
  have E1 := Lib.hid e1'
  clear hv hok hd e1 e1'
  go_enter Tryz.func47, Tryz.ntmps47
  go_wp2
  go_loopw [7, 13] (fun vv i wr => ∃ (k : Nat) (v : Int), k ≤ n ∧ vv = .int .i64 v ∧ v = runAt n xs x k ∧ i = .int .i64 k ∧ Below w.heap.size w wr) (fun _ i _ => n - (intOf i).toNat)
  case atStart => exact ⟨0, 1, Nat.zero_le _, rfl, rfl, rfl, Below.refl _ _⟩
  case round =>
    obtain ⟨k, v, hk, rfl, hv, rfl, hw⟩ := hrel
    have HB := runAt_bound HK.out x k (by omega)
    rw [← hv] at HB
    obtain ⟨v1, v2⟩ := HB
    have HR := Lib.hid hv
    clear hv
    by_cases hlt : k < n
    · have hdd := dig_01 n x k
      generalize hdg : dig n x k = dg at hdd
      have HG := Lib.hid hdg
      clear hdg
      have HDD := Lib.hid hdd
      obtain ⟨d1, d2⟩ := hdd
      obtain ⟨wo, rfl⟩ : ∃ wo : World, wo = wr := ⟨_, rfl⟩
      go_wp2_with (go_at_call 81; refine (digit_any n x k _ (by omega) (by omega) (by omega) x0 x1).mono ?_; rintro e w' ⟨rfl, rfl⟩; rw [HG.out])
      go_loopw [9, 22] (fun ss i wr => ∃ (j : Nat) (s : Int), j ≤ xs.length ∧ ss = .int .i64 s ∧ sideTo xs v dg j s ∧ i = .int .i64 j ∧ Below w.heap.size w wr) (fun _ i _ => xs.length - (intOf i).toNat)
      case atStart => exact ⟨0, dg, Nat.zero_le _, rfl, .inl ⟨rfl, fun j hj => absurd hj (Nat.not_lt_zero _)⟩, rfl, hw⟩
      case round =>
        obtain ⟨j, s, hj, rfl, hs, rfl, hw2⟩ := hrel
        have HS := Lib.hid hs
        obtain ⟨s1, s2⟩ := sideTo_01 HK.out hj HDD.out hs
        clear hs
        by_cases hjl : j < xs.length
        · obtain ⟨b, off, rfl, hb, hc⟩ := HV.out.cells2 (by omega)
          obtain ⟨g1, g2⟩ := hc j hjl
          replace g1 := (hw2.cell (p := ⟨b, off + j * 2, none⟩) hb).trans g1
          replace g2 := (hw2.cell (p := ⟨b, off + j * 2 + 1, none⟩) hb).trans g2
          clear hc
          generalize hp : xs.getD j (0, 0) = p at g1 g2
          have HP := Lib.hid hp
          clear hp
          obtain ⟨y, z⟩ := p
          simp only at g1 g2
          by_cases hyv : y = v
          · have he : (y == v) = true := by simp [hyv]
            have HX := Lib.hid hyv
            clear hyv
            go_wp2
            go_roundw
            case rel =>
              refine ⟨j + 1, z, by omega, rfl, ?_, by go_num, hw2.alloc hw2.size _⟩
              have := sideTo_hit (dg := dg) (show (xs.getD j (0, 0)).1 = v by rw [HP.out]; exact HX.out)
              rw [HP.out] at this
              exact this
            case measure => simp [intOf]; omega
          · have he : (y == v) = false := by simp [hyv]
            have HX := Lib.hid hyv
            clear hyv
            go_wp2
            go_roundw
            case rel => exact ⟨j + 1, s, by omega, rfl, sideTo_skip HS.out (by rw [HP.out]; exact HX.out), by go_num, hw2.alloc hw2.size _⟩
            case measure => simp [intOf]; omega
        · have hjx : j = xs.length := by omega
          have hfin := HS.out
          rw [hjx] at hfin
          have HF := Lib.hid (sideTo_end HK.out hfin)
          clear hfin hjx
          go_wp2
          go_roundw
          case rel => exact ⟨k + 1, _, by omega, rfl, by rw [runAt, ← HR.out, HG.out, ← HF.out], by go_num, hw2⟩
          case measure => simp [intOf]; omega
    · have hkn : k = n := by omega
      subst hkn
      have e1 := E1.out
      go_wp2
      go_ret
      exact ⟨ret_int (by rw [HR.out]; rfl), hw⟩

end Go.Proofs.YthlpbeohlhhblaaGreat
namespace Go.Proofs.YthlpbeohlhhblaaGreat
open Go.RowKit

/-- v, in memory from block base on, holds the bools bs; e is the element type's number. -/
def OB (e : TypeId) (w : World) (base : Nat) (v : Value) (bs : List Bool) : Prop := w.ownsRow base e 1 v bs.length (bs.map Value.bool)

theorem OB.made {e : TypeId} {w : World} {base n : Nat} {v : Value} (h : w.ownsRow base e 1 v n (madeCells (Value.bool false).cells (n * 1)).toList) : OB e w base v (List.replicate n false) := by
  simp only [Value.cells, Nat.mul_one, toList_madeCells_one] at h
  unfold OB
  simpa using h

theorem OB.cell {e : TypeId} {w : World} {base g n cap : Nat} {bs : List Bool} (h : OB e w base (.slice (some ⟨g, 0, none⟩) n cap) bs) (k : Nat) (hk : k < bs.length) :
    w.cell? ⟨g, k, none⟩ = some (.bool (bs.getD k false)) ∧ w.frozen? ⟨g, k, none⟩ = false := by
  obtain ⟨hl, h1⟩ := h
  have hn : n = bs.length := by
    rcases h1 with ⟨h1, _⟩ | ⟨g', cap', cur, h1, _⟩
    · simp at h1
    · simp only [Value.slice.injEq] at h1; exact h1.2.1
  subst hn
  have h' : w.ownsRow base e 1 (.slice (some ⟨g, 0, none⟩) bs.length cap) bs.length (bs.map Value.bool) := ⟨hl, h1⟩
  exact ⟨by rw [h'.cellAt k (by omega)]; simp [List.getD, List.getElem?_eq_getElem hk], h'.frozenAt k⟩

theorem OB.set {e : TypeId} {w : World} {base g n cap : Nat} {bs : List Bool} (h : OB e w base (.slice (some ⟨g, 0, none⟩) n cap) bs) (k : Nat) (x : Bool) :
    OB e (w.setCell ⟨g, k, none⟩ (.bool x)) base (.slice (some ⟨g, 0, none⟩) n cap) (bs.set k x) ∧ w.grownBy (w.setCell ⟨g, k, none⟩ (.bool x)) (some g) := by
  obtain ⟨hl, h1⟩ := h
  have hn : n = bs.length := by
    rcases h1 with ⟨h1, _⟩ | ⟨g', cap', cur, h1, _⟩
    · simp at h1
    · simp only [Value.slice.injEq] at h1; exact h1.2.1
  subst hn
  have h' : w.ownsRow base e 1 (.slice (some ⟨g, 0, none⟩) bs.length cap) bs.length (bs.map Value.bool) := ⟨hl, h1⟩
  obtain ⟨a, b⟩ := h'.stored k (.bool x)
  refine ⟨?_, b⟩
  unfold OB
  rw [List.map_set, List.length_set]; exact a

theorem OB.below {e : TypeId} {w w' : World} {base : Nat} {v : Value} {bs : List Bool} (h : OB e w base v bs) (hb : Below w.heap.size w w') : OB e w' base v bs := by
  refine ⟨h.1, ?_⟩
  rcases h.2 with h1 | ⟨g, cap, cur, rfl, hbg, hg, r⟩
  · exact .inl h1
  · exact .inr ⟨g, cap, cur, rfl, hbg, by rw [hb.block g (Array.getElem?_eq_some_iff.1 hg).1]; exact hg, r⟩

theorem OB.grown {e : TypeId} {w w' : World} {base : Nat} {v : Value} {bs : List Bool} {row : Option Nat} (h : OB e w base v bs) (hg : w.grownBy w' row) (hne : v.ownBlock = none ∨ v.ownBlock ≠ row) : OB e w' base v bs := World.ownsRow.kept h hg hne
theorem OB.size {e : TypeId} {w : World} {base g n cap : Nat} {bs : List Bool} (h : OB e w base (.slice (some ⟨g, 0, none⟩) n cap) bs) : g < w.heap.size := by
  rcases h.2 with ⟨h1, _⟩ | ⟨g', cap', cur, h1, _, hg, _⟩
  · simp at h1
  · simp only [Value.slice.injEq, Option.some.injEq, Addr.mk.injEq] at h1
    rw [h1.1.1]; exact (Array.getElem?_eq_some_iff.1 hg).1

end Go.Proofs.YthlpbeohlhhblaaGreat
namespace Go.Proofs.YthlpbeohlhhblaaGreat
open Go.RowKit

theorem ex_nat (n : Nat) : ex (n : Int) = ((2 ^ n : Nat) : Int) := by simp [ex]

/-- Which exits k addresses have met. -/
def metL (n : Nat) (xs : List (Int × Int)) (k : Nat) : List Bool := (List.range k).foldl (fun bs (a : Nat) => bs.set (runE n xs a).toNat true) (List.replicate (2 ^ n) false)
theorem metL_succ (n : Nat) (xs : List (Int × Int)) (k : Nat) : metL n xs (k + 1) = (metL n xs k).set (runE n xs k).toNat true := by simp [metL, List.range_succ]
theorem metL_length (n : Nat) (xs : List (Int × Int)) (k : Nat) : (metL n xs k).length = 2 ^ n := by
  induction k with
  | zero => simp [metL]
  | succ k ih => rw [metL_succ, List.length_set, ih]

/-- The numbers below k that a list of marks does not mark. -/
def lostTo (bs : List Bool) (k : Nat) : List Int := ((List.range k).filter fun e => !(bs.getD e false)).map fun (e : Nat) => (e : Int)
theorem lostTo_yes {bs : List Bool} {k : Nat} (h : bs.getD k false = true) : lostTo bs (k + 1) = lostTo bs k := by simp [lostTo, List.range_succ, List.filter_append, ← List.getD_eq_getElem?_getD, h]
theorem lostTo_no {bs : List Bool} {k : Nat} (h : bs.getD k false = false) : lostTo bs (k + 1) = lostTo bs k ++ [(k : Int)] := by simp [lostTo, List.range_succ, List.filter_append, ← List.getD_eq_getElem?_getD, h]
theorem lostTo_len (bs : List Bool) (k : Nat) : (lostTo bs k).length ≤ k := by
  unfold lostTo
  rw [List.length_map]
  exact Nat.le_trans (List.length_filter_le _ _) (by simp)

def valLost (d : Int) (xs : List (Int × Int)) : List Int × Int := if okStuck d xs then (lostTo (metL d.toNat xs (2 ^ d.toNat)) (2 ^ d.toNat), 0) else ([], 1)

theorem pow4 {n : Nat} (h : n ≤ 4) : 2 ^ n ≤ 16 := by
  rcases (by omega : n = 0 ∨ n = 1 ∨ n = 2 ∨ n = 3 ∨ n = 4) with rfl | rfl | rfl | rfl | rfl <;> decide

theorem valLost_len (d : Int) (xs : List (Int × Int)) : (valLost d xs).1.length ≤ 16 := by
  unfold valLost
  split
  · rename_i h
    have hd := okStuck_depth h
    have : d.toNat ≤ 4 := by simp [inB] at hd; omega
    exact Nat.le_trans (lostTo_len _ _) (pow4 this)
  · simp

theorem infoBoolL : (Tryz.prog.info? 4).map (fun i => (i.zero, i.size, i.bytes)) = some (some (.bool false), 1, 1) := by kernel_rfl

end Go.Proofs.YthlpbeohlhhblaaGreat
