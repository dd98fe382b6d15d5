/-
  SwitchesTo of the reference and of the program: what each returns.
-/
import Derived.Test.YtejnfngnofilfaaStuck
import Derived.Lib.RabinKarpLaws
namespace Go.Proofs.Ytejnfngnofilfaa
open Go.RowKit

/-- Digit k of an address of d digits, the first one being 0. -/
def dig (d a k : Int) : Int := (a / 2 ^ (d - 1 - k).toNat) % 2

theorem dig_01 (d a k : Int) : 0 ≤ dig d a k ∧ dig d a k ≤ 1 := by unfold dig; omega

/-- The k-th switch of the way to an exit. -/
def wayAt (d e : Int) : Nat → Int
  | 0 => 1
  | k + 1 => 2 * wayAt d e k + dig d e k

theorem pow_le {k : Nat} (hk : k ≤ 4) : (2 : Int) ^ (k + 1) ≤ 32 := by
  rcases (by omega : k = 0 ∨ k = 1 ∨ k = 2 ∨ k = 3 ∨ k = 4) with rfl | rfl | rfl | rfl | rfl <;> decide +kernel

theorem wayAt_pow (d e : Int) (k : Nat) : (2 : Int) ^ k ≤ wayAt d e k ∧ wayAt d e k + 1 ≤ 2 ^ (k + 1) := by
  induction k with
  | zero => simp [wayAt]
  | succ k ih =>
    have h := dig_01 d e k
    have e1 : (2 : Int) ^ (k + 1) = 2 * 2 ^ k := by rw [Int.pow_succ]; omega
    have e2 : (2 : Int) ^ (k + 1 + 1) = 2 * 2 ^ (k + 1) := by rw [Int.pow_succ]; omega
    simp only [wayAt]
    omega

theorem pow_pos1 (k : Nat) : (1 : Int) ≤ 2 ^ k := by
  induction k with
  | zero => simp
  | succ k ih => rw [Int.pow_succ]; omega

theorem wayAt_bound (d e : Int) (k : Nat) (hk : k ≤ 4) : 1 ≤ wayAt d e k ∧ wayAt d e k ≤ 31 := by
  have h := wayAt_pow d e k
  have h1 := pow_le hk
  have h2 := pow_pos1 k
  omega

/-- All switches of the way to an exit. -/
def way (d e : Int) : List Int := (List.range d.toNat).map (wayAt d e)

def valSwitches (d e : Int) : List Int × Int :=
  if inB 1 4 d then (if inB 0 (ex d - 1) e then (way d e, 0) else ([], 2)) else ([], 1)

theorem dig_bits (d a k : Int) (ha : 0 ≤ a) (ha2 : a ≤ 9223372036854775807) : bits BinOp.and IntKind.i64 (a / 2 ^ (d - 1 - k).toNat) 1 = dig d a k := by
  obtain ⟨n, rfl⟩ : ∃ n : Nat, a = n := ⟨a.toNat, by omega⟩
  unfold dig
  generalize (d - 1 - k).toNat = m
  have e : ((n : Int) / 2 ^ m) = ((n / 2 ^ m : Nat) : Int) := by rw [Int.natCast_ediv, Int.natCast_pow]; rfl
  have hle : n / 2 ^ m ≤ n := Nat.div_le_self _ _
  rw [e, and_one _ (by omega)]
  omega

theorem digit_any (d a k : Int) (w : World) (h0 : 0 ≤ k) (h1 : k < d) (h2 : d ≤ 4) (ha : 0 ≤ a) (ha2 : a ≤ 9223372036854775807) : Calls Try.prog 92 #[.int .i64 d, .int .i64 a, .int .i64 k] w fun e w' => e = .returned (.int .i64 (dig d a k)) ∧ w = w' := by
  have HD := Lib.hid (dig_bits d a k ha ha2)
  go_enter Try.func92, Try.ntmps92
  go_wp2
  go_ret
  exact ⟨ret_int HD.out, rfl⟩

theorem l18Digit_any (d a k : Int) (w : World) (h0 : 0 ≤ k) (h1 : k < d) (h2 : d ≤ 4) (ha : 0 ≤ a) (ha2 : a ≤ 9223372036854775807) : Calls Try.prog 65 #[.int .i64 d, .int .i64 a, .int .i64 k] w fun e w' => e = .returned (.int .i64 (dig d a k)) ∧ w = w' := by
  have HD := Lib.hid (dig_bits d a k ha ha2)
  go_enter Try.func65, Try.ntmps65
  go_wp2
  go_ret
  exact ⟨ret_int HD.out, rfl⟩

theorem range_snoc (f : Nat → Int) (k : Nat) : (List.range k).map f ++ [f k] = (List.range (k + 1)).map f := by rw [List.range_succ, List.map_append]; rfl

theorem switchesTo_any (d x : Int) (w : World) (hd : inB 1 4 d = true) (hx : 0 ≤ x) (hx2 : x ≤ 9223372036854775807) : Calls Try.prog 67 #[.int .i64 d, .int .i64 x] w fun e w' => ∃ v', e = .returned v' ∧ OI 2 w' w.heap.size v' (way d x) ∧ Below w.heap.size w w' := by
  obtain ⟨n, rfl⟩ : ∃ n : Nat, d = n := ⟨d.toNat, by simp [inB] at hd; omega⟩
  have hn : 1 ≤ n ∧ n ≤ 4 := by simp [inB] at hd; omega
  obtain ⟨hn1, hn4⟩ := hn
  clear hd
  obtain ⟨i0, hi, hz0, hz1, hz2⟩ := info_parts info64
  have HI := Lib.hid hi
  clear hi
  go_enter Try.func67, Try.ntmps67
  go_wp2
  go_loopw [5, 6, 10] (fun vo vv i wr => ∃ (k : Nat) (o : Value) (v : Int), k ≤ n ∧ vo = o ∧ vv = .int .i64 v ∧ v = wayAt n x k ∧ i = .int .i64 k ∧ Below w.heap.size w wr ∧ OI 2 wr w.heap.size o ((List.range k).map (wayAt n x))) (fun _ _ i _ => n - (intOf i).toNat)
  case atStart => exact ⟨0, _, 1, Nat.zero_le _, rfl, rfl, rfl, rfl, (Below.refl _ _).alloc (Nat.le_refl _) _, OI.lit0 _ _ _ (Nat.le_refl _)⟩
  case round =>
    obtain ⟨k, o, v, hk, rfl, rfl, hv, rfl, hw, ho⟩ := hrel
    have HO := Lib.hid ho
    have HB := wayAt_bound n x k (by omega)
    rw [← hv] at HB
    obtain ⟨v1, v2⟩ := HB
    have HV := Lib.hid hv
    clear ho hv
    by_cases hlt : k < n
    · go_wp2_with (at_builtin; refine wpList_app1n rfl _ _ 29 rfl 2 _ i0 Try.underlying29 HI.out hz0 hz1 hz2 w.heap.size _ _ rfl HO.out _ _ (by simp) rfl ?_ ?_ hw.size ?_)
      · unfold Good; omega
      · simp; omega
      · intro v9 w9 h1 h2 _
        have hb9 := HO.out.step hw h2
        have H9 := Lib.hid h1
        clear h1 h2
        have hdd := dig_01 n x k
        generalize hdg : dig n x k = dg at hdd
        have HG := Lib.hid hdg
        clear hdg
        obtain ⟨d1, d2⟩ := hdd
        go_wp2_with (go_at_call 92; refine (digit_any n x k _ (by omega) (by omega) (by omega) hx hx2).mono ?_; rintro e w' ⟨rfl, rfl⟩; rw [HG.out])
        go_roundw
        case rel => exact ⟨k + 1, _, _, by omega, rfl, rfl, by rw [wayAt, HG.out, ← HV.out], by go_num, hb9, by rw [← range_snoc, ← HV.out]; exact H9.out⟩
        case measure => simp [intOf]; omega
    · have hkn : k = n := by omega
      subst hkn
      go_wp2
      go_ret
      exact ⟨_, rfl, HO.out, hw⟩

theorem implSwitchesTo_any (d x : Int) (w : World) : Calls Try.prog 22 #[.int .i64 d, .int .i64 x] w fun e w' => ∃ v', e = .returned (.tuple #[v', .int .i64 (valSwitches d x).2]) ∧ OI 2 w' w.heap.size v' (valSwitches d x).1 ∧ Below w.heap.size w w' := by
  cases hd : inB 1 4 d with
  | false =>
    go_enter Try.func22, Try.ntmps22
    go_wp2_with (go_at_call 60; refine (isDepth_any _ _).mono ?_; rintro e w' ⟨rfl, rfl⟩; rw [hd])
    go_ret2
    rw [show valSwitches d x = ([], 1) by simp only [valSwitches, hd]; rfl]
    exact ⟨_, rfl, OI.nil _ _ _, Below.refl _ _⟩
  | true =>
    have HD := Lib.hid hd
    cases hx : inB 0 (ex d - 1) x with
    | false =>
      go_enter Try.func22, Try.ntmps22
      go_wp2_with (first | (go_at_call 60; refine (isDepth_any _ _).mono ?_; rintro e w' ⟨rfl, rfl⟩; rw [hd]) | (go_at_call 66; refine (isExit_any _ _ _ HD.out).mono ?_; rintro e w' ⟨rfl, rfl⟩; rw [hx]))
      go_ret2
      rw [show valSwitches d x = ([], 2) by simp only [valSwitches, hd, hx]; rfl]
      exact ⟨_, rfl, OI.nil _ _ _, Below.refl _ _⟩
    | true =>
      have h1 : 0 ≤ x ∧ x ≤ ex d - 1 := by simpa [inB] using hx
      obtain ⟨x0, x1⟩ := h1
      have h2 := (wrap_ex hd).2.2.2
      go_enter Try.func22, Try.ntmps22
      go_wp2_with (first | (go_at_call 60; refine (isDepth_any _ _).mono ?_; rintro e w' ⟨rfl, rfl⟩; rw [hd]) | (go_at_call 66; refine (isExit_any _ _ _ HD.out).mono ?_; rintro e w' ⟨rfl, rfl⟩; rw [hx]) | (go_at_call 67; refine (switchesTo_any _ _ _ HD.out x0 (by omega)).mono ?_; rintro e w' ⟨v', rfl, ho, hb⟩))
      have HO := Lib.hid ho
      clear ho
      go_ret2
      rw [show valSwitches d x = (way d x, 0) by simp only [valSwitches, hd, hx]; rfl]
      exact ⟨_, rfl, HO.out, hb⟩

theorem specSwitchesTo_any (d x : Int) (w : World) : Calls Try.prog 21 #[.int .i64 d, .int .i64 x] w fun e w' => ∃ v', e = .returned (.tuple #[v', .int .i64 (valSwitches d x).2]) ∧ OI 2 w' w.heap.size v' (valSwitches d x).1 ∧ Below w.heap.size w w' := by
  cases hd : inB 1 4 d with
  | false =>
    go_enter Try.func21, Try.ntmps21
    go_wp2_with (go_at_call 63; refine (l18Depth_any _ _).mono ?_; rintro e w' ⟨rfl, rfl⟩; rw [hd])
    go_ret2
    rw [show valSwitches d x = ([], 1) by simp only [valSwitches, hd]; rfl]
    exact ⟨_, rfl, OI.nil _ _ _, Below.refl _ _⟩
  | true =>
    have HD := Lib.hid hd
    cases hx : inB 0 (ex d - 1) x with
    | false =>
      go_enter Try.func21, Try.ntmps21
      go_wp2_with (first | (go_at_call 63; refine (l18Depth_any _ _).mono ?_; rintro e w' ⟨rfl, rfl⟩; rw [hd]) | (go_at_call 64; refine (l18Exit_any _ _ _ HD.out).mono ?_; rintro e w' ⟨rfl, rfl⟩; rw [hx]))
      go_ret2
      rw [show valSwitches d x = ([], 2) by simp only [valSwitches, hd, hx]; rfl]
      exact ⟨_, rfl, OI.nil _ _ _, Below.refl _ _⟩
    | true =>
      have hval : valSwitches d x = (way d x, 0) := by simp only [valSwitches, hd, hx]; rfl
      rw [hval]
      clear hval
      have h1 : 0 ≤ x ∧ x ≤ ex d - 1 := by simpa [inB] using hx
      obtain ⟨x0, x1⟩ := h1
      have h2 := (wrap_ex hd).2.2.2
      obtain ⟨n, rfl⟩ : ∃ n : Nat, d = n := ⟨d.toNat, by simp [inB] at hd; omega⟩
      have hn : 1 ≤ n ∧ n ≤ 4 := by simp [inB] at hd; omega
      obtain ⟨hn1, hn4⟩ := hn
      obtain ⟨i0, hi, hz0, hz1, hz2⟩ := info_parts info64
      have HI := Lib.hid hi
      clear hi
      go_enter Try.func21, Try.ntmps21
      go_wp2_with (first | (go_at_call 63; refine (l18Depth_any _ _).mono ?_; rintro e w' ⟨rfl, rfl⟩; rw [hd]) | (go_at_call 64; refine (l18Exit_any _ _ _ HD.out).mono ?_; rintro e w' ⟨rfl, rfl⟩; rw [hx]))
      clear hd hx
      go_loopw [6, 7, 8] (fun vo vv i wr => ∃ (k : Nat) (o : Value) (v : Int), k ≤ n ∧ vo = o ∧ vv = .int .i64 v ∧ v = wayAt n x k ∧ i = .int .i64 k ∧ Below w.heap.size w wr ∧ OI 2 wr w.heap.size o ((List.range k).map (wayAt n x))) (fun _ _ i _ => n - (intOf i).toNat)
      case atStart => exact ⟨0, _, 1, Nat.zero_le _, rfl, rfl, rfl, rfl, (Below.refl _ _).alloc (Nat.le_refl _) _, OI.lit0 _ _ _ (Nat.le_refl _)⟩
      case round =>
        obtain ⟨k, o, v, hk, rfl, rfl, hv, rfl, hw, ho⟩ := hrel
        have HO := Lib.hid ho
        have HB := wayAt_bound n x k (by omega)
        rw [← hv] at HB
        obtain ⟨v1, v2⟩ := HB
        have HV := Lib.hid hv
        clear ho hv
        by_cases hlt : k < n
        · go_wp2_with (at_builtin; refine wpList_app1n rfl _ _ 29 rfl 2 _ i0 Try.underlying29 HI.out hz0 hz1 hz2 w.heap.size _ _ rfl HO.out _ _ (by simp) rfl ?_ ?_ hw.size ?_)
          · unfold Good; omega
          · simp; omega
          · intro v9 w9 h1 h2 _
            have hb9 := HO.out.step hw h2
            have H9 := Lib.hid h1
            clear h1 h2
            have hdd := dig_01 n x k
            generalize hdg : dig n x k = dg at hdd
            have HG := Lib.hid hdg
            clear hdg
            obtain ⟨d1, d2⟩ := hdd
            go_wp2_with (go_at_call 65; refine (l18Digit_any n x k _ (by omega) (by omega) (by omega) x0 (by omega)).mono ?_; rintro e w' ⟨rfl, rfl⟩; rw [HG.out])
            go_roundw
            case rel => exact ⟨k + 1, _, _, by omega, rfl, rfl, by rw [wayAt, HG.out, ← HV.out], by go_num, hb9, by rw [← range_snoc, ← HV.out]; exact H9.out⟩
            case measure => simp [intOf]; omega
        · have hkn : k = n := by omega
          subst hkn
          go_wp2
          go_ret2
          exact ⟨_, rfl, HO.out, hw⟩

theorem valSwitches_len (d x : Int) : (valSwitches d x).1.length ≤ 1048576 := by
  unfold valSwitches
  split
  · rename_i h
    split
    · simp [way]; simp [inB] at h; omega
    · simp
  · simp

end Go.Proofs.Ytejnfngnofilfaa
