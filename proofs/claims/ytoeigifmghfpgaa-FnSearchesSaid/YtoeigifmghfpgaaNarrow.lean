/-
  NarrowTo of both sides.
-/
import Derived.Test.YtoeigifmghfpgaaSteps
namespace Go.Proofs.Ytoeigifmghfpgaa
open Go.RowKit Plain

theorem l00Min_any (a b : Int) (w : World) : Calls Try.prog 50 #[.int .i64 a, .int .i64 b] w fun e w' => e = .returned (.int .i64 (min a b)) ∧ w = w' := by
  by_cases h : a < b
  · go_enter Try.func50, Try.ntmps50
    go_wp2
    go_ret
    exact ⟨ret_int (by omega), rfl⟩
  · go_enter Try.func50, Try.ntmps50
    go_wp2
    go_ret
    exact ⟨ret_int (by omega), rfl⟩

/-- The byte at a place. -/
def byteAt (s : ByteArray) (k : Nat) : Nat := (s.data.toList.getD k 0).toNat

/-- What is left after the first k answers; none if one of them is none. -/
def narrow (s : ByteArray) (n : Int) : Nat → Option (Int × Int)
  | 0 => some (0, n)
  | k + 1 => match narrow s n k with
    | none => none
    | some (lo, hi) => if byteAt s k = 60 then some (lo, min hi k) else if byteAt s k = 62 then some (max lo (k + 1), hi) else if byteAt s k = 63 then some (lo, hi) else none

theorem narrow_none (s : ByteArray) (n : Int) (k m : Nat) (h : k ≤ m) (hk : narrow s n k = none) : narrow s n m = none := by
  induction m with
  | zero => obtain rfl : k = 0 := by omega
            exact hk
  | succ m ih =>
    by_cases e : k = m + 1
    · subst e; exact hk
    · simp only [narrow, ih (by omega)]

theorem narrow_bounds (s : ByteArray) (n : Int) (hn : 0 ≤ n) (k : Nat) (lo hi : Int) (h : narrow s n k = some (lo, hi)) : 0 ≤ lo ∧ lo ≤ k ∧ 0 ≤ hi ∧ hi ≤ n := by
  induction k generalizing lo hi with
  | zero => simp [narrow] at h; omega
  | succ k ih =>
    simp only [narrow] at h
    cases hq : narrow s n k with
    | none => rw [hq] at h; simp at h
    | some q =>
      obtain ⟨l, r⟩ := q
      rw [hq] at h
      have := ih l r hq
      simp only at h
      split at h
      · simp at h; omega
      · split at h
        · simp at h; omega
        · split at h
          · simp at h; omega
          · simp at h

/-- The sections that are left, and a code. -/
def valNarrow (xs : List Int) (s : ByteArray) : Int × Int × Int :=
  if okOpen xs = true then
    if s.size = xs.length then
      match narrow s xs.length xs.length with
      | none => (0, 0, 7)
      | some (lo, hi) => if hi < lo then (0, 0, 9) else (lo, hi, 0)
    else (0, 0, 7)
  else (0, 0, 1)

theorem byte_eq (s : ByteArray) (k : Nat) (h : k < s.size) : ((s[k]'h).toNat : Int) = (byteAt s k : Int) := by
  unfold byteAt
  have h2 : k < s.data.toList.length := by simpa using h
  rw [List.getD, List.getElem?_eq_getElem h2, Option.getD_some]
  rfl

set_option maxHeartbeats 2000000 in
theorem specNarrowTo_any (v : Value) (xs : List Int) (s : ByteArray) (w : World) (hv : RI w v xs) (hs : s.size ≤ 1048576) :
    Calls Try.prog 28 #[v, .string s] w fun e w' => e = .returned (.tuple #[.int .i64 (valNarrow xs s).1, .int .i64 (valNarrow xs s).2.1, .int .i64 (valNarrow xs s).2.2]) ∧ Below w.heap.size w w' := by
  obtain ⟨a, cap, rfl⟩ := hv.shape
  have hl := hv.len
  have HV := Lib.hid hv
  clear hv
  cases hok : okOpen xs with
  | false =>
    have HE : Hid (valNarrow xs s = (0, 0, 1)) := if_neg (by rw [hok]; simp)
    go_enter Try.func28, Try.ntmps28
    go_wp2_with (go_at_call 40; refine (l16Ok_any _ xs _ HV.out).mono ?_; rintro e w1 ⟨rfl, rfl⟩)
    go_ret3
    exact ⟨ret_iii (by rw [HE.out]) (by rw [HE.out]) (by rw [HE.out]), Below.refl _ _⟩
  | true =>
    have l9 := okOpen_len hok
    by_cases hn : s.size = xs.length
    · have HE : Hid (valNarrow xs s = match narrow s xs.length xs.length with | none => (0, 0, 7) | some (lo, hi) => if hi < lo then (0, 0, 9) else (lo, hi, 0)) := (if_pos hok).trans (if_pos hn)
      have hb : ((s.size : Int) != (xs.length : Int)) = false := by rw [hn]; simp
      have HN := Lib.hid hn
      have hle1 : s.size ≤ xs.length := by omega
      have hle2 : xs.length ≤ s.size := by omega
      clear hn
      go_enter Try.func28, Try.ntmps28
      go_wp2_with (go_at_call 40; refine (l16Ok_any _ xs _ HV.out).mono ?_; rintro e w1 ⟨rfl, rfl⟩)
      go_loop [7, 8, 9] (fun l h i => ∃ (k : Nat) (lo hi : Int), k ≤ s.size ∧ i = .int .i64 k ∧ l = .int .i64 lo ∧ h = .int .i64 hi ∧ narrow s xs.length k = some (lo, hi)) (fun _ _ i => s.size - (intOf i).toNat)
      case atStart => exact ⟨0, _, _, Nat.zero_le _, rfl, rfl, rfl, rfl⟩
      case round =>
        obtain ⟨k, lo, hi, hk, rfl, rfl, rfl, hna⟩ := hrel
        have hbd := narrow_bounds s xs.length (by omega) k lo hi hna
        have HNA := Lib.hid hna
        by_cases hlt : k < s.size
        · have hby := byte_eq s k hlt
          have S1 : narrow s xs.length (k + 1) = if byteAt s k = 60 then some (lo, min hi k) else if byteAt s k = 62 then some (max lo (k + 1), hi) else if byteAt s k = 63 then some (lo, hi) else none := by
            simp only [narrow, hna]
          have H1 := Lib.hid S1
          have HB := Lib.hid hby
          clear S1 hby hna
          by_cases h60 : byteAt s k = 60
          · have e1 : (((s[k]'hlt).toNat : Int) == 60) = true := by rw [HB.out, h60]; rfl
            have H2 := Lib.hid (H1.out.trans (if_pos h60))
            clear h60
            go_wp2_with (go_at_call 50; refine (l00Min_any _ _ _).mono ?_; rintro e w' ⟨rfl, rfl⟩)
            go_round
            case rel => exact ⟨k + 1, _, _, by omega, by go_num, rfl, rfl, H2.out⟩
            case measure => simp [intOf]; omega
          · have e1 : (((s[k]'hlt).toNat : Int) == 60) = false := by rw [HB.out, beq_eq_false_iff_ne]; omega
            have H2 := Lib.hid (H1.out.trans (if_neg h60))
            clear h60
            by_cases h62 : byteAt s k = 62
            · have e2 : (((s[k]'hlt).toNat : Int) == 62) = true := by rw [HB.out, h62]; rfl
              have H2 := Lib.hid (H2.out.trans (if_pos h62))
              clear h62
              go_wp2_with (go_at_call 51; refine (l00Max_any _ _ _).mono ?_; rintro e w' ⟨rfl, rfl⟩)
              go_round
              case rel => exact ⟨k + 1, _, _, by omega, by go_num, rfl, rfl, H2.out⟩
              case measure => simp [intOf]; omega
            · have e2 : (((s[k]'hlt).toNat : Int) == 62) = false := by rw [HB.out, beq_eq_false_iff_ne]; omega
              have H2 := Lib.hid (H2.out.trans (if_neg h62))
              clear h62
              by_cases h63 : byteAt s k = 63
              · have e3 : (((s[k]'hlt).toNat : Int) == 63) = true := by rw [HB.out, h63]; rfl
                have H2 := Lib.hid (H2.out.trans (if_pos h63))
                clear h63
                go_wp2
                go_round
                case rel => exact ⟨k + 1, _, _, by omega, by go_num, rfl, rfl, H2.out⟩
                case measure => simp [intOf]; omega
              · have e3 : (((s[k]'hlt).toNat : Int) == 63) = false := by rw [HB.out, beq_eq_false_iff_ne]; omega
                have H2 := Lib.hid (H2.out.trans (if_neg h63))
                clear h63
                have HF : Hid (valNarrow xs s = (0, 0, 7)) := by rw [HE.out, narrow_none s xs.length (k + 1) xs.length (by omega) H2.out]; rfl
                go_wp2
                go_ret3
                exact ⟨ret_iii (by rw [HF.out]) (by rw [HF.out]) (by rw [HF.out]), Below.refl _ _⟩
        · clear hna
          obtain rfl : k = s.size := by omega
          have HF0 : Hid (valNarrow xs s = if hi < lo then (0, 0, 9) else (lo, hi, 0)) := by
            have h := HNA.out
            rw [show narrow s xs.length s.size = narrow s xs.length xs.length by rw [HN.out]] at h
            rw [HE.out, h]; rfl
          by_cases hlh : hi < lo
          · have HF := Lib.hid (HF0.out.trans (if_pos hlh))
            go_wp2
            go_ret3
            exact ⟨ret_iii (by rw [HF.out]) (by rw [HF.out]) (by rw [HF.out]), Below.refl _ _⟩
          · have HF := Lib.hid (HF0.out.trans (if_neg hlh))
            go_wp2
            go_ret3
            exact ⟨ret_iii (by rw [HF.out]) (by rw [HF.out]) (by rw [HF.out]), Below.refl _ _⟩
    · have HE : Hid (valNarrow xs s = (0, 0, 7)) := (if_pos hok).trans (if_neg hn)
      have hb : ((s.size : Int) != (xs.length : Int)) = true := by rw [bne_iff_ne]; omega
      clear hn
      go_enter Try.func28, Try.ntmps28
      go_wp2_with (go_at_call 40; refine (l16Ok_any _ xs _ HV.out).mono ?_; rintro e w1 ⟨rfl, rfl⟩)
      go_ret3
      exact ⟨ret_iii (by rw [HE.out]) (by rw [HE.out]) (by rw [HE.out]), Below.refl _ _⟩

set_option maxHeartbeats 2000000 in
theorem implNarrowTo_any (v : Value) (xs : List Int) (s : ByteArray) (w : World) (hv : RI w v xs) (hs : s.size ≤ 1048576) :
    Calls Try.prog 25 #[v, .string s] w fun e w' => e = .returned (.tuple #[.int .i64 (valNarrow xs s).1, .int .i64 (valNarrow xs s).2.1, .int .i64 (valNarrow xs s).2.2]) ∧ Below w.heap.size w w' := by
  obtain ⟨a, cap, rfl⟩ := hv.shape
  have hl := hv.len
  have HV := Lib.hid hv
  clear hv
  cases hok : okOpen xs with
  | false =>
    have HE : Hid (valNarrow xs s = (0, 0, 1)) := if_neg (by rw [hok]; simp)
    go_enter Try.func25, Try.ntmps25
    go_wp2_with (go_at_call 16; refine (implValidOpenings_any _ xs _ HV.out).mono ?_; rintro e w1 ⟨rfl, hb1⟩)
    go_ret3
    exact ⟨ret_iii (by rw [HE.out]) (by rw [HE.out]) (by rw [HE.out]), (by assumption)⟩
  | true =>
    have l9 := okOpen_len hok
    by_cases hn : s.size = xs.length
    · have HE : Hid (valNarrow xs s = match narrow s xs.length xs.length with | none => (0, 0, 7) | some (lo, hi) => if hi < lo then (0, 0, 9) else (lo, hi, 0)) := (if_pos hok).trans (if_pos hn)
      have hb : ((s.size : Int) != (xs.length : Int)) = false := by rw [hn]; simp
      have HN := Lib.hid hn
      have hle1 : s.size ≤ xs.length := by omega
      have hle2 : xs.length ≤ s.size := by omega
      clear hn
      go_enter Try.func25, Try.ntmps25
      go_wp2_with (go_at_call 16; refine (implValidOpenings_any _ xs _ HV.out).mono ?_; rintro e w1 ⟨rfl, hb1⟩)
      go_loop [7, 8, 24] (fun l h i => ∃ (k : Nat) (lo hi : Int), k ≤ s.size ∧ i = .int .i64 k ∧ l = .int .i64 lo ∧ h = .int .i64 hi ∧ narrow s xs.length k = some (lo, hi)) (fun _ _ i => s.size - (intOf i).toNat)
      case atStart => exact ⟨0, _, _, Nat.zero_le _, rfl, rfl, rfl, rfl⟩
      case round =>
        obtain ⟨k, lo, hi, hk, rfl, rfl, rfl, hna⟩ := hrel
        have hbd := narrow_bounds s xs.length (by omega) k lo hi hna
        have HNA := Lib.hid hna
        by_cases hlt : k < s.size
        · have hby := byte_eq s k hlt
          have S1 : narrow s xs.length (k + 1) = if byteAt s k = 60 then some (lo, min hi k) else if byteAt s k = 62 then some (max lo (k + 1), hi) else if byteAt s k = 63 then some (lo, hi) else none := by
            simp only [narrow, hna]
          have H1 := Lib.hid S1
          have HB := Lib.hid hby
          clear S1 hby hna
          obtain ⟨mn, hmn⟩ : ∃ m, m = min hi (k : Int) := ⟨_, rfl⟩
          have hm1 : (if hi < (k : Int) then hi else (k : Int)) = mn := by rw [hmn]; split <;> omega
          have hm2 : (if (k : Int) < hi then (k : Int) else hi) = mn := by rw [hmn]; split <;> omega
          have HMN := Lib.hid hmn
          obtain ⟨mx, hmx⟩ : ∃ m, m = max lo ((k : Int) + 1) := ⟨_, rfl⟩
          have hm3 : (if lo < (k : Int) + 1 then (k : Int) + 1 else lo) = mx := by rw [hmx]; split <;> omega
          have HMX := Lib.hid hmx
          clear hmn hmx
          by_cases h60 : byteAt s k = 60
          · have e1 : (((s[k]'hlt).toNat : Int) == 60) = true := by rw [HB.out, h60]; rfl
            have H2 := Lib.hid (H1.out.trans (if_pos h60))
            clear h60
            go_wp2
            go_round
            case rel => exact ⟨k + 1, _, _, by omega, by go_num, rfl, rfl, by rw [H2.out, HMN.out]⟩
            case measure => simp [intOf]; omega
          · have e1 : (((s[k]'hlt).toNat : Int) == 60) = false := by rw [HB.out, beq_eq_false_iff_ne]; omega
            have H2 := Lib.hid (H1.out.trans (if_neg h60))
            clear h60
            by_cases h62 : byteAt s k = 62
            · have e2 : (((s[k]'hlt).toNat : Int) == 62) = true := by rw [HB.out, h62]; rfl
              have H2 := Lib.hid (H2.out.trans (if_pos h62))
              clear h62
              go_wp2
              go_round
              case rel => exact ⟨k + 1, _, _, by omega, by go_num, rfl, rfl, by rw [H2.out, show max lo ((k : Int) + 1) = (k : Int) + 1 by omega]⟩
              case measure => simp [intOf]; omega
            · have e2 : (((s[k]'hlt).toNat : Int) == 62) = false := by rw [HB.out, beq_eq_false_iff_ne]; omega
              have H2 := Lib.hid (H2.out.trans (if_neg h62))
              clear h62
              by_cases h63 : byteAt s k = 63
              · have e3 : (((s[k]'hlt).toNat : Int) == 63) = true := by rw [HB.out, h63]; rfl
                have H2 := Lib.hid (H2.out.trans (if_pos h63))
                clear h63
                go_wp2
                go_round
                case rel => exact ⟨k + 1, _, _, by omega, by go_num, rfl, rfl, H2.out⟩
                case measure => simp [intOf]; omega
              · have e3 : (((s[k]'hlt).toNat : Int) == 63) = false := by rw [HB.out, beq_eq_false_iff_ne]; omega
                have H2 := Lib.hid (H2.out.trans (if_neg h63))
                clear h63
                have HF : Hid (valNarrow xs s = (0, 0, 7)) := by rw [HE.out, narrow_none s xs.length (k + 1) xs.length (by omega) H2.out]; rfl
                go_wp2
                go_ret3
                exact ⟨ret_iii (by rw [HF.out]) (by rw [HF.out]) (by rw [HF.out]), (by assumption)⟩
        · clear hna
          obtain rfl : k = s.size := by omega
          have HF0 : Hid (valNarrow xs s = if hi < lo then (0, 0, 9) else (lo, hi, 0)) := by
            have h := HNA.out
            rw [show narrow s xs.length s.size = narrow s xs.length xs.length by rw [HN.out]] at h
            rw [HE.out, h]; rfl
          by_cases hlh : hi < lo
          · have HF := Lib.hid (HF0.out.trans (if_pos hlh))
            go_wp2
            go_ret3
            exact ⟨ret_iii (by rw [HF.out]) (by rw [HF.out]) (by rw [HF.out]), (by assumption)⟩
          · have HF := Lib.hid (HF0.out.trans (if_neg hlh))
            go_wp2
            go_ret3
            exact ⟨ret_iii (by rw [HF.out]) (by rw [HF.out]) (by rw [HF.out]), (by assumption)⟩
    · have HE : Hid (valNarrow xs s = (0, 0, 7)) := (if_pos hok).trans (if_neg hn)
      have hb : ((s.size : Int) != (xs.length : Int)) = true := by rw [bne_iff_ne]; omega
      clear hn
      go_enter Try.func25, Try.ntmps25
      go_wp2_with (go_at_call 16; refine (implValidOpenings_any _ xs _ HV.out).mono ?_; rintro e w1 ⟨rfl, hb1⟩)
      go_ret3
      exact ⟨ret_iii (by rw [HE.out]) (by rw [HE.out]) (by rw [HE.out]), (by assumption)⟩

end Go.Proofs.Ytoeigifmghfpgaa
