/-
  TightSections and SureLeaks of both sides: what each returns.
-/
import Derived.Test.YtpgnndpjlcihiaaBounds
namespace Go.Proofs.Ytpgnndpjlcihiaa
open Go.RowKit

set_option maxRecDepth 100000 in
theorem specTightSections_any (n : Int) (v : Value) (xs : List (Int × Int × Int)) (w : World) (hv : SI P3 w v xs) :
    Calls Try.prog 43 #[.int .i64 n, v] w fun e w' => ∃ v', e = .returned (.tuple #[v', .int .i64 (valTight n xs).2]) ∧ OI 2 w' w.heap.size v' (valTight n xs).1 ∧ Below w.heap.size w w' := by
  have C1 := l15Code_any n v xs w hv
  clear hv
  by_cases h0 : codeL n xs = 0
  · rw [show valTight n xs = (selL (fun k => decide (valHigh n.toNat xs k = 0)) n.toNat, 0) by simp [valTight, h0]]
    obtain ⟨hok, hA⟩ := codeL_zero h0
    rw [h0] at C1
    have D1 := Lib.hid C1
    have hn := okLosses_n hok
    obtain ⟨s, rfl⟩ : ∃ s : Nat, n = s := ⟨n.toNat, by omega⟩
    have HX := Lib.hid (show fitT s xs from fitT_of hok)
    have HA := Lib.hid (show okA s openT xs = true from hA)
    have hs9 : s ≤ 9 := by omega
    simp only [show (s : Int).toNat = s from rfl]
    clear C1 h0 hok hA
    obtain ⟨i0, hi, iz0, iz1, iz2⟩ := info_parts info64
    have HI := Lib.hid hi
    clear hi
    go_enter Try.func43, Try.ntmps43
    go_wp2_with (go_at_call 67; refine D1.out.mono ?_; rintro e w1 ⟨v1, rfl, hb1, ht1⟩; obtain ⟨G, capG, g, c, rfl, ht2⟩ := ht1 (by trivial); have HT := Lib.hid ht2; clear ht1 ht2)
    go_loopw [8, 9] (fun o i wr => ∃ (k : Nat) (vo : Value), k ≤ s ∧ vo = o ∧ i = .int .i64 k ∧ OI 2 wr w1.heap.size vo (selL (fun k => decide (valHigh s xs k = 0)) k) ∧ Below w1.heap.size w1 wr) (fun _ i _ => s - (intOf i).toNat)
    case atStart => exact ⟨0, _, Nat.zero_le _, rfl, rfl, OI.lit0 _ _ _ (Nat.le_refl _), (Below.refl _ _).alloc (Nat.le_refl _) _⟩
    case round =>
      obtain ⟨k, vo, hk, rfl, rfl, ho, hb⟩ := hrel
      rename World => wo
      have HO := Lib.hid ho
      clear ho
      by_cases hlt : k < s
      · have hd : decide ((k : Int) < (s : Int)) = true := decide_eq_true (by omega)
        obtain ⟨q, hq⟩ : ∃ q, q = k + 1 := ⟨_, rfl⟩
        have HQ := Lib.hid hq
        have hwq : IntKind.i64.wrap ((k : Int) + 1) = (q : Int) := by rw [IntWalk.i64_in _ (by omega)]; omega
        have hq1 : q < s + 1 := by omega
        have hq2 : (q : Int) < (s : Int) + 1 := by omega
        have hk1 : k < s + 1 := by omega
        have hk2 : (k : Int) < (s : Int) + 1 := by omega
        have htb : TBat 2 wo w.heap.size G g c (s + 1) (DB s xs) := HT.out.below hb
        obtain ⟨c1, c2, _⟩ := htb.cell k q (by omega) (by omega)
        have HLEN := Lib.hid (selL_len (fun k => decide (valHigh s xs k = 0)) k)
        clear htb
        have HIFF := Lib.hid (tight_eq hs9 HX.out HA.out hlt)
        have HY := Lib.hid (selL_yes (p := fun k => decide (valHigh s xs k = 0)) (k := k))
        have HN := Lib.hid (selL_no (p := fun k => decide (valHigh s xs k = 0)) (k := k))
        rw [← hq] at HIFF
        generalize DB s xs k q = y at c2 HIFF
        clear hq
        by_cases hy : y = 0
        · have hyb : (y == 0) = true := by rw [beq_iff_eq]; exact hy
          have HS := Lib.hid (HY.out (decide_eq_true (HIFF.out.1 hy)))
          clear hy
          go_wp2_with (at_builtin; refine wpList_app1n rfl _ _ 30 rfl 2 _ i0 Try.underlying30 HI.out iz0 iz1 iz2 w1.heap.size _ _ rfl HO.out _ _ (by simp) rfl (by unfold Good; omega) (by have := HLEN.out; omega) hb.size ?_; intro v9 w9 h1 h2 h3; have HO9 := Lib.hid h1; have hb9 := HO.out.step hb h2; clear h1 h2 h3)
          go_roundw
          case rel => exact ⟨k + 1, _, by omega, rfl, by rw [HQ.out], by rw [HS.out]; exact HO9.out, hb9⟩
          case measure =>
            have := HQ.out
            simp [intOf]; omega
        · have hyb : (y == 0) = false := by rw [beq_eq_false_iff_ne]; exact hy
          have HS := Lib.hid (HN.out (decide_eq_false (fun h => hy (HIFF.out.2 h))))
          clear hy
          go_wp2
          go_roundw
          case rel => exact ⟨k + 1, _, by omega, rfl, by rw [HQ.out], by rw [HS.out]; exact HO.out, hb⟩
          case measure =>
            have := HQ.out
            simp [intOf]; omega
      · have HK := Lib.hid (show k = s by omega)
        have hd : decide ((k : Int) < (s : Int)) = false := decide_eq_false (by omega)
        go_wp2
        go_ret2
        have h := HO.out
        rw [HK.out] at h
        exact ⟨_, rfl, h.mono hb1.size, bthen hb1 hb⟩
  · rw [show valTight n xs = ([], codeL n xs) by simp [valTight, h0]]
    generalize codeL n xs = cd at h0 C1 ⊢
    have hcd : (cd != 0) = true := by simp [h0]
    have D1 := Lib.hid C1
    clear C1 h0
    go_enter Try.func43, Try.ntmps43
    go_wp2_with (go_at_call 67; refine D1.out.mono ?_; rintro e w1 ⟨v1, rfl, hb1, _⟩)
    go_ret2
    exact ⟨_, rfl, OI.nil _ _ _, hb1⟩

set_option maxRecDepth 100000 in
theorem specSureLeaks_any (n : Int) (v : Value) (xs : List (Int × Int × Int)) (w : World) (hv : SI P3 w v xs) :
    Calls Try.prog 41 #[.int .i64 n, v] w fun e w' => ∃ v', e = .returned (.tuple #[v', .int .i64 (valSure n xs).2]) ∧ OI 2 w' w.heap.size v' (valSure n xs).1 ∧ Below w.heap.size w w' := by
  have C1 := l15Code_any n v xs w hv
  clear hv
  by_cases h0 : codeL n xs = 0
  · rw [show valSure n xs = (selL (fun k => decide (0 < valLow n.toNat xs k)) n.toNat, 0) by simp [valSure, h0]]
    obtain ⟨hok, hA⟩ := codeL_zero h0
    rw [h0] at C1
    have D1 := Lib.hid C1
    have hn := okLosses_n hok
    obtain ⟨s, rfl⟩ : ∃ s : Nat, n = s := ⟨n.toNat, by omega⟩
    have HX := Lib.hid (show fitT s xs from fitT_of hok)
    have HA := Lib.hid (show okA s openT xs = true from hA)
    have hs9 : s ≤ 9 := by omega
    simp only [show (s : Int).toNat = s from rfl]
    clear C1 h0 hok hA
    obtain ⟨i0, hi, iz0, iz1, iz2⟩ := info_parts info64
    have HI := Lib.hid hi
    clear hi
    go_enter Try.func41, Try.ntmps41
    go_wp2_with (go_at_call 67; refine D1.out.mono ?_; rintro e w1 ⟨v1, rfl, hb1, ht1⟩; obtain ⟨G, capG, g, c, rfl, ht2⟩ := ht1 (by trivial); have HT := Lib.hid ht2; clear ht1 ht2)
    go_loopw [8, 9] (fun o i wr => ∃ (k : Nat) (vo : Value), k ≤ s ∧ vo = o ∧ i = .int .i64 k ∧ OI 2 wr w1.heap.size vo (selL (fun k => decide (0 < valLow s xs k)) k) ∧ Below w1.heap.size w1 wr) (fun _ i _ => s - (intOf i).toNat)
    case atStart => exact ⟨0, _, Nat.zero_le _, rfl, rfl, OI.lit0 _ _ _ (Nat.le_refl _), (Below.refl _ _).alloc (Nat.le_refl _) _⟩
    case round =>
      obtain ⟨k, vo, hk, rfl, rfl, ho, hb⟩ := hrel
      rename World => wo
      have HO := Lib.hid ho
      clear ho
      by_cases hlt : k < s
      · have hd : decide ((k : Int) < (s : Int)) = true := decide_eq_true (by omega)
        obtain ⟨q, hq⟩ : ∃ q, q = k + 1 := ⟨_, rfl⟩
        have HQ := Lib.hid hq
        have hwq : IntKind.i64.wrap ((k : Int) + 1) = (q : Int) := by rw [IntWalk.i64_in _ (by omega)]; omega
        have hq1 : q < s + 1 := by omega
        have hq2 : (q : Int) < (s : Int) + 1 := by omega
        have hk1 : k < s + 1 := by omega
        have hk2 : (k : Int) < (s : Int) + 1 := by omega
        have htb : TBat 2 wo w.heap.size G g c (s + 1) (DB s xs) := HT.out.below hb
        obtain ⟨c1, c2, _⟩ := htb.cell q k (by omega) (by omega)
        have HLEN := Lib.hid (selL_len (fun k => decide (0 < valLow s xs k)) k)
        clear htb
        have HIFF := Lib.hid (show DB s xs (k + 1) k < 0 ↔ 0 < valLow s xs k by have h := (low_eq hs9 HX.out HA.out hlt).1; unfold valLow; omega)
        have HY := Lib.hid (selL_yes (p := fun k => decide (0 < valLow s xs k)) (k := k))
        have HN := Lib.hid (selL_no (p := fun k => decide (0 < valLow s xs k)) (k := k))
        rw [← hq] at HIFF
        generalize DB s xs q k = y at c2 HIFF
        clear hq
        by_cases hy : y < 0
        · have hyb : decide (y < 0) = true := decide_eq_true hy
          have HS := Lib.hid (HY.out (decide_eq_true (HIFF.out.1 hy)))
          clear hy
          go_wp2_with (at_builtin; refine wpList_app1n rfl _ _ 30 rfl 2 _ i0 Try.underlying30 HI.out iz0 iz1 iz2 w1.heap.size _ _ rfl HO.out _ _ (by simp) rfl (by unfold Good; omega) (by have := HLEN.out; omega) hb.size ?_; intro v9 w9 h1 h2 h3; have HO9 := Lib.hid h1; have hb9 := HO.out.step hb h2; clear h1 h2 h3)
          go_roundw
          case rel => exact ⟨k + 1, _, by omega, rfl, by rw [HQ.out], by rw [HS.out]; exact HO9.out, hb9⟩
          case measure =>
            have := HQ.out
            simp [intOf]; omega
        · have hyb : decide (y < 0) = false := decide_eq_false hy
          have HS := Lib.hid (HN.out (decide_eq_false (fun h => hy (HIFF.out.2 h))))
          clear hy
          go_wp2
          go_roundw
          case rel => exact ⟨k + 1, _, by omega, rfl, by rw [HQ.out], by rw [HS.out]; exact HO.out, hb⟩
          case measure =>
            have := HQ.out
            simp [intOf]; omega
      · have HK := Lib.hid (show k = s by omega)
        have hd : decide ((k : Int) < (s : Int)) = false := decide_eq_false (by omega)
        go_wp2
        go_ret2
        have h := HO.out
        rw [HK.out] at h
        exact ⟨_, rfl, h.mono hb1.size, bthen hb1 hb⟩
  · rw [show valSure n xs = ([], codeL n xs) by simp [valSure, h0]]
    generalize codeL n xs = cd at h0 C1 ⊢
    have hcd : (cd != 0) = true := by simp [h0]
    have D1 := Lib.hid C1
    clear C1 h0
    go_enter Try.func41, Try.ntmps41
    go_wp2_with (go_at_call 67; refine D1.out.mono ?_; rintro e w1 ⟨v1, rfl, hb1, _⟩)
    go_ret2
    exact ⟨_, rfl, OI.nil _ _ _, hb1⟩

set_option maxRecDepth 100000 in
theorem implTightSections_any (n : Int) (v : Value) (xs : List (Int × Int × Int)) (w : World) (hv : SI P3 w v xs) :
    Calls Try.prog 44 #[.int .i64 n, v] w fun e w' => ∃ v', e = .returned (.tuple #[v', .int .i64 (valTight n xs).2]) ∧ OI 2 w' w.heap.size v' (valTight n xs).1 ∧ Below w.heap.size w w' := by
  have C1 := leakBounds_any n v xs w hv
  clear hv
  by_cases h0 : codeL n xs = 0
  · rw [show valTight n xs = (selL (fun k => decide (valHigh n.toNat xs k = 0)) n.toNat, 0) by simp [valTight, h0]]
    obtain ⟨hok, _⟩ := codeL_zero h0
    rw [h0, if_pos rfl, if_pos rfl] at C1
    have hn := okLosses_n hok
    obtain ⟨s, rfl⟩ : ∃ s : Nat, n = s := ⟨n.toNat, by omega⟩
    have hs9 : s ≤ 9 := by omega
    simp only [show (s : Int).toNat = s from rfl] at C1 ⊢
    have HL := Lib.hid (mapL_len (valHigh s xs) s)
    have HG := Lib.hid (fun k => mapL_getD (valHigh s xs) s k)
    generalize mapL (valHigh s xs) s = L at HL HG C1
    have D1 := Lib.hid C1
    clear C1 h0 hok
    obtain ⟨i0, hi, iz0, iz1, iz2⟩ := info_parts info64
    have HI := Lib.hid hi
    clear hi
    go_enter Try.func44, Try.ntmps44
    go_wp2_with (go_at_call 69; refine D1.out.mono ?_; rintro e w1 ⟨v1, v2, rfl, hb1, ho1, ho2⟩; have HR := Lib.hid (OI.ri ho2); clear ho1 ho2; obtain ⟨a2, cap2, rfl⟩ := RI.shape HR.out)
    go_loopw [9, 25] (fun o i wr => ∃ (k : Nat) (vo : Value), k ≤ s ∧ vo = o ∧ i = .int .i64 k ∧ OI 2 wr w1.heap.size vo (selL (fun k => decide (valHigh s xs k = 0)) k) ∧ Below w1.heap.size w1 wr) (fun _ i _ => s - (intOf i).toNat)
    case atStart => exact ⟨0, _, Nat.zero_le _, rfl, rfl, OI.lit0 _ _ _ (Nat.le_refl _), (Below.refl _ _).alloc (Nat.le_refl _) _⟩
    case round =>
      obtain ⟨k, vo, hk, rfl, rfl, ho, hb⟩ := hrel
      rename World => wo
      have HO := Lib.hid ho
      clear ho
      by_cases hlt : k < s
      · have hi1 : (k : Int) < (L.length : Int) := by rw [HL.out]; omega
        have hd : decide ((k : Int) < (L.length : Int)) = true := decide_eq_true hi1
        obtain ⟨b2, o2, rfl, hbl, hc⟩ := RI.cells HR.out (by rw [HL.out]; omega)
        have c1 := (hb.cell (p := ⟨b2, o2 + k, none⟩) hbl).trans (hc k (by rw [HL.out]; exact hlt))
        rw [HG.out k hlt] at c1
        clear hc
        have HLEN := Lib.hid (selL_len (fun k => decide (valHigh s xs k = 0)) k)
        have HY := Lib.hid (selL_yes (p := fun k => decide (valHigh s xs k = 0)) (k := k))
        have HN := Lib.hid (selL_no (p := fun k => decide (valHigh s xs k = 0)) (k := k))
        generalize valHigh s xs k = y at c1 HY HN
        by_cases hy : y = 0
        · have hyb : (y == 0) = true := by rw [beq_iff_eq]; exact hy
          have HS := Lib.hid (HY.out (decide_eq_true hy))
          clear hy
          go_wp2_with (at_builtin; refine wpList_app1n rfl _ _ 30 rfl 2 _ i0 Try.underlying30 HI.out iz0 iz1 iz2 w1.heap.size _ _ rfl HO.out _ _ (by simp) rfl (by unfold Good; omega) (by have := HLEN.out; omega) hb.size ?_; intro v9 w9 h1 h2 h3; have HO9 := Lib.hid h1; have hb9 := HO.out.step hb h2; clear h1 h2 h3)
          go_roundw
          case rel => exact ⟨k + 1, _, by omega, rfl, by go_num, by rw [HS.out]; exact HO9.out, hb9⟩
          case measure => simp [intOf]; omega
        · have hyb : (y == 0) = false := by rw [beq_eq_false_iff_ne]; exact hy
          have HS := Lib.hid (HN.out (decide_eq_false hy))
          clear hy
          go_wp2
          go_roundw
          case rel => exact ⟨k + 1, _, by omega, rfl, by go_num, by rw [HS.out]; exact HO.out, hb⟩
          case measure => simp [intOf]; omega
      · have HK := Lib.hid (show k = s by omega)
        have hi1 : ¬ (k : Int) < (L.length : Int) := by rw [HL.out]; omega
        have hi2 : ¬ k < L.length := by rw [HL.out]; omega
        have hd : decide ((k : Int) < (L.length : Int)) = false := decide_eq_false hi1
        have hd2 : decide (k < L.length) = false := decide_eq_false hi2
        go_wp2
        go_ret2
        have h := HO.out
        rw [HK.out] at h
        exact ⟨_, rfl, h.mono hb1.size, bthen hb1 hb⟩
  · rw [show valTight n xs = ([], codeL n xs) by simp [valTight, h0]]
    rw [if_neg h0, if_neg h0] at C1
    generalize codeL n xs = cd at h0 C1 ⊢
    have hcd : (cd != 0) = true := by simp [h0]
    have D1 := Lib.hid C1
    clear C1 h0
    go_enter Try.func44, Try.ntmps44
    go_wp2_with (go_at_call 69; refine D1.out.mono ?_; rintro e w1 ⟨v1, v2, rfl, hb1, _, _⟩)
    go_ret2
    exact ⟨_, rfl, OI.nil _ _ _, hb1⟩

set_option maxRecDepth 100000 in
theorem implSureLeaks_any (n : Int) (v : Value) (xs : List (Int × Int × Int)) (w : World) (hv : SI P3 w v xs) :
    Calls Try.prog 42 #[.int .i64 n, v] w fun e w' => ∃ v', e = .returned (.tuple #[v', .int .i64 (valSure n xs).2]) ∧ OI 2 w' w.heap.size v' (valSure n xs).1 ∧ Below w.heap.size w w' := by
  have C1 := leakBounds_any n v xs w hv
  clear hv
  by_cases h0 : codeL n xs = 0
  · rw [show valSure n xs = (selL (fun k => decide (0 < valLow n.toNat xs k)) n.toNat, 0) by simp [valSure, h0]]
    obtain ⟨hok, _⟩ := codeL_zero h0
    rw [h0, if_pos rfl, if_pos rfl] at C1
    have hn := okLosses_n hok
    obtain ⟨s, rfl⟩ : ∃ s : Nat, n = s := ⟨n.toNat, by omega⟩
    have hs9 : s ≤ 9 := by omega
    simp only [show (s : Int).toNat = s from rfl] at C1 ⊢
    have HL := Lib.hid (mapL_len (valLow s xs) s)
    have HG := Lib.hid (fun k => mapL_getD (valLow s xs) s k)
    generalize mapL (valLow s xs) s = L at HL HG C1
    have D1 := Lib.hid C1
    clear C1 h0 hok
    obtain ⟨i0, hi, iz0, iz1, iz2⟩ := info_parts info64
    have HI := Lib.hid hi
    clear hi
    go_enter Try.func42, Try.ntmps42
    go_wp2_with (go_at_call 69; refine D1.out.mono ?_; rintro e w1 ⟨v1, v2, rfl, hb1, ho1, ho2⟩; have HR := Lib.hid (OI.ri ho1); clear ho1 ho2; obtain ⟨a2, cap2, rfl⟩ := RI.shape HR.out)
    go_loopw [9, 25] (fun o i wr => ∃ (k : Nat) (vo : Value), k ≤ s ∧ vo = o ∧ i = .int .i64 k ∧ OI 2 wr w1.heap.size vo (selL (fun k => decide (0 < valLow s xs k)) k) ∧ Below w1.heap.size w1 wr) (fun _ i _ => s - (intOf i).toNat)
    case atStart => exact ⟨0, _, Nat.zero_le _, rfl, rfl, OI.lit0 _ _ _ (Nat.le_refl _), (Below.refl _ _).alloc (Nat.le_refl _) _⟩
    case round =>
      obtain ⟨k, vo, hk, rfl, rfl, ho, hb⟩ := hrel
      rename World => wo
      have HO := Lib.hid ho
      clear ho
      by_cases hlt : k < s
      · have hi1 : (k : Int) < (L.length : Int) := by rw [HL.out]; omega
        have hd : decide ((k : Int) < (L.length : Int)) = true := decide_eq_true hi1
        obtain ⟨b2, o2, rfl, hbl, hc⟩ := RI.cells HR.out (by rw [HL.out]; omega)
        have c1 := (hb.cell (p := ⟨b2, o2 + k, none⟩) hbl).trans (hc k (by rw [HL.out]; exact hlt))
        rw [HG.out k hlt] at c1
        clear hc
        have HLEN := Lib.hid (selL_len (fun k => decide (0 < valLow s xs k)) k)
        have HY := Lib.hid (selL_yes (p := fun k => decide (0 < valLow s xs k)) (k := k))
        have HN := Lib.hid (selL_no (p := fun k => decide (0 < valLow s xs k)) (k := k))
        generalize valLow s xs k = y at c1 HY HN
        by_cases hy : 0 < y
        · have hyb : decide ((0 : Int) < y) = true := decide_eq_true hy
          have HS := Lib.hid (HY.out (decide_eq_true hy))
          clear hy
          go_wp2_with (at_builtin; refine wpList_app1n rfl _ _ 30 rfl 2 _ i0 Try.underlying30 HI.out iz0 iz1 iz2 w1.heap.size _ _ rfl HO.out _ _ (by simp) rfl (by unfold Good; omega) (by have := HLEN.out; omega) hb.size ?_; intro v9 w9 h1 h2 h3; have HO9 := Lib.hid h1; have hb9 := HO.out.step hb h2; clear h1 h2 h3)
          go_roundw
          case rel => exact ⟨k + 1, _, by omega, rfl, by go_num, by rw [HS.out]; exact HO9.out, hb9⟩
          case measure => simp [intOf]; omega
        · have hyb : decide ((0 : Int) < y) = false := decide_eq_false hy
          have HS := Lib.hid (HN.out (decide_eq_false hy))
          clear hy
          go_wp2
          go_roundw
          case rel => exact ⟨k + 1, _, by omega, rfl, by go_num, by rw [HS.out]; exact HO.out, hb⟩
          case measure => simp [intOf]; omega
      · have HK := Lib.hid (show k = s by omega)
        have hi1 : ¬ (k : Int) < (L.length : Int) := by rw [HL.out]; omega
        have hi2 : ¬ k < L.length := by rw [HL.out]; omega
        have hd : decide ((k : Int) < (L.length : Int)) = false := decide_eq_false hi1
        have hd2 : decide (k < L.length) = false := decide_eq_false hi2
        go_wp2
        go_ret2
        have h := HO.out
        rw [HK.out] at h
        exact ⟨_, rfl, h.mono hb1.size, bthen hb1 hb⟩
  · rw [show valSure n xs = ([], codeL n xs) by simp [valSure, h0]]
    rw [if_neg h0, if_neg h0] at C1
    generalize codeL n xs = cd at h0 C1 ⊢
    have hcd : (cd != 0) = true := by simp [h0]
    have D1 := Lib.hid C1
    clear C1 h0
    go_enter Try.func42, Try.ntmps42
    go_wp2_with (go_at_call 69; refine D1.out.mono ?_; rintro e w1 ⟨v1, v2, rfl, hb1, _, _⟩)
    go_ret2
    exact ⟨_, rfl, OI.nil _ _ _, hb1⟩

end Go.Proofs.Ytpgnndpjlcihiaa
