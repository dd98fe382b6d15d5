/-
  FewestOutOf of the reference and of the program: what each returns.
-/
import Derived.Test.YteohfokchimfeaaChain
import Derived.Test.YteohfokchimfeaaLess
namespace Go.Proofs.Yteohfokchimfeaa
open Go.RowKit

def outTo (s : Int) (k : Nat) : List Int := ((List.range k).filter fun i => hasB s (i : Nat)).map fun (i : Nat) => (i : Int)
def restTo (xs : List Int) (s : Int) (k : Nat) : List Int := ((List.range k).filter fun i => !hasB s (i : Nat)).map fun (i : Nat) => xs.getD i 0
theorem outTo_yes {s : Int} {k : Nat} (h : hasB s k = true) : outTo s (k + 1) = outTo s k ++ [(k : Int)] := by
  unfold outTo
  rw [List.range_succ, List.filter_append, List.map_append, List.filter_cons_of_pos (by simpa using h)]
  rfl
theorem outTo_no {s : Int} {k : Nat} (h : hasB s k = false) : outTo s (k + 1) = outTo s k := by
  unfold outTo
  rw [List.range_succ, List.filter_append, List.map_append, List.filter_cons_of_neg (by simp [h])]
  simp
theorem restTo_yes {xs : List Int} {s : Int} {k : Nat} (h : hasB s k = false) : restTo xs s (k + 1) = restTo xs s k ++ [xs.getD k 0] := by
  unfold restTo
  rw [List.range_succ, List.filter_append, List.map_append, List.filter_cons_of_pos (by simp [h])]
  rfl
theorem restTo_no {xs : List Int} {s : Int} {k : Nat} (h : hasB s k = true) : restTo xs s (k + 1) = restTo xs s k := by
  unfold restTo
  rw [List.range_succ, List.filter_append, List.map_append, List.filter_cons_of_neg (by simp [h])]
  simp
theorem outTo_len (s : Int) (k : Nat) : (outTo s k).length ≤ k := by
  unfold outTo; rw [List.length_map]; exact Nat.le_trans (List.length_filter_le _ _) (by simp)
theorem restTo_len (xs : List Int) (s : Int) (k : Nat) : (restTo xs s k).length ≤ k := by
  unfold restTo; rw [List.length_map]; exact Nat.le_trans (List.length_filter_le _ _) (by simp)

/-- The best set so far, and whether there is one. -/
def bst (xs : List Int) (st : Int) : Nat → List Int × Bool
  | 0 => ([], false)
  | s + 1 => if longest (restTo xs s xs.length) ≤ st ∧ ((bst xs st s).2 = false ∨ lessL (outTo s xs.length) (bst xs st s).1 = true) then (outTo s xs.length, true) else bst xs st s
theorem bst_yes {xs : List Int} {st : Int} {s : Nat} (h1 : longest (restTo xs s xs.length) ≤ st) (h2 : (bst xs st s).2 = false ∨ lessL (outTo s xs.length) (bst xs st s).1 = true) : bst xs st (s + 1) = (outTo s xs.length, true) := by
  simp only [bst]; rw [if_pos ⟨h1, h2⟩]
theorem bst_no {xs : List Int} {st : Int} {s : Nat} (h : ¬ (longest (restTo xs s xs.length) ≤ st ∧ ((bst xs st s).2 = false ∨ lessL (outTo s xs.length) (bst xs st s).1 = true))) : bst xs st (s + 1) = bst xs st s := by
  simp only [bst]; rw [if_neg h]
theorem bst_len (xs : List Int) (st : Int) (s : Nat) : (bst xs st s).1.length ≤ xs.length := by
  induction s with
  | zero => simp [bst]
  | succ s ih =>
    simp only [bst]
    split
    · exact outTo_len _ _
    · exact ih
def valOut (xs : List Int) (st : Int) : List Int × Int := if okOrder xs then (if inB 0 8 st then (if xs.length ≤ 9 then ((bst xs st (2 ^ xs.length)).1, 0) else ([], 5)) else ([], 2)) else ([], 1)
theorem valOut_len (xs : List Int) (st : Int) : (valOut xs st).1.length ≤ 1048576 := by
  unfold valOut
  split
  · split
    · split
      · have := bst_len xs st (2 ^ xs.length); simp only; omega
      · simp
    · simp
  · simp
theorem wrap_pow {n : Nat} (h : n ≤ 9) : wrap64 (2 ^ n) = ((2 ^ n : Nat) : Int) ∧ 2 ^ n ≤ 512 := by
  rcases (by omega : n = 0 ∨ n = 1 ∨ n = 2 ∨ n = 3 ∨ n = 4 ∨ n = 5 ∨ n = 6 ∨ n = 7 ∨ n = 8 ∨ n = 9) with rfl | rfl | rfl | rfl | rfl | rfl | rfl | rfl | rfl | rfl <;> exact ⟨by kernel_rfl, by decide⟩

set_option maxRecDepth 100000 in
set_option maxHeartbeats 2000000 in
theorem specFewestOutOf_any (v : Value) (xs : List Int) (st : Int) (w : World) (hv : RI w v xs) :
    Calls Try.prog 43 #[v, .int .i64 st] w fun e w' => ∃ v', e = .returned (.tuple #[v', .int .i64 (valOut xs st).2]) ∧ OI 2 w' w.heap.size v' (valOut xs st).1 ∧ Below w.heap.size w w' := by
  obtain ⟨a, cap, rfl⟩ := hv.shape
  have hl := hv.len
  have HV := Lib.hid hv
  have C1 := l17Ok_any _ xs w hv
  clear hv
  cases h1 : okOrder xs with
  | false =>
    rw [h1] at C1
    have D1 := Lib.hid C1
    have HE := Lib.hid (show valOut xs st = ([], 1) by simp [valOut, h1])
    clear C1 h1
    go_enter Try.func43, Try.ntmps43
    go_wp2_with (go_at_call 57; refine D1.out.mono ?_; rintro e w1 ⟨rfl, hb1⟩)
    go_ret2
    exact ⟨_, by rw [HE.out]; rfl, by rw [HE.out]; exact OI.nil _ _ _, hb1⟩
  | true =>
    rw [h1] at C1
    have D1 := Lib.hid C1
    have h40 := okOrder_len h1
    cases h2 : inB 0 8 st with
    | false =>
      have HE := Lib.hid (show valOut xs st = ([], 2) by simp [valOut, h1, h2])
      have HB := Lib.hid h2
      clear C1 h1 h2
      go_enter Try.func43, Try.ntmps43
      go_wp2_with (first | (go_at_call 57; refine D1.out.mono ?_; rintro e w1 ⟨rfl, hb1⟩) | (go_at_call 59; refine (l00In_any _ _ _ _).mono ?_; rintro e w' ⟨rfl, rfl⟩; rw [HB.out]))
      go_ret2
      exact ⟨_, by rw [HE.out]; rfl, by rw [HE.out]; exact OI.nil _ _ _, hb1⟩
    | true =>
      have HB := Lib.hid h2
      by_cases h9 : xs.length ≤ 9
      · have HE := Lib.hid (show valOut xs st = ((bst xs st (2 ^ xs.length)).1, 0) by simp [valOut, h1, h2, h9])
        obtain ⟨e1, hN⟩ := wrap_pow h9
        generalize hNN : 2 ^ xs.length = N at *
        have HNN := Lib.hid hNN
        have hd9 : decide ((9 : Int) < xs.length) = false := by rw [decide_eq_false_iff_not]; omega
        obtain ⟨i0, hi, iz0, iz1, iz2⟩ := info_parts info64
        have HI := Lib.hid hi
        have HW := Lib.hid e1
        clear C1 h1 h2 hi hNN e1
        go_enter Try.func43, Try.ntmps43
        go_wp2_with (first | (go_at_call 57; refine D1.out.mono ?_; rintro e w1 ⟨rfl, hb1⟩) | (go_at_call 59; refine (l00In_any _ _ _ _).mono ?_; rintro e w' ⟨rfl, rfl⟩; rw [HB.out]))
        skip
        go_loopw [6, 7, 8] (fun bv fv iv wr => ∃ s : Nat, s ≤ N ∧ iv = .int .i64 s ∧ fv = .bool (bst xs st s).2 ∧ Below w1.heap.size w1 wr ∧ OI 2 wr w1.heap.size bv (bst xs st s).1) (fun _ _ iv _ => N - (intOf iv).toNat)
        case atStart => exact ⟨0, Nat.zero_le _, rfl, rfl, (Below.refl _ _).alloc (Nat.le_refl _) _, OI.lit0 _ _ _ (Nat.le_refl _)⟩
        case round =>
          rename World => wo
          obtain ⟨s, hs', rfl, rfl, hw, hbo⟩ := hrel
          have HBo := Lib.hid hbo
          clear hbo
          by_cases hlt : s < N
          · have e1 := HW.out
            go_wp2_with fail
            clear e1
            rw [HW.out]
            go_loopw [9, 10, 11] (fun rv ov iv wq => ∃ j : Nat, j ≤ xs.length ∧ iv = .int .i64 j ∧ Below wo.heap.size wo wq ∧ OI 2 wq wo.heap.size ov (outTo s j) ∧ OI 2 wq wo.heap.size rv (restTo xs s j) ∧ Apart ov rv) (fun _ _ iv _ => xs.length - (intOf iv).toNat)
            case atStart =>
              have q1 := OI.lit0 2 wo wo.heap.size (Nat.le_refl _)
              have q2 := OI.lit0 2 (wo.alloc (.cells #[] 2)) wo.heap.size (by simp)
              have q3 := q1.below ((Below.refl _ (wo.alloc (.cells #[] 2))).alloc (Nat.le_refl _) (.cells #[] 2))
              refine ⟨0, Nat.zero_le _, rfl, ((Below.refl _ _).alloc (Nat.le_refl _) _).alloc (by simp) _, ?_, ?_, ?_⟩
              · simpa [outTo] using q2
              · simpa [restTo] using q3
              · intro q h3 h4; simp [Value.ownBlock] at h3 h4; omega
            case round =>
              obtain ⟨j, hj, rfl, hq, ho, hr, hap⟩ := hrel
              have HO := Lib.hid ho
              have HR := Lib.hid hr
              have HAp := Lib.hid hap
              clear ho hr hap
              by_cases hlj : j < xs.length
              · obtain ⟨b, off, rfl, hb, hc⟩ := HV.out.cells (by omega)
                have hbw := Nat.lt_of_lt_of_le hb hb1.size
                have g1 := ((bthen (bthen hb1 hw) hq).cell (p := ⟨b, off + j, none⟩) hb).trans (hc j hlj)
                have hgx := Lib.hid (HV.out.getD j)
                have hol := outTo_len s j
                have hrl := restTo_len xs s j
                have HOy := Lib.hid (outTo_yes (s := s) (k := j))
                have HOn := Lib.hid (outTo_no (s := s) (k := j))
                have HRy := Lib.hid (restTo_yes (xs := xs) (s := s) (k := j))
                have HRn := Lib.hid (restTo_no (xs := xs) (s := s) (k := j))
                generalize xs.getD j 0 = x at g1 hgx HRy
                clear hc
                have hqs := hq.size
                have hba := bit_and s j (by omega) (by omega)
                cases hbt : hasB s j with
                | true =>
                  have E1 := Lib.hid (HOy.out hbt)
                  have E2 := Lib.hid (HRn.out hbt)
                  clear HOy HOn HRy HRn
                  have hbt2 : (bits BinOp.and IntKind.i64 ((s : Int) / 2 ^ j) 1 == 1) = true := by rw [hba]; simpa [hasB] using hbt
                  clear hba hbt
                  go_wp2_with (first | (at_builtin; refine wpList_app1n rfl _ _ 22 rfl 2 _ i0 Try.underlying22 HI.out iz0 iz1 iz2 wo.heap.size _ _ rfl HO.out _ _ (by simp) rfl ?_ ?_ hq.size ?_))
                  · unfold Good; omega
                  · omega
                  · intro v9 w9 h3 h4 h5
                    have hq9 := HO.out.step hq h4
                    have HO9 := Lib.hid h3
                    have HR9 := Lib.hid (HR.out.other h4 HAp.out)
                    have HA9 := Lib.hid (HAp.out.app HR.out h5)
                    clear h3 h4 h5
                    go_wp2_with fail
                    go_roundw
                    case rel => exact ⟨j + 1, by omega, by go_num, hq9, by rw [E1.out]; exact HO9.out, by rw [E2.out]; exact HR9.out, HA9.out⟩
                    case measure => simp [intOf]; omega
                | false =>
                  have E1 := Lib.hid (HOn.out hbt)
                  have E2 := Lib.hid (HRy.out hbt)
                  clear HOy HOn HRy HRn
                  have hbt2 : (bits BinOp.and IntKind.i64 ((s : Int) / 2 ^ j) 1 == 1) = false := by rw [hba]; simpa [hasB] using hbt
                  clear hba hbt
                  go_wp2_with (first | (at_builtin; refine wpList_app1n rfl _ _ 22 rfl 2 _ i0 Try.underlying22 HI.out iz0 iz1 iz2 wo.heap.size _ _ rfl HR.out _ _ (by simp) rfl hgx.out ?_ hq.size ?_))
                  · omega
                  · intro v9 w9 h3 h4 h5
                    have hq9 := HR.out.step hq h4
                    have HR9 := Lib.hid h3
                    have HO9 := Lib.hid (HO.out.other h4 HAp.out.symm)
                    have HA9 := Lib.hid (HAp.out.symm.app HO.out h5).symm
                    clear h3 h4 h5
                    go_wp2_with fail
                    go_roundw
                    case rel => exact ⟨j + 1, by omega, by go_num, hq9, by rw [E1.out]; exact HO9.out, by rw [E2.out]; exact HR9.out, HA9.out⟩
                    case measure => simp [intOf]; omega
              · have hjn : j = xs.length := by omega
                subst hjn
                have HY := Lib.hid (bst_yes (xs := xs) (st := st) (s := s))
                have HN := Lib.hid (bst_no (xs := xs) (st := st) (s := s))
                have hrl := restTo_len xs s xs.length
                have hol := outTo_len s xs.length
                generalize outTo s xs.length = os at HO HY HN hol
                generalize restTo xs s xs.length = rs at HR HY HN hrl
                generalize hbs : bst xs st s = bs at HBo HY HN
                have HBs := Lib.hid hbs
                clear hbs
                obtain ⟨bl, bf⟩ := bs
                simp only at HBo
                simp only at HY HN
                skip
                go_wp2_with fail
                refine (l17Longest_any _ rs _ HR.out.ri (by omega)).mono ?_
                rintro e w4 ⟨rfl, hb4⟩
                have hw4 : Below wo.heap.size wo w4 := bthen hq hb4
                have HO4 := Lib.hid (HO.out.below hb4)
                have HB4 := Lib.hid (HBo.out.below hw4)
                have hwz := hw.size
                generalize longest rs = L at HY HN ⊢
                clear HO HR HAp
                by_cases hL : L ≤ st
                · have hdL : decide (L ≤ st) = true := decide_eq_true hL
                  cases bf with
                  | false =>
                    have HS := Lib.hid (HY.out hL (.inl rfl))
                    clear HY HN hL
                    go_wp2_with fail
                    go_roundw
                    case rel => exact ⟨s + 1, by omega, by go_num, by rw [HS.out], bthen hw hw4, by rw [HS.out]; exact HO4.out.mono hwz⟩
                    case measure => simp [intOf]; omega
                  | true =>
                    cases hls : lessL os bl with
                    | true =>
                      have HLs := Lib.hid hls
                      have HS := Lib.hid (HY.out hL (.inr hls))
                      clear HY HN hL hls
                      go_wp2_with fail
                      refine ((l15Less_any _ os _ bl _ HO4.out.ri HB4.out.ri).mono ?_)
                      rintro e w5 ⟨rfl, hb5⟩
                      rw [HLs.out]
                      go_wp2_with fail
                      go_roundw
                      case rel => exact ⟨s + 1, by omega, by go_num, by rw [HS.out], bthen hw (bthen hw4 hb5), by rw [HS.out]; exact (HO4.out.below hb5).mono hwz⟩
                      case measure => simp [intOf]; omega
                    | false =>
                      have HLs := Lib.hid hls
                      have HS := Lib.hid (HN.out (fun h => by rcases h.2 with h | h <;> simp_all))
                      clear HY HN hL hls
                      go_wp2_with fail
                      refine ((l15Less_any _ os _ bl _ HO4.out.ri HB4.out.ri).mono ?_)
                      rintro e w5 ⟨rfl, hb5⟩
                      rw [HLs.out]
                      go_wp2_with fail
                      go_roundw
                      case rel => exact ⟨s + 1, by omega, by go_num, by rw [HS.out], bthen hw (bthen hw4 hb5), by rw [HS.out]; exact (HB4.out.below hb5)⟩
                      case measure => simp [intOf]; omega
                · have hdL : decide (L ≤ st) = false := decide_eq_false hL
                  have HS := Lib.hid (HN.out (fun h => hL h.1))
                  clear HY HN hL
                  go_wp2_with fail
                  go_roundw
                  case rel => exact ⟨s + 1, by omega, by go_num, by rw [HS.out], bthen hw hw4, by rw [HS.out]; exact HB4.out⟩
                  case measure => simp [intOf]; omega
          · have hsn : s = N := by omega
            subst hsn
            have e1 := HW.out
            go_wp2_with fail
            go_ret2
            exact ⟨_, by rw [HE.out]; rfl, by rw [HE.out]; exact HBo.out.mono hb1.size, bthen hb1 hw⟩
      · have HE := Lib.hid (show valOut xs st = ([], 5) by simp [valOut, h1, h2, h9])
        have hd9 : decide ((9 : Int) < xs.length) = true := by rw [decide_eq_true_iff]; omega
        clear C1 h1 h2
        go_enter Try.func43, Try.ntmps43
        go_wp2_with (first | (go_at_call 57; refine D1.out.mono ?_; rintro e w1 ⟨rfl, hb1⟩) | (go_at_call 59; refine (l00In_any _ _ _ _).mono ?_; rintro e w' ⟨rfl, rfl⟩; rw [HB.out]))
        go_ret2
        exact ⟨_, by rw [HE.out]; rfl, by rw [HE.out]; exact OI.nil _ _ _, hb1⟩

set_option maxRecDepth 100000 in
set_option maxHeartbeats 2000000 in
theorem implFewestOutOf_any (v : Value) (xs : List Int) (st : Int) (w : World) (hv : RI w v xs) (hs : xs.length ≤ 1099511627776) :
    Calls Try.prog 44 #[v, .int .i64 st] w fun e w' => ∃ v', e = .returned (.tuple #[v', .int .i64 (valOut xs st).2]) ∧ OI 2 w' w.heap.size v' (valOut xs st).1 ∧ Below w.heap.size w w' := by
  obtain ⟨a, cap, rfl⟩ := hv.shape
  have hl := hv.len
  have HV := Lib.hid hv
  have C1 := implValidOrder_any _ xs w hv hs
  clear hv
  cases h1 : okOrder xs with
  | false =>
    rw [h1] at C1
    have D1 := Lib.hid C1
    have HE := Lib.hid (show valOut xs st = ([], 1) by simp [valOut, h1])
    clear C1 h1
    go_enter Try.func44, Try.ntmps44
    go_wp2_with (go_at_call 19; refine D1.out.mono ?_; rintro e w1 ⟨rfl, hb1⟩)
    go_ret2
    exact ⟨_, by rw [HE.out]; rfl, by rw [HE.out]; exact OI.nil _ _ _, hb1⟩
  | true =>
    rw [h1] at C1
    have D1 := Lib.hid C1
    have h40 := okOrder_len h1
    cases h2 : inB 0 8 st with
    | false =>
      have HE := Lib.hid (show valOut xs st = ([], 2) by simp [valOut, h1, h2])
      have HB := Lib.hid h2
      clear C1 h1 h2
      go_enter Try.func44, Try.ntmps44
      go_wp2_with (first | (go_at_call 19; refine D1.out.mono ?_; rintro e w1 ⟨rfl, hb1⟩) | (go_at_call 58; refine (within_any _ _ _ _).mono ?_; rintro e w' ⟨rfl, rfl⟩; rw [HB.out]))
      go_ret2
      exact ⟨_, by rw [HE.out]; rfl, by rw [HE.out]; exact OI.nil _ _ _, hb1⟩
    | true =>
      have HB := Lib.hid h2
      by_cases h9 : xs.length ≤ 9
      · have HE := Lib.hid (show valOut xs st = ((bst xs st (2 ^ xs.length)).1, 0) by simp [valOut, h1, h2, h9])
        obtain ⟨e1, hN⟩ := wrap_pow h9
        generalize hNN : 2 ^ xs.length = N at *
        have HNN := Lib.hid hNN
        have hd9 : decide ((9 : Int) < xs.length) = false := by rw [decide_eq_false_iff_not]; omega
        obtain ⟨i0, hi, iz0, iz1, iz2⟩ := info_parts info64
        have HI := Lib.hid hi
        have HW := Lib.hid e1
        clear C1 h1 h2 hi hNN e1
        go_enter Try.func44, Try.ntmps44
        go_wp2_with (first | (go_at_call 19; refine D1.out.mono ?_; rintro e w1 ⟨rfl, hb1⟩) | (go_at_call 58; refine (within_any _ _ _ _).mono ?_; rintro e w' ⟨rfl, rfl⟩; rw [HB.out]))
        rw [HW.out]
        go_loopw [6, 7, 30] (fun bv fv iv wr => ∃ s : Nat, s ≤ N ∧ iv = .int .i64 s ∧ fv = .bool (bst xs st s).2 ∧ Below w1.heap.size w1 wr ∧ OI 2 wr w1.heap.size bv (bst xs st s).1) (fun _ _ iv _ => N - (intOf iv).toNat)
        case atStart => exact ⟨0, Nat.zero_le _, rfl, rfl, (Below.refl _ _).alloc (Nat.le_refl _) _, OI.lit0 _ _ _ (Nat.le_refl _)⟩
        case round =>
          rename World => wo
          obtain ⟨s, hs', rfl, rfl, hw, hbo⟩ := hrel
          have HBo := Lib.hid hbo
          clear hbo
          by_cases hlt : s < N
          · skip
            go_wp2_with fail
            skip
            go_loopw [9, 10, 37] (fun ov rv iv wq => ∃ j : Nat, j ≤ xs.length ∧ iv = .int .i64 j ∧ Below wo.heap.size wo wq ∧ OI 2 wq wo.heap.size ov (outTo s j) ∧ OI 2 wq wo.heap.size rv (restTo xs s j) ∧ Apart ov rv) (fun _ _ iv _ => xs.length - (intOf iv).toNat)
            case atStart =>
              have q1 := OI.lit0 2 wo wo.heap.size (Nat.le_refl _)
              have q2 := OI.lit0 2 (wo.alloc (.cells #[] 2)) wo.heap.size (by simp)
              have q3 := q1.below ((Below.refl _ (wo.alloc (.cells #[] 2))).alloc (Nat.le_refl _) (.cells #[] 2))
              refine ⟨0, Nat.zero_le _, rfl, ((Below.refl _ _).alloc (Nat.le_refl _) _).alloc (by simp) _, ?_, ?_, ?_⟩
              · simpa [outTo] using q3
              · simpa [restTo] using q2
              · intro q h3 h4; simp [Value.ownBlock] at h3 h4; omega
            case round =>
              obtain ⟨j, hj, rfl, hq, ho, hr, hap⟩ := hrel
              have HO := Lib.hid ho
              have HR := Lib.hid hr
              have HAp := Lib.hid hap
              clear ho hr hap
              by_cases hlj : j < xs.length
              · obtain ⟨b, off, rfl, hb, hc⟩ := HV.out.cells (by omega)
                have hbw := Nat.lt_of_lt_of_le hb hb1.size
                have g1 := ((bthen (bthen hb1 hw) hq).cell (p := ⟨b, off + j, none⟩) hb).trans (hc j hlj)
                have hgx := Lib.hid (HV.out.getD j)
                have hol := outTo_len s j
                have hrl := restTo_len xs s j
                have HOy := Lib.hid (outTo_yes (s := s) (k := j))
                have HOn := Lib.hid (outTo_no (s := s) (k := j))
                have HRy := Lib.hid (restTo_yes (xs := xs) (s := s) (k := j))
                have HRn := Lib.hid (restTo_no (xs := xs) (s := s) (k := j))
                generalize xs.getD j 0 = x at g1 hgx HRy
                clear hc
                have hqs := hq.size
                skip
                cases hbt : hasB s j with
                | true =>
                  have E1 := Lib.hid (HOy.out hbt)
                  have E2 := Lib.hid (HRn.out hbt)
                  clear HOy HOn HRy HRn
                  have HBt := Lib.hid hbt
                  clear hbt
                  go_wp2_with (first | (go_at_call 75; refine (has_any _ _ _ (by omega) (by omega) (by omega) (by omega)).mono ?_; rintro e w' ⟨rfl, rfl⟩; rw [HBt.out]) | (at_builtin; refine wpList_app1n rfl _ _ 22 rfl 2 _ i0 Try.underlying22 HI.out iz0 iz1 iz2 wo.heap.size _ _ rfl HO.out _ _ (by simp) rfl ?_ ?_ hq.size ?_))
                  · unfold Good; omega
                  · omega
                  · intro v9 w9 h3 h4 h5
                    have hq9 := HO.out.step hq h4
                    have HO9 := Lib.hid h3
                    have HR9 := Lib.hid (HR.out.other h4 HAp.out)
                    have HA9 := Lib.hid (HAp.out.app HR.out h5)
                    clear h3 h4 h5
                    go_wp2_with fail
                    go_roundw
                    case rel => exact ⟨j + 1, by omega, by go_num, hq9, by rw [E1.out]; exact HO9.out, by rw [E2.out]; exact HR9.out, HA9.out⟩
                    case measure => simp [intOf]; omega
                | false =>
                  have E1 := Lib.hid (HOn.out hbt)
                  have E2 := Lib.hid (HRy.out hbt)
                  clear HOy HOn HRy HRn
                  have HBt := Lib.hid hbt
                  clear hbt
                  go_wp2_with (first | (go_at_call 75; refine (has_any _ _ _ (by omega) (by omega) (by omega) (by omega)).mono ?_; rintro e w' ⟨rfl, rfl⟩; rw [HBt.out]) | (at_builtin; refine wpList_app1n rfl _ _ 22 rfl 2 _ i0 Try.underlying22 HI.out iz0 iz1 iz2 wo.heap.size _ _ rfl HR.out _ _ (by simp) rfl hgx.out ?_ hq.size ?_))
                  · omega
                  · intro v9 w9 h3 h4 h5
                    have hq9 := HR.out.step hq h4
                    have HR9 := Lib.hid h3
                    have HO9 := Lib.hid (HO.out.other h4 HAp.out.symm)
                    have HA9 := Lib.hid (HAp.out.symm.app HO.out h5).symm
                    clear h3 h4 h5
                    go_wp2_with fail
                    go_roundw
                    case rel => exact ⟨j + 1, by omega, by go_num, hq9, by rw [E1.out]; exact HO9.out, by rw [E2.out]; exact HR9.out, HA9.out⟩
                    case measure => simp [intOf]; omega
              · have hjn : j = xs.length := by omega
                subst hjn
                have HY := Lib.hid (bst_yes (xs := xs) (st := st) (s := s))
                have HN := Lib.hid (bst_no (xs := xs) (st := st) (s := s))
                have hrl := restTo_len xs s xs.length
                have hol := outTo_len s xs.length
                generalize outTo s xs.length = os at HO HY HN hol
                generalize restTo xs s xs.length = rs at HR HY HN hrl
                generalize hbs : bst xs st s = bs at HBo HY HN
                have HBs := Lib.hid hbs
                clear hbs
                obtain ⟨bl, bf⟩ := bs
                simp only at HBo
                simp only at HY HN
                obtain ⟨oa, oc, rfl⟩ := HO.out.ri.shape
                obtain ⟨ba, bc, rfl⟩ := HBo.out.ri.shape
                go_wp2_with fail
                refine (longestChain_any _ rs _ HR.out.ri (by omega)).mono ?_
                rintro e w4 ⟨rfl, hb4⟩
                have hw4 : Below wo.heap.size wo w4 := bthen hq hb4
                have HO4 := Lib.hid (HO.out.below hb4)
                have HB4 := Lib.hid (HBo.out.below hw4)
                have hwz := hw.size
                generalize longest rs = L at HY HN ⊢
                clear HO HR HAp
                by_cases hL : L ≤ st
                · have hdL : decide (L ≤ st) = true := decide_eq_true hL
                  cases bf with
                  | false =>
                    have HS := Lib.hid (HY.out hL (.inl rfl))
                    clear HY HN hL
                    go_wp2_with fail
                    go_roundw
                    case rel => exact ⟨s + 1, by omega, by go_num, by rw [HS.out], bthen hw hw4, by rw [HS.out]; exact HO4.out.mono hwz⟩
                    case measure => simp [intOf]; omega
                  | true =>
                    by_cases hl1 : os.length < bl.length
                    · have hls : lessL os bl = true := by rw [lessL, if_neg (by omega)]; exact decide_eq_true hl1
                      have hd1 : decide ((os.length : Int) < bl.length) = true := by rw [decide_eq_true_iff]; omega
                      have HS := Lib.hid (HY.out hL (.inr hls))
                      clear HY HN hL hls
                      go_wp2_with fail
                      go_roundw
                      case rel => exact ⟨s + 1, by omega, by go_num, by rw [HS.out], bthen hw hw4, by rw [HS.out]; exact HO4.out.mono hwz⟩
                      case measure => simp [intOf]; omega
                    · have hd1 : decide ((os.length : Int) < bl.length) = false := by rw [decide_eq_false_iff_not]; omega
                      by_cases hl2 : os.length = bl.length
                      · have hd2 : ((os.length : Int) == bl.length) = true := by rw [beq_iff_eq]; omega
                        have hlx : lessL os bl = lexB os bl := by simp [lessL, hl2]
                        have HL2 := Lib.hid hl2
                        clear hl2
                        cases hls : lexB os bl with
                        | true =>
                          have HLs := Lib.hid hls
                          have HS := Lib.hid (HY.out hL (.inr (hlx.trans hls)))
                          clear HY HN hL hls hlx
                          go_wp2_with fail
                          refine ((compare_any _ os _ bl _ HO4.out.ri HB4.out.ri HL2.out).mono ?_)
                          rintro e w5 ⟨c, rfl, hcc, rfl⟩
                          rw [HLs.out] at hcc
                          go_wp2_with fail
                          go_roundw
                          case rel => exact ⟨s + 1, by omega, by go_num, by rw [HS.out], bthen hw hw4, by rw [HS.out]; exact HO4.out.mono hwz⟩
                          case measure => simp [intOf]; omega
                        | false =>
                          have HLs := Lib.hid hls
                          have HS := Lib.hid (HN.out (fun h => by rcases h.2 with h | h <;> simp_all))
                          clear HY HN hL hls hlx
                          go_wp2_with fail
                          refine ((compare_any _ os _ bl _ HO4.out.ri HB4.out.ri HL2.out).mono ?_)
                          rintro e w5 ⟨c, rfl, hcc, rfl⟩
                          rw [HLs.out] at hcc
                          go_wp2_with fail
                          go_roundw
                          case rel => exact ⟨s + 1, by omega, by go_num, by rw [HS.out], bthen hw hw4, by rw [HS.out]; exact HB4.out⟩
                          case measure => simp [intOf]; omega
                      · have hd2 : ((os.length : Int) == bl.length) = false := by rw [beq_eq_false_iff_ne]; omega
                        have hls : lessL os bl = false := by rw [lessL, if_neg hl2]; exact decide_eq_false hl1
                        have HS := Lib.hid (HN.out (fun h => by rcases h.2 with h | h <;> simp_all))
                        clear HY HN hL hls
                        go_wp2_with fail
                        go_roundw
                        case rel => exact ⟨s + 1, by omega, by go_num, by rw [HS.out], bthen hw hw4, by rw [HS.out]; exact HB4.out⟩
                        case measure => simp [intOf]; omega
                · have hdL : decide (L ≤ st) = false := decide_eq_false hL
                  have HS := Lib.hid (HN.out (fun h => hL h.1))
                  clear HY HN hL
                  go_wp2_with fail
                  go_roundw
                  case rel => exact ⟨s + 1, by omega, by go_num, by rw [HS.out], bthen hw hw4, by rw [HS.out]; exact HB4.out⟩
                  case measure => simp [intOf]; omega
          · have hsn : s = N := by omega
            subst hsn
            skip
            go_wp2_with fail
            go_ret2
            exact ⟨_, by rw [HE.out]; rfl, by rw [HE.out]; exact HBo.out.mono hb1.size, bthen hb1 hw⟩
      · have HE := Lib.hid (show valOut xs st = ([], 5) by simp [valOut, h1, h2, h9])
        have hd9 : decide ((9 : Int) < xs.length) = true := by rw [decide_eq_true_iff]; omega
        clear C1 h1 h2
        go_enter Try.func44, Try.ntmps44
        go_wp2_with (first | (go_at_call 19; refine D1.out.mono ?_; rintro e w1 ⟨rfl, hb1⟩) | (go_at_call 58; refine (within_any _ _ _ _).mono ?_; rintro e w' ⟨rfl, rfl⟩; rw [HB.out]))
        go_ret2
        exact ⟨_, by rw [HE.out]; rfl, by rw [HE.out]; exact OI.nil _ _ _, hb1⟩

end Go.Proofs.Yteohfokchimfeaa
