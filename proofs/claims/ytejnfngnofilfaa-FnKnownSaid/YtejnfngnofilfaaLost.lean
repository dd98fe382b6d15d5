/-
  LostExits of the reference and of the program: what each returns.
-/
import Derived.Test.YtejnfngnofilfaaExit
import Derived.Test.YtejnfngnofilfaaBools
namespace Go.Proofs.Ytejnfngnofilfaa
open Go.RowKit

theorem ex_nat (n : Nat) : ex (n : Int) = ((2 ^ n : Nat) : Int) := by simp [ex]

/-- Which exits k addresses have met. -/
def metL (n : Nat) (xs : List (Int × Int)) (k : Nat) : List Bool := (List.range k).foldl (fun bs (a : Nat) => bs.set (runE n xs a).toNat true) (List.replicate (2 ^ n) false)
theorem metL_succ (n : Nat) (xs : List (Int × Int)) (k : Nat) : metL n xs (k + 1) = (metL n xs k).set (runE n xs k).toNat true := by simp [metL, List.range_succ]
theorem metL_length (n : Nat) (xs : List (Int × Int)) (k : Nat) : (metL n xs k).length = 2 ^ n := by
  induction k with
  | zero => simp [metL]
  | succ k ih => rw [metL_succ, List.length_set, ih]

/-- The numbers below k that a list of marks does not mark. -/
def lostTo (bs : List Bool) (k : Nat) : List Int := ((List.range k).filter fun e => !(bs.getD e false)).map fun (e : Nat) => (e : Int)
theorem lostTo_yes {bs : List Bool} {k : Nat} (h : bs.getD k false = true) : lostTo bs (k + 1) = lostTo bs k := by simp [lostTo, List.range_succ, List.filter_append, ← List.getD_eq_getElem?_getD, h]
theorem lostTo_no {bs : List Bool} {k : Nat} (h : bs.getD k false = false) : lostTo bs (k + 1) = lostTo bs k ++ [(k : Int)] := by simp [lostTo, List.range_succ, List.filter_append, ← List.getD_eq_getElem?_getD, h]
theorem lostTo_len (bs : List Bool) (k : Nat) : (lostTo bs k).length ≤ k := by
  unfold lostTo
  rw [List.length_map]
  exact Nat.le_trans (List.length_filter_le _ _) (by simp)

def valLost (d : Int) (xs : List (Int × Int)) : List Int × Int := if okStuck d xs then (lostTo (metL d.toNat xs (2 ^ d.toNat)) (2 ^ d.toNat), 0) else ([], 1)

theorem pow4 {n : Nat} (h : n ≤ 4) : 2 ^ n ≤ 16 := by
  rcases (by omega : n = 0 ∨ n = 1 ∨ n = 2 ∨ n = 3 ∨ n = 4) with rfl | rfl | rfl | rfl | rfl <;> decide

theorem valLost_len (d : Int) (xs : List (Int × Int)) : (valLost d xs).1.length ≤ 16 := by
  unfold valLost
  split
  · rename_i h
    have hd := okStuck_depth h
    have : d.toNat ≤ 4 := by simp [inB] at hd; omega
    exact Nat.le_trans (lostTo_len _ _) (pow4 this)
  · simp

theorem infoBoolL : (Try.prog.info? 4).map (fun i => (i.zero, i.size, i.bytes)) = some (some (.bool false), 1, 1) := by kernel_rfl

theorem implLostExits_any (d : Int) (v : Value) (xs : List (Int × Int)) (w : World) (hv : SI P2 w v xs) :
    Calls Try.prog 43 #[.int .i64 d, v] w fun e w' => ∃ v', e = .returned (.tuple #[v', .int .i64 (valLost d xs).2]) ∧ OI 2 w' w.heap.size v' (valLost d xs).1 ∧ Below w.heap.size w w' := by
  have HV := Lib.hid hv
  have C1 := implValidStuck_any d v xs w hv
  clear hv
  cases h1 : okStuck d xs with
  | false =>
    rw [h1] at C1
    have D1 := Lib.hid C1
    have HE := Lib.hid (show valLost d xs = ([], 1) by simp only [valLost, h1]; rfl)
    clear C1 h1
    go_enter Try.func43, Try.ntmps43
    go_wp2_with (go_at_call 19; refine D1.out.mono ?_; rintro e w1 ⟨rfl, hb1⟩)
    go_ret2
    exact ⟨_, by rw [HE.out]; rfl, by rw [HE.out]; exact OI.nil _ _ _, hb1⟩
  | true =>
    rw [h1] at C1
    have D1 := Lib.hid C1
    have HK := Lib.hid h1
    have hd := okStuck_depth h1
    have HE := Lib.hid (show valLost d xs = (lostTo (metL d.toNat xs (2 ^ d.toNat)) (2 ^ d.toNat), 0) by simp only [valLost, h1]; rfl)
    obtain ⟨n, rfl⟩ : ∃ n : Nat, d = n := ⟨d.toNat, by simp [inB] at hd; omega⟩
    have hn : 1 ≤ n ∧ n ≤ 4 := by simp [inB] at hd; omega
    obtain ⟨hn1, hn4⟩ := hn
    obtain ⟨e1, _, e3, e4⟩ := wrap_ex hd
    have e1' : wrap64 (2 ^ n) = ((2 ^ n : Nat) : Int) := by rw [← ex_nat]; simpa using e1
    have hN := pow4 hn4
    have hE : ex (n : Int) = ((2 ^ n : Nat) : Int) := ex_nat n
    rw [show (n : Int).toNat = n by simp] at HE
    generalize hNN : 2 ^ n = N at *
    have HNN := Lib.hid hNN
    have E1 := Lib.hid e1'
    have HX := Lib.hid hE
    clear C1 h1 hd e1 e1' hNN hE
    obtain ⟨i0, hi, hz0, hz1, hz2⟩ := info_parts info64
    have HI := Lib.hid hi
    obtain ⟨j0, hj, jz0, jz1, jz2⟩ := info_parts infoBoolL
    have HJ := Lib.hid hj
    clear hi hj
    go_enter Try.func43, Try.ntmps43
    go_wp2_with fail
    refine D1.out.mono ?_
    rintro e w1 ⟨rfl, hb1⟩
    have e1 := E1.out
    go_wp2_with (at_make; refine wpList_make_full _ rfl _ _ 95 rfl w.heap.size 4 j0 (.bool false) 1 Try.underlying95 HJ.out jz0 jz1 .i64 .i64 _ _ N rfl rfl E1.out E1.out (by rw [jz2]; omega) (by unfold maxLen; omega) hb1.size ?_; intro w2 hown hgr)
    have hb2 : Below w.heap.size w w2 := bgrown hb1 hgr (by simp)
    have hg2 : w1.heap.size < w2.heap.size := by
      have := (OB.made hown)
      rcases this.2 with ⟨h, _⟩ | ⟨g, cap, cur, h, _, hg, _⟩
      · simp at h
      · simp only [Value.slice.injEq, Option.some.injEq, Addr.mk.injEq] at h
        rw [h.1.1]; exact (Array.getElem?_eq_some_iff.1 hg).1
    have HO := Lib.hid (OB.made hown)
    clear hown hgr e1
    have hg9 := hb1.size
    generalize hg0 : w1.heap.size = g at *
    clear hg0
    have hN1 : 1 ≤ N := by have := HX.out; omega
    have hout : OI 2 (w2.alloc (.cells #[] 2)) (g + 1) (.slice (some ⟨w2.heap.size, 0, none⟩) 0 0) [] := OI.lit0 _ _ _ (by omega)
    have HOut := Lib.hid hout
    have HZ := Lib.hid (show metL n xs 0 = List.replicate N false by simp [metL, HNN.out])
    have HLen : ∀ k, (metL n xs k).length = N := fun k => by rw [metL_length, HNN.out]
    clear hout
    go_loopw [22] (fun i wr => ∃ k : Nat, k ≤ N ∧ i = .int .i64 k ∧ Below w.heap.size w wr ∧ g < wr.heap.size ∧ OB 4 wr w.heap.size (.slice (some ⟨g, 0, none⟩) N N) (metL n xs k) ∧ OI 2 wr (g + 1) (.slice (some ⟨w2.heap.size, 0, none⟩) 0 0) []) (fun i _ => N - (intOf i).toNat)
    case atStart => exact ⟨0, Nat.zero_le _, rfl, hb2.alloc hb2.size _, by simp; omega, by rw [HZ.out]; exact HO.out.below ((Below.refl _ _).alloc (Nat.le_refl _) _), HOut.out⟩
    case round =>
      obtain ⟨k, hk, rfl, hw, hgw, hob, hoi⟩ := hrel
      have HOB := Lib.hid hob
      have HOI := Lib.hid hoi
      clear hob hoi
      by_cases hlt : k < N
      · have hrb := runE_bound HK.out (k : Int)
        rw [HX.out] at hrb
        have C3 := fun (W : World) (h : SI P2 W v xs) => exitOf_any n v xs k W h HK.out (by omega) (by omega)
        have HM := Lib.hid (metL_succ n xs k)
        generalize runE n xs k = r at C3 hrb HM
        obtain ⟨r0, r1⟩ := hrb
        have D3 := Lib.hid C3
        clear C3
        obtain ⟨m, rfl⟩ : ∃ m : Nat, r = m := ⟨r.toNat, by omega⟩
        have hm : m < N := by omega
        go_wp2_with fail
        refine (D3.out _ (HV.out.below hw)).mono ?_
        rintro e w3 ⟨rfl, hb3⟩
        have hw3 := bthen hw hb3
        have HB3 := Lib.hid (HOB.out.below hb3)
        have HI3 := Lib.hid (HOI.out.below hb3)
        obtain ⟨c1, c2⟩ := HB3.out.cell m (by rw [HLen]; exact hm)
        have HSet := Lib.hid (HB3.out.set m true)
        go_wp2_with fail
        go_roundw
        case rel =>
          obtain ⟨a1, a2⟩ := HSet.out
          refine ⟨k + 1, by omega, by go_num, bgrown hw3 a2 (fun q hq => ?_), ?_, ?_, HI3.out.grown a2 (.inr ?_)⟩
          · simp at hq; omega
          · exact Nat.lt_of_lt_of_le (Nat.lt_of_lt_of_le hgw hb3.size) a2.size
          · rw [HM.out]; simpa using a1
          · simp [Value.ownBlock]; omega
        case measure => simp [intOf]; omega
      · have hkn : k = N := by omega
        subst hkn
        generalize hmet : metL n xs k = met at *
        have hml : met.length = k := by rw [← hmet]; exact HLen k
        clear hmet HZ hlt HO HOut
        go_wp2_with fail
        go_loopw [7, 34] (fun vo i wr => ∃ (j : Nat) (o : Value), j ≤ k ∧ vo = o ∧ i = .int .i64 j ∧ Below w.heap.size w wr ∧ g < wr.heap.size ∧ OB 4 wr w.heap.size (.slice (some ⟨g, 0, none⟩) k k) met ∧ OI 2 wr (g + 1) o (lostTo met j)) (fun _ i _ => k - (intOf i).toNat)
        case atStart => exact ⟨0, _, Nat.zero_le _, rfl, rfl, hw, hgw, HOB.out, by simpa [lostTo] using HOI.out⟩
        case round =>
          obtain ⟨j, o, hj, rfl, rfl, hw', hgw', hob, hoi⟩ := hrel
          have HB := Lib.hid hob
          have HO := Lib.hid hoi
          clear hob hoi HOB HOI
          by_cases hlt : j < k
          · obtain ⟨c1, c2⟩ := HB.out.cell j (by omega)
            have HY := Lib.hid (lostTo_yes (bs := met) (k := j))
            have HN := Lib.hid (lostTo_no (bs := met) (k := j))
            generalize hb : met.getD j false = b at c1 HY HN
            clear hb
            cases b with
            | true =>
              go_wp2_with fail
              go_roundw
              case rel => exact ⟨j + 1, _, by omega, rfl, by go_num, hw', hgw', HB.out, by rw [HY.out rfl]; exact HO.out⟩
              case measure => simp [intOf]; omega
            | false =>
              have hll := lostTo_len met j
              go_wp2_with (at_builtin; refine wpList_app1n rfl _ _ 29 rfl 2 _ i0 Try.underlying29 HI.out hz0 hz1 hz2 (g + 1) _ _ rfl HO.out _ _ (by simp) rfl ?_ ?_ (by omega) ?_)
              · unfold Good; omega
              · omega
              · intro v9 w9 h1 h2 _
                have hb9 := bgrown hw' h2 (fun q hq => by have := (HO.out.lt q hq).1; omega)
                have H9 := Lib.hid h1
                have HB9 := Lib.hid (HB.out.grown h2 (.inr (fun e => by have := (HO.out.lt g (by rw [← e]; rfl)).1; omega)))
                have hs9 := h2.size
                clear h1 h2
                go_wp2_with fail
                go_roundw
                case rel => exact ⟨j + 1, v9, by omega, rfl, by go_num, hb9, by omega, HB9.out, by rw [HN.out trivial]; exact H9.out⟩
                case measure => simp [intOf]; omega
          · have hjn : j = k := by omega
            subst hjn
            go_wp2_with fail
            go_ret2
            exact ⟨_, by rw [HE.out]; rfl, by rw [HE.out]; exact HO.out.mono (by omega), hw'⟩

theorem specLostExits_any (d : Int) (v : Value) (xs : List (Int × Int)) (w : World) (hv : SI P2 w v xs) :
    Calls Try.prog 46 #[.int .i64 d, v] w fun e w' => ∃ v', e = .returned (.tuple #[v', .int .i64 (valLost d xs).2]) ∧ OI 2 w' w.heap.size v' (valLost d xs).1 ∧ Below w.heap.size w w' := by
  have HV := Lib.hid hv
  have C1 := l18Ok_any d v xs w hv
  clear hv
  cases h1 : okStuck d xs with
  | false =>
    rw [h1] at C1
    have D1 := Lib.hid C1
    have HE := Lib.hid (show valLost d xs = ([], 1) by simp only [valLost, h1]; rfl)
    clear C1 h1
    go_enter Try.func46, Try.ntmps46
    go_wp2_with (go_at_call 58; refine D1.out.mono ?_; rintro e w1 ⟨rfl, hb1⟩)
    go_ret2
    exact ⟨_, by rw [HE.out]; rfl, by rw [HE.out]; exact OI.nil _ _ _, hb1⟩
  | true =>
    rw [h1] at C1
    have D1 := Lib.hid C1
    have HK := Lib.hid h1
    have hd := okStuck_depth h1
    have HD := Lib.hid hd
    have HE := Lib.hid (show valLost d xs = (lostTo (metL d.toNat xs (2 ^ d.toNat)) (2 ^ d.toNat), 0) by simp only [valLost, h1]; rfl)
    obtain ⟨n, rfl⟩ : ∃ n : Nat, d = n := ⟨d.toNat, by simp [inB] at hd; omega⟩
    have hn : 1 ≤ n ∧ n ≤ 4 := by simp [inB] at hd; omega
    obtain ⟨hn1, hn4⟩ := hn
    obtain ⟨_, _, e3, e4⟩ := wrap_ex hd
    have hN := pow4 hn4
    have hE : ex (n : Int) = ((2 ^ n : Nat) : Int) := ex_nat n
    rw [show (n : Int).toNat = n by simp] at HE
    generalize hNN : 2 ^ n = N at *
    have HNN := Lib.hid hNN
    have HX := Lib.hid hE
    clear C1 h1 hd hNN hE
    obtain ⟨i0, hi, hz0, hz1, hz2⟩ := info_parts info64
    have HI := Lib.hid hi
    obtain ⟨j0, hj, jz0, jz1, jz2⟩ := info_parts infoBoolL
    have HJ := Lib.hid hj
    clear hi hj
    go_enter Try.func46, Try.ntmps46
    go_wp2_with fail
    refine D1.out.mono ?_
    rintro e w1 ⟨rfl, hb1⟩
    go_wp2_with (first | (go_at_call 76; refine (l18Exits_any _ _ HD.out).mono ?_; rintro e w' ⟨rfl, rfl⟩; rw [HX.out]) | (at_make; refine wpList_make_full _ rfl _ _ 95 rfl w.heap.size 4 j0 (.bool false) 1 Try.underlying95 HJ.out jz0 jz1 .i64 .i64 _ _ N rfl rfl rfl rfl (by rw [jz2]; omega) (by unfold maxLen; omega) hb1.size ?_; intro w2 hown hgr))
    have hb2 : Below w.heap.size w w2 := bgrown hb1 hgr (by simp)
    have hg2 := OB.size (OB.made hown)
    have HO := Lib.hid (OB.made hown)
    have hg9 := hb1.size
    clear hown hgr
    generalize hg0 : w1.heap.size = g at *
    clear hg0
    have hN1 : 1 ≤ N := by have := HX.out; omega
    have HZ := Lib.hid (show metL n xs 0 = List.replicate N false by simp [metL, HNN.out])
    have HLen : ∀ k, (metL n xs k).length = N := fun k => by rw [metL_length, HNN.out]
    go_loopw [7] (fun i wr => ∃ k : Nat, k ≤ N ∧ i = .int .i64 k ∧ Below w.heap.size w wr ∧ g < wr.heap.size ∧ OB 4 wr w.heap.size (.slice (some ⟨g, 0, none⟩) N N) (metL n xs k)) (fun i _ => N - (intOf i).toNat)
    case atStart => exact ⟨0, Nat.zero_le _, rfl, hb2, hg2, by rw [HZ.out]; exact HO.out⟩
    case round =>
      obtain ⟨k, hk, rfl, hw, hgw, hob⟩ := hrel
      have HOB := Lib.hid hob
      clear hob
      by_cases hlt : k < N
      · have hrb := runE_bound HK.out (k : Int)
        rw [HX.out] at hrb
        have C3 := fun (W : World) (h : SI P2 W v xs) => l18Run_any n v xs k W h HK.out (by omega) (by omega)
        have HM := Lib.hid (metL_succ n xs k)
        generalize runE n xs k = r at C3 hrb HM
        obtain ⟨r0, r1⟩ := hrb
        have D3 := Lib.hid C3
        clear C3
        obtain ⟨m, rfl⟩ : ∃ m : Nat, r = m := ⟨r.toNat, by omega⟩
        have hm : m < N := by omega
        obtain ⟨c1, c2⟩ := HOB.out.cell m (by rw [HLen]; exact hm)
        have HSet := Lib.hid (HOB.out.set m true)
        go_wp2_with (go_at_call 84; refine (D3.out _ (HV.out.below hw)).mono ?_; rintro e w3 ⟨rfl, rfl⟩)
        go_roundw
        case rel =>
          obtain ⟨a1, a2⟩ := HSet.out
          refine ⟨k + 1, by omega, by go_num, bgrown hw a2 (fun q hq => ?_), ?_, ?_⟩
          · simp at hq; omega
          · exact Nat.lt_of_lt_of_le hgw a2.size
          · rw [HM.out]; simpa using a1
        case measure => simp [intOf]; omega
      · have hkn : k = N := by omega
        subst hkn
        generalize hmet : metL n xs k = met at *
        have hml : met.length = k := by rw [← hmet]; exact HLen k
        clear hmet HZ hlt HO
        go_wp2_with fail
        go_loopw [8, 9] (fun vo i wr => ∃ (j : Nat) (o : Value), j ≤ k ∧ vo = o ∧ i = .int .i64 j ∧ Below w.heap.size w wr ∧ g < wr.heap.size ∧ OB 4 wr w.heap.size (.slice (some ⟨g, 0, none⟩) k k) met ∧ OI 2 wr (g + 1) o (lostTo met j)) (fun _ i _ => k - (intOf i).toNat)
        case atStart => exact ⟨0, _, Nat.zero_le _, rfl, rfl, hw.alloc hw.size _, by simp; omega, HOB.out.below ((Below.refl _ _).alloc (Nat.le_refl _) _), by rw [show lostTo met 0 = [] by rfl]; exact OI.lit0 _ _ _ (by omega)⟩
        case round =>
          obtain ⟨j, o, hj, rfl, rfl, hw', hgw', hob, hoi⟩ := hrel
          have HB := Lib.hid hob
          have HO := Lib.hid hoi
          clear hob hoi HOB
          by_cases hlt : j < k
          · obtain ⟨c1, c2⟩ := HB.out.cell j (by omega)
            have HY := Lib.hid (lostTo_yes (bs := met) (k := j))
            have HN := Lib.hid (lostTo_no (bs := met) (k := j))
            generalize hb : met.getD j false = b at c1 HY HN
            clear hb
            cases b with
            | true =>
              go_wp2_with fail
              go_roundw
              case rel => exact ⟨j + 1, _, by omega, rfl, by go_num, hw', hgw', HB.out, by rw [HY.out rfl]; exact HO.out⟩
              case measure => simp [intOf]; omega
            | false =>
              have hll := lostTo_len met j
              go_wp2_with (at_builtin; refine wpList_app1n rfl _ _ 29 rfl 2 _ i0 Try.underlying29 HI.out hz0 hz1 hz2 (g + 1) _ _ rfl HO.out _ _ (by simp) rfl ?_ ?_ (by omega) ?_)
              · unfold Good; omega
              · omega
              · intro v9 w9 h1 h2 _
                have hb9 := bgrown hw' h2 (fun q hq => by have := (HO.out.lt q hq).1; omega)
                have H9 := Lib.hid h1
                have HB9 := Lib.hid (HB.out.grown h2 (.inr (fun e => by have := (HO.out.lt g (by rw [← e]; rfl)).1; omega)))
                have hs9 := h2.size
                clear h1 h2
                go_wp2_with fail
                go_roundw
                case rel => exact ⟨j + 1, v9, by omega, rfl, by go_num, hb9, by omega, HB9.out, by rw [HN.out trivial]; exact H9.out⟩
                case measure => simp [intOf]; omega
          · have hjn : j = k := by omega
            subst hjn
            go_wp2_with fail
            go_ret2
            exact ⟨_, by rw [HE.out]; rfl, by rw [HE.out]; exact HO.out.mono (by omega), hw'⟩

end Go.Proofs.Ytejnfngnofilfaa
