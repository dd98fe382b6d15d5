/-
  FewestLeaks of both sides: what each returns.
-/
import Derived.Test.YtpgnndpjlcihiaaBounds
import Derived.Test.YtpgnndpjlcihiaaLess
namespace Go.Proofs.Ytpgnndpjlcihiaa
open Go.RowKit

/-- The sections of a set, and those that it leaves tight. -/
def ownL (m : Int) (k : Nat) : List Int := selL (fun i => hasB m (i : Nat)) k
def tfOf (m : Int) : Nat → Bool := fun k => !hasB m (k : Nat)
theorem ownL_yes {m : Int} {k : Nat} (h : hasB m k = true) : ownL m (k + 1) = ownL m k ++ [(k : Int)] := selL_yes (p := fun i => hasB m (i : Nat)) h
theorem ownL_no {m : Int} {k : Nat} (h : hasB m k = false) : ownL m (k + 1) = ownL m k := selL_no (p := fun i => hasB m (i : Nat)) h
theorem ownL_len (m : Int) (k : Nat) : (ownL m k).length ≤ k := selL_len _ _
def tightL (m : Int) (s j : Nat) : List Int := (List.range s).map fun (i : Nat) => if i < j ∧ hasB m (i : Nat) = false then (1 : Int) else 0
theorem tightL_len (m : Int) (s j : Nat) : (tightL m s j).length = s := by simp [tightL]
theorem tightL_zero (m : Int) (s : Nat) : tightL m s 0 = List.replicate s 0 := by simp [tightL, List.map_const']
theorem tightL_yes {m : Int} {s j : Nat} (h : hasB m j = true) : tightL m s (j + 1) = tightL m s j := by
  unfold tightL
  apply List.map_congr_left
  intro i _
  by_cases e : i = j
  · subst e; simp [h]
  · simp only [show (i < j + 1) = (i < j) by simp; omega]
theorem tightL_no {m : Int} {s j : Nat} (h : hasB m j = false) : (tightL m s j).set j 1 = tightL m s (j + 1) := by
  apply List.ext_getElem?
  intro i
  rw [List.getElem?_set, tightL_len]
  unfold tightL
  by_cases e : j = i
  · subst e
    rw [if_pos rfl]
    by_cases hs : j < s
    · rw [if_pos hs]; simp [hs, h]
    · rw [if_neg hs]; simp [hs]
  · rw [if_neg e]
    simp only [List.getElem?_map]
    by_cases hs : i < s
    · rw [List.getElem?_range hs]
      simp only [Option.map_some, show (i < j + 1) = (i < j) by simp; omega]
    · rw [List.getElem?_eq_none (by simp; omega)]; rfl
theorem tightL_tf (m : Int) (s k : Nat) (hk : k < s) : tfOf m k = decide ((tightL m s s).getD k 0 = 1) := by
  simp only [tightL, tfOf, List.getD, List.getElem?_map, List.getElem?_range hk, Option.map_some, Option.getD_some]
  cases hasB m (k : Nat) <;> simp [hk]

/-- The best set so far, and whether there is one. -/
def bsL (s : Nat) (xs : List (Int × Int × Int)) : Nat → List Int × Bool
  | 0 => ([], false)
  | m + 1 => if ((bsL s xs m).2 = false ∨ lessL (ownL m s) (bsL s xs m).1 = true) ∧ okA s (tfOf m) xs = true then (ownL m s, true) else bsL s xs m
theorem bsL_yes {s : Nat} {xs : List (Int × Int × Int)} {m : Nat} (h1 : (bsL s xs m).2 = false ∨ lessL (ownL m s) (bsL s xs m).1 = true) (h2 : okA s (tfOf m) xs = true) : bsL s xs (m + 1) = (ownL m s, true) := by
  simp only [bsL]; rw [if_pos ⟨h1, h2⟩]
theorem bsL_no {s : Nat} {xs : List (Int × Int × Int)} {m : Nat} (h : ¬ (((bsL s xs m).2 = false ∨ lessL (ownL m s) (bsL s xs m).1 = true) ∧ okA s (tfOf m) xs = true)) : bsL s xs (m + 1) = bsL s xs m := by
  simp only [bsL]; rw [if_neg h]
theorem bsL_len (s : Nat) (xs : List (Int × Int × Int)) (m : Nat) : (bsL s xs m).1.length ≤ s := by
  induction m with
  | zero => simp [bsL]
  | succ m ih =>
    simp only [bsL]
    split
    · exact ownL_len _ _
    · exact ih
def valFewL (n : Int) (xs : List (Int × Int × Int)) : List Int × Int := (if codeL n xs = 0 then (bsL n.toNat xs (2 ^ n.toNat)).1 else [], codeL n xs)
theorem valFewL_len (n : Int) (xs : List (Int × Int × Int)) : (valFewL n xs).1.length ≤ 9 := by
  unfold valFewL
  by_cases h : codeL n xs = 0
  · simp only [if_pos h]
    have h1 := bsL_len n.toNat xs (2 ^ n.toNat)
    have h2 := small_nat h
    omega
  · simp [if_neg h]
theorem wrap_two {n : Nat} (h : n ≤ 9) : wrap64 (2 ^ n) = ((2 ^ n : Nat) : Int) ∧ 2 ^ n ≤ 512 := by
  rcases (by omega : n = 0 ∨ n = 1 ∨ n = 2 ∨ n = 3 ∨ n = 4 ∨ n = 5 ∨ n = 6 ∨ n = 7 ∨ n = 8 ∨ n = 9) with rfl | rfl | rfl | rfl | rfl | rfl | rfl | rfl | rfl | rfl <;> exact ⟨by kernel_rfl, by decide⟩

theorem open_shape {e : TypeId} {w : World} {base s : Nat} {v : Value} (h : OI e w base v (List.replicate s 0)) (hs : 1 ≤ s) : ∃ R rc, v = .slice (some ⟨R, 0, none⟩) s rc ∧ base ≤ R := by
  rcases h.shape with ⟨_, h1⟩ | ⟨g, c, h1, h2, _⟩
  · have h9 := congrArg List.length h1
    rw [List.length_replicate, List.length_nil] at h9
    omega
  · exact ⟨g, c, by rw [h1, List.length_replicate], h2⟩
theorem few1_enters : ∀ args w, (callFunc 77 args).run Try.prog w = .ok (.enter 77 args) w := enters_of Try.func77 (by kernel_rfl) rfl
theorem few1_any (m : Int) (k : Nat) (b1 : Nat) (w : World) (h0 : 0 ≤ m) (h1 : m ≤ 9223372036854775807) (k1 : k ≤ 40) (h : w.cell? ⟨b1, 0, none⟩ = some (.int .i64 m)) :
    Calls Try.prog 77 #[.int .i64 k, .pointer (some ⟨b1, 0, none⟩)] w fun e w' => e = .returned (.bool (tfOf m k)) ∧ Below w.heap.size w w' := by
  go_enter Try.func77, Try.ntmps77
  go_wp2_with (go_at_call 75; refine (has_any _ _ _ h0 h1 (by omega) (by omega)).mono ?_; rintro e w' ⟨rfl, rfl⟩)
  go_ret
  exact ⟨rfl, Below.refl _ _⟩

set_option maxRecDepth 100000 in
set_option maxHeartbeats 2000000 in
theorem specFewestLeaks_any (n : Int) (v : Value) (xs : List (Int × Int × Int)) (w : World) (hv : SI P3 w v xs) :
    Calls Try.prog 45 #[.int .i64 n, v] w fun e w' => ∃ v', e = .returned (.tuple #[v', .int .i64 (valFewL n xs).2]) ∧ OI 2 w' w.heap.size v' (valFewL n xs).1 ∧ Below w.heap.size w w' := by
  have HV := Lib.hid hv
  have C1 := l15Code_any n v xs w hv
  have hmf : ∀ (fn : Fn) (first cap : Array Value) (w : World), (Instr.makeFunc fn first cap).run Try.prog w = .ok (.func fn first cap) w := fun _ _ _ _ => rfl
  clear hv
  by_cases h0 : codeL n xs = 0
  · rw [show valFewL n xs = ((bsL n.toNat xs (2 ^ n.toNat)).1, 0) by simp [valFewL, h0]]
    obtain ⟨hok, hA⟩ := codeL_zero h0
    rw [h0] at C1
    have D1 := Lib.hid C1
    have hn := okLosses_n hok
    obtain ⟨s, rfl⟩ : ∃ s : Nat, n = s := ⟨n.toNat, by omega⟩
    have HX := Lib.hid (show fitT s xs from fitT_of hok)
    have hs9 : s ≤ 9 := by omega
    have hs1 : 1 ≤ s := by omega
    simp only [show (s : Int).toNat = s from rfl]
    clear C1 h0 hok hA
    obtain ⟨e1, hN⟩ := wrap_two hs9
    generalize 2 ^ s = N at *
    have HW := Lib.hid e1
    clear e1
    obtain ⟨i0, hi, iz0, iz1, iz2⟩ := info_parts info64
    have HI := Lib.hid hi
    clear hi
    go_enter Try.func45, Try.ntmps45
    go_wp2_with (go_at_call 67; refine D1.out.mono ?_; rintro e w1 ⟨v1, rfl, hb1, _⟩)
    go_loopw [8, 9, 10] (fun bv fv iv wr => ∃ m : Nat, m ≤ N ∧ iv = .int .i64 m ∧ fv = .bool (bsL s xs m).2 ∧ Below w1.heap.size w1 wr ∧ OI 2 wr w1.heap.size bv (bsL s xs m).1) (fun _ _ iv _ => N - (intOf iv).toNat)
    case atStart => exact ⟨0, Nat.zero_le _, rfl, rfl, (Below.refl _ _).alloc (Nat.le_refl _) _, OI.lit0 _ _ _ (Nat.le_refl _)⟩
    case round =>
      rename World => wo
      obtain ⟨m, hm, rfl, rfl, hw, hbo⟩ := hrel
      have HBo := Lib.hid hbo
      clear hbo
      by_cases hlt : m < N
      · have e1 := HW.out
        have HB0 := Lib.hid ((Below.refl wo.heap.size wo).alloc (Nat.le_refl _) (.cells #[] 2))
        go_wp2_with (go_at_call 65; refine (l15Open_any s _ hs1 hs9).mono ?_; rintro e wt ⟨ut, rfl, hot, hbt⟩; obtain ⟨R, rc, hu, hR⟩ := open_shape hot hs1; subst hu; have HOT := Lib.hid hot; have HBT := Lib.hid hbt; have HRR := Lib.hid hR; clear hot hbt hR)
        clear e1
        try rw [HW.out]
        go_loopw [11, 13] (fun ov iv wq => ∃ j : Nat, j ≤ s ∧ iv = .int .i64 j ∧ Below wo.heap.size wo wq ∧ OI 2 wq wo.heap.size ov (ownL m j) ∧ OI 2 wq wo.heap.size (.slice (some ⟨R, 0, none⟩) s rc) (tightL m s j) ∧ Apart ov (.slice (some ⟨R, 0, none⟩) s rc)) (fun _ iv _ => s - (intOf iv).toNat)
        case atStart =>
          have q1 := (OI.lit0 2 wo wo.heap.size (Nat.le_refl _)).below HBT.out
          have q2 := HOT.out.mono HB0.out.size
          rw [← tightL_zero m s] at q2
          refine ⟨0, Nat.zero_le _, rfl, bthen HB0.out HBT.out, q1, q2, ?_⟩
          intro q h3 h4
          have := HRR.out
          simp [Value.ownBlock] at h3 h4 this
          omega
        case round =>
          obtain ⟨j, hj, rfl, hq, ho, hr, hap⟩ := hrel
          rename World => wq
          have HO := Lib.hid ho
          have HR := Lib.hid hr
          have HAp := Lib.hid hap
          clear ho hr hap
          by_cases hlj : j < s
          · have hd : decide ((j : Int) < (s : Int)) = true := decide_eq_true (by omega)
            have hol := ownL_len m j
            have hba := bit_and m j (by omega) (by omega)
            have hji : (j : Int) < (s : Int) := by omega
            cases hbt : hasB m j with
            | true =>
              have E1 := Lib.hid (ownL_yes hbt)
              have E2 := Lib.hid (tightL_yes (s := s) hbt)
              have hbt2 : (bits BinOp.and IntKind.i64 ((m : Int) / 2 ^ j) 1 == 1) = true := by rw [hba]; simpa [hasB] using hbt
              clear hba hbt
              go_wp2_with (at_builtin; refine wpList_app1n rfl _ _ 30 rfl 2 _ i0 Try.underlying30 HI.out iz0 iz1 iz2 wo.heap.size _ _ rfl HO.out _ _ (by simp) rfl (by unfold Good; omega) (by omega) hq.size ?_; intro v9 w9 h3 h4 h5; have hq9 := HO.out.step hq h4; have HO9 := Lib.hid h3; have HR9 := Lib.hid (HR.out.other h4 HAp.out); have HA9 := Lib.hid (HAp.out.app HR.out h5); clear h3 h4 h5)
              go_roundw
              case rel => exact ⟨j + 1, by omega, by go_num, hq9, by rw [E1.out]; exact HO9.out, by rw [E2.out]; exact HR9.out, HA9.out⟩
              case measure => simp [intOf]; omega
            | false =>
              have E1 := Lib.hid (ownL_no hbt)
              have h1g : Good 1 := by unfold Good; omega
              obtain ⟨c1, c2⟩ := HR.out.cell j (by rw [tightL_len]; exact hlj)
              have hset := HR.out.set j 1 h1g
              rw [tightL_no hbt] at hset
              have hq9 := HR.out.step hq hset.2
              have HO9 := Lib.hid (HO.out.other (u := .slice (some ⟨R, 0, none⟩) s rc) hset.2 HAp.out.symm)
              have HR9 := Lib.hid hset.1
              have HQ9 := Lib.hid hq9
              have hbt2 : (bits BinOp.and IntKind.i64 ((m : Int) / 2 ^ j) 1 == 1) = false := by rw [hba]; simpa [hasB] using hbt
              clear hba hbt hset hq9
              go_wp2
              go_roundw
              case rel => exact ⟨j + 1, by omega, by go_num, HQ9.out, by rw [E1.out]; exact HO9.out, HR9.out, HAp.out⟩
              case measure => simp [intOf]; omega
          · have hjn : j = s := by omega
            subst hjn
            have hd : decide ((j : Int) < (j : Int)) = false := decide_eq_false (by omega)
            have hwb := bthen hw hq
            have HT := Lib.hid (fun k hk => tightL_tf m j k hk)
            have HTL := Lib.hid (tightL_len m j j)
            have HB4 := Lib.hid (HBo.out.below hq)
            have hwz := hw.size
            have D2 := Lib.hid (fun (W : World) (hW : Below wq.heap.size wq W) => tableB_any j v xs _ (tightL m j j) (tfOf m) W hs1 hs9 (HV.out.below (bthen (bthen hb1 hwb) hW)) HX.out (HR.out.ri.below hW) HTL.out HT.out)
            have HSM := Lib.hid (ok_same hs9 (tfOf m) HX.out)
            have HY := Lib.hid (bsL_yes (s := j) (xs := xs) (m := m))
            have HN := Lib.hid (bsL_no (s := j) (xs := xs) (m := m))
            have hol := ownL_len m j
            generalize ownL m j = os at HO HY HN hol
            generalize hbs : bsL j xs m = bs at HBo HB4 HY HN
            clear hbs
            obtain ⟨bl, bf⟩ := bs
            simp only at HBo HB4
            simp only at HY HN
            cases bf with
            | false =>
              cases hok : okA j (tfOf m) xs with
              | true =>
                have HOK := Lib.hid hok
                have HS := Lib.hid (HY.out (.inl rfl) hok)
                clear HY HN hok
                have D3 := D2.out _ (Below.refl _ _)
                rw [← HSM.out, HOK.out] at D3
                have D4 := Lib.hid D3
                clear D3
                go_wp2_with (go_at_call 64; refine D4.out.mono ?_; rintro e w6 ⟨v6, rfl, hb6, _⟩)
                go_roundw
                case rel => exact ⟨m + 1, by omega, by go_num, by rw [HS.out], bthen hwb (bthen ((Below.refl _ _)) hb6), by rw [HS.out]; exact (HO.out.below (bthen ((Below.refl _ _)) hb6)).mono hwz⟩
                case measure => simp [intOf]; omega
              | false =>
                have HOK := Lib.hid hok
                have HS := Lib.hid (HN.out (fun h => by rw [hok] at h; exact absurd h.2 Bool.false_ne_true))
                clear HY HN hok
                have D3 := D2.out _ (Below.refl _ _)
                rw [← HSM.out, HOK.out] at D3
                have D4 := Lib.hid D3
                clear D3
                go_wp2_with (go_at_call 64; refine D4.out.mono ?_; rintro e w6 ⟨v6, rfl, hb6, _⟩)
                go_roundw
                case rel => exact ⟨m + 1, by omega, by go_num, by rw [HS.out], bthen hwb (bthen ((Below.refl _ _)) hb6), by rw [HS.out]; exact HB4.out.below (bthen ((Below.refl _ _)) hb6)⟩
                case measure => simp [intOf]; omega
            | true =>
              have C5 := l15Less_any _ os _ bl wq HO.out.ri HB4.out.ri
              cases hls : lessL os bl with
              | true =>
                rw [hls] at C5
                have D5 := Lib.hid C5
                have HLs := Lib.hid hls
                clear C5 hls
                go_wp2_with fail
                refine D5.out.mono ?_
                rintro e w5 ⟨rfl, hb5⟩
                cases hok : okA j (tfOf m) xs with
                | true =>
                  have HOK := Lib.hid hok
                  have HS := Lib.hid (HY.out (.inr HLs.out) hok)
                  clear HY HN hok
                  have D3 := D2.out _ hb5
                  rw [← HSM.out, HOK.out] at D3
                  have D4 := Lib.hid D3
                  clear D3
                  go_wp2_with (go_at_call 64; refine D4.out.mono ?_; rintro e w6 ⟨v6, rfl, hb6, _⟩)
                  go_roundw
                  case rel => exact ⟨m + 1, by omega, by go_num, by rw [HS.out], bthen hwb (bthen (hb5) hb6), by rw [HS.out]; exact (HO.out.below (bthen (hb5) hb6)).mono hwz⟩
                  case measure => simp [intOf]; omega
                | false =>
                  have HOK := Lib.hid hok
                  have HS := Lib.hid (HN.out (fun h => by rw [hok] at h; exact absurd h.2 Bool.false_ne_true))
                  clear HY HN hok
                  have D3 := D2.out _ hb5
                  rw [← HSM.out, HOK.out] at D3
                  have D4 := Lib.hid D3
                  clear D3
                  go_wp2_with (go_at_call 64; refine D4.out.mono ?_; rintro e w6 ⟨v6, rfl, hb6, _⟩)
                  go_roundw
                  case rel => exact ⟨m + 1, by omega, by go_num, by rw [HS.out], bthen hwb (bthen (hb5) hb6), by rw [HS.out]; exact HB4.out.below (bthen (hb5) hb6)⟩
                  case measure => simp [intOf]; omega
              | false =>
                rw [hls] at C5
                have D5 := Lib.hid C5
                have HLs := Lib.hid hls
                have HS := Lib.hid (HN.out (fun h => by rcases h.1 with h | h <;> simp_all))
                clear C5 hls HY HN
                go_wp2_with (go_at_call 74; refine D5.out.mono ?_; rintro e w5 ⟨rfl, hb5⟩)
                go_roundw
                case rel => exact ⟨m + 1, by omega, by go_num, by rw [HS.out], bthen hwb hb5, by rw [HS.out]; exact HB4.out.below hb5⟩
                case measure => simp [intOf]; omega
      · have hsn : m = N := by omega
        subst hsn
        have e1 := HW.out
        go_wp2_with fail
        go_ret2
        exact ⟨_, rfl, HBo.out.mono hb1.size, bthen hb1 hw⟩
  · rw [show valFewL n xs = ([], codeL n xs) by simp [valFewL, h0]]
    generalize codeL n xs = cd at h0 C1 ⊢
    have hcd : (cd != 0) = true := by simp [h0]
    have D1 := Lib.hid C1
    clear C1 h0
    go_enter Try.func45, Try.ntmps45
    go_wp2_with (go_at_call 67; refine D1.out.mono ?_; rintro e w1 ⟨v1, rfl, hb1, _⟩)
    go_ret2
    exact ⟨_, rfl, OI.nil _ _ _, hb1⟩

set_option maxRecDepth 100000 in
set_option maxHeartbeats 2000000 in
theorem implFewestLeaks_any (n : Int) (v : Value) (xs : List (Int × Int × Int)) (w : World) (hv : SI P3 w v xs) :
    Calls Try.prog 46 #[.int .i64 n, v] w fun e w' => ∃ v', e = .returned (.tuple #[v', .int .i64 (valFewL n xs).2]) ∧ OI 2 w' w.heap.size v' (valFewL n xs).1 ∧ Below w.heap.size w w' := by
  have HV := Lib.hid hv
  have C1 := leakBounds_any n v xs w hv
  have hmf : ∀ (fn : Fn) (first cap : Array Value) (w : World), (Instr.makeFunc fn first cap).run Try.prog w = .ok (.func fn first cap) w := fun _ _ _ _ => rfl
  clear hv
  by_cases h0 : codeL n xs = 0
  · rw [show valFewL n xs = ((bsL n.toNat xs (2 ^ n.toNat)).1, 0) by simp [valFewL, h0]]
    obtain ⟨hok, hA⟩ := codeL_zero h0
    rw [h0] at C1
    have D1 := Lib.hid C1
    have hn := okLosses_n hok
    obtain ⟨s, rfl⟩ : ∃ s : Nat, n = s := ⟨n.toNat, by omega⟩
    have HX := Lib.hid (show fitT s xs from fitT_of hok)
    have hs9 : s ≤ 9 := by omega
    have hs1 : 1 ≤ s := by omega
    simp only [show (s : Int).toNat = s from rfl]
    clear C1 h0 hok hA
    obtain ⟨e1, hN⟩ := wrap_two hs9
    generalize 2 ^ s = N at *
    have HW := Lib.hid e1
    clear e1
    obtain ⟨i0, hi, iz0, iz1, iz2⟩ := info_parts info64
    have HI := Lib.hid hi
    clear hi
    go_enter Try.func46, Try.ntmps46
    go_wp2_with (go_at_call 69; refine D1.out.mono ?_; rintro e w1 ⟨v1, v2, rfl, hb1, _, _⟩)
    rw [HW.out]
    go_loopw [9, 10, 30] (fun bv fv iv wr => ∃ m : Nat, m ≤ N ∧ iv = .int .i64 m ∧ fv = .bool (bsL s xs m).2 ∧ Below w1.heap.size w1 wr ∧ OI 2 wr w1.heap.size bv (bsL s xs m).1) (fun _ _ iv _ => N - (intOf iv).toNat)
    case atStart => exact ⟨0, Nat.zero_le _, rfl, rfl, (Below.refl _ _).alloc (Nat.le_refl _) _, OI.lit0 _ _ _ (Nat.le_refl _)⟩
    case round =>
      rename World => wo
      obtain ⟨m, hm, rfl, rfl, hw, hbo⟩ := hrel
      have HBo := Lib.hid hbo
      clear hbo
      by_cases hlt : m < N
      · have hcb : (wo.alloc (.cells #[.int .i64 (m : Int)] 2)).cell? ⟨wo.heap.size, 0, none⟩ = some (.int .i64 (m : Int)) := by rw [World.cell?_alloc_at _ _ _ _ rfl]; rfl
        have hzb : wo.heap.size < (wo.alloc (.cells #[.int .i64 (m : Int)] 2)).heap.size := by simp
        have hBb := (Below.refl wo.heap.size wo).alloc (Nat.le_refl _) (.cells #[.int .i64 (m : Int)] 2)
        have HBB := Lib.hid hBb
        have HSZ := Lib.hid (show (wo.alloc (.cells #[.int .i64 (m : Int)] 2)).heap.size = wo.heap.size + 1 by simp)
        have hdm : decide ((m : Int) < (N : Int)) = true := decide_eq_true (by omega)
        clear hBb
        go_wp2_with fail
        generalize wo.alloc (.cells #[.int .i64 (m : Int)] 2) = wb at hcb hzb HBB HSZ ⊢
        go_loopw [12, 35] (fun ov iv wq => ∃ j : Nat, j ≤ s ∧ iv = .int .i64 j ∧ Below wb.heap.size wb wq ∧ OI 2 wq wb.heap.size ov (ownL m j)) (fun _ iv _ => s - (intOf iv).toNat)
        case atStart => exact ⟨0, Nat.zero_le _, rfl, (Below.refl _ _).alloc (Nat.le_refl _) _, by rw [← HSZ.out]; exact OI.lit0 _ _ _ (Nat.le_refl _)⟩
        case round =>
          obtain ⟨j, hj, rfl, hq, ho⟩ := hrel
          rename World => wq
          have HO := Lib.hid ho
          clear ho
          have gb := (hq.cell (p := ⟨wo.heap.size, 0, none⟩) hzb).trans hcb
          by_cases hlj : j < s
          · have hd : decide ((j : Int) < (s : Int)) = true := decide_eq_true (by omega)
            have hol := ownL_len m j
            cases hbt : hasB m j with
            | true =>
              have E1 := Lib.hid (ownL_yes hbt)
              have HBt := Lib.hid hbt
              clear hbt
              go_wp2_with (first | (go_at_call 75; refine (has_any _ _ _ (by omega) (by omega) (by omega) (by omega)).mono ?_; rintro e w' ⟨rfl, rfl⟩; rw [HBt.out]) | (at_builtin; refine wpList_app1n rfl _ _ 30 rfl 2 _ i0 Try.underlying30 HI.out iz0 iz1 iz2 wb.heap.size _ _ rfl HO.out _ _ (by simp) rfl (by unfold Good; omega) (by omega) hq.size ?_; intro v9 w9 h3 h4 h5; have hq9 := HO.out.step hq h4; have HO9 := Lib.hid h3; clear h3 h4 h5))
              go_roundw
              case rel => exact ⟨j + 1, by omega, by go_num, hq9, by rw [E1.out]; exact HO9.out⟩
              case measure => simp [intOf]; omega
            | false =>
              have E1 := Lib.hid (ownL_no hbt)
              have HBt := Lib.hid hbt
              clear hbt
              go_wp2_with (go_at_call 75; refine (has_any _ _ _ (by omega) (by omega) (by omega) (by omega)).mono ?_; rintro e w' ⟨rfl, rfl⟩; rw [HBt.out])
              go_roundw
              case rel => exact ⟨j + 1, by omega, by go_num, hq, by rw [E1.out]; exact HO.out⟩
              case measure => simp [intOf]; omega
          · have hjn : j = s := by omega
            subst hjn
            have hd : decide ((j : Int) < (j : Int)) = false := decide_eq_false (by omega)
            have hwb := bthen hw (bthen HBB.out hq)
            have HB4 := Lib.hid (HBo.out.below (bthen HBB.out hq))
            have hwz := Nat.le_trans hw.size HBB.out.size
            have D2 := Lib.hid (sumBounds_any j v xs 77 #[.pointer (some ⟨wo.heap.size, 0, none⟩)] (tfOf m) wq hs1 hs9 (HV.out.below (bthen hb1 hwb)) HX.out few1_enters (fun W k hW hk => few1_any m k wo.heap.size W (by omega) (by omega) (by omega) ((hW.cell (p := ⟨wo.heap.size, 0, none⟩) (Nat.lt_of_lt_of_le hzb hq.size)).trans gb)))
            have HY := Lib.hid (bsL_yes (s := j) (xs := xs) (m := m))
            have HN := Lib.hid (bsL_no (s := j) (xs := xs) (m := m))
            have hol := ownL_len m j
            generalize ownL m j = os at HO HY HN hol
            generalize hbs : bsL j xs m = bs at HBo HB4 HY HN
            clear hbs
            obtain ⟨bl, bf⟩ := bs
            simp only at HBo HB4
            simp only at HY HN
            obtain ⟨oa, oc, rfl⟩ := HO.out.ri.shape
            obtain ⟨ba, bc, rfl⟩ := HBo.out.ri.shape
            cases bf with
            | false =>
              cases hok : okA j (tfOf m) xs with
              | true =>
                have HOK := Lib.hid hok
                have HS := Lib.hid (HY.out (.inl rfl) hok)
                clear HY HN hok
                have D3 := D2.out
                rw [HOK.out] at D3
                have D4 := Lib.hid D3
                clear D3
                go_wp2_with (go_at_call 72; refine D4.out.mono ?_; rintro e w6 ⟨v6, rfl, hb6, _⟩)
                go_roundw
                case rel => exact ⟨m + 1, by omega, by go_num, by rw [HS.out], bthen hwb (hb6), by rw [HS.out]; exact (HO.out.below (hb6)).mono hwz⟩
                case measure => simp [intOf]; omega
              | false =>
                have HOK := Lib.hid hok
                have HS := Lib.hid (HN.out (fun h => by rw [hok] at h; exact absurd h.2 Bool.false_ne_true))
                clear HY HN hok
                have D3 := D2.out
                rw [HOK.out] at D3
                have D4 := Lib.hid D3
                clear D3
                go_wp2_with (go_at_call 72; refine D4.out.mono ?_; rintro e w6 ⟨v6, rfl, hb6, _⟩)
                go_roundw
                case rel => exact ⟨m + 1, by omega, by go_num, by rw [HS.out], bthen hwb (hb6), by rw [HS.out]; exact HB4.out.below (hb6)⟩
                case measure => simp [intOf]; omega
            | true =>
              by_cases hl1 : bl.length < os.length
              · have hls : lessL os bl = false := by rw [lessL, if_neg (by omega)]; exact decide_eq_false (by omega)
                have hd1 : decide ((bl.length : Int) < os.length) = true := by rw [decide_eq_true_iff]; omega
                have hd1' : decide (bl.length < os.length) = true := by rw [decide_eq_true_iff]; omega
                have HS := Lib.hid (HN.out (fun h => by rcases h.1 with h | h <;> simp_all))
                clear HY HN hls
                go_wp2_with fail
                go_roundw
                case rel => exact ⟨m + 1, by omega, by go_num, by rw [HS.out], hwb, by rw [HS.out]; exact HB4.out⟩
                case measure => simp [intOf]; omega
              · have hd1 : decide ((bl.length : Int) < os.length) = false := by rw [decide_eq_false_iff_not]; omega
                have hd1' : decide (bl.length < os.length) = false := by rw [decide_eq_false_iff_not]; omega
                by_cases hl2 : os.length = bl.length
                · have hd2 : ((os.length : Int) == bl.length) = true := by rw [beq_iff_eq]; omega
                  have hlx : lessL os bl = lexB os bl := by simp [lessL, hl2]
                  have HLX := Lib.hid hlx
                  have HL2 := Lib.hid hl2
                  clear hl2 hlx
                  have D5 := Lib.hid (compare_any _ os _ bl wq HO.out.ri HB4.out.ri HL2.out)
                  cases hls : lexB os bl with
                  | true =>
                    have HLs := Lib.hid hls
                    clear hls
                    go_wp2_with fail
                    refine D5.out.mono ?_
                    rintro e w5 ⟨c, rfl, hcc, rfl⟩
                    rw [HLs.out] at hcc
                    have hc0 : decide ((0 : Int) ≤ c) = false := by simp at hcc ⊢; omega
                    clear hcc
                    cases hok : okA j (tfOf m) xs with
                    | true =>
                      have HOK := Lib.hid hok
                      have HS := Lib.hid (HY.out (.inr (HLX.out.trans HLs.out)) hok)
                      clear HY HN hok
                      have D3 := D2.out
                      rw [HOK.out] at D3
                      have D4 := Lib.hid D3
                      clear D3
                      go_wp2_with (go_at_call 72; refine D4.out.mono ?_; rintro e w6 ⟨v6, rfl, hb6, _⟩)
                      go_roundw
                      case rel => exact ⟨m + 1, by omega, by go_num, by rw [HS.out], bthen hwb (hb6), by rw [HS.out]; exact (HO.out.below (hb6)).mono hwz⟩
                      case measure => simp [intOf]; omega
                    | false =>
                      have HOK := Lib.hid hok
                      have HS := Lib.hid (HN.out (fun h => by rw [hok] at h; exact absurd h.2 Bool.false_ne_true))
                      clear HY HN hok
                      have D3 := D2.out
                      rw [HOK.out] at D3
                      have D4 := Lib.hid D3
                      clear D3
                      go_wp2_with (go_at_call 72; refine D4.out.mono ?_; rintro e w6 ⟨v6, rfl, hb6, _⟩)
                      go_roundw
                      case rel => exact ⟨m + 1, by omega, by go_num, by rw [HS.out], bthen hwb (hb6), by rw [HS.out]; exact HB4.out.below (hb6)⟩
                      case measure => simp [intOf]; omega
                  | false =>
                    have HLs := Lib.hid hls
                    have HS := Lib.hid (HN.out (fun h => by rcases h.1 with h | h; · cases h
                                                            · rw [HLX.out, HLs.out] at h; cases h))
                    clear HY HN hls
                    go_wp2_with fail
                    refine D5.out.mono ?_
                    rintro e w5 ⟨c, rfl, hcc, rfl⟩
                    rw [HLs.out] at hcc
                    have hc0 : decide ((0 : Int) ≤ c) = true := by simp at hcc ⊢; omega
                    clear hcc
                    go_wp2_with fail
                    go_roundw
                    case rel => exact ⟨m + 1, by omega, by go_num, by rw [HS.out], hwb, by rw [HS.out]; exact HB4.out⟩
                    case measure => simp [intOf]; omega
                · have hd2 : ((os.length : Int) == bl.length) = false := by rw [beq_eq_false_iff_ne]; omega
                  have hls : lessL os bl = true := by rw [lessL, if_neg hl2]; exact decide_eq_true (by omega)
                  have HLs := Lib.hid hls
                  clear hls hl2
                  cases hok : okA j (tfOf m) xs with
                  | true =>
                    have HOK := Lib.hid hok
                    have HS := Lib.hid (HY.out (.inr HLs.out) hok)
                    clear HY HN hok
                    have D3 := D2.out
                    rw [HOK.out] at D3
                    have D4 := Lib.hid D3
                    clear D3
                    go_wp2_with (go_at_call 72; refine D4.out.mono ?_; rintro e w6 ⟨v6, rfl, hb6, _⟩)
                    go_roundw
                    case rel => exact ⟨m + 1, by omega, by go_num, by rw [HS.out], bthen hwb (hb6), by rw [HS.out]; exact (HO.out.below (hb6)).mono hwz⟩
                    case measure => simp [intOf]; omega
                  | false =>
                    have HOK := Lib.hid hok
                    have HS := Lib.hid (HN.out (fun h => by rw [hok] at h; exact absurd h.2 Bool.false_ne_true))
                    clear HY HN hok
                    have D3 := D2.out
                    rw [HOK.out] at D3
                    have D4 := Lib.hid D3
                    clear D3
                    go_wp2_with (go_at_call 72; refine D4.out.mono ?_; rintro e w6 ⟨v6, rfl, hb6, _⟩)
                    go_roundw
                    case rel => exact ⟨m + 1, by omega, by go_num, by rw [HS.out], bthen hwb (hb6), by rw [HS.out]; exact HB4.out.below (hb6)⟩
                    case measure => simp [intOf]; omega
      · have hsn : m = N := by omega
        subst hsn
        have hdm : decide ((m : Int) < (m : Int)) = false := decide_eq_false (by omega)
        go_wp2_with fail
        go_ret2
        exact ⟨_, rfl, HBo.out.mono hb1.size, bthen hb1 hw⟩
  · rw [show valFewL n xs = ([], codeL n xs) by simp [valFewL, h0]]
    rw [if_neg h0, if_neg h0] at C1
    generalize codeL n xs = cd at h0 C1 ⊢
    have hcd : (cd != 0) = true := by simp [h0]
    have D1 := Lib.hid C1
    clear C1 h0
    go_enter Try.func46, Try.ntmps46
    go_wp2_with (go_at_call 69; refine D1.out.mono ?_; rintro e w1 ⟨v1, v2, rfl, hb1, _, _⟩)
    go_ret2
    exact ⟨_, rfl, OI.nil _ _ _, hb1⟩

end Go.Proofs.Ytpgnndpjlcihiaa
