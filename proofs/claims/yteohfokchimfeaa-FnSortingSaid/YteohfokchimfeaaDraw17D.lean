/-
  The draws of targets, and what the laws of this part draw (gen_draw17d.py).
-/
import Derived.Test.YteohfokchimfeaaDraw17C
import Derived.Test.YteohfokchimfeaaRise
namespace Go.Proofs.Yteohfokchimfeaa
open Go.RowKit

set_option maxRecDepth 100000 in
set_option maxHeartbeats 4000000 in
theorem l17DrawTargets_any (v : Value) (m b base q0 : Nat) (B : Int) (w : World) (hv : BI w v m) (hs : SrcAt w base b v q0) (hq : q0 ≤ 1000) (hB : -1 ≤ B) (hB2 : B ≤ 9) (hne : 0 < m → v.ownBlock ≠ some b) :
    Calls Try.prog 83 #[.pointer (some ⟨b, 0, none⟩), .int .i64 B] w fun e w' => ∃ v' xs, e = .returned v' ∧ OI 2 w' w.heap.size v' xs ∧ xs.length ≤ 41 ∧ w.grownBy w' (some b) := by
  have HV := Lib.hid hv
  have HS := Lib.hid hs
  have hblt := hs.lt.2
  have hwB : IntKind.i64.wrap (B - 1) = B - 1 := IntWalk.i64_in _ (by omega)
  clear hv hs
  obtain ⟨i0, hi, iz0, iz1, iz2⟩ := info_parts info64
  have HI := Lib.hid hi
  clear hi
  go_enter Try.func83, Try.ntmps83
  have HB1 := Lib.hid ((Below.refl w.heap.size w).alloc (Nat.le_refl _) (.cells #[] 2))
  have HO1 := Lib.hid (OI.lit0 2 w w.heap.size (Nat.le_refl _))
  have HG1 := Lib.hid (grown_below (row := some b) HB1.out)
  have C1 := Lib.hid (pick_any v m b base q0 12 _ (HV.out.below HB1.out) (HS.out.below HB1.out) (by omega) hne)
  go_wp2_with fail
  refine C1.out.mono ?_
  rintro e w1 ⟨y, rfl, y0, _, y1, _, hs1, hg1⟩
  have y12 : y < 12 := y1 (by omega)
  obtain ⟨Y0, rfl⟩ : ∃ Y : Nat, y = Y := ⟨y.toNat, by omega⟩
  have HG2 := Lib.hid (grownBy_trans HG1.out hg1)
  have HGB1 := Lib.hid hg1
  have C2 := Lib.hid (one_any v m b base (q0 + 2) 20 w1 (HV.out.grown HG2.out hne) hs1 (by omega) hne)
  clear y1 hs1 hg1
  go_wp2_with fail
  refine C2.out.mono ?_
  rintro e w2 ⟨yn, rfl, hs2, hg2⟩
  have HG3 := Lib.hid (grownBy_trans HG2.out hg2)
  have HGB2 := Lib.hid (grownBy_trans HGB1.out hg2)
  have HS2 := Lib.hid hs2
  clear hs2 hg2
  cases yn with
  | true =>
    have C3 := Lib.hid (pick_any v m b base (q0 + 2 + 2) 2 w2 (HV.out.grown HG3.out hne) HS2.out (by omega) hne)
    go_wp2_with fail
    refine C3.out.mono ?_
    rintro e wA ⟨q, rfl, qq0, _, q1, _, hs3, hg3⟩
    have q2 : q < 2 := q1 (by omega)
    obtain ⟨N, hNq⟩ : ∃ N : Nat, (N : Int) = 40 + q := ⟨(40 + q).toNat, by omega⟩
    have hwq40 : IntKind.i64.wrap (40 + q) = (N : Int) := by rw [IntWalk.i64_in _ (by omega)]; omega
    have hN41 : N ≤ 41 := by omega
    have HGA := Lib.hid (grownBy_trans HG3.out hg3)
    have HGB := Lib.hid (grownBy_trans HGB2.out hg3)
    have HSA := Lib.hid hs3
    clear q1 hs3 hg3 hNq
    have hNd : decide ((0 : Int) < (N : Int)) = decide (0 < N) := by
      by_cases h : 0 < N
      · rw [decide_eq_true h, decide_eq_true (show (0 : Int) < (N : Int) by omega)]
      · rw [decide_eq_false h, decide_eq_false (show ¬ (0 : Int) < (N : Int) by omega)]
    clear hNd
    have HOA := Lib.hid (HO1.out.grown HGB.out (.inr (fun e => Nat.ne_of_gt hblt (Option.some.inj e))))
    go_wp2_with fail
    go_loopw [5, 7] (fun o i wr => ∃ (k : Nat) (u : Value) (xs : List Int), k ≤ N ∧ u = o ∧ i = .int .i64 k ∧ OI 2 wr w.heap.size u xs ∧ Hid (xs.length + k = N) ∧ w.grownBy wr (some b) ∧ Hid (SrcAt wr base b v (q0 + 6 + 2 * (N - k)))) (fun _ i _ => (intOf i).toNat)
    case atStart => exact ⟨N, _, [], Nat.le_refl _, rfl, rfl, HOA.out, Lib.hid (by simp), HGA.out, Lib.hid (HSA.out.more (by omega))⟩
    case round =>
      obtain ⟨k, u, xs, hk, rfl, rfl, ho, HX, hg, HSR⟩ := hrel
      rename World => wo
      have HO := Lib.hid ho
      have HG := Lib.hid hg
      have hne1 : u.ownBlock ≠ some b := fun e => by
        have := (HO.out.lt b e).1
        omega
      clear ho hg
      by_cases hlt : 0 < k
      · have hd : decide ((0 : Int) < (k : Int)) = true := decide_eq_true (by omega)
        have hd2 : decide (0 < k) = true := decide_eq_true hlt
        obtain ⟨q, hq⟩ : ∃ q, q = k - 1 := ⟨_, rfl⟩
        have HQ := Lib.hid hq
        have hwq : IntKind.i64.wrap ((k : Int) - 1) = (q : Int) := by rw [IntWalk.i64_in _ (by omega)]; omega
        have hln : xs.length ≤ 41 := by have := HX.out; omega
        clear hq
        have C2 := Lib.hid (pick_any v m b base (q0 + 6 + 2 * (N - k)) (max 1 B) wo (HV.out.grown HG.out hne) HSR.out (by omega) hne)
        go_wp2_with (first | (go_at_call 87; refine (l00Max_any _ _ _).mono ?_; rintro e w' ⟨rfl, rfl⟩))
        refine C2.out.mono ?_
        rintro e w2 ⟨z, rfl, z0, z6, z1, _, hs3, hg3⟩
        have HGD := Lib.hid (show Good z by unfold Good; omega)
        have HG3 := Lib.hid (grownBy_trans HG.out hg3)
        have HO3 := Lib.hid (HO.out.grown hg3 (.inr hne1))
        have HS3 := Lib.hid hs3
        have hsz := HG3.out.size
        clear hs3 hg3 z1
        go_wp2_with (
          at_builtin
          refine wpList_app1n rfl _ _ 22 rfl 2 _ i0 Try.underlying22 HI.out iz0 iz1 iz2 w.heap.size _ _ rfl HO3.out _ _ (by simp) rfl HGD.out (by omega) hsz ?_
          intro v9 w9 h1 h2 h3
          have H9 := Lib.hid h1
          have HG9 := Lib.hid (grown_chain HG3.out h2 (fun q hq => (HO3.out.lt q hq).1))
          have HS9 := Lib.hid (HS3.out.grown h2 (fun e => hne1 e.symm))
          clear h1 h2 h3)
        go_roundw
        case rel =>
          have hq := HQ.out
          exact ⟨q, _, xs ++ [z], by omega, rfl, rfl, H9.out, Lib.hid (by have := HX.out; rw [List.length_append]; simp; omega), HG9.out, Lib.hid (HS9.out.more (by omega))⟩
        case measure =>
          have := HQ.out
          simp [intOf]; omega
      · have hd : decide ((0 : Int) < (k : Int)) = false := decide_eq_false (by omega)
        have hd2 : decide (0 < k) = false := decide_eq_false hlt
        have hxl : xs.length = N := by have := HX.out; omega
        obtain ⟨au, cu, hsh⟩ := HO.out.ri.shape
        rw [hxl] at hsh
        subst hsh
        have HXL := Lib.hid hxl
        clear hxl
        by_cases hN0 : 0 < N
        · have hdn : decide ((0 : Int) < (N : Int)) = true := decide_eq_true (by omega)
          have hdn2 : decide (0 < N) = true := decide_eq_true hN0
          have C5 := Lib.hid (one_any v m b base (q0 + 6 + 2 * (N - k)) 12 wo (HV.out.grown HG.out hne) HSR.out (by omega) hne)
          go_wp2_with fail
          refine C5.out.mono ?_
          rintro e w5 ⟨yn, rfl, hs5, hg5⟩
          have HG5 := Lib.hid (grownBy_trans HG.out hg5)
          have HO5 := Lib.hid (HO.out.grown hg5 (.inr hne1))
          have HS5 := Lib.hid hs5
          clear hs5 hg5
          cases yn with
          | false =>
            go_wp2
            go_ret
            exact ⟨_, xs, rfl, HO5.out, by rw [HXL.out]; omega, HG5.out⟩
          | true =>
            have HB7 := Lib.hid ((Below.refl w5.heap.size w5).alloc (Nat.le_refl _) (.cells (([-1, 0, B - 1, B] : List Int).map (Value.int .i64)).toArray 2))
            have HL := Lib.hid (OI.litL 2 w5 [-1, 0, B - 1, B] 4 rfl (by unfold maxLen; omega) (by
              intro x hx
              simp only [List.mem_cons, List.not_mem_nil, or_false] at hx
              unfold Good
              omega))
            have hlt6 := HG5.out.size
            have hneL : (Value.slice (some ⟨w5.heap.size, 0, none⟩) 4 4).ownBlock ≠ some b := fun e => by
              have : w5.heap.size = b := by simpa [Value.ownBlock] using e
              omega
            have C7 := Lib.hid (among_any v m b base (q0 + 6 + 2 * (N - k) + 2) (.slice (some ⟨w5.heap.size, 0, none⟩) 4 4) [-1, 0, B - 1, B] _ ((HV.out.grown HG5.out hne).below HB7.out) (HS5.out.below HB7.out) (by omega) hne HL.out.ri (by simp) hneL)
            have HO7 := Lib.hid (HO5.out.below HB7.out)
            have HG7 := Lib.hid (grownBy_trans HG5.out (grown_below (row := some b) HB7.out))
            simp only [List.map_cons, List.map_nil] at C7 HO7 HG7
            go_wp2_with fail
            refine C7.out.mono ?_
            rintro e w8 ⟨z8, rfl, hz8, hs8, hg8⟩
            have hgz : Good z8 := HL.out.2 z8 hz8
            have HO8 := Lib.hid (HO7.out.grown hg8 (.inr hne1))
            have HG8 := Lib.hid (grownBy_trans HG7.out hg8)
            obtain ⟨_, h0⟩ | ⟨gp, cq, hq, hg1, hg2⟩ := HO8.out.shape
            · rw [h0] at HXL
              have := HXL.out
              simp at this
              omega
            · simp only [Value.slice.injEq] at hq
              obtain ⟨rfl, hnx, rfl⟩ := hq
              clear hnx
              obtain ⟨gc, fc⟩ := HO8.out.cell 0 (by rw [HXL.out]; omega)
              have hset := HO8.out.set 0 z8 hgz
              have HST := Lib.hid hset.1
              have HGS := Lib.hid (grown_chain HG8.out hset.2 (fun q hq => by
                have : gp = q := by simpa using hq
                omega))
              generalize xs.getD 0 0 = old at gc
              have hYN : (0 : Int) < N := by omega
              clear hset hz8 hs8 hg8
              go_wp2
              go_ret
              exact ⟨_, xs.set 0 z8, rfl, HST.out, by rw [List.length_set, HXL.out]; omega, HGS.out⟩
        · have hdn : decide ((0 : Int) < (N : Int)) = false := decide_eq_false (by omega)
          have hdn2 : decide (0 < N) = false := decide_eq_false hN0
          go_wp2
          go_ret
          exact ⟨_, xs, rfl, HO.out, by rw [HXL.out]; omega, HG.out⟩
  | false =>
    obtain ⟨N, hNq⟩ : ∃ N : Nat, N = Y0 := ⟨Y0, rfl⟩
    rw [← hNq] at y12 y0 ⊢
    have hN41 : N ≤ 41 := by omega
    have HGA := HG3
    have HGB := HGB2
    have HSA := Lib.hid (HS2.out.more (show q0 + 2 + 2 ≤ q0 + 6 by omega))
    clear hNq HG3 HGB2 HS2
    have hNd : decide ((0 : Int) < (N : Int)) = decide (0 < N) := by
      by_cases h : 0 < N
      · rw [decide_eq_true h, decide_eq_true (show (0 : Int) < (N : Int) by omega)]
      · rw [decide_eq_false h, decide_eq_false (show ¬ (0 : Int) < (N : Int) by omega)]
    clear hNd
    have HOA := Lib.hid (HO1.out.grown HGB.out (.inr (fun e => Nat.ne_of_gt hblt (Option.some.inj e))))
    go_wp2_with fail
    go_loopw [5, 7] (fun o i wr => ∃ (k : Nat) (u : Value) (xs : List Int), k ≤ N ∧ u = o ∧ i = .int .i64 k ∧ OI 2 wr w.heap.size u xs ∧ Hid (xs.length + k = N) ∧ w.grownBy wr (some b) ∧ Hid (SrcAt wr base b v (q0 + 6 + 2 * (N - k)))) (fun _ i _ => (intOf i).toNat)
    case atStart => exact ⟨N, _, [], Nat.le_refl _, rfl, rfl, HOA.out, Lib.hid (by simp), HGA.out, Lib.hid (HSA.out.more (by omega))⟩
    case round =>
      obtain ⟨k, u, xs, hk, rfl, rfl, ho, HX, hg, HSR⟩ := hrel
      rename World => wo
      have HO := Lib.hid ho
      have HG := Lib.hid hg
      have hne1 : u.ownBlock ≠ some b := fun e => by
        have := (HO.out.lt b e).1
        omega
      clear ho hg
      by_cases hlt : 0 < k
      · have hd : decide ((0 : Int) < (k : Int)) = true := decide_eq_true (by omega)
        have hd2 : decide (0 < k) = true := decide_eq_true hlt
        obtain ⟨q, hq⟩ : ∃ q, q = k - 1 := ⟨_, rfl⟩
        have HQ := Lib.hid hq
        have hwq : IntKind.i64.wrap ((k : Int) - 1) = (q : Int) := by rw [IntWalk.i64_in _ (by omega)]; omega
        have hln : xs.length ≤ 41 := by have := HX.out; omega
        clear hq
        have C2 := Lib.hid (pick_any v m b base (q0 + 6 + 2 * (N - k)) (max 1 B) wo (HV.out.grown HG.out hne) HSR.out (by omega) hne)
        go_wp2_with (first | (go_at_call 87; refine (l00Max_any _ _ _).mono ?_; rintro e w' ⟨rfl, rfl⟩))
        refine C2.out.mono ?_
        rintro e w2 ⟨z, rfl, z0, z6, z1, _, hs3, hg3⟩
        have HGD := Lib.hid (show Good z by unfold Good; omega)
        have HG3 := Lib.hid (grownBy_trans HG.out hg3)
        have HO3 := Lib.hid (HO.out.grown hg3 (.inr hne1))
        have HS3 := Lib.hid hs3
        have hsz := HG3.out.size
        clear hs3 hg3 z1
        go_wp2_with (
          at_builtin
          refine wpList_app1n rfl _ _ 22 rfl 2 _ i0 Try.underlying22 HI.out iz0 iz1 iz2 w.heap.size _ _ rfl HO3.out _ _ (by simp) rfl HGD.out (by omega) hsz ?_
          intro v9 w9 h1 h2 h3
          have H9 := Lib.hid h1
          have HG9 := Lib.hid (grown_chain HG3.out h2 (fun q hq => (HO3.out.lt q hq).1))
          have HS9 := Lib.hid (HS3.out.grown h2 (fun e => hne1 e.symm))
          clear h1 h2 h3)
        go_roundw
        case rel =>
          have hq := HQ.out
          exact ⟨q, _, xs ++ [z], by omega, rfl, rfl, H9.out, Lib.hid (by have := HX.out; rw [List.length_append]; simp; omega), HG9.out, Lib.hid (HS9.out.more (by omega))⟩
        case measure =>
          have := HQ.out
          simp [intOf]; omega
      · have hd : decide ((0 : Int) < (k : Int)) = false := decide_eq_false (by omega)
        have hd2 : decide (0 < k) = false := decide_eq_false hlt
        have hxl : xs.length = N := by have := HX.out; omega
        obtain ⟨au, cu, hsh⟩ := HO.out.ri.shape
        rw [hxl] at hsh
        subst hsh
        have HXL := Lib.hid hxl
        clear hxl
        by_cases hN0 : 0 < N
        · have hdn : decide ((0 : Int) < (N : Int)) = true := decide_eq_true (by omega)
          have hdn2 : decide (0 < N) = true := decide_eq_true hN0
          have C5 := Lib.hid (one_any v m b base (q0 + 6 + 2 * (N - k)) 12 wo (HV.out.grown HG.out hne) HSR.out (by omega) hne)
          go_wp2_with fail
          refine C5.out.mono ?_
          rintro e w5 ⟨yn, rfl, hs5, hg5⟩
          have HG5 := Lib.hid (grownBy_trans HG.out hg5)
          have HO5 := Lib.hid (HO.out.grown hg5 (.inr hne1))
          have HS5 := Lib.hid hs5
          clear hs5 hg5
          cases yn with
          | false =>
            go_wp2
            go_ret
            exact ⟨_, xs, rfl, HO5.out, by rw [HXL.out]; omega, HG5.out⟩
          | true =>
            have HB7 := Lib.hid ((Below.refl w5.heap.size w5).alloc (Nat.le_refl _) (.cells (([-1, 0, B - 1, B] : List Int).map (Value.int .i64)).toArray 2))
            have HL := Lib.hid (OI.litL 2 w5 [-1, 0, B - 1, B] 4 rfl (by unfold maxLen; omega) (by
              intro x hx
              simp only [List.mem_cons, List.not_mem_nil, or_false] at hx
              unfold Good
              omega))
            have hlt6 := HG5.out.size
            have hneL : (Value.slice (some ⟨w5.heap.size, 0, none⟩) 4 4).ownBlock ≠ some b := fun e => by
              have : w5.heap.size = b := by simpa [Value.ownBlock] using e
              omega
            have C7 := Lib.hid (among_any v m b base (q0 + 6 + 2 * (N - k) + 2) (.slice (some ⟨w5.heap.size, 0, none⟩) 4 4) [-1, 0, B - 1, B] _ ((HV.out.grown HG5.out hne).below HB7.out) (HS5.out.below HB7.out) (by omega) hne HL.out.ri (by simp) hneL)
            have HO7 := Lib.hid (HO5.out.below HB7.out)
            have HG7 := Lib.hid (grownBy_trans HG5.out (grown_below (row := some b) HB7.out))
            simp only [List.map_cons, List.map_nil] at C7 HO7 HG7
            go_wp2_with fail
            refine C7.out.mono ?_
            rintro e w8 ⟨z8, rfl, hz8, hs8, hg8⟩
            have hgz : Good z8 := HL.out.2 z8 hz8
            have HO8 := Lib.hid (HO7.out.grown hg8 (.inr hne1))
            have HG8 := Lib.hid (grownBy_trans HG7.out hg8)
            obtain ⟨_, h0⟩ | ⟨gp, cq, hq, hg1, hg2⟩ := HO8.out.shape
            · rw [h0] at HXL
              have := HXL.out
              simp at this
              omega
            · simp only [Value.slice.injEq] at hq
              obtain ⟨rfl, hnx, rfl⟩ := hq
              clear hnx
              obtain ⟨gc, fc⟩ := HO8.out.cell 0 (by rw [HXL.out]; omega)
              have hset := HO8.out.set 0 z8 hgz
              have HST := Lib.hid hset.1
              have HGS := Lib.hid (grown_chain HG8.out hset.2 (fun q hq => by
                have : gp = q := by simpa using hq
                omega))
              generalize xs.getD 0 0 = old at gc
              have hYN : (0 : Int) < N := by omega
              clear hset hz8 hs8 hg8
              go_wp2
              go_ret
              exact ⟨_, xs.set 0 z8, rfl, HST.out, by rw [List.length_set, HXL.out]; omega, HGS.out⟩
        · have hdn : decide ((0 : Int) < (N : Int)) = false := decide_eq_false (by omega)
          have hdn2 : decide (0 < N) = false := decide_eq_false hN0
          go_wp2
          go_ret
          exact ⟨_, xs, rfl, HO.out, by rw [HXL.out]; omega, HG.out⟩

theorem DrawAssignStacks_any (v : Value) (m : Nat) (w : World) (hv : BI w v m) :
    Calls Try.prog 46 #[v] w fun e w' => ∃ v1 xs, e = .returned v1 ∧ OI 2 w' w.heap.size v1 xs ∧ xs.length ≤ 41 ∧ Below w.heap.size w w' := by
  have HV := Lib.hid hv
  clear hv
  go_enter Try.func46, Try.ntmps46
  go_wp2_with fail
  refine (from_any v m _ HV.out).mono ?_
  rintro e w1 ⟨rfl, hs1, hb1⟩
  have hne : 0 < m → v.ownBlock ≠ some w.heap.size := fun hp e => by have := HV.out.own_lt hp e; omega
  have HB1 := Lib.hid hb1
  have C1 := Lib.hid (l17Draw_any v m w.heap.size w.heap.size w1 (HV.out.below hb1) hs1 hne)
  clear hs1 hb1
  go_wp2_with fail
  refine C1.out.mono ?_
  rintro e w2 ⟨v1, xs, rfl, ho2, hx, hg2, hs2⟩
  have HO2 := Lib.hid (ho2.mono HB1.out.size)
  have HB2 := Lib.hid (bgrown HB1.out hg2 (fun q e => by have := Option.some.inj e; omega))
  clear ho2 hg2 hs2
  go_wp2
  go_ret
  exact ⟨_, xs, rfl, HO2.out, hx, HB2.out⟩

theorem DrawInversionsOf_any (v : Value) (m : Nat) (w : World) (hv : BI w v m) :
    Calls Try.prog 52 #[v] w fun e w' => ∃ v1 xs, e = .returned v1 ∧ OI 2 w' w.heap.size v1 xs ∧ xs.length ≤ 41 ∧ Below w.heap.size w w' := by
  have HV := Lib.hid hv
  clear hv
  go_enter Try.func52, Try.ntmps52
  go_wp2_with fail
  refine (from_any v m _ HV.out).mono ?_
  rintro e w1 ⟨rfl, hs1, hb1⟩
  have hne : 0 < m → v.ownBlock ≠ some w.heap.size := fun hp e => by have := HV.out.own_lt hp e; omega
  have HB1 := Lib.hid hb1
  have C1 := Lib.hid (l17Draw_any v m w.heap.size w.heap.size w1 (HV.out.below hb1) hs1 hne)
  clear hs1 hb1
  go_wp2_with fail
  refine C1.out.mono ?_
  rintro e w2 ⟨v1, xs, rfl, ho2, hx, hg2, hs2⟩
  have HO2 := Lib.hid (ho2.mono HB1.out.size)
  have HB2 := Lib.hid (bgrown HB1.out hg2 (fun q e => by have := Option.some.inj e; omega))
  clear ho2 hg2 hs2
  go_wp2
  go_ret
  exact ⟨_, xs, rfl, HO2.out, hx, HB2.out⟩

theorem DrawSwitchTurns_any (v : Value) (m : Nat) (w : World) (hv : BI w v m) :
    Calls Try.prog 54 #[v] w fun e w' => ∃ v1 xs, e = .returned v1 ∧ OI 2 w' w.heap.size v1 xs ∧ xs.length ≤ 41 ∧ Below w.heap.size w w' := by
  have HV := Lib.hid hv
  clear hv
  go_enter Try.func54, Try.ntmps54
  go_wp2_with fail
  refine (from_any v m _ HV.out).mono ?_
  rintro e w1 ⟨rfl, hs1, hb1⟩
  have hne : 0 < m → v.ownBlock ≠ some w.heap.size := fun hp e => by have := HV.out.own_lt hp e; omega
  have HB1 := Lib.hid hb1
  have C1 := Lib.hid (l17DrawTargets_any v m w.heap.size w.heap.size 0 2 w1 (HV.out.below hb1) hs1 (by omega) (by omega) (by omega) hne)
  clear hs1 hb1
  go_wp2_with fail
  refine C1.out.mono ?_
  rintro e w2 ⟨v1, xs, rfl, ho2, hx, hg2⟩
  have HO2 := Lib.hid (ho2.mono HB1.out.size)
  have HB2 := Lib.hid (bgrown HB1.out hg2 (fun q e => by have := Option.some.inj e; omega))
  clear ho2 hg2
  go_wp2
  go_ret
  exact ⟨_, xs, rfl, HO2.out, hx, HB2.out⟩

theorem DrawIsSorted_any (v : Value) (m : Nat) (w : World) (hv : BI w v m) :
    Calls Try.prog 47 #[v] w fun e w' => ∃ v1 v2 xs ys, e = .returned (.tuple #[v1, v2]) ∧ OI 2 w' w.heap.size v1 xs ∧ OI 2 w' w.heap.size v2 ys ∧ xs.length ≤ 41 ∧ ys.length ≤ 42 ∧ Below w.heap.size w w' := by
  have C1 := Lib.hid (l17Both_any v m w hv)
  clear hv
  go_enter Try.func47, Try.ntmps47
  go_wp2_with fail
  refine C1.out.mono ?_
  rintro e w1 ⟨v1, v2, xs, ys, rfl, h1, h2, h3, h4, h5⟩
  have H1 := Lib.hid h1
  have H2 := Lib.hid h2
  have H5 := Lib.hid h5
  clear h1 h2 h5
  go_wp2
  go_ret2
  exact ⟨_, _, xs, ys, rfl, H1.out, H2.out, h3, h4, H5.out⟩

theorem DrawPopOrder_any (v : Value) (m : Nat) (w : World) (hv : BI w v m) :
    Calls Try.prog 48 #[v] w fun e w' => ∃ v1 v2 xs ys, e = .returned (.tuple #[v1, v2]) ∧ OI 2 w' w.heap.size v1 xs ∧ OI 2 w' w.heap.size v2 ys ∧ xs.length ≤ 41 ∧ ys.length ≤ 42 ∧ Below w.heap.size w w' := by
  have C1 := Lib.hid (l17Both_any v m w hv)
  clear hv
  go_enter Try.func48, Try.ntmps48
  go_wp2_with fail
  refine C1.out.mono ?_
  rintro e w1 ⟨v1, v2, xs, ys, rfl, h1, h2, h3, h4, h5⟩
  have H1 := Lib.hid h1
  have H2 := Lib.hid h2
  have H5 := Lib.hid h5
  clear h1 h2 h5
  go_wp2
  go_ret2
  exact ⟨_, _, xs, ys, rfl, H1.out, H2.out, h3, h4, H5.out⟩

set_option maxRecDepth 100000 in
theorem DrawFewestOutOf_any (v : Value) (m : Nat) (w : World) (hv : BI w v m) :
    Calls Try.prog 51 #[v] w fun e w' => ∃ v1 xs st, e = .returned (.tuple #[v1, .int .i64 st]) ∧ OI 2 w' w.heap.size v1 xs ∧ xs.length ≤ 41 ∧ -1 ≤ st ∧ st ≤ 9 ∧ Below w.heap.size w w' := by
  have HV := Lib.hid hv
  clear hv
  go_enter Try.func51, Try.ntmps51
  go_wp2_with fail
  refine (from_any v m _ HV.out).mono ?_
  rintro e w1 ⟨rfl, hs1, hb1⟩
  have hne : 0 < m → v.ownBlock ≠ some w.heap.size := fun hp e => by have := HV.out.own_lt hp e; omega
  obtain ⟨b, hbd⟩ : ∃ b, b = w.heap.size := ⟨_, rfl⟩
  rw [← hbd] at hs1 hne
  have hblt := hs1.lt.2
  have HB1 := Lib.hid hb1
  have HBD := Lib.hid hbd
  have HV1 := Lib.hid (HV.out.below hb1)
  have C1 := Lib.hid (l17Draw_any v m b w.heap.size w1 HV1.out (hbd ▸ hs1) hne)
  rw [← hbd]
  have HHB := Lib.hid (show ∀ q, some b = some q → w.heap.size ≤ q from fun q e => by have := Option.some.inj e; omega)
  clear hs1 hb1 hbd
  go_wp2_with fail
  refine C1.out.mono ?_
  rintro e w2 ⟨v1, xs, rfl, ho2, hx, hg2, hs2⟩
  have HO2 := Lib.hid ho2
  have HG2 := Lib.hid hg2
  have hne1 := ne_of_lt_own ho2 hblt
  have C2 := Lib.hid (one_any v m b w.heap.size 100 8 w2 (HV1.out.grown hg2 hne) hs2 (by omega) hne)
  clear ho2 hg2 hs2
  go_wp2_with fail
  refine C2.out.mono ?_
  rintro e w3 ⟨yn, rfl, hs3, hg3⟩
  have HG3 := Lib.hid (grownBy_trans HG2.out hg3)
  have HO3 := Lib.hid (HO2.out.grown hg3 (.inr hne1))
  have HS3 := Lib.hid hs3
  clear hs3 hg3
  cases yn with
  | true =>
    have HB7 := Lib.hid ((Below.refl w3.heap.size w3).alloc (Nat.le_refl _) (.cells (([-1, 0, 8, 9] : List Int).map (Value.int .i64)).toArray 2))
    have HL := Lib.hid (OI.litL 2 w3 [-1, 0, 8, 9] 4 rfl (by unfold maxLen; omega) (by
      intro x hx
      simp only [List.mem_cons, List.not_mem_nil, or_false] at hx
      unfold Good
      omega))
    have hlt6 := HG3.out.size
    have hneL : (Value.slice (some ⟨w3.heap.size, 0, none⟩) 4 4).ownBlock ≠ some b := fun e => by
      have : w3.heap.size = b := by simpa [Value.ownBlock] using e
      omega
    have C7 := Lib.hid (among_any v m b w.heap.size 102 (.slice (some ⟨w3.heap.size, 0, none⟩) 4 4) [-1, 0, 8, 9] _ ((HV1.out.grown HG3.out hne).below HB7.out) (HS3.out.below HB7.out) (by omega) hne HL.out.ri (by simp) hneL)
    have HO7 := Lib.hid (HO3.out.below HB7.out)
    have HG7 := Lib.hid (grownBy_trans HG3.out (grown_below (row := some b) HB7.out))
    simp only [List.map_cons, List.map_nil] at C7 HO7 HG7
    go_wp2_with fail
    refine C7.out.mono ?_
    rintro e w8 ⟨z8, rfl, hz8, hs8, hg8⟩
    have hzb : -1 ≤ z8 ∧ z8 ≤ 9 := by
      simp only [List.mem_cons, List.not_mem_nil, or_false] at hz8
      omega
    have HO8 := Lib.hid (HO7.out.grown hg8 (.inr hne1))
    have HG8 := Lib.hid (grownBy_trans HG7.out hg8)
    clear hz8 hs8 hg8
    go_wp2
    go_ret2
    exact ⟨_, xs, z8, rfl, HO8.out.mono HB1.out.size, hx, hzb.1, hzb.2, bgrown HB1.out HG8.out HHB.out⟩
  | false =>
    have C7 := Lib.hid (pick_any v m b w.heap.size 102 3 _ (HV1.out.grown HG3.out hne) HS3.out (by omega) hne)
    go_wp2_with fail
    refine C7.out.mono ?_
    rintro e w8 ⟨z8, rfl, z80, _, z81, _, hs8, hg8⟩
    have hz3 : z8 < 3 := z81 (by omega)
    have hwz : IntKind.i64.wrap (1 + z8) = 1 + z8 := IntWalk.i64_in _ (by omega)
    have HO8 := Lib.hid (HO3.out.grown hg8 (.inr hne1))
    have HG8 := Lib.hid (grownBy_trans HG3.out hg8)
    clear z81 hs8 hg8
    go_wp2
    go_ret2
    exact ⟨_, xs, 1 + z8, rfl, HO8.out.mono HB1.out.size, hx, by omega, by omega, bgrown HB1.out HG8.out HHB.out⟩

set_option maxRecDepth 100000 in
theorem DrawBranchCounts_any (v : Value) (m : Nat) (w : World) (hv : BI w v m) :
    Calls Try.prog 53 #[v] w fun e w' => ∃ v1 xs st, e = .returned (.tuple #[v1, .int .i64 st]) ∧ OI 2 w' w.heap.size v1 xs ∧ xs.length ≤ 41 ∧ -1 ≤ st ∧ st ≤ 9 ∧ Below w.heap.size w w' := by
  have HV := Lib.hid hv
  clear hv
  go_enter Try.func53, Try.ntmps53
  go_wp2_with fail
  refine (from_any v m _ HV.out).mono ?_
  rintro e w1 ⟨rfl, hs1, hb1⟩
  have hne : 0 < m → v.ownBlock ≠ some w.heap.size := fun hp e => by have := HV.out.own_lt hp e; omega
  obtain ⟨b, hbd⟩ : ∃ b, b = w.heap.size := ⟨_, rfl⟩
  rw [← hbd] at hs1 hne
  have hblt := hs1.lt.2
  have HB1 := Lib.hid hb1
  have HBD := Lib.hid hbd
  have HV1 := Lib.hid (HV.out.below hb1)
  have C1 := Lib.hid (pick_any v m b w.heap.size 0 4 w1 HV1.out (hbd ▸ hs1) (by omega) hne)
  rw [← hbd]
  have HHB := Lib.hid (show ∀ q, some b = some q → w.heap.size ≤ q from fun q e => by have := Option.some.inj e; omega)
  clear hs1 hb1 hbd
  go_wp2_with fail
  refine C1.out.mono ?_
  rintro e w2 ⟨z1, rfl, z10, _, z11, _, hs2, hg2⟩
  have hz4 : z1 < 4 := z11 (by omega)
  have hwz : IntKind.i64.wrap (1 + z1) = 1 + z1 := IntWalk.i64_in _ (by omega)
  have HG2 := Lib.hid hg2
  have C2 := Lib.hid (one_any v m b w.heap.size 2 8 w2 (HV1.out.grown hg2 hne) hs2 (by omega) hne)
  clear hg2 hs2 z11
  go_wp2_with fail
  refine C2.out.mono ?_
  rintro e w3 ⟨yn, rfl, hs3, hg3⟩
  have HG3 := Lib.hid (grownBy_trans HG2.out hg3)
  have HS3 := Lib.hid hs3
  clear hs3 hg3
  cases yn with
  | true =>
    have HB7 := Lib.hid ((Below.refl w3.heap.size w3).alloc (Nat.le_refl _) (.cells (([-1, 0, 1, 8, 9] : List Int).map (Value.int .i64)).toArray 2))
    have HL := Lib.hid (OI.litL 2 w3 [-1, 0, 1, 8, 9] 5 rfl (by unfold maxLen; omega) (by
      intro x hx
      simp only [List.mem_cons, List.not_mem_nil, or_false] at hx
      unfold Good
      omega))
    have hlt6 := HG3.out.size
    have hneL : (Value.slice (some ⟨w3.heap.size, 0, none⟩) 5 5).ownBlock ≠ some b := fun e => by
      have : w3.heap.size = b := by simpa [Value.ownBlock] using e
      omega
    have C7 := Lib.hid (among_any v m b w.heap.size 4 (.slice (some ⟨w3.heap.size, 0, none⟩) 5 5) [-1, 0, 1, 8, 9] _ ((HV1.out.grown HG3.out hne).below HB7.out) (HS3.out.below HB7.out) (by omega) hne HL.out.ri (by simp) hneL)
    have HG7 := Lib.hid (grownBy_trans HG3.out (grown_below (row := some b) HB7.out))
    simp only [List.map_cons, List.map_nil] at C7 HG7
    go_wp2_with fail
    refine C7.out.mono ?_
    rintro e w8 ⟨z8, rfl, hz8, hs8, hg8⟩
    have hzb : -1 ≤ z8 ∧ z8 ≤ 9 := by
      simp only [List.mem_cons, List.not_mem_nil, or_false] at hz8
      omega
    have HG8 := Lib.hid (grownBy_trans HG7.out hg8)
    have C9 := Lib.hid (l17DrawTargets_any v m b w.heap.size 6 z8 w8 (HV1.out.grown HG8.out hne) hs8 (by omega) hzb.1 hzb.2 hne)
    clear hz8 hs8 hg8
    go_wp2_with fail
    refine C9.out.mono ?_
    rintro e w9 ⟨v1, xs, rfl, ho, hx, hg9⟩
    have HO9 := Lib.hid (ho.mono HG8.out.size)
    have HG9 := Lib.hid (grownBy_trans HG8.out hg9)
    clear ho hg9
    go_wp2
    go_ret2
    exact ⟨_, xs, z8, rfl, HO9.out.mono HB1.out.size, hx, hzb.1, hzb.2, bgrown HB1.out HG9.out HHB.out⟩
  | false =>
    have C9 := Lib.hid (l17DrawTargets_any v m b w.heap.size 6 (1 + z1) w3 (HV1.out.grown HG3.out hne) (HS3.out.more (by omega)) (by omega) (by omega) (by omega) hne)
    go_wp2_with fail
    refine C9.out.mono ?_
    rintro e w9 ⟨v1, xs, rfl, ho, hx, hg9⟩
    have HO9 := Lib.hid (ho.mono HG3.out.size)
    have HG9 := Lib.hid (grownBy_trans HG3.out hg9)
    clear ho hg9
    go_wp2
    go_ret2
    exact ⟨_, xs, 1 + z1, rfl, HO9.out.mono HB1.out.size, hx, by omega, by omega, bgrown HB1.out HG9.out HHB.out⟩

end Go.Proofs.Yteohfokchimfeaa
