/-
  The draws of an order and stacks.
-/
import Derived.Test.YteohfokchimfeaaDraw17B
import Derived.Test.YteohfokchimfeaaAssignLoose
namespace Go.Proofs.Yteohfokchimfeaa
open Go.RowKit

theorem ne_of_lt_own {e : TypeId} {w : World} {base b : Nat} {v : Value} {xs : List Int} (h : OI e w base v xs) (hb : b < base) : v.ownBlock ≠ some b := fun e => by
  have := (h.lt b e).1
  omega

set_option maxRecDepth 100000 in
set_option maxHeartbeats 4000000 in
theorem l17Both_any (v : Value) (m : Nat) (w : World) (hv : BI w v m) :
    Calls Try.prog 79 #[v] w fun e w' => ∃ v1 v2 xs ys, e = .returned (.tuple #[v1, v2]) ∧ OI 2 w' w.heap.size v1 xs ∧ OI 2 w' w.heap.size v2 ys ∧ xs.length ≤ 41 ∧ ys.length ≤ 42 ∧ Below w.heap.size w w' := by
  have HV := Lib.hid hv
  clear hv
  obtain ⟨i0, hi, iz0, iz1, iz2⟩ := info_parts info64
  have HI := Lib.hid hi
  clear hi
  go_enter Try.func79, Try.ntmps79
  go_wp2_with fail
  refine (from_any v m _ HV.out).mono ?_
  rintro e w1 ⟨rfl, hs1, hb1⟩
  have hne : 0 < m → v.ownBlock ≠ some w.heap.size := fun hp e => by have := HV.out.own_lt hp e; omega
  obtain ⟨b, hbd⟩ : ∃ b, b = w.heap.size := ⟨_, rfl⟩
  rw [← hbd] at hs1 hne
  have hblt := hs1.lt.2
  have HB1 := Lib.hid hb1
  have HBD := Lib.hid hbd
  have HV1 := Lib.hid (HV.out.below hb1)
  have C1 := Lib.hid (l17Draw_any v m b w.heap.size w1 HV1.out (hbd ▸ hs1) hne)
  rw [← hbd]
  clear hs1 hb1 hbd
  go_wp2_with fail
  refine C1.out.mono ?_
  rintro e w2 ⟨v1, xs, rfl, ho2, hx, hg2, hs2⟩
  obtain ⟨a1, cap1, hsh⟩ := ho2.ri.shape
  subst hsh
  have HO2 := Lib.hid ho2
  have HG2 := Lib.hid hg2
  have HS2 := Lib.hid hs2
  have hb12 : w1.heap.size ≤ w2.heap.size := hg2.size
  clear ho2 hg2 hs2
  go_wp2_with fail
  refine (l17AssignLoose_any _ xs w2 (by omega) HO2.out.ri).mono ?_
  rintro e w3 ⟨v2, ys, rfl, ho3, hyl, hb3⟩
  obtain ⟨a2, cap2, hsh⟩ := ho3.ri.shape
  subst hsh
  have HO3 := Lib.hid ho3
  have HS23 := Lib.hid hb3.size
  have HX3 := Lib.hid (HO2.out.below hb3)
  have HG3 := Lib.hid (grownBy_trans HG2.out (grown_below (row := some b) hb3))
  have HS3 := Lib.hid (HS2.out.below hb3)
  have hne1 := ne_of_lt_own HX3.out hblt
  have hne2 := ne_of_lt_own HO3.out (Nat.lt_of_lt_of_le hblt hb12)
  have hy41 : ys.length ≤ 41 := by omega
  have C4 := Lib.hid (pick_any v m b w.heap.size 100 6 w3 (HV1.out.grown HG3.out hne) HS3.out (by omega) hne)
  have HAP := Lib.hid (show Apart (.slice a2 ys.length cap2) (.slice a1 xs.length cap1) from fun k h1 h2 => by
    have := (HO3.out.lt k h1).1
    have := (HO2.out.lt k h2).2
    omega)
  have HHB := Lib.hid (show ∀ q, some b = some q → w.heap.size ≤ q from fun q e => by have := Option.some.inj e; have := HBD.out; omega)
  have HSW := Lib.hid (show w.heap.size ≤ w1.heap.size from HB1.out.size)
  clear ho3 hb3 hyl
  go_wp2_with fail
  refine C4.out.mono ?_
  rintro e w4 ⟨z, rfl, z0, _, z1, _, hs4, hg4⟩
  have HG4 := Lib.hid (grownBy_trans HG3.out hg4)
  have HX4 := Lib.hid (HX3.out.grown hg4 (.inr hne1))
  have HO4 := Lib.hid (HO3.out.grown hg4 (.inr hne2))
  have HS34 := Lib.hid hg4.size
  have HS4 := Lib.hid hs4
  clear hs4 hg4 z1
  by_cases hz0 : z = 0
  · subst hz0
    by_cases hN0 : 0 < ys.length
    · obtain ⟨N, hN⟩ : ∃ N, N = ys.length := ⟨_, rfl⟩
      rw [← hN] at HO4 HAP hne2 hy41 hN0 ⊢
      have HN := Lib.hid hN
      clear hN
      have hd : decide ((0 : Int) < (N : Int)) = true := decide_eq_true (by omega)
      have hd2 : decide (0 < N) = true := decide_eq_true hN0
      have C6 := Lib.hid (pick_any v m b w.heap.size 102 (N : Int) w4 (HV1.out.grown HG4.out hne) HS4.out (by omega) hne)
      go_wp2_with fail
      refine C6.out.mono ?_
      rintro e w6 ⟨y6, rfl, y60, _, y61, y62, hs6, hg6⟩
      have y6N : y6 < (N : Int) := pick_lt y61 y62 (by omega)
      obtain ⟨Y, rfl⟩ : ∃ Y : Nat, y6 = Y := ⟨y6.toNat, by omega⟩
      have HG6 := Lib.hid (grownBy_trans HG4.out hg6)
      have HO6 := Lib.hid (HO4.out.grown hg6 (.inr hne2))
      have HX6 := Lib.hid (HX4.out.grown hg6 (.inr hne1))
      have HB7 := Lib.hid ((Below.refl w6.heap.size w6).alloc (Nat.le_refl _) (.cells (([-1, 0, 1, 39, 40] : List Int).map (Value.int .i64)).toArray 2))
      have HL := Lib.hid (OI.litL 2 w6 [-1, 0, 1, 39, 40] 5 rfl (by unfold maxLen; omega) (by
        intro x hx
        simp only [List.mem_cons, List.not_mem_nil, or_false] at hx
        unfold Good
        omega))
      have hneL : (Value.slice (some ⟨w6.heap.size, 0, none⟩) 5 5).ownBlock ≠ some b := fun e => by
        have e : w6.heap.size = b := by simpa [Value.ownBlock] using e
        have := HG6.out.size
        omega
      have C7 := Lib.hid (among_any v m b w.heap.size 104 (.slice (some ⟨w6.heap.size, 0, none⟩) 5 5) [-1, 0, 1, 39, 40] _ ((HV1.out.grown HG6.out hne).below HB7.out) (hs6.below HB7.out) (by omega) hne HL.out.ri (by simp) hneL)
      have HO7 := Lib.hid (HO6.out.below HB7.out)
      have HX7 := Lib.hid (HX6.out.below HB7.out)
      have HG7 := Lib.hid (grownBy_trans HG6.out (grown_below (row := some b) HB7.out))
      simp only [List.map_cons, List.map_nil] at C7 HO7 HG7 HX7
      clear hs6 hg6 y61 y62
      go_wp2_with fail
      refine C7.out.mono ?_
      rintro e w8 ⟨z8, rfl, hz8, hs8, hg8⟩
      have hgz : Good z8 := HL.out.2 z8 hz8
      have HO8 := Lib.hid (HO7.out.grown hg8 (.inr hne2))
      have HX8 := Lib.hid (HX7.out.grown hg8 (.inr hne1))
      have HG8 := Lib.hid (grownBy_trans HG7.out hg8)
      obtain ⟨_, h0⟩ | ⟨gp, cq, hq, hg1, hg2⟩ := HO8.out.shape
      · have := HN.out
        rw [h0] at this
        simp at this
        omega
      · simp only [Value.slice.injEq] at hq
        obtain ⟨rfl, hnx, rfl⟩ := hq
        clear hnx
        obtain ⟨gc, fc⟩ := HO8.out.cell Y (by rw [← HN.out]; omega)
        have hset := HO8.out.set Y z8 hgz
        have HST := Lib.hid hset.1
        have HXT := Lib.hid (HX8.out.other hset.2 HAP.out)
        have HGS := Lib.hid (grown_chain HG8.out hset.2 (fun q hq => by
          have : gp = q := by simpa using hq
          omega))
        generalize ys.getD Y 0 = old at gc
        have hYN : (Y : Int) < N := by omega
        have hY0 : (0 : Int) ≤ Y := by omega
        clear hset hz8 hs8 hg8
        go_wp2
        go_ret2
        exact ⟨_, _, xs, ys.set Y z8, rfl, HXT.out.mono HSW.out, HST.out.mono (Nat.le_trans HSW.out hb12), hx, by rw [List.length_set, ← HN.out]; omega, bgrown HB1.out HGS.out HHB.out⟩
    · have h0 : ys.length = 0 := by omega
      rw [h0] at HO4 ⊢
      go_wp2
      go_ret2
      exact ⟨_, _, xs, ys, rfl, HX4.out.mono HSW.out, HO4.out.mono (Nat.le_trans HSW.out hb12), hx, by omega, bgrown HB1.out HG4.out HHB.out⟩
  by_cases hz1 : z = 1
  · subst hz1
    obtain ⟨N, hN⟩ : ∃ N, N = ys.length := ⟨_, rfl⟩
    rw [← hN] at HO4 HAP hne2 hy41 ⊢
    have HN := Lib.hid hN
    clear hN
    go_wp2_with fail
    go_loopw [7] (fun i wr => ∃ (j : Nat) (zs : List Int), j ≤ N ∧ i = .int .i64 j ∧ Hid (OI 2 wr w2.heap.size (.slice a2 N cap2) zs) ∧ Hid (zs.length = N) ∧ Hid (OI 2 wr w1.heap.size (.slice a1 xs.length cap1) xs) ∧ w1.grownBy wr (some b) ∧ Hid (SrcAt wr w.heap.size b v (102 + 2 * j))) (fun i _ => N - (intOf i).toNat)
    case atStart => exact ⟨0, ys, Nat.zero_le _, rfl, HO4, Lib.hid HN.out.symm, HX4, HG4.out, HS4⟩
    case round =>
      obtain ⟨j, zs, hj, rfl, HZ, HZL, HXW, hg, HSR⟩ := hrel
      rename World => wo
      have HG := Lib.hid hg
      clear hg
      by_cases hlt : j < N
      · have hd : decide ((j : Int) < (N : Int)) = true := decide_eq_true (by omega)
        have C6 := Lib.hid (pick_any v m b w.heap.size (102 + 2 * j) 3 wo (HV1.out.grown HG.out hne) HSR.out (by omega) hne)
        go_wp2_with fail
        refine C6.out.mono ?_
        rintro e w6 ⟨y6, rfl, y60, y65, y61, y62, hs6, hg6⟩
        have hgz : Good y6 := by unfold Good; omega
        have HG6 := Lib.hid (grownBy_trans HG.out hg6)
        have HZ6 := Lib.hid (HZ.out.grown hg6 (.inr hne2))
        have HX6 := Lib.hid (HXW.out.grown hg6 (.inr hne1))
        obtain ⟨_, h0⟩ | ⟨gp, cq, hq, hg1, hg2⟩ := HZ6.out.shape
        · have := HZL.out
          rw [h0] at this
          simp at this
          omega
        · simp only [Value.slice.injEq] at hq
          obtain ⟨rfl, hnx, rfl⟩ := hq
          clear hnx
          obtain ⟨gc, fc⟩ := HZ6.out.cell j (by rw [HZL.out]; omega)
          have hset := HZ6.out.set j y6 hgz
          have HST := Lib.hid hset.1
          have HXT := Lib.hid (HX6.out.other hset.2 HAP.out)
          have HGS := Lib.hid (grown_chain HG6.out hset.2 (fun q hq => by
            have : gp = q := by simpa using hq
            omega))
          have HSS := Lib.hid (hs6.grown hset.2 (fun e => hne2 (by simpa [Value.ownBlock] using e.symm)))
          generalize zs.getD j 0 = old at gc
          have hYN : (j : Int) < N := by omega
          have hY0 : (0 : Int) ≤ j := by omega
          clear hset hs6 hg6 y61 y62
          go_wp2_with fail
          go_roundw
          case rel => exact ⟨j + 1, zs.set j y6, by omega, by go_num, HST, Lib.hid (by rw [List.length_set]; exact HZL.out), HXT, HGS.out, Lib.hid (HSS.out.more (by omega))⟩
          case measure => simp [intOf]; omega
      · have hd : decide ((j : Int) < (N : Int)) = false := decide_eq_false (by omega)
        go_wp2
        go_ret2
        exact ⟨_, _, xs, zs, rfl, HXW.out.mono HSW.out, HZ.out.mono (Nat.le_trans HSW.out hb12), hx, by rw [HZL.out]; omega, bgrown HB1.out HG.out HHB.out⟩
  have hza : (z == 0) = false := by rw [beq_eq_false_iff_ne]; exact hz0
  have hzb : (z == 1) = false := by rw [beq_eq_false_iff_ne]; exact hz1
  clear hz0 hz1
  by_cases hz2 : z = 2
  · have hzc : (z == 2) = true := by rw [hz2]; rfl
    clear hz2
    have C5 := Lib.hid (one_any v m b w.heap.size 102 3 w4 (HV1.out.grown HG4.out hne) HS4.out (by omega) hne)
    go_wp2_with fail
    refine C5.out.mono ?_
    rintro e w5 ⟨yn, rfl, hs5, hg5⟩
    have HG5 := Lib.hid (grownBy_trans HG4.out hg5)
    have HO5 := Lib.hid (HO4.out.grown hg5 (.inr hne2))
    have HX5 := Lib.hid (HX4.out.grown hg5 (.inr hne1))
    have hs45 := hg5.size
    clear hs5 hg5
    cases yn with
    | false =>
      go_wp2
      go_ret2
      exact ⟨_, _, xs, ys, rfl, HX5.out.mono HSW.out, HO5.out.mono (Nat.le_trans HSW.out hb12), hx, by omega, bgrown HB1.out HG5.out HHB.out⟩
    | true =>
      have hs25 : w2.heap.size ≤ w5.heap.size := Nat.le_trans HS23.out (Nat.le_trans HS34.out hs45)
      go_wp2_with (
        at_builtin
        refine wpList_app1n rfl _ _ 22 rfl 2 _ i0 Try.underlying22 HI.out iz0 iz1 iz2 w2.heap.size _ _ rfl HO5.out _ _ (by simp) rfl ?_ ?_ hs25 ?_
        · unfold Good; omega
        · omega
        intro v9 w9 h1 h2 h3
        have H9 := Lib.hid h1
        have HX9 := Lib.hid (HX5.out.other h2 HAP.out)
        have HG9 := Lib.hid (grown_chain HG5.out h2 (fun q hq => Nat.le_trans hb12 (HO5.out.lt q hq).1))
        clear h1 h2 h3)
      go_ret2
      exact ⟨_, _, xs, ys ++ [0], rfl, HX9.out.mono HSW.out, H9.out.mono (Nat.le_trans HSW.out hb12), hx, by simp; omega, bgrown HB1.out HG9.out HHB.out⟩
  · have hzc : (z == 2) = false := by rw [beq_eq_false_iff_ne]; exact hz2
    clear hz2
    go_wp2
    go_ret2
    exact ⟨_, _, xs, ys, rfl, HX4.out.mono HSW.out, HO4.out.mono (Nat.le_trans HSW.out hb12), hx, by omega, bgrown HB1.out HG4.out HHB.out⟩

end Go.Proofs.Yteohfokchimfeaa
