/-
  The draw of an order (gen_draw17.py).
-/
import Derived.Test.YteohfokchimfeaaDraw17
namespace Go.Proofs.Yteohfokchimfeaa
open Go.RowKit

/-- A literal list in memory of the call's own. -/
theorem OI.litL (e : TypeId) (w : World) (xs : List Int) (n : Nat) (hn : xs.length = n) (hm : n ≤ maxLen) (hg : ∀ x ∈ xs, Good x) : OI e (w.alloc (.cells (xs.map (Value.int .i64)).toArray e)) w.heap.size (.slice (some ⟨w.heap.size, 0, none⟩) n n) xs := by
  subst hn
  refine ⟨?_, hg⟩
  have := World.ownsRow_lit (base := w.heap.size) (e := e) (size := 1) w (xs.map (Value.int .i64)).toArray xs.length (Nat.le_refl _) hm (by simp)
  simpa using this

set_option maxRecDepth 100000 in
set_option maxHeartbeats 4000000 in
theorem l17Draw_any (v : Value) (m b base : Nat) (w : World) (hv : BI w v m) (hs : SrcAt w base b v 0) (hne : 0 < m → v.ownBlock ≠ some b) :
    Calls Try.prog 77 #[.pointer (some ⟨b, 0, none⟩)] w fun e w' => ∃ v' xs, e = .returned v' ∧ OI 2 w' w.heap.size v' xs ∧ xs.length ≤ 41 ∧ w.grownBy w' (some b) ∧ SrcAt w' base b v 100 := by
  have HV := Lib.hid hv
  have hblt := hs.lt.2
  have C1 := Lib.hid (pick_any v m b base 0 10 w hv hs (by omega) hne)
  clear hv hs
  go_enter Try.func77, Try.ntmps77
  go_wp2_with fail
  refine C1.out.mono ?_
  rintro e w1 ⟨y, rfl, y0, _, y1, _, hs1, hg1⟩
  have y10 : y < 10 := y1 (by omega)
  obtain ⟨Y0, rfl⟩ : ∃ Y : Nat, y = Y := ⟨y.toNat, by omega⟩
  have HG1 := Lib.hid hg1
  have C2 := Lib.hid (pick_any v m b base 2 20 w1 (HV.out.grown hg1 hne) hs1 (by omega) hne)
  clear y1 hs1 hg1
  go_wp2_with fail
  refine C2.out.mono ?_
  rintro e w2 ⟨z, rfl, z0, _, z1, _, hs2, hg2⟩
  have HG2 := Lib.hid (grownBy_trans HG1.out hg2)
  have HS2 := Lib.hid hs2
  clear z1 hs2 hg2
  by_cases hz0 : z = 0
  · subst hz0
    have C3 := Lib.hid (pick_any v m b base 4 2 w2 (HV.out.grown HG2.out hne) HS2.out (by omega) hne)
    go_wp2_with fail
    refine C3.out.mono ?_
    rintro e wA ⟨q, rfl, q0, _, q1, _, hs3, hg3⟩
    have q2 : q < 2 := q1 (by omega)
    obtain ⟨N, hNq⟩ : ∃ N : Nat, (N : Int) = 40 + q := ⟨(40 + q).toNat, by omega⟩
    have hwq : IntKind.i64.wrap (40 + q) = (N : Int) := by rw [IntWalk.i64_in _ (by omega)]; omega
    have hN41 : N ≤ 41 := by omega
    have HGA := Lib.hid (grownBy_trans HG2.out hg3)
    have HSA := Lib.hid hs3
    clear q1 hs3 hg3 hNq
    have CP := Lib.hid (l17Perm_any v m b base 6 N wA (HV.out.grown HGA.out hne) HSA.out (by omega) (by omega) hne)
    go_wp2_with fail
    refine CP.out.mono ?_
    rintro e wp ⟨vp, xp, rfl, hop, hxp, hgp, hsp⟩
    have HG3 := Lib.hid (grownBy_trans HGA.out hgp)
    have HSP := Lib.hid hsp
    have HOP := Lib.hid hop
    have HXP := Lib.hid hxp
    have hne1 : vp.ownBlock ≠ some b := fun e => by
      have h1 := (HOP.out.lt b e).1
      have h2 := HGA.out.size
      omega
    obtain ⟨ap, cp, hsh⟩ := hop.ri.shape
    rw [hxp] at hsh
    subst hsh
    have hszA := HGA.out.size
    clear hgp hsp hop hxp
    by_cases hN0 : 0 < N
    · have hd : decide ((0 : Int) < (N : Int)) = true := decide_eq_true (by omega)
      have hd2 : decide (0 < N) = true := decide_eq_true hN0
      have hwn : IntKind.i64.wrap ((N : Int) - 1) = (N : Int) - 1 := IntWalk.i64_in _ (by omega)
      have C5 := Lib.hid (one_any v m b base (6 + 2 * N) 12 wp (HV.out.grown HG3.out hne) HSP.out (by omega) hne)
      go_wp2_with fail
      refine C5.out.mono ?_
      rintro e w5 ⟨yn, rfl, hs5, hg5⟩
      have HG5 := Lib.hid (grownBy_trans HG3.out hg5)
      have HO5 := Lib.hid (HOP.out.grown hg5 (.inr hne1))
      have HS5 := Lib.hid hs5
      clear hs5 hg5
      cases yn with
      | false =>
        go_wp2
        go_ret
        exact ⟨_, xp, rfl, HO5.out.mono hszA, by rw [HXP.out]; omega, HG5.out, HS5.out.more (by omega)⟩
      | true =>
        have C6 := Lib.hid (pick_any v m b base (6 + 2 * N + 2) (N : Int) w5 (HV.out.grown HG5.out hne) HS5.out (by omega) hne)
        go_wp2_with fail
        refine C6.out.mono ?_
        rintro e w6 ⟨y6, rfl, y60, _, y61, y62, hs6, hg6⟩
        have y6N : y6 < (N : Int) := pick_lt y61 y62 (by omega)
        obtain ⟨Y, rfl⟩ : ∃ Y : Nat, y6 = Y := ⟨y6.toNat, by omega⟩
        have HG6 := Lib.hid (grownBy_trans HG5.out hg6)
        have HO6 := Lib.hid (HO5.out.grown hg6 (.inr hne1))
        have HB7 := Lib.hid ((Below.refl w6.heap.size w6).alloc (Nat.le_refl _) (.cells (([-1, 0, (N : Int) - 1, (N : Int), -9223372036854775808] : List Int).map (Value.int .i64)).toArray 2))
        have HL := Lib.hid (OI.litL 2 w6 [-1, 0, (N : Int) - 1, (N : Int), -9223372036854775808] 5 rfl (by unfold maxLen; omega) (by
          intro x hx
          simp only [List.mem_cons, List.not_mem_nil, or_false] at hx
          unfold Good
          omega))
        have hlt6 := HG6.out.size
        have hneL : (Value.slice (some ⟨w6.heap.size, 0, none⟩) 5 5).ownBlock ≠ some b := fun e => by
          have : w6.heap.size = b := by simpa [Value.ownBlock] using e
          omega
        have C7 := Lib.hid (among_any v m b base (6 + 2 * N + 4) (.slice (some ⟨w6.heap.size, 0, none⟩) 5 5) [-1, 0, (N : Int) - 1, (N : Int), -9223372036854775808] _ ((HV.out.grown HG6.out hne).below HB7.out) (hs6.below HB7.out) (by omega) hne HL.out.ri (by simp) hneL)
        have HO7 := Lib.hid (HO6.out.below HB7.out)
        have HG7 := Lib.hid (grownBy_trans HG6.out (grown_below (row := some b) HB7.out))
        simp only [List.map_cons, List.map_nil] at C7 HO7 HG7
        clear hs6 hg6 y61 y62
        go_wp2_with fail
        refine C7.out.mono ?_
        rintro e w8 ⟨z8, rfl, hz8, hs8, hg8⟩
        have hgz : Good z8 := HL.out.2 z8 hz8
        have HO8 := Lib.hid (HO7.out.grown hg8 (.inr hne1))
        have HG8 := Lib.hid (grownBy_trans HG7.out hg8)
        obtain ⟨_, h0⟩ | ⟨gp, cq, hq, hg1, hg2⟩ := HO8.out.shape
        · rw [h0] at HXP
          have := HXP.out
          simp at this
          omega
        · simp only [Value.slice.injEq] at hq
          obtain ⟨rfl, hnx, rfl⟩ := hq
          clear hnx
          obtain ⟨gc, fc⟩ := HO8.out.cell Y (by rw [HXP.out]; omega)
          have hset := HO8.out.set Y z8 hgz
          have HST := Lib.hid hset.1
          have HGS := Lib.hid (grown_chain HG8.out hset.2 (fun q hq => by have : gp = q := by simpa using hq
                                                                          omega))
          have HSS := Lib.hid (hs8.grown hset.2 (fun e => hne1 (by simpa [Value.ownBlock] using e.symm)))
          generalize xp.getD Y 0 = old at gc
          have hYN : (Y : Int) < N := by omega
          have hY0 : (0 : Int) ≤ Y := by omega
          clear hset hz8 hs8 hg8
          go_wp2
          go_ret
          exact ⟨_, xp.set Y z8, rfl, HST.out.mono hszA, by rw [List.length_set, HXP.out]; omega, HGS.out, HSS.out.more (by omega)⟩
    · have hd : decide ((0 : Int) < (N : Int)) = false := decide_eq_false (by omega)
      have hd2 : decide (0 < N) = false := decide_eq_false hN0
      go_wp2
      go_ret
      exact ⟨_, xp, rfl, HOP.out.mono hszA, by rw [HXP.out]; omega, HG3.out, HSP.out.more (by omega)⟩
  by_cases hz1 : z = 1
  · subst hz1
    obtain ⟨N, hNq⟩ : ∃ N : Nat, N = 10 := ⟨10, rfl⟩
    have hN41 : N ≤ 41 := by omega
    obtain ⟨wA, hwA⟩ : ∃ wA : World, wA = w2 := ⟨_, rfl⟩
    have HGA : Hid (w.grownBy wA (some b)) := by rw [hwA]; exact HG2
    have HSA : Hid (SrcAt wA base b v 6) := by rw [hwA]; exact Lib.hid (HS2.out.more (by omega))
    rw [← hwA]
    clear hwA HG2 HS2
    have e10 : (10 : Int) = (N : Int) := by omega
    clear hNq
    have CP := Lib.hid (l17Perm_any v m b base 6 N wA (HV.out.grown HGA.out hne) HSA.out (by omega) (by omega) hne)
    go_wp2_with fail
    rw [e10]
    clear e10
    refine CP.out.mono ?_
    rintro e wp ⟨vp, xp, rfl, hop, hxp, hgp, hsp⟩
    have HG3 := Lib.hid (grownBy_trans HGA.out hgp)
    have HSP := Lib.hid hsp
    have HOP := Lib.hid hop
    have HXP := Lib.hid hxp
    have hne1 : vp.ownBlock ≠ some b := fun e => by
      have h1 := (HOP.out.lt b e).1
      have h2 := HGA.out.size
      omega
    obtain ⟨ap, cp, hsh⟩ := hop.ri.shape
    rw [hxp] at hsh
    subst hsh
    have hszA := HGA.out.size
    clear hgp hsp hop hxp
    by_cases hN0 : 0 < N
    · have hd : decide ((0 : Int) < (N : Int)) = true := decide_eq_true (by omega)
      have hd2 : decide (0 < N) = true := decide_eq_true hN0
      have hwn : IntKind.i64.wrap ((N : Int) - 1) = (N : Int) - 1 := IntWalk.i64_in _ (by omega)
      have C5 := Lib.hid (one_any v m b base (6 + 2 * N) 12 wp (HV.out.grown HG3.out hne) HSP.out (by omega) hne)
      go_wp2_with fail
      refine C5.out.mono ?_
      rintro e w5 ⟨yn, rfl, hs5, hg5⟩
      have HG5 := Lib.hid (grownBy_trans HG3.out hg5)
      have HO5 := Lib.hid (HOP.out.grown hg5 (.inr hne1))
      have HS5 := Lib.hid hs5
      clear hs5 hg5
      cases yn with
      | false =>
        go_wp2
        go_ret
        exact ⟨_, xp, rfl, HO5.out.mono hszA, by rw [HXP.out]; omega, HG5.out, HS5.out.more (by omega)⟩
      | true =>
        have C6 := Lib.hid (pick_any v m b base (6 + 2 * N + 2) (N : Int) w5 (HV.out.grown HG5.out hne) HS5.out (by omega) hne)
        go_wp2_with fail
        refine C6.out.mono ?_
        rintro e w6 ⟨y6, rfl, y60, _, y61, y62, hs6, hg6⟩
        have y6N : y6 < (N : Int) := pick_lt y61 y62 (by omega)
        obtain ⟨Y, rfl⟩ : ∃ Y : Nat, y6 = Y := ⟨y6.toNat, by omega⟩
        have HG6 := Lib.hid (grownBy_trans HG5.out hg6)
        have HO6 := Lib.hid (HO5.out.grown hg6 (.inr hne1))
        have HB7 := Lib.hid ((Below.refl w6.heap.size w6).alloc (Nat.le_refl _) (.cells (([-1, 0, (N : Int) - 1, (N : Int), -9223372036854775808] : List Int).map (Value.int .i64)).toArray 2))
        have HL := Lib.hid (OI.litL 2 w6 [-1, 0, (N : Int) - 1, (N : Int), -9223372036854775808] 5 rfl (by unfold maxLen; omega) (by
          intro x hx
          simp only [List.mem_cons, List.not_mem_nil, or_false] at hx
          unfold Good
          omega))
        have hlt6 := HG6.out.size
        have hneL : (Value.slice (some ⟨w6.heap.size, 0, none⟩) 5 5).ownBlock ≠ some b := fun e => by
          have : w6.heap.size = b := by simpa [Value.ownBlock] using e
          omega
        have C7 := Lib.hid (among_any v m b base (6 + 2 * N + 4) (.slice (some ⟨w6.heap.size, 0, none⟩) 5 5) [-1, 0, (N : Int) - 1, (N : Int), -9223372036854775808] _ ((HV.out.grown HG6.out hne).below HB7.out) (hs6.below HB7.out) (by omega) hne HL.out.ri (by simp) hneL)
        have HO7 := Lib.hid (HO6.out.below HB7.out)
        have HG7 := Lib.hid (grownBy_trans HG6.out (grown_below (row := some b) HB7.out))
        simp only [List.map_cons, List.map_nil] at C7 HO7 HG7
        clear hs6 hg6 y61 y62
        go_wp2_with fail
        refine C7.out.mono ?_
        rintro e w8 ⟨z8, rfl, hz8, hs8, hg8⟩
        have hgz : Good z8 := HL.out.2 z8 hz8
        have HO8 := Lib.hid (HO7.out.grown hg8 (.inr hne1))
        have HG8 := Lib.hid (grownBy_trans HG7.out hg8)
        obtain ⟨_, h0⟩ | ⟨gp, cq, hq, hg1, hg2⟩ := HO8.out.shape
        · rw [h0] at HXP
          have := HXP.out
          simp at this
          omega
        · simp only [Value.slice.injEq] at hq
          obtain ⟨rfl, hnx, rfl⟩ := hq
          clear hnx
          obtain ⟨gc, fc⟩ := HO8.out.cell Y (by rw [HXP.out]; omega)
          have hset := HO8.out.set Y z8 hgz
          have HST := Lib.hid hset.1
          have HGS := Lib.hid (grown_chain HG8.out hset.2 (fun q hq => by have : gp = q := by simpa using hq
                                                                          omega))
          have HSS := Lib.hid (hs8.grown hset.2 (fun e => hne1 (by simpa [Value.ownBlock] using e.symm)))
          generalize xp.getD Y 0 = old at gc
          have hYN : (Y : Int) < N := by omega
          have hY0 : (0 : Int) ≤ Y := by omega
          clear hset hz8 hs8 hg8
          go_wp2
          go_ret
          exact ⟨_, xp.set Y z8, rfl, HST.out.mono hszA, by rw [List.length_set, HXP.out]; omega, HGS.out, HSS.out.more (by omega)⟩
    · have hd : decide ((0 : Int) < (N : Int)) = false := decide_eq_false (by omega)
      have hd2 : decide (0 < N) = false := decide_eq_false hN0
      go_wp2
      go_ret
      exact ⟨_, xp, rfl, HOP.out.mono hszA, by rw [HXP.out]; omega, HG3.out, HSP.out.more (by omega)⟩
  · have hza : (z == 0) = false := by rw [beq_eq_false_iff_ne]; exact hz0
    have hzb : (z == 1) = false := by rw [beq_eq_false_iff_ne]; exact hz1
    obtain ⟨N, hNq⟩ : ∃ N : Nat, N = Y0 := ⟨Y0, rfl⟩
    rw [← hNq] at y10 y0 ⊢
    have hN41 : N ≤ 41 := by omega
    obtain ⟨wA, hwA⟩ : ∃ wA : World, wA = w2 := ⟨_, rfl⟩
    have HGA : Hid (w.grownBy wA (some b)) := by rw [hwA]; exact HG2
    have HSA : Hid (SrcAt wA base b v 6) := by rw [hwA]; exact Lib.hid (HS2.out.more (by omega))
    rw [← hwA]
    clear hwA HG2 HS2 hz0 hz1 hNq
    have CP := Lib.hid (l17Perm_any v m b base 6 N wA (HV.out.grown HGA.out hne) HSA.out (by omega) (by omega) hne)
    go_wp2_with fail
    refine CP.out.mono ?_
    rintro e wp ⟨vp, xp, rfl, hop, hxp, hgp, hsp⟩
    have HG3 := Lib.hid (grownBy_trans HGA.out hgp)
    have HSP := Lib.hid hsp
    have HOP := Lib.hid hop
    have HXP := Lib.hid hxp
    have hne1 : vp.ownBlock ≠ some b := fun e => by
      have h1 := (HOP.out.lt b e).1
      have h2 := HGA.out.size
      omega
    obtain ⟨ap, cp, hsh⟩ := hop.ri.shape
    rw [hxp] at hsh
    subst hsh
    have hszA := HGA.out.size
    clear hgp hsp hop hxp
    by_cases hN0 : 0 < N
    · have hd : decide ((0 : Int) < (N : Int)) = true := decide_eq_true (by omega)
      have hd2 : decide (0 < N) = true := decide_eq_true hN0
      have hwn : IntKind.i64.wrap ((N : Int) - 1) = (N : Int) - 1 := IntWalk.i64_in _ (by omega)
      have C5 := Lib.hid (one_any v m b base (6 + 2 * N) 12 wp (HV.out.grown HG3.out hne) HSP.out (by omega) hne)
      go_wp2_with fail
      refine C5.out.mono ?_
      rintro e w5 ⟨yn, rfl, hs5, hg5⟩
      have HG5 := Lib.hid (grownBy_trans HG3.out hg5)
      have HO5 := Lib.hid (HOP.out.grown hg5 (.inr hne1))
      have HS5 := Lib.hid hs5
      clear hs5 hg5
      cases yn with
      | false =>
        go_wp2
        go_ret
        exact ⟨_, xp, rfl, HO5.out.mono hszA, by rw [HXP.out]; omega, HG5.out, HS5.out.more (by omega)⟩
      | true =>
        have C6 := Lib.hid (pick_any v m b base (6 + 2 * N + 2) (N : Int) w5 (HV.out.grown HG5.out hne) HS5.out (by omega) hne)
        go_wp2_with fail
        refine C6.out.mono ?_
        rintro e w6 ⟨y6, rfl, y60, _, y61, y62, hs6, hg6⟩
        have y6N : y6 < (N : Int) := pick_lt y61 y62 (by omega)
        obtain ⟨Y, rfl⟩ : ∃ Y : Nat, y6 = Y := ⟨y6.toNat, by omega⟩
        have HG6 := Lib.hid (grownBy_trans HG5.out hg6)
        have HO6 := Lib.hid (HO5.out.grown hg6 (.inr hne1))
        have HB7 := Lib.hid ((Below.refl w6.heap.size w6).alloc (Nat.le_refl _) (.cells (([-1, 0, (N : Int) - 1, (N : Int), -9223372036854775808] : List Int).map (Value.int .i64)).toArray 2))
        have HL := Lib.hid (OI.litL 2 w6 [-1, 0, (N : Int) - 1, (N : Int), -9223372036854775808] 5 rfl (by unfold maxLen; omega) (by
          intro x hx
          simp only [List.mem_cons, List.not_mem_nil, or_false] at hx
          unfold Good
          omega))
        have hlt6 := HG6.out.size
        have hneL : (Value.slice (some ⟨w6.heap.size, 0, none⟩) 5 5).ownBlock ≠ some b := fun e => by
          have : w6.heap.size = b := by simpa [Value.ownBlock] using e
          omega
        have C7 := Lib.hid (among_any v m b base (6 + 2 * N + 4) (.slice (some ⟨w6.heap.size, 0, none⟩) 5 5) [-1, 0, (N : Int) - 1, (N : Int), -9223372036854775808] _ ((HV.out.grown HG6.out hne).below HB7.out) (hs6.below HB7.out) (by omega) hne HL.out.ri (by simp) hneL)
        have HO7 := Lib.hid (HO6.out.below HB7.out)
        have HG7 := Lib.hid (grownBy_trans HG6.out (grown_below (row := some b) HB7.out))
        simp only [List.map_cons, List.map_nil] at C7 HO7 HG7
        clear hs6 hg6 y61 y62
        go_wp2_with fail
        refine C7.out.mono ?_
        rintro e w8 ⟨z8, rfl, hz8, hs8, hg8⟩
        have hgz : Good z8 := HL.out.2 z8 hz8
        have HO8 := Lib.hid (HO7.out.grown hg8 (.inr hne1))
        have HG8 := Lib.hid (grownBy_trans HG7.out hg8)
        obtain ⟨_, h0⟩ | ⟨gp, cq, hq, hg1, hg2⟩ := HO8.out.shape
        · rw [h0] at HXP
          have := HXP.out
          simp at this
          omega
        · simp only [Value.slice.injEq] at hq
          obtain ⟨rfl, hnx, rfl⟩ := hq
          clear hnx
          obtain ⟨gc, fc⟩ := HO8.out.cell Y (by rw [HXP.out]; omega)
          have hset := HO8.out.set Y z8 hgz
          have HST := Lib.hid hset.1
          have HGS := Lib.hid (grown_chain HG8.out hset.2 (fun q hq => by have : gp = q := by simpa using hq
                                                                          omega))
          have HSS := Lib.hid (hs8.grown hset.2 (fun e => hne1 (by simpa [Value.ownBlock] using e.symm)))
          generalize xp.getD Y 0 = old at gc
          have hYN : (Y : Int) < N := by omega
          have hY0 : (0 : Int) ≤ Y := by omega
          clear hset hz8 hs8 hg8
          go_wp2
          go_ret
          exact ⟨_, xp.set Y z8, rfl, HST.out.mono hszA, by rw [List.length_set, HXP.out]; omega, HGS.out, HSS.out.more (by omega)⟩
    · have hd : decide ((0 : Int) < (N : Int)) = false := decide_eq_false (by omega)
      have hd2 : decide (0 < N) = false := decide_eq_false hN0
      go_wp2
      go_ret
      exact ⟨_, xp, rfl, HOP.out.mono hszA, by rw [HXP.out]; omega, HG3.out, HSP.out.more (by omega)⟩

end Go.Proofs.Yteohfokchimfeaa
