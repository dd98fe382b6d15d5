/-
  What FnLosses draws, first part: DrawLateLeaks, DrawAddLoss, DrawLossText.
-/
import Derived.Test.YtpgnndpjlcihiaaDoorBent
import Derived.Test.YtpgnndpjlcihiaaDoorAmong
import Derived.Laws.BitsLemmas
import Derived.Deep.RegionWith
namespace Go.Proofs.YtpgnndpjlcihiaaDoor
open Go.RowKit

theorem DrawLateLeaks_any (v : Value) (m : Nat) (w : World) (hv : BI w v m) :
    Calls Tryd.prog 9 #[v] w fun e w' => ∃ (n : Int) (v1 : Value) (xs : List (Int × Int × Int)), e = .returned (.tuple #[.int .i64 n, v1]) ∧ Good n ∧ SI P3 w' v1 xs ∧ xs.length ≤ 21 ∧ Below w.heap.size w w' := by
  have HV := Lib.hid hv
  clear hv
  go_enter Tryd.func9, Tryd.ntmps9
  go_wp2_with fail
  refine (from_any v m _ HV.out).mono ?_
  rintro e w1 ⟨rfl, hs1, hb1⟩
  have hne : 0 < m → v.ownBlock ≠ some w.heap.size := fun hp e => by have := HV.out.own_lt hp e; omega
  have HB1 := Lib.hid hb1
  have C1 := Lib.hid (l15Bent_any v m w.heap.size w.heap.size w1 (HV.out.below hb1) hs1 hne)
  clear hs1 hb1
  go_wp2_with fail
  refine C1.out.mono ?_
  rintro e w2 ⟨n, v1, xs, rfl, hn, ho2, hx, hg2, hs2⟩
  have HO2 := Lib.hid ho2.si
  have HB2 := Lib.hid (bgrown HB1.out hg2 (fun q e => by have := Option.some.inj e; omega))
  clear ho2 hg2 hs2
  go_wp2
  go_ret2
  exact ⟨n, _, xs, rfl, hn, HO2.out, hx, HB2.out⟩

theorem good_wrap (n : Int) : Good (IntKind.i64.wrap n) := by
  rw [IntKind.wrap_i64]
  unfold Good
  omega

theorem BoxAt.put {w : World} {base q : Nat} {x y z : Int} (h : BoxAt w base q x y z) (x' y' z' : Int) :
    BoxAt (((w.setCell ⟨q, 0, none⟩ (.int .i64 x')).setCell ⟨q, 1, none⟩ (.int .i64 y')).setCell ⟨q, 2, none⟩ (.int .i64 z')).drew base q x' y' z' ∧ w.grownBy (((w.setCell ⟨q, 0, none⟩ (.int .i64 x')).setCell ⟨q, 1, none⟩ (.int .i64 y')).setCell ⟨q, 2, none⟩ (.int .i64 z')).drew (some q) := by
  have h1 : BoxAt (w.setCell ⟨q, 0, none⟩ (.int .i64 x')) base q x' y z ∧ w.grownBy (w.setCell ⟨q, 0, none⟩ (.int .i64 x')) (some q) := World.ownsRow.stored h 0 (.int .i64 x')
  have h2 := h1.1.setY y'
  have h3 := h2.1.setZ z'
  exact ⟨h3.1, grownBy_trans (grownBy_trans (grownBy_trans h1.2 h2.2) h3.2) (grown_below (row := some q) (below_drewN' _ 1))⟩

set_option maxRecDepth 100000 in
theorem DrawAddLoss_any (v : Value) (m : Nat) (w : World) (hv : BI w v m) :
    Calls Tryd.prog 19 #[v] w fun e w' => ∃ (n : Int) (v1 : Value) (xs : List (Int × Int × Int)) (x y z : Int), e = .returned (.tuple #[.int .i64 n, v1, .agg #[.int .i64 x, .int .i64 y, .int .i64 z]]) ∧ Good n ∧ SI P3 w' v1 xs ∧ xs.length ≤ 21 ∧ Good x ∧ Good y ∧ Good z ∧ Below w.heap.size w w' := by
  have HBR := Lib.hid ((Below.refl w.heap.size w).alloc (Nat.le_refl _) (.cells #[.int .i64 0, .int .i64 0, .int .i64 0] 25))
  have HR := Lib.hid (BoxAt.new w 0 0 0)
  have HV := Lib.hid (hv.below HBR.out)
  have hv0 := hv
  have HVW := Lib.hid hv
  clear hv hv0
  go_enter Tryd.func19, Tryd.ntmps19
  go_wp2_with fail
  refine (from_any v m _ HV.out).mono ?_
  rintro e w1 ⟨rfl, hs1, hb1⟩
  obtain ⟨b, hbd⟩ : ∃ b, b = (w.alloc (.cells #[.int .i64 0, .int .i64 0, .int .i64 0] 25)).heap.size := ⟨_, rfl⟩
  obtain ⟨base, hbs⟩ : ∃ base, base = (w.alloc (.cells #[.int .i64 0, .int .i64 0, .int .i64 0] 25)).heap.size := ⟨_, rfl⟩
  have hs1' : SrcAt w1 base b v 0 := by rw [hbd, hbs]; exact hs1
  have hb1n : b = w.heap.size + 1 := by rw [hbd]; simp
  have hne : 0 < m → v.ownBlock ≠ some b := fun hp e => by have := HVW.out.own_lt hp e; omega
  have hblt := hs1'.lt.2
  have HB1 := Lib.hid (bthen HBR.out hb1)
  have HR1 := Lib.hid (HR.out.grown (grown_below (row := none) hb1) (by simp))
  have HV0 := Lib.hid (HV.out.below hb1)
  have C1 := Lib.hid (l15Bent_any v m b base w1 HV0.out hs1' hne)
  have HHB := Lib.hid (show ∀ q, some b = some q → w.heap.size ≤ q from fun q e => by have := Option.some.inj e; omega)
  rw [← hbd]
  clear hs1 hs1' hb1 hbs
  have hbgt : w.heap.size < b := by omega
  have hblo : b < w1.heap.size := hblt
  clear hbd hb1n
  go_wp2_with fail
  refine C1.out.mono ?_
  rintro e w2 ⟨n, v1, xs, rfl, hn, ho2, hx, hg2, hs2⟩
  have HO2 := Lib.hid ho2
  have HG2 := Lib.hid hg2
  have hne1 : v1.ownBlock ≠ some b := fun e => by
    have := (HO2.out.lt b e).1
    omega
  have HR2 := Lib.hid (HR1.out.grown hg2 (by intro e; have := Option.some.inj e; omega))
  have HGN := Lib.hid hn
  have C2 := Lib.hid (pick_any v m b base 120 (max 1 n) w2 (HV0.out.grown HG2.out hne) hs2 (by omega) hne)
  have hsz12 := hg2.size
  clear ho2 hg2 hs2 hn HR1 HR
  go_wp2_with (first | (go_at_call 54; refine (l00MaxL_any _ _ _).mono ?_; rintro e w' ⟨rfl, rfl⟩))
  refine C2.out.mono ?_
  rintro e w3 ⟨X, rfl, X0, X65, _, _, hs3, hg3⟩
  have HG3 := Lib.hid (grownBy_trans HG2.out hg3)
  have HO3 := Lib.hid (HO2.out.grown hg3 (.inr hne1))
  have HR3 := Lib.hid (HR2.out.grown hg3 (by intro e; have := Option.some.inj e; omega))
  have C3 := Lib.hid (pick_any v m b base 122 12 w3 (HV0.out.grown HG3.out hne) hs3 (by omega) hne)
  have hsz23 := hg3.size
  clear hs3 hg3 HR2 HO2
  go_wp2_with fail
  refine C3.out.mono ?_
  rintro e w4 ⟨Z, rfl, Z0, Z65, _, _, hs4, hg4⟩
  have HG4 := Lib.hid (grownBy_trans HG3.out hg4)
  have HO4 := Lib.hid (HO3.out.grown hg4 (.inr hne1))
  have HR4 := Lib.hid (HR3.out.grown hg4 (by intro e; have := Option.some.inj e; omega))
  have HS4 := Lib.hid hs4
  have hsz34 := hg4.size
  have hwX : IntKind.i64.wrap (X + 1) = X + 1 := IntWalk.i64_in _ (by omega)
  clear hs4 hg4 HR3 HO3
  have HBX := Lib.hid ((Below.refl w4.heap.size w4).alloc (Nat.le_refl _) (.cells #[.int .i64 X, .int .i64 (X + 1), .int .i64 Z] 25))
  have HX := Lib.hid (BoxAt.new w4 X (X + 1) Z)
  obtain ⟨q, hq⟩ : ∃ q, q = w4.heap.size := ⟨_, rfl⟩
  have hv1q : v1.ownBlock ≠ some q := fun e => by
    have := (HO4.out.lt q e).2
    omega
  have hv1r : v1.ownBlock ≠ some w.heap.size := fun e => by
    have := (HO4.out.lt w.heap.size e).1
    omega
  have hqb : b < q := by omega
  obtain ⟨w5, hw5⟩ : ∃ w5, w5 = w4.alloc (.cells #[.int .i64 X, .int .i64 (X + 1), .int .i64 Z] 25) := ⟨_, rfl⟩
  have HB5 := Lib.hid (show Below w.heap.size w w5 by rw [hw5]; exact bthen (bgrown HB1.out HG4.out HHB.out) HBX.out)
  have HX5 := Lib.hid (show BoxAt w5 q q X (X + 1) Z by rw [hw5, hq]; exact HX.out)
  have HR5 := Lib.hid (show BoxAt w5 w.heap.size w.heap.size 0 0 0 by rw [hw5]; exact HR4.out.grown (grown_below (row := none) HBX.out) (by simp))
  have HO5 := Lib.hid (show OS P3 25 w5 w1.heap.size v1 xs by rw [hw5]; exact HO4.out.below HBX.out)
  have HS5 := Lib.hid (show SrcAt w5 base b v 124 by rw [hw5]; exact HS4.out.below HBX.out)
  have HV5 := Lib.hid (show BI w5 v m by rw [hw5]; exact (HV0.out.grown HG4.out hne).below HBX.out)
  have C5 := Lib.hid (one_any v m b base 124 8 w5 HV5.out HS5.out (by omega) hne)
  have HQ := Lib.hid hq
  have HW5 := Lib.hid hw5
  obtain ⟨⟨k0, k1, k2⟩, f0, f1, f2⟩ := (BoxAt.new w4 X 0 Z).cells
  go_wp2_with fail
  rw [← HW5.out, ← HQ.out]
  clear hq hw5 k0 k1 k2 f0 f1 f2
  refine C5.out.mono ?_
  rintro e w6 ⟨yn, rfl, hs6, hg6⟩
  have HB6 := Lib.hid (bgrown HB5.out hg6 HHB.out)
  have HO6 := Lib.hid (HO5.out.grown hg6 (.inr hne1))
  have HX6 := Lib.hid (HX5.out.grown hg6 (by intro e; have := Option.some.inj e; omega))
  have HR6 := Lib.hid (HR5.out.grown hg6 (by intro e; have := Option.some.inj e; omega))
  have HV6 := Lib.hid (HV5.out.grown hg6 hne)
  have HS6 := Lib.hid hs6
  clear hs6 hg6
  obtain ⟨N1, hN1⟩ : ∃ N1, IntKind.i64.wrap (n + 1) = N1 := ⟨_, rfl⟩
  have HGN1 := Lib.hid (show Good N1 by rw [← hN1]; exact good_wrap _)
  cases yn with
  | true =>
    have HBA := Lib.hid ((Below.refl w6.heap.size w6).alloc (Nat.le_refl _) (.cells (([-1, X, n, N1] : List Int).map (Value.int .i64)).toArray 2))
    have HLA := Lib.hid (OI.litL 2 w6 [-1, X, n, N1] 4 rfl (by unfold maxLen; omega) (by
      intro x hx
      simp only [List.mem_cons, List.not_mem_nil, or_false] at hx
      rcases hx with rfl | rfl | rfl | rfl
      · unfold Good; omega
      · unfold Good; omega
      · exact HGN.out
      · exact HGN1.out))
    have hltLA := HX6.out.lt.2
    have hneLA : (Value.slice (some ⟨w6.heap.size, 0, none⟩) 4 4).ownBlock ≠ some b := fun e => by
      have : w6.heap.size = b := by simpa [Value.ownBlock] using e
      omega
    have CAA := Lib.hid (among_any v m b base 126 (.slice (some ⟨w6.heap.size, 0, none⟩) 4 4) [-1, X, n, N1] _ (HV6.out.below HBA.out) (HS6.out.below HBA.out) (by omega) hne HLA.out.ri (by simp) hneLA)
    simp only [List.map_cons, List.map_nil] at CAA HBA
    have HBB := Lib.hid (bthen HB6.out HBA.out)
    have HOA := Lib.hid (HO6.out.below HBA.out)
    have HXA := Lib.hid (HX6.out.grown (grown_below (row := none) HBA.out) (by simp))
    have HRA := Lib.hid (HR6.out.grown (grown_below (row := none) HBA.out) (by simp))
    obtain ⟨⟨k0, k1, k2⟩, f0, f1, f2⟩ := HX6.out.cells
    go_wp2_with fail
    refine CAA.out.mono ?_
    rintro e w7 ⟨y, rfl, hy, hs7, hg7⟩
    have HGY := Lib.hid (HLA.out.2 y hy)
    have HB7 := Lib.hid (bgrown HBB.out hg7 HHB.out)
    have HO7 := Lib.hid (HOA.out.grown hg7 (.inr hne1))
    have HX7 := Lib.hid (HXA.out.grown hg7 (by intro e; have := Option.some.inj e; omega))
    have HR7 := Lib.hid (HRA.out.grown hg7 (by intro e; have := Option.some.inj e; omega))
    clear hy hs7 hg7 k0 k1 k2 f0 f1 f2
    obtain ⟨hY, hgY⟩ := HX7.out.setY y
    have HX8 := Lib.hid hY
    have HB8 := Lib.hid (bgrown HB7.out hgY (fun k e => by have := Option.some.inj e; omega))
    have HO8 := Lib.hid (HO7.out.grown hgY (.inr hv1q))
    have HR8 := Lib.hid (HR7.out.grown hgY (by intro e; have := Option.some.inj e; omega))
    obtain ⟨⟨k0, k1, k2⟩, f0, f1, f2⟩ := HX7.out.cells
    clear hY hgY
    go_upto_region 7 with fail
    generalize w7.setCell ⟨q, 1, none⟩ (.int .i64 y) = w8 at HX8 HB8 HO8 HR8 ⊢
    clear k0 k1 k2 f0 f1 f2
    obtain ⟨⟨k0, k1, k2⟩, f0, f1, f2⟩ := HX8.out.cells
    obtain ⟨⟨j0, j1, j2⟩, g0, g1, g2⟩ := HR8.out.cells
    go_wp2_with fail
    go_region_with fail
    obtain ⟨hP, hG⟩ := HR8.out.put X y Z
    generalize (((w8.setCell ⟨w.heap.size, 0, none⟩ (.int .i64 X)).setCell ⟨w.heap.size, 1, none⟩ (.int .i64 y)).setCell ⟨w.heap.size, 2, none⟩ (.int .i64 Z)).drew = wl at hP hG ⊢
    have HBL := Lib.hid (bgrown HB8.out hG (fun k e => by have := Option.some.inj e; omega))
    have HOL := Lib.hid (HO8.out.grown hG (.inr hv1r)).si
    clear k0 k1 k2 f0 f1 f2 j0 j1 j2 g0 g1 g2 hG
    obtain ⟨⟨k0, k1, k2⟩, f0, f1, f2⟩ := hP.cells
    go_wp2_with fail
    exact bodyPost_ret (v := .tuple #[.int .i64 n, v1, .agg #[.int .i64 X, .int .i64 y, .int .i64 Z]]) (by simp [results, Tryd.results19, go_sem, *]) rfl ⟨n, _, xs, X, y, Z, rfl, HGN.out, HOL.out, hx, by unfold Good; omega, HGY.out, by unfold Good; omega, HBL.out⟩
  | false =>
    obtain ⟨⟨k0, k1, k2⟩, f0, f1, f2⟩ := HX6.out.cells
    obtain ⟨⟨j0, j1, j2⟩, g0, g1, g2⟩ := HR6.out.cells
    go_wp2_with fail
    go_region_with fail
    obtain ⟨hP, hG⟩ := HR6.out.put X (X + 1) Z
    generalize (((w6.setCell ⟨w.heap.size, 0, none⟩ (.int .i64 X)).setCell ⟨w.heap.size, 1, none⟩ (.int .i64 (X + 1))).setCell ⟨w.heap.size, 2, none⟩ (.int .i64 Z)).drew = wl at hP hG ⊢
    have HBL := Lib.hid (bgrown HB6.out hG (fun k e => by have := Option.some.inj e; omega))
    have HOL := Lib.hid (HO6.out.grown hG (.inr hv1r)).si
    clear k0 k1 k2 f0 f1 f2 j0 j1 j2 g0 g1 g2 hG
    obtain ⟨⟨k0, k1, k2⟩, f0, f1, f2⟩ := hP.cells
    go_wp2_with fail
    exact bodyPost_ret (v := .tuple #[.int .i64 n, v1, .agg #[.int .i64 X, .int .i64 (X + 1), .int .i64 Z]]) (by simp [results, Tryd.results19, go_sem, *]) rfl ⟨n, _, xs, X, (X + 1), Z, rfl, HGN.out, HOL.out, hx, by unfold Good; omega, by unfold Good; omega, by unfold Good; omega, HBL.out⟩

end Go.Proofs.YtpgnndpjlcihiaaDoor
