/-
  What FnLosses draws, second part: DrawLossText.
-/
import Derived.Test.YtpgnndpjlcihiaaDoorDrawDoor
namespace Go.Proofs.YtpgnndpjlcihiaaDoor
open Go.RowKit

theorem BoxAt.put0 {w : World} {base q : Nat} {x y z : Int} (h : BoxAt w base q x y z) (x' y' z' : Int) :
    BoxAt (((w.setCell ⟨q, 0, none⟩ (.int .i64 x')).setCell ⟨q, 1, none⟩ (.int .i64 y')).setCell ⟨q, 2, none⟩ (.int .i64 z')) base q x' y' z' ∧ w.grownBy (((w.setCell ⟨q, 0, none⟩ (.int .i64 x')).setCell ⟨q, 1, none⟩ (.int .i64 y')).setCell ⟨q, 2, none⟩ (.int .i64 z')) (some q) := by
  have h1 : BoxAt (w.setCell ⟨q, 0, none⟩ (.int .i64 x')) base q x' y z ∧ w.grownBy (w.setCell ⟨q, 0, none⟩ (.int .i64 x')) (some q) := World.ownsRow.stored h 0 (.int .i64 x')
  have h2 := h1.1.setY y'
  have h3 := h2.1.setZ z'
  exact ⟨h3.1, grownBy_trans (grownBy_trans h1.2 h2.2) h3.2⟩

set_option maxRecDepth 100000 in
theorem DrawLossText_any (v : Value) (m : Nat) (w : World) (hv : BI w v m) :
    Calls Tryd.prog 23 #[v] w fun e w' => ∃ (x y z : Int), e = .returned (.agg #[.int .i64 x, .int .i64 y, .int .i64 z]) ∧ Good x ∧ Good y ∧ Good z ∧ Below w.heap.size w w' := by
  have HBR := Lib.hid ((Below.refl w.heap.size w).alloc (Nat.le_refl _) (.cells #[.int .i64 0, .int .i64 0, .int .i64 0] 25))
  have HR := Lib.hid (BoxAt.new w 0 0 0)
  have C1 := Lib.hid (DrawAddLoss_any v m _ (hv.below HBR.out))
  clear hv
  go_enter Tryd.func23, Tryd.ntmps23
  go_wp2_with fail
  refine C1.out.mono ?_
  rintro e w1 ⟨n, v1, xs, x, y, z, rfl, _, _, _, hx, hy, hz, hb1⟩
  have HB1 := Lib.hid (bthen HBR.out hb1)
  have HR1 := Lib.hid (HR.out.grown (grown_below (row := none) hb1) (by simp))
  have HBX := Lib.hid ((Below.refl w1.heap.size w1).alloc (Nat.le_refl _) (.cells #[.int .i64 x, .int .i64 y, .int .i64 z] 25))
  have HB2 := Lib.hid (bthen HB1.out HBX.out)
  have HR2 := Lib.hid (HR1.out.grown (grown_below (row := none) HBX.out) (by simp))
  obtain ⟨hP, hG⟩ := HR2.out.put0 x y z
  have HBL := Lib.hid (bgrown HB2.out hG (fun k e => by have := Option.some.inj e; omega))
  have HP := Lib.hid hP
  clear hb1 hP hG
  obtain ⟨⟨k0, k1, k2⟩, f0, f1, f2⟩ := (BoxAt.new w1 x y z).cells
  obtain ⟨⟨j0, j1, j2⟩, g0, g1, g2⟩ := HR2.out.cells
  go_wp2_with fail
  generalize (((w1.alloc (.cells #[.int .i64 x, .int .i64 y, .int .i64 z] 25)).setCell ⟨w.heap.size, 0, none⟩ (.int .i64 x)).setCell ⟨w.heap.size, 1, none⟩ (.int .i64 y)).setCell ⟨w.heap.size, 2, none⟩ (.int .i64 z) = wl at HP HBL ⊢
  clear k0 k1 k2 f0 f1 f2 j0 j1 j2 g0 g1 g2
  obtain ⟨⟨k0, k1, k2⟩, f0, f1, f2⟩ := HP.out.cells
  exact bodyPost_ret (v := .agg #[.int .i64 x, .int .i64 y, .int .i64 z]) (by simp [results, Tryd.results23, go_sem, *]) rfl ⟨x, y, z, rfl, hx, hy, hz, HBL.out⟩

end Go.Proofs.YtpgnndpjlcihiaaDoor
