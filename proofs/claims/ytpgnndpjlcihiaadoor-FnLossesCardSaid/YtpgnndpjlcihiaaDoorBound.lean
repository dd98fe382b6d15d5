/-
  The program's bound: an entry of the table becomes no greater than told.
-/
import Derived.Test.YtpgnndpjlcihiaaDoorTable
import Derived.Test.YtpgnndpjlcihiaaDoorIn
import Derived.StillTailTactics
namespace Go.Proofs.YtpgnndpjlcihiaaDoor
open Go.RowKit

theorem grownBy_drew {w w2 w3 : World} {row : Option Nat} (h : Below w.heap.size w w2) (k : w2.grownBy w3 row) : w.grownBy w3 row :=
  ⟨k.os.trans h.os, k.tape.trans h.tape, k.output.trans h.output, Nat.le_trans h.size k.size, fun b hb hne => (k.block b (Nat.lt_of_lt_of_le hb h.size) hne).trans (h.block b hb)⟩

set_option maxRecDepth 100000 in
theorem bound_any (base B G n capG : Nat) (g c : Nat → Nat) (f : Nat → Nat → Int) (i k : Nat) (x : Int) (w : World) (hi : i < n) (hk : k < n) (hx : Good x) (hB : w.cell? ⟨B, 0, none⟩ = some (.slice (some ⟨G, 0, none⟩) n capG)) (ht : TBat 2 w base G g c n f) :
    Calls Tryd.prog 62 #[.int .i64 i, .int .i64 k, .int .i64 x, .pointer (some ⟨B, 0, none⟩)] w fun e w' => e = .returned (.tuple #[]) ∧ TBat 2 w' base G g c n (upd f i k (min (f i k) x)) ∧ w.grownBy w' (some (g i)) := by
  obtain ⟨c1, c2, c3⟩ := ht.cell i k hi hk
  have hg := ht.good i k hi hk
  have HSet := Lib.hid (ht.below (below_drewN' w 1))
  have hi1 : (0 : Int) ≤ i := by omega
  have hi2 : (i : Int) < n := by omega
  have hk1 : (0 : Int) ≤ k := by omega
  have hk2 : (k : Int) < n := by omega
  clear ht
  by_cases hlt : x < f i k
  · have HS := Lib.hid ((HSet.out).set i k hi hk x hx)
    rw [show min (f i k) x = x by omega]
    go_enter Tryd.func62, Tryd.ntmps62
    go_wp2
    go_still_tail 15, (by kernel_rfl)
    change wpList _ _ _ _ _ w.drew
    replace hB : w.drew.cell? ⟨B, 0, none⟩ = some (.slice (some ⟨G, 0, none⟩) n capG) := hB
    replace c1 : w.drew.cell? ⟨G, i, none⟩ = some (.slice (some ⟨g i, 0, none⟩) n (c i)) := c1
    replace c2 : w.drew.cell? ⟨g i, k, none⟩ = some (.int .i64 (f i k)) := c2
    replace c3 : w.drew.frozen? ⟨g i, k, none⟩ = false := c3
    have HW := Lib.hid (show Below w.heap.size w w.drew from (Below.refl _ _).drew)
    have HS2 := Lib.hid (show TBat 2 (w.drew.setCell ⟨g i, k, none⟩ (.int .i64 x)) base G g c n (upd f i k x) ∧ w.drew.grownBy (w.drew.setCell ⟨g i, k, none⟩ (.int .i64 x)) (some (g i)) from HS.out)
    clear HS HSet
    generalize w.drew = w2 at hB c1 c2 c3 HW HS2 ⊢
    go_wp2
    go_end0
    exact ⟨rfl, HS2.out.1, grownBy_drew HW.out HS2.out.2⟩
  · have HS := Lib.hid ((HSet.out).set i k hi hk (f i k) hg)
    rw [show min (f i k) x = f i k by omega]
    go_enter Tryd.func62, Tryd.ntmps62
    go_wp2
    go_still_tail 15, (by kernel_rfl)
    change wpList _ _ _ _ _ w.drew
    replace hB : w.drew.cell? ⟨B, 0, none⟩ = some (.slice (some ⟨G, 0, none⟩) n capG) := hB
    replace c1 : w.drew.cell? ⟨G, i, none⟩ = some (.slice (some ⟨g i, 0, none⟩) n (c i)) := c1
    replace c2 : w.drew.cell? ⟨g i, k, none⟩ = some (.int .i64 (f i k)) := c2
    replace c3 : w.drew.frozen? ⟨g i, k, none⟩ = false := c3
    have HW := Lib.hid (show Below w.heap.size w w.drew from (Below.refl _ _).drew)
    have HS2 := Lib.hid (show TBat 2 (w.drew.setCell ⟨g i, k, none⟩ (.int .i64 (f i k))) base G g c n (upd f i k (f i k)) ∧ w.drew.grownBy (w.drew.setCell ⟨g i, k, none⟩ (.int .i64 (f i k))) (some (g i)) from HS.out)
    clear HS HSet
    generalize w.drew = w2 at hB c1 c2 c3 HW HS2 ⊢
    go_wp2
    go_end0
    exact ⟨rfl, HS2.out.1, grownBy_drew HW.out HS2.out.2⟩

end Go.Proofs.YtpgnndpjlcihiaaDoor
