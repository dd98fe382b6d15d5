/-
  The record Loss in the program: what its type tells, and toLoss.
-/
import Derived.Test.YtpgnndpjlcihiaaDoorRec3
import Derived.Test.YtpgnndpjlcihiaaDoorIn
import Derived.Deep.RegionWith
namespace Go.Proofs.YtpgnndpjlcihiaaDoor
open Go.RowKit

theorem infoLoss : (Tryd.prog.info? 25).map (fun i => (i.zero, i.size, i.bytes)) = some (some (.agg #[.int .i64 0, .int .i64 0, .int .i64 0]), 3, 24) := by kernel_rfl

theorem toLoss_any (x y z : Int) (w : World) : Calls Tryd.prog 6 #[.agg #[.int .i64 x, .int .i64 y, .int .i64 z]] w fun e w' => e = .returned (.agg #[.int .i64 x, .int .i64 y, .int .i64 z]) ∧ Below w.heap.size w w' := by
  go_enter Tryd.func6, Tryd.ntmps6
  go_wp2
  exact bodyPost_ret (v := .agg #[.int .i64 x, .int .i64 y, .int .i64 z]) (by simp [results, Tryd.results6, go_sem]) rfl ⟨rfl, (((Below.refl _ _).alloc (Nat.le_refl _) _).alloc (by simp) _).alloc (by simp; omega) _⟩

end Go.Proofs.YtpgnndpjlcihiaaDoor
