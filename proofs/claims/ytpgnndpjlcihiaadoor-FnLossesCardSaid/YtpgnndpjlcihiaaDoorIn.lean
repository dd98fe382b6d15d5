/-
  The tests of a range, by contracts.
-/
import Derived.Test.YtpgnndpjlcihiaaDoorProg
import Derived.Test.YtpgnndpjlcihiaaDoorLib
import Derived.Outline
namespace Go.Proofs.YtpgnndpjlcihiaaDoor
open Go.RowKit

theorem info64 : (Tryd.prog.info? 2).map (fun i => (i.zero, i.size, i.bytes)) = some (some (.int .i64 0), 1, 8) := by kernel_rfl

theorem l00In_any (n lo hi : Int) (w : World) : Calls Tryd.prog 52 #[.int .i64 n, .int .i64 lo, .int .i64 hi] w fun e w' => e = .returned (.bool (inB lo hi n)) ∧ w = w' := by
  by_cases h : lo ≤ n
  · go_enter Tryd.func52, Tryd.ntmps52
    go_wp2
    go_ret
    simp [h, inB]
  · have hd : decide (lo ≤ n) = false := by simpa using h
    go_enter Tryd.func52, Tryd.ntmps52
    go_wp2
    go_ret
    exact ⟨ret_bool (by simp [inB, hd]), rfl⟩

theorem within_any (n lo hi : Int) (w : World) : Calls Tryd.prog 58 #[.int .i64 n, .int .i64 lo, .int .i64 hi] w fun e w' => e = .returned (.bool (inB lo hi n)) ∧ w = w' := by
  by_cases h : lo ≤ n
  · go_enter Tryd.func58, Tryd.ntmps58
    go_wp2
    go_ret
    simp [h, inB]
  · have hd : decide (lo ≤ n) = false := by simpa using h
    go_enter Tryd.func58, Tryd.ntmps58
    go_wp2
    go_ret
    exact ⟨ret_bool (by simp [inB, hd]), rfl⟩

end Go.Proofs.YtpgnndpjlcihiaaDoor
