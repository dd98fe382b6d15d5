/-
  FewestStuck of the program: what it returns.
-/
import Derived.Test.YtejnfngnofilfaaDiag
namespace Go.Proofs.Ytejnfngnofilfaa
open Go.RowKit

theorem implFewestStuck_any (d : Int) (v : Value) (ts : List (Int × Int)) (w : World) (hv : SI P2 w v ts) :
    Calls Try.prog 38 #[.int .i64 d, v] w fun e w' => ∃ v', e = .returned (.tuple #[v', .int .i64 (valFewest d ts).2]) ∧ OS P2 57 w' w.heap.size v' (valFewest d ts).1 ∧ Below w.heap.size w w' := by
  have HV := Lib.hid hv
  clear hv
  go_enter Try.func38, Try.ntmps38
  go_wp2_with fail
  refine (diagnosed_any d v ts _ HV.out).mono ?_
  rintro e w1 ⟨u1, u2, rfl, ho, _, hb1⟩
  have HO := Lib.hid ho
  clear ho
  go_wp2_with fail
  go_ret2
  exact ⟨_, rfl, HO.out, hb1⟩

end Go.Proofs.Ytejnfngnofilfaa
