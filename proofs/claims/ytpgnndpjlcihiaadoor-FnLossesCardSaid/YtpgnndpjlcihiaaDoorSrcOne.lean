/-
  The reference's source of choices: what one returns (in a text of its own: not each seat holds it).
-/
import Derived.Test.YtpgnndpjlcihiaaDoorSrc
namespace Go.Proofs.YtpgnndpjlcihiaaDoor
open Go.RowKit

theorem one_any (v : Value) (n b base m : Nat) (k : Int) (w : World) (hv : BI w v n) (hs : SrcAt w base b v m) (hm : m ≤ 900000000) (hne : 0 < n → v.ownBlock ≠ some b) :
    Calls Tryd.prog 44 #[.pointer (some ⟨b, 0, none⟩), .int .i64 k] w fun e w' => ∃ y : Bool, e = .returned (.bool y) ∧ SrcAt w' base b v (m + 2) ∧ w.grownBy w' (some b) := by
  have C1 := Lib.hid (pick_any v n b base m k w hv hs hm hne)
  clear hv hs
  go_enter Tryd.func44, Tryd.ntmps44
  go_wp2_with (go_at_call 46; refine C1.out.mono ?_; rintro e w1 ⟨y1, rfl, _, _, _, _, hs1, hg1⟩; have HS1 := Lib.hid hs1; clear hs1)
  go_ret
  exact ⟨_, rfl, HS1.out, hg1⟩


end Go.Proofs.YtpgnndpjlcihiaaDoor
