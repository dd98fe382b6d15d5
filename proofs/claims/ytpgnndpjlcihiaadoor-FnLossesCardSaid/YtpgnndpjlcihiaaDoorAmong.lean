/-
  The reference's source of choices: what among returns (in a text of its own: not each seat holds it).
-/
import Derived.Test.YtpgnndpjlcihiaaDoorSrc
namespace Go.Proofs.YtpgnndpjlcihiaaDoor
open Go.RowKit

/-- One of some numbers. -/
theorem among_any (v : Value) (n b base m : Nat) (u : Value) (xs : List Int) (w : World) (hv : BI w v n) (hs : SrcAt w base b v m) (hm : m ≤ 900000000) (hne : 0 < n → v.ownBlock ≠ some b) (hu : RI w u xs) (hx : 0 < xs.length) (hne2 : u.ownBlock ≠ some b) :
    Calls Tryd.prog 47 #[.pointer (some ⟨b, 0, none⟩), u] w fun e w' => ∃ y : Int, e = .returned (.int .i64 y) ∧ y ∈ xs ∧ SrcAt w' base b v (m + 2) ∧ w.grownBy w' (some b) := by
  obtain ⟨a, cap, rfl⟩ := hu.shape
  have hl := hu.len
  have C1 := Lib.hid (pick_any v n b base m xs.length w hv hs hm hne)
  have HU := Lib.hid (fun (w' : World) (hg : w.grownBy w' (some b)) => hu.grown hg (fun k hk => by have := Option.some.inj hk; subst this; exact hne2))
  clear hv hs hu
  go_enter Tryd.func47, Tryd.ntmps47
  go_wp2_with (go_at_call 46; refine C1.out.mono ?_; rintro e w1 ⟨y1, rfl, y10, _, y12, y13, hs1, hg1⟩; have hy := pick_lt y12 y13 (by omega); have HS1 := Lib.hid hs1; have hr := HU.out w1 hg1; obtain ⟨b1, o1, rfl, hb1, hc⟩ := hr.cells hx; obtain ⟨Y, rfl⟩ : ∃ Y : Nat, y1 = Y := ⟨y1.toNat, by omega⟩; have g1 := hc Y (by omega); have hmem : xs.getD Y 0 ∈ xs := (by simp only [List.getD, List.getElem?_eq_getElem (show Y < xs.length by omega), Option.getD_some]; exact List.getElem_mem _); have HM := Lib.hid hmem; clear hs1 hc hr hmem y12 y13)
  go_ret
  exact ⟨_, rfl, HM.out, HS1.out, hg1⟩

end Go.Proofs.YtpgnndpjlcihiaaDoor
