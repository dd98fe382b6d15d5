/-
  The library's IndexFunc and ContainsFunc at lists of int64, for every predicate of the list's own numbers that leaves old memory as it was.
-/
import Derived.Test.YtejnfngnofilfaaSlices
namespace Go.Proofs.Ytejnfngnofilfaa
open Go.RowKit

/-- Function g, with the captured values lb, is the predicate p at the numbers of xs, in every world in which all that lay in w lies unturned. -/
def PredM (g : Nat) (lb : Array Value) (p : Int → Bool) (w : World) (xs : List Int) : Prop :=
  ∀ (W : World) (n : Int), Below w.heap.size w W → n ∈ xs → Calls Try.prog g (#[.int .i64 n] ++ lb) W fun e w' => e = .returned (.bool (p n)) ∧ Below w.heap.size w w'

theorem indexMem_any (g : Nat) (lb : Array Value) (p : Int → Bool) (v : Value) (xs : List Int) (w : World) (eg : ∀ args w, (callFunc g args).run Try.prog w = .ok (.enter g args) w) (hp : PredM g lb p w xs) (hv : RI w v xs) :
    Calls Try.prog 101 #[v, .func (.func g) #[] lb] w fun e w' => e = .returned (.int .i64 (idxI p xs)) ∧ Below w.heap.size w w' := by
  obtain ⟨a, cap, rfl⟩ := hv.shape
  have hl := hv.len
  have HV := Lib.hid hv
  have HP := Lib.hid hp
  clear hv hp
  go_enter Try.func101, Try.ntmps101
  go_wp2
  go_loopw [5, 8] (fun _ i wr => ∃ k : Nat, k ≤ xs.length ∧ i = .int .i64 k ∧ Below w.heap.size w wr ∧ ∀ j, j < k → p (xs.getD j 0) = false) (fun _ i _ => xs.length - (intOf i).toNat)
  case atStart => exact ⟨0, Nat.zero_le _, rfl, Below.refl _ _, fun j hj => absurd hj (Nat.not_lt_zero _)⟩
  case round =>
    obtain ⟨k, hk, rfl, hb, hno⟩ := hrel
    have HNO := Lib.hid hno
    clear hno
    by_cases hlt : k < xs.length
    · obtain ⟨b, off, rfl, hbl, hc⟩ := HV.out.cells (by omega)
      have g1 := (hb.cell (p := ⟨b, off + k, none⟩) hbl).trans (hc k hlt)
      have HC := HP.out wr (xs.getD k 0) hb (by simp only [List.getD, List.getElem?_eq_getElem hlt, Option.getD_some]; exact List.getElem_mem hlt)
      clear hc
      generalize hy : xs.getD k 0 = y at g1 HC
      have HY := Lib.hid hy
      clear hy
      cases hq : p y with
      | true =>
        rw [hq] at HC
        have HC' := Lib.hid HC
        have HQ := Lib.hid hq
        clear HC hq
        go_wp2_with (go_at_fn g; refine HC'.out.mono ?_; rintro e w' ⟨rfl, hb'⟩)
        go_ret
        exact ⟨ret_int (idxI_hit p xs k hlt (by rw [HY.out]; exact HQ.out) HNO.out).symm, hb'⟩
      | false =>
        rw [hq] at HC
        have HC' := Lib.hid HC
        have HQ := Lib.hid hq
        clear HC hq
        go_wp2_with (go_at_fn g; refine HC'.out.mono ?_; rintro e w' ⟨rfl, hb'⟩)
        go_roundw
        case rel =>
          refine ⟨k + 1, by omega, by go_num, hb', fun j hj => ?_⟩
          by_cases e : j = k
          · subst e; rw [HY.out]; exact HQ.out
          · exact HNO.out j (by omega)
        case measure => simp [intOf]; omega
    · go_wp2
      go_ret
      exact ⟨ret_int (idxI_miss p xs (fun j hj => HNO.out j (by omega))).symm, hb⟩

theorem containsMem_any (g : Nat) (lb : Array Value) (p : Int → Bool) (v : Value) (xs : List Int) (w : World) (eg : ∀ args w, (callFunc g args).run Try.prog w = .ok (.enter g args) w) (hp : PredM g lb p w xs) (hv : RI w v xs) :
    Calls Try.prog 82 #[v, .func (.func g) #[] lb] w fun e w' => e = .returned (.bool (xs.any p)) ∧ Below w.heap.size w w' := by
  have HA := Lib.hid (idxI_any p xs)
  have HV := Lib.hid hv
  have HP := Lib.hid hp
  clear hv hp
  go_enter Try.func82, Try.ntmps82
  go_wp2_with (go_at_call 101; refine (indexMem_any g lb p v xs _ eg HP.out HV.out).mono ?_; rintro e w' ⟨rfl, hb'⟩)
  go_ret
  exact ⟨ret_bool HA.out, hb'⟩

end Go.Proofs.Ytejnfngnofilfaa
