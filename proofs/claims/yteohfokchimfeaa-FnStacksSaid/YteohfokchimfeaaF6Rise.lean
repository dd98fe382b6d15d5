/-
  f6rising of the laws.
-/
import Derived.Test.YteohfokchimfeaaStackLaw
import Derived.Test.YteohfokchimfeaaBase
namespace Go.Proofs.Yteohfokchimfeaa
open Go.RowKit

theorem f6rising_any (v : Value) (xs : List Int) (w : World) (hv : RI w v xs) :
    Calls Try.prog 50 #[v] w fun e w' => e = .returned (.bool (risesB xs)) ∧ Below w.heap.size w w' := by
  obtain ⟨a, cap, rfl⟩ := hv.shape
  have hl := hv.len
  have HV := Lib.hid hv
  clear hv
  go_enter Try.func50, Try.ntmps50
  go_wp2_with fail
  go_loopw [3] (fun i wr => ∃ k : Nat, 1 ≤ k ∧ (k = 1 ∨ k ≤ xs.length) ∧ i = .int .i64 k ∧ Hid (∀ j, 1 ≤ j → j < k → xs.getD (j - 1) 0 < xs.getD j 0) ∧ Below w.heap.size w wr) (fun i _ => xs.length - (intOf i).toNat)
  case atStart => exact ⟨1, Nat.le_refl _, .inl rfl, rfl, Lib.hid (fun j h1 h2 => by omega), Below.refl _ _⟩
  case round =>
    obtain ⟨k, hk1, hk, rfl, HR, hb⟩ := hrel
    by_cases hlt : k < xs.length
    · obtain ⟨b, off, rfl, hbl, hc⟩ := HV.out.cells (by omega)
      have g := (hb.cell (p := ⟨b, off + k, none⟩) hbl).trans (hc k hlt)
      obtain ⟨q, hq⟩ : ∃ q, q = k - 1 := ⟨_, rfl⟩
      have g2 := (hb.cell (p := ⟨b, off + q, none⟩) hbl).trans (hc q (by omega))
      have hki : (k : Int) < xs.length := by omega
      have hqi : (q : Int) < xs.length := by omega
      have hwq : IntKind.i64.wrap ((k : Int) - 1) = (q : Int) := by rw [IntWalk.i64_in _ (by omega)]; omega
      have HQ := Lib.hid hq
      have HYes := Lib.hid (fun (h : xs.getD q 0 < xs.getD k 0) => show ∀ j, 1 ≤ j → j < k + 1 → xs.getD (j - 1) 0 < xs.getD j 0 from fun j h1 h2 => by
        by_cases e : j = k
        · subst e; rw [← hq]; exact h
        · exact HR.out j h1 (by omega))
      have HNo := Lib.hid (fun (h : ¬ xs.getD q 0 < xs.getD k 0) => risesB_no hk1 hlt (by rw [← hq]; exact h))
      clear hc hq
      generalize xs.getD k 0 = x at g HYes HNo
      generalize xs.getD q 0 = y at g2 HYes HNo
      have hdk : decide ((k : Int) < (xs.length : Int)) = true := decide_eq_true hki
      by_cases hxy : y < x
      · have hd : decide (x ≤ y) = false := decide_eq_false (by omega)
        have HY := Lib.hid (HYes.out hxy)
        clear hxy
        go_wp2_with fail
        go_quiet (fail)
        go_wp2_with fail
        go_roundw
        case rel => exact ⟨k + 1, by omega, by omega, by go_num, HY, below_drewN hb _⟩
        case measure => simp [intOf]; omega
      · have hd : decide (x ≤ y) = true := decide_eq_true (by omega)
        have HN := Lib.hid (HNo.out hxy)
        clear hxy
        go_wp2_with fail
        go_quiet (fail)
        go_wp2_with fail
        go_ret
        exact ⟨ret_bool HN.out.symm, below_drewN hb _⟩
    · have hdk : decide ((k : Int) < (xs.length : Int)) = false := decide_eq_false (by omega)
      have HE := Lib.hid (show risesB xs = true from risesB_yes fun j h1 h2 => HR.out j h1 (by omega))
      go_wp2_with fail
      go_ret
      exact ⟨ret_bool HE.out.symm, hb⟩

end Go.Proofs.Yteohfokchimfeaa
