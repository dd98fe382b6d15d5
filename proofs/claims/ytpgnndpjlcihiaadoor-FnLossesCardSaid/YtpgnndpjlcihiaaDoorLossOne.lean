/-
  One test: is it valid? Of the reference and of the program.
-/
import Derived.Test.YtpgnndpjlcihiaaDoorIn
import Derived.Deep.QuietTactic
import Derived.BigQuiet
import Derived.IntWalk
namespace Go.Proofs.YtpgnndpjlcihiaaDoor
open Go.RowKit

def okLoss (n : Int) (p : Int × Int × Int) : Bool := inB 0 (n - 1) p.1 && inB 1 n p.2.1 && decide (p.1 < p.2.1) && inB 0 10000 p.2.2
theorem okLoss_impl (n f t l : Int) : okLoss n (f, t, l) = (decide (0 ≤ f) && decide (f < t) && decide (t ≤ n) && inB 0 10000 l) := by
  simp only [okLoss]
  cases inB 0 10000 l
  · simp
  · simp only [Bool.and_true, inB]
    rw [Bool.eq_iff_iff]
    simp only [Bool.and_eq_true, decide_eq_true_eq]
    omega

theorem quiet_bool {P : Program} {f : FuncId} {args : Array Value} {w : World} {n : Nat} {b' b : Bool}
    (h : Calls P f args (w.drewN n) fun e w' => e = .returned (.bool b') ∧ w.drewN n = w') (hb : b' = b) : Calls P f args (w.drewN n) fun e w'' => e = .returned (.bool b) ∧ ∃ m, w'' = w.drewN m := by
  subst hb; exact quiet_eq h

theorem l15One_any (n f t l : Int) (b o : Nat) (w : World) (hn : 1 ≤ n ∧ n ≤ 9) (g1 : w.cell? ⟨b, o, none⟩ = some (.int .i64 f)) (g2 : w.cell? ⟨b, o + 1, none⟩ = some (.int .i64 t)) (g3 : w.cell? ⟨b, o + 2, none⟩ = some (.int .i64 l)) :
    Calls Tryd.prog 30 #[.int .i64 n, .pointer (some ⟨b, o, none⟩)] w fun e w' => e = .returned (.bool (okLoss n (f, t, l))) ∧ Below w.heap.size w w' := by
  obtain ⟨n1, n2⟩ := hn
  have hwr : IntKind.i64.wrap (n - 1) = n - 1 := IntWalk.i64_in _ (by omega)
  cases h1 : inB 0 (n - 1) f with
  | false =>
    have HE := Lib.hid (show okLoss n (f, t, l) = false by simp [okLoss, h1])
    go_enter Tryd.func30, Tryd.ntmps30
    go_wp2_with fail
    go_quiet ((go_at_call 52; exact quiet_bool (l00In_any _ _ _ _) h1))
    rename_i nq
    go_wp2
    go_ret
    exact ⟨ret_bool HE.out.symm, below_drewN' _ _⟩
  | true =>
    cases h2 : inB 1 n t with
    | false =>
      have HE := Lib.hid (show okLoss n (f, t, l) = false by simp [okLoss, h2])
      go_enter Tryd.func30, Tryd.ntmps30
      go_wp2_with fail
      go_quiet ((go_at_call 52; first | exact quiet_bool (l00In_any _ _ _ _) h1 | exact quiet_bool (l00In_any _ _ _ _) h2))
      rename_i nq
      go_wp2
      go_ret
      exact ⟨ret_bool HE.out.symm, below_drewN' _ _⟩
    | true =>
      by_cases h3 : f < t
      · have HE := Lib.hid (show okLoss n (f, t, l) = inB 0 10000 l by simp [okLoss, h1, h2, h3])
        have hd3 : decide (f < t) = true := decide_eq_true h3
        go_enter Tryd.func30, Tryd.ntmps30
        go_wp2_with fail
        go_quiet ((go_at_call 52; first | exact quiet_bool (l00In_any _ _ _ _) h1 | exact quiet_bool (l00In_any _ _ _ _) h2 | exact quiet_eq (l00In_any _ _ _ _)))
        rename_i nq
        go_wp2
        go_ret
        exact ⟨ret_bool HE.out.symm, below_drewN' _ _⟩
      · have HE := Lib.hid (show okLoss n (f, t, l) = false by simp [okLoss, h3])
        have hd3 : decide (f < t) = false := decide_eq_false h3
        go_enter Tryd.func30, Tryd.ntmps30
        go_wp2_with fail
        go_quiet ((go_at_call 52; first | exact quiet_bool (l00In_any _ _ _ _) h1 | exact quiet_bool (l00In_any _ _ _ _) h2))
        rename_i nq
        go_wp2
        go_ret
        exact ⟨ret_bool HE.out.symm, below_drewN' _ _⟩

theorem isLoss_any (n f t l : Int) (w : World) :
    Calls Tryd.prog 32 #[.int .i64 n, .agg #[.int .i64 f, .int .i64 t, .int .i64 l]] w fun e w' => e = .returned (.bool (okLoss n (f, t, l))) ∧ Below w.heap.size w w' := by
  rw [okLoss_impl]
  have hb : ∀ o : Obj, Below w.heap.size w (w.alloc o) := fun o => (Below.refl _ _).alloc (Nat.le_refl _) _
  by_cases h1 : 0 ≤ f
  · by_cases h2 : f < t
    · by_cases h3 : t ≤ n
      · go_enter Tryd.func32, Tryd.ntmps32
        go_wp2_with (go_at_call 58; refine (within_any _ _ _ _).mono ?_; rintro e w' ⟨rfl, rfl⟩)
        go_ret
        exact ⟨ret_bool (by simp [h1, h2, h3]), hb _⟩
      · go_enter Tryd.func32, Tryd.ntmps32
        go_wp2
        go_ret
        exact ⟨ret_bool (by rw [decide_eq_false (show ¬ t ≤ n by omega)]; simp), hb _⟩
    · go_enter Tryd.func32, Tryd.ntmps32
      go_wp2
      go_ret
      exact ⟨ret_bool (by rw [decide_eq_false (show ¬ f < t by omega)]; simp), hb _⟩
  · go_enter Tryd.func32, Tryd.ntmps32
    go_wp2
    go_ret
    exact ⟨ret_bool (by rw [decide_eq_false (show ¬ 0 ≤ f by omega)]; simp), hb _⟩

end Go.Proofs.YtpgnndpjlcihiaaDoor
