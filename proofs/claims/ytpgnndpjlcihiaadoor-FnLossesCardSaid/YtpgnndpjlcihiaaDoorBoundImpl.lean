/-
  LeakBounds of the program: its contract.
-/
import Derived.Test.YtpgnndpjlcihiaaDoorBounds
namespace Go.Proofs.YtpgnndpjlcihiaaDoor
open Go.RowKit

theorem implLeakBounds_any (n : Int) (v : Value) (xs : List (Int × Int × Int)) (m : Int) (w : World) (hv : SI P3 w v xs) :
    Calls Tryd.prog 29 #[.int .i64 n, v, .int .i64 m] w fun e w' => e = .returned (.tuple #[.int .i64 (valLeakB n xs m).1, .int .i64 (valLeakB n xs m).2.1, .int .i64 (valLeakB n xs m).2.2]) ∧ Below w.heap.size w w' := by
  have HV := Lib.hid hv
  have C1 := implValidLosses_any n v xs w hv
  clear hv
  cases h1 : okLosses n xs with
  | false =>
    rw [h1] at C1
    have D1 := Lib.hid C1
    have HE := Lib.hid (show valLeakB n xs m = (0, 0, 1) by simp [valLeakB, h1])
    clear C1 h1
    go_enter Tryd.func29, Tryd.ntmps29
    go_wp2_with (go_at_call 27; refine D1.out.mono ?_; rintro e w1 ⟨rfl, hb1⟩)
    go_ret3
    exact ⟨by rw [HE.out]; rfl, hb1⟩
  | true =>
    rw [h1] at C1
    have D1 := Lib.hid C1
    have hn := okLosses_n h1
    have hwn : IntKind.i64.wrap (n - 1) = n - 1 := IntWalk.i64_in _ (by omega)
    cases hin : inB 0 (n - 1) m with
    | false =>
      have HE := Lib.hid (show valLeakB n xs m = (0, 0, 2) by simp [valLeakB, h1, hin])
      have HIN := Lib.hid hin
      clear C1 h1 hin
      go_enter Tryd.func29, Tryd.ntmps29
      go_wp2_with (first
        | (go_at_call 27; refine D1.out.mono ?_; rintro e w1 ⟨rfl, hb1⟩)
        | (go_at_call 58; refine (within_any _ _ _ _).mono ?_; rintro e w' ⟨rfl, rfl⟩; rw [HIN.out]))
      go_ret3
      exact ⟨by rw [HE.out]; rfl, hb1⟩
    | true =>
      have HIN := Lib.hid hin
      have C2 := fun W h => leakBounds_any n v xs W h
      cases h2 : okA n.toNat openT xs with
      | false =>
        rw [codeL_clash h1 h2] at C2
        have D2 := Lib.hid C2
        have HE := Lib.hid (show valLeakB n xs m = (0, 0, 9) by simp [valLeakB, h1, hin, h2])
        clear C1 C2 h1 hin h2
        go_enter Tryd.func29, Tryd.ntmps29
        go_wp2_with (first
          | (go_at_call 36; refine (D2.out _ (HV.out.below hb1)).mono ?_; rintro e w2 ⟨v1, v2, rfl, hb2, _, _⟩)
          | (go_at_call 27; refine D1.out.mono ?_; rintro e w1 ⟨rfl, hb1⟩)
          | (go_at_call 58; refine (within_any _ _ _ _).mono ?_; rintro e w' ⟨rfl, rfl⟩; rw [HIN.out]))
        go_ret3
        exact ⟨by rw [HE.out]; rfl, bthen hb1 hb2⟩
      | true =>
        rw [codeL_ok h1 h2, if_pos rfl, if_pos rfl] at C2
        have HEV := Lib.hid (show valLeakB n xs m = (valLow n.toNat xs m.toNat, valHigh n.toNat xs m.toNat, 0) by simp [valLeakB, h1, hin, h2])
        simp only [inB, Bool.and_eq_true, decide_eq_true_eq] at hin
        obtain ⟨s, rfl⟩ : ∃ s : Nat, n = s := ⟨n.toNat, by omega⟩
        obtain ⟨k, rfl⟩ : ∃ k : Nat, m = k := ⟨m.toNat, by omega⟩
        have hlt : k < s := by omega
        have hkI : (k : Int) < (s : Int) := by omega
        have HL1 := Lib.hid (mapL_len (valLow s xs) s)
        have HL2 := Lib.hid (mapL_len (valHigh s xs) s)
        have HG1 := Lib.hid (mapL_getD (valLow s xs) s k hlt)
        have HG2 := Lib.hid (mapL_getD (valHigh s xs) s k hlt)
        have HE := Lib.hid (show valLeakB s xs k = ((mapL (valLow s xs) s).getD k 0, (mapL (valHigh s xs) s).getD k 0, 0) by rw [HEV.out, HG1.out, HG2.out]; rfl)
        rw [show (s : Int).toNat = s from rfl] at C2
        generalize mapL (valLow s xs) s = L1 at HL1 HE C2
        generalize mapL (valHigh s xs) s = L2 at HL2 HE C2
        have D2 := Lib.hid C2
        clear HEV HG1 HG2 C1 C2 h1 h2 hin
        go_enter Tryd.func29, Tryd.ntmps29
        go_wp2_with (first
          | (go_at_call 36; refine (D2.out _ (HV.out.below hb1)).mono ?_; rintro e w2 ⟨v1, v2, rfl, hb2, ho1, ho2⟩; have hr1 := OI.ri ho1; have hr2 := OI.ri ho2; clear ho1 ho2; obtain ⟨a1, cap1, rfl⟩ := RI.shape hr1; obtain ⟨a2, cap2, rfl⟩ := RI.shape hr2; obtain ⟨x1, o1, rfl, _, g1⟩ := RI.cells hr1 (by rw [HL1.out]; omega); obtain ⟨x2, o2, rfl, _, g2⟩ := RI.cells hr2 (by rw [HL2.out]; omega); have c1 := g1 k (by rw [HL1.out]; exact hlt); have c2 := g2 k (by rw [HL2.out]; exact hlt); have hi1 : (k : Int) < (L1.length : Int) := by { rw [HL1.out]; exact hkI }; have hi2 : (k : Int) < (L2.length : Int) := by { rw [HL2.out]; exact hkI }; clear g1 g2 hr1 hr2)
          | (go_at_call 27; refine D1.out.mono ?_; rintro e w1 ⟨rfl, hb1⟩)
          | (go_at_call 58; refine (within_any _ _ _ _).mono ?_; rintro e w' ⟨rfl, rfl⟩; rw [HIN.out]))
        go_quiet (fail)
        rename_i nq
        go_wp2
        go_ret3
        exact ⟨by rw [HE.out]; rfl, below_drewN (bthen hb1 hb2) _⟩

end Go.Proofs.YtpgnndpjlcihiaaDoor
