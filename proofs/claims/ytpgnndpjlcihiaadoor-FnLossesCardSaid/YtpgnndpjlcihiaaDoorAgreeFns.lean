/-
  LossesAgree and FirstOdd of both sides: what each returns.
-/
import Derived.Test.YtpgnndpjlcihiaaDoorAgree
namespace Go.Proofs.YtpgnndpjlcihiaaDoor
open Go.RowKit

theorem specLossesAgree_any (n : Int) (v : Value) (xs : List (Int × Int × Int)) (w : World) (hv : SI P3 w v xs) :
    Calls Tryd.prog 13 #[.int .i64 n, v] w fun e w' => e = .returned (.tuple #[.bool (valAgree n xs).1, .int .i64 (valAgree n xs).2]) ∧ Below w.heap.size w w' := by
  have HV := Lib.hid hv
  have C1 := l15Ok_any n v xs w hv
  clear hv
  cases h1 : okLosses n xs with
  | false =>
    rw [h1] at C1
    have D1 := Lib.hid C1
    have HE := Lib.hid (show valAgree n xs = (false, 1) by simp [valAgree, h1])
    clear C1 h1
    go_enter Tryd.func13, Tryd.ntmps13
    go_wp2_with (go_at_call 41; refine D1.out.mono ?_; rintro e w1 ⟨rfl, hb1⟩)
    go_ret2
    exact ⟨by rw [HE.out]; rfl, hb1⟩
  | true =>
    rw [h1] at C1
    have D1 := Lib.hid C1
    have hn := okLosses_n h1
    obtain ⟨s, rfl⟩ : ∃ s : Nat, n = s := ⟨n.toNat, by omega⟩
    have HX := Lib.hid (show fitT s xs from fitT_of h1)
    have HE := Lib.hid (show valAgree s xs = (okA s openT xs, 0) by simp [valAgree, h1])
    have C2 := fun u W h3 h4 => tableOpen_any s v xs u W (by omega) (by omega) h3 HX.out h4
    generalize okA s openT xs = r at C2 HE
    have D2 := Lib.hid C2
    clear C1 C2 h1
    go_enter Tryd.func13, Tryd.ntmps13
    go_wp2_with (first
      | (go_at_call 42; refine (D2.out _ _ (HV.out.below (bthen hb1 hb2)) ho.ri).mono ?_; rintro e w3 ⟨v3, rfl, hb3, _⟩)
      | (go_at_call 43; refine (l15Open_any s _ (by omega) (by omega)).mono ?_; rintro e w2 ⟨u2, rfl, ho, hb2⟩)
      | (go_at_call 41; refine D1.out.mono ?_; rintro e w1 ⟨rfl, hb1⟩))
    go_ret2
    exact ⟨by rw [HE.out]; rfl, bthen (bthen hb1 hb2) hb3⟩

theorem implLossesAgree_any (n : Int) (v : Value) (xs : List (Int × Int × Int)) (w : World) (hv : SI P3 w v xs) :
    Calls Tryd.prog 12 #[.int .i64 n, v] w fun e w' => e = .returned (.tuple #[.bool (valAgree n xs).1, .int .i64 (valAgree n xs).2]) ∧ Below w.heap.size w w' := by
  have HV := Lib.hid hv
  have C1 := implValidLosses_any n v xs w hv
  clear hv
  cases h1 : okLosses n xs with
  | false =>
    rw [h1] at C1
    have D1 := Lib.hid C1
    have HE := Lib.hid (show valAgree n xs = (false, 1) by simp [valAgree, h1])
    clear C1 h1
    go_enter Tryd.func12, Tryd.ntmps12
    go_wp2_with (go_at_call 27; refine D1.out.mono ?_; rintro e w1 ⟨rfl, hb1⟩)
    go_ret2
    exact ⟨by rw [HE.out]; rfl, hb1⟩
  | true =>
    rw [h1] at C1
    have D1 := Lib.hid C1
    have hn := okLosses_n h1
    obtain ⟨s, rfl⟩ : ∃ s : Nat, n = s := ⟨n.toNat, by omega⟩
    have HX := Lib.hid (show fitT s xs from fitT_of h1)
    have HE := Lib.hid (show valAgree s xs = (okA s openT xs, 0) by simp [valAgree, h1])
    have C2 := fun W h3 => agree_any s v xs W (by omega) (by omega) h3 HX.out
    generalize okA s openT xs = r at C2 HE
    have D2 := Lib.hid C2
    clear C1 C2 h1
    go_enter Tryd.func12, Tryd.ntmps12
    go_wp2_with (first
      | (go_at_call 40; refine (D2.out _ (HV.out.below hb1)).mono ?_; rintro e w2 ⟨rfl, hb2⟩)
      | (go_at_call 27; refine D1.out.mono ?_; rintro e w1 ⟨rfl, hb1⟩))
    go_ret2
    exact ⟨by rw [HE.out]; rfl, bthen hb1 hb2⟩

end Go.Proofs.YtpgnndpjlcihiaaDoor
