/-
  ValidLosses of the reference and of the program: what each returns.
-/
import Derived.Test.YtpgnndpjlcihiaaDoorLossOne
import Derived.Test.YtpgnndpjlcihiaaDoorLossInfo
import Derived.Test.YtpgnndpjlcihiaaDoorSlicesLoss
import Derived.Deep.QuietTactic
import Derived.BigQuiet
import Derived.IntWalk
namespace Go.Proofs.YtpgnndpjlcihiaaDoor
open Go.RowKit

def okLosses (n : Int) (xs : List (Int × Int × Int)) : Bool := inB 1 9 n && xs.all (okLoss n) && decide (xs.length ≤ 20)

theorem l15Ok_any (n : Int) (v : Value) (xs : List (Int × Int × Int)) (w : World) (hv : SI P3 w v xs) :
    Calls Tryd.prog 41 #[.int .i64 n, v] w fun e w' => e = .returned (.bool (okLosses n xs)) ∧ Below w.heap.size w w' := by
  obtain ⟨a, cap, rfl⟩ := hv.shape
  have hl := hv.len
  have HV := Lib.hid hv
  clear hv
  cases hd : inB 1 9 n with
  | false =>
    go_enter Tryd.func41, Tryd.ntmps41
    go_wp2_with (go_at_call 52; refine (l00In_any _ _ _ _).mono ?_; rintro e w' ⟨rfl, rfl⟩; rw [hd])
    go_ret
    exact ⟨ret_bool (by simp [okLosses, hd]), Below.refl _ _⟩
  | true =>
    have HD := Lib.hid hd
    have hn : 1 ≤ n ∧ n ≤ 9 := by simpa [inB] using hd
    go_enter Tryd.func41, Tryd.ntmps41
    go_wp2_with (go_at_call 52; refine (l00In_any _ _ _ _).mono ?_; rintro e w' ⟨rfl, rfl⟩; rw [hd])
    clear hd
    go_loopw [5] (fun i wr => ∃ k : Nat, k ≤ xs.length ∧ i = .int .i64 k ∧ Below w.heap.size w wr ∧ (xs.take k).all (okLoss n) = true) (fun i _ => xs.length - (intOf i).toNat)
    case atStart => exact ⟨0, Nat.zero_le _, rfl, Below.refl _ _, rfl⟩
    case round =>
      obtain ⟨k, hk, rfl, hw, hall⟩ := hrel
      have HA := Lib.hid hall
      clear hall
      by_cases hlt : k < xs.length
      · obtain ⟨b, off, rfl, hb, hc⟩ := HV.out.cells3 (by omega)
        obtain ⟨g1, g2, g3⟩ := hc k hlt
        replace g1 := (hw.cell (p := ⟨b, off + k * 3, none⟩) hb).trans g1
        replace g2 := (hw.cell (p := ⟨b, off + k * 3 + 1, none⟩) hb).trans g2
        replace g3 := (hw.cell (p := ⟨b, off + k * 3 + 2, none⟩) hb).trans g3
        clear hc
        have S1 := take_snocG (0, 0, 0) xs k hlt
        have hmem : xs.getD k (0, 0, 0) ∈ xs := by simp only [List.getD, List.getElem?_eq_getElem hlt, Option.getD_some]; exact List.getElem_mem hlt
        generalize xs.getD k (0, 0, 0) = p at g1 g2 g3 S1 hmem
        obtain ⟨x, y, z⟩ := p
        simp only at g1 g2 g3
        have HS := Lib.hid S1
        have HM := Lib.hid hmem
        have C1 := l15One_any n x y z b (off + k * 3) wr hn g1 g2 g3
        clear S1 hmem g1 g2 g3
        cases h1 : okLoss n (x, y, z) with
        | false =>
          rw [h1] at C1
          have D1 := Lib.hid C1
          have HN := Lib.hid (show okLosses n xs = false by
            have : xs.all (okLoss n) = false := by rw [List.all_eq_false]; exact ⟨_, HM.out, by simp [h1]⟩
            simp [okLosses, this])
          clear C1 h1
          go_wp2_with (go_at_call 30; refine D1.out.mono ?_; rintro e w2 ⟨rfl, hb2⟩)
          go_ret
          exact ⟨ret_bool HN.out.symm, bthen hw hb2⟩
        | true =>
          rw [h1] at C1
          have D1 := Lib.hid C1
          have HY := Lib.hid h1
          clear C1 h1
          go_wp2_with (go_at_call 30; refine D1.out.mono ?_; rintro e w2 ⟨rfl, hb2⟩)
          go_roundw
          case rel => exact ⟨k + 1, by omega, by go_num, bthen hw hb2, by rw [HS.out, List.all_append, HA.out]; simp [HY.out]⟩
          case measure => simp [intOf]; omega
      · go_wp2
        go_ret
        refine ⟨ret_bool ?_, hw⟩
        have h1 := HA.out
        rw [List.take_of_length_le (by omega)] at h1
        simp [okLosses, h1, HD.out]
        omega

theorem specValidLosses_any (n : Int) (v : Value) (xs : List (Int × Int × Int)) (w : World) (hv : SI P3 w v xs) :
    Calls Tryd.prog 28 #[.int .i64 n, v] w fun e w' => e = .returned (.bool (okLosses n xs)) ∧ Below w.heap.size w w' := by
  have HV := Lib.hid hv
  clear hv
  go_enter Tryd.func28, Tryd.ntmps28
  go_wp2_with fail
  refine (l15Ok_any n v xs _ HV.out).mono ?_
  rintro e w' ⟨rfl, hb⟩
  go_wp2
  go_ret
  exact ⟨rfl, hb⟩

theorem validLosses_enters : ∀ args w, (callFunc 59 args).run Tryd.prog w = .ok (.enter 59 args) w := enters_of Tryd.func59 (by kernel_rfl) rfl

theorem validLosses1_any (n x y z : Int) (b1 : Nat) (w : World) (h : w.cell? ⟨b1, 0, none⟩ = some (.int .i64 n)) (hb1 : b1 < w.heap.size) :
    Calls Tryd.prog 59 #[.agg #[.int .i64 x, .int .i64 y, .int .i64 z], .pointer (some ⟨b1, 0, none⟩)] w fun e w' => e = .returned (.bool (!okLoss n (x, y, z))) ∧ Below w.heap.size w w' := by
  have hb : ∀ o : Obj, Below w.heap.size w (w.alloc o) := fun o => (Below.refl _ _).alloc (Nat.le_refl _) _
  go_enter Tryd.func59, Tryd.ntmps59
  go_wp2_with (go_at_call 32; refine (isLoss_any _ _ _ _ _).mono ?_; rintro e w' ⟨rfl, hb'⟩)
  go_ret
  exact ⟨rfl, bthen (hb _) hb'⟩

theorem okLosses_eq (n : Int) (xs : List (Int × Int × Int)) : (decide (xs.length ≤ 20) && !(xs.any fun t => !okLoss n t)) = (xs.all (okLoss n) && decide (xs.length ≤ 20)) := by
  rw [Bool.and_comm]
  congr 1
  induction xs with
  | nil => rfl
  | cons x xs ih => simp [List.all_cons, List.any_cons, ← ih]

theorem implValidLosses_any (n : Int) (v : Value) (xs : List (Int × Int × Int)) (w : World) (hv : SI P3 w v xs) :
    Calls Tryd.prog 27 #[.int .i64 n, v] w fun e w' => e = .returned (.bool (okLosses n xs)) ∧ Below w.heap.size w w' := by
  obtain ⟨a, cap, rfl⟩ := hv.shape
  have hl := hv.len
  have HV := Lib.hid hv
  have HE := Lib.hid (okLosses_eq n xs)
  clear hv
  have hmf : ∀ (fn : Fn) (first cap : Array Value) (w : World), (Instr.makeFunc fn first cap).run Tryd.prog w = .ok (.func fn first cap) w := fun _ _ _ _ => rfl
  have hb : ∀ o : Obj, Below w.heap.size w (w.alloc o) := fun o => (Below.refl _ _).alloc (Nat.le_refl _) _
  cases hd : inB 1 9 n with
  | false =>
    go_enter Tryd.func27, Tryd.ntmps27
    go_wp2_with (go_at_call 58; refine (within_any _ _ _ _).mono ?_; rintro e w' ⟨rfl, rfl⟩; rw [hd])
    go_ret
    exact ⟨ret_bool (by simp [okLosses, hd]), hb _⟩
  | true =>
    have HD := Lib.hid hd
    by_cases h16 : xs.length ≤ 20
    · go_enter Tryd.func27, Tryd.ntmps27
      go_wp2_with (go_at_call 58; refine (within_any _ _ _ _).mono ?_; rintro e w' ⟨rfl, rfl⟩; rw [hd])
      have B1 := hb (.cells #[.int .i64 n] 2)
      refine (containsLoss_any 59 _ (fun t => !okLoss n t) _ xs _ validLosses_enters ?_ (HV.out.below B1)).mono ?_
      · intro W x y z hW _ _ _ _
        refine (validLosses1_any n x y z _ W ?_ ?_).mono fun e w' ⟨he, hb'⟩ => ⟨he, bthen hW hb'⟩
        · refine (hW.cell (p := ⟨w.heap.size, 0, none⟩) (by simp)).trans ?_
          rw [World.cell?_alloc_at _ _ _ _ rfl]; rfl
        · exact Nat.lt_of_lt_of_le (by simp) hW.size
      · rintro e w' ⟨rfl, hb'⟩
        go_wp2
        go_ret
        refine ⟨ret_bool ?_, bthen B1 hb'⟩
        have := HE.out
        simp [h16] at this
        simp [okLosses, HD.out, h16, ← this]
    · have hd2 : decide ((xs.length : Int) ≤ 20) = false := by simp; omega
      go_enter Tryd.func27, Tryd.ntmps27
      go_wp2_with (go_at_call 58; refine (within_any _ _ _ _).mono ?_; rintro e w' ⟨rfl, rfl⟩; rw [hd])
      go_ret
      exact ⟨ret_bool (by simp [okLosses, h16]), hb _⟩

end Go.Proofs.YtpgnndpjlcihiaaDoor
