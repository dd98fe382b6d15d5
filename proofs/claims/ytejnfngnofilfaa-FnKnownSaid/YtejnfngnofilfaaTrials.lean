/-
  ValidTrials of the reference and of the program: what each returns.
-/
import Derived.Test.YtejnfngnofilfaaStuck
import Derived.Test.YtejnfngnofilfaaSlicesTrial
namespace Go.Proofs.Ytejnfngnofilfaa
open Go.RowKit

def okTrial (d : Int) (t : Int × Int) : Bool := inB 0 (ex d - 1) t.1 && inB 0 (ex d - 1) t.2
def okTrials (d : Int) (xs : List (Int × Int)) : Bool := inB 1 4 d && xs.all (okTrial d) && decide (xs.length ≤ 16)

theorem l18Trials_any (d : Int) (v : Value) (xs : List (Int × Int)) (w : World) (hv : SI P2 w v xs) :
    Calls Try.prog 68 #[.int .i64 d, v] w fun e w' => e = .returned (.bool (okTrials d xs)) ∧ Below w.heap.size w w' := by
  obtain ⟨a, cap, rfl⟩ := hv.shape
  have hl := hv.len
  have HV := Lib.hid hv
  clear hv
  cases hd : inB 1 4 d with
  | false =>
    go_enter Try.func68, Try.ntmps68
    go_wp2_with (go_at_call 63; refine (l18Depth_any _ _).mono ?_; rintro e w' ⟨rfl, rfl⟩)
    go_ret
    exact ⟨ret_bool (by simp [okTrials, hd]), Below.refl _ _⟩
  | true =>
    have HD := Lib.hid hd
    go_enter Try.func68, Try.ntmps68
    go_wp2_with (go_at_call 63; refine (l18Depth_any _ _).mono ?_; rintro e w' ⟨rfl, rfl⟩)
    clear hd
    go_loop [4, 5] (fun r i => ∃ k : Nat, k ≤ xs.length ∧ r = .bool false ∧ i = .int .i64 k ∧ (xs.take k).all (okTrial d) = true) (fun _ i => xs.length - (intOf i).toNat)
    case atStart => exact ⟨0, Nat.zero_le _, rfl, rfl, rfl⟩
    case round =>
      obtain ⟨k, hk, rfl, rfl, hall⟩ := hrel
      have HA := Lib.hid hall
      clear hall
      by_cases hlt : k < xs.length
      · obtain ⟨b, off, rfl, hb, hc⟩ := HV.out.cells2 (by omega)
        obtain ⟨g1, g2⟩ := hc k hlt
        clear hc
        have S1 := take_snocG (0, 0) xs k hlt
        have hmem : xs.getD k (0, 0) ∈ xs := by simp only [List.getD, List.getElem?_eq_getElem hlt, Option.getD_some]; exact List.getElem_mem hlt
        generalize xs.getD k (0, 0) = p at g1 g2 S1 hmem
        obtain ⟨x, y⟩ := p
        simp only at g1 g2
        have HS := Lib.hid S1
        have HM := Lib.hid hmem
        clear S1 hmem
        have hno : okTrial d (x, y) = false → okTrials d xs = false := fun h => by
          have : xs.all (okTrial d) = false := by rw [List.all_eq_false]; exact ⟨_, HM.out, by simp [h]⟩
          simp [okTrials, this]
        cases h1 : inB 0 (ex d - 1) x with
        | false =>
          have HN := Lib.hid (hno (by simp [okTrial, h1]))
          clear hno
          go_wp2_with (go_at_call 64; refine (l18Exit_any _ _ _ HD.out).mono ?_; rintro e w' ⟨rfl, rfl⟩; try rw [h1])
          go_ret
          exact ⟨ret_bool HN.out.symm, Below.refl _ _⟩
        | true =>
          cases h2 : inB 0 (ex d - 1) y with
          | false =>
            have HN := Lib.hid (hno (by simp [okTrial, h2]))
            clear hno
            go_wp2_with (go_at_call 64; refine (l18Exit_any _ _ _ HD.out).mono ?_; rintro e w' ⟨rfl, rfl⟩; first | rw [h1] | rw [h2])
            go_ret
            exact ⟨ret_bool HN.out.symm, Below.refl _ _⟩
          | true =>
            have hy : okTrial d (x, y) = true := by simp [okTrial, h1, h2]
            have HY := Lib.hid hy
            clear hno hy
            go_wp2_with (go_at_call 64; refine (l18Exit_any _ _ _ HD.out).mono ?_; rintro e w' ⟨rfl, rfl⟩; first | rw [h1] | rw [h2])
            go_round
            case rel => exact ⟨k + 1, by omega, rfl, by go_num, by rw [HS.out, List.all_append, HA.out]; simp [HY.out]⟩
            case measure => simp [intOf]; omega
      · go_wp2
        go_ret
        refine ⟨ret_bool ?_, Below.refl _ _⟩
        have h1 := HA.out
        rw [List.take_of_length_le (by omega)] at h1
        simp [okTrials, h1, HD.out]
        omega

theorem specValidTrials_any (d : Int) (v : Value) (xs : List (Int × Int)) (w : World) (hv : SI P2 w v xs) :
    Calls Try.prog 27 #[.int .i64 d, v] w fun e w' => e = .returned (.bool (okTrials d xs)) ∧ Below w.heap.size w w' := by
  have HV := Lib.hid hv
  clear hv
  go_enter Try.func27, Try.ntmps27
  go_wp2_with fail
  refine (l18Trials_any d v xs _ HV.out).mono ?_
  rintro e w' ⟨rfl, hb⟩
  go_wp2
  go_ret
  exact ⟨rfl, hb⟩

theorem validTrials_enters : ∀ args w, (callFunc 71 args).run Try.prog w = .ok (.enter 71 args) w := enters_of Try.func71 (by kernel_rfl) rfl

theorem validTrials1_any (d x y : Int) (b1 : Nat) (w : World) (h : w.cell? ⟨b1, 0, none⟩ = some (.int .i64 d)) (hb1 : b1 < w.heap.size) (hd : inB 1 4 d = true) :
    Calls Try.prog 71 #[.agg #[.int .i64 x, .int .i64 y], .pointer (some ⟨b1, 0, none⟩)] w fun e w' => e = .returned (.bool (!okTrial d (x, y))) ∧ Below w.heap.size w w' := by
  have HD := Lib.hid hd
  clear hd
  have hb : ∀ o : Obj, Below w.heap.size w (w.alloc o) := fun o => (Below.refl _ _).alloc (Nat.le_refl _) _
  cases h1 : inB 0 (ex d - 1) x with
  | false =>
    go_enter Try.func71, Try.ntmps71
    go_wp2_with (go_at_call 66; refine (isExit_any _ _ _ HD.out).mono ?_; rintro e w' ⟨rfl, rfl⟩; rw [h1])
    go_ret
    exact ⟨ret_bool (by simp [okTrial, h1]), hb _⟩
  | true =>
    go_enter Try.func71, Try.ntmps71
    go_wp2_with (go_at_call 66; refine (isExit_any _ _ _ HD.out).mono ?_; rintro e w' ⟨rfl, rfl⟩; try rw [h1])
    go_ret
    exact ⟨ret_bool (by simp [okTrial, h1]), hb _⟩

theorem okTrials_eq (d : Int) (xs : List (Int × Int)) : (decide (xs.length ≤ 16) && !(xs.any fun t => !okTrial d t)) = (xs.all (okTrial d) && decide (xs.length ≤ 16)) := by
  rw [Bool.and_comm]
  congr 1
  induction xs with
  | nil => rfl
  | cons x xs ih => simp [List.all_cons, List.any_cons, ← ih]

theorem implValidTrials_any (d : Int) (v : Value) (xs : List (Int × Int)) (w : World) (hv : SI P2 w v xs) :
    Calls Try.prog 29 #[.int .i64 d, v] w fun e w' => e = .returned (.bool (okTrials d xs)) ∧ Below w.heap.size w w' := by
  obtain ⟨a, cap, rfl⟩ := hv.shape
  have hl := hv.len
  have HV := Lib.hid hv
  have HE := Lib.hid (okTrials_eq d xs)
  clear hv
  have hmf : ∀ (fn : Fn) (first cap : Array Value) (w : World), (Instr.makeFunc fn first cap).run Try.prog w = .ok (.func fn first cap) w := fun _ _ _ _ => rfl
  have hb : ∀ o : Obj, Below w.heap.size w (w.alloc o) := fun o => (Below.refl _ _).alloc (Nat.le_refl _) _
  cases hd : inB 1 4 d with
  | false =>
    go_enter Try.func29, Try.ntmps29
    go_wp2_with (go_at_call 60; refine (isDepth_any _ _).mono ?_; rintro e w' ⟨rfl, rfl⟩; rw [hd])
    go_ret
    exact ⟨ret_bool (by simp [okTrials, hd]), hb _⟩
  | true =>
    have HD := Lib.hid hd
    by_cases h16 : xs.length ≤ 16
    · go_enter Try.func29, Try.ntmps29
      go_wp2_with (go_at_call 60; refine (isDepth_any _ _).mono ?_; rintro e w' ⟨rfl, rfl⟩; rw [hd])
      have B1 := hb (.cells #[.int .i64 d] 2)
      refine (containsTrial_any 71 _ (fun t => !okTrial d t) _ xs _ validTrials_enters ?_ (HV.out.below B1)).mono ?_
      · intro W x y hW _ _ _
        refine (validTrials1_any d x y _ W ?_ ?_ HD.out).mono fun e w' ⟨he, hb'⟩ => ⟨he, bthen hW hb'⟩
        · refine (hW.cell (p := ⟨w.heap.size, 0, none⟩) (by simp)).trans ?_
          rw [World.cell?_alloc_at _ _ _ _ rfl]; rfl
        · exact Nat.lt_of_lt_of_le (by simp) hW.size
      · rintro e w' ⟨rfl, hb'⟩
        go_wp2
        go_ret
        refine ⟨ret_bool ?_, bthen B1 hb'⟩
        have := HE.out
        simp [h16] at this
        simp [okTrials, HD.out, h16, ← this]
    · have hd2 : decide ((xs.length : Int) ≤ 16) = false := by simp; omega
      go_enter Try.func29, Try.ntmps29
      go_wp2_with (go_at_call 60; refine (isDepth_any _ _).mono ?_; rintro e w' ⟨rfl, rfl⟩; rw [hd])
      go_ret
      exact ⟨ret_bool (by simp [okTrials, h16]), hb _⟩

end Go.Proofs.Ytejnfngnofilfaa
