/-
  ValidPoints of the reference and of the program: what each returns.
-/
import Derived.Test.YtjpihhioaccgbaaRecPoint
import Derived.Test.YtjpihhioaccgbaaSlicesPoint
namespace Go.Proofs.Ytjpihhioaccgbaa
open Go.RowKit

def okPoint (p : Int × Int) : Bool := inB 1 1000 p.1 && inB 0 100000 p.2
def okPoints (xs : List (Int × Int)) : Bool := xs.all okPoint && decide (xs.length ≤ 30)

theorem l19Ok_any (v : Value) (xs : List (Int × Int)) (w : World) (hv : SI P2 w v xs) :
    Calls Try.prog 24 #[v] w fun e w' => e = .returned (.bool (okPoints xs)) ∧ Below w.heap.size w w' := by
  obtain ⟨a, cap, rfl⟩ := hv.shape
  have hl := hv.len
  have HV := Lib.hid hv
  clear hv
  go_enter Try.func24, Try.ntmps24
  go_wp2_with fail
  go_loop [2, 3] (fun r i => ∃ k : Nat, k ≤ xs.length ∧ r = .bool false ∧ i = .int .i64 k ∧ (xs.take k).all okPoint = true) (fun _ i => xs.length - (intOf i).toNat)
  case atStart => exact ⟨0, Nat.zero_le _, rfl, rfl, rfl⟩
  case round =>
    obtain ⟨k, hk, rfl, rfl, hall⟩ := hrel
    have HA := Lib.hid hall
    clear hall
    by_cases hlt : k < xs.length
    · obtain ⟨b, off, rfl, hb, hc⟩ := HV.out.cells2 (by omega)
      obtain ⟨g1, g2⟩ := hc k hlt
      clear hc
      have S1 := take_snocG (0, 0) xs k hlt
      have hmem : xs.getD k (0, 0) ∈ xs := by simp only [List.getD, List.getElem?_eq_getElem hlt, Option.getD_some]; exact List.getElem_mem hlt
      generalize xs.getD k (0, 0) = p at g1 g2 S1 hmem
      obtain ⟨x, y⟩ := p
      simp only at g1 g2
      have HS := Lib.hid S1
      have HM := Lib.hid hmem
      clear S1 hmem
      have hno : okPoint (x, y) = false → okPoints xs = false := fun h => by
        have : xs.all okPoint = false := by rw [List.all_eq_false]; exact ⟨_, HM.out, by simp [h]⟩
        simp [okPoints, this]
      cases h1 : inB 1 1000 x with
      | false =>
        have HN := Lib.hid (hno (by simp [okPoint, h1]))
        clear hno
        go_wp2_with (go_at_call 28; refine (l00In_any _ _ _ _).mono ?_; rintro e w' ⟨rfl, rfl⟩; rw [h1])
        go_ret
        exact ⟨ret_bool HN.out.symm, Below.refl _ _⟩
      | true =>
        cases h2 : inB 0 100000 y with
        | false =>
          have HN := Lib.hid (hno (by simp [okPoint, h2]))
          clear hno
          go_wp2_with (go_at_call 28; refine (l00In_any _ _ _ _).mono ?_; rintro e w' ⟨rfl, rfl⟩; first | rw [h1] | rw [h2])
          go_ret
          exact ⟨ret_bool HN.out.symm, Below.refl _ _⟩
        | true =>
          have hy : okPoint (x, y) = true := by simp [okPoint, h1, h2]
          have HY := Lib.hid hy
          clear hno hy
          go_wp2_with (go_at_call 28; refine (l00In_any _ _ _ _).mono ?_; rintro e w' ⟨rfl, rfl⟩; first | rw [h1] | rw [h2])
          go_round
          case rel => exact ⟨k + 1, by omega, rfl, by go_num, by rw [HS.out, List.all_append, HA.out]; simp [HY.out]⟩
          case measure => simp [intOf]; omega
    · go_wp2
      go_ret
      refine ⟨ret_bool ?_, Below.refl _ _⟩
      have h1 := HA.out
      rw [List.take_of_length_le (by omega)] at h1
      simp [okPoints, h1]
      omega

theorem specValidPoints_any (v : Value) (xs : List (Int × Int)) (w : World) (hv : SI P2 w v xs) :
    Calls Try.prog 13 #[v] w fun e w' => e = .returned (.bool (okPoints xs)) ∧ Below w.heap.size w w' := by
  have HV := Lib.hid hv
  clear hv
  go_enter Try.func13, Try.ntmps13
  go_wp2_with fail
  refine (l19Ok_any v xs _ HV.out).mono ?_
  rintro e w' ⟨rfl, hb⟩
  go_wp2
  go_ret
  exact ⟨rfl, hb⟩

theorem isRoundDay_any (n : Int) (w : World) : Calls Try.prog 37 #[.int .i64 n] w fun e w' => e = .returned (.bool (inB 0 100000 n)) ∧ w = w' := by
  go_enter Try.func37, Try.ntmps37
  go_wp2_with (go_at_call 30; refine (within_any _ _ _ _).mono ?_; rintro e w' ⟨rfl, rfl⟩)
  go_ret
  exact ⟨rfl, rfl⟩

theorem validPoint_any (x y : Int) (w : World) : Calls Try.prog 27 #[.agg #[.int .i64 x, .int .i64 y]] w fun e w' => e = .returned (.bool (okPoint (x, y))) ∧ Below w.heap.size w w' := by
  have hb : ∀ o : Obj, Below w.heap.size w (w.alloc o) := fun o => (Below.refl _ _).alloc (Nat.le_refl _) _
  cases h1 : inB 1 1000 x with
  | false =>
    go_enter Try.func27, Try.ntmps27
    go_wp2_with (go_at_call 30; refine (within_any _ _ _ _).mono ?_; rintro e w' ⟨rfl, rfl⟩; rw [h1])
    go_ret
    exact ⟨ret_bool (by simp [okPoint, h1]), hb _⟩
  | true =>
    go_enter Try.func27, Try.ntmps27
    go_wp2_with (first | (go_at_call 30; refine (within_any _ _ _ _).mono ?_; rintro e w' ⟨rfl, rfl⟩; rw [h1]) | (go_at_call 37; refine (isRoundDay_any _ _).mono ?_; rintro e w' ⟨rfl, rfl⟩))
    go_ret
    exact ⟨ret_bool (by simp [okPoint, h1]), hb _⟩

theorem validPoints_enters : ∀ args w, (callFunc 26 args).run Try.prog w = .ok (.enter 26 args) w := enters_of Try.func26 (by kernel_rfl) rfl

theorem validPoints1_any (x y : Int) (w : World) :
    Calls Try.prog 26 #[.agg #[.int .i64 x, .int .i64 y]] w fun e w' => e = .returned (.bool (!okPoint (x, y))) ∧ Below w.heap.size w w' := by
  have hb : ∀ o : Obj, Below w.heap.size w (w.alloc o) := fun o => (Below.refl _ _).alloc (Nat.le_refl _) _
  go_enter Try.func26, Try.ntmps26
  go_wp2_with (go_at_call 27; refine (validPoint_any _ _ _).mono ?_; rintro e w' ⟨rfl, hb'⟩)
  go_ret
  exact ⟨rfl, bthen (hb _) hb'⟩

theorem okPoints_eq (xs : List (Int × Int)) : (decide (xs.length ≤ 30) && !(xs.any fun t => !okPoint t)) = okPoints xs := by
  rw [Bool.and_comm, okPoints]
  congr 1
  induction xs with
  | nil => rfl
  | cons x xs ih => simp [List.all_cons, List.any_cons, ← ih]

theorem implValidPoints_any (v : Value) (xs : List (Int × Int)) (w : World) (hv : SI P2 w v xs) :
    Calls Try.prog 14 #[v] w fun e w' => e = .returned (.bool (okPoints xs)) ∧ Below w.heap.size w w' := by
  obtain ⟨a, cap, rfl⟩ := hv.shape
  have hl := hv.len
  have HV := Lib.hid hv
  have HE := Lib.hid (okPoints_eq xs)
  clear hv
  have hmf : ∀ (fn : Fn) (first cap : Array Value) (w : World), (Instr.makeFunc fn first cap).run Try.prog w = .ok (.func fn first cap) w := fun _ _ _ _ => rfl
  by_cases h16 : xs.length ≤ 30
  · go_enter Try.func14, Try.ntmps14
    go_wp2_with fail
    refine (containsPoint_any 26 _ (fun t => !okPoint t) _ xs _ validPoints_enters ?_ HV.out).mono ?_
    · intro W x y hW _ _ _
      exact (validPoints1_any x y W).mono fun e w' ⟨he, hb'⟩ => ⟨he, bthen hW hb'⟩
    · rintro e w' ⟨rfl, hb'⟩
      go_wp2
      go_ret
      refine ⟨ret_bool ?_, hb'⟩
      have := HE.out
      simp [h16] at this
      simp [← this]
  · have hd2 : decide ((xs.length : Int) ≤ 30) = false := by simp; omega
    go_enter Try.func14, Try.ntmps14
    go_wp2
    go_ret
    exact ⟨ret_bool (by simp [okPoints, h16]), Below.refl _ _⟩

end Go.Proofs.Ytjpihhioaccgbaa
