/-
  ValidLosses of the reference and of the program: what each returns.
-/
import Derived.Test.YtpgnndpjlcihiaaRecLoss
import Derived.Test.YtpgnndpjlcihiaaSlicesLoss
import Derived.Deep.QuietTactic
import Derived.BigQuiet
import Derived.IntWalk
namespace Go.Proofs.Ytpgnndpjlcihiaa
open Go.RowKit

def okLoss (n : Int) (p : Int × Int × Int) : Bool := inB 0 (n - 1) p.1 && inB 1 n p.2.1 && decide (p.1 < p.2.1) && inB 0 10000 p.2.2
def okLosses (n : Int) (xs : List (Int × Int × Int)) : Bool := inB 1 9 n && xs.all (okLoss n) && decide (xs.length ≤ 20)

theorem okLoss_impl (n f t l : Int) : okLoss n (f, t, l) = (decide (0 ≤ f) && decide (f < t) && decide (t ≤ n) && inB 0 10000 l) := by
  simp only [okLoss]
  cases inB 0 10000 l
  · simp
  · simp only [Bool.and_true, inB]
    rw [Bool.eq_iff_iff]
    simp only [Bool.and_eq_true, decide_eq_true_eq]
    omega

theorem quiet_bool {P : Program} {f : FuncId} {args : Array Value} {w : World} {n : Nat} {b' b : Bool}
    (h : Calls P f args (w.drewN n) fun e w' => e = .returned (.bool b') ∧ w.drewN n = w') (hb : b' = b) : Calls P f args (w.drewN n) fun e w'' => e = .returned (.bool b) ∧ ∃ m, w'' = w.drewN m := by
  subst hb; exact quiet_eq h

theorem l15One_any (n f t l : Int) (b o : Nat) (w : World) (hn : 1 ≤ n ∧ n ≤ 9) (g1 : w.cell? ⟨b, o, none⟩ = some (.int .i64 f)) (g2 : w.cell? ⟨b, o + 1, none⟩ = some (.int .i64 t)) (g3 : w.cell? ⟨b, o + 2, none⟩ = some (.int .i64 l)) :
    Calls Try.prog 70 #[.int .i64 n, .pointer (some ⟨b, o, none⟩)] w fun e w' => e = .returned (.bool (okLoss n (f, t, l))) ∧ Below w.heap.size w w' := by
  obtain ⟨n1, n2⟩ := hn
  have hwr : IntKind.i64.wrap (n - 1) = n - 1 := IntWalk.i64_in _ (by omega)
  cases h1 : inB 0 (n - 1) f with
  | false =>
    have HE := Lib.hid (show okLoss n (f, t, l) = false by simp [okLoss, h1])
    go_enter Try.func70, Try.ntmps70
    go_wp2_with fail
    go_quiet ((go_at_call 59; exact quiet_bool (l00In_any _ _ _ _) h1))
    rename_i nq
    go_wp2
    go_ret
    exact ⟨ret_bool HE.out.symm, below_drewN' _ _⟩
  | true =>
    cases h2 : inB 1 n t with
    | false =>
      have HE := Lib.hid (show okLoss n (f, t, l) = false by simp [okLoss, h2])
      go_enter Try.func70, Try.ntmps70
      go_wp2_with fail
      go_quiet ((go_at_call 59; first | exact quiet_bool (l00In_any _ _ _ _) h1 | exact quiet_bool (l00In_any _ _ _ _) h2))
      rename_i nq
      go_wp2
      go_ret
      exact ⟨ret_bool HE.out.symm, below_drewN' _ _⟩
    | true =>
      by_cases h3 : f < t
      · have HE := Lib.hid (show okLoss n (f, t, l) = inB 0 10000 l by simp [okLoss, h1, h2, h3])
        have hd3 : decide (f < t) = true := decide_eq_true h3
        go_enter Try.func70, Try.ntmps70
        go_wp2_with fail
        go_quiet ((go_at_call 59; first | exact quiet_bool (l00In_any _ _ _ _) h1 | exact quiet_bool (l00In_any _ _ _ _) h2 | exact quiet_eq (l00In_any _ _ _ _)))
        rename_i nq
        go_wp2
        go_ret
        exact ⟨ret_bool HE.out.symm, below_drewN' _ _⟩
      · have HE := Lib.hid (show okLoss n (f, t, l) = false by simp [okLoss, h3])
        have hd3 : decide (f < t) = false := decide_eq_false h3
        go_enter Try.func70, Try.ntmps70
        go_wp2_with fail
        go_quiet ((go_at_call 59; first | exact quiet_bool (l00In_any _ _ _ _) h1 | exact quiet_bool (l00In_any _ _ _ _) h2))
        rename_i nq
        go_wp2
        go_ret
        exact ⟨ret_bool HE.out.symm, below_drewN' _ _⟩

theorem l15Ok_any (n : Int) (v : Value) (xs : List (Int × Int × Int)) (w : World) (hv : SI P3 w v xs) :
    Calls Try.prog 54 #[.int .i64 n, v] w fun e w' => e = .returned (.bool (okLosses n xs)) ∧ Below w.heap.size w w' := by
  obtain ⟨a, cap, rfl⟩ := hv.shape
  have hl := hv.len
  have HV := Lib.hid hv
  clear hv
  cases hd : inB 1 9 n with
  | false =>
    go_enter Try.func54, Try.ntmps54
    go_wp2_with (go_at_call 59; refine (l00In_any _ _ _ _).mono ?_; rintro e w' ⟨rfl, rfl⟩; rw [hd])
    go_ret
    exact ⟨ret_bool (by simp [okLosses, hd]), Below.refl _ _⟩
  | true =>
    have HD := Lib.hid hd
    have hn : 1 ≤ n ∧ n ≤ 9 := by simpa [inB] using hd
    go_enter Try.func54, Try.ntmps54
    go_wp2_with (go_at_call 59; refine (l00In_any _ _ _ _).mono ?_; rintro e w' ⟨rfl, rfl⟩; rw [hd])
    clear hd
    go_loopw [5] (fun i wr => ∃ k : Nat, k ≤ xs.length ∧ i = .int .i64 k ∧ Below w.heap.size w wr ∧ (xs.take k).all (okLoss n) = true) (fun i _ => xs.length - (intOf i).toNat)
    case atStart => exact ⟨0, Nat.zero_le _, rfl, Below.refl _ _, rfl⟩
    case round =>
      obtain ⟨k, hk, rfl, hw, hall⟩ := hrel
      have HA := Lib.hid hall
      clear hall
      by_cases hlt : k < xs.length
      · obtain ⟨b, off, rfl, hb, hc⟩ := HV.out.cells3 (by omega)
        obtain ⟨g1, g2, g3⟩ := hc k hlt
        replace g1 := (hw.cell (p := ⟨b, off + k * 3, none⟩) hb).trans g1
        replace g2 := (hw.cell (p := ⟨b, off + k * 3 + 1, none⟩) hb).trans g2
        replace g3 := (hw.cell (p := ⟨b, off + k * 3 + 2, none⟩) hb).trans g3
        clear hc
        have S1 := take_snocG (0, 0, 0) xs k hlt
        have hmem : xs.getD k (0, 0, 0) ∈ xs := by simp only [List.getD, List.getElem?_eq_getElem hlt, Option.getD_some]; exact List.getElem_mem hlt
        generalize xs.getD k (0, 0, 0) = p at g1 g2 g3 S1 hmem
        obtain ⟨x, y, z⟩ := p
        simp only at g1 g2 g3
        have HS := Lib.hid S1
        have HM := Lib.hid hmem
        have C1 := l15One_any n x y z b (off + k * 3) wr hn g1 g2 g3
        clear S1 hmem g1 g2 g3
        cases h1 : okLoss n (x, y, z) with
        | false =>
          rw [h1] at C1
          have D1 := Lib.hid C1
          have HN := Lib.hid (show okLosses n xs = false by
            have : xs.all (okLoss n) = false := by rw [List.all_eq_false]; exact ⟨_, HM.out, by simp [h1]⟩
            simp [okLosses, this])
          clear C1 h1
          go_wp2_with (go_at_call 70; refine D1.out.mono ?_; rintro e w2 ⟨rfl, hb2⟩)
          go_ret
          exact ⟨ret_bool HN.out.symm, bthen hw hb2⟩
        | true =>
          rw [h1] at C1
          have D1 := Lib.hid C1
          have HY := Lib.hid h1
          clear C1 h1
          go_wp2_with (go_at_call 70; refine D1.out.mono ?_; rintro e w2 ⟨rfl, hb2⟩)
          go_roundw
          case rel => exact ⟨k + 1, by omega, by go_num, bthen hw hb2, by rw [HS.out, List.all_append, HA.out]; simp [HY.out]⟩
          case measure => simp [intOf]; omega
      · go_wp2
        go_ret
        refine ⟨ret_bool ?_, hw⟩
        have h1 := HA.out
        rw [List.take_of_length_le (by omega)] at h1
        simp [okLosses, h1, HD.out]
        omega

theorem specValidLosses_any (n : Int) (v : Value) (xs : List (Int × Int × Int)) (w : World) (hv : SI P3 w v xs) :
    Calls Try.prog 20 #[.int .i64 n, v] w fun e w' => e = .returned (.bool (okLosses n xs)) ∧ Below w.heap.size w w' := by
  have HV := Lib.hid hv
  clear hv
  go_enter Try.func20, Try.ntmps20
  go_wp2_with fail
  refine (l15Ok_any n v xs _ HV.out).mono ?_
  rintro e w' ⟨rfl, hb⟩
  go_wp2
  go_ret
  exact ⟨rfl, hb⟩

theorem isLoss_any (n f t l : Int) (w : World) :
    Calls Try.prog 58 #[.int .i64 n, .agg #[.int .i64 f, .int .i64 t, .int .i64 l]] w fun e w' => e = .returned (.bool (okLoss n (f, t, l))) ∧ Below w.heap.size w w' := by
  rw [okLoss_impl]
  have hb : ∀ o : Obj, Below w.heap.size w (w.alloc o) := fun o => (Below.refl _ _).alloc (Nat.le_refl _) _
  by_cases h1 : 0 ≤ f
  · by_cases h2 : f < t
    · by_cases h3 : t ≤ n
      · go_enter Try.func58, Try.ntmps58
        go_wp2_with (go_at_call 55; refine (within_any _ _ _ _).mono ?_; rintro e w' ⟨rfl, rfl⟩)
        go_ret
        exact ⟨ret_bool (by simp [h1, h2, h3]), hb _⟩
      · go_enter Try.func58, Try.ntmps58
        go_wp2
        go_ret
        exact ⟨ret_bool (by rw [decide_eq_false (show ¬ t ≤ n by omega)]; simp), hb _⟩
    · go_enter Try.func58, Try.ntmps58
      go_wp2
      go_ret
      exact ⟨ret_bool (by rw [decide_eq_false (show ¬ f < t by omega)]; simp), hb _⟩
  · go_enter Try.func58, Try.ntmps58
    go_wp2
    go_ret
    exact ⟨ret_bool (by rw [decide_eq_false (show ¬ 0 ≤ f by omega)]; simp), hb _⟩

theorem validLosses_enters : ∀ args w, (callFunc 57 args).run Try.prog w = .ok (.enter 57 args) w := enters_of Try.func57 (by kernel_rfl) rfl

theorem validLosses1_any (n x y z : Int) (b1 : Nat) (w : World) (h : w.cell? ⟨b1, 0, none⟩ = some (.int .i64 n)) (hb1 : b1 < w.heap.size) :
    Calls Try.prog 57 #[.agg #[.int .i64 x, .int .i64 y, .int .i64 z], .pointer (some ⟨b1, 0, none⟩)] w fun e w' => e = .returned (.bool (!okLoss n (x, y, z))) ∧ Below w.heap.size w w' := by
  have hb : ∀ o : Obj, Below w.heap.size w (w.alloc o) := fun o => (Below.refl _ _).alloc (Nat.le_refl _) _
  go_enter Try.func57, Try.ntmps57
  go_wp2_with (go_at_call 58; refine (isLoss_any _ _ _ _ _).mono ?_; rintro e w' ⟨rfl, hb'⟩)
  go_ret
  exact ⟨rfl, bthen (hb _) hb'⟩

theorem okLosses_eq (n : Int) (xs : List (Int × Int × Int)) : (decide (xs.length ≤ 20) && !(xs.any fun t => !okLoss n t)) = (xs.all (okLoss n) && decide (xs.length ≤ 20)) := by
  rw [Bool.and_comm]
  congr 1
  induction xs with
  | nil => rfl
  | cons x xs ih => simp [List.all_cons, List.any_cons, ← ih]

theorem implValidLosses_any (n : Int) (v : Value) (xs : List (Int × Int × Int)) (w : World) (hv : SI P3 w v xs) :
    Calls Try.prog 21 #[.int .i64 n, v] w fun e w' => e = .returned (.bool (okLosses n xs)) ∧ Below w.heap.size w w' := by
  obtain ⟨a, cap, rfl⟩ := hv.shape
  have hl := hv.len
  have HV := Lib.hid hv
  have HE := Lib.hid (okLosses_eq n xs)
  clear hv
  have hmf : ∀ (fn : Fn) (first cap : Array Value) (w : World), (Instr.makeFunc fn first cap).run Try.prog w = .ok (.func fn first cap) w := fun _ _ _ _ => rfl
  have hb : ∀ o : Obj, Below w.heap.size w (w.alloc o) := fun o => (Below.refl _ _).alloc (Nat.le_refl _) _
  cases hd : inB 1 9 n with
  | false =>
    go_enter Try.func21, Try.ntmps21
    go_wp2_with (go_at_call 55; refine (within_any _ _ _ _).mono ?_; rintro e w' ⟨rfl, rfl⟩; rw [hd])
    go_ret
    exact ⟨ret_bool (by simp [okLosses, hd]), hb _⟩
  | true =>
    have HD := Lib.hid hd
    by_cases h16 : xs.length ≤ 20
    · go_enter Try.func21, Try.ntmps21
      go_wp2_with (go_at_call 55; refine (within_any _ _ _ _).mono ?_; rintro e w' ⟨rfl, rfl⟩; rw [hd])
      have B1 := hb (.cells #[.int .i64 n] 2)
      refine (containsLoss_any 57 _ (fun t => !okLoss n t) _ xs _ validLosses_enters ?_ (HV.out.below B1)).mono ?_
      · intro W x y z hW _ _ _ _
        refine (validLosses1_any n x y z _ W ?_ ?_).mono fun e w' ⟨he, hb'⟩ => ⟨he, bthen hW hb'⟩
        · refine (hW.cell (p := ⟨w.heap.size, 0, none⟩) (by simp)).trans ?_
          rw [World.cell?_alloc_at _ _ _ _ rfl]; rfl
        · exact Nat.lt_of_lt_of_le (by simp) hW.size
      · rintro e w' ⟨rfl, hb'⟩
        go_wp2
        go_ret
        refine ⟨ret_bool ?_, bthen B1 hb'⟩
        have := HE.out
        simp [h16] at this
        simp [okLosses, HD.out, h16, ← this]
    · have hd2 : decide ((xs.length : Int) ≤ 20) = false := by simp; omega
      go_enter Try.func21, Try.ntmps21
      go_wp2_with (go_at_call 55; refine (within_any _ _ _ _).mono ?_; rintro e w' ⟨rfl, rfl⟩; rw [hd])
      go_ret
      exact ⟨ret_bool (by simp [okLosses, h16]), hb _⟩

end Go.Proofs.Ytpgnndpjlcihiaa
