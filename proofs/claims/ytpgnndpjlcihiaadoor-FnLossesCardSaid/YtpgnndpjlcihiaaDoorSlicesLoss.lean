/-
  The library's IndexFunc and ContainsFunc at lists of records of type Loss, for every predicate that leaves old memory as it was.
-/
import Derived.Test.YtpgnndpjlcihiaaDoorIn
import Derived.Test.YtpgnndpjlcihiaaDoorRec3
import Derived.Shelf.Abstract
namespace Go.Proofs.YtpgnndpjlcihiaaDoor
open Go.RowKit

/-- Function g, with the captured values lb, is the predicate p in every world in which all that lay in w lies unturned. -/
def PredLoss (g : Nat) (lb : Array Value) (p : Int × Int × Int → Bool) (w : World) (xs : List (Int × Int × Int)) : Prop :=
  ∀ (W : World) (x y z : Int), Below w.heap.size w W → (x, y, z) ∈ xs → Good x → Good y → Good z → Calls Tryd.prog g (#[.agg #[.int .i64 x, .int .i64 y, .int .i64 z]] ++ lb) W fun e w' => e = .returned (.bool (p (x, y, z))) ∧ Below w.heap.size w w'

/-- The first place of a list at which p holds; -1 if there is none. -/
def idxLoss (p : Int × Int × Int → Bool) (xs : List (Int × Int × Int)) : Int := match xs.findIdx? p with | some i => (i : Int) | none => -1

theorem idxLoss_hit (p : Int × Int × Int → Bool) (xs : List (Int × Int × Int)) (k : Nat) (hk : k < xs.length) (hp : p (xs.getD k (0, 0, 0)) = true) (hn : ∀ j, j < k → p (xs.getD j (0, 0, 0)) = false) : idxLoss p xs = k := by
  have : xs.findIdx? p = some k := by
    rw [List.findIdx?_eq_some_iff_getElem]
    refine ⟨hk, by simpa [List.getD, hk] using hp, fun j hj => ?_⟩
    have := hn j hj
    simpa [List.getD, Nat.lt_trans hj hk] using this
  simp [idxLoss, this]

theorem idxLoss_miss (p : Int × Int × Int → Bool) (xs : List (Int × Int × Int)) (hn : ∀ j, j < xs.length → p (xs.getD j (0, 0, 0)) = false) : idxLoss p xs = -1 := by
  have : xs.findIdx? p = none := by
    rw [List.findIdx?_eq_none_iff]
    intro x hx
    obtain ⟨j, hj, rfl⟩ := List.getElem_of_mem hx
    have := hn j hj
    simpa only [List.getD, List.getElem?_eq_getElem hj, Option.getD_some] using this
  simp [idxLoss, this]

theorem idxLoss_any (p : Int × Int × Int → Bool) (xs : List (Int × Int × Int)) : decide (0 ≤ idxLoss p xs) = xs.any p := by
  unfold idxLoss
  cases h : xs.findIdx? p with
  | none =>
    rw [List.findIdx?_eq_none_iff] at h
    have : xs.any p = false := by rw [List.any_eq_false]; intro x hx; simp [h x hx]
    simp [this]
  | some i =>
    rw [List.findIdx?_eq_some_iff_getElem] at h
    obtain ⟨hi, hp, _⟩ := h
    have : xs.any p = true := by rw [List.any_eq_true]; exact ⟨_, List.getElem_mem hi, hp⟩
    simp [this]

theorem indexLoss_any (g : Nat) (lb : Array Value) (p : Int × Int × Int → Bool) (v : Value) (xs : List (Int × Int × Int)) (w : World) (eg : ∀ args w, (callFunc g args).run Tryd.prog w = .ok (.enter g args) w) (hp : PredLoss g lb p w xs) (hv : SI P3 w v xs) :
    Calls Tryd.prog 67 #[v, .func (.func g) #[] lb] w fun e w' => e = .returned (.int .i64 (idxLoss p xs)) ∧ Below w.heap.size w w' := by
  obtain ⟨a, cap, rfl⟩ := hv.shape
  have hl := hv.len
  have HV := Lib.hid hv
  have HP := Lib.hid hp
  clear hv hp
  go_enter Tryd.func67, Tryd.ntmps67
  go_wp2
  go_loopw [5, 8] (fun _ i wr => ∃ k : Nat, k ≤ xs.length ∧ i = .int .i64 k ∧ Below w.heap.size w wr ∧ ∀ j, j < k → p (xs.getD j (0, 0, 0)) = false) (fun _ i _ => xs.length - (intOf i).toNat)
  case atStart => exact ⟨0, Nat.zero_le _, rfl, Below.refl _ _, fun j hj => absurd hj (Nat.not_lt_zero _)⟩
  case round =>
    obtain ⟨k, hk, rfl, hb, hno⟩ := hrel
    have HNO := Lib.hid hno
    clear hno
    by_cases hlt : k < xs.length
    · obtain ⟨b, off, rfl, hbl, hc⟩ := HV.out.cells3 (by omega)
      have g1 := (hb.cell (p := ⟨b, off + k * 3, none⟩) hbl).trans (hc k hlt).1
      have g2 := (hb.cell (p := ⟨b, off + k * 3 + 1, none⟩) hbl).trans (hc k hlt).2.1
      have g3 := (hb.cell (p := ⟨b, off + k * 3 + 2, none⟩) hbl).trans (hc k hlt).2.2
      have hmem : ((xs.getD k (0, 0, 0)).1, (xs.getD k (0, 0, 0)).2.1, (xs.getD k (0, 0, 0)).2.2) ∈ xs := by simp only [List.getD, List.getElem?_eq_getElem hlt, Option.getD_some]; exact List.getElem_mem hlt
      have HC := HP.out wr _ _ _ hb hmem (HV.out.good3 k hlt).1 (HV.out.good3 k hlt).2.1 (HV.out.good3 k hlt).2.2
      clear hmem
      clear hc
      generalize hy : xs.getD k (0, 0, 0) = y at g1 g2 g3 HC
      have HY := Lib.hid hy
      clear hy
      obtain ⟨y, z, z'⟩ := y
      simp only at g1 g2 g3 HC
      cases hq : p (y, z, z') with
      | true =>
        rw [hq] at HC
        have HC' := Lib.hid HC
        have HQ := Lib.hid hq
        clear HC hq
        go_wp2_with (go_at_fn g; refine HC'.out.mono ?_; rintro e w' ⟨rfl, hb'⟩)
        go_ret
        exact ⟨ret_int (idxLoss_hit p xs k hlt (by rw [HY.out]; exact HQ.out) HNO.out).symm, hb'⟩
      | false =>
        rw [hq] at HC
        have HC' := Lib.hid HC
        have HQ := Lib.hid hq
        clear HC hq
        go_wp2_with (go_at_fn g; refine HC'.out.mono ?_; rintro e w' ⟨rfl, hb'⟩)
        go_roundw
        case rel =>
          refine ⟨k + 1, by omega, by go_num, hb', fun j hj => ?_⟩
          by_cases e : j = k
          · subst e; rw [HY.out]; exact HQ.out
          · exact HNO.out j (by omega)
        case measure => simp [intOf]; omega
    · go_wp2
      go_ret
      exact ⟨ret_int (idxLoss_miss p xs (fun j hj => HNO.out j (by omega))).symm, hb⟩

theorem containsLoss_any (g : Nat) (lb : Array Value) (p : Int × Int × Int → Bool) (v : Value) (xs : List (Int × Int × Int)) (w : World) (eg : ∀ args w, (callFunc g args).run Tryd.prog w = .ok (.enter g args) w) (hp : PredLoss g lb p w xs) (hv : SI P3 w v xs) :
    Calls Tryd.prog 49 #[v, .func (.func g) #[] lb] w fun e w' => e = .returned (.bool (xs.any p)) ∧ Below w.heap.size w w' := by
  have HA := Lib.hid (idxLoss_any p xs)
  have HV := Lib.hid hv
  have HP := Lib.hid hp
  clear hv hp
  go_enter Tryd.func49, Tryd.ntmps49
  go_wp2_with (go_at_call 67; refine (indexLoss_any g lb p v xs _ eg HP.out HV.out).mono ?_; rintro e w' ⟨rfl, hb'⟩)
  go_ret
  exact ⟨ret_bool HA.out, hb'⟩

end Go.Proofs.YtpgnndpjlcihiaaDoor
