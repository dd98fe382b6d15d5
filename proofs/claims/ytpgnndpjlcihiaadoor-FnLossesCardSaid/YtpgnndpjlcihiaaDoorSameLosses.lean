/-
  SameLosses of the reference and of the program: what each returns.
-/
import Derived.Test.YtpgnndpjlcihiaaDoorLossInfo
import Derived.Deep.RegionWith
namespace Go.Proofs.YtpgnndpjlcihiaaDoor
open Go.RowKit

def sameLosses (xs ys : List (Int × Int × Int)) : Bool := decide (xs = ys)

theorem same_step {xs ys : List (Int × Int × Int)} {k : Nat} (hx : k < xs.length) (hy : k < ys.length) (h : xs.take k = ys.take k) (e : xs.getD k (0, 0, 0) = ys.getD k (0, 0, 0)) : xs.take (k + 1) = ys.take (k + 1) := by
  rw [take_snocG (0, 0, 0) xs k hx, take_snocG (0, 0, 0) ys k hy, h, e]
theorem same_not {xs ys : List (Int × Int × Int)} {k : Nat} (hx : k < xs.length) (hy : k < ys.length) (e : xs.getD k (0, 0, 0) ≠ ys.getD k (0, 0, 0)) : sameLosses xs ys = false := by
  simp only [sameLosses, decide_eq_false_iff_not]
  intro h
  exact e (by rw [h])
theorem same_end {xs ys : List (Int × Int × Int)} {k : Nat} (hx : ¬ k < xs.length) (hy : ¬ k < ys.length) (h : xs.take k = ys.take k) : sameLosses xs ys = true := by
  rw [List.take_of_length_le (by omega), List.take_of_length_le (by omega)] at h
  simp [sameLosses, h]
theorem same_len {xs ys : List (Int × Int × Int)} (h : xs.length ≠ ys.length) : sameLosses xs ys = false := by
  simp only [sameLosses, decide_eq_false_iff_not]
  intro e
  exact h (by rw [e])

theorem equalLosses_any (va : Value) (xs : List (Int × Int × Int)) (vb : Value) (ys : List (Int × Int × Int)) (w : World) (ha : SI P3 w va xs) (hb : SI P3 w vb ys) :
    Calls Tryd.prog 57 #[va, vb] w fun e w' => e = .returned (.bool (sameLosses xs ys)) ∧ Below w.heap.size w w' := by
  obtain ⟨a, ca, rfl⟩ := ha.shape
  obtain ⟨b, cb, rfl⟩ := hb.shape
  have la := ha.len
  have lb := hb.len
  have HA := Lib.hid ha
  have HB := Lib.hid hb
  clear ha hb
  by_cases hl : xs.length = ys.length
  · have hl1 : ((xs.length : Int) != (ys.length : Int)) = false := by rw [hl]; simp
    have HL := Lib.hid hl
    clear hl
    go_enter Tryd.func57, Tryd.ntmps57
    go_wp2
    go_loopw [13] (fun i wr => ∃ k : Nat, k ≤ xs.length ∧ i = .int .i64 k ∧ Below w.heap.size w wr ∧ xs.take k = ys.take k) (fun i _ => xs.length - (intOf i).toNat)
    case atStart => exact ⟨0, Nat.zero_le _, rfl, Below.refl _ _, rfl⟩
    case round =>
      obtain ⟨k, hk, rfl, hw, ht⟩ := hrel
      have HT := Lib.hid ht
      clear ht
      by_cases hlt : k < xs.length
      · have hlt2 : k < ys.length := by have := HL.out; omega
        obtain ⟨b1, o1, rfl, h1, c1⟩ := HA.out.cells3 (by omega)
        obtain ⟨b2, o2, rfl, h2, c2⟩ := HB.out.cells3 (by omega)
        obtain ⟨g1, g1', g1''⟩ := c1 k hlt
        obtain ⟨g2, g2', g2''⟩ := c2 k hlt2
        replace g1 := (hw.cell (p := ⟨b1, o1 + k * 3, none⟩) h1).trans g1
        replace g1' := (hw.cell (p := ⟨b1, o1 + k * 3 + 1, none⟩) h1).trans g1'
        replace g1'' := (hw.cell (p := ⟨b1, o1 + k * 3 + 2, none⟩) h1).trans g1''
        replace g2 := (hw.cell (p := ⟨b2, o2 + k * 3, none⟩) h2).trans g2
        replace g2' := (hw.cell (p := ⟨b2, o2 + k * 3 + 1, none⟩) h2).trans g2'
        replace g2'' := (hw.cell (p := ⟨b2, o2 + k * 3 + 2, none⟩) h2).trans g2''
        have hky : (k : Int) < ys.length := by omega
        have hkx : (k : Int) < xs.length := by omega
        have hk0 : (0 : Int) ≤ k := by omega
        clear c1 c2
        have S1 := Lib.hid (fun e => same_step hlt hlt2 HT.out e)
        have S2 := Lib.hid (fun e => same_not hlt hlt2 e)
        generalize xs.getD k (0, 0, 0) = x at g1 g1' g1'' S1 S2
        generalize ys.getD k (0, 0, 0) = y at g2 g2' g2'' S1 S2
        obtain ⟨x, x', x''⟩ := x
        obtain ⟨y, y', y''⟩ := y
        simp only at g1 g1' g1'' g2 g2' g2''
        by_cases e1 : x = y
        · by_cases e2 : x' = y'
          · by_cases e3 : x'' = y''
            · have HE := Lib.hid (S1.out (by rw [e1, e2, e3]))
              subst e1 e2 e3
              clear S1 S2
              go_wp2
              go_region
              go_wp2
              go_roundw
              case rel => exact ⟨k + 1, by omega, by go_num, hw.drew, HE.out⟩
              case measure => simp [intOf]; omega
            · have HE := Lib.hid (S2.out (by simp [e3]))
              subst e1 e2
              clear S1 S2
              go_wp2
              go_region
              go_wp2
              go_ret
              exact ⟨ret_bool HE.out.symm, hw.drew⟩
          · have HE := Lib.hid (S2.out (by simp [e2]))
            subst e1
            clear S1 S2
            go_wp2
            go_region
            go_wp2
            go_ret
            exact ⟨ret_bool HE.out.symm, hw.drew⟩
        · have HE := Lib.hid (S2.out (by simp [e1]))
          clear S1 S2
          go_wp2
          go_region
          go_wp2
          go_ret
          exact ⟨ret_bool HE.out.symm, hw.drew⟩
      · go_wp2
        go_ret
        exact ⟨ret_bool (same_end hlt (by have := HL.out; omega) HT.out).symm, hw⟩
  · have hl1 : ((xs.length : Int) != (ys.length : Int)) = true := by rw [bne_iff_ne]; omega
    have HN := Lib.hid (same_len hl)
    clear hl
    go_enter Tryd.func57, Tryd.ntmps57
    go_wp2
    go_ret
    exact ⟨ret_bool HN.out.symm, Below.refl _ _⟩

theorem specSameLosses_any (va : Value) (xs : List (Int × Int × Int)) (vb : Value) (ys : List (Int × Int × Int)) (w : World) (ha : SI P3 w va xs) (hb : SI P3 w vb ys) :
    Calls Tryd.prog 25 #[va, vb] w fun e w' => e = .returned (.bool (sameLosses xs ys)) ∧ Below w.heap.size w w' := by
  obtain ⟨a, ca, rfl⟩ := ha.shape
  obtain ⟨b, cb, rfl⟩ := hb.shape
  have la := ha.len
  have lb := hb.len
  have HA := Lib.hid ha
  have HB := Lib.hid hb
  clear ha hb
  by_cases hl : xs.length = ys.length
  · have hl1 : ((xs.length : Int) != (ys.length : Int)) = false := by rw [hl]; simp
    have HL := Lib.hid hl
    clear hl
    go_enter Tryd.func25, Tryd.ntmps25
    go_wp2
    go_loopw [5] (fun i wr => ∃ k : Nat, k ≤ xs.length ∧ i = .int .i64 k ∧ Below w.heap.size w wr ∧ xs.take k = ys.take k) (fun i _ => xs.length - (intOf i).toNat)
    case atStart => exact ⟨0, Nat.zero_le _, rfl, Below.refl _ _, rfl⟩
    case round =>
      obtain ⟨k, hk, rfl, hw, ht⟩ := hrel
      have HT := Lib.hid ht
      clear ht
      by_cases hlt : k < xs.length
      · have hlt2 : k < ys.length := by have := HL.out; omega
        obtain ⟨b1, o1, rfl, h1, c1⟩ := HA.out.cells3 (by omega)
        obtain ⟨b2, o2, rfl, h2, c2⟩ := HB.out.cells3 (by omega)
        obtain ⟨g1, g1', g1''⟩ := c1 k hlt
        obtain ⟨g2, g2', g2''⟩ := c2 k hlt2
        replace g1 := (hw.cell (p := ⟨b1, o1 + k * 3, none⟩) h1).trans g1
        replace g1' := (hw.cell (p := ⟨b1, o1 + k * 3 + 1, none⟩) h1).trans g1'
        replace g1'' := (hw.cell (p := ⟨b1, o1 + k * 3 + 2, none⟩) h1).trans g1''
        replace g2 := (hw.cell (p := ⟨b2, o2 + k * 3, none⟩) h2).trans g2
        replace g2' := (hw.cell (p := ⟨b2, o2 + k * 3 + 1, none⟩) h2).trans g2'
        replace g2'' := (hw.cell (p := ⟨b2, o2 + k * 3 + 2, none⟩) h2).trans g2''
        have hky : (k : Int) < ys.length := by omega
        have hkx : (k : Int) < xs.length := by omega
        have hk0 : (0 : Int) ≤ k := by omega
        clear c1 c2
        have S1 := Lib.hid (fun e => same_step hlt hlt2 HT.out e)
        have S2 := Lib.hid (fun e => same_not hlt hlt2 e)
        generalize xs.getD k (0, 0, 0) = x at g1 g1' g1'' S1 S2
        generalize ys.getD k (0, 0, 0) = y at g2 g2' g2'' S1 S2
        obtain ⟨x, x', x''⟩ := x
        obtain ⟨y, y', y''⟩ := y
        simp only at g1 g1' g1'' g2 g2' g2''
        by_cases e1 : x = y
        · by_cases e2 : x' = y'
          · by_cases e3 : x'' = y''
            · have HE := Lib.hid (S1.out (by rw [e1, e2, e3]))
              subst e1 e2 e3
              clear S1 S2
              go_wp2
              go_region
              go_wp2
              go_roundw
              case rel => exact ⟨k + 1, by omega, by go_num, hw.drew, HE.out⟩
              case measure => simp [intOf]; omega
            · have HE := Lib.hid (S2.out (by simp [e3]))
              subst e1 e2
              clear S1 S2
              go_wp2
              go_region
              go_wp2
              go_ret
              exact ⟨ret_bool HE.out.symm, hw.drew⟩
          · have HE := Lib.hid (S2.out (by simp [e2]))
            subst e1
            clear S1 S2
            go_wp2
            go_region
            go_wp2
            go_ret
            exact ⟨ret_bool HE.out.symm, hw.drew⟩
        · have HE := Lib.hid (S2.out (by simp [e1]))
          clear S1 S2
          go_wp2
          go_region
          go_wp2
          go_ret
          exact ⟨ret_bool HE.out.symm, hw.drew⟩
      · go_wp2
        go_ret
        exact ⟨ret_bool (same_end hlt (by have := HL.out; omega) HT.out).symm, hw⟩
  · have hl1 : ((xs.length : Int) != (ys.length : Int)) = true := by rw [bne_iff_ne]; omega
    have HN := Lib.hid (same_len hl)
    clear hl
    go_enter Tryd.func25, Tryd.ntmps25
    go_wp2
    go_ret
    exact ⟨ret_bool HN.out.symm, Below.refl _ _⟩

theorem implSameLosses_any (va : Value) (xs : List (Int × Int × Int)) (vb : Value) (ys : List (Int × Int × Int)) (w : World) (ha : SI P3 w va xs) (hb : SI P3 w vb ys) :
    Calls Tryd.prog 26 #[va, vb] w fun e w' => e = .returned (.bool (sameLosses xs ys)) ∧ Below w.heap.size w w' := by
  have D := Lib.hid (equalLosses_any va xs vb ys w ha hb)
  clear ha hb
  go_enter Tryd.func26, Tryd.ntmps26
  go_wp2_with fail
  refine D.out.mono ?_
  rintro e w1 ⟨rfl, hb1⟩
  go_wp2
  go_ret
  exact ⟨rfl, hb1⟩

end Go.Proofs.YtpgnndpjlcihiaaDoor
