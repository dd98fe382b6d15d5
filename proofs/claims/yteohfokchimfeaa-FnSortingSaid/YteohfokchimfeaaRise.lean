/-
  The lengths of rising chains, and the longest one, of both sides.
-/
import Derived.Test.YteohfokchimfeaaOrder
namespace Go.Proofs.Yteohfokchimfeaa
open Go.RowKit

/-- How long a rising chain is at most that ends with place i, out of the first k places before it. -/
def riseAt (xs out : List Int) (i : Nat) : Nat → Int
  | 0 => 1
  | k + 1 => if xs.getD k 0 < xs.getD i 0 then max (riseAt xs out i k) (out.getD k 0 + 1) else riseAt xs out i k
def riseTo (xs : List Int) : Nat → List Int
  | 0 => []
  | i + 1 => riseTo xs i ++ [riseAt xs (riseTo xs i) i i]
theorem riseTo_length (xs : List Int) (i : Nat) : (riseTo xs i).length = i := by
  induction i with
  | zero => rfl
  | succ i ih => simp [riseTo, ih]
theorem riseAt_bounds (xs out : List Int) (i k : Nat) (B : Int) (hB : 0 ≤ B) (h : ∀ j, j < k → 0 ≤ out.getD j 0 ∧ out.getD j 0 ≤ B) : 1 ≤ riseAt xs out i k ∧ riseAt xs out i k ≤ B + 1 := by
  induction k with
  | zero => simp only [riseAt]; omega
  | succ k ih =>
    have := ih (fun j hj => h j (by omega))
    have := h k (by omega)
    simp only [riseAt]
    split <;> omega
theorem riseTo_bounds (xs : List Int) (i : Nat) : ∀ y ∈ riseTo xs i, 1 ≤ y ∧ y ≤ i := by
  induction i with
  | zero => simp [riseTo]
  | succ i ih =>
    intro y hy
    simp only [riseTo, List.mem_append, List.mem_singleton] at hy
    rcases hy with hy | rfl
    · have := ih y hy; omega
    · have := riseAt_bounds xs (riseTo xs i) i i (i : Int) (by omega) (fun j hj => by
        have hm : (riseTo xs i).getD j 0 ∈ riseTo xs i := by
          have hj2 : j < (riseTo xs i).length := by rw [riseTo_length]; exact hj
          simp only [List.getD, List.getElem?_eq_getElem hj2, Option.getD_some]; exact List.getElem_mem hj2
        have := ih _ hm; omega)
      omega
theorem riseTo_getD (xs : List Int) (i j : Nat) (hj : j < i) : 1 ≤ (riseTo xs i).getD j 0 ∧ (riseTo xs i).getD j 0 ≤ i := by
  refine riseTo_bounds xs i _ ?_
  have hj2 : j < (riseTo xs i).length := by rw [riseTo_length]; exact hj
  simp only [List.getD, List.getElem?_eq_getElem hj2, Option.getD_some]; exact List.getElem_mem hj2

def maxI (ys : List Int) : Int := ys.foldl max 0
theorem maxI_snoc (ys : List Int) (y : Int) : maxI (ys ++ [y]) = max (maxI ys) y := by simp [maxI]
/-- The length of the longest rising chain. -/
def longest (xs : List Int) : Int := maxI (riseTo xs xs.length)
theorem maxI_bounds (ys : List Int) (B : Int) (hB : 0 ≤ B) (h : ∀ y ∈ ys, y ≤ B) : 0 ≤ maxI ys ∧ maxI ys ≤ B := by
  have : ∀ (l : List Int) (a : Int), 0 ≤ a → a ≤ B → (∀ y ∈ l, y ≤ B) → 0 ≤ l.foldl max a ∧ l.foldl max a ≤ B := by
    intro l
    induction l with
    | nil => intro a h1 h2 _; exact ⟨h1, h2⟩
    | cons y l ih =>
      intro a h1 h2 h3
      have := h3 y (by simp)
      exact ih (max a y) (by omega) (by omega) (fun z hz => h3 z (by simp [hz]))
  exact this ys 0 (Int.le_refl _) hB h
theorem longest_bounds (xs : List Int) : 0 ≤ longest xs ∧ longest xs ≤ xs.length :=
  maxI_bounds _ _ (by omega) (fun y hy => (riseTo_bounds xs _ y hy).2)

theorem l00Max_any (a b : Int) (w : World) : Calls Try.prog 87 #[.int .i64 a, .int .i64 b] w fun e w' => e = .returned (.int .i64 (max a b)) ∧ w = w' := by
  by_cases h : b < a
  · go_enter Try.func87, Try.ntmps87
    go_wp2
    go_ret
    exact ⟨ret_int (by omega), rfl⟩
  · go_enter Try.func87, Try.ntmps87
    go_wp2
    go_ret
    exact ⟨ret_int (by omega), rfl⟩

set_option maxHeartbeats 2000000 in
theorem l17Rise_any (v : Value) (xs : List Int) (w : World) (hv : RI w v xs) (hs : xs.length ≤ 1048576) :
    Calls Try.prog 70 #[v] w fun e w' => ∃ v', e = .returned v' ∧ OI 2 w' w.heap.size v' (riseTo xs xs.length) ∧ Below w.heap.size w w' := by
  obtain ⟨a, cap, rfl⟩ := hv.shape
  have HV := Lib.hid hv
  clear hv
  obtain ⟨i0, hi, hz0, hz1, hz2⟩ := info_parts info64
  have HI := Lib.hid hi
  clear hi
  go_enter Try.func70, Try.ntmps70
  go_wp2_with fail
  go_loopw [3, 4] (fun v' i wr => ∃ (i' : Nat) (v1 : Value), i' ≤ xs.length ∧ i = .int .i64 i' ∧ v' = v1 ∧ OI 2 wr w.heap.size v1 (riseTo xs i') ∧ Below w.heap.size w wr) (fun _ i _ => xs.length - (intOf i).toNat)
  case atStart => exact ⟨0, _, Nat.zero_le _, rfl, rfl, OI.lit0 _ _ _ (Nat.le_refl _), (Below.refl _ _).alloc (Nat.le_refl _) _⟩
  case round =>
    obtain ⟨i, v1, hi, rfl, rfl, ho, hb⟩ := hrel
    have HO := Lib.hid ho
    clear ho
    by_cases hlt : i < xs.length
    · obtain ⟨wo, rfl⟩ : ∃ wo : World, wo = wr := ⟨_, rfl⟩
      have hlr := riseTo_length xs i
      have HLR := Lib.hid hlr
      have HR1 : Hid (riseTo xs (i + 1) = riseTo xs i ++ [riseAt xs (riseTo xs i) i i]) := rfl
      have hbd := fun k (hk : k ≤ i) => riseAt_bounds xs (riseTo xs i) i k i (by omega) (fun j hj => by have := riseTo_getD xs i j (by omega); omega)
      have HBD := Lib.hid hbd
      clear hbd hlr
      go_wp2_with fail
      go_loopw [5, 6] (fun n k wr => ∃ k' : Nat, k' ≤ i ∧ k = .int .i64 k' ∧ n = .int .i64 (riseAt xs (riseTo xs i) i k') ∧ Below wo.heap.size wo wr) (fun _ k _ => i - (intOf k).toNat)
      case atStart => exact ⟨0, Nat.zero_le _, rfl, rfl, Below.refl _ _⟩
      case round =>
        obtain ⟨k, hk, rfl, rfl, hb2⟩ := hrel
        have hb3 := bthen hb hb2
        have ho2 := HO.out.below hb2
        by_cases hkt : k < i
        · rcases ho2.shape with ⟨_, hnil⟩ | ⟨g, cap', hv', hg1, hg2⟩
          · have := HLR.out; rw [hnil] at this; simp at this; omega
          · subst hv'
            obtain ⟨b, off, rfl, hbl, hc⟩ := HV.out.cells (by omega)
            have g1 := (hb3.cell (p := ⟨b, off + k, none⟩) hbl).trans (hc k (by omega))
            have g2 := (hb3.cell (p := ⟨b, off + i, none⟩) hbl).trans (hc i hlt)
            obtain ⟨g3, _⟩ := ho2.cell k (by have := HLR.out; omega)
            have pr := riseTo_getD xs i k hkt
            have bd1 := HBD.out k (by omega)
            have S1 : riseAt xs (riseTo xs i) i (k + 1) = if xs.getD k 0 < xs.getD i 0 then max (riseAt xs (riseTo xs i) i k) ((riseTo xs i).getD k 0 + 1) else riseAt xs (riseTo xs i) i k := rfl
            have HS := Lib.hid S1
            have hki : (k : Int) < xs.length := by omega
            have hii : (i : Int) < xs.length := by omega
            have hkl : (k : Int) < (riseTo xs i).length := by have := HLR.out; omega
            clear hc S1 ho2
            generalize (riseTo xs i).getD k 0 = z at *
            generalize hq : riseAt xs (riseTo xs i) i k = q at *
            have HQ := Lib.hid hq
            clear hq
            obtain ⟨x, hx⟩ : ∃ x, x = xs.getD k 0 := ⟨_, rfl⟩
            obtain ⟨y, hy⟩ : ∃ y, y = xs.getD i 0 := ⟨_, rfl⟩
            rw [← hx] at g1
            rw [← hy] at g2
            have HX := Lib.hid hx
            have HY := Lib.hid hy
            clear hx hy
            by_cases hxy : x < y
            · have HS2 := Lib.hid (HS.out.trans (if_pos (by rw [← HX.out, ← HY.out]; exact hxy)))
              go_wp2_with fail
              go_quiet (fail)
              go_wp2_with (go_at_call 87; refine (l00Max_any _ _ _).mono ?_; rintro e w' ⟨rfl, rfl⟩)
              go_roundw
              case rel => exact ⟨k + 1, by omega, by go_num, by rw [HS2.out], below_drewN hb2 _⟩
              case measure => simp [intOf]; omega
            · have HS2 := Lib.hid (HS.out.trans (if_neg (by rw [← HX.out, ← HY.out]; exact hxy)))
              have hd : decide (x < y) = false := by simpa using hxy
              go_wp2_with fail
              go_quiet (fail)
              go_wp2_with fail
              go_roundw
              case rel => exact ⟨k + 1, by omega, by go_num, by rw [HS2.out], below_drewN hb2 _⟩
              case measure => simp [intOf]; omega
        · obtain rfl : k = i := by omega
          have bd1 := HBD.out k (by omega)
          have HO2 := Lib.hid ho2
          clear ho2
          generalize hq : riseAt xs (riseTo xs k) k k = q at *
          have HQ := Lib.hid hq
          clear hq
          have hz : w.heap.size ≤ wr.heap.size := hb3.size
          go_wp2_with (at_builtin; refine wpList_app1 rfl _ _ 22 rfl 2 _ i0 Try.underlying22 HI.out hz0 hz1 hz2 w.heap.size _ _ rfl HO2.out _ rfl ?_ ?_ hz ?_)
          · unfold Good; omega
          · have := HLR.out; omega
          · intro v2 w2 h1 h2
            have hb4 := HO2.out.step hb3 h2
            have H1 := Lib.hid h1
            clear h1 h2
            go_wp2_with fail
            go_roundw
            case rel => exact ⟨k + 1, v2, by omega, by go_num, rfl, by rw [HR1.out]; exact H1.out, hb4⟩
            case measure => simp [intOf]; omega
    · obtain rfl : i = xs.length := by omega
      go_wp2_with fail
      go_ret
      exact ⟨_, rfl, HO.out, hb⟩

set_option maxHeartbeats 2000000 in
theorem chainEnds_any (v : Value) (xs : List Int) (w : World) (hv : RI w v xs) (hs : xs.length ≤ 1048576) :
    Calls Try.prog 71 #[v] w fun e w' => ∃ v', e = .returned v' ∧ OI 2 w' w.heap.size v' (riseTo xs xs.length) ∧ Below w.heap.size w w' := by
  obtain ⟨a, cap, rfl⟩ := hv.shape
  have HV := Lib.hid hv
  clear hv
  obtain ⟨i0, hi, hz0, hz1, hz2⟩ := info_parts info64
  have HI := Lib.hid hi
  clear hi
  go_enter Try.func71, Try.ntmps71
  go_wp2_with fail
  go_loopw [3, 12] (fun v' i wr => ∃ (i' : Nat) (v1 : Value), i' ≤ xs.length ∧ i = .int .i64 i' ∧ v' = v1 ∧ OI 2 wr w.heap.size v1 (riseTo xs i') ∧ Below w.heap.size w wr) (fun _ i _ => xs.length - (intOf i).toNat)
  case atStart => exact ⟨0, _, Nat.zero_le _, rfl, rfl, OI.lit0 _ _ _ (Nat.le_refl _), (Below.refl _ _).alloc (Nat.le_refl _) _⟩
  case round =>
    obtain ⟨i, v1, hi, rfl, rfl, ho, hb⟩ := hrel
    have HO := Lib.hid ho
    clear ho
    by_cases hlt : i < xs.length
    · obtain ⟨wo, rfl⟩ : ∃ wo : World, wo = wr := ⟨_, rfl⟩
      have hlr := riseTo_length xs i
      have HLR := Lib.hid hlr
      have HR1 : Hid (riseTo xs (i + 1) = riseTo xs i ++ [riseAt xs (riseTo xs i) i i]) := rfl
      have hbd := fun k (hk : k ≤ i) => riseAt_bounds xs (riseTo xs i) i k i (by omega) (fun j hj => by have := riseTo_getD xs i j (by omega); omega)
      have HBD := Lib.hid hbd
      clear hbd hlr
      obtain ⟨b, off, rfl, hbl, hc⟩ := HV.out.cells (by omega)
      have g2 := (hb.cell (p := ⟨b, off + i, none⟩) hbl).trans (hc i hlt)
      clear hc
      obtain ⟨y, hy⟩ : ∃ y, y = xs.getD i 0 := ⟨_, rfl⟩
      rw [← hy] at g2
      have HY := Lib.hid hy
      clear hy
      obtain ⟨vc, hvc, hcut⟩ := cutToI HV.out i hi
      have hcut' := fun W => hcut W (i : Int) rfl
      obtain ⟨ac, capc, rfl⟩ := hvc.shape
      have hln : (xs.take i).length = i := by simp; omega
      rw [hln] at hcut' hvc
      have HVC := Lib.hid hvc
      clear hcut hvc hln
      go_wp2_with fail
      clear hcut' g2
      go_loop [6, 21] (fun n k => ∃ k' : Nat, k' ≤ i ∧ k = .int .i64 k' ∧ n = .int .i64 (riseAt xs (riseTo xs i) i k')) (fun _ k => i - (intOf k).toNat)
      case atStart => exact ⟨0, Nat.zero_le _, rfl, rfl⟩
      case round =>
        obtain ⟨k, hk, rfl, rfl⟩ := hrel
        have hb3 := hb
        have ho2 := HO.out
        by_cases hkt : k < i
        · rcases ho2.shape with ⟨_, hnil⟩ | ⟨g, cap', hv', hg1, hg2⟩
          · have := HLR.out; rw [hnil] at this; simp at this; omega
          · subst hv'
            have hvc := HVC.out
            obtain ⟨bc, offc, rfl, hblc, hc⟩ := hvc.cells (by simp; omega)
            have g1 := (hb3.cell (p := ⟨bc, offc + k, none⟩) hblc).trans (hc k (by simp; omega))
            have hgd : (xs.take i).getD k 0 = xs.getD k 0 := by simp [List.getD, List.getElem?_take, hkt]
            rw [hgd] at g1
            clear hgd hvc
            obtain ⟨g3, _⟩ := ho2.cell k (by have := HLR.out; omega)
            have pr := riseTo_getD xs i k hkt
            have bd1 := HBD.out k (by omega)
            have S1 : riseAt xs (riseTo xs i) i (k + 1) = if xs.getD k 0 < xs.getD i 0 then max (riseAt xs (riseTo xs i) i k) ((riseTo xs i).getD k 0 + 1) else riseAt xs (riseTo xs i) i k := rfl
            have HS := Lib.hid S1
            have hki : (k : Int) < xs.length := by omega
            have hii : (i : Int) < xs.length := by omega
            have hkl : (k : Int) < (riseTo xs i).length := by have := HLR.out; omega
            clear hc S1 ho2
            generalize (riseTo xs i).getD k 0 = z at *
            generalize hq : riseAt xs (riseTo xs i) i k = q at *
            have HQ := Lib.hid hq
            clear hq
            obtain ⟨x, hx⟩ : ∃ x, x = xs.getD k 0 := ⟨_, rfl⟩
            rw [← hx] at g1
            have HX := Lib.hid hx
            clear hx
            obtain ⟨m, hm⟩ : ∃ m, m = max q (z + 1) := ⟨_, rfl⟩
            have hm1 : (if q < z + 1 then z + 1 else q) = m := by rw [hm]; split <;> omega
            have HM := Lib.hid hm
            clear hm
            by_cases hxy : x < y
            · have HS2 := Lib.hid (HS.out.trans (if_pos (by rw [← HX.out, ← HY.out]; exact hxy)))
              go_wp2_with fail
              go_round
              case rel => exact ⟨k + 1, by omega, by go_num, by rw [HS2.out, HM.out]⟩
              case measure => simp [intOf]; omega
            · have HS2 := Lib.hid (HS.out.trans (if_neg (by rw [← HX.out, ← HY.out]; exact hxy)))
              have hd : decide (x < y) = false := by simpa using hxy
              go_wp2_with fail
              go_round
              case rel => exact ⟨k + 1, by omega, by go_num, by rw [HS2.out]⟩
              case measure => simp [intOf]; omega
        · obtain rfl : k = i := by omega
          have bd1 := HBD.out k (by omega)
          have HO2 := Lib.hid ho2
          clear ho2
          generalize hq : riseAt xs (riseTo xs k) k k = q at *
          have HQ := Lib.hid hq
          clear hq
          have hz : w.heap.size ≤ wo.heap.size := hb3.size
          go_wp2_with (at_builtin; refine wpList_app1 rfl _ _ 22 rfl 2 _ i0 Try.underlying22 HI.out hz0 hz1 hz2 w.heap.size _ _ rfl HO2.out _ rfl ?_ ?_ hz ?_)
          · unfold Good; omega
          · have := HLR.out; omega
          · intro v2 w2 h1 h2
            have hb4 := HO2.out.step hb3 h2
            have H1 := Lib.hid h1
            clear h1 h2
            go_wp2_with fail
            go_roundw
            case rel => exact ⟨k + 1, v2, by omega, by go_num, rfl, by rw [HR1.out]; exact H1.out, hb4⟩
            case measure => simp [intOf]; omega
    · obtain rfl : i = xs.length := by omega
      go_wp2_with fail
      go_ret
      exact ⟨_, rfl, HO.out, hb⟩

end Go.Proofs.Yteohfokchimfeaa
