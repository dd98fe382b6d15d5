/-
  The orders that the laws draw.
-/
import Derived.Test.YteohfokchimfeaaSrcOne
import Derived.Test.YteohfokchimfeaaAmong
import Derived.Test.YteohfokchimfeaaCut
import Derived.Test.YteohfokchimfeaaAssign
namespace Go.Proofs.Yteohfokchimfeaa
open Go.RowKit

/-- xs[lo:] -/
theorem cutFromI {w : World} {a : Option Addr} {n cap : Nat} {xs : List Int} (h : RI w (.slice a n cap) xs) (lo : Nat) (h2 : lo ≤ xs.length) :
    ∃ v', RI w v' (xs.drop lo) ∧ ∀ W (lo' : Int), lo' = lo → (Instr.slice 22 (.slice a n cap) (some (.int .i64 lo')) none none).run Try.prog W = .ok v' W := by
  obtain ⟨v', h1, h3⟩ := cutI h lo xs.length h2 (Nat.le_refl _)
  refine ⟨v', by simpa using h1, fun W lo' e => ?_⟩
  obtain ⟨⟨a', cap', e', hc1, hc2, _⟩, hg⟩ := h
  simp only [Value.slice.injEq] at e'
  obtain ⟨rfl, rfl, rfl⟩ := e'
  rw [← h3 W lo' (xs.length : Int) e rfl]
  subst e
  rw [run_slice_lh W 22 a xs.length cap (by kernel_rfl) .i64 .i64 (lo : Int) (xs.length : Int) (by omega) (by omega) (by omega), run_slice_l W 22 a xs.length cap (by kernel_rfl) .i64 (lo : Int) (by omega) (by omega)]
  simp

theorem l00Own_any (v : Value) (xs : List Int) (w : World) (hv : RI w v xs) (hl : xs.length ≤ 1048576) :
    Calls Try.prog 92 #[v] w fun e w' => ∃ v', e = .returned v' ∧ OI 2 w' w.heap.size v' xs ∧ Below w.heap.size w w' := by
  have HB := Lib.hid (show Below w.heap.size w (w.alloc (.cells #[] 2)) from (Below.refl _ _).alloc (Nat.le_refl _) _)
  have HV := Lib.hid (hv.below HB.out)
  have HO := Lib.hid (OI.lit0 2 w w.heap.size (Nat.le_refl _))
  obtain ⟨a, cap, rfl⟩ := hv.shape
  clear hv
  obtain ⟨i0, hi, iz0, iz1, iz2⟩ := info_parts info64
  have HI := Lib.hid hi
  clear hi
  go_enter Try.func92, Try.ntmps92
  go_wp2_with (
    at_builtin
    refine wpList_appI rfl _ _ 22 rfl 2 i0 Try.underlying22 HI.out iz0 iz1 iz2 w.heap.size _ [] rfl HO.out _ xs rfl HV.out (by simp; omega) HB.out.size ?_
    intro v9 w9 h1 h2
    have H9 := Lib.hid h1
    have HB9 := Lib.hid (HO.out.step HB.out h2)
    clear h1 h2)
  go_ret
  exact ⟨_, rfl, H9.out, HB9.out⟩

set_option maxRecDepth 100000 in
theorem l17Perm_any (v : Value) (m b base k0 N : Nat) (w : World) (hv : BI w v m) (hs : SrcAt w base b v k0) (hk0 : k0 ≤ 1000) (hN : N ≤ 41) (hne : 0 < m → v.ownBlock ≠ some b) :
    Calls Try.prog 89 #[.pointer (some ⟨b, 0, none⟩), .int .i64 N] w fun e w' => ∃ v' xs, e = .returned v' ∧ OI 2 w' w.heap.size v' xs ∧ xs.length = N ∧ w.grownBy w' (some b) ∧ SrcAt w' base b v (k0 + 2 * N) := by
  have HV := Lib.hid hv
  have HS := Lib.hid hs
  have hblt := hs.lt.2
  clear hv hs
  obtain ⟨i0, hi, iz0, iz1, iz2⟩ := info_parts info64
  have HI := Lib.hid hi
  clear hi
  go_enter Try.func89, Try.ntmps89
  go_wp2_with fail
  have HB1 := Lib.hid ((Below.refl w.heap.size w).alloc (Nat.le_refl _) (.cells #[] 2))
  have HS1 := Lib.hid (HS.out.below HB1.out)
  have HO1 := Lib.hid (OI.lit0 2 w w.heap.size (Nat.le_refl _))
  have HG1 := Lib.hid (grown_below (row := some b) HB1.out)
  go_loopw [5, 6] (fun o i wr => ∃ (j : Nat) (u : Value) (xs : List Int), j ≤ N ∧ u = o ∧ i = .int .i64 j ∧ OI 2 wr w.heap.size u xs ∧ xs.length = j ∧ w.grownBy wr (some b) ∧ Hid (SrcAt wr base b v (k0 + 2 * j))) (fun _ i _ => N - (intOf i).toNat)
  case atStart => exact ⟨0, _, [], Nat.zero_le _, rfl, rfl, HO1.out, rfl, HG1.out, HS1⟩
  case round =>
    obtain ⟨j, u, xs, hj, rfl, rfl, ho, hxl, hg, HSR⟩ := hrel
    rename World => wo
    have HO := Lib.hid ho
    have HG := Lib.hid hg
    have HXL := Lib.hid hxl
    obtain ⟨au, cu, hsh⟩ := ho.ri.shape
    rw [hxl] at hsh
    subst hsh
    clear ho hg hxl
    by_cases hlt : j < N
    · have hd : decide ((j : Int) < (N : Int)) = true := decide_eq_true (by omega)
      have hwj : IntKind.i64.wrap ((j : Int) + 1) = (j : Int) + 1 := IntWalk.i64_in _ (by omega)
      have C2 := Lib.hid (pick_any v m b base (k0 + 2 * j) ((j : Int) + 1) wo (HV.out.grown HG.out hne) HSR.out (by omega) hne)
      have hne1 : (Value.slice au j cu).ownBlock ≠ some b := fun e => by
        have := (HO.out.lt b e).1
        omega
      go_wp2_with fail
      refine C2.out.mono ?_
      rintro e w2 ⟨y, rfl, y0, _, y1, y2, hs3, hg3⟩
      have yj : y < (j : Int) + 1 := pick_lt y1 y2 (by omega)
      obtain ⟨Y, rfl⟩ : ∃ Y : Nat, y = Y := ⟨y.toNat, by omega⟩
      have HG3 := Lib.hid (grownBy_trans HG.out hg3)
      have HO3 := Lib.hid (HO.out.grown hg3 (.inr hne1))
      have HS3 := Lib.hid hs3
      have hsz := HG3.out.size
      obtain ⟨va, hva, hca⟩ := cutToI HO3.out.ri Y (by rw [HXL.out]; omega)
      obtain ⟨vb, hvb, hcb⟩ := cutFromI HO3.out.ri Y (by rw [HXL.out]; omega)
      have hca' := fun W => hca W (Y : Int) rfl
      have hcb' := fun W => hcb W (Y : Int) rfl
      have HVA := Lib.hid hva
      have HVB := Lib.hid hvb
      have HGJ := Lib.hid (show Good (j : Int) by unfold Good; omega)
      have hx1 : (xs.take Y).length = Y := by rw [List.length_take, HXL.out]; omega
      have hx2 : (xs.drop Y).length = j - Y := by rw [List.length_drop, HXL.out]
      have HX1 := Lib.hid hx1
      have HX2 := Lib.hid hx2
      clear hs3 hg3 y1 y2 hca hcb hva hvb hx1 hx2
      go_wp2_with (first
        | (go_at_call 92
           refine (l00Own_any va _ w2 HVA.out (by rw [HX1.out]; omega)).mono ?_
           rintro e w4 ⟨v4, rfl, ho4, hb4⟩
           have HO4 := Lib.hid ho4
           have HB4 := Lib.hid hb4
           have hs4 := hb4.size
           clear ho4 hb4)
        | (at_builtin
           refine wpList_app1n rfl _ _ 22 rfl 2 _ i0 Try.underlying22 HI.out iz0 iz1 iz2 w2.heap.size _ _ rfl HO4.out _ _ (by simp) rfl HGJ.out (by rw [HX1.out]; omega) hs4 ?_
           intro v5 w5 h1 h2 h3
           have HO5 := Lib.hid h1
           have HB5 := Lib.hid (bgrown HB4.out h2 (fun q hq => (HO4.out.lt q hq).1))
           have hs5 := HB5.out.size
           clear h1 h2 h3)
        | (at_builtin
           refine wpList_appI rfl _ _ 22 rfl 2 i0 Try.underlying22 HI.out iz0 iz1 iz2 w2.heap.size _ _ rfl HO5.out _ _ rfl (HVB.out.below HB5.out) (by rw [List.length_append, HX1.out, HX2.out]; simp; omega) hs5 ?_
           intro v6 w6 h1 h2
           have HO6 := Lib.hid h1
           have HB6 := Lib.hid (bgrown HB5.out h2 (fun q hq => (HO5.out.lt q hq).1))
           clear h1 h2))
      go_roundw
      case rel =>
        refine ⟨j + 1, _, _, by omega, rfl, by go_num, HO6.out.mono hsz, ?_, grownBy_trans HG3.out (grown_below HB6.out), Lib.hid ((HS3.out.below HB6.out).more (by omega))⟩
        rw [List.length_append, List.length_append, HX1.out, HX2.out]; simp; omega
      case measure => simp [intOf]; omega
    · have hd : decide ((j : Int) < (N : Int)) = false := decide_eq_false (by omega)
      go_wp2
      go_ret
      have : j = N := by omega
      exact ⟨_, xs, rfl, HO.out, by rw [HXL.out]; exact this, HG.out, HSR.out.more (by omega)⟩

end Go.Proofs.Yteohfokchimfeaa
