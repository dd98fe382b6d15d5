/-
  The openings and weights that the laws draw.
-/
import Derived.Test.YtoeigifmghfpgaaSrc
import Derived.Test.YtoeigifmghfpgaaMean
namespace Go.Proofs.Ytoeigifmghfpgaa
open Go.RowKit Plain

/-- A literal []int64{n} in a world where it has been laid. -/
theorem OI.lit1w (e : TypeId) (w : World) (n : Int) (hn : Good n) : OI e (w.alloc (.cells #[.int .i64 n] e)) w.heap.size (.slice (some ⟨w.heap.size, 0, none⟩) 1 1) [n] := OI.lit1 e w w.heap.size n (Nat.le_refl _) hn

set_option maxRecDepth 100000 in
theorem l16Draw_any (v : Value) (m b base : Nat) (w : World) (hv : BI w v m) (hs : SrcAt w base b v 0) (hne : 0 < m → v.ownBlock ≠ some b) :
    Calls Try.prog 43 #[.pointer (some ⟨b, 0, none⟩)] w fun e w' => ∃ v' xs, e = .returned v' ∧ OI 2 w' w.heap.size v' xs ∧ (∀ x ∈ xs, 1 ≤ x ∧ x ≤ 20) ∧ xs.length ≤ 6 ∧ w.grownBy w' (some b) ∧ SrcAt w' base b v 16 := by
  have HV := Lib.hid hv
  have HS := Lib.hid hs
  have hblt := hs.lt.2
  clear hv hs
  obtain ⟨i0, hi, iz0, iz1, iz2⟩ := info_parts info64
  have HI := Lib.hid hi
  clear hi
  go_enter Try.func43, Try.ntmps43
  go_wp2_with fail
  have HS1 := Lib.hid (HS.out.below ((Below.refl w.heap.size w).alloc (Nat.le_refl _) (.cells #[] 2)))
  have HV1 := Lib.hid (HV.out.below ((Below.refl w.heap.size w).alloc (Nat.le_refl _) (.cells #[] 2)))
  have HO1 := Lib.hid (OI.lit0 2 w w.heap.size (Nat.le_refl _))
  have HG1 := Lib.hid (grown_below (row := some b) ((Below.refl w.heap.size w).alloc (Nat.le_refl _) (.cells #[] 2)))
  refine (pick_any v m b base 0 7 _ HV1.out HS1.out (by omega) hne).mono ?_
  rintro e w1 ⟨y, rfl, y0, _, y1, _, hs2, hg2⟩
  have y7 : y < 7 := y1 (by omega)
  obtain ⟨Y, rfl⟩ : ∃ Y : Nat, y = Y := ⟨y.toNat, by omega⟩
  have HS2 := Lib.hid hs2
  have HG2 := Lib.hid (grownBy_trans HG1.out hg2)
  have HO2 := Lib.hid (HO1.out.grown hg2 (.inr (fun e => Nat.ne_of_gt hblt (Option.some.inj e))))
  clear y1 hs2 hg2
  go_wp2_with fail
  go_loopw [3, 4] (fun o i wr => ∃ (k : Nat) (u : Value) (xs : List Int), k ≤ Y ∧ u = o ∧ i = .int .i64 k ∧ OI 2 wr w.heap.size u xs ∧ Hid ((∀ x ∈ xs, 1 ≤ x ∧ x ≤ 20) ∧ xs.length + k ≤ 6) ∧ w.grownBy wr (some b) ∧ Hid (SrcAt wr base b v (2 + 2 * (6 - k)))) (fun _ i _ => (intOf i).toNat)
  case atStart => exact ⟨Y, _, [], Nat.le_refl _, rfl, rfl, HO2.out, Lib.hid ⟨by simp, by simp; omega⟩, HG2.out, Lib.hid (HS2.out.more (by omega))⟩
  case round =>
    obtain ⟨k, u, xs, hk, rfl, rfl, ho, HX, hg, HSR⟩ := hrel
    rename World => wo
    have HO := Lib.hid ho
    have HG := Lib.hid hg
    clear ho hg
    by_cases hlt : 0 < k
    · have hd : decide ((0 : Int) < (k : Int)) = true := decide_eq_true (by omega)
      have hd2 : decide (0 < k) = true := decide_eq_true hlt
      obtain ⟨q, hq⟩ : ∃ q, q = k - 1 := ⟨_, rfl⟩
      have HQ := Lib.hid hq
      have hwq : IntKind.i64.wrap ((k : Int) - 1) = (q : Int) := by rw [IntWalk.i64_in _ (by omega)]; omega
      clear hq
      have hln := HX.out.2
      have C2 := Lib.hid (pick_any v m b base (2 + 2 * (6 - k)) 20 wo (HV.out.grown HG.out hne) HSR.out (by omega) hne)
      have hne1 : u.ownBlock ≠ some b := fun e => by
        have := (HO.out.lt b e).1
        omega
      go_wp2_with fail
      refine C2.out.mono ?_
      rintro e w2 ⟨z, rfl, z0, _, z1, _, hs3, hg3⟩
      have z20 : z < 20 := z1 (by omega)
      have hwz : IntKind.i64.wrap (1 + z) = 1 + z := IntWalk.i64_in _ (by omega)
      have HGD := Lib.hid (show Good (1 + z) by unfold Good; omega)
      have HG3 := Lib.hid (grownBy_trans HG.out hg3)
      have HO3 := Lib.hid (HO.out.grown hg3 (.inr hne1))
      have HS3 := Lib.hid hs3
      have hsz := HG3.out.size
      clear hs3 hg3 z1
      go_wp2_with (
        at_builtin
        refine wpList_app1n rfl _ _ 22 rfl 2 _ i0 Try.underlying22 HI.out iz0 iz1 iz2 w.heap.size _ _ rfl HO3.out _ _ (by simp) rfl HGD.out (by omega) hsz ?_
        intro v9 w9 h1 h2 h3
        have H9 := Lib.hid h1
        have HG9 := Lib.hid (grown_chain HG3.out h2 (fun q hq => (HO3.out.lt q hq).1))
        have HS9 := Lib.hid (HS3.out.grown h2 (fun e => hne1 e.symm))
        clear h1 h2 h3)
      go_roundw
      case rel =>
        have hq := HQ.out
        exact ⟨q, _, xs ++ [1 + z], by omega, rfl, rfl, H9.out, Lib.hid ⟨fun x hx => by
          rcases List.mem_append.1 hx with hx | hx
          · exact HX.out.1 x hx
          · rw [List.mem_singleton.1 hx]; omega, by simp; omega⟩, HG9.out, Lib.hid (HS9.out.more (by omega))⟩
      case measure =>
        have := HQ.out
        simp [intOf]; omega
    · have hd : decide ((0 : Int) < (k : Int)) = false := decide_eq_false (by omega)
      have hd2 : decide (0 < k) = false := decide_eq_false hlt
      go_wp2
      go_ret
      exact ⟨_, xs, rfl, HO.out, HX.out.1, by have := HX.out.2; omega, HG.out, HSR.out.more (by omega)⟩

theorem okWeights_yes {xs ws : List Int} (hx : ∀ x ∈ xs, 1 ≤ x ∧ x ≤ 20) (hl : xs.length ≤ 6) (hw : ∀ x ∈ ws, 1 ≤ x ∧ x ≤ 9) (hwl : ws.length = xs.length + 1) : okWeights xs ws = true := by
  simp only [okWeights, okOpen, Bool.and_eq_true, List.all_eq_true, decide_eq_true_eq, inB]
  exact ⟨⟨fun x h => by have := hx x h; omega, by omega⟩, hwl, fun x h => by have := hw x h; omega⟩

set_option maxRecDepth 100000 in
theorem a2Openings_any (v : Value) (m : Nat) (w : World) (hv : BI w v m) :
    Calls Try.prog 19 #[v] w fun e w' => ∃ v1 v2 xs ws, e = .returned (.tuple #[v1, v2]) ∧ OI 2 w' w.heap.size v1 xs ∧ OI 2 w' w.heap.size v2 ws ∧ okWeights xs ws = true ∧ Below w.heap.size w w' := by
  have HV := Lib.hid hv
  clear hv
  obtain ⟨i0, hi, iz0, iz1, iz2⟩ := info_parts info64
  have HI := Lib.hid hi
  clear hi
  go_enter Try.func19, Try.ntmps19
  go_wp2_with fail
  refine (from_any v m _ HV.out).mono ?_
  rintro e w1 ⟨rfl, hs1, hb1⟩
  have hne : 0 < m → v.ownBlock ≠ some w.heap.size := fun hp e => by have := HV.out.own_lt hp e; omega
  obtain ⟨b, hbd⟩ : ∃ b, b = w.heap.size := ⟨_, rfl⟩
  rw [← hbd] at hs1 hne
  have hblt := hs1.lt.2
  have HS1 := Lib.hid hs1
  have HB1 := Lib.hid hb1
  have HBD := Lib.hid hbd
  rw [← hbd]
  clear hs1 hb1 hbd
  go_wp2_with fail
  refine (l16Draw_any v m b w.heap.size w1 (HV.out.below HB1.out) (HBD.out ▸ HS1.out) hne).mono ?_
  rintro e w2 ⟨v1, xs, rfl, ho2, hx, hl, hg2, hs2⟩
  obtain ⟨a1, cap1, hsh⟩ := ho2.ri.shape
  subst hsh
  have HX := Lib.hid hx
  have HO2 := Lib.hid ho2
  have HG2 := Lib.hid hg2
  have HS2 := Lib.hid hs2
  have HV2 := Lib.hid ((HV.out.below HB1.out).grown hg2 hne)
  clear ho2 hx hg2 hs2
  go_wp2_with fail
  refine (pick_any v m b w.heap.size 16 9 w2 HV2.out HS2.out (by omega) hne).mono ?_
  rintro e w3 ⟨z, rfl, z0, _, z1, _, hs3, hg3⟩
  have z9 : z < 9 := z1 (by omega)
  have hwz : IntKind.i64.wrap (1 + z) = 1 + z := IntWalk.i64_in _ (by omega)
  have HS3 := Lib.hid hs3
  have hne1 : (Value.slice a1 xs.length cap1).ownBlock ≠ some b := fun e => by
    have := (HO2.out.lt b e).1
    omega
  have HO3 := Lib.hid (HO2.out.grown hg3 (.inr hne1))
  have HV3 := Lib.hid (HV2.out.grown hg3 hne)
  have HG3 := Lib.hid (grownBy_trans HG2.out hg3)
  have HW3 := Lib.hid (OI.lit1w 2 w3 (1 + z) (by unfold Good; omega))
  have hB4 := (Below.refl w3.heap.size w3).alloc (Nat.le_refl _) (.cells #[.int .i64 (1 + z)] 2)
  have HG4 := Lib.hid (grown_below (row := some b) hB4)
  have HS4 := Lib.hid (HS3.out.below hB4)
  have hb3 : b < w3.heap.size := HS3.out.lt.2
  clear z1 hs3 hg3 hB4
  go_wp2_with fail
  go_loopw [6, 7] (fun o i wr => ∃ (k : Nat) (u : Value) (ws : List Int), k ≤ xs.length ∧ u = o ∧ i = .int .i64 k ∧ OI 2 wr w3.heap.size u ws ∧ Hid ((∀ x ∈ ws, 1 ≤ x ∧ x ≤ 9) ∧ ws.length = k + 1) ∧ w3.grownBy wr (some b) ∧ Hid (SrcAt wr w.heap.size b v (18 + 2 * k))) (fun _ i _ => xs.length - (intOf i).toNat)
  case atStart => exact ⟨0, _, [1 + z], Nat.zero_le _, rfl, rfl, HW3.out, Lib.hid ⟨fun x hx => by rw [List.mem_singleton.1 hx]; omega, rfl⟩, HG4.out, Lib.hid HS4.out⟩
  case round =>
    obtain ⟨k, u, ws, hk, rfl, rfl, ho, HY, hg, HSR⟩ := hrel
    rename World => wo
    have HO := Lib.hid ho
    have HG := Lib.hid hg
    clear ho hg
    by_cases hlt : k < xs.length
    · have hd : decide ((k : Int) < (xs.length : Int)) = true := decide_eq_true (by omega)
      have C2 := Lib.hid (pick_any v m b w.heap.size (18 + 2 * k) 9 wo (HV3.out.grown HG.out hne) HSR.out (by omega) hne)
      have hneu : u.ownBlock ≠ some b := fun e => by
        have := (HO.out.lt b e).1
        omega
      have hwl := HY.out.2
      go_wp2_with fail
      refine C2.out.mono ?_
      rintro e w5 ⟨y, rfl, y0, _, y1, _, hs5, hg5⟩
      have y9 : y < 9 := y1 (by omega)
      have hwy : IntKind.i64.wrap (1 + y) = 1 + y := IntWalk.i64_in _ (by omega)
      have HGD := Lib.hid (show Good (1 + y) by unfold Good; omega)
      have HG5 := Lib.hid (grownBy_trans HG.out hg5)
      have HO5 := Lib.hid (HO.out.grown hg5 (.inr hneu))
      have HS5 := Lib.hid hs5
      have hsz := HG5.out.size
      clear hs5 hg5 y1
      have HWL := Lib.hid hwl
      clear hwl
      go_wp2_with (
        at_builtin
        refine wpList_app1n rfl _ _ 22 rfl 2 _ i0 Try.underlying22 HI.out iz0 iz1 iz2 w3.heap.size _ _ rfl HO5.out _ _ (by simp) rfl HGD.out (by have := HWL.out; omega) hsz ?_
        intro v9 w9 h1 h2 h3
        have H9 := Lib.hid h1
        have HG9 := Lib.hid (grown_chain HG5.out h2 (fun q hq => (HO5.out.lt q hq).1))
        have HS9 := Lib.hid (HS5.out.grown h2 (fun e => hneu e.symm))
        clear h1 h2 h3)
      go_roundw
      case rel => exact ⟨k + 1, _, ws ++ [1 + y], by omega, rfl, by go_num, H9.out, Lib.hid ⟨fun x hx => by
          rcases List.mem_append.1 hx with hx | hx
          · exact HY.out.1 x hx
          · rw [List.mem_singleton.1 hx]; omega, by have := HWL.out; simp; omega⟩, HG9.out, Lib.hid (HS9.out.more (by omega))⟩
      case measure => simp [intOf]; omega
    · have hd : decide ((k : Int) < (xs.length : Int)) = false := decide_eq_false (by omega)
      have HK := Lib.hid (show k = xs.length by omega)
      go_wp2
      go_ret2
      have hw1 := HB1.out.size
      have hw3 : w.heap.size ≤ w3.heap.size := Nat.le_trans hw1 HG3.out.size
      have hq : ∀ q, some b = some q → w.heap.size ≤ q := fun q e => by have := Option.some.inj e; have := HBD.out; omega
      exact ⟨_, _, xs, ws, rfl, (HO3.out.grown HG.out (.inr hne1)).mono hw1, HO.out.mono hw3, okWeights_yes HX.out hl HY.out.1 (by rw [HY.out.2, HK.out]), bgrown (bgrown HB1.out HG3.out hq) HG.out hq⟩

end Go.Proofs.Ytoeigifmghfpgaa
