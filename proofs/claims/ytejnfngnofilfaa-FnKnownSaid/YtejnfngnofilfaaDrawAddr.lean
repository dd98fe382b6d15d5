/-
  The addresses that the laws draw.
-/
import Derived.Test.YtejnfngnofilfaaDraw18
import Derived.Test.YtejnfngnofilfaaRuns
namespace Go.Proofs.Ytejnfngnofilfaa
open Go.RowKit

theorem okAddr_yes {n : Nat} {ys : List Int} (hx : ∀ x ∈ ys, 0 ≤ x ∧ x < ((2 ^ n : Nat) : Int)) (hl : ys.length ≤ 8) : okAddr n ys = true := by
  have hE : ex (n : Int) = ((2 ^ n : Nat) : Int) := by simp [ex]
  simp only [okAddr, Bool.and_eq_true, List.all_eq_true, decide_eq_true_eq, inB]
  rw [hE]
  exact ⟨fun x h => by have := hx x h; omega, by omega⟩

set_option maxRecDepth 100000 in
/-- Addresses out of bytes. -/
theorem a2Addresses_any (v : Value) (m : Nat) (n : Nat) (w : World) (hv : BI w v m) (hd : inB 1 4 (n : Int) = true) :
    Calls Try.prog 34 #[v, .int .i64 n] w fun e w' => ∃ v' ys, e = .returned v' ∧ OI 2 w' w.heap.size v' ys ∧ (∀ x ∈ ys, 0 ≤ x ∧ x < ((2 ^ n : Nat) : Int)) ∧ ys.length ≤ 8 ∧ Below w.heap.size w w' := by
  have hn : 1 ≤ n ∧ n ≤ 4 := by simp [inB] at hd; omega
  obtain ⟨hn1, hn4⟩ := hn
  have hE : ex (n : Int) = ((2 ^ n : Nat) : Int) := by simp [ex]
  have hN := pow4 hn4
  have hN2 : 2 ≤ 2 ^ n := by
    obtain ⟨k, rfl⟩ : ∃ k, n = k + 1 := ⟨n - 1, by omega⟩
    have := Nat.one_le_two_pow (n := k)
    rw [Nat.pow_succ]; omega
  have HV := Lib.hid hv
  have HD := Lib.hid hd
  have HE := Lib.hid hE
  generalize 2 ^ n = N at hN HE hN2 ⊢
  clear hv hd hE
  obtain ⟨i0, hi, iz0, iz1, iz2⟩ := info_parts info64
  have HI := Lib.hid hi
  clear hi
  go_enter Try.func34, Try.ntmps34
  go_wp2_with fail
  refine (from_any v m _ HV.out).mono ?_
  rintro e w1 ⟨rfl, hs1, hb1⟩
  have hne : 0 < m → v.ownBlock ≠ some w.heap.size := fun hp e => by have := HV.out.own_lt hp e; omega
  obtain ⟨b, hbd⟩ : ∃ b, b = w.heap.size := ⟨_, rfl⟩
  rw [← hbd] at hs1 hne
  have hblt := hs1.lt.2
  have HS1 := Lib.hid hs1
  have HB1 := Lib.hid hb1
  have HBD := Lib.hid hbd
  rw [← hbd]
  clear hs1 hb1 hbd
  have hA := (Below.refl w1.heap.size w1).alloc (Nat.le_refl _) (.cells #[] 2)
  have HO1 := Lib.hid (OI.lit0 2 w1 w1.heap.size (Nat.le_refl _))
  have HS2 := Lib.hid (HS1.out.below hA)
  have HV2 := Lib.hid ((HV.out.below HB1.out).below hA)
  have HG2 := Lib.hid (grown_below (row := some b) hA)
  clear hA
  go_wp2_with fail
  refine (pick_any v m b w.heap.size 0 9 _ HV2.out (HBD.out ▸ HS2.out) (by omega) hne).mono ?_
  rintro e w3 ⟨z, rfl, z0, _, z1, _, hs3, hg3⟩
  have z9 : z < 9 := z1 (by omega)
  obtain ⟨Y, rfl⟩ : ∃ Y : Nat, z = Y := ⟨z.toNat, by omega⟩
  have HG3 := Lib.hid (grownBy_trans HG2.out hg3)
  have HO3 := Lib.hid (HO1.out.grown hg3 (.inr (fun e => Nat.ne_of_gt hblt (Option.some.inj e))))
  have HS3 := Lib.hid hs3
  have HV3 := Lib.hid ((HV.out.below HB1.out).grown HG3.out hne)
  clear z1 hs3 hg3
  go_wp2_with fail
  go_loopw [6, 7] (fun o i wr => ∃ (k : Nat) (u : Value) (xs : List Int), k ≤ Y ∧ u = o ∧ i = .int .i64 k ∧ OI 2 wr w1.heap.size u xs ∧ Hid ((∀ x ∈ xs, 0 ≤ x ∧ x < (N : Int)) ∧ xs.length + k ≤ 8) ∧ w1.grownBy wr (some b) ∧ Hid (SrcAt wr w.heap.size b v (2 + 2 * (8 - k)))) (fun _ i _ => (intOf i).toNat)
  case atStart => exact ⟨Y, _, [], Nat.le_refl _, rfl, rfl, HO3.out, Lib.hid ⟨by simp, by simp; omega⟩, HG3.out, Lib.hid (HS3.out.more (by omega))⟩
  case round =>
    obtain ⟨k, u, xs, hk, rfl, rfl, ho, HX, hg, HSR⟩ := hrel
    rename World => wo
    have HO := Lib.hid ho
    have HG := Lib.hid hg
    clear ho hg
    by_cases hlt : 0 < k
    · have hd : decide ((0 : Int) < (k : Int)) = true := decide_eq_true (by omega)
      have hd2 : decide (0 < k) = true := decide_eq_true hlt
      obtain ⟨q, hq⟩ : ∃ q, q = k - 1 := ⟨_, rfl⟩
      have HQ := Lib.hid hq
      have hwq : IntKind.i64.wrap ((k : Int) - 1) = (q : Int) := by rw [IntWalk.i64_in _ (by omega)]; omega
      clear hq
      have hln := HX.out.2
      have C2 := Lib.hid (pick_any v m b w.heap.size (2 + 2 * (8 - k)) N wo ((HV.out.below HB1.out).grown HG.out hne) HSR.out (by omega) hne)
      have hne1 : u.ownBlock ≠ some b := fun e => by
        have := (HO.out.lt b e).1
        omega
      go_wp2_with (go_at_call 76; refine (l18Exits_any _ _ HD.out).mono ?_; rintro e w' ⟨rfl, rfl⟩; rw [HE.out])
      refine C2.out.mono ?_
      rintro e w4 ⟨y, rfl, y0, _, y1, _, hs3, hg3⟩
      have yN : y < N := y1 (by omega)
      have HGD := Lib.hid (show Good y by unfold Good; omega)
      have HG4 := Lib.hid (grownBy_trans HG.out hg3)
      have HO4 := Lib.hid (HO.out.grown hg3 (.inr hne1))
      have HS4 := Lib.hid hs3
      have hsz := HG4.out.size
      clear hs3 hg3 y1
      go_wp2_with (
        at_builtin
        refine wpList_app1n rfl _ _ 29 rfl 2 _ i0 Try.underlying29 HI.out iz0 iz1 iz2 w1.heap.size _ _ rfl HO4.out _ _ (by simp) rfl HGD.out (by omega) hsz ?_
        intro v9 w9 h1 h2 h3
        have H9 := Lib.hid h1
        have HG9 := Lib.hid (grown_chain HG4.out h2 (fun q hq => (HO4.out.lt q hq).1))
        have HS9 := Lib.hid (HS4.out.grown h2 (fun e => hne1 e.symm))
        clear h1 h2 h3)
      go_roundw
      case rel =>
        have hq := HQ.out
        exact ⟨q, _, xs ++ [y], by omega, rfl, rfl, H9.out, Lib.hid ⟨fun x hx => by
          rcases List.mem_append.1 hx with hx | hx
          · exact HX.out.1 x hx
          · rw [List.mem_singleton.1 hx]; omega, by simp; omega⟩, HG9.out, Lib.hid (HS9.out.more (by omega))⟩
      case measure =>
        have := HQ.out
        simp [intOf]; omega
    · have hd : decide ((0 : Int) < (k : Int)) = false := decide_eq_false (by omega)
      have hd2 : decide (0 < k) = false := decide_eq_false hlt
      go_wp2
      go_ret
      have hq : ∀ q, some b = some q → w.heap.size ≤ q := fun q e => by have := Option.some.inj e; have := HBD.out; omega
      exact ⟨_, xs, rfl, HO.out.mono HB1.out.size, HX.out.1, by have := HX.out.2; omega, bgrown HB1.out HG.out hq⟩

end Go.Proofs.Ytejnfngnofilfaa
