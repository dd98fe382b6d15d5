/-
  The tests that the laws draw.
-/
import Derived.Test.YtpgnndpjlcihiaaDoorSrcOne
import Derived.Test.YtpgnndpjlcihiaaDoorCut
import Derived.Test.YtpgnndpjlcihiaaDoorSums
import Derived.Test.YtpgnndpjlcihiaaDoorLossInfo
import Derived.Deep.DeepCutAuto
import Derived.Deep.RegionLaw
namespace Go.Proofs.YtpgnndpjlcihiaaDoor
open Go.RowKit

/-- A record of three numbers in a block of the call's own. -/
def BoxAt (w : World) (base q : Nat) (x y z : Int) : Prop := w.ownsRow base 25 3 (.slice (some ⟨q, 0, none⟩) 1 1) 1 [.int .i64 x, .int .i64 y, .int .i64 z]
theorem BoxAt.cells {w : World} {base q : Nat} {x y z : Int} (h : BoxAt w base q x y z) : (w.cell? ⟨q, 0, none⟩ = some (.int .i64 x) ∧ w.cell? ⟨q, 1, none⟩ = some (.int .i64 y) ∧ w.cell? ⟨q, 2, none⟩ = some (.int .i64 z)) ∧ (w.frozen? ⟨q, 0, none⟩ = false ∧ w.frozen? ⟨q, 1, none⟩ = false ∧ w.frozen? ⟨q, 2, none⟩ = false) :=
  ⟨⟨h.cellAt 0 (by decide), h.cellAt 1 (by decide), h.cellAt 2 (by decide)⟩, h.frozenAt 0, h.frozenAt 1, h.frozenAt 2⟩
theorem BoxAt.lt {w : World} {base q : Nat} {x y z : Int} (h : BoxAt w base q x y z) : base ≤ q ∧ q < w.heap.size := World.ownsRow.lt h q rfl
theorem BoxAt.new (w : World) (x y z : Int) : BoxAt (w.alloc (.cells #[.int .i64 x, .int .i64 y, .int .i64 z] 25)) w.heap.size w.heap.size x y z :=
  World.ownsRow_lit (base := w.heap.size) (size := 3) w #[.int .i64 x, .int .i64 y, .int .i64 z] 1 (Nat.le_refl _) (by unfold maxLen; omega) rfl
theorem BoxAt.grown {w w' : World} {base q : Nat} {x y z : Int} {row : Option Nat} (h : BoxAt w base q x y z) (hg : w.grownBy w' row) (hne : some q ≠ row) : BoxAt w' base q x y z := World.ownsRow.kept h hg (.inr hne)
theorem BoxAt.setY {w : World} {base q : Nat} {x y z : Int} (h : BoxAt w base q x y z) (t : Int) : BoxAt (w.setCell ⟨q, 1, none⟩ (.int .i64 t)) base q x t z ∧ w.grownBy (w.setCell ⟨q, 1, none⟩ (.int .i64 t)) (some q) := World.ownsRow.stored h 1 (.int .i64 t)
theorem BoxAt.setZ {w : World} {base q : Nat} {x y z : Int} (h : BoxAt w base q x y z) (t : Int) : BoxAt (w.setCell ⟨q, 2, none⟩ (.int .i64 t)) base q x y t ∧ w.grownBy (w.setCell ⟨q, 2, none⟩ (.int .i64 t)) (some q) := World.ownsRow.stored h 2 (.int .i64 t)
theorem SrcAt_drewN {w : World} {base b : Nat} {v : Value} {m : Nat} (h : SrcAt w base b v m) (k : Nat) : SrcAt (w.drewN k) base b v m := h
theorem good3 {x y z : Int} (hx : Good x) (hy : Good y) (hz : Good z) : ∀ u ∈ P3.f (x, y, z), Good u := fun u hu => by
  have hu : u ∈ [x, y, z] := hu
  simp at hu
  rcases hu with rfl | rfl | rfl <;> assumption

theorem flat_setZ (xs : List (Int × Int × Int)) (i : Nat) (hi : i < xs.length) (z : Int) : P3.flat (xs.set i ((xs.getD i (0, 0, 0)).1, (xs.getD i (0, 0, 0)).2.1, z)) = (P3.flat xs).set (i * 3 + 2) z := by
  obtain ⟨q1, q2, q3⟩ := flat_get3 xs i hi
  have hfl := Enc.flat_length (E := P3) xs
  have hm : P3.m = 3 := rfl
  rw [hm] at hfl
  rw [flat_set3]
  apply List.ext_getElem?
  intro k
  simp only [List.getElem?_set, List.length_set]
  by_cases h2 : i * 3 + 2 = k
  · rw [if_pos h2, if_pos h2]
  · rw [if_neg h2, if_neg h2]
    by_cases h1 : i * 3 + 1 = k
    · rw [if_pos h1, if_pos (by omega), ← h1, q2]
    · rw [if_neg h1]
      by_cases h0 : i * 3 = k
      · rw [if_pos h0, if_pos (by omega), ← h0, q1]
      · rw [if_neg h0]

set_option maxRecDepth 100000 in
set_option maxHeartbeats 8000000 in
theorem l15Draw_any (v : Value) (m b base : Nat) (w : World) (hv : BI w v m) (hs : SrcAt w base b v 0) (hne : 0 < m → v.ownBlock ≠ some b) :
    Calls Tryd.prog 56 #[.pointer (some ⟨b, 0, none⟩)] w fun e w' => ∃ (S : Nat) (v' : Value) (xs : List (Int × Int × Int)), e = .returned (.tuple #[.int .i64 S, v']) ∧ 1 ≤ S ∧ S ≤ 6 ∧ OS P3 25 w' w.heap.size v' xs ∧ xs.length ≤ 5 ∧ w.grownBy w' (some b) ∧ SrcAt w' base b v 100 := by
  have HV := Lib.hid hv
  have hblt := hs.lt.2
  have C1 := Lib.hid (pick_any v m b base 0 6 w hv hs (by omega) hne)
  clear hv hs
  obtain ⟨i0, hi, iz0, iz1, iz2⟩ := info_parts info64
  have HI := Lib.hid hi
  obtain ⟨j0, hj, jz0, jz1, jz2⟩ := info_parts infoLoss
  have HJ := Lib.hid hj
  clear hi hj
  go_enter Tryd.func56, Tryd.ntmps56
  go_wp2_with fail
  refine C1.out.mono ?_
  rintro e w1 ⟨y, rfl, y0, _, y1, _, hs1, hg1⟩
  have y6 : y < 6 := y1 (by omega)
  obtain ⟨S, hS⟩ : ∃ S : Nat, S = y.toNat + 1 := ⟨_, rfl⟩
  have hwS : IntKind.i64.wrap (1 + y) = (S : Int) := by rw [IntWalk.i64_in _ (by omega)]; omega
  have hS1 : 1 ≤ S := by omega
  have hS6 : S ≤ 6 := by omega
  have hsz01 := hg1.size
  have HB2 := Lib.hid ((Below.refl w1.heap.size w1).alloc (Nat.le_refl _) (.cells #[] 2))
  have HG2 := Lib.hid (grownBy_trans hg1 (grown_below (row := some b) HB2.out))
  have HS2 := Lib.hid (hs1.below HB2.out)
  have HO2 := Lib.hid (OI.lit0 2 w1 w1.heap.size (Nat.le_refl _))
  clear y1 hs1 hg1 hS y0 y6
  go_wp2_with fail
  go_loopw [5, 6] (fun o i wr => ∃ (k : Nat) (u : Value) (ls : List Int), k ≤ S ∧ u = o ∧ i = .int .i64 k ∧ Hid (OI 2 wr w1.heap.size u ls) ∧ Hid ((∀ x ∈ ls, 0 ≤ x ∧ x ≤ 19) ∧ ls.length + k = S) ∧ w.grownBy wr (some b) ∧ w1.heap.size ≤ wr.heap.size ∧ Hid (SrcAt wr base b v (2 + 4 * (6 - k)))) (fun _ i _ => (intOf i).toNat)
  case atStart => exact ⟨S, _, [], Nat.le_refl _, rfl, rfl, HO2, Lib.hid ⟨by simp, by simp⟩, HG2.out, HB2.out.size, Lib.hid (HS2.out.more (by omega))⟩
  case round =>
    obtain ⟨k, u, ls, hk, rfl, rfl, HO, HX, hg, hzo, HSR⟩ := hrel
    rename World => wo
    have HG := Lib.hid hg
    clear hg
    have hne1 : u.ownBlock ≠ some b := fun e => by
      have := (HO.out.lt b e).1
      omega
    by_cases hlt : 0 < k
    · have hd : decide ((0 : Int) < (k : Int)) = true := decide_eq_true (by omega)
      have hd2 : decide (0 < k) = true := decide_eq_true hlt
      obtain ⟨q, hq⟩ : ∃ q, q = k - 1 := ⟨_, rfl⟩
      have HQ := Lib.hid hq
      have hwq : IntKind.i64.wrap ((k : Int) - 1) = (q : Int) := by rw [IntWalk.i64_in _ (by omega)]; omega
      clear hq
      have hln : ls.length ≤ 6 := by have := HX.out.2; omega
      have C2 := Lib.hid (pick_any v m b base (2 + 4 * (6 - k)) 20 wo (HV.out.grown HG.out hne) HSR.out (by omega) hne)
      go_wp2_with fail
      refine C2.out.mono ?_
      rintro e w2 ⟨z, rfl, z0, _, z1, _, hs3, hg3⟩
      have z20 : z < 20 := z1 (by omega)
      have HG3 := Lib.hid (grownBy_trans HG.out hg3)
      have HO3 := Lib.hid (HO.out.grown hg3 (.inr hne1))
      have hz23 := hg3.size
      have C3 := Lib.hid (one_any v m b base (2 + 4 * (6 - k) + 2) 2 w2 (HV.out.grown HG3.out hne) hs3 (by omega) hne)
      clear hs3 hg3 z1
      go_wp2_with fail
      refine C3.out.mono ?_
      rintro e w3 ⟨yn, rfl, hs4, hg4⟩
      have HG4 := Lib.hid (grownBy_trans HG3.out hg4)
      have HO4 := Lib.hid (HO3.out.grown hg4 (.inr hne1))
      have HS4 := Lib.hid hs4
      have hsz : w1.heap.size ≤ w3.heap.size := Nat.le_trans (Nat.le_trans hzo hz23) hg4.size
      clear hs4 hg4
      cases yn with
      | true =>
        go_wp2_with (
          at_builtin
          refine wpList_app1n rfl _ _ 33 rfl 2 _ i0 Tryd.underlying33 HI.out iz0 iz1 iz2 w1.heap.size _ _ rfl HO4.out _ _ (by simp) rfl (by unfold Good; omega) (by omega) hsz ?_
          intro v9 w9 h1 h2 h3
          have H9 := Lib.hid h1
          have HG9 := Lib.hid (grown_chain HG4.out h2 (fun q hq => Nat.le_trans hsz01 (HO4.out.lt q hq).1))
          have HS9 := Lib.hid (HS4.out.grown h2 (fun e => hne1 e.symm))
          have hz9 := Nat.le_trans hsz h2.size
          clear h1 h2 h3)
        go_roundw
        case rel =>
          have hq := HQ.out
          exact ⟨q, _, ls ++ [0], by omega, rfl, rfl, H9, Lib.hid ⟨fun x hx => by
            rcases List.mem_append.1 hx with hx | hx
            · exact HX.out.1 x hx
            · rw [List.mem_singleton.1 hx]; omega, by have := HX.out.2; simp; omega⟩, HG9.out, hz9, Lib.hid (HS9.out.more (by omega))⟩
        case measure =>
          have := HQ.out
          simp [intOf]; omega
      | false =>
        have HGD := Lib.hid (show Good z by unfold Good; omega)
        go_wp2_with (
          at_builtin
          refine wpList_app1n rfl _ _ 33 rfl 2 _ i0 Tryd.underlying33 HI.out iz0 iz1 iz2 w1.heap.size _ _ rfl HO4.out _ _ (by simp) rfl HGD.out (by omega) hsz ?_
          intro v9 w9 h1 h2 h3
          have H9 := Lib.hid h1
          have HG9 := Lib.hid (grown_chain HG4.out h2 (fun q hq => Nat.le_trans hsz01 (HO4.out.lt q hq).1))
          have HS9 := Lib.hid (HS4.out.grown h2 (fun e => hne1 e.symm))
          have hz9 := Nat.le_trans hsz h2.size
          clear h1 h2 h3)
        go_roundw
        case rel =>
          have hq := HQ.out
          exact ⟨q, _, ls ++ [z], by omega, rfl, rfl, H9, Lib.hid ⟨fun x hx => by
            rcases List.mem_append.1 hx with hx | hx
            · exact HX.out.1 x hx
            · rw [List.mem_singleton.1 hx]; omega, by have := HX.out.2; simp; omega⟩, HG9.out, hz9, Lib.hid (HS9.out.more (by omega))⟩
        case measure =>
          have := HQ.out
          simp [intOf]; omega
    · have hd : decide ((0 : Int) < (k : Int)) = false := decide_eq_false (by omega)
      have hd2 : decide (0 < k) = false := decide_eq_false hlt
      have hll : ls.length = S := by have := HX.out.2; omega
      obtain ⟨au, cu, hsh⟩ := HO.out.ri.shape
      rw [hll] at hsh
      subst hsh
      have HLL := Lib.hid hll
      have HXX := Lib.hid HX.out.1
      have HB3 := Lib.hid ((Below.refl wo.heap.size wo).alloc (Nat.le_refl _) (.cells #[] 25))
      have HG3 := Lib.hid (grownBy_trans HG.out (grown_below (row := some b) HB3.out))
      have HO3 := Lib.hid (HO.out.below HB3.out)
      have HL3 := Lib.hid (OS.lit0 (E := P3) 25 wo wo.heap.size (Nat.le_refl _))
      have C4 := Lib.hid (pick_any v m b base 26 6 _ ((HV.out.grown HG.out hne).below HB3.out) ((HSR.out.below HB3.out).more (by omega)) (by omega) hne)
      have hszo := HG.out.size
      have hblo : b < wo.heap.size := Nat.lt_of_lt_of_le hblt hszo
      clear hll
      go_wp2_with fail
      refine C4.out.mono ?_
      rintro e w4 ⟨z, rfl, z0, _, z1, _, hs4, hg4⟩
      have z6 : z < 6 := z1 (by omega)
      obtain ⟨Z, rfl⟩ : ∃ Z : Nat, z = Z := ⟨z.toNat, by omega⟩
      have HG4 := Lib.hid (grownBy_trans HG3.out hg4)
      have HS4 := Lib.hid hs4
      have HO4 := Lib.hid (HO3.out.grown hg4 (.inr hne1))
      have HSZ4 := Lib.hid (Nat.le_trans HB3.out.size hg4.size)
      have hneq : (Value.slice (some ⟨wo.heap.size, 0, none⟩) 0 0).ownBlock ≠ some b := fun e => by
        have e : wo.heap.size = b := by simpa [Value.ownBlock] using e
        omega
      have HL4 := Lib.hid (HL3.out.grown hg4 (.inr hneq))
      clear z1 hs4 hg4
      go_wp2_with fail
      go_loopw [8, 9] (fun o i wr => ∃ (k : Nat) (t : Value) (xs : List (Int × Int × Int)), k ≤ Z ∧ t = o ∧ i = .int .i64 k ∧ Hid (OS P3 25 wr wo.heap.size t xs) ∧ xs.length + k ≤ 5 ∧ Hid (∀ x ∈ xs, 0 ≤ x.2.2 ∧ x.2.2 ≤ 200) ∧ Hid (OI 2 wr w1.heap.size (.slice au S cu) ls) ∧ w.grownBy wr (some b) ∧ wo.heap.size ≤ wr.heap.size ∧ Hid (SrcAt wr base b v (28 + 4 * (5 - k)))) (fun _ i _ => (intOf i).toNat)
      case atStart => exact ⟨Z, _, [], Nat.le_refl _, rfl, rfl, HL4, by simp; omega, Lib.hid (by simp), HO4, HG4.out, HSZ4.out, Lib.hid (HS4.out.more (by omega))⟩
      case round =>
        rename World => wr
        obtain ⟨k, t, xs, hk, rfl, rfl, HT, hxk, HXB, HOL, hg, hszr, HSR⟩ := hrel
        have HG := Lib.hid hg
        clear hg
        have hnet : t.ownBlock ≠ some b := fun e => by
          have := (HT.out.lt b e).1
          omega
        by_cases hlt : 0 < k
        · have hd : decide ((0 : Int) < (k : Int)) = true := decide_eq_true (by omega)
          have hd2 : decide (0 < k) = true := decide_eq_true hlt
          obtain ⟨q, hq⟩ : ∃ q, q = k - 1 := ⟨_, rfl⟩
          have HQ := Lib.hid hq
          have hwq : IntKind.i64.wrap ((k : Int) - 1) = (q : Int) := by rw [IntWalk.i64_in _ (by omega)]; omega
          clear hq
          have C5 := Lib.hid (pick_any v m b base (28 + 4 * (5 - k)) (S : Int) wr (HV.out.grown HG.out hne) HSR.out (by omega) hne)
          go_wp2_with fail
          refine C5.out.mono ?_
          rintro e w5 ⟨f, rfl, f0, _, f1, f2, hs5, hg5⟩
          have fS : f < (S : Int) := pick_lt f1 f2 (by omega)
          obtain ⟨F, rfl⟩ : ∃ F : Nat, f = F := ⟨f.toNat, by omega⟩
          have HG5 := Lib.hid (grownBy_trans HG.out hg5)
          have HT5 := Lib.hid (HT.out.grown hg5 (.inr hnet))
          have HOL5 := Lib.hid (HOL.out.grown hg5 (.inr hne1))
          have HS5 := Lib.hid hs5
          have hsz5 : wo.heap.size ≤ w5.heap.size := Nat.le_trans hszr hg5.size
          have HBX := Lib.hid (BoxAt.new w5 (F : Int) 0 0)
          have HB6 := Lib.hid ((Below.refl w5.heap.size w5).alloc (Nat.le_refl _) (.cells #[.int .i64 (F : Int), .int .i64 0, .int .i64 0] 25))
          obtain ⟨⟨x0, x1, x2⟩, x3, x4, x5⟩ := HBX.out.cells
          have HG6 := Lib.hid (grownBy_trans HG5.out (grown_below (row := some b) HB6.out))
          have HS6 := Lib.hid (HS5.out.below HB6.out)
          have HT6 := Lib.hid (HT5.out.below HB6.out)
          have HOL6 := Lib.hid (HOL5.out.below HB6.out)
          have hw1 : IntKind.i64.wrap ((F : Int) + 1) = (F : Int) + 1 := IntWalk.i64_in _ (by omega)
          have hw2 : IntKind.i64.wrap ((S : Int) - (F : Int)) = (S : Int) - (F : Int) := IntWalk.i64_in _ (by omega)
          have hbw5 : b < w5.heap.size := by omega
          clear hs5 hg5 f1 f2 f0
          go_upto_region 15 with fail
          have hq0 : w5.heap.size ≠ b := fun e => by omega
          have hnq1 : (Value.slice au S cu).ownBlock ≠ some w5.heap.size := fun e => by have := (HOL5.out.lt _ e).2; omega
          have hnq2 : t.ownBlock ≠ some w5.heap.size := fun e => by have := (HT5.out.lt _ e).2; omega
          have hszB := HB6.out.size
          have HBD := Lib.hid (show Below (w5.alloc (.cells #[.int .i64 (F : Int), .int .i64 0, .int .i64 0] 25)).heap.size (w5.alloc (.cells #[.int .i64 (F : Int), .int .i64 0, .int .i64 0] 25)) (w5.alloc (.cells #[.int .i64 (F : Int), .int .i64 0, .int .i64 0] 25)).drew from (Below.refl _ _).drew)
          have HVD := Lib.hid (HV.out.grown HG6.out hne)
          generalize hw6 : w5.alloc (.cells #[.int .i64 (F : Int), .int .i64 0, .int .i64 0] 25) = w6 at HBX HB6 x0 x1 x2 x3 x4 x5 HG6 HS6 HT6 HOL6 HBD HVD hszB ⊢
          generalize w5.heap.size = q5 at HBX HB6 x0 x1 x2 x3 x4 x5 hq0 hsz5 hbw5 hnq1 hnq2 hszB ⊢
          have CP := Lib.hid (pick_any v m b base (28 + 4 * (5 - k) + 2) ((S : Int) - (F : Int)) w6.drew (HVD.out.below HBD.out) (HS6.out.below HBD.out) (by omega) hne)
          have hsz6 : wo.heap.size ≤ w6.heap.size := Nat.le_trans hsz5 hszB
          clear hw6
          go_cut [] (fun w7 => ∃ T : Nat, F < T ∧ T ≤ S ∧ Hid (BoxAt w7 q5 q5 (F : Int) (T : Int) 0) ∧ Hid (w.grownBy w7 (some b)) ∧ Hid (SrcAt w7 base b v (28 + 4 * (5 - k) + 4)) ∧ Hid (OI 2 w7 w1.heap.size (.slice au S cu) ls) ∧ Hid (OS P3 25 w7 wo.heap.size t xs) ∧ wo.heap.size ≤ w7.heap.size ∧ q5 < w7.heap.size)
          case first =>
            go_region_law (first
              | (go_simp
                 go_at_call 46
                 refine CP.out.mono ?_
                 rintro e w8 ⟨g, rfl, g0, _, g1, g2, hs8, hg8⟩
                 have gS : g < (S : Int) - (F : Int) := pick_lt g1 g2 (by omega)
                 obtain ⟨T, hT⟩ : ∃ T : Nat, (T : Int) = (F : Int) + 1 + g := ⟨((F : Int) + 1 + g).toNat, by omega⟩
                 have hwT : IntKind.i64.wrap ((F : Int) + 1 + g) = (T : Int) := by rw [IntWalk.i64_in _ (by omega)]; omega
                 have hFT : F < T := by omega
                 have hTS : T ≤ S := by omega
                 have hbx8 := (HBX.out.grown (grown_below (row := some b) HBD.out) (fun e => hq0 (Option.some.inj e))).grown hg8 (fun e => hq0 (Option.some.inj e))
                 obtain ⟨⟨u0, u1, u2⟩, u3, u4, u5⟩ := hbx8.cells
                 have hY := hbx8.setY (T : Int)
                 have HY := Lib.hid hY.1
                 have HG8 := Lib.hid (grown_chain (grownBy_trans (grownBy_trans HG6.out (grown_below (row := some b) HBD.out)) hg8) hY.2 (fun z hz => by have : q5 = z := Option.some.inj hz; omega))
                 have HS8 := Lib.hid (hs8.grown hY.2 (fun e => hq0 (Option.some.inj e).symm))
                 have HO8 := Lib.hid (((HOL6.out.below HBD.out).grown hg8 (.inr hne1)).grown hY.2 (.inr hnq1))
                 have HT8 := Lib.hid (((HT6.out.below HBD.out).grown hg8 (.inr hnet)).grown hY.2 (.inr hnq2))
                 have hz8 : wo.heap.size ≤ (w8.setCell ⟨q5, 1, none⟩ (.int .i64 (T : Int))).heap.size := Nat.le_trans (Nat.le_trans hsz6 (Nat.le_trans HBD.out.size hg8.size)) hY.2.size
                 have hz9 : q5 < (w8.setCell ⟨q5, 1, none⟩ (.int .i64 (T : Int))).heap.size := HY.out.lt.2
                 clear hY hs8 hg8 hbx8 g1 g2 hT gS g0))
            all_goals
              (go_wp2_with fail
               go_meet
               case rel => exact ⟨T, hFT, hTS, HY, HG8, HS8, HO8, HT8, hz8, hz9⟩)
          case rest =>
            obtain ⟨T, hFT, hTS, HBX7, HG7, HS7, HO7, HT7, hz7, hq7⟩ := hcut
            rename World => w7
            obtain ⟨⟨u0, u1, u2⟩, u3, u4, u5⟩ := HBX7.out.cells
            obtain ⟨va, hva, hca⟩ := cutI HO7.out.ri F T (by omega) (by rw [HLL.out]; exact hTS)
            have hca' := fun W => hca W (F : Int) (T : Int) rfl rfl
            have hsum : ∀ j, Good (sumI (((ls.take T).drop F).take j)) := fun j => by
              have h1 := sumI_bound (((ls.take T).drop F).take j) 19 (fun x hx => HXX.out x (List.mem_of_mem_take (List.mem_of_mem_drop (List.mem_of_mem_take hx))))
              have h2 : (((ls.take T).drop F).take j).length ≤ 6 := by
                rw [List.length_take, List.length_drop, List.length_take, HLL.out]; omega
              unfold Good
              omega
            have CS := Lib.hid (l00Sum_any va _ w7 hva hsum)
            have hgs := hsum ((ls.take T).drop F).length
            rw [List.take_length] at hgs
            have hsb := sumI_bound ((ls.take T).drop F) 19 (fun x hx => HXX.out x (List.mem_of_mem_take (List.mem_of_mem_drop hx)))
            have hsl : ((ls.take T).drop F).length ≤ 6 := by rw [List.length_drop, List.length_take, HLL.out]; omega
            generalize ((ls.take T).drop F).length = ll at hsb hsl
            generalize sumI ((ls.take T).drop F) = sm at CS hgs hsb
            have HXN := Lib.hid (show ∀ x ∈ xs ++ [((F : Int), (T : Int), sm)], 0 ≤ x.2.2 ∧ x.2.2 ≤ 200 from fun x hx => by
              rcases List.mem_append.1 hx with hx | hx
              · exact HXB.out x hx
              · rw [List.mem_singleton.1 hx]; simp only; omega)
            have HGD := Lib.hid (good3 (show Good (F : Int) by unfold Good; omega) (show Good (T : Int) by unfold Good; omega) hgs)
            clear hca hva hsum
            go_wp2_with fail
            refine CS.out.mono ?_
            rintro e w8 ⟨rfl, rfl⟩
            have hZ := HBX7.out.setZ sm
            have HZ := Lib.hid hZ.1
            have HG8 := Lib.hid (grown_chain HG7.out hZ.2 (fun z hz => by have : q5 = z := Option.some.inj hz; omega))
            have HS8 := Lib.hid (HS7.out.grown hZ.2 (fun e => hq0 (Option.some.inj e).symm))
            have HO8 := Lib.hid (HO7.out.grown hZ.2 (.inr hnq1))
            have HT8 := Lib.hid (HT7.out.grown hZ.2 (.inr hnq2))
            have hz8 := Nat.le_trans hz7 hZ.2.size
            have hapt : Apart t (.slice au S cu) := fun q h1 h2 => by
              have := (HT.out.lt q h1).1
              have := (HO.out.lt q h2).2
              omega
            have HAPT := Lib.hid hapt
            obtain ⟨⟨s0, s1, s2⟩, s3, s4, s5⟩ := HZ.out.cells
            clear hZ hapt
            go_wp2_with (
              at_builtin
              refine wpList_appS (E := P3) rfl _ _ 30 rfl 25 _ j0 _ Tryd.underlying30 HJ.out jz0 rfl jz1 24 jz2 (by decide) wo.heap.size _ xs rfl HT8.out ((F : Int), (T : Int), sm) _ rfl _ (by simp) rfl HGD.out (by omega) hz8 ?_
              intro v9 w9 h1 h2 h3
              have H9 := Lib.hid h1
              have HG9 := Lib.hid (grown_chain HG8.out h2 (fun z hz => Nat.le_trans hszo (HT8.out.lt z hz).1))
              have HS9 := Lib.hid (HS8.out.grown h2 (fun e => hnet e.symm))
              have HO9 := Lib.hid (HO8.out.other h2 HAPT.out)
              have hz9 := Nat.le_trans hz8 h2.size
              clear h1 h2 h3)
            go_roundw
            case rel =>
              have hq := HQ.out
              exact ⟨q, _, xs ++ [((F : Int), (T : Int), sm)], by omega, rfl, rfl, H9, by simp; omega, HXN, HO9, HG9.out, hz9, Lib.hid (HS9.out.more (by omega))⟩
            case measure =>
              have := HQ.out
              simp [intOf]; omega
        · have hd : decide ((0 : Int) < (k : Int)) = false := decide_eq_false (by omega)
          have hd2 : decide (0 < k) = false := decide_eq_false hlt
          have HT := Lib.hid (HT.out.mono (Nat.le_trans hszo (Nat.le_refl _)))
          by_cases hx0 : 0 < xs.length
          · obtain ⟨N, hN⟩ : ∃ N, N = xs.length := ⟨_, rfl⟩
            obtain ⟨_, h0⟩ | ⟨gt, ct, rfl, hg1, hg2⟩ := HT.out.shape
            · rw [h0] at hx0; simp at hx0
            · rw [← hN] at HT hx0 hxk hnet ⊢
              have HN := Lib.hid hN
              clear hN
              have hdn : decide ((0 : Int) < (N : Int)) = true := decide_eq_true (by omega)
              have hdn2 : decide (0 < N) = true := decide_eq_true hx0
              have C6 := Lib.hid (one_any v m b base (28 + 4 * (5 - k)) 6 wr (HV.out.grown HG.out hne) HSR.out (by omega) hne)
              go_wp2_with fail
              refine C6.out.mono ?_
              rintro e w6 ⟨yn, rfl, hs6, hg6⟩
              have HG6 := Lib.hid (grownBy_trans HG.out hg6)
              have HT6 := Lib.hid (HT.out.grown hg6 (.inr hnet))
              have HS6 := Lib.hid hs6
              clear hs6 hg6
              cases yn with
              | false =>
                go_wp2
                go_ret2
                exact ⟨S, _, xs, rfl, hS1, hS6, HT6.out, by have := HN.out; omega, HG6.out, HS6.out.more (by omega)⟩
              | true =>
                have C7 := Lib.hid (pick_any v m b base (28 + 4 * (5 - k) + 2) (N : Int) w6 (HV.out.grown HG6.out hne) HS6.out (by omega) hne)
                go_wp2_with fail
                refine C7.out.mono ?_
                rintro e w7 ⟨y7, rfl, y70, _, y71, y72, hs7, hg7⟩
                have y7N : y7 < (N : Int) := pick_lt y71 y72 (by omega)
                obtain ⟨Y, rfl⟩ : ∃ Y : Nat, y7 = Y := ⟨y7.toNat, by omega⟩
                have HG7 := Lib.hid (grownBy_trans HG6.out hg7)
                have HT7 := Lib.hid (HT6.out.grown hg7 (.inr hnet))
                have hYx : Y < xs.length := by rw [← HN.out]; omega
                obtain ⟨_, _, c1, c2⟩ := HT7.out.cells3 Y hYx
                have hmem : xs.getD Y (0, 0, 0) ∈ xs := by simp only [List.getD, List.getElem?_eq_getElem hYx, Option.getD_some]; exact List.getElem_mem hYx
                have hb := HXB.out _ hmem
                have hset := HT7.out.set (ys := xs.set Y ((xs.getD Y (0, 0, 0)).1, (xs.getD Y (0, 0, 0)).2.1, (xs.getD Y (0, 0, 0)).2.2 + 1)) (Y * 3 + 2) ((xs.getD Y (0, 0, 0)).2.2 + 1) (by unfold Good; omega) (flat_setZ xs Y hYx _)
                generalize (xs.getD Y (0, 0, 0)).2.2 = z3 at c1 hb hset
                have hwz : IntKind.i64.wrap (z3 + 1) = z3 + 1 := IntWalk.i64_in _ (by omega)
                have HST := Lib.hid hset.1
                have HGS := Lib.hid (grown_chain HG7.out hset.2 (fun z hz => by
                  have : gt = z := by simpa using hz
                  omega))
                have HSS := Lib.hid (hs7.grown hset.2 (fun e => hnet (by simpa [Value.ownBlock] using e.symm)))
                have hYN : (Y : Int) < N := by omega
                have hY0 : (0 : Int) ≤ Y := by omega
                clear hset hs7 hg7 hb hmem
                go_wp2
                go_ret2
                exact ⟨S, _, _, rfl, hS1, hS6, HST.out, by rw [List.length_set]; have := HN.out; omega, HGS.out, HSS.out.more (by omega)⟩
          · have h0 : xs.length = 0 := by omega
            obtain ⟨at', ct, hsh⟩ := HT.out.si.shape
            rw [h0] at hsh
            subst hsh
            go_wp2
            go_ret2
            exact ⟨S, _, xs, rfl, hS1, hS6, HT.out, by omega, HG.out, HSR.out.more (by omega)⟩

end Go.Proofs.YtpgnndpjlcihiaaDoor
