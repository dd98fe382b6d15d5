/-
  l15Bent: a drawn list of tests, one of them bent.
-/
import Derived.Test.YtpgnndpjlcihiaaDoorDraw15
import Derived.Test.YtpgnndpjlcihiaaDoorAmong
namespace Go.Proofs.YtpgnndpjlcihiaaDoor
open Go.RowKit

theorem OI.litL (e : TypeId) (w : World) (xs : List Int) (n : Nat) (hn : xs.length = n) (hm : n ≤ maxLen) (hg : ∀ x ∈ xs, Good x) : OI e (w.alloc (.cells (xs.map (Value.int .i64)).toArray e)) w.heap.size (.slice (some ⟨w.heap.size, 0, none⟩) n n) xs := by
  subst hn
  refine ⟨?_, hg⟩
  have := World.ownsRow_lit (base := w.heap.size) (e := e) (size := 1) w (xs.map (Value.int .i64)).toArray xs.length (Nat.le_refl _) hm (by simp)
  simpa using this

theorem l00MaxL_any (a b : Int) (w : World) : Calls Tryd.prog 54 #[.int .i64 a, .int .i64 b] w fun e w' => e = .returned (.int .i64 (max a b)) ∧ w = w' := by
  by_cases h : b < a
  · go_enter Tryd.func54, Tryd.ntmps54
    go_wp2
    go_ret
    exact ⟨ret_int (by omega), rfl⟩
  · go_enter Tryd.func54, Tryd.ntmps54
    go_wp2
    go_ret
    exact ⟨ret_int (by omega), rfl⟩

set_option maxRecDepth 100000 in
set_option maxHeartbeats 8000000 in
theorem l15Bent_any (v : Value) (m b base : Nat) (w : World) (hv : BI w v m) (hs : SrcAt w base b v 0) (hne : 0 < m → v.ownBlock ≠ some b) :
    Calls Tryd.prog 34 #[.pointer (some ⟨b, 0, none⟩)] w fun e w' => ∃ (n : Int) (v' : Value) (xs : List (Int × Int × Int)), e = .returned (.tuple #[.int .i64 n, v']) ∧ Good n ∧ OS P3 25 w' w.heap.size v' xs ∧ xs.length ≤ 21 ∧ w.grownBy w' (some b) ∧ SrcAt w' base b v 120 := by
  have HV := Lib.hid hv
  have hblt := hs.lt.2
  have C1 := Lib.hid (l15Draw_any v m b base w hv hs hne)
  clear hv hs
  obtain ⟨j0, hj, jz0, jz1, jz2⟩ := info_parts infoLoss
  have HJ := Lib.hid hj
  clear hj
  go_enter Tryd.func34, Tryd.ntmps34
  go_wp2_with fail
  refine C1.out.mono ?_
  rintro e w1 ⟨S, v1, xs, rfl, hS1, hS6, ho1, hx, hg1, hs1⟩
  have HO1 := Lib.hid ho1
  have HG1 := Lib.hid hg1
  have hne1 : v1.ownBlock ≠ some b := fun e => by
    have := (HO1.out.lt b e).1
    omega
  have C2 := Lib.hid (pick_any v m b base 100 24 w1 (HV.out.grown HG1.out hne) hs1 (by omega) hne)
  have hGS : Good (S : Int) := by unfold Good; omega
  have HGS := Lib.hid hGS
  clear ho1 hg1 hs1 hGS
  go_wp2_with fail
  refine C2.out.mono ?_
  rintro e w2 ⟨z, rfl, z0, _, z1, _, hs2, hg2⟩
  have HG2 := Lib.hid (grownBy_trans HG1.out hg2)
  have HS2 := Lib.hid hs2
  have HO2 := Lib.hid (HO1.out.grown hg2 (.inr hne1))
  have hsz02 := HG2.out.size
  clear hs2 hg2 z1
  by_cases hz0 : z = 0
  · subst hz0
    have HBA := Lib.hid ((Below.refl w2.heap.size w2).alloc (Nat.le_refl _) (.cells (([-1, 0, 1, 9, 10, -9223372036854775808] : List Int).map (Value.int .i64)).toArray 2))
    have HLA := Lib.hid (OI.litL 2 w2 [-1, 0, 1, 9, 10, -9223372036854775808] 6 rfl (by unfold maxLen; omega) (by
      intro x hx
      simp only [List.mem_cons, List.not_mem_nil, or_false] at hx
      unfold Good
      omega))
    have hltLA := HG2.out.size
    have hneLA : (Value.slice (some ⟨w2.heap.size, 0, none⟩) 6 6).ownBlock ≠ some b := fun e => by
      have : w2.heap.size = b := by simpa [Value.ownBlock] using e
      omega
    have CAA := Lib.hid (among_any v m b base 102 (.slice (some ⟨w2.heap.size, 0, none⟩) 6 6) [-1, 0, 1, 9, 10, -9223372036854775808] _ ((HV.out.grown HG2.out hne).below HBA.out) (HS2.out.below HBA.out) (by omega) hne HLA.out.ri (by simp) hneLA)
    have HGBA := Lib.hid (grownBy_trans HG2.out (grown_below (row := some b) HBA.out))
    simp only [List.map_cons, List.map_nil] at CAA HGBA HBA
    have HOA := Lib.hid (HO2.out.below HBA.out)
    go_wp2_with fail
    refine CAA.out.mono ?_
    rintro e w3 ⟨y, rfl, hy, hs3, hg3⟩
    have hgy : Good y := HLA.out.2 y hy
    have HG3 := Lib.hid (grownBy_trans HGBA.out hg3)
    have HO3 := Lib.hid (HOA.out.grown hg3 (.inr hne1))
    have HS3 := Lib.hid hs3
    clear hy hs3 hg3
    go_wp2
    go_ret2
    exact ⟨y, _, xs, rfl, hgy, HO3.out, by omega, HG3.out, HS3.out.more (by omega)⟩
  by_cases hz1 : z = 1
  · subst hz1
    have hw1 : IntKind.i64.wrap ((S : Int) - 1) = (S : Int) - 1 := IntWalk.i64_in _ (by omega)
    have hw2 : IntKind.i64.wrap ((S : Int) + 1) = (S : Int) + 1 := IntWalk.i64_in _ (by omega)
    have HBA := Lib.hid ((Below.refl w2.heap.size w2).alloc (Nat.le_refl _) (.cells (([-1, 0, (S : Int) - 1, (S : Int)] : List Int).map (Value.int .i64)).toArray 2))
    have HLA := Lib.hid (OI.litL 2 w2 [-1, 0, (S : Int) - 1, (S : Int)] 4 rfl (by unfold maxLen; omega) (by
      intro x hx
      simp only [List.mem_cons, List.not_mem_nil, or_false] at hx
      unfold Good
      omega))
    have hltLA := HG2.out.size
    have hneLA : (Value.slice (some ⟨w2.heap.size, 0, none⟩) 4 4).ownBlock ≠ some b := fun e => by
      have : w2.heap.size = b := by simpa [Value.ownBlock] using e
      omega
    have CAA := Lib.hid (among_any v m b base 102 (.slice (some ⟨w2.heap.size, 0, none⟩) 4 4) [-1, 0, (S : Int) - 1, (S : Int)] _ ((HV.out.grown HG2.out hne).below HBA.out) (HS2.out.below HBA.out) (by omega) hne HLA.out.ri (by simp) hneLA)
    have HGBA := Lib.hid (grownBy_trans HG2.out (grown_below (row := some b) HBA.out))
    simp only [List.map_cons, List.map_nil] at CAA HGBA HBA
    have HOA := Lib.hid (HO2.out.below HBA.out)
    go_wp2_with fail
    refine CAA.out.mono ?_
    rintro e w3 ⟨y, rfl, hy, hs3, hg3⟩
    have hgy : Good y := HLA.out.2 y hy
    have HGY := Lib.hid hgy
    have HG3 := Lib.hid (grownBy_trans HGBA.out hg3)
    have HO3 := Lib.hid (HOA.out.grown hg3 (.inr hne1))
    have HS3 := Lib.hid hs3
    clear hy hs3 hg3 hgy
    have HBB := Lib.hid ((Below.refl w3.heap.size w3).alloc (Nat.le_refl _) (.cells (([0, 1, (S : Int), (S : Int) + 1] : List Int).map (Value.int .i64)).toArray 2))
    have HLB := Lib.hid (OI.litL 2 w3 [0, 1, (S : Int), (S : Int) + 1] 4 rfl (by unfold maxLen; omega) (by
      intro x hx
      simp only [List.mem_cons, List.not_mem_nil, or_false] at hx
      unfold Good
      omega))
    have hltLB := HG3.out.size
    have hneLB : (Value.slice (some ⟨w3.heap.size, 0, none⟩) 4 4).ownBlock ≠ some b := fun e => by
      have : w3.heap.size = b := by simpa [Value.ownBlock] using e
      omega
    have CAB := Lib.hid (among_any v m b base 104 (.slice (some ⟨w3.heap.size, 0, none⟩) 4 4) [0, 1, (S : Int), (S : Int) + 1] _ ((HV.out.grown HG3.out hne).below HBB.out) (HS3.out.below HBB.out) (by omega) hne HLB.out.ri (by simp) hneLB)
    have HGBB := Lib.hid (grownBy_trans HG3.out (grown_below (row := some b) HBB.out))
    simp only [List.map_cons, List.map_nil] at CAB HGBB HBB
    have HOB := Lib.hid (HO3.out.below HBB.out)
    go_wp2_with fail
    refine CAB.out.mono ?_
    rintro e w4 ⟨y2, rfl, hy2, hs4, hg4⟩
    have hgy2 : Good y2 := HLB.out.2 y2 hy2
    have HG4 := Lib.hid (grownBy_trans HGBB.out hg4)
    have HO4 := Lib.hid (HOB.out.grown hg4 (.inr hne1))
    have HS4 := Lib.hid hs4
    have HGD := Lib.hid (good3 HGY.out hgy2 (show Good 5 by unfold Good; omega))
    have hsz4 := HG4.out.size
    clear hy2 hs4 hg4 hgy2
    go_wp2_with (
      at_builtin
      refine wpList_appS (E := P3) rfl _ _ 30 rfl 25 _ j0 _ Tryd.underlying30 HJ.out jz0 rfl jz1 24 jz2 (by decide) w.heap.size _ xs rfl HO4.out (y, y2, 5) _ rfl _ (by simp) rfl HGD.out (by omega) hsz4 ?_
      intro v9 w9 h1 h2 h3
      have H9 := Lib.hid h1
      have HG9 := Lib.hid (grown_chain HG4.out h2 (fun z hz => (HO4.out.lt z hz).1))
      have HS9 := Lib.hid (HS4.out.grown h2 (fun e => hne1 e.symm))
      clear h1 h2 h3)
    go_ret2
    exact ⟨S, _, xs ++ [(y, y2, 5)], rfl, HGS.out, H9.out, by simp; omega, HG9.out, HS9.out.more (by omega)⟩
  have hza : (z == 0) = false := by rw [beq_eq_false_iff_ne]; exact hz0
  have hzb : (z == 1) = false := by rw [beq_eq_false_iff_ne]; exact hz1
  clear hz0 hz1
  by_cases hz2 : z = 2
  · have hzc : (z == 2) = true := by rw [hz2]; rfl
    clear hz2
    have HBA := Lib.hid ((Below.refl w2.heap.size w2).alloc (Nat.le_refl _) (.cells (([-1, 0, 10000, 10001] : List Int).map (Value.int .i64)).toArray 2))
    have HLA := Lib.hid (OI.litL 2 w2 [-1, 0, 10000, 10001] 4 rfl (by unfold maxLen; omega) (by
      intro x hx
      simp only [List.mem_cons, List.not_mem_nil, or_false] at hx
      unfold Good
      omega))
    have hltLA := HG2.out.size
    have hneLA : (Value.slice (some ⟨w2.heap.size, 0, none⟩) 4 4).ownBlock ≠ some b := fun e => by
      have : w2.heap.size = b := by simpa [Value.ownBlock] using e
      omega
    have CAA := Lib.hid (among_any v m b base 102 (.slice (some ⟨w2.heap.size, 0, none⟩) 4 4) [-1, 0, 10000, 10001] _ ((HV.out.grown HG2.out hne).below HBA.out) (HS2.out.below HBA.out) (by omega) hne HLA.out.ri (by simp) hneLA)
    have HGBA := Lib.hid (grownBy_trans HG2.out (grown_below (row := some b) HBA.out))
    simp only [List.map_cons, List.map_nil] at CAA HGBA HBA
    have HOA := Lib.hid (HO2.out.below HBA.out)
    go_wp2_with fail
    refine CAA.out.mono ?_
    rintro e w3 ⟨y, rfl, hy, hs3, hg3⟩
    have hgy : Good y := HLA.out.2 y hy
    have HG3 := Lib.hid (grownBy_trans HGBA.out hg3)
    have HO3 := Lib.hid (HOA.out.grown hg3 (.inr hne1))
    have HS3 := Lib.hid hs3
    have HGD := Lib.hid (good3 (show Good 0 by unfold Good; omega) (show Good 1 by unfold Good; omega) hgy)
    have hsz3 := HG3.out.size
    clear hy hs3 hg3 hgy
    go_wp2_with (
      at_builtin
      refine wpList_appS (E := P3) rfl _ _ 30 rfl 25 _ j0 _ Tryd.underlying30 HJ.out jz0 rfl jz1 24 jz2 (by decide) w.heap.size _ xs rfl HO3.out (0, 1, y) _ rfl _ (by simp) rfl HGD.out (by omega) hsz3 ?_
      intro v9 w9 h1 h2 h3
      have H9 := Lib.hid h1
      have HG9 := Lib.hid (grown_chain HG3.out h2 (fun z hz => (HO3.out.lt z hz).1))
      have HS9 := Lib.hid (HS3.out.grown h2 (fun e => hne1 e.symm))
      clear h1 h2 h3)
    go_ret2
    exact ⟨S, _, xs ++ [(0, 1, y)], rfl, HGS.out, H9.out, by simp; omega, HG9.out, HS9.out.more (by omega)⟩
  have hzc : (z == 2) = false := by rw [beq_eq_false_iff_ne]; exact hz2
  clear hz2
  by_cases hz3 : z = 3
  · have hzd : (z == 3) = true := by rw [hz3]; rfl
    clear hz3
    have HB3 := Lib.hid ((Below.refl w2.heap.size w2).alloc (Nat.le_refl _) (.cells #[] 25))
    have HG3 := Lib.hid (grownBy_trans HG2.out (grown_below (row := some b) HB3.out))
    have HL3 := Lib.hid (OS.lit0 (E := P3) 25 w2 w2.heap.size (Nat.le_refl _))
    have hneq : (Value.slice (some ⟨w2.heap.size, 0, none⟩) 0 0).ownBlock ≠ some b := fun e => by
      have e : w2.heap.size = b := by simpa [Value.ownBlock] using e
      omega
    have C4 := Lib.hid (pick_any v m b base 102 2 _ ((HV.out.grown HG2.out hne).below HB3.out) (HS2.out.below HB3.out) (by omega) hne)
    go_wp2_with fail
    refine C4.out.mono ?_
    rintro e w4 ⟨q, rfl, q0, _, q1, _, hs4, hg4⟩
    have q2 : q < 2 := q1 (by omega)
    obtain ⟨N, hNq⟩ : ∃ N : Nat, (N : Int) = 20 + q := ⟨(20 + q).toNat, by omega⟩
    have hwq : IntKind.i64.wrap (20 + q) = (N : Int) := by rw [IntWalk.i64_in _ (by omega)]; omega
    have hN21 : N ≤ 21 := by omega
    have HG4 := Lib.hid (grownBy_trans HG3.out hg4)
    have HS4 := Lib.hid hs4
    have HL4 := Lib.hid (HL3.out.grown hg4 (.inr hneq))
    have HZ4 := Lib.hid (Nat.le_trans HB3.out.size hg4.size)
    clear q1 hs4 hg4 hNq q0 q2
    go_wp2_with fail
    go_loopw [5, 6] (fun o i wr => ∃ (k : Nat) (t : Value) (ys : List (Int × Int × Int)), k ≤ N ∧ t = o ∧ i = .int .i64 k ∧ Hid (OS P3 25 wr w2.heap.size t ys) ∧ ys.length + k = N ∧ w.grownBy wr (some b) ∧ w2.heap.size ≤ wr.heap.size ∧ Hid (SrcAt wr base b v 104)) (fun _ i _ => (intOf i).toNat)
    case atStart => exact ⟨N, _, [], Nat.le_refl _, rfl, rfl, HL4, by simp, HG4.out, HZ4.out, HS4⟩
    case round =>
      obtain ⟨k, t, ys, hk, rfl, rfl, HT, hyk, hg, hszr, HSR⟩ := hrel
      rename World => wr
      have HG := Lib.hid hg
      clear hg
      have hnet : t.ownBlock ≠ some b := fun e => by
        have := (HT.out.lt b e).1
        omega
      by_cases hlt : 0 < k
      · have hd : decide ((0 : Int) < (k : Int)) = true := decide_eq_true (by omega)
        have hd2 : decide (0 < k) = true := decide_eq_true hlt
        obtain ⟨q, hq⟩ : ∃ q, q = k - 1 := ⟨_, rfl⟩
        have HQ := Lib.hid hq
        have hwq : IntKind.i64.wrap ((k : Int) - 1) = (q : Int) := by rw [IntWalk.i64_in _ (by omega)]; omega
        have HGD := Lib.hid (good3 (show Good 0 by unfold Good; omega) (show Good 1 by unfold Good; omega) (show Good 3 by unfold Good; omega))
        clear hq
        go_wp2_with (
          at_builtin
          refine wpList_appS (E := P3) rfl _ _ 30 rfl 25 _ j0 _ Tryd.underlying30 HJ.out jz0 rfl jz1 24 jz2 (by decide) w2.heap.size _ ys rfl HT.out (0, 1, 3) _ rfl _ (by simp) rfl HGD.out (by omega) hszr ?_
          intro v9 w9 h1 h2 h3
          have H9 := Lib.hid h1
          have HG9 := Lib.hid (grown_chain HG.out h2 (fun z hz => Nat.le_trans hsz02 (HT.out.lt z hz).1))
          have HS9 := Lib.hid (HSR.out.grown h2 (fun e => hnet e.symm))
          have hz9 := Nat.le_trans hszr h2.size
          clear h1 h2 h3)
        go_roundw
        case rel =>
          have hq := HQ.out
          exact ⟨q, _, ys ++ [(0, 1, 3)], by omega, rfl, rfl, H9, by simp; omega, HG9.out, hz9, HS9⟩
        case measure =>
          have := HQ.out
          simp [intOf]; omega
      · have hd : decide ((0 : Int) < (k : Int)) = false := decide_eq_false (by omega)
        have hd2 : decide (0 < k) = false := decide_eq_false hlt
        go_wp2
        go_ret2
        exact ⟨S, _, ys, rfl, HGS.out, HT.out.mono hsz02, by omega, HG.out, HSR.out.more (by omega)⟩
  · have hzd : (z == 3) = false := by rw [beq_eq_false_iff_ne]; exact hz3
    clear hz3
    go_wp2
    go_ret2
    exact ⟨S, _, xs, rfl, HGS.out, HO2.out, by omega, HG2.out, HS2.out.more (by omega)⟩

end Go.Proofs.YtpgnndpjlcihiaaDoor
