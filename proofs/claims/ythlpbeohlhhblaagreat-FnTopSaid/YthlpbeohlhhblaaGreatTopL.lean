/-
  reached of travels: all states that are reached.
-/
import Derived.Test.YthlpbeohlhhblaaGreatTopK
import Derived.BigRegion
import Derived.Deep.RegionLaw
import Derived.Deep.DeepCutAuto
namespace Go.Proofs.YthlpbeohlhhblaaGreat
open Go.RowKit

/-- The entry of the first state. -/
def zE : MapEntry := { key := stV zSt, val := .bool true, born := 0 }
theorem alloc_get (w : World) (o : Obj) (k : Nat) : (w.alloc o).heap[k]? = if k = w.heap.size then some o else w.heap[k]? := by
  split
  · next h => subst h; exact (MapKept.heap_alloc w o).1
  · next h =>
    by_cases hk : k < w.heap.size
    · exact (MapKept.heap_alloc w o).2 k hk
    · rw [Array.getElem?_eq_none (by simp; omega), Array.getElem?_eq_none (by omega)]
theorem put_zero (W : World) (r : Nat) (hb : W.heap[r]? = some (.map #[] 0)) :
    (Instr.mapUpdate 145 (.map (some r)) (.agg #[.int .i64 0, .int .i64 0, .int .i64 0, .int .i64 0]) (.bool true)).run Tryz.prog W = .ok () { W with heap := W.heap.setIfInBounds r (.map #[zE] 1) } := by
  obtain ⟨l, hl⟩ := st_key zSt (fun c => by
    match c with
    | 0 | 1 | 2 | 3 | (n + 4) => simp [at4, zSt])
  have hl : keyOf Tryz.prog 121 (.agg #[.int .i64 0, .int .i64 0, .int .i64 0, .int .i64 0]) = some l := hl
  have ht : Tryz.prog.underlying 145 = some (.map 121 4) := Tryz.underlying145
  rcases st_law.find W hl [] (fun e h => by simp at h) with ⟨h1, h2⟩ | ⟨j, e0, h1, h2, h3⟩
  · simp [Instr.mapUpdate, run_underlying ht, MapKept.run_getObj_map hb, st_law.check W _ hl, h1, MapKept.run_setObj_map _ hb, Result.andThen]
    rfl
  · simp at h2
theorem set_new (W : World) (o o' : Obj) : ({ W.alloc o with heap := (W.alloc o).heap.setIfInBounds W.heap.size o' } : World) = W.alloc o' := by
  have h : (W.heap.push o).setIfInBounds W.heap.size o' = W.heap.push o' := by
    apply Array.ext_getElem?
    intro i
    rw [Array.getElem?_setIfInBounds, Array.getElem?_push, Array.getElem?_push]
    by_cases e : W.heap.size = i
    · subst e; simp
    · rw [if_neg e, if_neg (fun h => e h.symm), if_neg (fun h => e h.symm)]
  show World.mk _ _ _ _ _ = World.mk _ _ _ _ _
  congr 1
theorem set_old (W : World) (o o' : Obj) (r : Nat) (hr : r < W.heap.size) : ({ W.alloc o with heap := (W.alloc o).heap.setIfInBounds r o' } : World) = ({ W with heap := W.heap.setIfInBounds r o' } : World).alloc o := by
  have h : (W.heap.push o).setIfInBounds r o' = (W.heap.setIfInBounds r o').push o := by
    apply Array.ext_getElem?
    intro i
    rw [Array.getElem?_setIfInBounds, Array.getElem?_push, Array.getElem?_push, Array.getElem?_setIfInBounds, Array.size_setIfInBounds, Array.size_push]
    by_cases e : r = i
    · subst e
      rw [if_pos rfl, if_pos (by omega), if_neg (by omega), if_pos rfl, if_pos hr]
    · rw [if_neg e, if_neg e]
  show World.mk _ _ _ _ _ = World.mk _ _ _ _ _
  congr 1
theorem put_zero0 (W : World) (r : Nat) (hr : r = W.heap.size) :
    (Instr.mapUpdate 145 (.map (some r)) (.agg #[.int .i64 0, .int .i64 0, .int .i64 0, .int .i64 0]) (.bool true)).run Tryz.prog (W.alloc (.map #[] 0)) = .ok () (W.alloc (.map #[zE] 1)) := by
  subst hr
  rw [put_zero _ _ (MapKept.heap_alloc W _).1, set_new]
theorem put_zero1 (W : World) (o1 : Obj) (r : Nat) (hr : r = W.heap.size) :
    (Instr.mapUpdate 145 (.map (some r)) (.agg #[.int .i64 0, .int .i64 0, .int .i64 0, .int .i64 0]) (.bool true)).run Tryz.prog ((W.alloc (.map #[] 0)).alloc o1) = .ok () ((W.alloc (.map #[zE] 1)).alloc o1) := by
  subst hr
  rw [put_zero _ _ (by rw [alloc_get, if_neg (by simp)]; exact (MapKept.heap_alloc W _).1), set_old _ _ _ _ (by simp), set_new]
theorem put_zero2 (W : World) (o1 o2 : Obj) (r : Nat) (hr : r = W.heap.size) :
    (Instr.mapUpdate 145 (.map (some r)) (.agg #[.int .i64 0, .int .i64 0, .int .i64 0, .int .i64 0]) (.bool true)).run Tryz.prog (((W.alloc (.map #[] 0)).alloc o1).alloc o2) = .ok () (((W.alloc (.map #[zE] 1)).alloc o1).alloc o2) := by
  subst hr
  rw [put_zero _ _ (by rw [alloc_get, if_neg (by simp; omega), alloc_get, if_neg (by simp)]; exact (MapKept.heap_alloc W _).1), set_old _ _ _ _ (by simp; omega), set_old _ _ _ _ (by simp), set_new]
theorem put_zero3 (W : World) (o1 o2 o3 : Obj) (r : Nat) (hr : r = W.heap.size) :
    (Instr.mapUpdate 145 (.map (some r)) (.agg #[.int .i64 0, .int .i64 0, .int .i64 0, .int .i64 0]) (.bool true)).run Tryz.prog ((((W.alloc (.map #[] 0)).alloc o1).alloc o2).alloc o3) = .ok () ((((W.alloc (.map #[zE] 1)).alloc o1).alloc o2).alloc o3) := by
  subst hr
  rw [put_zero _ _ (by rw [alloc_get, if_neg (by simp; omega), alloc_get, if_neg (by simp; omega), alloc_get, if_neg (by simp)]; exact (MapKept.heap_alloc W _).1), set_old _ _ _ _ (by simp; omega), set_old _ _ _ _ (by simp; omega), set_old _ _ _ _ (by simp), set_new]
theorem put_zero0d (W : World) (r : Nat) (hr : r = W.heap.size) :
    (Instr.mapUpdate 145 (.map (some r)) (.agg #[.int .i64 0, .int .i64 0, .int .i64 0, .int .i64 0]) (.bool true)).run Tryz.prog (W.alloc (.map #[] 0)).drew = .ok () (W.alloc (.map #[zE] 1)).drew := put_zero0 W.drew r hr
theorem put_zero1d (W : World) (o1 : Obj) (r : Nat) (hr : r = W.heap.size) :
    (Instr.mapUpdate 145 (.map (some r)) (.agg #[.int .i64 0, .int .i64 0, .int .i64 0, .int .i64 0]) (.bool true)).run Tryz.prog ((W.alloc (.map #[] 0)).alloc o1).drew = .ok () ((W.alloc (.map #[zE] 1)).alloc o1).drew := put_zero1 W.drew o1 r hr
theorem put_zero2d (W : World) (o1 o2 : Obj) (r : Nat) (hr : r = W.heap.size) :
    (Instr.mapUpdate 145 (.map (some r)) (.agg #[.int .i64 0, .int .i64 0, .int .i64 0, .int .i64 0]) (.bool true)).run Tryz.prog (((W.alloc (.map #[] 0)).alloc o1).alloc o2).drew = .ok () (((W.alloc (.map #[zE] 1)).alloc o1).alloc o2).drew := put_zero2 W.drew o1 o2 r hr
theorem put_zero3d (W : World) (o1 o2 o3 : Obj) (r : Nat) (hr : r = W.heap.size) :
    (Instr.mapUpdate 145 (.map (some r)) (.agg #[.int .i64 0, .int .i64 0, .int .i64 0, .int .i64 0]) (.bool true)).run Tryz.prog ((((W.alloc (.map #[] 0)).alloc o1).alloc o2).alloc o3).drew = .ok () ((((W.alloc (.map #[zE] 1)).alloc o1).alloc o2).alloc o3).drew := put_zero3 W.drew o1 o2 o3 r hr
theorem run_makeM (W : World) : (Instr.makeMap 145 none).run Tryz.prog W = .ok (.map (some W.heap.size)) (W.alloc (.map #[] 0)) := by
  simp [Instr.makeMap, run_underlying Tryz.underlying145]

theorem RI.own_there {w : World} {v : Value} {xs : List Int} (h : RI w v xs) (hp : 0 < xs.length) : ∀ q, v.ownBlock = some q → q < w.heap.size := by
  obtain ⟨a, cap, rfl⟩ := h.shape
  obtain ⟨b, off, rfl, hlt, _⟩ := h.cells hp
  intro q hq
  have : b = q := Option.some.inj hq
  omega
theorem alloc_size (w : World) (o : Obj) : (w.alloc o).heap.size = w.heap.size + 1 := by simp
theorem drew_size (w : World) : w.drew.heap.size = w.heap.size := rfl
theorem drew_get (w : World) (k : Nat) : w.drew.heap[k]? = w.heap[k]? := rfl
theorem start_rg {W Wf : World} {vm : Value} {cs : List Int} (hb : Below W.heap.size W Wf) (qA qB qC qD : Nat)
    (hA : Wf.heap[qA]? = some (.cells #[.int .i64 0, .int .i64 0, .int .i64 0, .int .i64 0] 121))
    (hB : Wf.heap[qB]? = some (.cells #[] 2))
    (hC : Wf.heap[qC]? = some (.cells #[.slice (some ⟨qB, 0, none⟩) 0 0] 24)) (hD : Wf.heap[qD]? = some (.map #[zE] 1))
    (ba : W.heap.size ≤ qA) (bb : W.heap.size ≤ qB) (bc : W.heap.size ≤ qC) (bd : W.heap.size ≤ qD)
    (n1 : qA ≠ qB) (n2 : qA ≠ qC) (n3 : qA ≠ qD) (n4 : qB ≠ qC) (n5 : qB ≠ qD) (n6 : qC ≠ qD)
    (hr : RI W vm cs) (hf : ∀ q, vm.ownBlock = some q → q < W.heap.size) :
    RG Wf W.heap.size qD (.slice (some ⟨qA, 0, none⟩) 1 1) (.slice (some ⟨qC, 0, none⟩) 1 1) [.slice (some ⟨qB, 0, none⟩) 0 0] [zSt] [[]] [zSt] vm cs := by
  refine ⟨⟨⟨rfl, .inr ⟨qA, 1, _, rfl, ba, hA, Nat.le_refl _, by unfold maxLen; omega, rfl, rfl⟩⟩, EV.one zSt⟩, ⟨⟨rfl, .inr ⟨qC, 1, _, rfl, bc, hC, Nat.le_refl _, by unfold maxLen; omega, rfl, rfl⟩⟩, fun y hy => ?_⟩, ⟨rfl, fun i hi => ?_⟩, ⟨_, _, hD, rfl⟩, hr.below hb, bd, fun j hj e => ?_, fun e => n3 (Option.some.inj e), fun e => n6 (Option.some.inj e), fun i hi q hq => ?_, fun q hq => ?_⟩
  · have hy : y ∈ [(.slice (some ⟨qB, 0, none⟩) 0 0 : Value)] := hy
    rw [List.mem_singleton.1 hy]; rfl
  · obtain rfl : i = 0 := by simpa using hi
    exact ⟨⟨_, 0, rfl, Nat.le_refl _, Nat.zero_le _, .inl rfl⟩, by simp⟩
  · exact n2 ((Option.some.inj hj).trans (Option.some.inj e).symm)
  · obtain rfl : i = 0 := by simpa using hi
    have : qB = q := Option.some.inj hq
    subst this
    exact ⟨(Array.getElem?_eq_some_iff.1 hB).1, fun e => n1 (Option.some.inj e), fun e => n4 (Option.some.inj e).symm, n5⟩
  · have := hf q hq
    exact ⟨Nat.lt_of_lt_of_le this hb.size, fun e => by have : qA = q := Option.some.inj e; omega, fun e => by have : qC = q := Option.some.inj e; omega, by omega⟩

set_option maxRecDepth 100000 in
set_option maxHeartbeats 4000000 in
theorem reached_any (halls : List Int) (ways : List (List Int)) (hv wv : Value) (w : World) (hw : WaysI w wv ways) (hh : RI w hv halls) (ok : OkHW halls ways) :
    Calls Tryz.prog 72 #[trV hv wv ways.length] w fun e w' => ∃ v1 v2, e = .returned (.tuple #[v1, v2]) ∧ SV EV w' v1 (reachT halls ways).1 ∧ WaysI w' v2 (reachT halls ways).2 ∧ Below w.heap.size w w' := by
  obtain ⟨a, cap, rfl, _, _⟩ := hw.shape
  obtain ⟨a2, cap2, rfl⟩ := hh.shape
  have hw4 := ok.w4
  have HOK := Lib.hid ok
  have HW := Lib.hid hw
  have HH := Lib.hid hh
  obtain ⟨i0, hi, iz0, iz1, iz2⟩ := info_parts infoSt
  have HI := Lib.hid hi
  obtain ⟨j0, hj, jz0, jz1, jz2⟩ := info_parts infoSl
  have HJ := Lib.hid hj
  obtain ⟨l0, hl, lz0, lz1, lz2⟩ := info_parts infoInt64
  have HL := Lib.hid hl
  clear hw hh ok hi hj hl
  unfold trV
  go_enter Tryz.func72, Tryz.ntmps72
  have m0 := run_makeM
  have m1 := put_zero0d
  have m2 := put_zero1d
  have m3 := put_zero2d
  have m4 := put_zero3d
  go_upto_region 1 with fail
  have hb0 := (Below.refl w.heap.size w).alloc (Nat.le_refl _) (.cells #[.slice a2 halls.length cap2, .slice a ways.length cap, .int .i64 (ways.length : Nat)] 83)
  have hbsz : (w.alloc (.cells #[.slice a2 halls.length cap2, .slice a ways.length cap, .int .i64 (ways.length : Nat)] 83)).heap.size = w.heap.size + 1 := by simp
  have k0 : (w.alloc (.cells #[.slice a2 halls.length cap2, .slice a ways.length cap, .int .i64 (ways.length : Nat)] 83)).cell? ⟨w.heap.size, 0, none⟩ = some (.slice a2 halls.length cap2) := by rw [World.cell?_alloc_at _ _ _ _ rfl]; rfl
  have k1 : (w.alloc (.cells #[.slice a2 halls.length cap2, .slice a ways.length cap, .int .i64 (ways.length : Nat)] 83)).cell? ⟨w.heap.size, 1, none⟩ = some (.slice a ways.length cap) := by rw [World.cell?_alloc_at _ _ _ _ rfl]; rfl
  have k2 : (w.alloc (.cells #[.slice a2 halls.length cap2, .slice a ways.length cap, .int .i64 (ways.length : Nat)] 83)).cell? ⟨w.heap.size, 2, none⟩ = some (.int .i64 (ways.length : Nat)) := by rw [World.cell?_alloc_at _ _ _ _ rfl]; rfl
  have HB0 := Lib.hid hb0
  have HWW := Lib.hid (HW.out.below hb0)
  have HHW := Lib.hid (HH.out.below hb0)
  have HFR := Lib.hid (HH.out.own_there (by have := HOK.out.h1; omega))
  clear hb0 HW HH
  generalize w.alloc (.cells #[.slice a2 halls.length cap2, .slice a ways.length cap, .int .i64 (ways.length : Nat)] 83) = W at hbsz k0 k1 k2 HB0 HWW HHW ⊢
  have HSZ := Lib.hid hbsz
  clear hbsz
  go_cut [4, 5, 6] (fun us ul m wy => ∃ (u l : Value) (r : Nat) (rs : List Value), us = u ∧ ul = l ∧ m = .map (some r) ∧ Below W.heap.size W wy ∧ Hid (RG wy W.heap.size r u l rs [zSt] [[]] [zSt] (.slice a2 halls.length cap2) halls))
  case first =>
    go_region
    all_goals
      go_wp2_with fail
      go_meet
      first
        | exact ⟨_, _, _, _, rfl, rfl, rfl, (((((Below.refl _ _).alloc (Nat.le_refl _) _).alloc (by simp) _).alloc (by simp; omega) _).alloc (by simp; omega) _).drew, Lib.hid (start_rg ((((((Below.refl _ _).alloc (Nat.le_refl _) _).alloc (by simp) _).alloc (by simp; omega) _).alloc (by simp; omega) _).drew) _ (W.heap.size) _ _ (by (simp only [drew_get, drew_size, alloc_get, alloc_size, if_true] <;> (repeat' split) <;> first | rfl | (exfalso; omega))) (by (simp only [drew_get, drew_size, alloc_get, alloc_size, if_true] <;> (repeat' split) <;> first | rfl | (exfalso; omega))) (by (simp only [drew_get, drew_size, alloc_get, alloc_size, if_true] <;> (repeat' split) <;> first | rfl | (exfalso; omega))) (by (simp only [drew_get, drew_size, alloc_get, alloc_size, if_true] <;> (repeat' split) <;> first | rfl | (exfalso; omega))) (by omega) (by omega) (by omega) (by omega) (by omega) (by omega) (by omega) (by omega) (by omega) (by omega) HHW.out (fun q hq => by have := HFR.out q hq; have := HSZ.out; omega))⟩
        | exact ⟨_, _, _, _, rfl, rfl, rfl, (((((Below.refl _ _).alloc (Nat.le_refl _) _).alloc (by simp) _).alloc (by simp; omega) _).alloc (by simp; omega) _).drew, Lib.hid (start_rg ((((((Below.refl _ _).alloc (Nat.le_refl _) _).alloc (by simp) _).alloc (by simp; omega) _).alloc (by simp; omega) _).drew) _ (W.heap.size + 1) _ _ (by (simp only [drew_get, drew_size, alloc_get, alloc_size, if_true] <;> (repeat' split) <;> first | rfl | (exfalso; omega))) (by (simp only [drew_get, drew_size, alloc_get, alloc_size, if_true] <;> (repeat' split) <;> first | rfl | (exfalso; omega))) (by (simp only [drew_get, drew_size, alloc_get, alloc_size, if_true] <;> (repeat' split) <;> first | rfl | (exfalso; omega))) (by (simp only [drew_get, drew_size, alloc_get, alloc_size, if_true] <;> (repeat' split) <;> first | rfl | (exfalso; omega))) (by omega) (by omega) (by omega) (by omega) (by omega) (by omega) (by omega) (by omega) (by omega) (by omega) HHW.out (fun q hq => by have := HFR.out q hq; have := HSZ.out; omega))⟩
        | exact ⟨_, _, _, _, rfl, rfl, rfl, (((((Below.refl _ _).alloc (Nat.le_refl _) _).alloc (by simp) _).alloc (by simp; omega) _).alloc (by simp; omega) _).drew, Lib.hid (start_rg ((((((Below.refl _ _).alloc (Nat.le_refl _) _).alloc (by simp) _).alloc (by simp; omega) _).alloc (by simp; omega) _).drew) _ (W.heap.size + 1 + 1) _ _ (by (simp only [drew_get, drew_size, alloc_get, alloc_size, if_true] <;> (repeat' split) <;> first | rfl | (exfalso; omega))) (by (simp only [drew_get, drew_size, alloc_get, alloc_size, if_true] <;> (repeat' split) <;> first | rfl | (exfalso; omega))) (by (simp only [drew_get, drew_size, alloc_get, alloc_size, if_true] <;> (repeat' split) <;> first | rfl | (exfalso; omega))) (by (simp only [drew_get, drew_size, alloc_get, alloc_size, if_true] <;> (repeat' split) <;> first | rfl | (exfalso; omega))) (by omega) (by omega) (by omega) (by omega) (by omega) (by omega) (by omega) (by omega) (by omega) (by omega) HHW.out (fun q hq => by have := HFR.out q hq; have := HSZ.out; omega))⟩
  case rest =>
    obtain ⟨u0, l0', r, rs0, rfl, rfl, rfl, hbc, HR0⟩ := hcut
    rename World => wc
    clear m0 m1 m2 m3 m4
    go_wp2_with fail
    go_loopw [4, 5, 7] (fun us ul ii wr => ∃ (i : Nat) (u l : Value) (rs : List Value), i ≤ 2401 ∧ us = u ∧ ul = l ∧ ii = .int .i64 i ∧ Below W.heap.size W wr ∧ Hid (RG wr W.heap.size r u l rs (bfsAt halls ways i).1 (bfsAt halls ways i).2 (bfsAt halls ways i).1 (.slice a2 halls.length cap2) halls)) (fun _ _ i _ => 2401 - (intOf i).toNat)
    case atStart => exact ⟨0, _, _, _, by omega, rfl, rfl, rfl, hbc, HR0⟩
    case round =>
      obtain ⟨i, u, l, rs, hi, rfl, rfl, rfl, hb, HR⟩ := hrel
      rename World => wr
      have hinv := bfsAt_inv halls ways i
      have hmost := bi4_most HOK.out hinv
      have HIN := Lib.hid hinv
      have HEND := Lib.hid (fun h => reach_end (halls := halls) (ways := ways) (i := i) hi h)
      have HNEXT := Lib.hid (fun h : i < (bfsAt halls ways i).1.length => show bfsAt halls ways (i + 1) = (movesP halls ways (at4 ((bfsAt halls ways i).1.getD i zSt)) ways.length).foldl (addSt i) (bfsAt halls ways i) by show roundSt _ _ _ _ = _; unfold roundSt; rw [if_pos h])
      have HOKS := Lib.hid (fun h : i < (bfsAt halls ways i).1.length => fun c => okP_bound HOK.out (bi4_ok HOK.out hinv h) c)
      clear hinv
      generalize hB : bfsAt halls ways i = B at *
      have HBE := Lib.hid hB
      clear hB
      obtain ⟨S, L⟩ := B
      simp only at HR hmost HEND HNEXT HOKS
      obtain ⟨au, cu, hsu⟩ := HR.out.st.si.shape
      subst hsu
      by_cases hlt : i < S.length
      · have HN := Lib.hid (HNEXT.out hlt)
        have HO := Lib.hid (HOKS.out hlt)
        clear HNEXT HOKS HEND
        obtain ⟨b, off, cap', hsl, hbl, c0, c1, c2, c3⟩ := HR.out.state hlt
        obtain ⟨rfl, rfl⟩ : au = some ⟨b, off, none⟩ ∧ cu = cap' := by
          simp only [Value.slice.injEq] at hsl
          exact ⟨hsl.1, hsl.2.2⟩
        clear hsl
        obtain ⟨s, hs⟩ : ∃ s, s = S.getD i zSt := ⟨_, rfl⟩
        rw [← hs] at c0 c1 c2 c3 HN HO
        have HSD := Lib.hid hs
        clear hs
        have hkb : w.heap.size < W.heap.size := by have := HSZ.out; omega
        have z0 := (hb.cell (p := ⟨w.heap.size, 0, none⟩) hkb).trans k0
        have z1 := (hb.cell (p := ⟨w.heap.size, 1, none⟩) hkb).trans k1
        have z2 := (hb.cell (p := ⟨w.heap.size, 2, none⟩) hkb).trans k2
        have HBR := Lib.hid hb
        have hszr := hb.size
        obtain ⟨cs, hcs⟩ : ∃ cs, cs = movesP halls ways (at4 s) ways.length := ⟨_, rfl⟩
        have cmv := fun W' (h : Below wr.heap.size wr W') => moves_any halls ways s _ _ W' ((HWW.out.below hb).below h) ((HHW.out.below hb).below h) HOK.out (fun c => by have := HO.out c; omega)
        rw [← hcs] at cmv HN
        have hcl : cs.length ≤ 4 := by rw [hcs]; exact Nat.le_trans (movesP_length _ _ _ _) hw4
        have HCM := Lib.hid (show ∀ c ∈ cs, ∃ n : Nat, c = n ∧ n < ways.length from fun c hc => by
          rw [hcs] at hc
          obtain ⟨n, h1, h2, _⟩ := movesP_mem hc
          exact ⟨n, h2, h1⟩)
        have HFI := Lib.hid (fun j => fold_inv HIN.out (i := i) hlt (cs.take j) (fun c hc => by
          have := List.mem_of_mem_take hc
          rw [hcs, HSD.out] at this
          exact this))
        have CMV := Lib.hid cmv
        have HCS := Lib.hid hcs
        clear cmv hcs
        have CC := Lib.hid (fun W' (h : Below wr.heap.size wr W') => (show (W'.cell? ⟨w.heap.size, 0, none⟩ = some (.slice a2 halls.length cap2) ∧ W'.cell? ⟨w.heap.size, 1, none⟩ = some (.slice a ways.length cap) ∧ W'.cell? ⟨w.heap.size, 2, none⟩ = some (.int .i64 (ways.length : Nat)) ∧ W'.cell? ⟨b, off + i * 4, none⟩ = some (.int .i64 s.1) ∧ W'.cell? ⟨b, off + i * 4 + 1, none⟩ = some (.int .i64 s.2.1) ∧ W'.cell? ⟨b, off + i * 4 + 2, none⟩ = some (.int .i64 s.2.2.1) ∧ W'.cell? ⟨b, off + i * 4 + 3, none⟩ = some (.int .i64 s.2.2.2)) from
          ⟨(h.cell (p := ⟨w.heap.size, 0, none⟩) (Nat.lt_of_lt_of_le hkb hszr)).trans z0, (h.cell (p := ⟨w.heap.size, 1, none⟩) (Nat.lt_of_lt_of_le hkb hszr)).trans z1, (h.cell (p := ⟨w.heap.size, 2, none⟩) (Nat.lt_of_lt_of_le hkb hszr)).trans z2,
            (h.cell (p := ⟨b, off + i * 4, none⟩) hbl).trans c0, (h.cell (p := ⟨b, off + i * 4 + 1, none⟩) hbl).trans c1, (h.cell (p := ⟨b, off + i * 4 + 2, none⟩) hbl).trans c2, (h.cell (p := ⟨b, off + i * 4 + 3, none⟩) hbl).trans c3⟩))
        have hbr := Below.refl wr.heap.size wr
        clear hb
        obtain ⟨s0, s1, s2, s3⟩ := s
        simp only at c0 c1 c2 c3 CC
        unfold trV stV at CMV
        simp only at CMV
        go_wp2_with fail
        go_region_held3 (fun w' => Below wr.heap.size wr w' ∧ w'.cell? ⟨w.heap.size, 0, none⟩ = some (.slice a2 halls.length cap2) ∧ w'.cell? ⟨w.heap.size, 1, none⟩ = some (.slice a ways.length cap) ∧ w'.cell? ⟨w.heap.size, 2, none⟩ = some (.int .i64 (ways.length : Nat)) ∧ w'.cell? ⟨b, off + i * 4, none⟩ = some (.int .i64 s0) ∧ w'.cell? ⟨b, off + i * 4 + 1, none⟩ = some (.int .i64 s1) ∧ w'.cell? ⟨b, off + i * 4 + 2, none⟩ = some (.int .i64 s2) ∧ w'.cell? ⟨b, off + i * 4 + 3, none⟩ = some (.int .i64 s3))
          (first
            | assumption
            | exact ⟨below_drewN' _ _, CC.out _ (below_drewN' _ _)⟩)
          (first
            | (go_simp
               go_at_call 74
               with_reducible refine (CMV.out _ ?hw).mono ?_
               case hw => exact And.left (by assumption)
               rintro e w3 ⟨vm, rfl, hom, hx3⟩
               obtain ⟨am, cm, hms⟩ := hom.ri.shape
               subst hms
               have hs3 := held_next CC.out hx3 (by assumption)))
        obtain ⟨hb3, _⟩ := hs3
        have HRm := Lib.hid ((HR.out.below hb3).new hom.ri (HR.out.free (fun q hq => hom.lt q hq)))
        have HB3 := Lib.hid (bthen HBR.out hb3)
        clear hx3 hom hb3 hbr z0 z1 z2 c0 c1 c2 c3 CC CMV
        go_wp2_with fail
        go_loopw [4, 5, 31] (fun us ul jj wx => ∃ (j : Nat) (u l : Value) (rs : List Value), j ≤ cs.length ∧ us = u ∧ ul = l ∧ jj = .int .i64 j ∧ Below W.heap.size W wx ∧ Hid (RG wx W.heap.size r u l rs ((cs.take j).foldl (addSt i) (S, L)).1 ((cs.take j).foldl (addSt i) (S, L)).2 ((cs.take j).foldl (addSt i) (S, L)).1 (.slice am cs.length cm) cs)) (fun _ _ j _ => cs.length - (intOf j).toNat)
        case atStart => exact ⟨0, _, _, _, Nat.zero_le _, rfl, rfl, rfl, HB3.out, HRm⟩
        case round =>
          obtain ⟨j, u, l, rs, hj, rfl, rfl, rfl, hb, HR⟩ := hrel
          rename World => wx
          by_cases hjl : j < cs.length
          · have hF := HFI.out j
            have hT1 := take_snoc cs j hjl
            have hsd := HSD.out
            obtain ⟨n, hcn, hnw⟩ := HCM.out (cs.getD j 0) (by rw [show cs.getD j 0 = cs[j] by simp [List.getD, hjl]]; exact List.getElem_mem hjl)
            have hfold : (cs.take (j + 1)).foldl (addSt i) (S, L) = addSt i ((cs.take j).foldl (addSt i) (S, L)) (n : Int) := by
              rw [hT1, hcn, List.foldl_append]; rfl
            have HFOLD := Lib.hid hfold
            clear hT1 hfold
            obtain ⟨hF1, hF2, hF3⟩ := hF
            rw [← hsd] at hF3
            have hOS := Lib.hid (fun t (ht : t ∈ ((cs.take j).foldl (addSt i) (S, L)).1) => show OkSt t from fun c => by
              obtain ⟨k, hk, rfl⟩ := List.getElem_of_mem ht
              have := okP_bound HOK.out (bi4_ok HOK.out hF1 hk) c
              rw [show (((cs.take j).foldl (addSt i) (S, L)).1).getD k zSt = (((cs.take j).foldl (addSt i) (S, L)).1)[k] by simp [List.getD, hk]] at this
              omega)
            have hmo := bi4_most HOK.out hF1
            have hll := hF1.len
            have hlg : ∀ k, k < ((cs.take j).foldl (addSt i) (S, L)).1.length → (((cs.take j).foldl (addSt i) (S, L)).2.getD k []).length ≤ 24 := fun k hk => legal_len HOK.out (hF1.legal k hk)
            have hgen : ∃ B, B = (cs.take j).foldl (addSt i) (S, L) := ⟨_, rfl⟩
            obtain ⟨B, hB⟩ := hgen
            rw [← hB] at HR hF2 hF3 hOS hmo hll hlg HFOLD
            have HBB := Lib.hid hB
            clear hB hF1 hsd
            obtain ⟨T, LT⟩ := B
            simp only at HR hF2 hF3 hOS hmo hll hlg
            have hiT : i < T.length := Nat.lt_of_lt_of_le hlt hF2
            obtain ⟨b1, o1, cu1, hu1, hbl1, c0, c1, c2, c3⟩ := HR.out.state hiT
            rw [hF3] at c0 c1 c2 c3
            simp only at c0 c1 c2 c3
            subst hu1
            obtain ⟨bm, om, ham, hbm, hcm⟩ := HR.out.can.cells (by omega)
            have g1 := hcm j hjl
            rw [hcn] at g1
            subst ham
            obtain ⟨Q, hQ⟩ : ∃ Q, Q = mv4 (s0, s1, s2, s3) n := ⟨_, rfl⟩
            have HMV := fun W' => moved_any (s0, s1, s2, s3) n W' (by omega) (fun c => by have := HO.out c; omega)
            have hQs : OkSt Q := fun c => by
              rw [hQ, at4_mv _ (by omega)]
              have := HO.out c
              unfold upP
              split <;> omega
            rw [← hQ] at HMV
            have HQ := Lib.hid hQ
            have HQS := Lib.hid hQs
            have HF3 := Lib.hid hF3
            have hlg24 := hlg i hiT
            have HLL := Lib.hid hll
            clear hlg hll
            clear hQ hQs hcm hcn hF2 hF3
            obtain ⟨q0, q1, q2, q3⟩ := Q
            have HMV2 := Lib.hid (fun W' => show Calls Tryz.prog 92 #[.agg #[.int .i64 s0, .int .i64 s1, .int .i64 s2, .int .i64 s3], .int .i64 n] W' fun e w' => e = .returned (.agg #[.int .i64 q0, .int .i64 q1, .int .i64 q2, .int .i64 q3]) ∧ Below W'.heap.size W' w' from HMV W')
            have HBX := Lib.hid hb
            have hszx := hb.size
            clear HMV hb
            have hq : mv4 (T.getD i zSt) ((n : Int)).toNat = (q0, q1, q2, q3) := by rw [HF3.out, Int.toNat_natCast]; exact HQ.out.symm
            have HQE := Lib.hid hq
            clear hq
            by_cases hmem : (q0, q1, q2, q3) ∈ T
            · have HADD := Lib.hid (show addSt i (T, LT) (n : Int) = (T, LT) by unfold addSt; simp only [HQE.out]; rw [if_pos hmem])
              have HMEM := Lib.hid hmem
              clear hmem
              go_wp2_with (
                go_at_call 92
                refine (HMV2.out _).mono ?_
                rintro e w4 ⟨rfl, hb4⟩
                have HR4 := Lib.hid ((HR.out.below hb4).below ((Below.refl w4.heap.size w4).alloc (Nat.le_refl _) (.cells #[.int .i64 q0, .int .i64 q1, .int .i64 q2, .int .i64 q3] 121)))
                have HB4 := Lib.hid ((bthen HBX.out (hb4.mono (by exact Nat.le_refl _))).alloc (Nat.le_trans hszx hb4.size) (.cells #[.int .i64 q0, .int .i64 q1, .int .i64 q2, .int .i64 q3] 121))
                have hlook : (Instr.lookup 145 (.map (some r)) (.agg #[.int .i64 q0, .int .i64 q1, .int .i64 q2, .int .i64 q3]) false).run Tryz.prog (w4.alloc (.cells #[.int .i64 q0, .int .i64 q1, .int .i64 q2, .int .i64 q3] 121)) = .ok (.bool true) (w4.alloc (.cells #[.int .i64 q0, .int .i64 q1, .int .i64 q2, .int .i64 q3] 121)) := by
                  have := HR4.out.mp.look hOS.out HQS.out
                  rw [decide_eq_true HMEM.out] at this
                  exact this
                clear hb4)
              go_roundw
              case rel => exact ⟨j + 1, _, _, _, by omega, rfl, rfl, by go_num, HB4.out, Lib.hid (by rw [HFOLD.out, HADD.out]; exact HR4.out)⟩
              case measure => simp [intOf]; omega
            · have HADD := Lib.hid (show addSt i (T, LT) (n : Int) = (T ++ [(q0, q1, q2, q3)], LT ++ [LT.getD i [] ++ [(n : Int)]]) by unfold addSt; simp only [HQE.out]; rw [if_neg hmem])
              have HMEM := Lib.hid hmem
              clear hmem
              go_upto_region 11 with (
                go_at_call 92
                refine (HMV2.out _).mono ?_
                rintro e w4 ⟨rfl, hb4⟩
                have HR4 := Lib.hid ((HR.out.below hb4).below ((Below.refl w4.heap.size w4).alloc (Nat.le_refl _) (.cells #[.int .i64 q0, .int .i64 q1, .int .i64 q2, .int .i64 q3] 121)))
                have HB4 := Lib.hid ((bthen HBX.out (hb4.mono (by exact Nat.le_refl _))).alloc (Nat.le_trans hszx hb4.size) (.cells #[.int .i64 q0, .int .i64 q1, .int .i64 q2, .int .i64 q3] 121))
                have hlook : (Instr.lookup 145 (.map (some r)) (.agg #[.int .i64 q0, .int .i64 q1, .int .i64 q2, .int .i64 q3]) false).run Tryz.prog (w4.alloc (.cells #[.int .i64 q0, .int .i64 q1, .int .i64 q2, .int .i64 q3] 121)) = .ok (.bool false) (w4.alloc (.cells #[.int .i64 q0, .int .i64 q1, .int .i64 q2, .int .i64 q3] 121)) := by
                  have := HR4.out.mp.look hOS.out HQS.out
                  rw [decide_eq_false HMEM.out] at this
                  exact this
                obtain ⟨w5, hput0, hm5, hg5⟩ := HR4.out.mp.put hOS.out HQS.out HMEM.out
                have hput : (Instr.mapUpdate 145 (.map (some r)) (.agg #[.int .i64 q0, .int .i64 q1, .int .i64 q2, .int .i64 q3]) (.bool true)).run Tryz.prog (w4.alloc (.cells #[.int .i64 q0, .int .i64 q1, .int .i64 q2, .int .i64 q3] 121)) = .ok () w5 := hput0
                have hrlt := (HR.out.below hb4).mp.lt
                have HR5 := Lib.hid (HR4.out.put hm5 hg5)
                have HB5 := Lib.hid (bgrown HB4.out hg5 (fun k hk => by have := Option.some.inj hk; have := HR.out.r0; omega))
                have e0 : w5.cell? ⟨w4.heap.size, 0, none⟩ = some (.int .i64 q0) := (World.cell?_of_block (hg5.block w4.heap.size (by simp) (by simp; omega))).trans (by rw [World.cell?_alloc_at _ _ _ _ rfl]; rfl)
                have e1 : w5.cell? ⟨w4.heap.size, 1, none⟩ = some (.int .i64 q1) := (World.cell?_of_block (hg5.block w4.heap.size (by simp) (by simp; omega))).trans (by rw [World.cell?_alloc_at _ _ _ _ rfl]; rfl)
                have e2 : w5.cell? ⟨w4.heap.size, 2, none⟩ = some (.int .i64 q2) := (World.cell?_of_block (hg5.block w4.heap.size (by simp) (by simp; omega))).trans (by rw [World.cell?_alloc_at _ _ _ _ rfl]; rfl)
                have e3 : w5.cell? ⟨w4.heap.size, 3, none⟩ = some (.int .i64 q3) := (World.cell?_of_block (hg5.block w4.heap.size (by simp) (by simp; omega))).trans (by rw [World.cell?_alloc_at _ _ _ _ rfl]; rfl)
                have hblo : ∀ q, (u5).ownBlock = some q → q < w4.heap.size := fun q hq => (((HR.out.below hb4).ls).lt q hq).2
                have hb14 : b1 < w4.heap.size := Nat.lt_of_lt_of_le hbl1 hb4.size
                have hq5 : w4.heap.size < w5.heap.size := Nat.lt_of_lt_of_le (by simp) hg5.size
                clear hb4 hput0 hm5 hg5)
              obtain ⟨bl, cl, hlv, hbl5, d0, hri⟩ := HR5.out.list (i := i) (by rw [HLL.out]; exact hiT)
              obtain ⟨ar, cr, hrv⟩ := hri.shape
              rw [hrv] at d0 hri
              have HRI := Lib.hid hri
              have hfr := HR5.out.sp i (by rw [HR5.out.rows.1, HLL.out]; exact hiT)
              rw [hrv] at hfr
              have HRF := Lib.hid hfr
              clear hfr
              have hiI : (i : Int) < (LT.length : Int) := by rw [HLL.out]; omega
              have hltl : LT.length ≤ 2401 := by rw [HLL.out]; exact hmo
              have hrsl : rs.length ≤ 2401 := by rw [HR5.out.rows.1]; exact hltl
              clear hri hrv
              subst hlv
              have hbl4 : bl < w4.heap.size := hblo bl rfl
              clear hblo
              generalize LT.getD i [] = li at d0 HRI HRF hlg24 HADD
              have HRL := Lib.hid HR5.out.rows.1
              have hirs : i < rs.length := by rw [HR5.out.rows.1, HLL.out]; exact hiT
              have hn1l : b1 ≠ bl := fun e => HR5.out.su b1 rfl (by rw [e]; rfl)
              have HGN := Lib.hid (show Good (n : Int) by unfold Good; omega)
              have HST := Lib.hid (show b1 < w5.heap.size ∧ bl < w5.heap.size from ⟨Nat.lt_of_lt_of_le hb14 (Nat.le_of_lt hq5), hbl5⟩)
              clear HR HR4 HB4 HOK HMV2 HMEM HQE hlook hput c0 c1 c2 c3 g1 hbm hbl1
              go_region_held3 (fun w' => w'.cell? ⟨w4.heap.size, 0, none⟩ = some (.int .i64 q0) ∧ w'.cell? ⟨w4.heap.size, 1, none⟩ = some (.int .i64 q1) ∧ w'.cell? ⟨w4.heap.size, 2, none⟩ = some (.int .i64 q2) ∧ w'.cell? ⟨w4.heap.size, 3, none⟩ = some (.int .i64 q3) ∧ w'.cell? ⟨bl, i, none⟩ = some (.slice ar li.length cr))
                (first
                  | assumption
                  | go_keep)
                (first
                  | (refine step_appVG (E := EV) (by rfl) _ _ 117 (by rfl) 121 i0 _ Tryz.underlying117 HI.out iz0 (by rfl) iz1 32 iz2 (by decide) W.heap.size _ T (by rfl) (HR5.out.below (by (first | exact ((Below.refl _ _).alloc (Nat.le_refl _) _).drew | exact (((Below.refl _ _).alloc (Nat.le_refl _) _).alloc (by simp) _).drew | exact Below.refl _ _ | exact (Below.refl _ _).alloc (Nat.le_refl _) _ | exact ((Below.refl _ _).alloc (Nat.le_refl _) _).alloc (by simp) _))).st (q0, q1, q2, q3) _ (by rfl) (by first | exact laidAd _ _ _ _ rfl | exact laidBd _ _ _ _ _ rfl | exact laidCd _ _ _ _ _ rfl) (EV.one _) (by omega) (Nat.le_trans HB5.out.size (show Below w5.heap.size w5 _ from (by (first | exact ((Below.refl _ _).alloc (Nat.le_refl _) _).drew | exact (((Below.refl _ _).alloc (Nat.le_refl _) _).alloc (by simp) _).drew | exact Below.refl _ _ | exact (Below.refl _ _).alloc (Nat.le_refl _) _ | exact ((Below.refl _ _).alloc (Nat.le_refl _) _).alloc (by simp) _))).size) ?_
                     intro v9 w9 h1 h2 h3
                     have hxs := h2.size
                     simp at hxs
                     have hbe := Nat.le_trans (show Below w5.heap.size w5 _ from (by (first | exact ((Below.refl _ _).alloc (Nat.le_refl _) _).drew | exact (((Below.refl _ _).alloc (Nat.le_refl _) _).alloc (by simp) _).drew | exact Below.refl _ _ | exact (Below.refl _ _).alloc (Nat.le_refl _) _ | exact ((Below.refl _ _).alloc (Nat.le_refl _) _).alloc (by simp) _))).size h2.size
                     have HB9 := Lib.hid (bgrown (bthen HB5.out (show Below w5.heap.size w5 _ from (by (first | exact ((Below.refl _ _).alloc (Nat.le_refl _) _).drew | exact (((Below.refl _ _).alloc (Nat.le_refl _) _).alloc (by simp) _).drew | exact Below.refl _ _ | exact (Below.refl _ _).alloc (Nat.le_refl _) _ | exact ((Below.refl _ _).alloc (Nat.le_refl _) _).alloc (by simp) _)))) h2 (fun k hk => (HR5.out.st.lt k hk).1))
                     have HR9 := Lib.hid ((HR5.out.below (by (first | exact ((Below.refl _ _).alloc (Nat.le_refl _) _).drew | exact (((Below.refl _ _).alloc (Nat.le_refl _) _).alloc (by simp) _).drew | exact Below.refl _ _ | exact (Below.refl _ _).alloc (Nat.le_refl _) _ | exact ((Below.refl _ _).alloc (Nat.le_refl _) _).alloc (by simp) _))).addSt h1 h2 h3)
                     have HRI9 := Lib.hid ((HRI.out.below (by (first | exact ((Below.refl _ _).alloc (Nat.le_refl _) _).drew | exact (((Below.refl _ _).alloc (Nat.le_refl _) _).alloc (by simp) _).drew | exact Below.refl _ _ | exact (Below.refl _ _).alloc (Nat.le_refl _) _ | exact ((Below.refl _ _).alloc (Nat.le_refl _) _).alloc (by simp) _))).grown h2 (fun k hk e => (HRF.out k e).2.1 hk))
                     have HS9 := Lib.hid (show w9.cell? ⟨w4.heap.size, 0, none⟩ = some (.int .i64 q0) ∧ w9.cell? ⟨w4.heap.size, 1, none⟩ = some (.int .i64 q1) ∧ w9.cell? ⟨w4.heap.size, 2, none⟩ = some (.int .i64 q2) ∧ w9.cell? ⟨w4.heap.size, 3, none⟩ = some (.int .i64 q3) ∧ w9.cell? ⟨bl, i, none⟩ = some (.slice ar li.length cr) from
                       ⟨cell_grown h2 (cell_belowG (by (first | exact ((Below.refl _ _).alloc (Nat.le_refl _) _).drew | exact (((Below.refl _ _).alloc (Nat.le_refl _) _).alloc (by simp) _).drew | exact Below.refl _ _ | exact (Below.refl _ _).alloc (Nat.le_refl _) _ | exact ((Below.refl _ _).alloc (Nat.le_refl _) _).alloc (by simp) _)) e0 hq5) (Nat.lt_of_lt_of_le hq5 (show Below w5.heap.size w5 _ from (by (first | exact ((Below.refl _ _).alloc (Nat.le_refl _) _).drew | exact (((Below.refl _ _).alloc (Nat.le_refl _) _).alloc (by simp) _).drew | exact Below.refl _ _ | exact (Below.refl _ _).alloc (Nat.le_refl _) _ | exact ((Below.refl _ _).alloc (Nat.le_refl _) _).alloc (by simp) _))).size) (fun e => by have : w4.heap.size = b1 := Option.some.inj e; omega),
                        cell_grown h2 (cell_belowG (by (first | exact ((Below.refl _ _).alloc (Nat.le_refl _) _).drew | exact (((Below.refl _ _).alloc (Nat.le_refl _) _).alloc (by simp) _).drew | exact Below.refl _ _ | exact (Below.refl _ _).alloc (Nat.le_refl _) _ | exact ((Below.refl _ _).alloc (Nat.le_refl _) _).alloc (by simp) _)) e1 hq5) (Nat.lt_of_lt_of_le hq5 (show Below w5.heap.size w5 _ from (by (first | exact ((Below.refl _ _).alloc (Nat.le_refl _) _).drew | exact (((Below.refl _ _).alloc (Nat.le_refl _) _).alloc (by simp) _).drew | exact Below.refl _ _ | exact (Below.refl _ _).alloc (Nat.le_refl _) _ | exact ((Below.refl _ _).alloc (Nat.le_refl _) _).alloc (by simp) _))).size) (fun e => by have : w4.heap.size = b1 := Option.some.inj e; omega),
                        cell_grown h2 (cell_belowG (by (first | exact ((Below.refl _ _).alloc (Nat.le_refl _) _).drew | exact (((Below.refl _ _).alloc (Nat.le_refl _) _).alloc (by simp) _).drew | exact Below.refl _ _ | exact (Below.refl _ _).alloc (Nat.le_refl _) _ | exact ((Below.refl _ _).alloc (Nat.le_refl _) _).alloc (by simp) _)) e2 hq5) (Nat.lt_of_lt_of_le hq5 (show Below w5.heap.size w5 _ from (by (first | exact ((Below.refl _ _).alloc (Nat.le_refl _) _).drew | exact (((Below.refl _ _).alloc (Nat.le_refl _) _).alloc (by simp) _).drew | exact Below.refl _ _ | exact (Below.refl _ _).alloc (Nat.le_refl _) _ | exact ((Below.refl _ _).alloc (Nat.le_refl _) _).alloc (by simp) _))).size) (fun e => by have : w4.heap.size = b1 := Option.some.inj e; omega),
                        cell_grown h2 (cell_belowG (by (first | exact ((Below.refl _ _).alloc (Nat.le_refl _) _).drew | exact (((Below.refl _ _).alloc (Nat.le_refl _) _).alloc (by simp) _).drew | exact Below.refl _ _ | exact (Below.refl _ _).alloc (Nat.le_refl _) _ | exact ((Below.refl _ _).alloc (Nat.le_refl _) _).alloc (by simp) _)) e3 hq5) (Nat.lt_of_lt_of_le hq5 (show Below w5.heap.size w5 _ from (by (first | exact ((Below.refl _ _).alloc (Nat.le_refl _) _).drew | exact (((Below.refl _ _).alloc (Nat.le_refl _) _).alloc (by simp) _).drew | exact Below.refl _ _ | exact (Below.refl _ _).alloc (Nat.le_refl _) _ | exact ((Below.refl _ _).alloc (Nat.le_refl _) _).alloc (by simp) _))).size) (fun e => by have : w4.heap.size = b1 := Option.some.inj e; omega),
                        cell_grown h2 (cell_belowG (by (first | exact ((Below.refl _ _).alloc (Nat.le_refl _) _).drew | exact (((Below.refl _ _).alloc (Nat.le_refl _) _).alloc (by simp) _).drew | exact Below.refl _ _ | exact (Below.refl _ _).alloc (Nat.le_refl _) _ | exact ((Below.refl _ _).alloc (Nat.le_refl _) _).alloc (by simp) _)) d0 hbl5) (Nat.lt_of_lt_of_le hbl5 (show Below w5.heap.size w5 _ from (by (first | exact ((Below.refl _ _).alloc (Nat.le_refl _) _).drew | exact (((Below.refl _ _).alloc (Nat.le_refl _) _).alloc (by simp) _).drew | exact Below.refl _ _ | exact (Below.refl _ _).alloc (Nat.le_refl _) _ | exact ((Below.refl _ _).alloc (Nat.le_refl _) _).alloc (by simp) _))).size) (fun e => hn1l (Option.some.inj e).symm)⟩)
                     have hs9 := HS9.out
                     try have g58 := cell_grown h2 (newBd _ (.int .i64 (n : Int)) _ _ w5.heap.size rfl) (by first | (simp; done) | (simp; omega)) (fun e => by have : w5.heap.size = b1 := Option.some.inj e; omega)
                     try have g58 := cell_grown h2 (newCd _ _ (.int .i64 (n : Int)) _ (w5.heap.size + 1) rfl) (by first | (simp; done) | (simp; omega)) (fun e => by have : w5.heap.size + 1 = b1 := Option.some.inj e; omega)
                     have h9lt : w4.heap.size < w9.heap.size := Nat.lt_of_lt_of_le hq5 hbe
                     have h9bl : bl < w9.heap.size := Nat.lt_of_lt_of_le hbl5 hbe
                     clear h1 h2 h3 hbe)
                  | (go_simp
                     go_at_call 58
                     with_reducible refine (cloneI_any _ li _ ?hw ?hl).mono ?_
                     case hw => exact HRI9.out.below (by (first | exact ((Below.refl _ _).alloc (Nat.le_refl _) _).drew | exact (((Below.refl _ _).alloc (Nat.le_refl _) _).alloc (by simp) _).drew | exact Below.refl _ _ | exact (Below.refl _ _).alloc (Nat.le_refl _) _ | exact ((Below.refl _ _).alloc (Nat.le_refl _) _).alloc (by simp) _))
                     case hl => omega
                     rintro e w10 ⟨v10, rfl, ho10, hb10⟩
                     have HB10 := Lib.hid (bthen (show Below w9.heap.size w9 _ from (by (first | exact ((Below.refl _ _).alloc (Nat.le_refl _) _).drew | exact (((Below.refl _ _).alloc (Nat.le_refl _) _).alloc (by simp) _).drew | exact Below.refl _ _ | exact (Below.refl _ _).alloc (Nat.le_refl _) _ | exact ((Below.refl _ _).alloc (Nat.le_refl _) _).alloc (by simp) _))) hb10)
                     have HO10 := Lib.hid (ho10.mono (show Below w9.heap.size w9 _ from (by (first | exact ((Below.refl _ _).alloc (Nat.le_refl _) _).drew | exact (((Below.refl _ _).alloc (Nat.le_refl _) _).alloc (by simp) _).drew | exact Below.refl _ _ | exact (Below.refl _ _).alloc (Nat.le_refl _) _ | exact ((Below.refl _ _).alloc (Nat.le_refl _) _).alloc (by simp) _))).size)
                     have hs10 := (show w10.cell? ⟨w4.heap.size, 0, none⟩ = some (.int .i64 q0) ∧ w10.cell? ⟨w4.heap.size, 1, none⟩ = some (.int .i64 q1) ∧ w10.cell? ⟨w4.heap.size, 2, none⟩ = some (.int .i64 q2) ∧ w10.cell? ⟨w4.heap.size, 3, none⟩ = some (.int .i64 q3) ∧ w10.cell? ⟨bl, i, none⟩ = some (.slice ar li.length cr) from ⟨cell_belowG HB10.out HS9.out.1 h9lt, cell_belowG HB10.out HS9.out.2.1 h9lt, cell_belowG HB10.out HS9.out.2.2.1 h9lt, cell_belowG HB10.out HS9.out.2.2.2.1 h9lt, cell_belowG HB10.out HS9.out.2.2.2.2 h9bl⟩)
                     try have g58 := cell_belowG hb10 (newA _ (.int .i64 (n : Int)) _ w9.heap.size rfl) (by simp)
                     try have g58 := cell_belowG HB10.out g58 (by omega)
                     clear ho10 hb10)
                  | (refine step_app1G (by rfl) _ _ 24 (by rfl) 2 l0 Tryz.underlying24 HL.out lz0 lz1 lz2 w9.heap.size _ li (by rfl) (HO10.out.below (by (first | exact ((Below.refl _ _).alloc (Nat.le_refl _) _).drew | exact (((Below.refl _ _).alloc (Nat.le_refl _) _).alloc (by simp) _).drew | exact Below.refl _ _ | exact (Below.refl _ _).alloc (Nat.le_refl _) _ | exact ((Below.refl _ _).alloc (Nat.le_refl _) _).alloc (by simp) _))) _ (n : Int) (by rfl) (by first | exact g58 | exact newA _ _ _ _ rfl) HGN.out (by omega) (Nat.le_trans HB10.out.size (show Below w10.heap.size w10 _ from (by (first | exact ((Below.refl _ _).alloc (Nat.le_refl _) _).drew | exact (((Below.refl _ _).alloc (Nat.le_refl _) _).alloc (by simp) _).drew | exact Below.refl _ _ | exact (Below.refl _ _).alloc (Nat.le_refl _) _ | exact ((Below.refl _ _).alloc (Nat.le_refl _) _).alloc (by simp) _))).size) ?_
                     intro v11 w11 h1 h2 h3
                     obtain ⟨a11, c11, hsh⟩ := h1.ri.shape
                     subst hsh
                     simp only [List.length_append, List.length_singleton] at h1
                     have HB11 := Lib.hid (bgrown (bthen HB10.out (show Below w10.heap.size w10 _ from (by (first | exact ((Below.refl _ _).alloc (Nat.le_refl _) _).drew | exact (((Below.refl _ _).alloc (Nat.le_refl _) _).alloc (by simp) _).drew | exact Below.refl _ _ | exact (Below.refl _ _).alloc (Nat.le_refl _) _ | exact ((Below.refl _ _).alloc (Nat.le_refl _) _).alloc (by simp) _)))) h2 (fun k hk => (HO10.out.lt k hk).1))
                     have HO11 := Lib.hid h1
                     have hs11 := (show w11.cell? ⟨w4.heap.size, 0, none⟩ = some (.int .i64 q0) ∧ w11.cell? ⟨w4.heap.size, 1, none⟩ = some (.int .i64 q1) ∧ w11.cell? ⟨w4.heap.size, 2, none⟩ = some (.int .i64 q2) ∧ w11.cell? ⟨w4.heap.size, 3, none⟩ = some (.int .i64 q3) ∧ w11.cell? ⟨bl, i, none⟩ = some (.slice ar li.length cr) from ⟨cell_belowG HB11.out HS9.out.1 h9lt, cell_belowG HB11.out HS9.out.2.1 h9lt, cell_belowG HB11.out HS9.out.2.2.1 h9lt, cell_belowG HB11.out HS9.out.2.2.2.1 h9lt, cell_belowG HB11.out HS9.out.2.2.2.2 h9bl⟩)
                     clear h1 h2 h3)
                  | (refine step_appLK (by rfl) _ _ 38 (by rfl) 24 j0 _ Tryz.underlying38 HJ.out jz0 (by rfl) jz1 24 jz2 (by decide) W.heap.size bl cl LT.length rs HRL.out (by rfl) (HR9.out.below (bthen HB11.out (by (first | exact ((Below.refl _ _).alloc (Nat.le_refl _) _).drew | exact (((Below.refl _ _).alloc (Nat.le_refl _) _).alloc (by simp) _).drew | exact Below.refl _ _ | exact (Below.refl _ _).alloc (Nat.le_refl _) _ | exact ((Below.refl _ _).alloc (Nat.le_refl _) _).alloc (by simp) _)))).ls (.slice a11 (li.length + 1) c11) _ (by rfl) (by exact laidA _ _ _ _ rfl) (LV.one HO11.out.ri) (by omega) (Nat.le_trans HB9.out.size (bthen HB11.out (show Below w11.heap.size w11 _ from (by (first | exact ((Below.refl _ _).alloc (Nat.le_refl _) _).drew | exact (((Below.refl _ _).alloc (Nat.le_refl _) _).alloc (by simp) _).drew | exact Below.refl _ _ | exact (Below.refl _ _).alloc (Nat.le_refl _) _ | exact ((Below.refl _ _).alloc (Nat.le_refl _) _).alloc (by simp) _)))).size) ?_
                     intro v12 w12 h1 h2 h3 h4
                     have hb11 : Below w9.heap.size w9 (w11.alloc (.cells #[.slice a11 (li.length + 1) c11] 24)) := HB11.out.alloc HB11.out.size _
                     have hs12 := (show w12.cell? ⟨w4.heap.size, 0, none⟩ = some (.int .i64 q0) ∧ w12.cell? ⟨w4.heap.size, 1, none⟩ = some (.int .i64 q1) ∧ w12.cell? ⟨w4.heap.size, 2, none⟩ = some (.int .i64 q2) ∧ w12.cell? ⟨w4.heap.size, 3, none⟩ = some (.int .i64 q3) ∧ w12.cell? ⟨bl, i, none⟩ = some (.slice ar li.length cr) from
                       ⟨cell_grown h2 (cell_belowG hb11 HS9.out.1 h9lt) (Nat.lt_of_lt_of_le h9lt hb11.size) (fun e => by have : w4.heap.size = bl := Option.some.inj e; omega),
                        cell_grown h2 (cell_belowG hb11 HS9.out.2.1 h9lt) (Nat.lt_of_lt_of_le h9lt hb11.size) (fun e => by have : w4.heap.size = bl := Option.some.inj e; omega),
                        cell_grown h2 (cell_belowG hb11 HS9.out.2.2.1 h9lt) (Nat.lt_of_lt_of_le h9lt hb11.size) (fun e => by have : w4.heap.size = bl := Option.some.inj e; omega),
                        cell_grown h2 (cell_belowG hb11 HS9.out.2.2.2.1 h9lt) (Nat.lt_of_lt_of_le h9lt hb11.size) (fun e => by have : w4.heap.size = bl := Option.some.inj e; omega),
                        (h4 i hirs).trans (cell_belowG hb11 HS9.out.2.2.2.2 h9bl)⟩)
                     have HB12 := Lib.hid (bgrown (bthen (bthen HB9.out HB11.out) (show Below w11.heap.size w11 _ from (by (first | exact ((Below.refl _ _).alloc (Nat.le_refl _) _).drew | exact (((Below.refl _ _).alloc (Nat.le_refl _) _).alloc (by simp) _).drew | exact Below.refl _ _ | exact (Below.refl _ _).alloc (Nat.le_refl _) _ | exact ((Below.refl _ _).alloc (Nat.le_refl _) _).alloc (by simp) _)))) h2 (fun k hk => (HR9.out.ls.lt k hk).1))
                     have HR12 := Lib.hid ((HR9.out.below (bthen HB11.out (by (first | exact ((Below.refl _ _).alloc (Nat.le_refl _) _).drew | exact (((Below.refl _ _).alloc (Nat.le_refl _) _).alloc (by simp) _).drew | exact Below.refl _ _ | exact (Below.refl _ _).alloc (Nat.le_refl _) _ | exact ((Below.refl _ _).alloc (Nat.le_refl _) _).alloc (by simp) _)))).addLs h1 h2 (fun k hk => (h3 k hk).imp (fun e => congrArg some e) id) (HO11.out.ri.below (by (first | exact ((Below.refl _ _).alloc (Nat.le_refl _) _).drew | exact (((Below.refl _ _).alloc (Nat.le_refl _) _).alloc (by simp) _).drew | exact Below.refl _ _ | exact (Below.refl _ _).alloc (Nat.le_refl _) _ | exact ((Below.refl _ _).alloc (Nat.le_refl _) _).alloc (by simp) _))) (HR9.out.free (fun q hq => ⟨(HO11.out.lt q hq).1, Nat.lt_of_lt_of_le (HO11.out.lt q hq).2 (show Below w11.heap.size w11 _ from (by (first | exact ((Below.refl _ _).alloc (Nat.le_refl _) _).drew | exact (((Below.refl _ _).alloc (Nat.le_refl _) _).alloc (by simp) _).drew | exact Below.refl _ _ | exact (Below.refl _ _).alloc (Nat.le_refl _) _ | exact ((Below.refl _ _).alloc (Nat.le_refl _) _).alloc (by simp) _))).size⟩)))
                     clear h1 h2 h3))
              all_goals
                go_wp2_with fail
                go_roundw
                case rel => exact ⟨j + 1, _, _, _, by omega, rfl, rfl, by go_num, HB12.out, Lib.hid (by rw [HFOLD.out, HADD.out]; exact HR12.out)⟩
                case measure => simp [intOf]; omega
          · go_wp2_with fail
            go_roundw
            case rel =>
              have h1 := HR.out
              rw [List.take_of_length_le (by omega), ← HN.out] at h1
              exact ⟨i + 1, _, _, _, by omega, rfl, rfl, by go_num, hb, Lib.hid (h1.back (HHW.out.below hb) (fun q hq => by have := HFR.out q hq; omega) hb.size)⟩
            case measure => simp [intOf]; omega
      · go_wp2_with fail
        go_ret2
        have he := HEND.out (by omega)
        rw [← he]
        exact ⟨_, _, rfl, HR.out.st.si, ⟨rs, HR.out.ls.si, HR.out.rows⟩, HB0.out.trans (hb.mono (by have := HSZ.out; omega))⟩

end Go.Proofs.YthlpbeohlhhblaaGreat
