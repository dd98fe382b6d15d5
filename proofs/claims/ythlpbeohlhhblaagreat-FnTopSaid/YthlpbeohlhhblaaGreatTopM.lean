/-
  ValidTravels of valid halls and ways; deadlock, FirstDeadlock, IsFree.
  The reference's free places, carriers inside, places that are a state, and moves.
-/
import Derived.Test.YthlpbeohlhhblaaGreatTopL
import Derived.Test.YthlpbeohlhhblaaGreatTopF
import Derived.Test.YthlpbeohlhhblaaGreatTopJ
import Derived.Test.YthlpbeohlhhblaaGreatTopI
import Derived.BigRegion
namespace Go.Proofs.YthlpbeohlhhblaaGreat
open Go.RowKit

set_option maxRecDepth 100000 in
/-- Compact of a list without equal neighbours is the list. -/
theorem compactNo_any (v : Value) (xs : List Int) (w : World) (hv : RI w v xs) (hl : xs.length ≤ 1000) (hne : ∀ j, j + 1 < xs.length → xs.getD j 0 ≠ xs.getD (j + 1) 0) :
    Calls Tryz.prog 71 #[v] w fun e w' => e = .returned v ∧ Below w.heap.size w w' := by
  obtain ⟨a, cap, rfl⟩ := hv.shape
  have HV := Lib.hid hv
  have HN := Lib.hid hne
  clear hv hne
  go_enter Tryz.func71, Tryz.ntmps71
  by_cases h2 : xs.length < 2
  · have hd : decide ((xs.length : Int) < 2) = true := decide_eq_true (by omega)
    have hd2 : decide (xs.length < 2) = true := decide_eq_true h2
    go_wp2_with fail
    go_ret
    exact ⟨rfl, Below.refl _ _⟩
  · have hd : decide ((xs.length : Int) < 2) = false := decide_eq_false (by omega)
    have hd2 : decide (xs.length < 2) = false := decide_eq_false h2
    go_wp2_with fail
    go_loopw [3] (fun i wr => ∃ (k : Nat), 1 ≤ k ∧ k ≤ xs.length ∧ i = .int .i64 k ∧ Below w.heap.size w wr) (fun i _ => xs.length - (intOf i).toNat)
    case atStart => exact ⟨1, Nat.le_refl _, by omega, rfl, Below.refl _ _⟩
    case round =>
      obtain ⟨k, hk1, hk, rfl, hb⟩ := hrel
      rename World => wr
      by_cases hlt : k < xs.length
      · obtain ⟨j, rfl⟩ : ∃ j, k = j + 1 := ⟨k - 1, by omega⟩
        obtain ⟨b, off, rfl, hbl, hc⟩ := HV.out.cells (by omega)
        have g0 := (hb.cell (p := ⟨b, off + (j + 1), none⟩) hbl).trans (hc (j + 1) hlt)
        have g1 := (hb.cell (p := ⟨b, off + j, none⟩) hbl).trans (hc j (by omega))
        have hne := HN.out j hlt
        generalize xs.getD (j + 1) 0 = x at g0 hne
        generalize xs.getD j 0 = y at g1 hne
        have hq : (y == x) = false := by rw [beq_eq_false_iff_ne]; exact hne
        have hq2 : (x == y) = false := by rw [beq_eq_false_iff_ne]; exact fun e => hne e.symm
        have hwj : IntKind.i64.wrap (((j + 1 : Nat) : Int) - 1) = (j : Int) := by rw [IntWalk.i64_in _ (by omega)]; omega
        have hwj2 : IntKind.i64.wrap ((j : Int) + 1 - 1) = (j : Int) := by rw [IntWalk.i64_in _ (by omega)]; omega
        have hwj3 : IntKind.i64.wrap (j : Int) = (j : Int) := IntWalk.i64_in _ (by omega)
        have hj1 : (j : Int) + 1 < (xs.length : Int) := by omega
        have hj2 : (j : Int) < (xs.length : Int) := by omega
        have HB := Lib.hid hb
        clear hc hne hb
        go_wp2_with fail
        go_quiet (fail)
        go_wp2_with fail
        go_roundw
        case rel => exact ⟨j + 1 + 1, by omega, by omega, by go_num, below_drewN HB.out _⟩
        case measure => simp [intOf]; omega
      · go_wp2_with fail
        go_ret
        exact ⟨rfl, hb⟩

theorem validTravels1_enters : ∀ args w, (callFunc 70 args).run Tryz.prog w = .ok (.enter 70 args) w := enters_of Tryz.func70 (by kernel_rfl) rfl

set_option maxRecDepth 100000 in
theorem validTravels1_no (m : Nat) (way : List Int) (s : Value) (b1 : Nat) (w : World) (hc : w.cell? ⟨b1, 0, none⟩ = some (.int .i64 ((m : Int) - 1))) (hlt : b1 < w.heap.size) (hs : RI w s way) (ok : okRoad m way) (hm : m ≤ 5) :
    Calls Tryz.prog 70 #[s, .pointer (some ⟨b1, 0, none⟩)] w fun e w' => e = .returned (.bool false) ∧ Below w.heap.size w w' := by
  obtain ⟨a2, cap2, rfl⟩ := hs.shape
  obtain ⟨o1, o2, o3, o4⟩ := ok
  have HI := Lib.hid (show inB 1 5 (way.length : Int) = true by unfold inB; simp; omega)
  have hall : way.all (inB 0 ((m : Int) - 1)) = true := by
    rw [List.all_eq_true]
    intro x hx
    obtain ⟨k, hk, rfl⟩ := List.getElem_of_mem hx
    have := o3 k hk
    rw [show way.getD k 0 = way[k] by simp [List.getD, hk]] at this
    unfold inB
    simp; omega
  have C2 := outside_any (.slice a2 way.length cap2) way 0 ((m : Int) - 1)
  rw [any_not_all hall] at C2
  have D2 := Lib.hid (fun W (h : Below w.heap.size w W) => C2 W (hs.below h))
  have D3 := Lib.hid (fun W (h : Below w.heap.size w W) => cloneI_any (.slice a2 way.length cap2) way W (hs.below h) (by omega))
  have HO4 := Lib.hid o4
  clear hs o3 o4 hall C2
  go_enter Tryz.func70, Tryz.ntmps70
  go_wp2_with (first
    | (go_at_call 59
       refine (within_any _ _ _ _).mono ?_
       rintro e w' ⟨rfl, rfl⟩
       rw [HI.out])
    | (go_at_call 46
       refine (D2.out _ (Below.refl _ _)).mono ?_
       rintro e w1 ⟨rfl, hb1⟩)
    | (go_at_call 58
       refine (D3.out _ hb1).mono ?_
       rintro e w2 ⟨v2, rfl, ho2, hb2⟩
       obtain ⟨a3, c3, hsh⟩ := ho2.ri.shape
       subst hsh)
    | (go_at_call 71
       refine (compactNo_any _ way _ ho2.ri (by omega) HO4.out).mono ?_
       rintro e w3 ⟨rfl, hb3⟩
       have HB3 := Lib.hid (bthen (bthen hb1 hb2) hb3)))
  go_ret
  exact ⟨rfl, HB3.out⟩

set_option maxRecDepth 100000 in
theorem validTravels_yes (halls : List Int) (ways : List (List Int)) (hv wv : Value) (w : World) (hh : RI w hv halls) (hw : WaysI w wv ways) (ok : OkHW halls ways) :
    Calls Tryz.prog 39 #[hv, wv] w fun e w' => e = .returned (.bool true) ∧ Below w.heap.size w w' := by
  obtain ⟨a, cap, rfl, _, _⟩ := hw.shape
  obtain ⟨a2, cap2, rfl⟩ := hh.shape
  have hw4 := ok.w4
  have hh1 := ok.h1
  have hh2 := ok.h2
  have hmf : ∀ (fn : Fn) (first cap : Array Value) (w : World), (Instr.makeFunc fn first cap).run Tryz.prog w = .ok (.func fn first cap) w := fun _ _ _ _ => rfl
  have hw1 : IntKind.i64.wrap ((halls.length : Int) - 1) = (halls.length : Int) - 1 := IntWalk.i64_in _ (by omega)
  have HB := Lib.hid ((Below.refl w.heap.size w).alloc (Nat.le_refl _) (.cells #[.int .i64 ((halls.length : Int) - 1)] 2))
  have hz : w.heap.size < (w.alloc (.cells #[.int .i64 ((halls.length : Int) - 1)] 2)).heap.size := by simp
  have c0 : (w.alloc (.cells #[.int .i64 ((halls.length : Int) - 1)] 2)).cell? ⟨w.heap.size, 0, none⟩ = some (.int .i64 ((halls.length : Int) - 1)) := by rw [World.cell?_alloc_at _ _ _ _ rfl]; rfl
  have HW := Lib.hid (hw.below HB.out)
  have HI := Lib.hid (show inB 0 5 ((halls.length : Int) - 1) = true by unfold inB; simp; omega)
  have hall : halls.all (inB 1 3) = true := by
    rw [List.all_eq_true]
    intro x hx
    obtain ⟨k, hk, rfl⟩ := List.getElem_of_mem hx
    have := ok.hv k hk
    rw [show halls.getD k 0 = halls[k] by simp [List.getD, hk]] at this
    unfold inB
    simp; omega
  have C2 := outside_any (.slice a2 halls.length cap2) halls 1 3 _ (hh.below HB.out)
  rw [any_not_all hall] at C2
  have D2 := Lib.hid C2
  have HOK := Lib.hid ok
  have d2 : decide ((ways.length : Int) ≤ 4) = true := decide_eq_true (by omega)
  have d3 : decide (ways.length ≤ 4) = true := decide_eq_true hw4
  clear hw hh ok hall C2
  go_enter Tryz.func39, Tryz.ntmps39
  go_wp2_with fail
  generalize w.alloc (.cells #[.int .i64 ((halls.length : Int) - 1)] 2) = wb at hz HB c0 HW D2 ⊢
  refine (within_any _ _ _ _).mono ?_
  rintro e w' ⟨rfl, rfl⟩
  rw [HI.out]
  go_wp2_with fail
  refine D2.out.mono ?_
  rintro e w1 ⟨rfl, hb⟩
  have HB2 := Lib.hid (bthen HB.out hb)
  have HW2 := Lib.hid (HW.out.below hb)
  have c1 := (hb.cell (p := ⟨w.heap.size, 0, none⟩) hz).trans c0
  have hz1 := Nat.lt_of_lt_of_le hz hb.size
  clear hb c0 hz
  go_wp2_with fail
  refine (containsNoneWay_any 70 #[.pointer (some ⟨w.heap.size, 0, none⟩)] _ ways _ validTravels1_enters ?_ HW2.out).mono ?_
  · intro W k s hk hb hs
    exact (validTravels1_no halls.length (ways.getD k []) s w.heap.size W ((hb.cell (p := ⟨w.heap.size, 0, none⟩) hz1).trans c1) (Nat.lt_of_lt_of_le hz1 hb.size) hs (HOK.out.wl k hk) hh2).mono fun e w' ⟨he, hb'⟩ => ⟨he, bthen hb hb'⟩
  · rintro e w' ⟨rfl, hb'⟩
    have HB3 := Lib.hid (bthen HB2.out hb')
    clear hb'
    go_wp2_with fail
    go_ret
    exact ⟨rfl, HB3.out⟩

/-- What the search for a deadlock tells. -/
def lstOf (L : List (List Int)) : Option Nat → List Int
  | none => []
  | some k => L.getD k []

set_option maxRecDepth 100000 in
set_option maxHeartbeats 4000000 in
theorem deadlock_any (halls : List Int) (ways : List (List Int)) (hv wv : Value) (w : World) (hw : WaysI w wv ways) (hh : RI w hv halls) (ok : OkHW halls ways) :
    Calls Tryz.prog 41 #[trV hv wv ways.length] w fun e w' => ∃ (o : Option Nat) (v1 : Value), DeadR halls ways (reachT halls ways).1 o ∧ e = .returned (.tuple #[v1, .bool o.isSome]) ∧ RI w' v1 (lstOf (reachT halls ways).2 o) ∧ Below w.heap.size w w' := by
  have hRC := fun W' (h : Below w.heap.size w W') => reached_any halls ways hv wv W' (hw.below h) (hh.below h) ok
  have hIV := reach_inv halls ways
  generalize reachT halls ways = R at hRC hIV ⊢
  obtain ⟨S, L⟩ := R
  simp only at hRC hIV ⊢
  obtain ⟨a, cap, rfl, _, _⟩ := hw.shape
  obtain ⟨a2, cap2, rfl⟩ := hh.shape
  have hw4 := ok.w4
  have hb0 := (Below.refl w.heap.size w).alloc (Nat.le_refl _) (.cells #[.slice a2 halls.length cap2, .slice a ways.length cap, .int .i64 (ways.length : Nat)] 83)
  have hbsz : w.heap.size < (w.alloc (.cells #[.slice a2 halls.length cap2, .slice a ways.length cap, .int .i64 (ways.length : Nat)] 83)).heap.size := by simp
  have k0 : (w.alloc (.cells #[.slice a2 halls.length cap2, .slice a ways.length cap, .int .i64 (ways.length : Nat)] 83)).cell? ⟨w.heap.size, 0, none⟩ = some (.slice a2 halls.length cap2) := by rw [World.cell?_alloc_at _ _ _ _ rfl]; rfl
  have k1 : (w.alloc (.cells #[.slice a2 halls.length cap2, .slice a ways.length cap, .int .i64 (ways.length : Nat)] 83)).cell? ⟨w.heap.size, 1, none⟩ = some (.slice a ways.length cap) := by rw [World.cell?_alloc_at _ _ _ _ rfl]; rfl
  have k2 : (w.alloc (.cells #[.slice a2 halls.length cap2, .slice a ways.length cap, .int .i64 (ways.length : Nat)] 83)).cell? ⟨w.heap.size, 2, none⟩ = some (.int .i64 (ways.length : Nat)) := by rw [World.cell?_alloc_at _ _ _ _ rfl]; rfl
  have HB0 := Lib.hid hb0
  have HWW := Lib.hid (hw.below hb0)
  have HHW := Lib.hid (hh.below hb0)
  have HOK := Lib.hid ok
  have HINV := Lib.hid hIV
  have hmost := bi4_most ok hIV
  have C1 := Lib.hid (show Calls Tryz.prog 72 #[.agg #[.slice a2 halls.length cap2, .slice a ways.length cap, .int .i64 (ways.length : Nat)]] _ _ from hRC _ hb0)
  clear hw hh hb0 ok hRC hIV
  unfold trV
  go_enter Tryz.func41, Tryz.ntmps41
  go_upto_region 1 with fail
  generalize w.alloc (.cells #[.slice a2 halls.length cap2, .slice a ways.length cap, .int .i64 (ways.length : Nat)] 83) = W at hbsz k0 k1 k2 HB0 HWW HHW C1 ⊢
  go_wp2_with (
    go_at_call 72
    refine C1.out.mono ?_
    rintro e w2 ⟨v1, v2, rfl, hs2, hl2, hb2⟩
    obtain ⟨ast, cst, hsh⟩ := hs2.shape
    subst hsh
    have HS2 := Lib.hid hs2
    have HL2 := Lib.hid hl2
    have HB2 := Lib.hid hb2
    clear hs2 hl2 hb2)
  go_loopw [15] (fun i wr => ∃ (k : Nat), k ≤ S.length ∧ i = .int .i64 k ∧ Below w2.heap.size w2 wr ∧ Hid (∀ j, j < k → deadS halls ways (S.getD j zSt) = false)) (fun i _ => S.length - (intOf i).toNat)
  case atStart => exact ⟨0, Nat.zero_le _, rfl, Below.refl _ _, Lib.hid (fun j hj => absurd hj (Nat.not_lt_zero _))⟩
  case round =>
    obtain ⟨k, hk, rfl, hb, HNO⟩ := hrel
    rename World => wr
    by_cases hlt : k < S.length
    · have hkw : w.heap.size < w2.heap.size := Nat.lt_of_lt_of_le hbsz HB2.out.size
      have HBR := Lib.hid (bthen HB2.out hb)
      have z0 := ((bthen HB2.out hb).cell (p := ⟨w.heap.size, 0, none⟩) hbsz).trans k0
      have z1 := ((bthen HB2.out hb).cell (p := ⟨w.heap.size, 1, none⟩) hbsz).trans k1
      have z2 := ((bthen HB2.out hb).cell (p := ⟨w.heap.size, 2, none⟩) hbsz).trans k2
      have HS3 := HS2.out.below hb
      obtain ⟨bs, os, rfl, hbs, hcs⟩ := HS3.cells (by omega)
      have c0 : wr.cell? ⟨bs, os + k * 4, none⟩ = some (.int .i64 (S.getD k zSt).1) := hcs k 0 hlt (by decide)
      have c1 : wr.cell? ⟨bs, os + k * 4 + 1, none⟩ = some (.int .i64 (S.getD k zSt).2.1) := hcs k 1 hlt (by decide)
      have c2 : wr.cell? ⟨bs, os + k * 4 + 2, none⟩ = some (.int .i64 (S.getD k zSt).2.2.1) := hcs k 2 hlt (by decide)
      have c3 : wr.cell? ⟨bs, os + k * 4 + 3, none⟩ = some (.int .i64 (S.getD k zSt).2.2.2) := hcs k 3 hlt (by decide)
      have hos : ∀ c, 0 ≤ at4 (S.getD k zSt) c ∧ at4 (S.getD k zSt) c ≤ 900 := fun c => by
        have : 0 ≤ at4 (S.getD k zSt) c ∧ at4 (S.getD k zSt) c ≤ 6 := okP_bound HOK.out (bi4_ok HOK.out HINV.out hlt) c
        omega
      have hHb := HB2.out
      have HDS := Lib.hid (show deadS halls ways (S.getD k zSt) = (!doneP ways (at4 (S.getD k zSt)) ways.length && decide ((movesP halls ways (at4 (S.getD k zSt)) ways.length).length = 0)) from rfl)
      have CD := fun W' (h : Below W.heap.size W W') => allDone_any halls ways (S.getD k zSt) _ _ W' (HWW.out.below h) (HHW.out.below h) hw4
      have CM := fun W' (h : Below W.heap.size W W') => moves_any halls ways (S.getD k zSt) _ _ W' (HWW.out.below h) (HHW.out.below h) HOK.out hos
      have HLEN : L.length = S.length := HINV.out.len
      have HLN := Lib.hid HLEN
      clear hcs hos HS3 HLEN
      have HSN := Lib.hid (fun (h : deadS halls ways (S.getD k zSt) = false) => show ∀ j, j < k + 1 → deadS halls ways (S.getD j zSt) = false from fun j hj => by
        by_cases e : j = k
        · rw [e]; exact h
        · exact HNO.out j (by omega))
      have HSY := Lib.hid (fun (h : deadS halls ways (S.getD k zSt) = true) => show DeadR halls ways S (some k) from .inr ⟨k, rfl, hlt, h, HNO.out⟩)
      generalize deadS halls ways (S.getD k zSt) = ds at HDS HSN HSY
      generalize movesP halls ways (at4 (S.getD k zSt)) ways.length = ms at HDS CM
      generalize doneP ways (at4 (S.getD k zSt)) ways.length = dn at HDS CD
      generalize S.getD k zSt = s at c0 c1 c2 c3 CD CM
      obtain ⟨s0, s1, s2, s3⟩ := s
      simp only at c0 c1 c2 c3
      unfold trV stV at CD CM
      simp only at CD CM
      have DD := Lib.hid CD
      have DM := Lib.hid CM
      have hklt : w.heap.size < wr.heap.size := Nat.lt_of_lt_of_le hkw hb.size
      have HAL := Lib.hid ((Below.refl wr.heap.size wr).alloc (Nat.le_refl _) (.cells #[.int .i64 s0, .int .i64 s1, .int .i64 s2, .int .i64 s3] 121))
      have HRB := Lib.hid hb
      clear CD CM hb hHb
      cases dn with
      | true =>
        have HE := Lib.hid (HSN.out (by rw [HDS.out]; rfl))
        go_wp2_with (
          go_at_call 73
          refine (DD.out _ (bthen HBR.out HAL.out)).mono ?_
          rintro e w3 ⟨rfl, hb3⟩
          have HB3 := Lib.hid (bthen HRB.out (bthen HAL.out hb3))
          clear hb3)
        go_roundw
        case rel => exact ⟨k + 1, by omega, by go_num, HB3.out, HE⟩
        case measure => simp [intOf]; omega
      | false =>
        by_cases hm : ms.length = 0
        · have HE := Lib.hid (HSY.out (by rw [HDS.out, decide_eq_true hm]; rfl))
          obtain ⟨al, cl, hLs, _, _⟩ := HL2.out.shape
          subst hLs
          obtain ⟨bl, ol, rfl, hbl, hcl⟩ := HL2.out.cells (by rw [HLN.out]; omega)
          obtain ⟨vl, hvl, cL⟩ := hcl k (by rw [HLN.out]; exact hlt)
          have HVL := Lib.hid hvl
          have hkL : (k : Int) < (L.length : Int) := by rw [HLN.out]; omega
          obtain ⟨avl, cvl, hvs⟩ := hvl.shape
          subst hvs
          have hmz : decide ((ms.length : Int) = 0) = true := decide_eq_true (by omega)
          have hmb : ((ms.length : Int) == 0) = true := by rw [beq_iff_eq]; omega
          clear hcl hvl hm
          go_wp2_with (first
            | (go_at_call 73
               refine (DD.out _ (bthen HBR.out HAL.out)).mono ?_
               rintro e w3 ⟨rfl, hb3⟩
               have hbw3 := bthen HBR.out (bthen HAL.out hb3)
               have y0 := (hbw3.cell (p := ⟨w.heap.size, 0, none⟩) hbsz).trans k0
               have y1 := (hbw3.cell (p := ⟨w.heap.size, 1, none⟩) hbsz).trans k1
               have y2 := (hbw3.cell (p := ⟨w.heap.size, 2, none⟩) hbsz).trans k2
               have t0 : w3.cell? ⟨wr.heap.size, 0, none⟩ = some (.int .i64 s0) := (hb3.cell (p := ⟨wr.heap.size, 0, none⟩) (by simp)).trans (by rw [World.cell?_alloc_at _ _ _ _ rfl]; rfl)
               have t1 : w3.cell? ⟨wr.heap.size, 1, none⟩ = some (.int .i64 s1) := (hb3.cell (p := ⟨wr.heap.size, 1, none⟩) (by simp)).trans (by rw [World.cell?_alloc_at _ _ _ _ rfl]; rfl)
               have t2 : w3.cell? ⟨wr.heap.size, 2, none⟩ = some (.int .i64 s2) := (hb3.cell (p := ⟨wr.heap.size, 2, none⟩) (by simp)).trans (by rw [World.cell?_alloc_at _ _ _ _ rfl]; rfl)
               have t3 : w3.cell? ⟨wr.heap.size, 3, none⟩ = some (.int .i64 s3) := (hb3.cell (p := ⟨wr.heap.size, 3, none⟩) (by simp)).trans (by rw [World.cell?_alloc_at _ _ _ _ rfl]; rfl))
            | (go_at_call 74
               refine (DM.out _ hbw3).mono ?_
               rintro e w4 ⟨vm, rfl, hom, hb4⟩
               obtain ⟨am, cm, hms⟩ := hom.ri.shape
               subst hms
               have hb24 := bthen HRB.out (bthen (bthen HAL.out hb3) hb4)
               have HB4 := Lib.hid hb24
               have cL4 := (hb24.cell (p := ⟨bl, ol + k, none⟩) hbl).trans cL))
          go_ret2
          exact ⟨some k, _, HE.out, rfl, HVL.out.below HB4.out, HB0.out.trans ((bthen HB2.out HB4.out).mono (by omega))⟩
        · have HE := Lib.hid (HSN.out (by rw [HDS.out, decide_eq_false hm]; rfl))
          have hmz : decide ((ms.length : Int) = 0) = false := decide_eq_false (by omega)
          have hmb : ((ms.length : Int) == 0) = false := by rw [beq_eq_false_iff_ne]; omega
          clear hm
          go_wp2_with (first
            | (go_at_call 73
               refine (DD.out _ (bthen HBR.out HAL.out)).mono ?_
               rintro e w3 ⟨rfl, hb3⟩
               have hbw3 := bthen HBR.out (bthen HAL.out hb3)
               have y0 := (hbw3.cell (p := ⟨w.heap.size, 0, none⟩) hbsz).trans k0
               have y1 := (hbw3.cell (p := ⟨w.heap.size, 1, none⟩) hbsz).trans k1
               have y2 := (hbw3.cell (p := ⟨w.heap.size, 2, none⟩) hbsz).trans k2
               have t0 : w3.cell? ⟨wr.heap.size, 0, none⟩ = some (.int .i64 s0) := (hb3.cell (p := ⟨wr.heap.size, 0, none⟩) (by simp)).trans (by rw [World.cell?_alloc_at _ _ _ _ rfl]; rfl)
               have t1 : w3.cell? ⟨wr.heap.size, 1, none⟩ = some (.int .i64 s1) := (hb3.cell (p := ⟨wr.heap.size, 1, none⟩) (by simp)).trans (by rw [World.cell?_alloc_at _ _ _ _ rfl]; rfl)
               have t2 : w3.cell? ⟨wr.heap.size, 2, none⟩ = some (.int .i64 s2) := (hb3.cell (p := ⟨wr.heap.size, 2, none⟩) (by simp)).trans (by rw [World.cell?_alloc_at _ _ _ _ rfl]; rfl)
               have t3 : w3.cell? ⟨wr.heap.size, 3, none⟩ = some (.int .i64 s3) := (hb3.cell (p := ⟨wr.heap.size, 3, none⟩) (by simp)).trans (by rw [World.cell?_alloc_at _ _ _ _ rfl]; rfl))
            | (go_at_call 74
               refine (DM.out _ hbw3).mono ?_
               rintro e w4 ⟨vm, rfl, hom, hb4⟩
               obtain ⟨am, cm, hms⟩ := hom.ri.shape
               subst hms
               have hb24 := bthen HRB.out (bthen (bthen HAL.out hb3) hb4)
               have HB4 := Lib.hid hb24))
          go_roundw
          case rel => exact ⟨k + 1, by omega, by go_num, HB4.out, HE⟩
          case measure => simp [intOf]; omega
    · go_wp2_with fail
      go_ret2
      exact ⟨none, _, .inl ⟨rfl, fun j hj => HNO.out j (by omega)⟩, rfl, RI.nil _, HB0.out.trans ((bthen HB2.out hb).mono (by omega))⟩

theorem firstDeadlock_any (halls : List Int) (ways : List (List Int)) (hv wv : Value) (w : World) (hh : RI w hv halls) (hw : WaysI w wv ways) (ok : OkHW halls ways) :
    Calls Tryz.prog 13 #[hv, wv] w fun e w' => ∃ (o : Option Nat) (v1 : Value), DeadR halls ways (reachT halls ways).1 o ∧ e = .returned (.tuple #[v1, .int .i64 (if o.isSome then 0 else 3)]) ∧ RI w' v1 (lstOf (reachT halls ways).2 o) ∧ Below w.heap.size w w' := by
  have C1 := Lib.hid (validTravels_yes halls ways hv wv w hh hw ok)
  have C2 := Lib.hid (fun W (h : Below w.heap.size w W) => newTravels_any hv wv halls ways W (hw.below h) (hh.below h))
  have C3 := Lib.hid (fun W (h : Below w.heap.size w W) => deadlock_any halls ways hv wv W (hw.below h) (hh.below h) ok)
  obtain ⟨a, cap, rfl, _, _⟩ := hw.shape
  obtain ⟨a3, cap3, rfl⟩ := hh.shape
  clear hh hw ok
  go_enter Tryz.func13, Tryz.ntmps13
  go_upto_region 4 with (first
    | (go_at_call 39
       refine C1.out.mono ?_
       rintro e w1 ⟨rfl, hb1⟩)
    | (go_at_call 40
       refine (C2.out _ hb1).mono ?_
       rintro e w2 ⟨rfl, hb2⟩)
    | (go_at_call 41
       refine (C3.out _ (bthen hb1 hb2)).mono ?_
       rintro e w3 ⟨o, v3, hd3, rfl, hr3, hb3⟩
       have HD3 := Lib.hid hd3
       have HR3 := Lib.hid hr3
       have HB3 := Lib.hid (bthen (bthen hb1 hb2) hb3)
       clear hd3 hr3 hb3))
  cases o with
  | none =>
    go_wp2_with fail
    go_ret2
    exact ⟨none, _, HD3.out, rfl, RI.nil _, HB3.out⟩
  | some k =>
    go_wp2_with fail
    go_ret2
    exact ⟨some k, _, HD3.out, rfl, HR3.out, HB3.out⟩

theorem isFree_any (halls : List Int) (ways : List (List Int)) (hv wv : Value) (w : World) (hh : RI w hv halls) (hw : WaysI w wv ways) (ok : OkHW halls ways) :
    Calls Tryz.prog 14 #[hv, wv] w fun e w' => ∃ (o : Option Nat), DeadR halls ways (reachT halls ways).1 o ∧ e = .returned (.tuple #[.bool (!o.isSome), .int .i64 0]) ∧ Below w.heap.size w w' := by
  have C1 := Lib.hid (validTravels_yes halls ways hv wv w hh hw ok)
  have C2 := Lib.hid (fun W (h : Below w.heap.size w W) => newTravels_any hv wv halls ways W (hw.below h) (hh.below h))
  have C3 := Lib.hid (fun W (h : Below w.heap.size w W) => deadlock_any halls ways hv wv W (hw.below h) (hh.below h) ok)
  obtain ⟨a, cap, rfl, _, _⟩ := hw.shape
  obtain ⟨a3, cap3, rfl⟩ := hh.shape
  clear hh hw ok
  go_enter Tryz.func14, Tryz.ntmps14
  go_upto_region 4 with (first
    | (go_at_call 39
       refine C1.out.mono ?_
       rintro e w1 ⟨rfl, hb1⟩)
    | (go_at_call 40
       refine (C2.out _ hb1).mono ?_
       rintro e w2 ⟨rfl, hb2⟩)
    | (go_at_call 41
       refine (C3.out _ (bthen hb1 hb2)).mono ?_
       rintro e w3 ⟨o, v3, hd3, rfl, hr3, hb3⟩
       have HD3 := Lib.hid hd3
       have HB3 := Lib.hid (bthen (bthen hb1 hb2) hb3)
       clear hd3 hr3 hb3))
  cases o with
  | none =>
    go_wp2_with fail
    go_ret2
    exact ⟨none, HD3.out, rfl, HB3.out⟩
  | some k =>
    go_wp2_with fail
    go_ret2
    exact ⟨some k, HD3.out, rfl, HB3.out⟩

end Go.Proofs.YthlpbeohlhhblaaGreat
namespace Go.Proofs.YthlpbeohlhhblaaGreat
open Go.RowKit

/-- Where carriers stand, by a list. -/
def ofL (ps : List Int) : Nat → Int := fun c => ps.getD c 0
/-- The free places of all halls, the first k carriers being counted. -/
def roomL (halls : List Int) (ways : List (List Int)) (p : Nat → Int) (k : Nat) : List Int := (List.range halls.length).map fun (h : Nat) => halls.getD h 0 - cntN ways p h k
theorem roomL_length (halls : List Int) (ways : List (List Int)) (p : Nat → Int) (k : Nat) : (roomL halls ways p k).length = halls.length := by simp [roomL]
theorem roomL_getD {halls : List Int} (ways : List (List Int)) (p : Nat → Int) (k : Nat) {h : Nat} (hh : h < halls.length) : (roomL halls ways p k).getD h 0 = halls.getD h 0 - cntN ways p h k := by
  simp [roomL, List.getD, List.getElem?_map, List.getElem?_range hh]
theorem roomL_zero (halls : List Int) (ways : List (List Int)) (p : Nat → Int) : roomL halls ways p 0 = halls := by
  apply List.ext_getElem (by simp [roomL])
  intro i h1 h2
  simp [roomL, cntN, List.getD, h2]
theorem roomL_out {halls : List Int} {ways : List (List Int)} {p : Nat → Int} {k : Nat} (h : hallAt ways p k < 0) : roomL halls ways p (k + 1) = roomL halls ways p k := by
  unfold roomL
  apply List.map_congr_left
  intro i _
  show _ - (cntN ways p i k + _) = _
  rw [if_neg (by omega)]; omega
theorem roomL_in {halls : List Int} {ways : List (List Int)} {p : Nat → Int} {k h : Nat} (e : hallAt ways p k = (h : Int)) (hh : h < halls.length) : roomL halls ways p (k + 1) = (roomL halls ways p k).set h ((roomL halls ways p k).getD h 0 - 1) := by
  rw [roomL_getD ways p k hh]
  apply List.ext_getElem (by simp [roomL])
  intro i h1 h2
  rw [List.getElem_set]
  simp only [roomL, List.getElem_map, List.getElem_range]
  rw [show cntN ways p (i : Int) (k + 1) = cntN ways p i k + if hallAt ways p k = (i : Int) then 1 else 0 from rfl, e]
  by_cases he : h = i
  · subst he; simp; omega
  · rw [if_neg he, if_neg (by omega)]; omega
theorem hallAt_no {ways : List (List Int)} {p : Nat → Int} {k : Nat} (h : inB 1 ((ways.getD k []).length : Int) (p k) = false) : hallAt ways p k < 0 := by
  unfold hallAt
  rw [if_pos]
  · omega
  · unfold inB at h
    rw [Bool.and_eq_false_iff, decide_eq_false_iff_not, decide_eq_false_iff_not] at h
    omega
theorem hallAt_yes {ways : List (List Int)} {p : Nat → Int} {k j : Nat} (e : p k = (j : Int) + 1) (hj : j < (ways.getD k []).length) : hallAt ways p k = (ways.getD k []).getD j 0 := by
  unfold hallAt
  rw [if_neg (by omega), e, show ((j : Int) + 1 - 1).toNat = j by omega]

set_option maxRecDepth 100000 in
theorem l12Inside_any (halls : List Int) (ways : List (List Int)) (ps : List Int) (wv pv : Value) (w : World) (hw : WaysI w wv ways) (hp : RI w pv ps) (ok : OkHW halls ways) (hl : ps.length = ways.length) :
    Calls Tryz.prog 99 #[wv, pv] w fun e w' => e = .returned (.int .i64 (inside ways (ofL ps) ways.length)) ∧ Below w.heap.size w w' := by
  obtain ⟨a, cap, rfl, _, _⟩ := hw.shape
  obtain ⟨a2, cap2, rfl⟩ := hp.shape
  have hw4 := ok.w4
  rw [hl]
  have HW := Lib.hid hw
  have HP := Lib.hid (show RI w (.slice a2 ways.length cap2) ps by rw [← hl]; exact hp)
  have HPL := Lib.hid hl
  have HOK := Lib.hid ok
  clear hw hp ok hl
  go_enter Tryz.func99, Tryz.ntmps99
  go_wp2_with fail
  go_loopw [5, 6] (fun n i wr => ∃ (k : Nat), k ≤ ways.length ∧ n = .int .i64 (inside ways (ofL ps) k) ∧ i = .int .i64 k ∧ Below w.heap.size w wr) (fun _ i _ => ways.length - (intOf i).toNat)
  case atStart => exact ⟨0, Nat.zero_le _, rfl, rfl, Below.refl _ _⟩
  case round =>
    obtain ⟨k, hk, rfl, rfl, hb⟩ := hrel
    rename World => wr
    by_cases hlt : k < ways.length
    · obtain ⟨b, off, rfl, hbl, hcells⟩ := HW.out.cells (by omega)
      obtain ⟨v, hv1, c0⟩ := hcells k hlt
      obtain ⟨bp, op, rfl, hbp, hcp⟩ := HP.out.cells (by rw [HPL.out]; omega)
      have c1 := hcp k (by rw [HPL.out]; exact hlt)
      have g0 := (hb.cell (p := ⟨b, off + k, none⟩) hbl).trans c0
      have g1 := (hb.cell (p := ⟨bp, op + k, none⟩) hbp).trans c1
      obtain ⟨bv, cv, rfl⟩ := hv1.shape
      have hin := inside_range ways (ofL ps) k
      have HE1 := Lib.hid (fun h : inB 1 ((ways.getD k []).length : Int) (ofL ps k) = false => inside_out (hallAt_no h))
      have HE2 := Lib.hid (fun h : inB 1 ((ways.getD k []).length : Int) (ofL ps k) = true => show inside ways (ofL ps) (k + 1) = inside ways (ofL ps) k + 1 from inside_in (by
        unfold inB at h
        simp only [Bool.and_eq_true, decide_eq_true_eq] at h
        obtain ⟨j, hj⟩ : ∃ j : Nat, ofL ps k = (j : Int) + 1 := ⟨(ofL ps k - 1).toNat, by omega⟩
        rw [hallAt_yes hj (by omega)]
        exact ((HOK.out.wl k hlt).2.2.1 j (by omega)).1))
      have hps : ps.getD k 0 = ofL ps k := rfl
      rw [hps] at g1
      generalize ofL ps k = x at g1 HE1 HE2
      generalize inside ways (ofL ps) k = n at hin HE1 HE2 ⊢
      have hwn : IntKind.i64.wrap (n + 1) = n + 1 := IntWalk.i64_in _ (by omega)
      have HB := Lib.hid hb
      clear hcells hcp c0 c1 hv1 hb hps
      generalize (ways.getD k []).length = ln at g0 HE1 HE2
      cases hx : inB 1 (ln : Int) x with
      | false =>
        have HX := Lib.hid hx
        have E1 := Lib.hid (HE1.out hx)
        clear hx
        go_wp2_with fail
        go_quiet ((go_at_call 107; exact quiet_eq (l00In_any _ _ _ _)))
        rw [HX.out]
        go_wp2_with fail
        go_roundw
        case rel => exact ⟨k + 1, by omega, by rw [E1.out], by go_num, below_drewN HB.out _⟩
        case measure => simp [intOf]; omega
      | true =>
        have HX := Lib.hid hx
        have E1 := Lib.hid (HE2.out hx)
        clear hx
        go_wp2_with fail
        go_quiet ((go_at_call 107; exact quiet_eq (l00In_any _ _ _ _)))
        rw [HX.out]
        go_wp2_with fail
        go_roundw
        case rel => exact ⟨k + 1, by omega, by rw [E1.out], by go_num, below_drewN HB.out _⟩
        case measure => simp [intOf]; omega
    · go_wp2_with fail
      go_ret
      obtain rfl : k = ways.length := by omega
      exact ⟨rfl, hb⟩

set_option maxRecDepth 100000 in
set_option maxHeartbeats 4000000 in
theorem l12Room_any (halls : List Int) (ways : List (List Int)) (ps : List Int) (hv wv pv : Value) (w : World) (hh : RI w hv halls) (hw : WaysI w wv ways) (hp : RI w pv ps) (ok : OkHW halls ways) (hl : ps.length = ways.length) :
    Calls Tryz.prog 98 #[hv, wv, pv] w fun e w' => ∃ v', e = .returned v' ∧ OI 2 w' w.heap.size v' (roomL halls ways (ofL ps) ways.length) ∧ Below w.heap.size w w' := by
  obtain ⟨a, cap, rfl, _, _⟩ := hw.shape
  obtain ⟨a2, cap2, rfl⟩ := hp.shape
  obtain ⟨a3, cap3, rfl⟩ := hh.shape
  have hw4 := ok.w4
  have hh1 := ok.h1
  have hh2 := ok.h2
  rw [hl]
  have C := Lib.hid (l00Own_any (.slice a3 halls.length cap3) halls w hh (by omega))
  have HW := Lib.hid hw
  have HP := Lib.hid (show RI w (.slice a2 ways.length cap2) ps by rw [← hl]; exact hp)
  have HPL := Lib.hid hl
  have HOK := Lib.hid ok
  clear hw hp hh ok hl
  go_enter Tryz.func98, Tryz.ntmps98
  go_wp2_with fail
  refine C.out.mono ?_
  rintro e w1 ⟨v1, rfl, ho1, hb1⟩
  have HO1 := Lib.hid ho1
  have HB1 := Lib.hid hb1
  obtain ⟨g, cg, hsh, hg1, hg2⟩ : ∃ g cg, v1 = .slice (some ⟨g, 0, none⟩) halls.length cg ∧ w.heap.size ≤ g ∧ g < w1.heap.size := by
    rcases ho1.shape with ⟨_, h0⟩ | ⟨g, cg, h1, h2, h3⟩
    · rw [h0] at hh1; simp at hh1
    · exact ⟨g, cg, h1, h2, h3⟩
  subst hsh
  clear ho1 hb1 C
  go_wp2_with fail
  go_loopw [8] (fun i wr => ∃ (k : Nat), k ≤ ways.length ∧ i = .int .i64 k ∧ Below w.heap.size w wr ∧ Hid (OI 2 wr w.heap.size (.slice (some ⟨g, 0, none⟩) halls.length cg) (roomL halls ways (ofL ps) k))) (fun i _ => ways.length - (intOf i).toNat)
  case atStart => exact ⟨0, Nat.zero_le _, rfl, HB1.out, Lib.hid (by rw [roomL_zero]; exact HO1.out)⟩
  case round =>
    obtain ⟨k, hk, rfl, hb, HO⟩ := hrel
    rename World => wr
    by_cases hlt : k < ways.length
    · obtain ⟨b, off, rfl, hbl, hcells⟩ := HW.out.cells (by omega)
      obtain ⟨v, hv1, c0⟩ := hcells k hlt
      obtain ⟨bp, op, rfl, hbp, hcp⟩ := HP.out.cells (by rw [HPL.out]; omega)
      have c1 := hcp k (by rw [HPL.out]; exact hlt)
      have g0 := (hb.cell (p := ⟨b, off + k, none⟩) hbl).trans c0
      have g1 := (hb.cell (p := ⟨bp, op + k, none⟩) hbp).trans c1
      obtain ⟨bv, cv, rfl⟩ := hv1.shape
      have HY := Lib.hid (hv1.below hb)
      have hps : ps.getD k 0 = ofL ps k := rfl
      rw [hps] at g1
      have HE1 := Lib.hid (fun h : inB 1 ((ways.getD k []).length : Int) (ofL ps k) = false => roomL_out (halls := halls) (hallAt_no h))
      have HRW := Lib.hid (fun j hj => (HOK.out.wl k hlt).2.2.1 j hj)
      have HCR := Lib.hid (fun h : Int => cntN_range ways (ofL ps) h k)
      have HHV := Lib.hid (fun h hh => HOK.out.hv h hh)
      have HB := Lib.hid hb
      clear hcells hcp c0 c1 hv1 hb hps
      cases hx : inB 1 ((ways.getD k []).length : Int) (ofL ps k) with
      | false =>
        have HX := Lib.hid hx
        have E1 := Lib.hid (HE1.out hx)
        clear hx
        generalize ofL ps k = x at g1 HX
        generalize (ways.getD k []) = way at g0 HX HY HRW
        go_wp2_with fail
        go_quiet ((go_at_call 107; exact quiet_eq (l00In_any _ _ _ _)))
        rw [HX.out]
        go_wp2_with fail
        go_roundw
        case rel => exact ⟨k + 1, by omega, by go_num, below_drewN HB.out _, Lib.hid (by rw [E1.out]; exact HO.out.below (below_drewN' _ _))⟩
        case measure => simp [intOf]; omega
      | true =>
        have HX := Lib.hid hx
        have hx2 : 1 ≤ ofL ps k ∧ ofL ps k ≤ ((ways.getD k []).length : Int) := by
          unfold inB at hx
          simpa only [Bool.and_eq_true, decide_eq_true_eq] using hx
        obtain ⟨j, hj⟩ : ∃ j : Nat, ofL ps k = (j : Int) + 1 := ⟨(ofL ps k - 1).toNat, by omega⟩
        have hjl : j < (ways.getD k []).length := by omega
        have hH := HRW.out j hjl
        obtain ⟨h, hh⟩ : ∃ h : Nat, (ways.getD k []).getD j 0 = (h : Int) := ⟨((ways.getD k []).getD j 0).toNat, by omega⟩
        have hhl : h < halls.length := by omega
        have E1 := Lib.hid (roomL_in (halls := halls) (ways := ways) (p := ofL ps) (k := k) (h := h) ((hallAt_yes hj hjl).trans hh) hhl)
        have hval := roomL_getD ways (ofL ps) k hhl
        have hr1 := HCR.out h
        have hr2 := HHV.out h hhl
        have hvb : -10 ≤ (roomL halls ways (ofL ps) k).getD h 0 ∧ (roomL halls ways (ofL ps) k).getD h 0 ≤ 10 := by rw [hval]; omega
        have hrl := roomL_length halls ways (ofL ps) k
        obtain ⟨bw, ow, rfl, hbw, hcw⟩ := HY.out.cells (by omega)
        have g2 := hcw j hjl
        rw [hh] at g2
        rw [hj] at g1 HX
        have hlR : h < (roomL halls ways (ofL ps) k).length := by rw [hrl]; exact hhl
        have hjI : (j : Int) < ((ways.getD k []).length : Int) := by omega
        have hw5 := (HOK.out.wl k hlt).2.1
        have hw1 : IntKind.i64.wrap (j : Int) = (j : Int) := IntWalk.i64_in _ (by omega)
        clear hw5 hx hx2 hj hh hH hcw hval hr1 hr2 hrl
        generalize (ways.getD k []) = way at g0 HX HY HRW hjl hjI
        generalize roomL halls ways (ofL ps) k = R at HO E1 hvb hlR
        go_wp2_with fail
        go_quiet ((go_at_call 107; exact quiet_eq (l00In_any _ _ _ _)))
        rw [HX.out]
        go_wp2_with fail
        generalize hq : World.drewN wr _ = w2
        have hb2 : Below wr.heap.size wr w2 := hq ▸ below_drewN' _ _
        have HO2 := Lib.hid (HO.out.below hb2)
        have HB2 := Lib.hid (HB.out.trans (hb2.mono HB.out.size))
        have d0 := (hb2.cell (p := ⟨b, off + k, none⟩) (Nat.lt_of_lt_of_le hbl HB.out.size)).trans g0
        have d1 := (hb2.cell (p := ⟨bp, op + k, none⟩) (Nat.lt_of_lt_of_le hbp HB.out.size)).trans g1
        have d2 := (hb2.cell (p := ⟨bw, ow + j, none⟩) hbw).trans g2
        obtain ⟨d3, d4⟩ := HO2.out.cell h hlR
        have hgd : Good (R.getD h 0 - 1) := by unfold Good; omega
        have hset := HO2.out.set h (R.getD h 0 - 1) hgd
        have HS1 := Lib.hid hset.1
        have HS2 := Lib.hid hset.2
        have hwv : IntKind.i64.wrap (R.getD h 0 - 1) = R.getD h 0 - 1 := IntWalk.i64_in _ (by omega)
        clear hset hq g0 g1 g2 hb2
        generalize R.getD h 0 = q at d3 hvb hgd HS1 HS2 hwv E1
        have hhI : (h : Int) < (halls.length : Int) := by omega
        go_region
        all_goals
          go_wp2_with fail
          go_roundw
          case rel => exact ⟨k + 1, by omega, by go_num, (HB2.out.grown HS2.out HB2.out.size (fun z e => by have : g = z := Option.some.inj e; omega)).drew, Lib.hid (by rw [E1.out]; exact HS1.out.below ((Below.refl _ _).drew))⟩
          case measure => simp [intOf]; omega
    · go_wp2_with fail
      go_ret
      obtain rfl : k = ways.length := by omega
      exact ⟨_, rfl, HO.out, hb⟩

end Go.Proofs.YthlpbeohlhhblaaGreat
