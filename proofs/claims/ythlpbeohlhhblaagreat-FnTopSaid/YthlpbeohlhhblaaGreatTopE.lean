/-
  earliestStart: the least tick from one on at which a run can begin.
  runsOfPlan: the runs of all wishes by an order.
-/
import Derived.Test.YthlpbeohlhhblaaGreatTopD
import Derived.Test.YthlpbeohlhhblaaGreatTopC
import Derived.Deep.DeepCutAuto
import Derived.Deep.RegionHeld3
import Derived.Deep.RegionWith
namespace Go.Proofs.YthlpbeohlhhblaaGreat
open Go.RowKit

theorem meet_any (a b c x y z : Int) (w : World) :
    Calls Tryz.prog 36 #[.agg #[.int .i64 a, .int .i64 b, .int .i64 c], .agg #[.int .i64 x, .int .i64 y, .int .i64 z]] w fun e w' => e = .returned (.bool (meets (a, b, c) (x, y, z))) ∧ Below w.heap.size w w' := by
  have HB : Below w.heap.size w ((w.alloc (.cells #[.int .i64 a, .int .i64 b, .int .i64 c] 76)).alloc (.cells #[.int .i64 x, .int .i64 y, .int .i64 z] 76)) := ((Below.refl _ _).alloc (Nat.le_refl _) _).alloc (by simp) _
  by_cases h1 : a = x
  · by_cases h2 : b < z
    · by_cases h3 : y < c
      · have e : meets (a, b, c) (x, y, z) = true := by simp [meets, h1, h2, h3]
        have HE := Lib.hid e
        have d1 : (a == x) = true := beq_iff_eq.2 h1
        have d2 : decide (b < z) = true := decide_eq_true h2
        have d3 : decide (y < c) = true := decide_eq_true h3
        clear h1 h2 h3 e
        go_enter Tryz.func36, Tryz.ntmps36
        go_wp2
        go_ret
        exact ⟨ret_bool HE.out.symm, HB⟩
      · have e : meets (a, b, c) (x, y, z) = false := by simp [meets, h3]
        have HE := Lib.hid e
        have d1 : (a == x) = true := beq_iff_eq.2 h1
        have d2 : decide (b < z) = true := decide_eq_true h2
        have d3 : decide (y < c) = false := decide_eq_false h3
        clear h1 h2 h3 e
        go_enter Tryz.func36, Tryz.ntmps36
        go_wp2
        go_ret
        exact ⟨ret_bool HE.out.symm, HB⟩
    · have e : meets (a, b, c) (x, y, z) = false := by simp [meets, h2]
      have HE := Lib.hid e
      have d1 : (a == x) = true := beq_iff_eq.2 h1
      have d2 : decide (b < z) = false := decide_eq_false h2
      clear h1 h2 e
      go_enter Tryz.func36, Tryz.ntmps36
      go_wp2
      go_ret
      exact ⟨ret_bool HE.out.symm, HB⟩
  · have e : meets (a, b, c) (x, y, z) = false := by simp [meets, h1]
    have HE := Lib.hid e
    have d1 : (a == x) = false := beq_eq_false_iff_ne.2 h1
    clear h1 e
    go_enter Tryz.func36, Tryz.ntmps36
    go_wp2
    go_ret
    exact ⟨ret_bool HE.out.symm, HB⟩

theorem taken_take_len {times : List Int} {rs : List RunP} (h : ∀ r ∈ rs, okWay times r.1 = true ∧ 0 ≤ r.2 ∧ r.2 ≤ 500000) : ∀ k, (taken times (rs.take k)).length ≤ 12 * (rs.take k).length := by
  intro k
  have : ∀ l : List RunP, (∀ r ∈ l, okWay times r.1 = true ∧ 0 ≤ r.2 ∧ r.2 ≤ 500000) → (taken times l).length ≤ 12 * l.length := by
    refine snoc_ind (by simp [taken]) fun l x ih hx => ?_
    have i := ih fun r hr => hx r (by simp [hr])
    have hw := (okWay_all (hx x (by simp)).1).2.2
    rw [taken_snoc, List.length_append, spans_length, List.length_append, List.length_singleton]
    omega
  exact this _ fun r hr => h r (List.mem_of_mem_take hr)
theorem take_snocR (rs : List RunP) (k : Nat) (h : k < rs.length) : rs.take (k + 1) = rs.take k ++ [rs.getD k zR] := take_snocG zR rs k h

set_option maxRecDepth 100000 in
set_option maxHeartbeats 4000000 in
theorem earliest_any (times : List Int) (rs : List RunP) (way : List Int) (f : Int) (tv rv yv : Value) (w : World) (ht : RI w tv times) (hr : RunsI w rv rs) (hy : RI w yv way) (hok : okTimes times = true) (hw : okWay times way = true)
    (hrs : ∀ r ∈ rs, okWay times r.1 = true ∧ 0 ≤ r.2 ∧ r.2 ≤ 500000) (hl : rs.length ≤ 6) (hM : ∀ o ∈ taken times rs, o.2.2 ≤ 100000) (h0 : 0 ≤ f) (h1 : f ≤ 100000) :
    Calls Tryz.prog 61 #[tv, rv, yv, .int .i64 f] w fun e w' => e = .returned (.int .i64 (estart times rs way f)) ∧ Below w.heap.size w w' := by
  obtain ⟨a, cap, rfl⟩ := ht.shape
  obtain ⟨a2, cap2, rfl, _, _⟩ := hr.shape
  obtain ⟨a3, cap3, rfl⟩ := hy.shape
  have HT := Lib.hid ht
  have HR := Lib.hid hr
  have HY := Lib.hid hy
  have HOK := Lib.hid hok
  have HW := Lib.hid hw
  have HRS := Lib.hid hrs
  have HM := Lib.hid hM
  have HTL := Lib.hid (taken_take_len hrs)
  clear ht hr hy hok hw hrs hM
  obtain ⟨i0, hi, hz0, hz1, hz2⟩ := info_parts infoSpan
  have HI := Lib.hid hi
  clear hi
  go_enter Tryz.func61, Tryz.ntmps61
  go_wp2_with fail
  go_loopw [9, 20] (fun vo i wr => ∃ (k : Nat) (o : Value), k ≤ rs.length ∧ vo = o ∧ i = .int .i64 k ∧ Below w.heap.size w wr ∧ Hid (OS P3 76 wr w.heap.size o (taken times (rs.take k)))) (fun _ i _ => rs.length - (intOf i).toNat)
  case atStart => exact ⟨0, _, Nat.zero_le _, rfl, rfl, (Below.refl _ _).alloc (Nat.le_refl _) _, Lib.hid (OS.lit0 _ _ _ (Nat.le_refl _))⟩
  case round =>
    rename World => wr
    obtain ⟨k, o, hk, rfl, rfl, hb, HO⟩ := hrel
    by_cases hlt : k < rs.length
    · obtain ⟨b, off, rfl, hbl, hc⟩ := HR.out.cells (by omega)
      obtain ⟨s, hs, c0, c1⟩ := hc k hlt
      obtain ⟨hr1, hr2, hr3⟩ := HRS.out _ (show rs.getD k zR ∈ rs by rw [show rs.getD k zR = rs[k] by simp [List.getD, hlt]]; exact List.getElem_mem hlt)
      have S1 := Lib.hid (taken_snoc times (rs.take k) (rs.getD k zR))
      have T1 := Lib.hid (take_snocR rs k hlt)
      have hlk := HTL.out k
      have hlk2 : (rs.take k).length ≤ k := List.length_take_le _ _
      have g0 := (hb.cell (p := ⟨b, off + k * 2, none⟩) hbl).trans c0
      have g1 := (hb.cell (p := ⟨b, off + k * 2 + 1, none⟩) hbl).trans c1
      clear hc c0 c1
      generalize rs.getD k zR = r at hs hr1 hr2 hr3 S1 T1 g1
      obtain ⟨way1, start⟩ := r
      obtain ⟨aw, cs, rfl⟩ := hs.shape
      simp only at hr1 hr2 hr3 g1 hs
      have HBX := Lib.hid ((Below.refl wr.heap.size wr).alloc (Nat.le_refl _) (.cells #[.slice aw way1.length cs, .int .i64 start] 72))
      have hrl := spans_length times start way1
      obtain ⟨w1, w2, w3⟩ := okWay_all hr1
      have C := Lib.hid (spansOf_any times way1 start (.slice a times.length cap) (.slice aw way1.length cs) _ ((HT.out.below hb).below HBX.out) ((hs.below hb).below HBX.out) HOK.out w1 w3 hr2 (by omega))
      have HB := Lib.hid (bthen hb HBX.out)
      have HO1 := Lib.hid (HO.out.below HBX.out)
      clear hs hr1 w1 hb
      go_wp2_with fail
      refine C.out.mono ?_
      rintro e wq ⟨v2, rfl, ho2, hb2⟩
      have HS2 := Lib.hid ho2.si
      have HO2 := Lib.hid (HO1.out.below hb2)
      have HB2 := Lib.hid (bthen HB.out hb2)
      have hsz := HB2.out.size
      clear ho2 hb2
      have hll : (taken times (rs.take k)).length + (spans times way1 start).length ≤ 1048576 := by omega
      go_wp2_with (
        at_builtin
        refine wpList_appL (E := P3) rfl _ _ 73 rfl 76 i0 _ Tryz.underlying73 HI.out hz0 rfl hz1 24 hz2 (by decide) w.heap.size _ _ rfl HO2.out _ _ rfl HS2.out (by omega) hsz ?_
        intro v9 w9 h1 h2
        have hb9 := HO2.out.step HB2.out h2
        have H9 := Lib.hid h1
        clear h1 h2)
      go_roundw
      case rel => exact ⟨k + 1, v9, by omega, rfl, by go_num, hb9, Lib.hid (by rw [T1.out, S1.out]; exact H9.out)⟩
      case measure => simp [intOf]; omega
    · have HO' := HO.out
      rw [List.take_of_length_le (by omega)] at HO'
      have HSI := Lib.hid HO'.si
      have hol := taken_take_len HRS.out rs.length
      rw [List.take_of_length_le (Nat.le_refl _)] at hol
      have HE := Lib.hid (show estart times rs way f = est times way (taken times rs) TRIES f from rfl)
      clear HO' HO HR
      generalize taken times rs = os at HSI HM hol HE
      have hosl : os.length ≤ 72 := by omega
      obtain ⟨ao, co, hsh⟩ := HSI.out.shape
      subst hsh
      have HB := Lib.hid hb
      have htr : TRIES = 200000 := rfl
      have htri : (100000 : Int) - f < TRIES := by rw [htr]; omega
      have HTR := Lib.hid htri
      clear hb htr htri
      go_wp2_with fail
      go_loopw [3] (fun c wr2 => ∃ (n : Nat) (z : Int), c = .int .i64 z ∧ Hid (estart times rs way f = est times way os n z) ∧ Hid ((100000 : Int) - z < n) ∧ 0 ≤ z ∧ z ≤ 100000 ∧ Below wr.heap.size wr wr2) (fun c _ => (100000 - intOf c).toNat)
      case atStart => exact ⟨TRIES, f, rfl, HE, HTR, h0, h1, Below.refl _ _⟩
      case round =>
        rename World => wo
        obtain ⟨n, z, rfl, HEN, HN, z0, z1, hbo⟩ := hrel
        obtain ⟨w1, w2, w3⟩ := okWay_all HW.out
        have HBO := Lib.hid (bthen HB.out hbo)
        have HBO0 := Lib.hid hbo
        have HSO := Lib.hid (HSI.out.below hbo)
        have C := Lib.hid (spansOf_any times way z (.slice a times.length cap) (.slice a3 way.length cap3) _ (HT.out.below HBO.out) (HY.out.below HBO.out) HOK.out w1 w3 z0 (by omega))
        have hsl := spans_length times z way
        have HF := Lib.hid (spans_fit HOK.out z way w1).2.2
        have HWB := Lib.hid (wait_bound HOK.out w1 HM.out z1)
        clear w1 hbo
        go_wp2_with fail
        refine C.out.mono ?_
        rintro e wp ⟨vp, rfl, hop, hbp⟩
        have HSP := Lib.hid hop.si
        have HOS := Lib.hid (HSO.out.below hbp)
        have HBP := Lib.hid (bthen HBO.out hbp)
        have HBQ := Lib.hid hbp
        clear hop hbp C HSO
        generalize hss : spans times way z = ss at HSP hsl HF HWB
        have HSS := Lib.hid hss
        clear hss
        obtain ⟨ap, cp, hsh⟩ := HSP.out.shape
        subst hsh
        have hsl2 : ss.length ≤ 12 := by omega
        clear hsl
        go_wp2_with fail
        go_loopw [12, 36] (fun t i wr3 => ∃ (k : Nat), k ≤ ss.length ∧ i = .int .i64 k ∧ t = .int .i64 (wait (ss.take k) os) ∧ Below wp.heap.size wp wr3) (fun _ i _ => ss.length - (intOf i).toNat)
        case atStart => exact ⟨0, Nat.zero_le _, rfl, rfl, Below.refl _ _⟩
        case round =>
          rename World => wi
          obtain ⟨k, hk, rfl, rfl, hbi⟩ := hrel
          by_cases hlt : k < ss.length
          · obtain ⟨b, off, rfl, hbl, hc⟩ := HSP.out.cells3 (by omega)
            obtain ⟨c0, c1, c2⟩ := hc k hlt
            have g0 := (hbi.cell (p := ⟨b, off + k * 3, none⟩) hbl).trans c0
            have g1 := (hbi.cell (p := ⟨b, off + k * 3 + 1, none⟩) hbl).trans c1
            have g2 := (hbi.cell (p := ⟨b, off + k * 3 + 2, none⟩) hbl).trans c2
            have hfk := HF.out _ (show ss.getD k (0, 0, 0) ∈ ss by rw [show ss.getD k (0, 0, 0) = ss[k] by simp [List.getD, hlt]]; exact List.getElem_mem hlt)
            have hks := (HSP.out.good3 k hlt).2.2
            have T1 := Lib.hid (take_snocG (0, 0, 0) ss k hlt)
            have W1 := Lib.hid (wait_snoc (ss.take k) os (ss.getD k (0, 0, 0)))
            have hwk := (wait_ge os (ss.take k)).1
            have hwl := wait_le os 100000 (by omega) (ss.take k) fun s hs o ho => by
              have e1 := HM.out o ho
              have e2 := (HF.out s (List.mem_of_mem_take hs)).2.1
              omega
            clear hc c0 c1 c2
            generalize ss.getD k (0, 0, 0) = sp at g0 g1 g2 hfk hks T1 W1
            obtain ⟨sa, sb, sc⟩ := sp
            simp only at g0 g1 g2 hfk hks
            obtain ⟨_, f1, f2, _⟩ := hfk
            have f3 : Good sc := hks
            unfold Good at f3
            generalize wait (ss.take k) os = wk at hwk hwl W1 ⊢
            have HBB := Lib.hid ((Below.refl wi.heap.size wi).alloc (Nat.le_refl _) (.cells #[.int .i64 sa, .int .i64 sb, .int .i64 sc] 76))
            have k0 : (wi.alloc (.cells #[.int .i64 sa, .int .i64 sb, .int .i64 sc] 76)).cell? ⟨wi.heap.size, 0, none⟩ = some (.int .i64 sa) := by rw [World.cell?_alloc_at _ _ _ _ rfl]; rfl
            have k1 : (wi.alloc (.cells #[.int .i64 sa, .int .i64 sb, .int .i64 sc] 76)).cell? ⟨wi.heap.size, 1, none⟩ = some (.int .i64 sb) := by rw [World.cell?_alloc_at _ _ _ _ rfl]; rfl
            have k2 : (wi.alloc (.cells #[.int .i64 sa, .int .i64 sb, .int .i64 sc] 76)).cell? ⟨wi.heap.size, 2, none⟩ = some (.int .i64 sc) := by rw [World.cell?_alloc_at _ _ _ _ rfl]; rfl
            have hkz : wi.heap.size < (wi.alloc (.cells #[.int .i64 sa, .int .i64 sb, .int .i64 sc] 76)).heap.size := by simp
            have HOJ := Lib.hid ((HOS.out.below hbi).below HBB.out)
            have HBI := Lib.hid (bthen hbi HBB.out)
            clear hbi
            go_wp2_with fail
            generalize wi.alloc (.cells #[.int .i64 sa, .int .i64 sb, .int .i64 sc] 76) = wj at k0 k1 k2 hkz HOJ HBI ⊢
            go_loopw [12, 42] (fun t i wr4 => ∃ (j : Nat), j ≤ os.length ∧ i = .int .i64 j ∧ t = .int .i64 (wait1 (sa, sb, sc) (os.take j) wk) ∧ Below wj.heap.size wj wr4) (fun _ i _ => os.length - (intOf i).toNat)
            case atStart => exact ⟨0, Nat.zero_le _, rfl, rfl, Below.refl _ _⟩
            case round =>
              rename World => wk4
              obtain ⟨j, hj, rfl, rfl, hb4⟩ := hrel
              by_cases hjl : j < os.length
              · obtain ⟨b2, off2, rfl, hbl2, hc⟩ := HOJ.out.cells3 (by omega)
                obtain ⟨c0, c1, c2⟩ := hc j hjl
                have m0 := (hb4.cell (p := ⟨b2, off2 + j * 3, none⟩) hbl2).trans c0
                have m1 := (hb4.cell (p := ⟨b2, off2 + j * 3 + 1, none⟩) hbl2).trans c1
                have m2 := (hb4.cell (p := ⟨b2, off2 + j * 3 + 2, none⟩) hbl2).trans c2
                have n0 := (hb4.cell (p := ⟨wi.heap.size, 0, none⟩) hkz).trans k0
                have n1 := (hb4.cell (p := ⟨wi.heap.size, 1, none⟩) hkz).trans k1
                have n2 := (hb4.cell (p := ⟨wi.heap.size, 2, none⟩) hkz).trans k2
                have hkz4 := Nat.lt_of_lt_of_le hkz hb4.size
                have hoj := HM.out _ (show os.getD j (0, 0, 0) ∈ os by rw [show os.getD j (0, 0, 0) = os[j] by simp [List.getD, hjl]]; exact List.getElem_mem hjl)
                have hgj := (HOJ.out.good3 j hjl)
                have T2 := Lib.hid (take_snocG (0, 0, 0) os j hjl)
                have W2 := Lib.hid (wait1_snoc (sa, sb, sc) (os.take j) wk (os.getD j (0, 0, 0)))
                have hwj := (wait1_ge (sa, sb, sc) wk (os.take j)).1
                have hwm := wait1_le (sa, sb, sc) wk 100000 hwl (os.take j) fun o ho => by
                  have e1 := HM.out o (List.mem_of_mem_take ho)
                  show o.2.2 - sb ≤ 100000
                  omega
                clear hc c0 c1 c2
                generalize os.getD j (0, 0, 0) = op at m0 m1 m2 hoj hgj T2 W2
                obtain ⟨oa, ob, oc⟩ := op
                simp only at m0 m1 m2 hoj hgj
                obtain ⟨q1, q2, q3⟩ := hgj
                unfold Good at q1 q2 q3
                generalize wait1 (sa, sb, sc) (os.take j) wk = wl at hwj hwm W2 ⊢
                have HBB := Lib.hid ((Below.refl wk4.heap.size wk4).alloc (Nat.le_refl _) (.cells #[.int .i64 oa, .int .i64 ob, .int .i64 oc] 76))
                have HBJ := Lib.hid (bthen hb4 HBB.out)
                have hsb : sb ≤ 100000 + 9223372036854675807 := by omega
                have C := meet_any sa sb sc oa ob oc (wk4.alloc (.cells #[.int .i64 oa, .int .i64 ob, .int .i64 oc] 76))
                have r0 : (wk4.alloc (.cells #[.int .i64 oa, .int .i64 ob, .int .i64 oc] 76)).cell? ⟨wk4.heap.size, 0, none⟩ = some (.int .i64 oa) := by rw [World.cell?_alloc_at _ _ _ _ rfl]; rfl
                have r1 : (wk4.alloc (.cells #[.int .i64 oa, .int .i64 ob, .int .i64 oc] 76)).cell? ⟨wk4.heap.size, 1, none⟩ = some (.int .i64 ob) := by rw [World.cell?_alloc_at _ _ _ _ rfl]; rfl
                have r2 : (wk4.alloc (.cells #[.int .i64 oa, .int .i64 ob, .int .i64 oc] 76)).cell? ⟨wk4.heap.size, 2, none⟩ = some (.int .i64 oc) := by rw [World.cell?_alloc_at _ _ _ _ rfl]; rfl
                have hrz : wk4.heap.size < (wk4.alloc (.cells #[.int .i64 oa, .int .i64 ob, .int .i64 oc] 76)).heap.size := by simp
                have l0 := (HBB.out.cell (p := ⟨wi.heap.size, 0, none⟩) hkz4).trans n0
                have l1 := (HBB.out.cell (p := ⟨wi.heap.size, 1, none⟩) hkz4).trans n1
                have l2 := (HBB.out.cell (p := ⟨wi.heap.size, 2, none⟩) hkz4).trans n2
                have hkz5 := Nat.lt_of_lt_of_le hkz4 HBB.out.size
                clear hb4
                cases hm : meets (sa, sb, sc) (oa, ob, oc) with
                | true =>
                  rw [hm] at C
                  rw [hm, if_pos rfl] at W2
                  have D := Lib.hid C
                  have hlt3 : sb < oc := by unfold meets at hm; simp at hm; omega
                  have hw5 : IntKind.i64.wrap (oc - sb) = oc - sb := IntWalk.i64_in _ (by omega)
                  clear hm C
                  go_wp2_with fail
                  generalize wk4.alloc (.cells #[.int .i64 oa, .int .i64 ob, .int .i64 oc] 76) = wm at r0 r1 r2 hrz l0 l1 l2 hkz5 HBJ D ⊢
                  refine D.out.mono ?_
                  rintro e wn ⟨rfl, hbn⟩
                  have t0 := (hbn.cell (p := ⟨wk4.heap.size, 2, none⟩) hrz).trans r2
                  have t1 := (hbn.cell (p := ⟨wi.heap.size, 1, none⟩) hkz5).trans l1
                  have HBN := Lib.hid (bthen HBJ.out hbn)
                  clear hbn r0 r1 r2 l0 l1 l2 m0 m1 m2 n0 n1 n2
                  go_wp2_with fail
                  go_roundw
                  case rel => exact ⟨j + 1, by omega, by go_num, by rw [T2.out, W2.out]; congr 1; simp only [Int.max_def]; split <;> split <;> omega, HBN.out⟩
                  case measure => simp [intOf]; omega
                | false =>
                  rw [hm] at C
                  rw [hm, if_neg (by simp)] at W2
                  have D := Lib.hid C
                  clear hm C
                  go_wp2_with fail
                  generalize wk4.alloc (.cells #[.int .i64 oa, .int .i64 ob, .int .i64 oc] 76) = wm at r0 r1 r2 hrz l0 l1 l2 hkz5 HBJ D ⊢
                  refine D.out.mono ?_
                  rintro e wn ⟨rfl, hbn⟩
                  have HBN := Lib.hid (bthen HBJ.out hbn)
                  clear hbn r0 r1 r2 l0 l1 l2 m0 m1 m2 n0 n1 n2
                  go_wp2_with fail
                  go_roundw
                  case rel => exact ⟨j + 1, by omega, by go_num, by rw [T2.out, W2.out], HBN.out⟩
                  case measure => simp [intOf]; omega
              · have HBE := Lib.hid (bthen HBI.out hb4)
                rw [List.take_of_length_le (by omega)]
                clear hb4
                go_wp2_with fail
                go_roundw
                case rel => exact ⟨k + 1, by omega, by go_num, by rw [T1.out, W1.out], HBE.out⟩
                case measure => simp [intOf]; omega
          · rw [List.take_of_length_le (by omega)]
            obtain ⟨b1, b2⟩ := HWB.out
            generalize hwt : wait ss os = wt at b1 b2
            have HWT := Lib.hid hwt
            have HBI := Lib.hid (bthen HBP.out hbi)
            have HBZ := Lib.hid (bthen (bthen HBO0.out HBQ.out) hbi)
            clear hwt hbi
            by_cases h0 : wt = 0
            · have q0 : (wt == 0) = true := by rw [h0]; rfl
              have hret : estart times rs way f = z := by
                rw [HEN.out]
                have hn := HN.out
                obtain ⟨m, rfl⟩ : ∃ m, n = m + 1 := ⟨n - 1, by omega⟩
                exact est_stop (by rw [HSS.out, HWT.out]; exact h0)
              have HRET := Lib.hid hret
              clear h0 hret
              go_wp2_with fail
              go_ret
              exact ⟨ret_int HRET.out.symm, HBI.out⟩
            · have q0 : (wt == 0) = false := beq_eq_false_iff_ne.2 h0
              have hnx : ∃ m : Nat, estart times rs way f = est times way os m (z + wt) ∧ (100000 : Int) - (z + wt) < m := by
                rw [HEN.out]
                have hn := HN.out
                obtain ⟨m, rfl⟩ : ∃ m, n = m + 1 := ⟨n - 1, by omega⟩
                refine ⟨m, ?_, by omega⟩
                rw [est_go (by rw [HSS.out, HWT.out]; exact h0), HSS.out, HWT.out]
              have HNX := Lib.hid hnx
              have hw1 : IntKind.i64.wrap (z + wt) = z + wt := IntWalk.i64_in _ (by omega)
              clear hnx
              go_wp2_with fail
              go_roundw
              case rel =>
                obtain ⟨m, e1, e2⟩ := HNX.out
                exact ⟨m, z + wt, rfl, Lib.hid e1, Lib.hid e2, by omega, by omega, HBZ.out⟩
              case measure => simp [intOf]; omega

end Go.Proofs.YthlpbeohlhhblaaGreat
namespace Go.Proofs.YthlpbeohlhhblaaGreat
open Go.RowKit

theorem infoRun : (Tryz.prog.info? 72).map (fun i => (i.zero, i.size, i.bytes)) = some (some (.agg #[.slice none 0 0, .int .i64 0]), 2, 32) := by kernel_rfl

/-- What make([]Run, n) has laid. -/
theorem OV.madeR {e : TypeId} {w : World} {base n : Nat} {v : Value} (h : w.ownsRow base e 2 v n (madeCells (Value.agg #[.slice none 0 0, .int .i64 0]).cells (n * 2)).toList) : OV RV e w base v (List.replicate n (.slice none 0 0, 0)) := by
  have e0 : ∀ n : Nat, RV.flat (List.replicate (n + 1) ((.slice none 0 0 : Value), (0 : Int))) = [.slice none 0 0, .int .i64 0] ++ RV.flat (List.replicate n (.slice none 0 0, 0)) := fun n => by
    rw [List.replicate_succ]; rfl
  have e1 : ∀ n k : Nat, (RV.flat (List.replicate n ((.slice none 0 0 : Value), (0 : Int))))[k]? = if k < n * 2 then some (if k % 2 = 0 then .slice none 0 0 else .int .i64 0) else none := by
    intro n
    induction n with
    | zero => intro k; simp [EncV.flat]
    | succ n ih =>
      intro k
      rw [e0]
      match k with
      | 0 => simp
      | 1 => rw [if_pos (by omega)]; rfl
      | k + 2 =>
        rw [List.getElem?_append_right (by simp)]
        simp only [List.length_cons, List.length_nil]
        rw [show k + 2 - (0 + 1 + 1) = k by omega, ih k]
        have q1 : (k + 2 < (n + 1) * 2) = (k < n * 2) := propext ⟨fun _ => by omega, fun _ => by omega⟩
        simp only [q1, show (k + 2) % 2 = k % 2 by omega]
  have e2 : (madeCells (Value.agg #[.slice none 0 0, .int .i64 0]).cells (n * 2)).toList = RV.flat (List.replicate n ((.slice none 0 0 : Value), (0 : Int))) := by
    apply List.ext_getElem?
    intro k
    rw [e1]
    simp only [madeCells, Value.cells]
    by_cases hk : k < n * 2
    · rw [if_pos hk]
      simp [hk]
      rcases Nat.mod_two_eq_zero_or_one k with h | h <;> simp [h]
    · rw [if_neg hk]
      simp; omega
  refine ⟨?_, fun x hx => ?_⟩
  · rw [List.length_replicate, ← e2]; exact h
  · obtain ⟨k, hk⟩ := List.getElem?_of_mem hx
    rw [e1] at hk
    split at hk
    · simp only [Option.some.injEq] at hk
      rw [← hk]
      split <;> rfl
    · cases hk

theorem flat_setR (rs : List (Value × Int)) (i : Nat) (x : Value) (y : Int) : RV.flat (rs.set i (x, y)) = ((RV.flat rs).set (i * 2) x).set (i * 2 + 1) (.int .i64 y) := by
  induction rs generalizing i with
  | nil => rfl
  | cons p rs ih =>
    have e : ∀ q : Value × Int, ∀ zs, RV.flat (q :: zs) = q.1 :: .int .i64 q.2 :: RV.flat zs := fun q zs => rfl
    cases i with
    | zero => rw [List.set_cons_zero, e, e]; rfl
    | succ i =>
      rw [List.set_cons_succ, e, e, ih, show (i + 1) * 2 = (i * 2 + 1) + 1 by omega, List.set_cons_succ, List.set_cons_succ]
      rfl
theorem flat_getR (rs : List (Value × Int)) (i : Nat) (hi : i < rs.length) : (RV.flat rs)[i * 2]? = some (rs.getD i (vz, 0)).1 ∧ (RV.flat rs)[i * 2 + 1]? = some (.int .i64 (rs.getD i (vz, 0)).2) := by
  induction rs generalizing i with
  | nil => simp at hi
  | cons p rs ih =>
    have e : RV.flat (p :: rs) = p.1 :: .int .i64 p.2 :: RV.flat rs := rfl
    rw [e]
    cases i with
    | zero => exact ⟨rfl, rfl⟩
    | succ i =>
      have := ih i (by simp at hi; omega)
      rw [show (i + 1) * 2 = (i * 2 + 1) + 1 by omega, show (i * 2 + 1) + 1 + 1 = (i * 2 + 1 + 1) + 1 by omega]
      simp only [List.getElem?_cons_succ, List.getD_cons_succ]
      exact this
/-- Both fields of run i are written. -/
theorem OV.setR {e : TypeId} {w : World} {base g n cap : Nat} {rs : List (Value × Int)} (h : OV RV e w base (.slice (some ⟨g, 0, none⟩) n cap) rs) (i : Nat) (hi : i < rs.length) (x : Value) (y : Int) (hx : x.oneCell' = true) :
    OV RV e ((w.setCell ⟨g, i * 2, none⟩ x).setCell ⟨g, i * 2 + 1, none⟩ (.int .i64 y)) base (.slice (some ⟨g, 0, none⟩) n cap) (rs.set i (x, y)) ∧ w.grownBy ((w.setCell ⟨g, i * 2, none⟩ x).setCell ⟨g, i * 2 + 1, none⟩ (.int .i64 y)) (some g) := by
  have hl : (RV.flat rs).length = rs.length * 2 := EncV.flat_length rs
  obtain ⟨q1, q2⟩ := flat_getR rs i hi
  obtain ⟨a1, a2⟩ := h.set (ys := rs.set i (x, (rs.getD i (vz, 0)).2)) (i * 2) x hx (by
    rw [flat_setR]
    apply List.ext_getElem?
    intro k
    rw [List.getElem?_set]
    by_cases hk : i * 2 + 1 = k
    · subst hk
      rw [if_pos rfl, if_pos (by rw [List.length_set]; omega), List.getElem?_set, if_neg (by omega), q2]
    · rw [if_neg hk])
  obtain ⟨b1, b2⟩ := a1.set (ys := rs.set i (x, y)) (i * 2 + 1) (.int .i64 y) rfl (by
    rw [flat_setR, flat_setR]
    simp only [List.set_set])
  exact ⟨b1, grownBy_trans a2 b2⟩

theorem OV.cellsR {e : TypeId} {w : World} {base g n cap : Nat} {rs : List (Value × Int)} (h : OV RV e w base (.slice (some ⟨g, 0, none⟩) n cap) rs) (i : Nat) (hi : i < rs.length) :
    (w.cell? ⟨g, i * 2, none⟩ = some (rs.getD i (vz, 0)).1 ∧ w.frozen? ⟨g, i * 2, none⟩ = false) ∧ w.cell? ⟨g, i * 2 + 1, none⟩ = some (.int .i64 (rs.getD i (vz, 0)).2) ∧ w.frozen? ⟨g, i * 2 + 1, none⟩ = false :=
  ⟨h.cell i 0 hi (by decide), h.cell i 1 hi (by decide)⟩
/-- One run in a block of its own. -/
def BoxR (w : World) (base g : Nat) (s : Value) (y : Int) : Prop := OV RV 72 w base (.slice (some ⟨g, 0, none⟩) 1 1) [(s, y)]
theorem BoxR.cells {w : World} {base g : Nat} {s : Value} {y : Int} (h : BoxR w base g s y) : (w.cell? ⟨g, 0, none⟩ = some s ∧ w.cell? ⟨g, 1, none⟩ = some (.int .i64 y)) ∧ w.frozen? ⟨g, 0, none⟩ = false ∧ w.frozen? ⟨g, 1, none⟩ = false := by
  obtain ⟨q0, q0f⟩ := OV.cell h 0 0 (by simp) (by decide)
  obtain ⟨q1, q1f⟩ := OV.cell h 0 1 (by simp) (by decide)
  exact ⟨⟨q0, q1⟩, q0f, q1f⟩
theorem BoxR.new (w : World) (s : Value) (y : Int) (hs : s.oneCell' = true) : BoxR (w.alloc (.cells #[s, .int .i64 y] 72)) w.heap.size w.heap.size s y :=
  ⟨World.ownsRow_lit (size := 2) w #[s, .int .i64 y] 1 (Nat.le_refl _) (by unfold maxLen; omega) rfl, fun x hx => by
    have hx : x ∈ [s, .int .i64 y] := hx
    simp at hx
    rcases hx with rfl | rfl
    · exact hs
    · rfl⟩
theorem BoxR.put {w : World} {base g : Nat} {s : Value} {y : Int} (h : BoxR w base g s y) (s' : Value) (y' : Int) (hs : s'.oneCell' = true) :
    BoxR ((w.setCell ⟨g, 0, none⟩ s').setCell ⟨g, 1, none⟩ (.int .i64 y')) base g s' y' ∧ w.grownBy ((w.setCell ⟨g, 0, none⟩ s').setCell ⟨g, 1, none⟩ (.int .i64 y')) (some g) := OV.setR h 0 (by simp) s' y' hs

theorem madeRows (w : World) (n : Nat) : RunRows w (List.replicate n (.slice none 0 0, 0)) (List.replicate n zR) := by
  refine ⟨by simp, fun i hi => ?_⟩
  simp only [List.length_replicate] at hi
  have e1 : (List.replicate n ((.slice none 0 0 : Value), (0 : Int))).getD i (vz, 0) = (.slice none 0 0, 0) := by simp [List.getD, List.getElem?_replicate, hi]
  have e2 : (List.replicate n zR).getD i zR = zR := by simp [List.getD, List.getElem?_replicate, hi]
  rw [e1, e2]
  exact ⟨RI.nil w, rfl⟩

set_option maxRecDepth 100000 in
set_option maxHeartbeats 4000000 in
theorem runsOfPlan_any (times : List Int) (xs : List WishP) (o : List Int) (tv lv ov : Value) (w : World) (ht : RI w tv times) (hx : WishI w lv xs) (ho : RI w ov o) (hok : okWishes times xs = true) (hor : okOrder xs.length o) :
    Calls Tryz.prog 30 #[tv, lv, ov] w fun e w' => ∃ v' rs, e = .returned v' ∧ OV RV 72 w' w.heap.size v' rs ∧ RunRows w rs (plan times xs o) ∧ Below w.heap.size w w' := by
  obtain ⟨a, cap, rfl⟩ := ht.shape
  obtain ⟨a2, cap2, rfl, _, _⟩ := hx.shape
  obtain ⟨a3, cap3, rfl⟩ := ho.shape
  have h6 : xs.length ≤ 6 := by
    unfold okWishes at hok
    simp only [Bool.and_eq_true, decide_eq_true_eq] at hok
    exact hok.1.2
  have hol : o.length ≤ 6 := by have := hor.1; omega
  have HT := Lib.hid ht
  have HX := Lib.hid hx
  have HO := Lib.hid ho
  have HOK := Lib.hid hok
  have HOR := Lib.hid hor
  clear ht hx ho hok hor
  obtain ⟨i0, hi, hz0, hz1, hz2⟩ := info_parts infoRun
  have HI := Lib.hid hi
  clear hi
  go_enter Tryz.func30, Tryz.ntmps30
  go_wp2_with (at_make; refine wpList_make_full _ rfl _ _ 33 rfl w.heap.size 72 i0 (.agg #[.slice none 0 0, .int .i64 0]) 2 Tryz.underlying33 HI.out hz0 hz1 .i64 .i64 _ _ xs.length rfl rfl rfl rfl (by rw [hz2]; omega) (by unfold maxLen; omega) (Nat.le_refl _) ?_; intro w1 hown hgr; have HM := Lib.hid (OV.madeR hown); have HG := Lib.hid hgr; clear hown hgr)
  have hb1 : Below w.heap.size w w1 := (Below.refl _ _).grown HG.out (Nat.le_refl _) (fun k hk => by cases hk)
  have HB1 := Lib.hid (hb1.alloc hb1.size (.cells #[] 72))
  have hlt1 : w.heap.size < w1.heap.size := (HM.out.1.lt w.heap.size rfl).2
  have HM1 := Lib.hid (HM.out.below ((Below.refl w1.heap.size w1).alloc (Nat.le_refl _) (.cells #[] 72)))
  have HD1 := Lib.hid (OV.lit0 (E := RV) 72 w1 w.heap.size hb1.size)
  have HR0 := Lib.hid (madeRows w xs.length)
  have HN0 := Lib.hid (RunRows.nil w)
  have HNE0 := Lib.hid (show (Value.slice (some ⟨w1.heap.size, 0, none⟩) 0 0).ownBlock ≠ some w.heap.size from fun e => by
    have : w1.heap.size = w.heap.size := by simpa [Value.ownBlock] using e
    omega)
  clear hb1 HM HG
  go_loopw [8, 18] (fun vd i wr => ∃ (j : Nat) (d : Value) (rs ds : List (Value × Int)), j ≤ o.length ∧ d = vd ∧ i = .int .i64 j ∧ Below w.heap.size w wr ∧ w.heap.size < wr.heap.size ∧ Hid (OV RV 72 wr w.heap.size (.slice (some ⟨w.heap.size, 0, none⟩) xs.length xs.length) rs) ∧ Hid (OV RV 72 wr w.heap.size d ds) ∧ Hid (RunRows w rs (planSt times xs (o.take j)).1) ∧ Hid (RunRows w ds (planSt times xs (o.take j)).2) ∧ Hid (d.ownBlock ≠ some w.heap.size)) (fun _ i _ => o.length - (intOf i).toNat)
  case atStart => exact ⟨0, _, _, _, Nat.zero_le _, rfl, rfl, HB1.out, Nat.lt_of_lt_of_le hlt1 (by simp), HM1, HD1, HR0, HN0, HNE0⟩
  case round =>
    rename World => wr
    obtain ⟨j, d, rs, ds, hj, rfl, rfl, hb, hlt0, HRS, HDS, HRR, HDR, HNE⟩ := hrel
    by_cases hlt : j < o.length
    · obtain ⟨b, off, rfl, hbl, hc⟩ := HO.out.cells (by omega)
      have g1 := (hb.cell (p := ⟨b, off + j, none⟩) hbl).trans (hc j hlt)
      have hm : o.getD j 0 ∈ o := by rw [show o.getD j 0 = o[j] by simp [List.getD, hlt]]; exact List.getElem_mem hlt
      have hbd := HOR.out.2.1 _ hm
      have T1 := Lib.hid (take_snoc o j hlt)
      have hpart : okPart xs.length (o.take j) := ⟨fun k hk => HOR.out.2.1 k (List.mem_of_mem_take hk), List.Nodup.sublist (List.take_sublist j o) HOR.out.2.2⟩
      have hP := planned HOK.out (o.take j) hpart (by simp; omega)
      have hPN := plan_next HOK.out hP (by simp; omega) hbd.1 hbd.2
      have hlj : (o.take j).length = j := by simp; omega
      have S1 := Lib.hid (planSt_snoc times xs (o.take j) (o.getD j 0))
      clear hc hm
      generalize o.getD j 0 = kk at g1 hbd T1 hPN S1
      obtain ⟨K, rfl⟩ : ∃ K : Nat, kk = K := ⟨kk.toNat, by omega⟩
      have hK : K < xs.length := by omega
      rw [Int.toNat_natCast] at hPN
      obtain ⟨b2, off2, rfl, hbl2, hc2⟩ := HX.out.cells (by omega)
      obtain ⟨s, hs, c0, c1, c2⟩ := hc2 K hK
      have m0 := (hb.cell (p := ⟨b2, off2 + K * 3, none⟩) hbl2).trans c0
      have m1 := (hb.cell (p := ⟨b2, off2 + K * 3 + 1, none⟩) hbl2).trans c1
      have hxk := okWishes_at HOK.out (k := K) (by omega) (by omega)
      rw [Int.toNat_natCast] at hxk
      have hpe : planRun times xs (planSt times xs (o.take j)).2 (K : Int) = ((xs.getD K zW).1, estart times (planSt times xs (o.take j)).2 (xs.getD K zW).1 (xs.getD K zW).2.1) := by unfold planRun; rw [Int.toNat_natCast]
      rw [hpe] at hPN
      have HPE := Lib.hid hpe
      obtain ⟨x1, x2, x3, x4, x5⟩ := hxk
      have hdl := hP.len
      have hfits := hP.fits
      have htak := hP.tak
      rw [hlj] at hdl hfits htak hPN
      have hpl := plan_length times xs (o.take j)
      unfold plan at hpl
      have hri : RunsI wr d (planSt times xs (o.take j)).2 := ⟨ds, HDS.out.si, HDR.out.below hb⟩
      clear hc2 c0 c1 c2 hpe hP hlj hpart
      generalize planSt times xs (o.take j) = st at HRR HDR S1 hPN HPE hdl hfits htak hpl hri
      obtain ⟨st1, st2⟩ := st
      simp only at HRR HDR hPN HPE hdl hfits htak hpl hri
      generalize xs.getD K zW = x at hs m0 m1 hPN HPE x3 x4 x5
      obtain ⟨way, ready, due⟩ := x
      simp only at hs m0 m1 hPN HPE x3 x4 x5
      have hrd : 0 ≤ ready ∧ ready ≤ 10000 := by unfold inB at x4; simpa using x4
      obtain ⟨aw, cw, rfl⟩ := hs.shape
      obtain ⟨ad, cd, hsh, _, _⟩ := hri.shape
      subst hsh
      have HW := Lib.hid hs
      have C := Lib.hid (fun W (h : Below wr.heap.size wr W) => earliest_any times st2 way ready (.slice a times.length cap) (.slice ad st2.length cd) (.slice aw way.length cw) W ((HT.out.below hb).below h) (hri.below h) ((hs.below hb).below h) x1 x3 (fun r hr => by have := hfits r hr; exact ⟨this.1, this.2.1, by omega⟩) (by omega) (fun o ho => by have := htak o ho; omega) hrd.1 (by omega))
      obtain ⟨_, hR1, hR2, hR3, _⟩ := hPN
      have hKst : K < st1.length := by rw [hpl]; exact hK
      clear hs hri hfits htak x1 x2 x3 x4 x5 hpl
      have HDL := Lib.hid hdl
      clear hdl
      generalize estart times st2 way ready = R at hR1 hR3 HPE C
      have HBW := Lib.hid hb
      have ps2 := Lib.hid (show Below wr.heap.size wr wr.drew from (Below.refl _ _).drew)
      have ps := Lib.hid (below_new wr (.cells #[.slice none 0 0, .int .i64 0] 72))
      have HBOX := Lib.hid (show BoxR (wr.alloc (.cells #[.slice none 0 0, .int .i64 0] 72)).drew wr.heap.size wr.heap.size (.slice none 0 0) 0 from OV.below (BoxR.new wr (.slice none 0 0) 0 rfl) (Below.refl _ _).drew)
      clear hb
      go_upto_region 5 with fail
      go_cut [11] (fun t wz => ∃ p : Nat, t = .pointer (some ⟨p, 0, none⟩) ∧ Hid (BoxR wz wr.heap.size p (.slice aw way.length cw) R) ∧ Below wr.heap.size wr wz)
      case first =>
        go_region_held3 (fun w' => w'.cell? ⟨b2, off2 + K * 3, none⟩ = some (.slice aw way.length cw) ∧ w'.cell? ⟨b2, off2 + K * 3 + 1, none⟩ = some (.int .i64 ready))
          (first
            | go_keep
            | (go_split_ands
               refine ⟨?_, ?_⟩ <;> go_keep))
          (first
            | (go_simp
               go_at_call 61
               with_reducible refine (C.out _ ?hw).mono ?_
               case hw => exact ps.out
               rintro e w2 ⟨rfl, hbx⟩
               have hb2 : Below wr.heap.size wr w2 := bthen ps.out hbx
               have HBO2 := Lib.hid (show BoxR w2 wr.heap.size wr.heap.size (.slice none 0 0) 0 from OV.below HBOX.out hbx)
               obtain ⟨⟨q0, q1⟩, q0f, q1f⟩ := BoxR.cells HBO2.out
               have p0 := (hb2.cell (p := ⟨b2, off2 + K * 3, none⟩) (Nat.lt_of_lt_of_le hbl2 HBW.out.size)).trans m0
               have p1 := (hb2.cell (p := ⟨b2, off2 + K * 3 + 1, none⟩) (Nat.lt_of_lt_of_le hbl2 HBW.out.size)).trans m1
               have hne1 := World.new_ne wr _ m0
               obtain ⟨hf1, hf2⟩ := BoxR.put HBO2.out (.slice aw way.length cw) R rfl
               have HF := Lib.hid hf1
               have HG := Lib.hid (bgrown hb2 hf2 (fun k e => Nat.le_of_eq (Option.some.inj e)))
               clear hf1 hf2)
            | (go_simp
               go_at_call 61
               with_reducible refine (C.out _ ?hw).mono ?_
               case hw => exact ps2.out
               rintro e w2 ⟨rfl, hbx⟩
               have hb2 : Below wr.heap.size wr w2 := bthen ps2.out hbx
               have p0 := (hb2.cell (p := ⟨b2, off2 + K * 3, none⟩) (Nat.lt_of_lt_of_le hbl2 HBW.out.size)).trans m0
               have p1 := (hb2.cell (p := ⟨b2, off2 + K * 3 + 1, none⟩) (Nat.lt_of_lt_of_le hbl2 HBW.out.size)).trans m1
               have hne2 := World.new_ne w2 _ p0
               have HF := Lib.hid (show BoxR (w2.alloc (.cells #[.slice aw way.length cw, .int .i64 R] 72)) wr.heap.size w2.heap.size (.slice aw way.length cw) R from OV.mono (BoxR.new w2 (.slice aw way.length cw) R rfl) hb2.size)
               have HG := Lib.hid (hb2.alloc hb2.size (.cells #[.slice aw way.length cw, .int .i64 R] 72))))
        all_goals (go_wp2_with fail; go_meet; exact ⟨_, rfl, HF, HG.out⟩)
      case rest =>
        obtain ⟨p, rfl, HBX, hbz⟩ := hcut
        rename World => wz
        obtain ⟨⟨q0, q1⟩, q0f, q1f⟩ := BoxR.cells HBX.out
        have HRZ := Lib.hid (HRS.out.below hbz)
        have HDZ := Lib.hid (HDS.out.below hbz)
        have HBZ := Lib.hid (bthen HBW.out hbz)
        have hpz := (OV.lt HBX.out p rfl).1
        have hltz := Nat.lt_of_lt_of_le hlt0 hbz.size
        have hrl : K < rs.length := by rw [HRR.out.1]; have := HRR.out.1; exact hKst
        obtain ⟨a1, a2⟩ := HRZ.out.setR K hrl (.slice aw way.length cw) R rfl
        have hbzz := HBZ.out.size
        have HRN := Lib.hid a1
        have HGN := Lib.hid a2
        have HBN := Lib.hid (bgrown HBZ.out a2 (fun k e => Nat.le_of_eq (Option.some.inj e)))
        have HDN := Lib.hid (HDZ.out.grown a2 (.inr HNE.out))
        have HBXN := Lib.hid (show BoxR _ wr.heap.size p (.slice aw way.length cw) R from OV.grown HBX.out a2 (.inr (fun e => by
          have : p = w.heap.size := Option.some.inj e
          omega)))
        obtain ⟨⟨r0, r1⟩, r0f, r1f⟩ := BoxR.cells HBXN.out
        obtain ⟨⟨o0, o0f⟩, o1, o1f⟩ := HRZ.out.cellsR K hrl
        have hszn := HBN.out.size
        have hn2 : (RV.flat ds).length = ds.length * 2 := EncV.flat_length ds
        have hdsl : ds.length ≤ 6 := by rw [HDR.out.1, HDL.out]; omega
        have H1S := Lib.hid (show ∀ y ∈ RV.f ((.slice aw way.length cw : Value), R), y.oneCell' = true from fun y hy => by
          have hy : y ∈ [(.slice aw way.length cw : Value), .int .i64 R] := hy
          simp at hy
          rcases hy with rfl | rfl <;> rfl)
        clear hbz a1 a2
        go_wp2_with (
          at_builtin
          refine wpList_appV (E := RV) rfl _ _ 33 rfl 72 _ i0 _ Tryz.underlying33 HI.out hz0 rfl hz1 32 hz2 (by decide) w.heap.size _ _ rfl HDN.out (.slice aw way.length cw, R) _ rfl _ (by simp) rfl H1S.out (by omega) hszn ?_
          intro v9 w9 h1 h2 h3
          have hb9 := bgrown HBN.out h2 (fun k hk => (HDN.out.lt k hk).1)
          have H9 := Lib.hid h1
          have hlt9 : w.heap.size < w9.heap.size := Nat.lt_of_lt_of_le (Nat.lt_of_lt_of_le hltz HGN.out.size) h2.size
          have HR9 := Lib.hid (HRN.out.grown h2 (.inr (fun e => HNE.out e.symm)))
          have HN9 := Lib.hid (show v9.ownBlock ≠ some w.heap.size from fun e => by
            rcases h3 _ e with h | h
            · exact HNE.out h
            · exact Nat.lt_irrefl _ (Nat.lt_of_lt_of_le (Nat.lt_of_lt_of_le hltz HGN.out.size) h))
          clear h1 h2 h3)
        have hps : planSt times xs (o.take (j + 1)) = (st1.set K (way, R), st2 ++ [(way, R)]) := by
          rw [T1.out, S1.out]
          unfold planStep
          simp only [HPE.out, Int.toNat_natCast]
        have HPS := Lib.hid hps
        have HW1 := Lib.hid (show RunRows w (rs.set K (.slice aw way.length cw, R)) (st1.set K (way, R)) from RunRows.set HRR.out (x := (way, R)) HW.out K)
        have HW2 := Lib.hid (show RunRows w (ds ++ [(.slice aw way.length cw, R)]) (st2 ++ [(way, R)]) from RunRows.snoc HDR.out (x := (way, R)) HW.out)
        clear hps
        go_roundw
        case rel => exact ⟨j + 1, v9, _, _, by omega, rfl, by go_num, hb9, hlt9, HR9, H9, Lib.hid (by rw [HPS.out]; exact HW1.out), Lib.hid (by rw [HPS.out]; exact HW2.out), HN9⟩
        case measure => simp [intOf]; omega
    · go_wp2_with fail
      go_ret
      have h3 := HRR.out
      rw [List.take_of_length_le (by omega)] at h3
      exact ⟨_, rs, rfl, HRS.out, h3, hb⟩

end Go.Proofs.YthlpbeohlhhblaaGreat
