/-
  hallOf, isDone, moved of travels and their states.
  inHalls, allDone of travels: how many carriers each hall has, and whether all are done.
  moves of travels: the carriers that can go on.
-/
import Derived.Test.YthlpbeohlhhblaaGreatTopI
import Derived.Test.YthlpbeohlhhblaaGreatTopC
import Derived.Test.YthlpbeohlhhblaaGreatTopD
import Derived.BigQuiet
import Derived.Laws.Rows
import Derived.Deep.DeepCutAuto
import Derived.Deep.RegionHeld3
namespace Go.Proofs.YthlpbeohlhhblaaGreat
open Go.RowKit

def trV (hv wv : Value) (n : Nat) : Value := .agg #[hv, wv, .int .i64 n]

theorem st_box (w : World) (s : St4) : Below w.heap.size w (w.alloc (.cells #[.int .i64 s.1, .int .i64 s.2.1, .int .i64 s.2.2.1, .int .i64 s.2.2.2] 121)) ∧
    ∀ c, c < 4 → (w.alloc (.cells #[.int .i64 s.1, .int .i64 s.2.1, .int .i64 s.2.2.1, .int .i64 s.2.2.2] 121)).cell? ⟨w.heap.size, c, none⟩ = some (.int .i64 (at4 s c)) := by
  refine ⟨(Below.refl _ _).alloc (Nat.le_refl _) _, fun c hc => ?_⟩
  rw [World.cell?_alloc_at _ _ _ _ rfl]
  match c, hc with
  | 0, _ | 1, _ | 2, _ | 3, _ => rfl

theorem boxes_tr (w : World) (hv wv : Value) (n : Int) (s : St4) :
    Below w.heap.size w ((w.alloc (.cells #[hv, wv, .int .i64 n] 83)).alloc (.cells #[.int .i64 s.1, .int .i64 s.2.1, .int .i64 s.2.2.1, .int .i64 s.2.2.2] 121)) ∧
    ((w.alloc (.cells #[hv, wv, .int .i64 n] 83)).alloc (.cells #[.int .i64 s.1, .int .i64 s.2.1, .int .i64 s.2.2.1, .int .i64 s.2.2.2] 121)).cell? ⟨w.heap.size, 0, none⟩ = some hv ∧
    ((w.alloc (.cells #[hv, wv, .int .i64 n] 83)).alloc (.cells #[.int .i64 s.1, .int .i64 s.2.1, .int .i64 s.2.2.1, .int .i64 s.2.2.2] 121)).cell? ⟨w.heap.size, 1, none⟩ = some wv ∧
    ((w.alloc (.cells #[hv, wv, .int .i64 n] 83)).alloc (.cells #[.int .i64 s.1, .int .i64 s.2.1, .int .i64 s.2.2.1, .int .i64 s.2.2.2] 121)).cell? ⟨w.heap.size, 2, none⟩ = some (.int .i64 n) ∧
    (∀ c, c < 4 → ((w.alloc (.cells #[hv, wv, .int .i64 n] 83)).alloc (.cells #[.int .i64 s.1, .int .i64 s.2.1, .int .i64 s.2.2.1, .int .i64 s.2.2.2] 121)).cell? ⟨w.heap.size + 1, c, none⟩ = some (.int .i64 (at4 s c))) ∧
    w.heap.size + 2 = ((w.alloc (.cells #[hv, wv, .int .i64 n] 83)).alloc (.cells #[.int .i64 s.1, .int .i64 s.2.1, .int .i64 s.2.2.1, .int .i64 s.2.2.2] 121)).heap.size := by
  have hsz : (w.alloc (.cells #[hv, wv, .int .i64 n] 83)).heap.size = w.heap.size + 1 := by simp
  have hb1 : Below w.heap.size w (w.alloc (.cells #[hv, wv, .int .i64 n] 83)) := (Below.refl _ _).alloc (Nat.le_refl _) _
  obtain ⟨hb2, hc⟩ := st_box (w.alloc (.cells #[hv, wv, .int .i64 n] 83)) s
  rw [hsz] at hc hb2
  refine ⟨hb1.alloc hb1.size _, ?_, ?_, ?_, hc, by simp⟩
  · refine (hb2.cell (p := ⟨w.heap.size, 0, none⟩) (by simp)).trans ?_
    rw [World.cell?_alloc_at _ _ _ _ rfl]; rfl
  · refine (hb2.cell (p := ⟨w.heap.size, 1, none⟩) (by simp)).trans ?_
    rw [World.cell?_alloc_at _ _ _ _ rfl]; rfl
  · refine (hb2.cell (p := ⟨w.heap.size, 2, none⟩) (by simp)).trans ?_
    rw [World.cell?_alloc_at _ _ _ _ rfl]; rfl

theorem hallOf_any (halls : List Int) (ways : List (List Int)) (s : St4) (c : Nat) (hv wv : Value) (w : World) (hw : WaysI w wv ways) (hh : RI w hv halls) (ok : OkHW halls ways) (hc : c < ways.length) (hs : ∀ c, -1 ≤ at4 s c ∧ at4 s c ≤ 1000) :
    Calls Tryz.prog 95 #[trV hv wv ways.length, stV s, .int .i64 c] w fun e w' => e = .returned (.int .i64 (hallAt ways (at4 s) c)) ∧ Below w.heap.size w w' := by
  obtain ⟨a, cap, rfl, _, _⟩ := hw.shape
  obtain ⟨a2, cap2, rfl⟩ := hh.shape
  have hw4 := ok.w4
  obtain ⟨b, off, rfl, hbl, hcells⟩ := hw.cells (by omega)
  obtain ⟨v, hv1, c0⟩ := hcells c hc
  have hwl := (ok.wl c hc).2.1
  obtain ⟨ba, ca, rfl⟩ := hv1.shape
  unfold hallAt
  have hsc := hs c
  obtain ⟨hb, k0, k1, k2, kc, hsz⟩ := boxes_tr w (.slice a2 halls.length cap2) (.slice (some ⟨b, off, none⟩) ways.length cap) ways.length s
  have hc4 : c < 4 := by omega
  have ks := kc c hc4
  have g0 := (hb.cell (p := ⟨b, off + c, none⟩) hbl).trans c0
  have HB := Lib.hid (fun n : Nat => below_drewN hb n)
  have HR := Lib.hid (hv1.below hb)
  have HO := Lib.hid (fun k h => ((ok.wl c hc).2.2.1 k h))
  clear hw hh hv1 hcells kc hb k2 c0
  generalize at4 s c = x at *
  generalize ways.getD c [] = way at *
  unfold stV trV
  go_enter Tryz.func95, Tryz.ntmps95
  by_cases h1 : x < 1
  · have d1 : decide (x < 1) = true := decide_eq_true h1
    rw [if_pos (.inl h1)]
    go_wp2_with fail
    generalize World.alloc _ _ = W at k0 k1 ks g0 hsz HB HR ⊢
    go_quiet (fail)
    go_wp2_with fail
    go_ret
    exact ⟨rfl, HB.out _⟩
  · have d1 : decide (x < 1) = false := decide_eq_false h1
    by_cases h2 : (way.length : Int) < x
    · have d2 : decide ((way.length : Int) < x) = true := decide_eq_true h2
      rw [if_pos (.inr h2)]
      go_wp2_with fail
      generalize World.alloc _ _ = W at k0 k1 ks g0 hsz HB HR ⊢
      go_quiet (fail)
      go_wp2_with fail
      go_ret
      exact ⟨rfl, HB.out _⟩
    · have d2 : decide ((way.length : Int) < x) = false := decide_eq_false h2
      rw [if_neg (by omega)]
      obtain ⟨j, rfl⟩ : ∃ j : Nat, x = j + 1 := ⟨(x - 1).toNat, by omega⟩
      have hw1 : IntKind.i64.wrap ((j : Int) + 1 - 1) = (j : Int) := by rw [IntWalk.i64_in _ (by omega)]; omega
      rw [show ((j : Int) + 1 - 1).toNat = j by omega]
      go_wp2_with fail
      generalize World.alloc _ _ = W at k0 k1 ks g0 hsz HB HR ⊢
      obtain ⟨b3, off3, rfl, hb3, hc3⟩ := HR.out.cells (by omega)
      have g1 := hc3 j (by omega)
      clear hc3
      go_quiet (fail)
      go_wp2_with fail
      go_quiet (fail)
      go_wp2_with fail
      go_ret
      exact ⟨rfl, below_drewN (HB.out _) _⟩

theorem isDone_any (halls : List Int) (ways : List (List Int)) (s : St4) (c : Nat) (hv wv : Value) (w : World) (hw : WaysI w wv ways) (hh : RI w hv halls) (hw4 : ways.length ≤ 4) (hc : c < ways.length) :
    Calls Tryz.prog 93 #[trV hv wv ways.length, stV s, .int .i64 c] w fun e w' => e = .returned (.bool (decide (((ways.getD c []).length : Int) < at4 s c))) ∧ Below w.heap.size w w' := by
  obtain ⟨a, cap, rfl, _, _⟩ := hw.shape
  obtain ⟨a2, cap2, rfl⟩ := hh.shape
  obtain ⟨b, off, rfl, hbl, hcells⟩ := hw.cells (by omega)
  obtain ⟨v, hv1, c0⟩ := hcells c hc
  obtain ⟨ba, ca, rfl⟩ := hv1.shape
  obtain ⟨hb, k0, k1, k2, kc, hsz⟩ := boxes_tr w (.slice a2 halls.length cap2) (.slice (some ⟨b, off, none⟩) ways.length cap) ways.length s
  have hc4 : c < 4 := by omega
  have ks := kc c hc4
  have g0 := (hb.cell (p := ⟨b, off + c, none⟩) hbl).trans c0
  have HB := Lib.hid (fun n : Nat => below_drewN hb n)
  clear hw hh hv1 hcells kc hb k2 c0
  generalize at4 s c = x at *
  generalize ways.getD c [] = way at *
  unfold stV trV
  go_enter Tryz.func93, Tryz.ntmps93
  go_wp2_with fail
  generalize World.alloc _ _ = W at k0 k1 ks g0 hsz HB ⊢
  go_quiet (fail)
  go_wp2_with fail
  go_ret
  exact ⟨rfl, HB.out _⟩

theorem moved_any (s : St4) (c : Nat) (w : World) (hc : c < 4) (hs : ∀ c, -1 ≤ at4 s c ∧ at4 s c ≤ 1000) :
    Calls Tryz.prog 92 #[stV s, .int .i64 c] w fun e w' => e = .returned (stV (mv4 s c)) ∧ Below w.heap.size w w' := by
  obtain ⟨x0, x1, x2, x3⟩ := s
  have w0 : IntKind.i64.wrap (x0 + 1) = x0 + 1 := IntWalk.i64_in _ (by have := hs 0; simp only [at4] at this; omega)
  have w1 : IntKind.i64.wrap (x1 + 1) = x1 + 1 := IntWalk.i64_in _ (by have := hs 1; simp only [at4] at this; omega)
  have w2 : IntKind.i64.wrap (x2 + 1) = x2 + 1 := IntWalk.i64_in _ (by have := hs 2; simp only [at4] at this; omega)
  have w3 : IntKind.i64.wrap (x3 + 1) = x3 + 1 := IntWalk.i64_in _ (by have := hs 3; simp only [at4] at this; omega)
  unfold stV
  simp only
  clear hs
  rcases (show c = 0 ∨ c = 1 ∨ c = 2 ∨ c = 3 by omega) with rfl | rfl | rfl | rfl
  all_goals
    go_enter Tryz.func92, Tryz.ntmps92
    go_wp2_with fail
    refine bodyPost_ret (results_cell_row rfl _ _ (w.heap.size + 1) _ _ _ _ (by rfl) (heap_alloc2_new _ _ _) Tryz.underlying121 rfl (by kernel_rfl)) rfl ?_
    exact ⟨rfl, ((Below.refl _ _).alloc (Nat.le_refl _) _).alloc (by simp) _⟩

theorem newTravels_any (hv wv : Value) (halls : List Int) (ways : List (List Int)) (w : World) (hw : WaysI w wv ways) (hh : RI w hv halls) :
    Calls Tryz.prog 40 #[hv, wv] w fun e w' => e = .returned (trV hv wv ways.length) ∧ Below w.heap.size w w' := by
  obtain ⟨a, cap, rfl, _, _⟩ := hw.shape
  obtain ⟨a2, cap2, rfl⟩ := hh.shape
  unfold trV
  go_enter Tryz.func40, Tryz.ntmps40
  go_wp2_with fail
  refine bodyPost_ret (results_cell_row rfl _ _ w.heap.size _ _ _ _ (by rfl) (heap_alloc_new _ _) Tryz.underlying83 rfl (by kernel_rfl)) rfl ?_
  exact ⟨rfl, (Below.refl _ _).alloc (Nat.le_refl _) _⟩

end Go.Proofs.YthlpbeohlhhblaaGreat
namespace Go.Proofs.YthlpbeohlhhblaaGreat
open Go.RowKit

/-- How many of the first k carriers each hall has. -/
def cntL (m : Nat) (ways : List (List Int)) (p : Nat → Int) (k : Nat) : List Int := (List.range m).map fun (h : Nat) => cntN ways p h k
theorem cntL_length (m : Nat) (ways : List (List Int)) (p : Nat → Int) (k : Nat) : (cntL m ways p k).length = m := by simp [cntL]
theorem cntL_getD {m : Nat} (ways : List (List Int)) (p : Nat → Int) (k : Nat) {h : Nat} (hh : h < m) : (cntL m ways p k).getD h 0 = cntN ways p h k := by
  simp [cntL, List.getD, List.getElem?_map, List.getElem?_range hh]
theorem cntL_zero (m : Nat) (ways : List (List Int)) (p : Nat → Int) : cntL m ways p 0 = List.replicate m 0 := by
  apply List.ext_getElem (by simp [cntL])
  intro i h1 h2
  simp [cntL, cntN]
theorem cntL_out {m : Nat} {ways : List (List Int)} {p : Nat → Int} {k : Nat} (h : hallAt ways p k < 0) : cntL m ways p (k + 1) = cntL m ways p k := by
  unfold cntL
  apply List.map_congr_left
  intro i _
  show cntN ways p i k + _ = _
  rw [if_neg (by omega)]; omega
theorem cntL_in {m : Nat} {ways : List (List Int)} {p : Nat → Int} {k h : Nat} (e : hallAt ways p k = (h : Int)) (hh : h < m) : cntL m ways p (k + 1) = (cntL m ways p k).set h (cntN ways p h k + 1) := by
  apply List.ext_getElem (by simp [cntL])
  intro i h1 h2
  rw [List.getElem_set]
  simp only [cntL, List.getElem_map, List.getElem_range]
  rw [show cntN ways p (i : Int) (k + 1) = cntN ways p i k + if hallAt ways p k = (i : Int) then 1 else 0 from rfl, e]
  by_cases he : h = i
  · subst he; simp
  · rw [if_neg he, if_neg (by omega)]; omega
theorem inside_out {ways : List (List Int)} {p : Nat → Int} {k : Nat} (h : hallAt ways p k < 0) : inside ways p (k + 1) = inside ways p k := by
  show inside ways p k + _ = _
  rw [if_neg (by omega)]; omega
theorem inside_in {ways : List (List Int)} {p : Nat → Int} {k : Nat} (h : 0 ≤ hallAt ways p k) : inside ways p (k + 1) = inside ways p k + 1 := by
  show inside ways p k + _ = _
  rw [if_pos h]

set_option maxRecDepth 100000 in
theorem inHalls_any (halls : List Int) (ways : List (List Int)) (s : St4) (hv wv : Value) (w : World) (hw : WaysI w wv ways) (hh : RI w hv halls) (ok : OkHW halls ways) (hs : OkSt s) :
    Calls Tryz.prog 94 #[trV hv wv ways.length, stV s] w fun e w' => ∃ v', e = .returned (.tuple #[v', .int .i64 (inside ways (at4 s) ways.length)]) ∧ OI 2 w' w.heap.size v' (cntL halls.length ways (at4 s) ways.length) ∧ Below w.heap.size w w' := by
  obtain ⟨a, cap, rfl, _, _⟩ := hw.shape
  obtain ⟨a2, cap2, rfl⟩ := hh.shape
  have hw4 := ok.w4
  have hh1 := ok.h1
  have hh2 := ok.h2
  obtain ⟨p0, p1, p2, p3⟩ := s
  obtain ⟨hb, k0, k1, k2, kc, hsz⟩ := boxes_tr w (.slice a2 halls.length cap2) (.slice a ways.length cap) ways.length (p0, p1, p2, p3)
  simp only at hb k0 k1 k2 kc hsz
  have x0 := kc 0 (by decide)
  have x1 := kc 1 (by decide)
  have x2 := kc 2 (by decide)
  have x3 := kc 3 (by decide)
  have HB := Lib.hid hb
  have HW := Lib.hid (hw.below hb)
  have HH := Lib.hid (hh.below hb)
  have HOK := Lib.hid ok
  have HS := Lib.hid hs
  obtain ⟨i0, hi, iz0, iz1, iz2⟩ := info_parts infoInt64
  have HI := Lib.hid hi
  clear hw hh kc hb ok hs hi
  unfold stV trV
  simp only [at4] at x0 x1 x2 x3
  go_enter Tryz.func94, Tryz.ntmps94
  go_upto_region 1 with fail
  generalize World.alloc _ _ = W at k0 k1 k2 x0 x1 x2 x3 hsz HB HW HH ⊢
  go_wp2_with (at_make; refine wpList_make_full _ rfl _ _ 24 rfl W.heap.size 2 i0 (.int .i64 0) 1 Tryz.underlying24 HI.out iz0 iz1 .i64 .i64 _ _ halls.length rfl rfl rfl rfl (by rw [iz2]; omega) (by unfold maxLen; omega) (Nat.le_refl _) ?_; intro w1 hown hgr; have hb1 : Below W.heap.size W w1 := (Below.refl _ _).grown hgr (Nat.le_refl _) (by simp); have y1 := (hb1.cell (p := ⟨w.heap.size, 1, none⟩) (by show w.heap.size < _; omega)).trans k1)
  have HO1 := Lib.hid (OI.made hown)
  have HB1 := Lib.hid hb1
  clear hown hgr hb1 y1
  go_loopw [7, 17] (fun n i wr => ∃ (k : Nat), k ≤ ways.length ∧ n = .int .i64 (inside ways (at4 (p0, p1, p2, p3)) k) ∧ i = .int .i64 k ∧ Below W.heap.size W wr ∧ Hid (OI 2 wr W.heap.size (.slice (some ⟨W.heap.size, 0, none⟩) halls.length halls.length) (cntL halls.length ways (at4 (p0, p1, p2, p3)) k))) (fun _ i _ => ways.length - (intOf i).toNat)
  case atStart => exact ⟨0, Nat.zero_le _, rfl, rfl, HB1.out, Lib.hid (by rw [cntL_zero]; exact HO1.out)⟩
  case round =>
    obtain ⟨k, hk, rfl, rfl, hb, HO⟩ := hrel
    rename World => wr
    have hkb : w.heap.size < W.heap.size := by omega
    have hkb1 : w.heap.size + 1 < W.heap.size := by omega
    have z0 := (hb.cell (p := ⟨w.heap.size, 0, none⟩) hkb).trans k0
    have z1 := (hb.cell (p := ⟨w.heap.size, 1, none⟩) hkb).trans k1
    have z2 := (hb.cell (p := ⟨w.heap.size, 2, none⟩) hkb).trans k2
    have t0 := (hb.cell (p := ⟨w.heap.size + 1, 0, none⟩) hkb1).trans x0
    have t1 := (hb.cell (p := ⟨w.heap.size + 1, 1, none⟩) hkb1).trans x1
    have t2 := (hb.cell (p := ⟨w.heap.size + 1, 2, none⟩) hkb1).trans x2
    have t3 := (hb.cell (p := ⟨w.heap.size + 1, 3, none⟩) hkb1).trans x3
    by_cases hlt : k < ways.length
    · have C := Lib.hid (show Calls Tryz.prog 95 #[.agg #[.slice a2 halls.length cap2, .slice a ways.length cap, .int .i64 (ways.length : Nat)], .agg #[.int .i64 p0, .int .i64 p1, .int .i64 p2, .int .i64 p3], .int .i64 k] wr _ from hallOf_any halls ways (p0, p1, p2, p3) k _ _ wr (HW.out.below hb) (HH.out.below hb) HOK.out hlt HS.out)
      obtain ⟨r1, r2, r3⟩ := hallAt_range HOK.out (at4 (p0, p1, p2, p3)) hlt
      have hin := inside_range ways (at4 (p0, p1, p2, p3)) k
      have HE1 := Lib.hid (fun h => cntL_out (m := halls.length) (ways := ways) (p := at4 (p0, p1, p2, p3)) (k := k) h)
      have HE2 := Lib.hid (fun h e hh => cntL_in (m := halls.length) (ways := ways) (p := at4 (p0, p1, p2, p3)) (k := k) (h := h) e hh)
      have HE3 := Lib.hid (fun h => inside_out (ways := ways) (p := at4 (p0, p1, p2, p3)) (k := k) h)
      have HE4 := Lib.hid (fun h => inside_in (ways := ways) (p := at4 (p0, p1, p2, p3)) (k := k) h)
      have HL := cntL_length halls.length ways (at4 (p0, p1, p2, p3)) k
      have HG := Lib.hid (fun h (hh : h < halls.length) => cntL_getD ways (at4 (p0, p1, p2, p3)) k hh)
      have HR := Lib.hid (fun h : Int => cntN_range ways (at4 (p0, p1, p2, p3)) h k)
      generalize inside ways (at4 (p0, p1, p2, p3)) k = n at hin HE3 HE4 ⊢
      have HLL := Lib.hid HL
      generalize cntL halls.length ways (at4 (p0, p1, p2, p3)) k = L at HO HE1 HE2 HG HLL
      generalize hallAt ways (at4 (p0, p1, p2, p3)) k = x at C r1 r2 r3 HE1 HE2 HE3 HE4
      have hwn : IntKind.i64.wrap (n + 1) = n + 1 := IntWalk.i64_in _ (by omega)
      clear HL
      by_cases hx : x < 0
      · have d1 : decide ((0 : Int) ≤ x) = false := decide_eq_false (by omega)
        have d2 : decide (x ≥ 0) = false := decide_eq_false (by omega)
        have E1 := Lib.hid (HE1.out hx)
        have E3 := Lib.hid (HE3.out hx)
        go_wp2_with (go_at_call 95; refine C.out.mono ?_; rintro e w2 ⟨rfl, hb2⟩)
        go_roundw
        case rel => exact ⟨k + 1, by omega, by rw [E3.out], by go_num, bthen hb hb2, Lib.hid (by rw [E1.out]; exact HO.out.below hb2)⟩
        case measure => simp [intOf]; omega
      · obtain ⟨h, rfl⟩ : ∃ h : Nat, x = h := ⟨x.toNat, by omega⟩
        have d1 : decide ((0 : Int) ≤ (h : Int)) = true := decide_eq_true (by omega)
        have d2 : decide ((h : Int) ≥ 0) = true := decide_eq_true (by omega)
        have hhl : h < halls.length := by omega
        have E1 := Lib.hid (HE2.out h rfl hhl)
        have E3 := Lib.hid (HE4.out (by omega))
        have hr := HR.out h
        have HG1 := Lib.hid (HG.out h hhl)
        generalize cntN ways (at4 (p0, p1, p2, p3)) h k = q at E1 hr HG1
        have hwq : IntKind.i64.wrap (q + 1) = q + 1 := IntWalk.i64_in _ (by omega)
        have hgd : Good (q + 1) := by unfold Good; omega
        have hlen2 : L.length = halls.length := HLL.out
        have hLl : h < L.length := by rw [hlen2]; exact hhl
        clear hlen2
        go_wp2_with (
          go_at_call 95
          refine C.out.mono ?_
          rintro e w2 ⟨rfl, hb2⟩
          have HO2 := Lib.hid (HO.out.below hb2)
          have HB2 := Lib.hid (bthen hb hb2)
          obtain ⟨c1, c2⟩ := HO2.out.cell h hLl
          rw [HG1.out] at c1
          have hset := HO2.out.set h (q + 1) hgd
          have HS1 := Lib.hid hset.1
          have HS2 := Lib.hid hset.2
          clear hset)
        go_roundw
        case rel => exact ⟨k + 1, by omega, by rw [E3.out], by go_num, HB2.out.grown HS2.out HB2.out.size (fun q e => by have := Option.some.inj e; omega), Lib.hid (by rw [E1.out]; exact HS1.out)⟩
        case measure => simp [intOf]; omega
    · go_wp2_with fail
      go_ret2
      obtain rfl : k = ways.length := by omega
      exact ⟨_, rfl, HO.out.mono (by omega), (HB.out.trans (hb.mono (by omega)))⟩

theorem doneP_false {ways : List (List Int)} {p : Nat → Int} {k : Nat} (h : doneP ways p k = false) : ∀ n, k ≤ n → doneP ways p n = false
  | 0, hn => by rwa [show (0 : Nat) = k by omega]
  | n + 1, hn => by
    by_cases e : n + 1 = k
    · rwa [e]
    · show (doneP ways p n && _) = false
      rw [doneP_false h n (by omega), Bool.false_and]

set_option maxRecDepth 100000 in
theorem allDone_any (halls : List Int) (ways : List (List Int)) (s : St4) (hv wv : Value) (w : World) (hw : WaysI w wv ways) (hh : RI w hv halls) (hw4 : ways.length ≤ 4) :
    Calls Tryz.prog 73 #[trV hv wv ways.length, stV s] w fun e w' => e = .returned (.bool (doneP ways (at4 s) ways.length)) ∧ Below w.heap.size w w' := by
  obtain ⟨a, cap, rfl, _, _⟩ := hw.shape
  obtain ⟨a2, cap2, rfl⟩ := hh.shape
  obtain ⟨p0, p1, p2, p3⟩ := s
  obtain ⟨hb, k0, k1, k2, kc, hsz⟩ := boxes_tr w (.slice a2 halls.length cap2) (.slice a ways.length cap) ways.length (p0, p1, p2, p3)
  simp only at hb k0 k1 k2 kc hsz
  have x0 := kc 0 (by decide)
  have x1 := kc 1 (by decide)
  have x2 := kc 2 (by decide)
  have x3 := kc 3 (by decide)
  simp only [at4] at x0 x1 x2 x3
  have HB := Lib.hid hb
  have HW := Lib.hid (hw.below hb)
  have HH := Lib.hid (hh.below hb)
  clear hw hh kc hb
  unfold stV trV
  go_enter Tryz.func73, Tryz.ntmps73
  go_upto_region 1 with fail
  generalize World.alloc _ _ = W at k0 k1 k2 x0 x1 x2 x3 hsz HB HW HH ⊢
  go_wp2_with fail
  go_loopw [9] (fun i wr => ∃ (k : Nat), k ≤ ways.length ∧ i = .int .i64 k ∧ Below W.heap.size W wr ∧ Hid (doneP ways (at4 (p0, p1, p2, p3)) k = true)) (fun i _ => ways.length - (intOf i).toNat)
  case atStart => exact ⟨0, Nat.zero_le _, rfl, Below.refl _ _, Lib.hid rfl⟩
  case round =>
    obtain ⟨k, hk, rfl, hb, HD⟩ := hrel
    rename World => wr
    have hkb : w.heap.size < W.heap.size := by omega
    have hkb1 : w.heap.size + 1 < W.heap.size := by omega
    have z0 := (hb.cell (p := ⟨w.heap.size, 0, none⟩) hkb).trans k0
    have z1 := (hb.cell (p := ⟨w.heap.size, 1, none⟩) hkb).trans k1
    have z2 := (hb.cell (p := ⟨w.heap.size, 2, none⟩) hkb).trans k2
    have t0 := (hb.cell (p := ⟨w.heap.size + 1, 0, none⟩) hkb1).trans x0
    have t1 := (hb.cell (p := ⟨w.heap.size + 1, 1, none⟩) hkb1).trans x1
    have t2 := (hb.cell (p := ⟨w.heap.size + 1, 2, none⟩) hkb1).trans x2
    have t3 := (hb.cell (p := ⟨w.heap.size + 1, 3, none⟩) hkb1).trans x3
    by_cases hlt : k < ways.length
    · have C := Lib.hid (show Calls Tryz.prog 93 #[.agg #[.slice a2 halls.length cap2, .slice a ways.length cap, .int .i64 (ways.length : Nat)], .agg #[.int .i64 p0, .int .i64 p1, .int .i64 p2, .int .i64 p3], .int .i64 k] wr _ from isDone_any halls ways (p0, p1, p2, p3) k _ _ wr (HW.out.below hb) (HH.out.below hb) hw4 hlt)
      have HE := Lib.hid (show doneP ways (at4 (p0, p1, p2, p3)) (k + 1) = (doneP ways (at4 (p0, p1, p2, p3)) k && decide (((ways.getD k []).length : Int) < at4 (p0, p1, p2, p3) k)) from rfl)
      generalize decide (((ways.getD k []).length : Int) < at4 (p0, p1, p2, p3) k) = r at C HE
      cases r with
      | false =>
        go_wp2_with (go_at_call 93; refine C.out.mono ?_; rintro e w2 ⟨rfl, hb2⟩)
        go_ret
        exact ⟨ret_bool (doneP_false (k := k + 1) (by rw [HE.out, Bool.and_false]) _ (by omega)).symm, HB.out.trans ((bthen hb hb2).mono (by omega))⟩
      | true =>
        go_wp2_with (go_at_call 93; refine C.out.mono ?_; rintro e w2 ⟨rfl, hb2⟩)
        go_roundw
        case rel => exact ⟨k + 1, by omega, by go_num, bthen hb hb2, Lib.hid (by rw [HE.out, HD.out]; rfl)⟩
        case measure => simp [intOf]; omega
    · go_wp2_with fail
      go_ret
      obtain rfl : k = ways.length := by omega
      exact ⟨ret_bool HD.out.symm, HB.out.trans (hb.mono (by omega))⟩

end Go.Proofs.YthlpbeohlhhblaaGreat
namespace Go.Proofs.YthlpbeohlhhblaaGreat
open Go.RowKit

theorem infoInt : (Tryz.prog.info? 3).map (fun i => (i.zero, i.size, i.bytes)) = some (some (.int .i64 0), 1, 8) := by kernel_rfl

theorem held_next {wl W W2 : World} {P : World → Prop} {R : Prop} (hc : ∀ W, Below wl.heap.size wl W → P W) (hx : Below W.heap.size W W2) (h : Below wl.heap.size wl W ∧ R) : Below wl.heap.size wl W2 ∧ P W2 :=
  ⟨bthen h.1 hx, hc _ (bthen h.1 hx)⟩

/-- The cells of travels and of a state, in all later worlds. -/
theorem seven {W : World} {b : Nat} {x0 x1 x2 y0 y1 y2 y3 : Value} (hlt : b + 1 < W.heap.size)
    (k0 : W.cell? ⟨b, 0, none⟩ = some x0) (k1 : W.cell? ⟨b, 1, none⟩ = some x1) (k2 : W.cell? ⟨b, 2, none⟩ = some x2)
    (t0 : W.cell? ⟨b + 1, 0, none⟩ = some y0) (t1 : W.cell? ⟨b + 1, 1, none⟩ = some y1) (t2 : W.cell? ⟨b + 1, 2, none⟩ = some y2) (t3 : W.cell? ⟨b + 1, 3, none⟩ = some y3) :
    ∀ W', Below W.heap.size W W' → (W'.cell? ⟨b, 0, none⟩ = some x0 ∧ W'.cell? ⟨b, 1, none⟩ = some x1 ∧ W'.cell? ⟨b, 2, none⟩ = some x2 ∧
      W'.cell? ⟨b + 1, 0, none⟩ = some y0 ∧ W'.cell? ⟨b + 1, 1, none⟩ = some y1 ∧ W'.cell? ⟨b + 1, 2, none⟩ = some y2 ∧ W'.cell? ⟨b + 1, 3, none⟩ = some y3) := fun W' h =>
  ⟨(h.cell (p := ⟨b, 0, none⟩) (by show b < _; omega)).trans k0, (h.cell (p := ⟨b, 1, none⟩) (by show b < _; omega)).trans k1, (h.cell (p := ⟨b, 2, none⟩) (by show b < _; omega)).trans k2,
    (h.cell (p := ⟨b + 1, 0, none⟩) hlt).trans t0, (h.cell (p := ⟨b + 1, 1, none⟩) hlt).trans t1, (h.cell (p := ⟨b + 1, 2, none⟩) hlt).trans t2, (h.cell (p := ⟨b + 1, 3, none⟩) hlt).trans t3⟩

theorem at4_of (s : St4) {k : Nat} (hk : k < 4) : at4 s k = (if k = 0 then s.1 else if k = 1 then s.2.1 else if k = 2 then s.2.2.1 else s.2.2.2) := by
  match k, hk with
  | 0, _ | 1, _ | 2, _ | 3, _ => rfl

set_option maxRecDepth 100000 in
set_option maxHeartbeats 4000000 in
theorem moves_any (halls : List Int) (ways : List (List Int)) (s : St4) (hv wv : Value) (w : World) (hw : WaysI w wv ways) (hh : RI w hv halls) (ok : OkHW halls ways) (hs : ∀ c, 0 ≤ at4 s c ∧ at4 s c ≤ 900) :
    Calls Tryz.prog 74 #[trV hv wv ways.length, stV s] w fun e w' => ∃ v', e = .returned v' ∧ OI 3 w' w.heap.size v' (movesP halls ways (at4 s) ways.length) ∧ Below w.heap.size w w' := by
  obtain ⟨a, cap, rfl, _, _⟩ := hw.shape
  obtain ⟨a2, cap2, rfl⟩ := hh.shape
  have hw4 := ok.w4
  have hh1 := ok.h1
  have hh2 := ok.h2
  have HSs := Lib.hid hs
  have HS1 := Lib.hid (show OkSt s from fun c => by have := hs c; omega)
  have HAT := Lib.hid (fun k (hk : k < 4) => at4_mv s hk)
  obtain ⟨p0, p1, p2, p3⟩ := s
  obtain ⟨hb, k0, k1, k2, kc, hsz⟩ := boxes_tr w (.slice a2 halls.length cap2) (.slice a ways.length cap) ways.length (p0, p1, p2, p3)
  simp only at hb k0 k1 k2 kc hsz
  have x0 := kc 0 (by decide)
  have x1 := kc 1 (by decide)
  have x2 := kc 2 (by decide)
  have x3 := kc 3 (by decide)
  simp only [at4] at x0 x1 x2 x3
  have HB := Lib.hid hb
  have HW := Lib.hid (hw.below hb)
  have HH := Lib.hid (hh.below hb)
  have HKC := Lib.hid kc
  have HOK := Lib.hid ok
  obtain ⟨i0, hi, iz0, iz1, iz2⟩ := info_parts infoInt
  have HI := Lib.hid hi
  clear hw hh kc hb ok hs hi
  unfold stV trV
  go_enter Tryz.func74, Tryz.ntmps74
  go_upto_region 1 with fail
  generalize World.alloc _ _ = W at k0 k1 k2 x0 x1 x2 x3 hsz HB HW HH HKC ⊢
  have SV := Lib.hid (seven (by omega) k0 k1 k2 x0 x1 x2 x3)
  have hA := (Below.refl W.heap.size W).alloc (Nat.le_refl _) (.cells #[] 3)
  have HO1 := Lib.hid (OI.lit0 3 W W.heap.size (Nat.le_refl _))
  have hszA : (W.alloc (.cells #[] 3)).heap.size = W.heap.size + 1 := by simp
  have HA := Lib.hid hA
  obtain ⟨z0, z1, z2, t0, t1, t2, t3⟩ := SV.out _ hA
  have C1 := Lib.hid (show Calls Tryz.prog 94 #[.agg #[.slice a2 halls.length cap2, .slice a ways.length cap, .int .i64 (ways.length : Nat)], .agg #[.int .i64 p0, .int .i64 p1, .int .i64 p2, .int .i64 p3]] _ _ from inHalls_any halls ways (p0, p1, p2, p3) _ _ _ (HW.out.below hA) (HH.out.below hA) HOK.out HS1.out)
  clear hA k0 k1 k2 x0 x1 x2 x3
  go_upto_region 2 with fail
  generalize W.alloc (.cells #[] 3) = W1 at HO1 hszA HA z0 z1 z2 t0 t1 t2 t3 C1 ⊢
  generalize hall : inside ways (at4 (p0, p1, p2, p3)) ways.length = all at C1
  have HALL := Lib.hid hall
  have hallr := inside_range ways (at4 (p0, p1, p2, p3)) ways.length
  rw [hall] at hallr
  clear hall
  go_wp2_with (
    go_at_call 94
    refine C1.out.mono ?_
    rintro e w2 ⟨vc, rfl, hoc, hb2⟩
    obtain ⟨ac, cc, hcs⟩ := hoc.ri.shape
    subst hcs
    rw [cntL_length]
    have HB2 := Lib.hid (bthen HA.out hb2)
    have HO2 := Lib.hid (HO1.out.below hb2)
    have HRC := Lib.hid hoc.ri
    have HLC := Lib.hid hoc.lt
    have y1 := (hb2.cell (p := ⟨w.heap.size, 1, none⟩) (by show w.heap.size < _; omega)).trans z1
    clear hoc hb2)
  rw [cntL_length] at HRC HLC
  clear z0 z1 z2 t0 t1 t2 t3 y1
  go_loopw [5, 20] (fun u i wr => ∃ (k : Nat) (o : Value), k ≤ ways.length ∧ u = o ∧ i = .int .i64 k ∧ Below W.heap.size W wr ∧ Hid (OI 3 wr W.heap.size o (movesP halls ways (at4 (p0, p1, p2, p3)) k)) ∧ Hid (RI wr (.slice ac halls.length cc) (cntL halls.length ways (at4 (p0, p1, p2, p3)) ways.length)) ∧ Hid (w2.heap.size ≤ wr.heap.size ∧ ∀ j, o.ownBlock = some j → (Value.slice ac halls.length cc).ownBlock ≠ some j)) (fun _ i _ => ways.length - (intOf i).toNat)
  case atStart => exact ⟨0, _, Nat.zero_le _, rfl, rfl, HB2.out, HO2, HRC, Lib.hid ⟨Nat.le_refl _, fun j hj e => by
    have h1 := (HLC.out j e).1
    have : W.heap.size = j := Option.some.inj hj
    omega⟩⟩
  case round =>
    obtain ⟨k, o, hk, rfl, rfl, hb, HO, HRV, HAP⟩ := hrel
    rename World => wr
    obtain ⟨z0, z1, z2, t0, t1, t2, t3⟩ := SV.out _ hb
    have SR := Lib.hid (seven (by have := hb.size; omega) z0 z1 z2 t0 t1 t2 t3)
    by_cases hlt : k < ways.length
    · have hk4 : k < 4 := by omega
      have hkb1 : w.heap.size + 1 < W.heap.size := by omega
      have hkc := (hb.cell (p := ⟨w.heap.size + 1, k, none⟩) hkb1).trans (HKC.out k hk4)
      have HBR := Lib.hid hb
      have HWR := Lib.hid (HW.out.below hb)
      have HHR := Lib.hid (HH.out.below hb)
      have hszr := hb.size
      have CI := Lib.hid (show Calls Tryz.prog 93 #[.agg #[.slice a2 halls.length cap2, .slice a ways.length cap, .int .i64 (ways.length : Nat)], .agg #[.int .i64 p0, .int .i64 p1, .int .i64 p2, .int .i64 p3], .int .i64 k] wr _ from isDone_any halls ways (p0, p1, p2, p3) k _ _ wr HWR.out HHR.out hw4 hlt)
      have HM := Lib.hid (show movesP halls ways (at4 (p0, p1, p2, p3)) (k + 1) = movesP halls ways (at4 (p0, p1, p2, p3)) k ++ if canGo halls ways (at4 (p0, p1, p2, p3)) k then [(k : Int)] else [] from rfl)
      have HGO := Lib.hid (show canGo halls ways (at4 (p0, p1, p2, p3)) k = (!(decide (((ways.getD k []).length : Int) < at4 (p0, p1, p2, p3) k) || (decide (at4 (p0, p1, p2, p3) k = 0) && decide ((ways.length : Int) ≤ inside ways (at4 (p0, p1, p2, p3)) ways.length))) &&
        (decide (hallAt ways (upP (at4 (p0, p1, p2, p3)) k) k < 0) || decide (cntN ways (at4 (p0, p1, p2, p3)) (hallAt ways (upP (at4 (p0, p1, p2, p3)) k) k) ways.length < halls.getD (hallAt ways (upP (at4 (p0, p1, p2, p3)) k) k).toNat 0))) from rfl)
      rw [HALL.out] at HGO
      have hml := movesP_length halls ways (at4 (p0, p1, p2, p3)) k
      have hx1 := (HSs.out k).1
      have hx2 := (HSs.out k).2
      generalize decide (((ways.getD k []).length : Int) < at4 (p0, p1, p2, p3) k) = dn at CI HGO
      generalize hxk : at4 (p0, p1, p2, p3) k = xk at hkc hx1 hx2 HGO
      have HXK := Lib.hid hxk
      clear hxk hb
      by_cases hgd : dn = true ∨ (xk = 0 ∧ (ways.length : Int) ≤ all)
      · have HN := Lib.hid (show canGo halls ways (at4 (p0, p1, p2, p3)) k = false by
          rw [HGO.out]
          rcases hgd with h | ⟨h1, h2⟩
          · rw [h]; rfl
          · rw [decide_eq_true h1, decide_eq_true h2]; simp)
        have HL := Lib.hid (show movesP halls ways (at4 (p0, p1, p2, p3)) (k + 1) = movesP halls ways (at4 (p0, p1, p2, p3)) k by rw [HM.out, HN.out]; simp)
        have hgd' : dn = true ∨ (dn = false ∧ xk = 0 ∧ (ways.length : Int) ≤ all) := by
          cases dn with
          | true => exact .inl rfl
          | false =>
            rcases hgd with h | h
            · cases h
            · exact .inr ⟨rfl, h⟩
        clear hgd
        rcases hgd' with rfl | ⟨rfl, rfl, h2⟩
        · go_wp2_with (go_at_call 93; refine CI.out.mono ?_; rintro e w3 ⟨rfl, hb3⟩; obtain ⟨zz0, zz1, zz2, tt0, tt1, tt2, tt3⟩ := SR.out _ hb3)
          go_roundw
          case rel => exact ⟨k + 1, _, by omega, rfl, by go_num, bthen HBR.out hb3, Lib.hid (by rw [HL.out]; exact HO.out.below hb3), Lib.hid (HRV.out.below hb3), Lib.hid ⟨Nat.le_trans HAP.out.1 hb3.size, HAP.out.2⟩⟩
          case measure => simp [intOf]; omega
        · have hd1 : decide ((ways.length : Int) ≤ all) = true := decide_eq_true h2
          have hd2 : decide (all ≥ (ways.length : Int)) = true := decide_eq_true h2
          have hd3 : ((0 : Int) == 0) = true := rfl
          clear h2
          go_wp2_with (go_at_call 93; refine CI.out.mono ?_; rintro e w3 ⟨rfl, hb3⟩; obtain ⟨zz0, zz1, zz2, tt0, tt1, tt2, tt3⟩ := SR.out _ hb3; have uu := (hb3.cell (p := ⟨w.heap.size + 1, k, none⟩) (by show w.heap.size + 1 < _; omega)).trans hkc)
          go_roundw
          case rel => exact ⟨k + 1, _, by omega, rfl, by go_num, bthen HBR.out hb3, Lib.hid (by rw [HL.out]; exact HO.out.below hb3), Lib.hid (HRV.out.below hb3), Lib.hid ⟨Nat.le_trans HAP.out.1 hb3.size, HAP.out.2⟩⟩
          case measure => simp [intOf]; omega
      · have hdn : dn = false := by
          cases dn with
          | true => exact absurd (.inl rfl) hgd
          | false => rfl
        subst hdn
        have HGO2 := Lib.hid (show canGo halls ways (at4 (p0, p1, p2, p3)) k = (decide (hallAt ways (upP (at4 (p0, p1, p2, p3)) k) k < 0) || decide (cntN ways (at4 (p0, p1, p2, p3)) (hallAt ways (upP (at4 (p0, p1, p2, p3)) k) k) ways.length < halls.getD (hallAt ways (upP (at4 (p0, p1, p2, p3)) k) k).toNat 0)) by
          rw [HGO.out]
          have : (decide (xk = 0) && decide ((ways.length : Int) ≤ all)) = false := by
            by_cases e : xk = 0
            · rw [decide_eq_false (show ¬ (ways.length : Int) ≤ all from fun h => hgd (.inr ⟨e, h⟩)), Bool.and_false]
            · rw [decide_eq_false e, Bool.false_and]
          rw [this]; rfl)
        have hcs : (xk == 0) = false ∨ ((xk == 0) = true ∧ decide ((ways.length : Int) ≤ all) = false ∧ decide (all ≥ (ways.length : Int)) = false) := by
          by_cases e : xk = 0
          · have : ¬ (ways.length : Int) ≤ all := fun h => hgd (.inr ⟨e, h⟩)
            exact .inr ⟨by rw [e]; rfl, decide_eq_false this, decide_eq_false this⟩
          · exact .inl (by rw [beq_eq_false_iff_ne]; exact e)
        clear hgd HGO
        have hrr := hallAt_range HOK.out (upP (at4 (p0, p1, p2, p3)) k) hlt
        have hmv := HAT.out k hk4
        obtain ⟨Q, hQ⟩ : ∃ Q, Q = mv4 (p0, p1, p2, p3) k := ⟨_, rfl⟩
        have HMV := fun W => moved_any (p0, p1, p2, p3) k W hk4 (fun c => HS1.out c)
        have hQs : OkSt Q := fun c => by
          rw [hQ, hmv]
          have := HSs.out c
          unfold upP
          split <;> omega
        rw [← hQ] at HMV hmv
        have HHF := fun W (h : Below wr.heap.size wr W) => hallOf_any halls ways Q k _ _ W (HWR.out.below h) (HHR.out.below h) HOK.out hlt hQs
        rw [hmv] at HHF
        obtain ⟨q0, q1, q2, q3⟩ := Q
        have HMV2 := Lib.hid (fun W => show Calls Tryz.prog 92 #[.agg #[.int .i64 p0, .int .i64 p1, .int .i64 p2, .int .i64 p3], .int .i64 k] W fun e w' => e = .returned (.agg #[.int .i64 q0, .int .i64 q1, .int .i64 q2, .int .i64 q3]) ∧ Below W.heap.size W w' from HMV W)
        have HHF2 := Lib.hid (fun W (h : Below wr.heap.size wr W) => show Calls Tryz.prog 95 #[.agg #[.slice a2 halls.length cap2, .slice a ways.length cap, .int .i64 (ways.length : Nat)], .agg #[.int .i64 q0, .int .i64 q1, .int .i64 q2, .int .i64 q3], .int .i64 k] W fun e w' => e = .returned (.int .i64 (hallAt ways (upP (at4 (p0, p1, p2, p3)) k) k)) ∧ Below W.heap.size W w' from HHF W h)
        have HCN := Lib.hid (fun h (hh : h < halls.length) => cntL_getD ways (at4 (p0, p1, p2, p3)) ways.length hh)
        generalize hallAt ways (upP (at4 (p0, p1, p2, p3)) k) k = x at hrr HHF2 HGO2
        obtain ⟨r1, r2, r3⟩ := hrr
        clear HMV HHF hQ hmv hQs
        have HGK := Lib.hid (show Good (k : Int) by unfold Good; omega)
        rcases hcs with hq | ⟨hq, hd1, hd2⟩
        all_goals
          go_upto_region 7 with (go_at_call 93; refine CI.out.mono ?_; rintro e w3 ⟨rfl, hb3⟩; obtain ⟨zz0, zz1, zz2, tt0, tt1, tt2, tt3⟩ := SR.out _ hb3; have uu := (hb3.cell (p := ⟨w.heap.size + 1, k, none⟩) (by show w.heap.size + 1 < _; omega)).trans hkc)
          have SQ := Lib.hid (seven (W := w3) (by have := hb3.size; omega) zz0 zz1 zz2 tt0 tt1 tt2 tt3)
          have HB3 := Lib.hid hb3
          have hbr := Below.refl w3.heap.size w3
          clear z0 z1 z2 t0 t1 t2 t3 uu hkc hq hb3
          try clear hd1 hd2
          go_region_held3 (fun w' => Below w3.heap.size w3 w' ∧ w'.cell? ⟨w.heap.size, 0, none⟩ = some (.slice a2 halls.length cap2) ∧ w'.cell? ⟨w.heap.size, 1, none⟩ = some (.slice a ways.length cap) ∧ w'.cell? ⟨w.heap.size, 2, none⟩ = some (.int .i64 (ways.length : Nat)) ∧
              w'.cell? ⟨w.heap.size + 1, 0, none⟩ = some (.int .i64 p0) ∧ w'.cell? ⟨w.heap.size + 1, 1, none⟩ = some (.int .i64 p1) ∧ w'.cell? ⟨w.heap.size + 1, 2, none⟩ = some (.int .i64 p2) ∧ w'.cell? ⟨w.heap.size + 1, 3, none⟩ = some (.int .i64 p3))
            (first
              | assumption
              | exact ⟨below_drewN' _ _, SQ.out _ (below_drewN' _ _)⟩)
            (first
              | (go_simp
                 go_at_call 92
                 with_reducible refine (HMV2.out _).mono ?_
                 rintro e w4 ⟨rfl, hx4⟩
                 have hs4 := held_next SQ.out hx4 (by assumption))
              | (go_simp
                 go_at_call 95
                 with_reducible refine (HHF2.out _ ?hw).mono ?_
                 case hw => exact bthen HB3.out (And.left (by assumption))
                 rintro e w5 ⟨rfl, hx5⟩
                 have hs5 := held_next SQ.out hx5 (by assumption)))
          obtain ⟨hb5, y0, y1, y2, yy⟩ := hs5
          have HB5 := Lib.hid (fun n => below_drewN (bthen HBR.out (bthen HB3.out hb5)) n)
          have HO5 := Lib.hid (fun n => HO.out.below (below_drewN (bthen HB3.out hb5) n))
          have HR5 := Lib.hid (fun n => HRV.out.below (below_drewN (bthen HB3.out hb5) n))
          have HSZ := Lib.hid (fun n => Nat.le_trans HAP.out.1 (below_drewN (bthen HB3.out hb5) n).size)
          have hsz5 := (HB5.out 0).size
          clear r3
          clear hs4 hx4 hx5 hb5 yy zz0 zz1 zz2 tt0 tt1 tt2 tt3 hbr
          by_cases hx : x < 0
          · have d1 : decide (x < 0) = true := decide_eq_true hx
            have HN := Lib.hid (show canGo halls ways (at4 (p0, p1, p2, p3)) k = true by rw [HGO2.out, decide_eq_true hx]; rfl)
            go_wp2_with fail
            go_quiet (fail)
            go_wp2_with (
              at_builtin
              refine wpList_app1n rfl _ _ 123 rfl 3 _ i0 Tryz.underlying123 HI.out iz0 iz1 iz2 W.heap.size _ _ rfl (HO5.out _) _ _ (by simp) rfl HGK.out (by omega) (HB5.out _).size ?_
              intro v9 w9 h1 h2 h3
              have H9 := Lib.hid h1
              have HB9 := Lib.hid (bgrown (HB5.out _) h2 (fun q hq => ((HO5.out 0).lt q hq).1))
              have HR9 := Lib.hid ((HR5.out _).grown h2 (fun q hq => HAP.out.2 q hq))
              have HA9 := Lib.hid (show w2.heap.size ≤ w9.heap.size ∧ ∀ j, v9.ownBlock = some j → (Value.slice _ halls.length cc).ownBlock ≠ some j from ⟨Nat.le_trans (HSZ.out _) h2.size, fun j hj e => by
                rcases h3 j hj with h4 | h4
                · exact HAP.out.2 j h4 e
                · exact Nat.lt_irrefl _ (Nat.lt_of_lt_of_le (HLC.out j e).2 (Nat.le_trans (HSZ.out _) h4))⟩)
              clear h1 h2 h3)
            go_roundw
            case rel => exact ⟨k + 1, v9, by omega, rfl, by go_num, HB9.out, Lib.hid (by rw [HM.out, HN.out]; exact H9.out), HR9, HA9⟩
            case measure => simp [intOf]; omega
          · obtain ⟨h, rfl⟩ : ∃ h : Nat, x = h := ⟨x.toNat, by omega⟩
            have hhl : h < halls.length := by omega
            have d1 : decide ((h : Int) < 0) = false := decide_eq_false hx
            obtain ⟨bc, oc, rfl, hbc, hcc⟩ := (HR5.out 0).cells (by rw [cntL_length]; omega)
            have g1 : w5.cell? ⟨bc, oc + h, none⟩ = _ := hcc h (by rw [cntL_length]; exact hhl)
            rw [HCN.out h hhl] at g1
            have HH5 := Lib.hid (HH.out.below (HB5.out 0))
            obtain ⟨bh, oh, rfl, hbh, hch⟩ := HH5.out.cells (by omega)
            have g2 : w5.cell? ⟨bh, oh + h, none⟩ = _ := hch h hhl
            clear hcc hch
            rw [Int.toNat_natCast] at HGO2
            generalize cntN ways (at4 (p0, p1, p2, p3)) (h : Int) ways.length = cn at g1 HGO2
            generalize halls.getD h 0 = hn at g2 HGO2
            by_cases hc : cn < hn
            · have d2 : decide (cn < hn) = true := decide_eq_true hc
              have HN := Lib.hid (show canGo halls ways (at4 (p0, p1, p2, p3)) k = true by rw [HGO2.out, d1, d2]; rfl)
              go_wp2_with fail
              go_quiet (fail)
              go_wp2_with (
                at_builtin
                refine wpList_app1n rfl _ _ 123 rfl 3 _ i0 Tryz.underlying123 HI.out iz0 iz1 iz2 W.heap.size _ _ rfl (HO5.out _) _ _ (by simp) rfl HGK.out (by omega) (HB5.out _).size ?_
                intro v9 w9 h1 h2 h3
                have H9 := Lib.hid h1
                have HB9 := Lib.hid (bgrown (HB5.out _) h2 (fun q hq => ((HO5.out 0).lt q hq).1))
                have HR9 := Lib.hid ((HR5.out _).grown h2 (fun q hq => HAP.out.2 q hq))
                have HA9 := Lib.hid (show w2.heap.size ≤ w9.heap.size ∧ ∀ j, v9.ownBlock = some j → (Value.slice _ halls.length cc).ownBlock ≠ some j from ⟨Nat.le_trans (HSZ.out _) h2.size, fun j hj e => by
                  rcases h3 j hj with h4 | h4
                  · exact HAP.out.2 j h4 e
                  · exact Nat.lt_irrefl _ (Nat.lt_of_lt_of_le (HLC.out j e).2 (Nat.le_trans (HSZ.out _) h4))⟩)
                clear h1 h2 h3)
              go_roundw
              case rel => exact ⟨k + 1, v9, by omega, rfl, by go_num, HB9.out, Lib.hid (by rw [HM.out, HN.out]; exact H9.out), HR9, HA9⟩
              case measure => simp [intOf]; omega
            · have d2 : decide (cn < hn) = false := decide_eq_false hc
              have HN := Lib.hid (show canGo halls ways (at4 (p0, p1, p2, p3)) k = false by rw [HGO2.out, d1, d2]; rfl)
              go_wp2_with fail
              go_quiet (fail)
              go_wp2_with fail
              go_roundw
              case rel => exact ⟨k + 1, _, by omega, rfl, by go_num, HB5.out _, Lib.hid (by rw [HM.out, HN.out]; simpa using HO5.out _), Lib.hid (HR5.out _), Lib.hid ⟨HSZ.out _, HAP.out.2⟩⟩
              case measure => simp [intOf]; omega
    · go_wp2_with fail
      go_ret
      obtain rfl : k = ways.length := by omega
      exact ⟨_, rfl, HO.out.mono (by omega), (HB.out.trans (hb.mono (by omega)))⟩

end Go.Proofs.YthlpbeohlhhblaaGreat
