/-
  A2Order: a drawn order.
  Halls, ways through them and the carriers' states; which carriers can go on; the states that are reached. Plain Lean: no program in sight.
  A map from states to true, in a block of its own: what a look-up tells, and what a new entry leaves.
-/
import Derived.Test.YthlpbeohlhhblaaGreatTopH
import Derived.Test.YthlpbeohlhhblaaGreatTopC
import Derived.Test.YthlpbeohlhhblaaGreatProg
import Derived.Test.YthlpbeohlhhblaaGreatTopA
import Derived.Deep.DeepCutAuto
import Derived.DeepKeys3
import Derived.ChangeMaps4
namespace Go.Proofs.YthlpbeohlhhblaaGreat
open Go.RowKit

set_option maxRecDepth 100000 in
theorem l00Own_any (v : Value) (xs : List Int) (w : World) (hv : RI w v xs) (hl : xs.length ≤ 1048576) :
    Calls Tryz.prog 31 #[v] w fun e w' => ∃ v', e = .returned v' ∧ OI 2 w' w.heap.size v' xs ∧ Below w.heap.size w w' := by
  obtain ⟨a, cap, rfl⟩ := hv.shape
  obtain ⟨i0, hi, iz0, iz1, iz2⟩ := info_parts infoInt64
  have HI := Lib.hid hi
  have HV := Lib.hid hv
  have HB := Lib.hid ((Below.refl w.heap.size w).alloc (Nat.le_refl _) (.cells #[] 2))
  clear hv hi
  go_enter Tryz.func31, Tryz.ntmps31
  go_wp2_with (
    at_builtin
    refine wpList_appI rfl _ _ 24 rfl 2 i0 Tryz.underlying24 HI.out iz0 iz1 iz2 w.heap.size _ [] rfl (OI.lit0 _ _ _ (Nat.le_refl _)) _ xs rfl (HV.out.below HB.out) (by simp; omega) HB.out.size ?_
    intro v9 w9 h1 h2
    have H9 := Lib.hid (show OI 2 w9 w.heap.size v9 xs from h1)
    have HG := Lib.hid (HB.out.grown h2 (HB.out.size) (fun k hk => Nat.le_of_eq (Option.some.inj hk)))
    clear h1 h2)
  go_ret
  exact ⟨_, rfl, H9.out, HG.out⟩

/-- xs[lo:] -/
theorem cutFromI {w : World} {a : Option Addr} {n cap : Nat} {xs : List Int} (h : RI w (.slice a n cap) xs) (lo : Nat) (h1 : lo ≤ xs.length) :
    ∃ v', RI w v' (xs.drop lo) ∧ ∀ W, (Instr.slice 24 (.slice a n cap) (some (.int .i64 (lo : Int))) none none).run Tryz.prog W = .ok v' W := by
  obtain ⟨v', h2, h3⟩ := cutI h lo xs.length h1 (Nat.le_refl _)
  rw [List.take_length] at h2
  refine ⟨v', h2, fun W => ?_⟩
  obtain ⟨⟨a', cap', e', hc1, hc2, _⟩, hg⟩ := h
  simp only [Value.slice.injEq] at e'
  obtain ⟨rfl, rfl, rfl⟩ := e'
  rw [← h3 W (lo : Int) (xs.length : Int) rfl rfl]
  rw [run_slice_lh W 24 a xs.length cap (by kernel_rfl) .i64 .i64 (lo : Int) (xs.length : Int) (by omega) (by omega) (by omega), run_slice_l W 24 a xs.length cap (by kernel_rfl) .i64 (lo : Int) (by omega) (by omega)]
  simp

/-- i is put into an order of i things. -/
theorem order_put {i : Nat} {o : List Int} (h : okOrder i o) (k : Nat) : okOrder (i + 1) (o.take k ++ [(i : Int)] ++ o.drop k) := by
  obtain ⟨h1, h2, h3⟩ := h
  have hnot : (i : Int) ∉ o := fun hm => by have := h2 _ hm; omega
  have hn := h3
  rw [← List.take_append_drop k o, List.nodup_append] at hn
  obtain ⟨n1, n2, n3⟩ := hn
  refine ⟨by simp; omega, fun x hx => ?_, ?_⟩
  · simp only [List.mem_append, List.mem_singleton] at hx
    rcases hx with (hx | rfl) | hx
    · have := h2 x (List.mem_of_mem_take hx); omega
    · omega
    · have := h2 x (List.mem_of_mem_drop hx); omega
  · rw [List.append_assoc, List.nodup_append]
    refine ⟨n1, ?_, fun a ha b hb => ?_⟩
    · rw [List.nodup_append]
      refine ⟨by simp, n2, fun a ha b hb e => ?_⟩
      rw [List.mem_singleton.1 ha] at e
      exact hnot (e ▸ List.mem_of_mem_drop hb)
    · rcases List.mem_append.1 hb with hb | hb
      · rw [List.mem_singleton.1 hb]
        intro e
        exact hnot (e ▸ List.mem_of_mem_take ha)
      · exact n3 a ha b hb

set_option maxRecDepth 100000 in
set_option maxHeartbeats 4000000 in
theorem a2Order_any (v : Value) (m n : Nat) (w : World) (hv : BI w v m) (hn : n ≤ 1000) :
    Calls Tryz.prog 9 #[v, .int .i64 n] w fun e w' => ∃ v' o, e = .returned v' ∧ RI w' v' o ∧ okOrder n o ∧ Below w.heap.size w w' := by
  have HV := Lib.hid hv
  clear hv
  obtain ⟨i0, hi, iz0, iz1, iz2⟩ := info_parts infoInt64
  have HI := Lib.hid hi
  clear hi
  go_enter Tryz.func9, Tryz.ntmps9
  go_wp2_with fail
  refine (from_any v m _ HV.out).mono ?_
  rintro e w1 ⟨rfl, hs1, hb1⟩
  have hne : 0 < m → v.ownBlock ≠ some w.heap.size := fun hp e => by have := HV.out.own_lt hp e; omega
  obtain ⟨b, hbd⟩ : ∃ b, b = w.heap.size := ⟨_, rfl⟩
  obtain ⟨base, hbs⟩ : ∃ base, base = w.heap.size := ⟨_, rfl⟩
  have hs1' : SrcAt w1 base b v 0 := by rw [hbd, hbs]; exact hs1
  rw [← hbd] at hne
  have hblt := hs1'.lt.2
  have HB1 := Lib.hid hb1
  have HBD := Lib.hid hbd
  have hA := (Below.refl w1.heap.size w1).alloc (Nat.le_refl _) (.cells #[] 2)
  have HO1 := Lib.hid (OI.lit0 2 w1 w1.heap.size (Nat.le_refl _))
  have HS2 := Lib.hid (hs1'.below hA)
  have HV1 := Lib.hid (HV.out.below hb1)
  have HG2 := Lib.hid (grown_below (row := some b) hA)
  rw [← hbd]
  clear hs1 hs1' hb1 hbd hbs hA
  go_wp2_with fail
  go_loopw [6, 7] (fun o i wr => ∃ (k : Nat) (u : Value) (xs : List Int), k ≤ n ∧ u = o ∧ i = .int .i64 k ∧ Hid (OI 2 wr w1.heap.size u xs) ∧ Hid (okOrder k xs) ∧ Hid (w1.grownBy wr (some b)) ∧ Hid (SrcAt wr base b v (2 * k))) (fun _ i _ => n - (intOf i).toNat)
  case atStart => exact ⟨0, _, [], Nat.zero_le _, rfl, rfl, HO1, Lib.hid ⟨rfl, by simp, by simp⟩, HG2, HS2⟩
  case round =>
    obtain ⟨k, u, xs, hk, rfl, rfl, HO, HX, HG, HSR⟩ := hrel
    rename World => wo
    by_cases hlt : k < n
    · have hd : decide ((k : Int) < (n : Int)) = true := decide_eq_true (by omega)
      have hd2 : decide (k < n) = true := decide_eq_true hlt
      have hxl : xs.length = k := HX.out.1
      obtain ⟨au, cu, hsh⟩ := HO.out.ri.shape
      subst hsh
      have HXL := Lib.hid hxl
      rw [hxl]
      have hO : OI 2 wo w1.heap.size (.slice au k cu) xs := by have := HO.out; rw [hxl] at this; exact this
      have HO' := Lib.hid hO
      clear hxl hO HO
      have hw1 : IntKind.i64.wrap ((k : Int) + 1) = (k : Int) + 1 := IntWalk.i64_in _ (by omega)
      have C2 := Lib.hid (pick_any v m b base (2 * k) ((k : Int) + 1) wo (HV1.out.grown HG.out hne) HSR.out (by omega) hne)
      have hne1 : (Value.slice au k cu).ownBlock ≠ some b := fun e => by
        have := (HO'.out.lt b e).1
        omega
      go_wp2_with fail
      refine C2.out.mono ?_
      rintro e w4 ⟨y, rfl, y0, yM, y1, y2, hs4, hg4⟩
      have yN : y < (k : Int) + 1 := pick_lt y1 y2 (by omega)
      obtain ⟨Y, rfl⟩ : ∃ Y : Nat, y = Y := ⟨y.toNat, by omega⟩
      have hY : Y ≤ k := by omega
      have HG4 := Lib.hid (grownBy_trans HG.out hg4)
      have HO4 := Lib.hid (HO'.out.grown hg4 (.inr hne1))
      have HS4 := Lib.hid hs4
      clear hs4 hg4 y1 y2
      obtain ⟨vc, hvc, hrun⟩ := cutToI HO4.out.ri Y (by rw [HXL.out]; exact hY)
      have hr1 : ∀ W, (Instr.slice 24 (.slice au k cu) none (some (.int .i64 (Y : Int))) none).run Tryz.prog W = .ok vc W := fun W => hrun W Y rfl
      have C5 := Lib.hid (l00Own_any vc (xs.take Y) w4 hvc (by simp; omega))
      clear hrun hvc
      go_wp2_with fail
      refine C5.out.mono ?_
      rintro e w5 ⟨v5, rfl, ho5, hb5⟩
      have HO5 := Lib.hid ho5
      have HB5 := Lib.hid hb5
      have HX5 := Lib.hid (HO4.out.below hb5)
      have HG5 := Lib.hid (grownBy_trans HG4.out (grown_below (row := some b) hb5))
      have HS5 := Lib.hid (HS4.out.below hb5)
      have hsz5 := hb5.size
      have hsz4 := HG4.out.size
      have hbw4 : b < w4.heap.size := Nat.lt_of_lt_of_le hblt HG4.out.size
      clear ho5 hb5 C5
      have hxt : (xs.take Y).length ≤ 1000 := by simp; omega
      have HXK := Lib.hid (fun z (hz : v5.ownBlock = some z) => (show (Value.slice au k cu).ownBlock ≠ some z from fun e => by
        have p1 := (HO5.out.lt z hz).1
        have p2 := (HO4.out.lt z e).2
        omega))
      go_upto_region 8 with (
        at_builtin
        refine wpList_app1n rfl _ _ 24 rfl 2 _ i0 Tryz.underlying24 HI.out iz0 iz1 iz2 w4.heap.size _ (xs.take Y) rfl HO5.out (k : Int) _ (by simp) rfl (by unfold Good; omega) (by omega) hsz5 ?_
        intro v6 w6 h1 h2 h3
        have H6 := Lib.hid h1
        have HX6 := Lib.hid (HX5.out.apart h2 HXK.out)
        have HG6 := Lib.hid (grown_chain HG5.out h2 (fun q hq => Nat.le_trans hsz4 (HO5.out.lt q hq).1))
        have HS6 := Lib.hid (HS5.out.grown h2 (fun e => by have := (HO5.out.lt b e.symm).1; omega))
        have hsz6 := Nat.le_trans hsz5 h2.size
        have HN6 := Lib.hid (fun z (hz : v6.ownBlock = some z) => (show w4.heap.size ≤ z from (h1.lt z hz).1))
        clear h1 h2 h3)
      obtain ⟨vd, hvd, hr2⟩ := cutFromI HX6.out.ri Y (by rw [HXL.out]; exact hY)
      have HVD := Lib.hid hvd
      have hdl : (xs.drop Y).length ≤ 1000 := by rw [List.length_drop, HXL.out]; omega
      have hll : (xs.take Y ++ [(k : Int)]).length ≤ 1001 := by rw [List.length_append]; simp; omega
      clear hvd
      go_wp2_with (
        at_builtin
        refine wpList_appI rfl _ _ 24 rfl 2 i0 Tryz.underlying24 HI.out iz0 iz1 iz2 w4.heap.size _ _ rfl H6.out _ _ rfl HVD.out (by omega) hsz6 ?_
        intro v9 w9 h1 h2
        have H9 := Lib.hid (h1.mono hsz4)
        have HG9 := Lib.hid (grown_chain HG6.out h2 (fun q hq => Nat.le_trans hsz4 (HN6.out q hq)))
        have HS9 := Lib.hid (HS6.out.grown h2 (fun e => by have := HN6.out b e.symm; omega))
        clear h1 h2)
      go_roundw
      case rel => exact ⟨k + 1, _, _, by omega, rfl, by go_num, H9, Lib.hid (order_put HX.out Y), HG9, Lib.hid (HS9.out.more (by omega))⟩
      case measure => simp [intOf]; omega
    · have hd : decide ((k : Int) < (n : Int)) = false := decide_eq_false (by omega)
      have hd2 : decide (k < n) = false := decide_eq_false hlt
      have hkn : k = n := by omega
      have hX := HX.out
      rw [hkn] at hX
      have HX' := Lib.hid hX
      clear hX hkn HX
      go_wp2_with fail
      go_ret
      have hq : ∀ q, some b = some q → w.heap.size ≤ q := fun q e => by have := Option.some.inj e; have := HBD.out; omega
      exact ⟨_, xs, rfl, HO.out.ri, HX'.out, bgrown HB1.out HG.out hq⟩

end Go.Proofs.YthlpbeohlhhblaaGreat
namespace Go.Proofs.YthlpbeohlhhblaaGreat

abbrev St4 := Int × Int × Int × Int
def zSt : St4 := (0, 0, 0, 0)
def at4 (s : St4) : Nat → Int
  | 0 => s.1
  | 1 => s.2.1
  | 2 => s.2.2.1
  | 3 => s.2.2.2
  | _ => 0
def mv4 (s : St4) : Nat → St4
  | 0 => (s.1 + 1, s.2)
  | 1 => (s.1, s.2.1 + 1, s.2.2)
  | 2 => (s.1, s.2.1, s.2.2.1 + 1, s.2.2.2)
  | 3 => (s.1, s.2.1, s.2.2.1, s.2.2.2 + 1)
  | _ => s
def upP (p : Nat → Int) (c : Nat) : Nat → Int := fun i => if i = c then p i + 1 else p i
theorem at4_mv (s : St4) {c : Nat} (hc : c < 4) : at4 (mv4 s c) = upP (at4 s) c := by
  funext i
  match c, hc with
  | 0, _ => match i with
    | 0 | 1 | 2 | 3 | (n + 4) => simp [at4, mv4, upP]
  | 1, _ => match i with
    | 0 | 1 | 2 | 3 | (n + 4) => simp [at4, mv4, upP]
  | 2, _ => match i with
    | 0 | 1 | 2 | 3 | (n + 4) => simp [at4, mv4, upP]
  | 3, _ => match i with
    | 0 | 1 | 2 | 3 | (n + 4) => simp [at4, mv4, upP]

def hallAt (ways : List (List Int)) (p : Nat → Int) (c : Nat) : Int := if p c < 1 ∨ ((ways.getD c []).length : Int) < p c then -1 else (ways.getD c []).getD (p c - 1).toNat 0
def cntN (ways : List (List Int)) (p : Nat → Int) (h : Int) : Nat → Int
  | 0 => 0
  | k + 1 => cntN ways p h k + if hallAt ways p k = h then 1 else 0
def inside (ways : List (List Int)) (p : Nat → Int) : Nat → Int
  | 0 => 0
  | k + 1 => inside ways p k + if 0 ≤ hallAt ways p k then 1 else 0
def canGo (halls : List Int) (ways : List (List Int)) (p : Nat → Int) (c : Nat) : Bool :=
  !(decide (((ways.getD c []).length : Int) < p c) || (decide (p c = 0) && decide ((ways.length : Int) ≤ inside ways p ways.length))) &&
  (decide (hallAt ways (upP p c) c < 0) || decide (cntN ways p (hallAt ways (upP p c) c) ways.length < halls.getD (hallAt ways (upP p c) c).toNat 0))
def movesP (halls : List Int) (ways : List (List Int)) (p : Nat → Int) : Nat → List Int
  | 0 => []
  | k + 1 => movesP halls ways p k ++ if canGo halls ways p k then [(k : Int)] else []
def doneP (ways : List (List Int)) (p : Nat → Int) : Nat → Bool
  | 0 => true
  | k + 1 => doneP ways p k && decide (((ways.getD k []).length : Int) < p k)

def okRoad (m : Nat) (way : List Int) : Prop := 1 ≤ way.length ∧ way.length ≤ 5 ∧ (∀ k, k < way.length → 0 ≤ way.getD k 0 ∧ way.getD k 0 < m) ∧ ∀ k, k + 1 < way.length → way.getD k 0 ≠ way.getD (k + 1) 0
structure OkHW (halls : List Int) (ways : List (List Int)) : Prop where
  h1 : 1 ≤ halls.length
  h2 : halls.length ≤ 5
  hv : ∀ i, i < halls.length → 1 ≤ halls.getD i 0 ∧ halls.getD i 0 ≤ 3
  w4 : ways.length ≤ 4
  wl : ∀ c, c < ways.length → okRoad halls.length (ways.getD c [])
structure OkP (halls : List Int) (ways : List (List Int)) (p : Nat → Int) : Prop where
  pos : ∀ c, c < ways.length → 0 ≤ p c ∧ p c ≤ (ways.getD c []).length + 1
  none : ∀ c, ways.length ≤ c → p c = 0
  room : ∀ h : Nat, h < halls.length → cntN ways p h ways.length ≤ halls.getD h 0

theorem hallAt_range {halls : List Int} {ways : List (List Int)} (ok : OkHW halls ways) (p : Nat → Int) {c : Nat} (hc : c < ways.length) : -1 ≤ hallAt ways p c ∧ hallAt ways p c < halls.length ∧ (hallAt ways p c < 0 → hallAt ways p c = -1) := by
  have h1 := ok.h1
  have h3 := ok.wl c hc
  unfold hallAt
  split
  · omega
  · have := h3.2.2.1 (p c - 1).toNat (by omega)
    omega
theorem cntN_range (ways : List (List Int)) (p : Nat → Int) (h : Int) : ∀ k : Nat, 0 ≤ cntN ways p h k ∧ cntN ways p h k ≤ k
  | 0 => by simp [cntN]
  | k + 1 => by
    have := cntN_range ways p h k
    unfold cntN
    split <;> omega
theorem inside_range (ways : List (List Int)) (p : Nat → Int) : ∀ k : Nat, 0 ≤ inside ways p k ∧ inside ways p k ≤ k
  | 0 => by simp [inside]
  | k + 1 => by
    have := inside_range ways p k
    unfold inside
    split <;> omega
/-- Where one is outside, not all are inside. -/
theorem inside_less {ways : List (List Int)} {p : Nat → Int} {c : Nat} (h : hallAt ways p c < 0) : ∀ k : Nat, c < k → inside ways p k < k
  | 0, hc => by omega
  | k + 1, hc => by
    have := inside_range ways p k
    unfold inside
    by_cases e : k = c
    · subst e
      rw [if_neg (by omega)]; omega
    · have := inside_less h k (by omega)
      split <;> omega
theorem hallAt_up_ne (ways : List (List Int)) (p : Nat → Int) {c k : Nat} (h : k ≠ c) : hallAt ways (upP p c) k = hallAt ways p k := by
  unfold hallAt upP
  rw [if_neg h]
theorem cntN_up_le (ways : List (List Int)) (p : Nat → Int) (h : Int) (c : Nat) : ∀ k : Nat, k ≤ c → cntN ways (upP p c) h k = cntN ways p h k
  | 0, _ => rfl
  | k + 1, hk => by
    unfold cntN
    rw [cntN_up_le ways p h c k (by omega), hallAt_up_ne ways p (by omega)]
theorem cntN_up (ways : List (List Int)) (p : Nat → Int) (h : Int) (c : Nat) : ∀ k : Nat, c < k → cntN ways (upP p c) h k = cntN ways p h k - (if hallAt ways p c = h then 1 else 0) + (if hallAt ways (upP p c) c = h then 1 else 0)
  | 0, hk => by omega
  | k + 1, hk => by
    unfold cntN
    by_cases e : k = c
    · subst e
      rw [cntN_up_le ways p h k k (Nat.le_refl _)]
      split <;> split <;> omega
    · rw [cntN_up ways p h c k (by omega), hallAt_up_ne ways p e]
      omega
theorem okP_up {halls : List Int} {ways : List (List Int)} (ok : OkHW halls ways) {p : Nat → Int} (hp : OkP halls ways p) {c : Nat} (hc : c < ways.length) (h : canGo halls ways p c = true) : OkP halls ways (upP p c) := by
  unfold canGo at h
  simp only [Bool.and_eq_true, Bool.not_eq_true', Bool.or_eq_false_iff, Bool.or_eq_true, decide_eq_true_eq, decide_eq_false_iff_not] at h
  refine ⟨fun k hk => ?_, fun k hk => ?_, fun g hg => ?_⟩
  · have := hp.pos k hk
    unfold upP
    split
    · next e => subst e; omega
    · exact this
  · unfold upP
    rw [if_neg (by omega)]
    exact hp.none k hk
  · rw [cntN_up ways p g c _ hc]
    have h3 := hp.room g hg
    by_cases e : hallAt ways (upP p c) c = (g : Int)
    · rw [if_pos e]
      rw [e] at h
      rw [Int.toNat_natCast] at h
      split <;> omega
    · rw [if_neg e]
      split <;> omega

/-- The spec's own test. -/
def specGo (halls : List Int) (ways : List (List Int)) (p : Nat → Int) (c : Nat) : Bool :=
  if ((ways.getD c []).length : Int) < p c then false else if p c = (ways.getD c []).length then true else if p c = 0 ∧ 4 ≤ inside ways p ways.length then false else
    decide (0 < halls.getD ((ways.getD c []).getD (p c).toNat 0).toNat 0 - cntN ways p ((ways.getD c []).getD (p c).toNat 0) ways.length)
theorem specGo_eq {halls : List Int} {ways : List (List Int)} (ok : OkHW halls ways) {p : Nat → Int} (hp : OkP halls ways p) {c : Nat} (hc : c < ways.length) : specGo halls ways p c = canGo halls ways p c := by
  have hpc := hp.pos c hc
  have hw := ok.wl c hc
  have hw4 := ok.w4
  have hin : p c = 0 → inside ways p ways.length < ways.length := fun e => inside_less (c := c) (by unfold hallAt; rw [if_pos (by omega)]; omega) _ hc
  unfold specGo canGo
  by_cases h1 : ((ways.getD c []).length : Int) < p c
  · rw [if_pos h1, decide_eq_true h1]; rfl
  · rw [if_neg h1, decide_eq_false h1]
    have hn : (decide (p c = 0) && decide ((ways.length : Int) ≤ inside ways p ways.length)) = false := by
      by_cases e : p c = 0
      · have := hin e
        rw [decide_eq_true e, decide_eq_false (by omega)]; rfl
      · rw [decide_eq_false e]; rfl
    rw [hn]
    have hup : upP p c c = p c + 1 := by unfold upP; rw [if_pos rfl]
    by_cases h2 : p c = (ways.getD c []).length
    · rw [if_pos h2]
      have : hallAt ways (upP p c) c = -1 := by unfold hallAt; rw [if_pos (by rw [hup]; omega)]
      rw [this]; rfl
    · rw [if_neg h2]
      have : hallAt ways (upP p c) c = (ways.getD c []).getD (p c).toNat 0 := by
        unfold hallAt
        rw [if_neg (by rw [hup]; omega), hup, show p c + 1 - 1 = p c by omega]
      rw [this]
      have hr := hw.2.2.1 (p c).toNat (by omega)
      rw [if_neg (by intro e; have := hin e.1; omega), decide_eq_false (show ¬ (ways.getD c []).getD (p c).toNat 0 < 0 by omega)]
      simp only [Bool.or_false, Bool.not_false, Bool.true_and, Bool.false_or]
      congr 1
      exact propext ⟨by omega, by omega⟩

theorem movesP_mem {halls : List Int} {ways : List (List Int)} {p : Nat → Int} {x : Int} : ∀ {k : Nat}, x ∈ movesP halls ways p k → ∃ c : Nat, c < k ∧ x = c ∧ canGo halls ways p c = true
  | 0, h => by simp [movesP] at h
  | k + 1, h => by
    unfold movesP at h
    rcases List.mem_append.1 h with h | h
    · obtain ⟨c, h1, h2, h3⟩ := movesP_mem h
      exact ⟨c, by omega, h2, h3⟩
    · split at h
      · next e =>
        refine ⟨k, by omega, ?_, e⟩
        simpa using h
      · simp at h
theorem movesP_length (halls : List Int) (ways : List (List Int)) (p : Nat → Int) : ∀ k : Nat, (movesP halls ways p k).length ≤ k
  | 0 => Nat.le_refl _
  | k + 1 => by
    have := movesP_length halls ways p k
    unfold movesP
    rw [List.length_append]
    split <;> simp <;> omega

/-! ### the states that are reached -/
abbrev BfsT := List St4 × List (List Int)
def addSt (i : Nat) (b : BfsT) (c : Int) : BfsT := if mv4 (b.1.getD i zSt) c.toNat ∈ b.1 then b else (b.1 ++ [mv4 (b.1.getD i zSt) c.toNat], b.2 ++ [b.2.getD i [] ++ [c]])
def roundSt (halls : List Int) (ways : List (List Int)) (i : Nat) (b : BfsT) : BfsT := if i < b.1.length then (movesP halls ways (at4 (b.1.getD i zSt)) ways.length).foldl (addSt i) b else b
def bfsAt (halls : List Int) (ways : List (List Int)) : Nat → BfsT
  | 0 => ([zSt], [[]])
  | i + 1 => roundSt halls ways i (bfsAt halls ways i)
theorem bfsAt_stop {halls : List Int} {ways : List (List Int)} {i : Nat} (h : (bfsAt halls ways i).1.length ≤ i) : ∀ k, bfsAt halls ways (i + k) = bfsAt halls ways i
  | 0 => rfl
  | k + 1 => by
    show roundSt halls ways (i + k) (bfsAt halls ways (i + k)) = _
    rw [bfsAt_stop h k]
    unfold roundSt
    rw [if_neg (by omega)]

def pathS (ms : List Int) : St4 := ms.foldl (fun s c => mv4 s c.toNat) zSt
theorem path_snoc (ms : List Int) (c : Int) : pathS (ms ++ [c]) = mv4 (pathS ms) c.toNat := by unfold pathS; rw [List.foldl_append]; rfl
def LegalS (halls : List Int) (ways : List (List Int)) (ms : List Int) : Prop := ∀ k, k < ms.length → ms.getD k 0 ∈ movesP halls ways (at4 (pathS (ms.take k))) ways.length
theorem legal_nil (halls : List Int) (ways : List (List Int)) : LegalS halls ways [] := fun k hk => absurd hk (Nat.not_lt_zero _)
theorem legal_snoc {halls : List Int} {ways : List (List Int)} {ms : List Int} {c : Int} (h : LegalS halls ways ms) (hc : c ∈ movesP halls ways (at4 (pathS ms)) ways.length) : LegalS halls ways (ms ++ [c]) := by
  intro k hk
  rw [List.length_append, List.length_singleton] at hk
  rw [getD_snoc]
  by_cases e : k < ms.length
  · rw [if_pos e, List.take_append_of_le_length (by omega)]
    exact h k e
  · rw [if_neg e, if_pos (by omega)]
    obtain rfl : k = ms.length := by omega
    rw [List.take_left']
    · exact hc
    · rfl
theorem legal_ok {halls : List Int} {ways : List (List Int)} (ok : OkHW halls ways) {ms : List Int} (h : LegalS halls ways ms) : ∀ k, k ≤ ms.length → OkP halls ways (at4 (pathS (ms.take k)))
  | 0, _ => by
    have h0 : ∀ c, at4 (pathS (ms.take 0)) c = 0 := fun c => by
      match c with
      | 0 | 1 | 2 | 3 | (n + 4) => rfl
    have hh : ∀ c, hallAt ways (at4 (pathS (ms.take 0))) c = -1 := fun c => by unfold hallAt; rw [h0, if_pos (by omega)]
    refine ⟨fun c _ => by rw [h0]; omega, fun c _ => h0 c, fun g hg => ?_⟩
    have : ∀ k, cntN ways (at4 (pathS (ms.take 0))) g k = 0 := fun k => by
      induction k with
      | zero => rfl
      | succ k ih => unfold cntN; rw [ih, hh, if_neg (by omega)]; rfl
    rw [this]
    have := ok.hv g hg
    omega
  | k + 1, hk => by
    have ih := legal_ok ok h k (by omega)
    obtain ⟨c, h1, h2, h3⟩ := movesP_mem (h k (by omega))
    have hw := ok.w4
    rw [take_snoc ms k (by omega), path_snoc, h2, Int.toNat_natCast, at4_mv _ (by omega)]
    exact okP_up ok ih h1 h3
theorem legal_all {halls : List Int} {ways : List (List Int)} (ok : OkHW halls ways) {ms : List Int} (h : LegalS halls ways ms) : OkP halls ways (at4 (pathS ms)) := by
  have := legal_ok ok h ms.length (Nat.le_refl _)
  rwa [List.take_length] at this
theorem okP_bound {halls : List Int} {ways : List (List Int)} (ok : OkHW halls ways) {p : Nat → Int} (hp : OkP halls ways p) (c : Nat) : 0 ≤ p c ∧ p c ≤ 6 := by
  by_cases hc : c < ways.length
  · have h1 := hp.pos c hc
    have h2 := (ok.wl c hc).2.1
    omega
  · rw [hp.none c (by omega)]; omega

structure BI4 (halls : List Int) (ways : List (List Int)) (b : BfsT) : Prop where
  len : b.2.length = b.1.length
  nodup : b.1.Nodup
  legal : ∀ j, j < b.1.length → LegalS halls ways (b.2.getD j [])
  path : ∀ j, j < b.1.length → b.1.getD j zSt = pathS (b.2.getD j [])
theorem bi4_start (halls : List Int) (ways : List (List Int)) : BI4 halls ways ([zSt], [[]]) := by
  refine ⟨rfl, by simp, fun j hj => ?_, fun j hj => ?_⟩
  · obtain rfl : j = 0 := by simpa using hj
    exact legal_nil _ _
  · obtain rfl : j = 0 := by simpa using hj
    rfl
theorem addSt_inv {halls : List Int} {ways : List (List Int)} {b : BfsT} (h : BI4 halls ways b) {i : Nat} (hi : i < b.1.length) {c : Int} (hc : c ∈ movesP halls ways (at4 (b.1.getD i zSt)) ways.length) :
    BI4 halls ways (addSt i b c) ∧ b.1.length ≤ (addSt i b c).1.length ∧ (addSt i b c).1.getD i zSt = b.1.getD i zSt := by
  unfold addSt
  split
  · exact ⟨h, Nat.le_refl _, rfl⟩
  · next hne =>
    have hl := h.len
    refine ⟨⟨by simp [hl], ?_, fun j hj => ?_, fun j hj => ?_⟩, by simp, ?_⟩
    · refine List.nodup_append.2 ⟨h.nodup, by simp, fun x hx y hy => ?_⟩
      rw [List.mem_singleton.1 hy]
      rintro rfl
      exact hne hx
    · simp only [List.length_append, List.length_singleton] at hj
      rw [getD_snoc]
      split
      · exact h.legal j (by omega)
      · rw [if_pos (by omega)]
        refine legal_snoc (h.legal i hi) ?_
        rw [← h.path i hi]
        exact hc
    · simp only [List.length_append, List.length_singleton] at hj
      rw [getD_snoc, getD_snoc]
      by_cases e : j < b.1.length
      · rw [if_pos e, if_pos (by omega)]
        exact h.path j e
      · rw [if_neg e, if_pos (show j = b.1.length by omega), if_neg (show ¬ j < b.2.length by omega), if_pos (show j = b.2.length by omega), path_snoc, ← h.path i hi]
    · rw [getD_snoc, if_pos hi]
theorem fold_inv {halls : List Int} {ways : List (List Int)} {b : BfsT} (h : BI4 halls ways b) {i : Nat} (hi : i < b.1.length) : ∀ l : List Int, (∀ c ∈ l, c ∈ movesP halls ways (at4 (b.1.getD i zSt)) ways.length) →
    BI4 halls ways (l.foldl (addSt i) b) ∧ b.1.length ≤ (l.foldl (addSt i) b).1.length ∧ (l.foldl (addSt i) b).1.getD i zSt = b.1.getD i zSt := by
  refine snoc_ind (fun _ => ⟨h, Nat.le_refl _, rfl⟩) fun l x ih hl => ?_
  obtain ⟨i1, i2, i3⟩ := ih fun c hc => hl c (by simp [hc])
  rw [List.foldl_append]
  show BI4 halls ways (addSt i (l.foldl (addSt i) b) x) ∧ b.1.length ≤ (addSt i (l.foldl (addSt i) b) x).1.length ∧ (addSt i (l.foldl (addSt i) b) x).1.getD i zSt = b.1.getD i zSt
  obtain ⟨j1, j2, j3⟩ := addSt_inv i1 (i := i) (by omega) (c := x) (by rw [i3]; exact hl x (by simp))
  exact ⟨j1, by omega, j3.trans i3⟩
theorem bfsAt_inv (halls : List Int) (ways : List (List Int)) : ∀ i, BI4 halls ways (bfsAt halls ways i)
  | 0 => bi4_start _ _
  | i + 1 => by
    have ih := bfsAt_inv halls ways i
    unfold bfsAt roundSt
    split
    · next hi => exact (fold_inv ih hi _ fun c hc => hc).1
    · exact ih
theorem bi4_ok {halls : List Int} {ways : List (List Int)} (ok : OkHW halls ways) {b : BfsT} (h : BI4 halls ways b) {j : Nat} (hj : j < b.1.length) : OkP halls ways (at4 (b.1.getD j zSt)) := by
  rw [h.path j hj]
  exact legal_all ok (h.legal j hj)

def num4 (s : St4) : Int := s.1 * 343 + s.2.1 * 49 + s.2.2.1 * 7 + s.2.2.2
theorem bi4_most {halls : List Int} {ways : List (List Int)} (ok : OkHW halls ways) {b : BfsT} (h : BI4 halls ways b) : b.1.length ≤ 2401 := by
  have hb : ∀ s ∈ b.1, ∀ c, 0 ≤ at4 s c ∧ at4 s c ≤ 6 := fun s hs c => by
    obtain ⟨j, hj, rfl⟩ := List.getElem_of_mem hs
    have := okP_bound ok (bi4_ok ok h hj) c
    rwa [show b.1.getD j zSt = b.1[j] by simp [List.getD, hj]] at this
  have hn : (b.1.map num4).Nodup := by
    refine List.pairwise_map.2 (List.Pairwise.imp_of_mem (fun {s t} hs ht hne e => hne ?_) h.nodup)
    obtain ⟨a1, a2, a3, a4⟩ := s
    obtain ⟨b1, b2, b3, b4⟩ := t
    have q0 := hb _ hs 0
    have q1 := hb _ hs 1
    have q2 := hb _ hs 2
    have q3 := hb _ hs 3
    have r0 := hb _ ht 0
    have r1 := hb _ ht 1
    have r2 := hb _ ht 2
    have r3 := hb _ ht 3
    simp only [at4, num4] at *
    have e1 : a1 = b1 := by omega
    have e2 : a2 = b2 := by omega
    have e3 : a3 = b3 := by omega
    have e4 : a4 = b4 := by omega
    rw [e1, e2, e3, e4]
  have := nodup_most hn (m := nums 2401) fun x hx => by
    obtain ⟨s, hs, rfl⟩ := List.mem_map.1 hx
    have q0 := hb _ hs 0
    have q1 := hb _ hs 1
    have q2 := hb _ hs 2
    have q3 := hb _ hs 3
    rw [nums_mem]
    simp only [at4, num4] at *
    omega
  rw [List.length_map, show (nums 2401).length = 2401 by simp [nums]] at this
  exact this

/-! ### the first deadlock -/
def deadS (halls : List Int) (ways : List (List Int)) (s : St4) : Bool := !doneP ways (at4 s) ways.length && decide ((movesP halls ways (at4 s) ways.length).length = 0)
/-- o is the first state that is a deadlock, if there is one. -/
def DeadR (halls : List Int) (ways : List (List Int)) (S : List St4) (o : Option Nat) : Prop :=
  (o = none ∧ ∀ j, j < S.length → deadS halls ways (S.getD j zSt) = false) ∨ ∃ k, o = some k ∧ k < S.length ∧ deadS halls ways (S.getD k zSt) = true ∧ ∀ j, j < k → deadS halls ways (S.getD j zSt) = false
theorem deadR_uniq {halls : List Int} {ways : List (List Int)} {S : List St4} {o o' : Option Nat} (h : DeadR halls ways S o) (h' : DeadR halls ways S o') : o = o' := by
  rcases h with ⟨rfl, h⟩ | ⟨k, rfl, hk, h1, h2⟩ <;> rcases h' with ⟨rfl, h'⟩ | ⟨k', rfl, hk', h1', h2'⟩
  · rfl
  · rw [h k' hk'] at h1'; cases h1'
  · rw [h' k hk] at h1; cases h1
  · rcases Nat.lt_trichotomy k k' with e | e | e
    · rw [h2' k e] at h1; cases h1
    · rw [e]
    · rw [h2 k' e] at h1'; cases h1'
/-- All states that are reached. -/
def reachT (halls : List Int) (ways : List (List Int)) : BfsT := bfsAt halls ways 2401
theorem reach_inv (halls : List Int) (ways : List (List Int)) : BI4 halls ways (reachT halls ways) := bfsAt_inv _ _ _
theorem reach_end {halls : List Int} {ways : List (List Int)} {i : Nat} (hi : i ≤ 2401) (h : (bfsAt halls ways i).1.length ≤ i) : bfsAt halls ways i = reachT halls ways := by
  unfold reachT
  rw [show 2401 = i + (2401 - i) by omega]
  exact (bfsAt_stop h _).symm

end Go.Proofs.YthlpbeohlhhblaaGreat
namespace Go.Proofs.YthlpbeohlhhblaaGreat
open Go.RowKit

def stV (s : St4) : Value := .agg #[.int .i64 s.1, .int .i64 s.2.1, .int .i64 s.2.2.1, .int .i64 s.2.2.2]
theorem stV_inj {s t : St4} (h : stV s = stV t) : s = t := by
  obtain ⟨a, b, c, d⟩ := s
  obtain ⟨a', b', c', d'⟩ := t
  unfold stV at h
  simp at h
  obtain ⟨rfl, rfl, rfl, rfl⟩ := h
  rfl

theorem st_law : WideMaps.KeyLaw Tryz.prog 121 := deep_law (m := 2) (by decide) (by kernel_rfl) (by kernel_rfl) (by kernel_rfl)

def OkSt (s : St4) : Prop := ∀ c, -1 ≤ at4 s c ∧ at4 s c ≤ 1000

theorem keyOf_def {P : Program} {k : TypeId} (hw : (match P.underlying k with | some (.array _ _) | some (.struct _) => true | _ => false) = true) (v : Value) :
    keyOf P k v = if P.keyType k && v.formed P k then (P.keyLits (P.types.size + 1) k v.cells.toList).map fun ls => .string (keyBytes ls) else none := by
  unfold keyOf
  split
  · rfl
  · rfl
  · split at hw <;> simp_all

theorem keyLits_int1 {P : Program} {e : TypeId} (he : P.underlying e = some (.int .i64)) (d : Nat) (x : Int) (hx : (Lit.int .i64 x).wf = true) : P.keyLits (d + 1) e [.int .i64 x] = some [.int .i64 x] := by
  unfold Program.keyLits
  rw [he]
  simp [hx]

theorem wf_i64 {x : Int} (h0 : -1 ≤ x) (h1 : x ≤ 1000) : (Lit.int .i64 x).wf = true := by
  simp only [Lit.wf, Bool.and_eq_true, decide_eq_true_eq]
  have e1 : IntKind.i64.min = -9223372036854775808 := by decide
  have e2 : IntKind.i64.max = 9223372036854775807 := by decide
  omega

theorem st_key (s : St4) (h : OkSt s) : ∃ l, keyOf Tryz.prog 121 (stV s) = some l := by
  obtain ⟨a, b, c, d⟩ := s
  have h0 := h 0
  have h1 := h 1
  have h2 := h 2
  have h3 := h 3
  simp only [at4] at h0 h1 h2 h3
  have wa := wf_i64 h0.1 h0.2
  have wb := wf_i64 h1.1 h1.2
  have wc := wf_i64 h2.1 h2.2
  have wd := wf_i64 h3.1 h3.2
  have hu : Tryz.prog.underlying 121 = some (.array 4 2) := Tryz.underlying121
  have he : Tryz.prog.underlying 2 = some (.int .i64) := Tryz.underlying2
  have hc : Tryz.prog.cellsOf 121 = 4 := by kernel_rfl
  have hc1 : Tryz.prog.cellsOf 2 = 1 := by kernel_rfl
  have hk : Tryz.prog.keyType 121 = true := by kernel_rfl
  rw [keyOf_def (by rw [hu])]
  have hf : (stV (a, b, c, d)).formed Tryz.prog 121 = true := by
    unfold stV Value.formed
    rw [hu]
    simp [hc]
  rw [hk, hf]
  obtain ⟨n, hn⟩ : ∃ n, Tryz.prog.types.size = n + 1 := ⟨Tryz.prog.types.size - 1, by
    have : (Tryz.prog.types.size == 0) = false := by kernel_rfl
    have : Tryz.prog.types.size ≠ 0 := fun e => by rw [e] at this; cases this
    omega⟩
  rw [hn]
  unfold Program.keyLits
  rw [hu]
  have hcells : (stV (a, b, c, d)).cells.toList = [.int .i64 a, .int .i64 b, .int .i64 c, .int .i64 d] := rfl
  rw [hcells]
  simp [hc, hc1, List.range_succ, keyLits_int1 he, wa, wb, wc, wd]

/-- In block r of w lies a map from just the states of S to true. -/
def MapS (w : World) (r : Nat) (S : List St4) : Prop := ∃ es clock, w.heap[r]? = some (.map es clock) ∧ es.toList.map (fun e => (e.key, e.val)) = S.map (fun s => (stV s, Value.bool true))

theorem MapS.lt {w : World} {r : Nat} {S : List St4} (h : MapS w r S) : r < w.heap.size := by
  obtain ⟨es, c, h, _⟩ := h
  exact (Array.getElem?_eq_some_iff.1 h).1
theorem MapS.below {w w' : World} {r : Nat} {S : List St4} (h : MapS w r S) (hb : Below w.heap.size w w') : MapS w' r S := by
  have hl := h.lt
  obtain ⟨es, c, h, h2⟩ := h
  exact ⟨es, c, by rw [hb.block r hl]; exact h, h2⟩
theorem MapS.grown {w w' : World} {r : Nat} {S : List St4} {row : Option Nat} (h : MapS w r S) (hg : w.grownBy w' row) (hne : some r ≠ row) : MapS w' r S := by
  have hl := h.lt
  obtain ⟨es, c, h, h2⟩ := h
  exact ⟨es, c, by rw [hg.block r hl hne]; exact h, h2⟩
theorem MapS.made (w : World) : MapS (w.alloc (.map #[] 0)) w.heap.size [] := ⟨#[], 0, (MapKept.heap_alloc w _).1, rfl⟩

theorem MapS.keys {es : Array MapEntry} {S : List St4} (h : es.toList.map (fun e => (e.key, e.val)) = S.map (fun s => (stV s, Value.bool true))) (hS : ∀ s ∈ S, OkSt s) : ∀ e ∈ es.toList, (∃ l, keyOf Tryz.prog 121 e.key = some l) ∧ ∃ s ∈ S, e.key = stV s ∧ e.val = .bool true := by
  intro e he
  have : (e.key, e.val) ∈ S.map (fun s => (stV s, Value.bool true)) := by rw [← h]; exact List.mem_map.2 ⟨e, he, rfl⟩
  obtain ⟨s, hs, hse⟩ := List.mem_map.1 this
  simp only [Prod.mk.injEq] at hse
  refine ⟨?_, s, hs, hse.1.symm, hse.2.symm⟩
  rw [← hse.1]
  exact st_key s (hS s hs)
theorem MapS.has {es : Array MapEntry} {S : List St4} (h : es.toList.map (fun e => (e.key, e.val)) = S.map (fun s => (stV s, Value.bool true))) {s : St4} (hs : s ∈ S) : ∃ e ∈ es.toList, e.key = stV s := by
  have : (stV s, Value.bool true) ∈ es.toList.map (fun e => (e.key, e.val)) := by rw [h]; exact List.mem_map.2 ⟨s, hs, rfl⟩
  obtain ⟨e, he, hee⟩ := List.mem_map.1 this
  simp only [Prod.mk.injEq] at hee
  exact ⟨e, he, hee.1⟩

theorem MapS.look {w : World} {r : Nat} {S : List St4} (h : MapS w r S) (hS : ∀ s ∈ S, OkSt s) {s : St4} (hs : OkSt s) :
    (Instr.lookup 145 (.map (some r)) (stV s) false).run Tryz.prog w = .ok (.bool (decide (s ∈ S))) w := by
  obtain ⟨es, c, hb, he⟩ := h
  obtain ⟨l, hl⟩ := st_key s hs
  have ht : Tryz.prog.underlying 145 = some (.map 121 4) := Tryz.underlying145
  have hz : (zeroValue 4).run Tryz.prog w = .ok (.bool false) w := by
    obtain ⟨i, hi, hz, _⟩ := info_parts (show (Tryz.prog.info? 4).map (fun i => (i.zero, i.size, i.bytes)) = some (some (.bool false), 1, 1) from by kernel_rfl)
    have h1 := run_typeInfo (w := w) hi
    simp only [zeroValue, Sem.run_bind, h1, Result.andThen_ok, hz, Sem.run_pure]
  have K := MapS.keys he hS
  rcases st_law.find w hl es.toList (fun e h => (K e h).1) with ⟨h1, h2⟩ | ⟨j, e0, h1, h2, h3⟩
  · have hn : s ∉ S := fun hm => by
      obtain ⟨e, he1, he2⟩ := MapS.has he hm
      exact h2 e he1 he2
    simp [Instr.lookup, run_underlying ht, MapKept.run_getObj_map hb, st_law.check w _ hl, h1, hz, Result.andThen, hn]
  · have hm0 : e0 ∈ es.toList := List.mem_of_getElem? h2
    obtain ⟨_, t, hts, hk, hv⟩ := K e0 hm0
    have : t = s := stV_inj (hk.symm.trans h3)
    subst this
    simp [Instr.lookup, run_underlying ht, MapKept.run_getObj_map hb, st_law.check w _ hl, h1, Result.andThen, hts, hv]

theorem MapS.put {w : World} {r : Nat} {S : List St4} (h : MapS w r S) (hS : ∀ s ∈ S, OkSt s) {s : St4} (hs : OkSt s) (hn : s ∉ S) :
    ∃ w', (Instr.mapUpdate 145 (.map (some r)) (stV s) (.bool true)).run Tryz.prog w = .ok () w' ∧ MapS w' r (S ++ [s]) ∧ w.grownBy w' (some r) := by
  have hlt := h.lt
  obtain ⟨es, c, hb, he⟩ := h
  obtain ⟨l, hl⟩ := st_key s hs
  have ht : Tryz.prog.underlying 145 = some (.map 121 4) := Tryz.underlying145
  have K := MapS.keys he hS
  rcases st_law.find w hl es.toList (fun e h => (K e h).1) with ⟨h1, h2⟩ | ⟨j, e0, h1, h2, h3⟩
  · refine ⟨{ w with heap := w.heap.setIfInBounds r (.map (es.push ⟨stV s, .bool true, c⟩) (c + 1)) }, ?_, ⟨es.push ⟨stV s, .bool true, c⟩, c + 1, ?_, ?_⟩, ⟨rfl, rfl, rfl, ?_, ?_⟩⟩
    · simp [Instr.mapUpdate, run_underlying ht, MapKept.run_getObj_map hb, st_law.check w _ hl, h1, MapKept.run_setObj_map _ hb, Result.andThen]
    · exact (MapKept.heap_set hb).1
    · simp [he]
    · simp
    · intro k hk hne
      exact (MapKept.heap_set hb).2 k (fun e => hne (by rw [e]))
  · have hm0 : e0 ∈ es.toList := List.mem_of_getElem? h2
    obtain ⟨_, t, hts, hk, hv⟩ := K e0 hm0
    have : t = s := stV_inj (hk.symm.trans h3)
    subst this
    exact absurd hts hn

end Go.Proofs.YthlpbeohlhhblaaGreat
