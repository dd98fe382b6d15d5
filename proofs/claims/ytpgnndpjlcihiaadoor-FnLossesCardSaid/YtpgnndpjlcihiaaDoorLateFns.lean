/-
  LateLeaks of both sides: what each returns.
-/
import Derived.Test.YtpgnndpjlcihiaaDoorBounds
import Derived.Deep.RegionLaw
namespace Go.Proofs.YtpgnndpjlcihiaaDoor
open Go.RowKit

set_option maxRecDepth 100000 in
theorem specLateLeaks_any (n : Int) (v : Value) (xs : List (Int × Int × Int)) (w : World) (hv : SI P3 w v xs) :
    Calls Tryd.prog 11 #[.int .i64 n, v] w fun e w' => ∃ v', e = .returned (.tuple #[v', .int .i64 (valLateL n xs).2]) ∧ OI 2 w' w.heap.size v' (valLateL n xs).1 ∧ Below w.heap.size w w' := by
  have HV := Lib.hid hv
  have C1 := l15Code_any n v xs w hv
  have hmf : ∀ (fn : Fn) (first cap : Array Value) (w : World), (Instr.makeFunc fn first cap).run Tryd.prog w = .ok (.func fn first cap) w := fun _ _ _ _ => rfl
  clear hv
  by_cases h0 : codeL n xs = 0
  · rw [show valLateL n xs = (mapL (valLate n.toNat xs) n.toNat, 0) by simp [valLateL, h0]]
    obtain ⟨hok, hA⟩ := codeL_zero h0
    rw [h0] at C1
    have D1 := Lib.hid C1
    have hn := okLosses_n hok
    obtain ⟨s, rfl⟩ : ∃ s : Nat, n = s := ⟨n.toNat, by omega⟩
    have hx : fitT s xs := fitT_of hok
    have HX := Lib.hid hx
    have HA := Lib.hid (show okA s openT xs = true from hA)
    have hs9 : s ≤ 9 := by omega
    simp only [show (s : Int).toNat = s from rfl]
    clear C1 h0 hok hA hx
    obtain ⟨i0, hi, iz0, iz1, iz2⟩ := info_parts info64
    have HI := Lib.hid hi
    clear hi
    go_enter Tryd.func11, Tryd.ntmps11
    go_wp2_with (go_at_call 39; refine D1.out.mono ?_; rintro e w1 ⟨v1, rfl, hb1, ht1⟩; obtain ⟨G, capG, g, c, rfl, ht2⟩ := ht1 (by trivial); have HT := Lib.hid ht2; clear ht1 ht2)
    have HBB := Lib.hid hb1
    clear hb1
    go_loopw [8, 9] (fun o i wr => ∃ (k : Nat) (vo : Value), k ≤ s ∧ vo = o ∧ i = .int .i64 k ∧ OI 2 wr w1.heap.size vo (mapL (valLate s xs) k) ∧ Below w1.heap.size w1 wr) (fun _ i _ => s - (intOf i).toNat)
    case atStart => exact ⟨0, _, Nat.zero_le _, rfl, rfl, OI.lit0 _ _ _ (Nat.le_refl _), (Below.refl _ _).alloc (Nat.le_refl _) _⟩
    case round =>
      obtain ⟨k, vo, hk, rfl, rfl, ho, hb⟩ := hrel
      rename World => wo
      have HO := Lib.hid ho
      clear ho
      by_cases hlt : k < s
      · have hd : decide ((k : Int) < (s : Int)) = true := decide_eq_true (by omega)
        obtain ⟨q, hq⟩ : ∃ q, q = k + 1 := ⟨_, rfl⟩
        have HQ := Lib.hid hq
        have hwq : IntKind.i64.wrap ((k : Int) + 1) = (q : Int) := by rw [IntWalk.i64_in _ (by omega)]; omega
        have hq1 : q < s + 1 := by omega
        have hq2 : (q : Int) < (s : Int) + 1 := by omega
        have hk1 : k < s + 1 := by omega
        have hk2 : (k : Int) < (s : Int) + 1 := by omega
        have h0s : (0 : Int) < (s : Int) + 1 := by omega
        have htb : TBat 2 wo w.heap.size G g c (s + 1) (DB s xs) := HT.out.below hb
        obtain ⟨c1, c2, _⟩ := htb.cell k 0 hk1 (by omega)
        obtain ⟨d1, d2, _⟩ := htb.cell q 0 hq1 (by omega)
        have HLEN := Lib.hid (mapL_len (valLate s xs) k)
        obtain ⟨z1, z2, z3⟩ := zero_eq hs9 HX.out HA.out (k := k) hk1
        obtain ⟨y1, y2, y3⟩ := zero_eq hs9 HX.out HA.out (k := q) hq1
        have HM := mapL_succ (valLate s xs) k
        rw [show valLate s xs k = DB s xs k 0 - DB s xs q 0 by rw [hq] at y1 ⊢; rw [← z1, ← y1]; rfl] at HM
        have HN := Lib.hid HM
        clear HM hq htb z1 y1
        generalize DB s xs k 0 = x at c2 z2 z3 HN
        generalize DB s xs q 0 = y at d2 y2 y3 HN
        have hws : IntKind.i64.wrap (x - y) = x - y := IntWalk.i64_in _ (by omega)
        have HGX := Lib.hid (show Good (x - y) by unfold Good; omega)
        have hbs := hb.size
        clear z2 z3 y2 y3
        go_wp2_with fail
        go_region_law ((have hown0 := HO.out.below (below_new wo (.cells #[.int .i64 (x - y)] 2)); refine step_app1 (by rfl) _ _ 33 (by rfl) 2 i0 Tryd.underlying33 HI.out iz0 iz1 iz2 w1.heap.size _ (mapL (valLate s xs) k) (by rfl) hown0 ⟨wo.heap.size, 0, none⟩ (x - y) (by rfl) (cell_new _ _ _) HGX.out (by rw [HLEN.out]; omega) (by simp; omega) ?_; intro v9 w9 hown1 hgrow))
        all_goals
          have hb9 := hown0.step (bthen hb (below_new _ _)) hgrow
          have HO9 := Lib.hid hown1
          clear hown0 hown1 hgrow c1 c2 d1 d2
          go_wp2
          go_roundw
          case rel => exact ⟨k + 1, _, by omega, rfl, by rw [HQ.out], by rw [HN.out]; exact HO9.out, hb9⟩
          case measure =>
            have := HQ.out
            simp [intOf]; omega
      · have HK := Lib.hid (show k = s by omega)
        have hd : decide ((k : Int) < (s : Int)) = false := decide_eq_false (by omega)
        go_wp2
        go_ret2
        have h := HO.out
        rw [HK.out] at h
        exact ⟨_, rfl, h.mono HBB.out.size, bthen HBB.out hb⟩
  · rw [show valLateL n xs = ([], codeL n xs) by simp [valLateL, h0]]
    generalize codeL n xs = cd at h0 C1 ⊢
    have hcd : (cd != 0) = true := by simp [h0]
    have D1 := Lib.hid C1
    clear C1 h0
    go_enter Tryd.func11, Tryd.ntmps11
    go_wp2_with (go_at_call 39; refine D1.out.mono ?_; rintro e w1 ⟨v1, rfl, hb1, _⟩)
    go_ret2
    exact ⟨_, rfl, OI.nil _ _ _, hb1⟩

set_option maxRecDepth 100000 in
theorem implLateLeaks_any (n : Int) (v : Value) (xs : List (Int × Int × Int)) (w : World) (hv : SI P3 w v xs) :
    Calls Tryd.prog 10 #[.int .i64 n, v] w fun e w' => ∃ v', e = .returned (.tuple #[v', .int .i64 (valLateL n xs).2]) ∧ OI 2 w' w.heap.size v' (valLateL n xs).1 ∧ Below w.heap.size w w' := by
  have HV := Lib.hid hv
  have C1 := leakBounds_any n v xs w hv
  have hmf : ∀ (fn : Fn) (first cap : Array Value) (w : World), (Instr.makeFunc fn first cap).run Tryd.prog w = .ok (.func fn first cap) w := fun _ _ _ _ => rfl
  clear hv
  by_cases h0 : codeL n xs = 0
  · rw [show valLateL n xs = (mapL (valLate n.toNat xs) n.toNat, 0) by simp [valLateL, h0]]
    obtain ⟨hok, hA⟩ := codeL_zero h0
    rw [h0] at C1
    have D1 := Lib.hid C1
    have hn := okLosses_n hok
    obtain ⟨s, rfl⟩ : ∃ s : Nat, n = s := ⟨n.toNat, by omega⟩
    have hx : fitT s xs := fitT_of hok
    have HX := Lib.hid hx
    have HA := Lib.hid (show okA s openT xs = true from hA)
    have hs9 : s ≤ 9 := by omega
    simp only [show (s : Int).toNat = s from rfl]
    have C2 := fun W h3 => sumOpen_any s v xs W (by omega) (by omega) h3 hx
    rw [show okA s openT xs = true from hA] at C2
    have D2 := Lib.hid C2
    clear C2
    clear C1 h0 hok hA hx
    obtain ⟨i0, hi, iz0, iz1, iz2⟩ := info_parts info64
    have HI := Lib.hid hi
    clear hi
    go_enter Tryd.func10, Tryd.ntmps10
    go_wp2_with (first
      | (go_at_call 37; refine (D2.out _ (HV.out.below hb1)).mono ?_; rintro e w2 ⟨v2, rfl, hb2, ht1⟩; obtain ⟨G, capG, g, c, rfl, ht2⟩ := ht1 (by trivial); have HT := Lib.hid ht2; clear ht1 ht2)
      | (go_at_call 36; refine D1.out.mono ?_; rintro e w1 ⟨u1, u2, rfl, hb1, _, _⟩))
    have HBB := Lib.hid (bthen hb1 hb2)
    clear hb1 hb2
    go_loopw [11, 31] (fun o i wr => ∃ (k : Nat) (vo : Value), k ≤ s ∧ vo = o ∧ i = .int .i64 k ∧ OI 2 wr w2.heap.size vo (mapL (valLate s xs) k) ∧ Below w2.heap.size w2 wr) (fun _ i _ => s - (intOf i).toNat)
    case atStart => exact ⟨0, _, Nat.zero_le _, rfl, rfl, OI.lit0 _ _ _ (Nat.le_refl _), (Below.refl _ _).alloc (Nat.le_refl _) _⟩
    case round =>
      obtain ⟨k, vo, hk, rfl, rfl, ho, hb⟩ := hrel
      rename World => wo
      have HO := Lib.hid ho
      clear ho
      by_cases hlt : k < s
      · have hd : decide ((k : Int) < (s : Int)) = true := decide_eq_true (by omega)
        obtain ⟨q, hq⟩ : ∃ q, q = k + 1 := ⟨_, rfl⟩
        have HQ := Lib.hid hq
        have hwq : IntKind.i64.wrap ((k : Int) + 1) = (q : Int) := by rw [IntWalk.i64_in _ (by omega)]; omega
        have hq1 : q < s + 1 := by omega
        have hq2 : (q : Int) < (s : Int) + 1 := by omega
        have hk1 : k < s + 1 := by omega
        have hk2 : (k : Int) < (s : Int) + 1 := by omega
        have h0s : (0 : Int) < (s : Int) + 1 := by omega
        have htb : TBat 2 wo w1.heap.size G g c (s + 1) (DA s xs) := HT.out.below hb
        obtain ⟨c1, c2, _⟩ := htb.cell k 0 hk1 (by omega)
        obtain ⟨d1, d2, _⟩ := htb.cell q 0 hq1 (by omega)
        have HLEN := Lib.hid (mapL_len (valLate s xs) k)
        obtain ⟨z1, z2, z3⟩ := zero_eq hs9 HX.out HA.out (k := k) hk1
        obtain ⟨y1, y2, y3⟩ := zero_eq hs9 HX.out HA.out (k := q) hq1
        have HM := mapL_succ (valLate s xs) k
        rw [show valLate s xs k = DA s xs k 0 - DA s xs q 0 by rw [hq] at y1 ⊢; rfl] at HM
        have HN := Lib.hid HM
        rw [← z1] at z2 z3
        rw [← y1] at y2 y3
        clear HM hq htb z1 y1
        generalize DA s xs k 0 = x at c2 z2 z3 HN
        generalize DA s xs q 0 = y at d2 y2 y3 HN
        have hws : IntKind.i64.wrap (x - y) = x - y := IntWalk.i64_in _ (by omega)
        have HGX := Lib.hid (show Good (x - y) by unfold Good; omega)
        have hbs := hb.size
        clear z2 z3 y2 y3
        go_wp2_with fail
        go_region_law ((have hown0 := HO.out.below (below_new wo (.cells #[.int .i64 (x - y)] 2)); refine step_app1 (by rfl) _ _ 33 (by rfl) 2 i0 Tryd.underlying33 HI.out iz0 iz1 iz2 w2.heap.size _ (mapL (valLate s xs) k) (by rfl) hown0 ⟨wo.heap.size, 0, none⟩ (x - y) (by rfl) (cell_new _ _ _) HGX.out (by rw [HLEN.out]; omega) (by simp; omega) ?_; intro v9 w9 hown1 hgrow))
        all_goals
          have hb9 := hown0.step (bthen hb (below_new _ _)) hgrow
          have HO9 := Lib.hid hown1
          clear hown0 hown1 hgrow c1 c2 d1 d2
          go_wp2
          go_roundw
          case rel => exact ⟨k + 1, _, by omega, rfl, by rw [HQ.out], by rw [HN.out]; exact HO9.out, hb9⟩
          case measure =>
            have := HQ.out
            simp [intOf]; omega
      · have HK := Lib.hid (show k = s by omega)
        have hd : decide ((k : Int) < (s : Int)) = false := decide_eq_false (by omega)
        go_wp2
        go_ret2
        have h := HO.out
        rw [HK.out] at h
        exact ⟨_, rfl, h.mono HBB.out.size, bthen HBB.out hb⟩
  · rw [show valLateL n xs = ([], codeL n xs) by simp [valLateL, h0]]
    rw [if_neg h0, if_neg h0] at C1
    generalize codeL n xs = cd at h0 C1 ⊢
    have hcd : (cd != 0) = true := by simp [h0]
    have D1 := Lib.hid C1
    clear C1 h0
    go_enter Tryd.func10, Tryd.ntmps10
    go_wp2_with (go_at_call 36; refine D1.out.mono ?_; rintro e w1 ⟨v1, v2, rfl, hb1, _, _⟩)
    go_ret2
    exact ⟨_, rfl, OI.nil _ _ _, hb1⟩

end Go.Proofs.YtpgnndpjlcihiaaDoor
