/-
  The least and greatest leaks of the program: the walk of leakBounds.
-/
import Derived.Test.YtpgnndpjlcihiaaDoorAgree
namespace Go.Proofs.YtpgnndpjlcihiaaDoor
open Go.RowKit

theorem leakBounds_any (n : Int) (v : Value) (xs : List (Int × Int × Int)) (w : World) (hv : SI P3 w v xs) :
    Calls Tryd.prog 36 #[.int .i64 n, v] w fun e w' => ∃ v1 v2, e = .returned (.tuple #[v1, v2, .int .i64 (codeL n xs)]) ∧ Below w.heap.size w w' ∧
      OI 2 w' w.heap.size v1 (if codeL n xs = 0 then mapL (valLow n.toNat xs) n.toNat else []) ∧ OI 2 w' w.heap.size v2 (if codeL n xs = 0 then mapL (valHigh n.toNat xs) n.toNat else []) := by
  have HV := Lib.hid hv
  have C1 := implValidLosses_any n v xs w hv
  have hmf : ∀ (fn : Fn) (first cap : Array Value) (w : World), (Instr.makeFunc fn first cap).run Tryd.prog w = .ok (.func fn first cap) w := fun _ _ _ _ => rfl
  clear hv
  cases h1 : okLosses n xs with
  | false =>
    rw [h1] at C1
    have D1 := Lib.hid C1
    rw [codeL_bad h1, if_neg (by decide), if_neg (by decide)]
    clear C1 h1
    go_enter Tryd.func36, Tryd.ntmps36
    go_wp2_with (go_at_call 27; refine D1.out.mono ?_; rintro e w1 ⟨rfl, hb1⟩)
    go_ret3
    exact ⟨_, _, rfl, hb1, OI.nil _ _ _, OI.nil _ _ _⟩
  | true =>
    rw [h1] at C1
    have D1 := Lib.hid C1
    have hn := okLosses_n h1
    obtain ⟨s, rfl⟩ : ∃ s : Nat, n = s := ⟨n.toNat, by omega⟩
    have HX := Lib.hid (show fitT s xs from fitT_of h1)
    have C2 := fun W h3 => sumOpen_any s v xs W (by omega) (by omega) h3 HX.out
    cases h2 : okA s openT xs with
    | false =>
      rw [codeL_clash h1 (show okA (s : Int).toNat openT xs = false from h2), if_neg (by decide), if_neg (by decide)]
      rw [h2] at C2
      have D2 := Lib.hid C2
      clear C1 C2 h1 h2
      go_enter Tryd.func36, Tryd.ntmps36
      go_wp2_with (first
        | (go_at_call 37; refine (D2.out _ (HV.out.below hb1)).mono ?_; rintro e w2 ⟨v2, rfl, hb2, _⟩)
        | (go_at_call 27; refine D1.out.mono ?_; rintro e w1 ⟨rfl, hb1⟩))
      go_ret3
      exact ⟨_, _, rfl, bthen hb1 hb2, OI.nil _ _ _, OI.nil _ _ _⟩
    | true =>
      rw [codeL_ok h1 (show okA (s : Int).toNat openT xs = true from h2), if_pos rfl, if_pos rfl]
      rw [show (s : Int).toNat = s from rfl]
      have HOK := Lib.hid h2
      have hs9 : s ≤ 9 := by omega
      rw [h2] at C2
      have D2 := Lib.hid C2
      clear C1 C2 h1 h2
      obtain ⟨i0, hi, iz0, iz1, iz2⟩ := info_parts info64
      have HI := Lib.hid hi
      clear hi
      go_enter Tryd.func36, Tryd.ntmps36
      go_wp2_with (first
        | (go_at_call 37; refine (D2.out _ (HV.out.below hb1)).mono ?_; rintro e w2 ⟨v2, rfl, hb2, ht2⟩; obtain ⟨G, capG, g, c, rfl, ht3⟩ := ht2 trivial; have HT2 := Lib.hid ht3; clear ht2 ht3)
        | (go_at_call 27; refine D1.out.mono ?_; rintro e w1 ⟨rfl, hb1⟩))
      have HB2 := Lib.hid (bthen hb1 hb2)
      have HS1 := Lib.hid (show OI 2 ((w2.alloc (.cells #[] 2)).alloc (.cells #[] 2)) w2.heap.size (.slice (some ⟨w2.heap.size, 0, none⟩) 0 0) [] from (OI.lit0 2 w2 w2.heap.size (Nat.le_refl _)).below ((Below.refl _ _).alloc (Nat.le_refl _) _))
      have HS2 := Lib.hid (show OI 2 ((w2.alloc (.cells #[] 2)).alloc (.cells #[] 2)) w2.heap.size (.slice (some ⟨w2.heap.size + 1, 0, none⟩) 0 0) [] from by
        have := OI.lit0 2 (w2.alloc (.cells #[] 2)) w2.heap.size (by simp)
        simpa using this)
      have HS3 := Lib.hid (show Apart (.slice (some ⟨w2.heap.size + 1, 0, none⟩) 0 0) (.slice (some ⟨w2.heap.size, 0, none⟩) 0 0) from fun k h1 h2 => by
        simp [Value.ownBlock] at h1 h2; omega)
      have HB3 := Lib.hid (show Below w2.heap.size w2 ((w2.alloc (.cells #[] 2)).alloc (.cells #[] 2)) from ((Below.refl _ _).alloc (Nat.le_refl _) _).alloc (by simp) _)
      clear hb1 hb2
      go_loopw [9, 10, 28] (fun o t i wr => ∃ (k : Nat) (vo vt : Value), k ≤ s ∧ i = .int .i64 k ∧ vo = o ∧ vt = t ∧ OI 2 wr w2.heap.size vo (mapL (valLow s xs) k) ∧ OI 2 wr w2.heap.size vt (mapL (valHigh s xs) k) ∧ Hid (Apart vt vo) ∧ Below w2.heap.size w2 wr) (fun _ _ i _ => s - (intOf i).toNat)
      case atStart => exact ⟨0, _, _, Nat.zero_le _, rfl, rfl, rfl, HS1.out, HS2.out, HS3, HB3.out⟩
      case round =>
        obtain ⟨k, vo, vt, hk, rfl, rfl, rfl, ho, ht, HAP, hb⟩ := hrel
        rename World => wo
        have HO := Lib.hid ho
        have HT := Lib.hid ht
        clear ho ht
        by_cases hlt : k < s
        · have hd : decide ((k : Int) < (s : Int)) = true := decide_eq_true (by omega)
          obtain ⟨q, hq⟩ : ∃ q, q = k + 1 := ⟨_, rfl⟩
          have HQ := Lib.hid hq
          have hwq : IntKind.i64.wrap ((k : Int) + 1) = (q : Int) := by rw [IntWalk.i64_in _ (by omega)]; omega
          have hq1 : q < s + 1 := by omega
          have hq2 : (q : Int) < (s : Int) + 1 := by omega
          have hk2 : (k : Int) < (s : Int) + 1 := by omega
          have htb := HT2.out.below hb
          obtain ⟨c1, c2, _⟩ := htb.cell k q (by omega) hq1
          obtain ⟨d1, d2, _⟩ := htb.cell q k hq1 (by omega)
          obtain ⟨l1, l2, l3⟩ := low_eq hs9 HX.out HOK.out hlt
          obtain ⟨_, u2, u3⟩ := high_eq hs9 HX.out HOK.out hlt
          have HM1 := mapL_succ (valLow s xs) k
          have HM2 := mapL_succ (valHigh s xs) k
          rw [← l1] at l2 l3
          unfold valHigh at u2 u3
          rw [show valLow s xs k = -(DA s xs q k) by rw [hq]; rfl] at HM1
          rw [show valHigh s xs k = if INF ≤ DA s xs k q then -1 else DA s xs k q by rw [hq]; rfl] at HM2
          rw [← hq] at l1 l2 l3 u2 u3
          clear l1 hq htb
          generalize DA s xs q k = x at d2 l2 l3 HM1
          generalize DA s xs k q = y at c2 u2 u3 HM2
          have hI : INF = 1099511627776 := rfl
          rw [hI] at u2 u3 HM2
          clear hI
          have hneg : IntKind.i64.wrap (-x) = -x := IntWalk.i64_in _ (by omega)
          have HGX := Lib.hid (show Good (-x) by unfold Good; omega)
          have HL1 := Lib.hid (mapL_len (valLow s xs) k)
          have HL2 := Lib.hid (mapL_len (valHigh s xs) k)
          by_cases hy : 1099511627776 ≤ y
          · have hyd : decide ((1099511627776 : Int) ≤ y) = true := decide_eq_true hy
            rw [if_pos hy] at HM2
            have HN1 := Lib.hid HM1
            have HN2 := Lib.hid HM2
            clear HM1 HM2 u2 u3
            go_wp2_with (first
              | (at_builtin; refine wpList_app1n rfl _ _ 33 rfl 2 _ i0 Tryd.underlying33 HI.out iz0 iz1 iz2 w2.heap.size _ _ rfl HT9.out _ _ (by simp) rfl (by unfold Good; omega) (by rw [HL2.out]; omega) hb9.size ?_; intro v8 w8 h1 h2 h3; have HT8 := Lib.hid h1; have HO8 := Lib.hid (HO9.out.other h2 HA9.out); have HA8 := Lib.hid (HA9.out.app HO9.out h3); have hb8 := HT9.out.step hb9 h2; clear h1 h2 h3)
              | (at_builtin; refine wpList_app1n rfl _ _ 33 rfl 2 _ i0 Tryd.underlying33 HI.out iz0 iz1 iz2 w2.heap.size _ _ rfl HO.out _ _ (by simp) rfl HGX.out (by rw [HL1.out]; omega) hb.size ?_; intro v9 w9 h1 h2 h3; have HO9 := Lib.hid h1; have HT9 := Lib.hid (HT.out.other h2 HAP.out.symm); have HA9 := Lib.hid (HAP.out.symm.app HT.out h3).symm; have hb9 := HO.out.step hb h2; clear h1 h2 h3 c1 c2 d1 d2))
            go_roundw
            case rel => exact ⟨k + 1, _, _, by omega, by rw [HQ.out], rfl, rfl, by rw [HN1.out]; exact HO8.out, by rw [HN2.out]; exact HT8.out, HA8, hb8⟩
            case measure =>
              have := HQ.out
              simp [intOf]; omega
          · have hyd : decide ((1099511627776 : Int) ≤ y) = false := decide_eq_false hy
            rw [if_neg hy] at HM2 u2 u3
            have HN1 := Lib.hid HM1
            have HN2 := Lib.hid HM2
            have HGY := Lib.hid (show Good y by unfold Good; omega)
            clear HM1 HM2 u2 u3
            go_wp2_with (first
              | (at_builtin; refine wpList_app1n rfl _ _ 33 rfl 2 _ i0 Tryd.underlying33 HI.out iz0 iz1 iz2 w2.heap.size _ _ rfl HT9.out _ _ (by simp) rfl HGY.out (by rw [HL2.out]; omega) hb9.size ?_; intro v8 w8 h1 h2 h3; have HT8 := Lib.hid h1; have HO8 := Lib.hid (HO9.out.other h2 HA9.out); have HA8 := Lib.hid (HA9.out.app HO9.out h3); have hb8 := HT9.out.step hb9 h2; clear h1 h2 h3)
              | (at_builtin; refine wpList_app1n rfl _ _ 33 rfl 2 _ i0 Tryd.underlying33 HI.out iz0 iz1 iz2 w2.heap.size _ _ rfl HO.out _ _ (by simp) rfl HGX.out (by rw [HL1.out]; omega) hb.size ?_; intro v9 w9 h1 h2 h3; have HO9 := Lib.hid h1; have HT9 := Lib.hid (HT.out.other h2 HAP.out.symm); have HA9 := Lib.hid (HAP.out.symm.app HT.out h3).symm; have hb9 := HO.out.step hb h2; clear h1 h2 h3 c1 c2 d1 d2))
            go_roundw
            case rel => exact ⟨k + 1, _, _, by omega, by rw [HQ.out], rfl, rfl, by rw [HN1.out]; exact HO8.out, by rw [HN2.out]; exact HT8.out, HA8, hb8⟩
            case measure =>
              have := HQ.out
              simp [intOf]; omega
        · have HK := Lib.hid (show k = s by omega)
          have hd : decide ((k : Int) < (s : Int)) = false := decide_eq_false (by omega)
          go_wp2
          go_ret3
          refine ⟨_, _, rfl, bthen HB2.out hb, ?_, ?_⟩
          · have h := HO.out
            rw [HK.out] at h
            exact h.mono HB2.out.size
          · have h := HT.out
            rw [HK.out] at h
            exact h.mono HB2.out.size

end Go.Proofs.YtpgnndpjlcihiaaDoor
