/-
  FirstOdd of both sides: what each returns.
-/
import Derived.Test.YtpgnndpjlcihiaaDoorAgree
import Derived.Deep.RegionLaw
namespace Go.Proofs.YtpgnndpjlcihiaaDoor
open Go.RowKit

/-- xs[:hi] of a list of tests. -/
theorem cutToL {w : World} {a : Option Addr} {n cap : Nat} {xs : List (Int × Int × Int)} (h : SI P3 w (.slice a n cap) xs) (hi : Nat) (h2 : hi ≤ xs.length) :
    ∃ v', SI P3 w v' (xs.take hi) ∧ ∀ W (hi' : Int), hi' = hi → (Instr.slice 30 (.slice a n cap) none (some (.int .i64 hi')) none).run Tryd.prog W = .ok v' W := by
  have hT := h.take hi h2
  obtain ⟨⟨a', cap', e, hc1, hc2, h3⟩, hg⟩ := h
  simp only [Value.slice.injEq] at e
  obtain ⟨rfl, rfl, rfl⟩ := e
  refine ⟨sliced a 0 hi cap 3, ?_, ?_⟩
  · have hs : sliced a 0 hi cap 3 = .slice (if cap = 0 then a else a.map (·.add 0)) hi cap := by simp [sliced]
    rcases h3 with h3 | ⟨b, off, rfl, hb, hc⟩
    · subst h3
      obtain rfl : hi = 0 := by simpa using h2
      rw [hs]
      exact ⟨⟨_, cap, rfl, Nat.zero_le _, hc2, .inl rfl⟩, by simp [Enc.flat]⟩
    · rw [hs]
      have : (if cap = 0 then some (⟨b, off, none⟩ : Addr) else (some (⟨b, off, none⟩ : Addr)).map (·.add 0)) = some ⟨b, off, none⟩ := by
        split
        · rfl
        · simp [Addr.add]
      rw [this]; exact hT
  · intro W hi' e
    subst e
    rw [run_slice_h W 30 a xs.length cap (by kernel_rfl) .i64 (hi : Int) (by omega) (by omega)]
    rw [show Tryd.prog.elem 30 = 25 from by kernel_rfl, Tryd.sizeOf25]
    simp [Result.andThen]

theorem specFirstOdd_any (n : Int) (v : Value) (xs : List (Int × Int × Int)) (w : World) (hv : SI P3 w v xs) :
    Calls Tryd.prog 15 #[.int .i64 n, v] w fun e w' => e = .returned (.tuple #[.int .i64 (valOdd n xs).1, .int .i64 (valOdd n xs).2]) ∧ Below w.heap.size w w' := by
  obtain ⟨a, cap, rfl⟩ := hv.shape
  have hl := hv.len
  have HV := Lib.hid hv
  have C1 := l15Ok_any n _ xs w hv
  clear hv
  cases h1 : okLosses n xs with
  | false =>
    rw [h1] at C1
    have D1 := Lib.hid C1
    have HE := Lib.hid (show valOdd n xs = (0, 1) by simp [valOdd, h1])
    clear C1 h1
    go_enter Tryd.func15, Tryd.ntmps15
    go_wp2_with (go_at_call 41; refine D1.out.mono ?_; rintro e w1 ⟨rfl, hb1⟩)
    go_ret2
    exact ⟨by rw [HE.out]; rfl, hb1⟩
  | true =>
    rw [h1] at C1
    have D1 := Lib.hid C1
    have hn := okLosses_n h1
    obtain ⟨s, rfl⟩ : ∃ s : Nat, n = s := ⟨n.toNat, by omega⟩
    have HX := Lib.hid (show fitT s xs from fitT_of h1)
    have HE := Lib.hid (show valOdd s xs = oddL s xs by simp [valOdd, h1])
    clear C1 h1
    go_enter Tryd.func15, Tryd.ntmps15
    go_wp2_with (go_at_call 41; refine D1.out.mono ?_; rintro e w1 ⟨rfl, hb1⟩)
    go_loopw [6] (fun i wr => ∃ k : Nat, k ≤ xs.length ∧ i = .int .i64 k ∧ Below w.heap.size w wr ∧ Hid (∀ j, j < k → okA s openT (xs.take (j + 1)) = true)) (fun i _ => xs.length - (intOf i).toNat)
    case atStart => exact ⟨0, Nat.zero_le _, rfl, hb1, Lib.hid (fun _ h => absurd h (Nat.not_lt_zero _))⟩
    case round =>
      obtain ⟨k, hk, rfl, hb, HA⟩ := hrel
      rename World => wo
      by_cases hlt : k < xs.length
      · obtain ⟨q, hq⟩ : ∃ q, q = k + 1 := ⟨_, rfl⟩
        have HQ := Lib.hid hq
        have hwq : IntKind.i64.wrap ((k : Int) + 1) = (q : Int) := by rw [IntWalk.i64_in _ (by omega)]; omega
        obtain ⟨v1, hv1, hcut⟩ := cutToL HV.out q (by omega)
        have HV1 := Lib.hid (fun W B => hv1.below (w' := W) B)
        have hcut' := fun W => hcut W (q : Int) rfl
        have C2 := fun u W h3 h4 => tableOpen_any s v1 (xs.take q) u W (by omega) (by omega) h3 (fitT_take HX.out q) h4
        have hdr : Below wo.heap.size wo wo.drew := (Below.refl _ _).drew
        have HDR := Lib.hid hdr
        clear hv1 hcut hdr
        cases hr : okA s openT (xs.take q) with
        | false =>
          rw [hr] at C2
          have D2 := Lib.hid C2
          have HO := Lib.hid (oddL_hit hlt HA.out (by rw [← hq]; exact hr))
          clear C2 hr hq
          go_wp2_with fail
          go_region_law (first
            | (go_simp; go_at_call 42; refine (D2.out _ _ (HV1.out _ (bthen hb (bthen HDR.out hb2))) ho.ri).mono ?_; rintro e w3 ⟨v3, rfl, hb3, _⟩)
            | (go_simp; go_at_call 43; refine (l15Open_any s _ (by omega) (by omega)).mono ?_; rintro e w2 ⟨u2, rfl, ho, hb2⟩))
          all_goals
            go_wp2
            go_ret2
            exact ⟨by rw [HE.out, HO.out]; rfl, bthen (bthen hb (bthen HDR.out hb2)) hb3⟩
        | true =>
          rw [hr] at C2
          have D2 := Lib.hid C2
          have HR := Lib.hid hr
          clear C2 hr hq
          go_wp2_with fail
          go_region_law (first
            | (go_simp; go_at_call 42; refine (D2.out _ _ (HV1.out _ (bthen hb (bthen HDR.out hb2))) ho.ri).mono ?_; rintro e w3 ⟨v3, rfl, hb3, _⟩)
            | (go_simp; go_at_call 43; refine (l15Open_any s _ (by omega) (by omega)).mono ?_; rintro e w2 ⟨u2, rfl, ho, hb2⟩))
          all_goals
            go_wp2
            go_roundw
            case rel => exact ⟨k + 1, by omega, by rw [HQ.out], bthen (bthen hb (bthen HDR.out hb2)) hb3, Lib.hid (fun j hj => by
              by_cases e : j = k
              · rw [e, ← HQ.out]; exact HR.out
              · exact HA.out j (by omega))⟩
            case measure =>
              have := HQ.out
              simp [intOf]; omega
      · have hks : k = xs.length := by omega
        have HO := Lib.hid (oddL_miss (s := s) (xs := xs) (fun j hj => HA.out j (by omega)))
        clear hks
        go_wp2
        go_ret2
        exact ⟨by rw [HE.out, HO.out]; rfl, hb⟩

theorem implFirstOdd_any (n : Int) (v : Value) (xs : List (Int × Int × Int)) (w : World) (hv : SI P3 w v xs) :
    Calls Tryd.prog 14 #[.int .i64 n, v] w fun e w' => e = .returned (.tuple #[.int .i64 (valOdd n xs).1, .int .i64 (valOdd n xs).2]) ∧ Below w.heap.size w w' := by
  obtain ⟨a, cap, rfl⟩ := hv.shape
  have hl := hv.len
  have HV := Lib.hid hv
  have C1 := implValidLosses_any n _ xs w hv
  clear hv
  cases h1 : okLosses n xs with
  | false =>
    rw [h1] at C1
    have D1 := Lib.hid C1
    have HE := Lib.hid (show valOdd n xs = (0, 1) by simp [valOdd, h1])
    clear C1 h1
    go_enter Tryd.func14, Tryd.ntmps14
    go_wp2_with (go_at_call 27; refine D1.out.mono ?_; rintro e w1 ⟨rfl, hb1⟩)
    go_ret2
    exact ⟨by rw [HE.out]; rfl, hb1⟩
  | true =>
    rw [h1] at C1
    have D1 := Lib.hid C1
    have hn := okLosses_n h1
    obtain ⟨s, rfl⟩ : ∃ s : Nat, n = s := ⟨n.toNat, by omega⟩
    have HX := Lib.hid (show fitT s xs from fitT_of h1)
    have HE := Lib.hid (show valOdd s xs = oddL s xs by simp [valOdd, h1])
    clear C1 h1
    go_enter Tryd.func14, Tryd.ntmps14
    go_wp2_with (go_at_call 27; refine D1.out.mono ?_; rintro e w1 ⟨rfl, hb1⟩)
    go_loopw [13] (fun i wr => ∃ k : Nat, k ≤ xs.length ∧ i = .int .i64 k ∧ Below w.heap.size w wr ∧ Hid (∀ j, j < k → okA s openT (xs.take (j + 1)) = true)) (fun i _ => xs.length - (intOf i).toNat)
    case atStart => exact ⟨0, Nat.zero_le _, rfl, hb1, Lib.hid (fun _ h => absurd h (Nat.not_lt_zero _))⟩
    case round =>
      obtain ⟨k, hk, rfl, hb, HA⟩ := hrel
      rename World => wo
      by_cases hlt : k < xs.length
      · obtain ⟨q, hq⟩ : ∃ q, q = k + 1 := ⟨_, rfl⟩
        have HQ := Lib.hid hq
        have hwq : IntKind.i64.wrap ((k : Int) + 1) = (q : Int) := by rw [IntWalk.i64_in _ (by omega)]; omega
        obtain ⟨v1, hv1, hcut⟩ := cutToL HV.out q (by omega)
        have HV1 := Lib.hid (fun W B => hv1.below (w' := W) B)
        have hcut' := fun W => hcut W (q : Int) rfl
        have C2 := fun W h3 => agree_any s v1 (xs.take q) W (by omega) (by omega) h3 (fitT_take HX.out q)
        clear hv1 hcut
        cases hr : okA s openT (xs.take q) with
        | false =>
          rw [hr] at C2
          have D2 := Lib.hid C2
          have HO := Lib.hid (oddL_hit hlt HA.out (by rw [← hq]; exact hr))
          clear C2 hr hq
          go_wp2_with (go_at_call 40; refine (D2.out _ (HV1.out _ hb)).mono ?_; rintro e w3 ⟨rfl, hb3⟩)
          go_ret2
          exact ⟨by rw [HE.out, HO.out]; rfl, bthen hb hb3⟩
        | true =>
          rw [hr] at C2
          have D2 := Lib.hid C2
          have HR := Lib.hid hr
          clear C2 hr hq
          go_wp2_with (go_at_call 40; refine (D2.out _ (HV1.out _ hb)).mono ?_; rintro e w3 ⟨rfl, hb3⟩)
          go_roundw
          case rel => exact ⟨k + 1, by omega, by rw [HQ.out], bthen hb hb3, Lib.hid (fun j hj => by
            by_cases e : j = k
            · rw [e, ← HQ.out]; exact HR.out
            · exact HA.out j (by omega))⟩
          case measure =>
            have := HQ.out
            simp [intOf]; omega
      · have hks : k = xs.length := by omega
        have HO := Lib.hid (oddL_miss (s := s) (xs := xs) (fun j hj => HA.out j (by omega)))
        clear hks
        go_wp2
        go_ret2
        exact ⟨by rw [HE.out, HO.out]; rfl, hb⟩

end Go.Proofs.YtpgnndpjlcihiaaDoor
