/-
  NextAddress of the reference: what it returns.
-/
import Derived.Test.YtejnfngnofilfaaNextPlain
namespace Go.Proofs.Ytejnfngnofilfaa
open Go.RowKit

theorem l18New_any (n : Nat) (v : Value) (xs : List (Int × Int)) (s : ByteArray) (ls : List Int) (a : Int) (w : World) (hv : SI P2 w v xs) (hok : okStuck n xs = true) (a0 : 0 ≤ a) (a1 : a ≤ 9223372036854775807) (hsz : s.size + 1 = 2 ^ n)
    (hby : ∀ j (h : j < s.size), (((s[j]'h).toNat : Nat) : Int) = ls.getD (j + 1) 0) :
    Calls Try.prog 90 #[.int .i64 n, v, .string s, .int .i64 a] w fun e w' => e = .returned (.bool (newAt n xs ls a)) ∧ w = w' := by
  have HV := Lib.hid hv
  have HK := Lib.hid hok
  have hd := okStuck_depth hok
  have hn : 1 ≤ n ∧ n ≤ 4 := by simp [inB] at hd; omega
  obtain ⟨hn1, hn4⟩ := hn
  have HBy := Lib.hid hby
  have HSz := Lib.hid hsz
  have hs16 : s.size ≤ 16 := by
    have : 2 ^ n ≤ 2 ^ 4 := Nat.pow_le_pow_right (by omega) hn4
    omega
  clear hv hok hd hby hsz
  go_enter Try.func90, Try.ntmps90
  go_wp2
  go_loop [9, 10] (fun vv i => ∃ k : Nat, k ≤ n ∧ vv = .int .i64 (runAt n xs a k) ∧ i = .int .i64 k ∧ ∀ j, j < k → newL (ls.getD (runAt n xs a j).toNat 0) = false) (fun _ i => n - (intOf i).toNat)
  case atStart => exact ⟨0, Nat.zero_le _, rfl, rfl, fun j hj => absurd hj (Nat.not_lt_zero _)⟩
  case round =>
    obtain ⟨k, hk, rfl, rfl, hno⟩ := hrel
    have HNO := Lib.hid hno
    clear hno
    by_cases hlt : k < n
    · have hpw := runAt_pow HK.out a k
      have hle : (2 : Int) ^ (k + 1) ≤ 2 ^ n := by
        have h2 : (2 : Nat) ^ (k + 1) ≤ 2 ^ n := Nat.pow_le_pow_right (by omega) (by omega)
        exact_mod_cast h2
      have hsz : ((s.size : Nat) : Int) + 1 = 2 ^ n := by have := HSz.out; exact_mod_cast this
      have hp1 := pow_pos1 k
      have HR := Lib.hid (show runAt n xs a (k + 1) = 2 * runAt n xs a k + goes xs (runAt n xs a k) (dig n a k) by rfl)
      have HNx := Lib.hid (fun (h : newL (ls.getD (runAt n xs a k).toNat 0) = false) => fun j (hj : j < k + 1) => show newL (ls.getD (runAt n xs a j).toNat 0) = false by
        by_cases e : j = k
        · rw [e]; exact h
        · exact HNO.out j (by omega))
      have HYes := Lib.hid (fun (h : newL (ls.getD (runAt n xs a k).toNat 0) = true) => show newAt n xs ls a = true by
        unfold newAt; rw [List.any_eq_true]; exact ⟨k, List.mem_range.2 hlt, h⟩)
      have hsb := sideF_bound HK.out (runAt n xs a k)
      have hdd := dig_01 n a k
      obtain ⟨m, hm⟩ : ∃ m : Nat, runAt n xs a k = (m : Int) + 1 := ⟨(runAt n xs a k).toNat - 1, by omega⟩
      have hms : m < s.size := by omega
      have hc := HBy.out m hms
      rw [show m + 1 = (runAt n xs a k).toNat by omega] at hc
      rw [hm]
      rw [hm] at HR HNx HYes hsb hc
      generalize hdg : dig n a k = dg at hdd HR
      have HG := Lib.hid hdg
      generalize hsf : sideF xs ((m : Int) + 1) = sf at hsb
      have HGo := Lib.hid (show goes xs ((m : Int) + 1) dg = if sf < 0 then dg else sf by unfold goes; rw [hsf])
      have HF := Lib.hid hsf
      clear hdg hsf hm hpw hle hsz hp1
      generalize ls.getD ((m : Int) + 1).toNat 0 = c at hc HNx HYes
      have HC := Lib.hid hc
      clear hc
      obtain ⟨d0, d1⟩ := hdd
      obtain ⟨s0, s1⟩ := hsb
      by_cases c1 : c = 63
      · have e1 : (((s[m]'hms).toNat : Int) == 63) = true := by rw [HC.out, c1]; rfl
        have HY := Lib.hid (HYes.out (by rw [c1]; rfl))
        clear c1
        go_wp2
        go_ret
        exact ⟨ret_bool HY.out.symm, rfl⟩
      · have e1 : (((s[m]'hms).toNat : Int) == 63) = false := by rw [HC.out, beq_eq_false_iff_ne]; exact c1
        by_cases c2 : c = 97
        · have e2 : (((s[m]'hms).toNat : Int) == 97) = true := by rw [HC.out, c2]; rfl
          have HY := Lib.hid (HYes.out (by rw [c2]; rfl))
          clear c1 c2
          go_wp2
          go_ret
          exact ⟨ret_bool HY.out.symm, rfl⟩
        · have e2 : (((s[m]'hms).toNat : Int) == 97) = false := by rw [HC.out, beq_eq_false_iff_ne]; exact c2
          by_cases c3 : c = 98
          · have e3 : (((s[m]'hms).toNat : Int) == 98) = true := by rw [HC.out, c3]; rfl
            have HY := Lib.hid (HYes.out (by rw [c3]; rfl))
            clear c1 c2 c3
            go_wp2
            go_ret
            exact ⟨ret_bool HY.out.symm, rfl⟩
          · have e3 : (((s[m]'hms).toNat : Int) == 98) = false := by rw [HC.out, beq_eq_false_iff_ne]; exact c3
            have HN := Lib.hid (HNx.out (by simp [newL, c1, c2, c3]))
            clear c1 c2 c3
            by_cases hneg : sf < 0
            · have HGo2 := Lib.hid (show goes xs ((m : Int) + 1) dg = dg by rw [HGo.out, if_pos hneg])
              have hnd : decide (sf < 0) = true := by rw [decide_eq_true_iff]; exact hneg
              go_wp2_with (first | (go_at_call 102; refine (l18Side_any _ xs _ _ HV.out).mono ?_; rintro e w' ⟨rfl, rfl⟩; rw [HF.out]) | (go_at_call 65; refine (l18Digit_any n a k _ (by omega) (by omega) (by omega) a0 a1).mono ?_; rintro e w' ⟨rfl, rfl⟩; rw [HG.out]))
              go_round
              case rel => exact ⟨k + 1, by omega, by rw [HR.out, HGo2.out], by go_num, HN.out⟩
              case measure => simp [intOf]; omega
            · have HGo2 := Lib.hid (show goes xs ((m : Int) + 1) dg = sf by rw [HGo.out, if_neg hneg])
              have hnd : decide (sf < 0) = false := by rw [decide_eq_false_iff_not]; exact hneg
              go_wp2_with (go_at_call 102; refine (l18Side_any _ xs _ _ HV.out).mono ?_; rintro e w' ⟨rfl, rfl⟩; rw [HF.out])
              go_round
              case rel => exact ⟨k + 1, by omega, by rw [HR.out, HGo2.out], by go_num, HN.out⟩
              case measure => simp [intOf]; omega
    · have hkn : k = n := by omega
      subst hkn
      have HX := Lib.hid (show newAt k xs ls a = false by
        unfold newAt; rw [List.any_eq_false]; intro j hj; rw [HNO.out j (List.mem_range.1 hj)]; exact Bool.false_ne_true)
      go_wp2
      go_ret
      exact ⟨ret_bool HX.out.symm, rfl⟩

theorem valFewest_good {n : Nat} {ts : List (Int × Int)} (h : codeF n ts = 0) : (valFewest n ts).1 = fewTo (seenTo n ts) (2 ^ n) := by
  obtain ⟨h1, h2⟩ := codeF_zero h
  simp [valFewest, h1, fewest, h2]
theorem tried_succ (ts : List (Int × Int)) (a : Int) (k : Nat) (hk : k < ts.length) : tried (ts.take (k + 1)) a = (tried (ts.take k) a || (ts.getD k (0, 0)).1 == a) := by
  rw [take_snocG (0, 0) ts k hk]; simp [tried]

set_option maxRecDepth 100000 in
set_option maxHeartbeats 1000000 in
theorem specNextAddress_any (d : Int) (v : Value) (ts : List (Int × Int)) (w : World) (hv : SI P2 w v ts) :
    Calls Try.prog 57 #[.int .i64 d, v] w fun e w' => e = .returned (.tuple #[.int .i64 (valNext d ts).1, .int .i64 (valNext d ts).2]) ∧ Below w.heap.size w w' := by
  obtain ⟨a, cap, rfl⟩ := hv.shape
  have hl := hv.len
  have HV := Lib.hid hv
  have C1 := l18Code_any d _ ts w hv
  clear hv
  have e2 : (valFewest d ts).2 = codeF d ts := rfl
  rw [e2] at C1
  by_cases h0 : codeF d ts = 0
  · obtain ⟨h1, h2⟩ := codeF_zero h0
    have hd := okTrials_depth h1
    obtain ⟨n, rfl⟩ : ∃ n : Nat, d = n := ⟨d.toNat, by simp [inB] at hd; omega⟩
    have hn : 1 ≤ n ∧ n ≤ 4 := by simp [inB] at hd; omega
    obtain ⟨hn1, hn4⟩ := hn
    have hE : ex (n : Int) = ((2 ^ n : Nat) : Int) := by simp [ex]
    obtain ⟨_, _, e3, e4⟩ := wrap_ex hd
    have hf := fit4_seen hd ts
    simp only [Int.toNat_natCast] at hf
    have hok := fewTo_ok hd hf
    have hkb := known_byte (seenTo n ts) (2 ^ n)
    have hks := strOfNums_size ((lettersTo (seenTo n ts) (2 ^ n)).drop 1)
    rw [List.length_drop, lettersTo_length] at hks
    have hkn : known n ts = strOfNums ((lettersTo (seenTo n ts) (2 ^ n)).drop 1) := rfl
    have hhit := fun k => next_hit (d := (n : Int)) (ts := ts) (k := k) h0
    have hmiss := next_miss (d := (n : Int)) (ts := ts) h0
    simp only [Int.toNat_natCast] at hhit hmiss
    have C2 := Lib.hid (fun (W : World) (h : SI P2 W (.slice a ts.length cap) ts) => l18Letters_any n _ ts W h h1 h2)
    rw [h0, valFewest_good h0] at C1
    have h1N : 1 ≤ 2 ^ n := Nat.one_le_two_pow
    have hNX := fun (u : Value) (x : Int) (W : World) (hu : SI P2 W u (fewTo (seenTo n ts) (2 ^ n))) (x0 : 0 ≤ x) (x1 : x ≤ 9223372036854775807) => l18New_any n u _ (known n ts) (lettersTo (seenTo n ts) (2 ^ n)) x W hu hok x0 x1 (by rw [hkn, hks]; omega) (fun j h => hkb j h)
    generalize hNN : 2 ^ n = N at *
    generalize fewTo (seenTo n ts) N = fw at *
    generalize lettersTo (seenTo n ts) N = ls at *
    generalize known n ts = kn at *
    have hN : N ≤ 16 := by omega
    have D1 := Lib.hid C1
    have HHit := Lib.hid hhit
    have HMiss := Lib.hid hmiss
    have HNX := Lib.hid hNX
    have HD := Lib.hid hd
    have HX := Lib.hid hE
    clear C1 h0 h1 h2 hd e2 hE hf hok hkb hks hkn hhit hmiss hNX hNN
    go_enter Try.func57, Try.ntmps57
    go_wp2_with fail
    refine D1.out.mono ?_
    rintro e w1 ⟨u, rfl, hu, hb1⟩
    go_wp2_with fail
    refine (C2.out _ (HV.out.below hb1)).mono ?_
    rintro e w2 ⟨rfl, hb2⟩
    have hw2 := bthen hb1 hb2
    have HU := Lib.hid (hu.si.below hb2)
    clear hu hb2 hb1
    go_wp2_with fail
    go_loop [9] (fun i => ∃ k : Nat, k ≤ N ∧ i = .int .i64 k ∧ ∀ j, j < k → goodA n ts fw ls j = false) (fun i => N - (intOf i).toNat)
    case atStart => exact ⟨0, Nat.zero_le _, rfl, fun j hj => absurd hj (Nat.not_lt_zero _)⟩
    case round =>
      obtain ⟨k, hk, rfl, hno⟩ := hrel
      have HNO := Lib.hid hno
      clear hno
      by_cases hlt : k < N
      · go_wp2_with (go_at_call 76; refine (l18Exits_any _ _ HD.out).mono ?_; rintro e w' ⟨rfl, rfl⟩; rw [HX.out])
        go_loop [10, 11] (fun dn i => ∃ j : Nat, j ≤ ts.length ∧ i = .int .i64 j ∧ dn = .bool (tried (ts.take j) k)) (fun _ i => ts.length - (intOf i).toNat)
        case atStart => exact ⟨0, Nat.zero_le _, rfl, rfl⟩
        case round =>
          obtain ⟨j, hj, rfl, rfl⟩ := hrel
          by_cases hlj : j < ts.length
          · obtain ⟨b, off, rfl, hb, hc⟩ := HV.out.cells2 (by omega)
            obtain ⟨g1, g2⟩ := hc j hlj
            replace g1 := (hw2.cell (p := ⟨b, off + j * 2, none⟩) hb).trans g1
            have HS := Lib.hid (tried_succ ts k j hlj)
            clear hc g2
            generalize ts.getD j (0, 0) = p at g1 HS
            obtain ⟨x, y⟩ := p
            simp only at g1
            generalize hq : tried (ts.take j) k = q at HS
            clear hq
            by_cases hxk : x = k
            · have hx : (x == (k : Int)) = true := by simp [hxk]
              have HSx := Lib.hid (show tried (ts.take (j + 1)) k = true by rw [HS.out]; simp [hxk])
              clear hxk
              cases q with
              | true =>
                go_wp2
                go_round
                case rel => exact ⟨j + 1, by omega, by go_num, by rw [HSx.out]⟩
                case measure => simp [intOf]; omega
              | false =>
                go_wp2
                go_round
                case rel => exact ⟨j + 1, by omega, by go_num, by rw [HSx.out]⟩
                case measure => simp [intOf]; omega
            · have hx : (x == (k : Int)) = false := by simp [hxk]
              have HSx := Lib.hid (show tried (ts.take (j + 1)) k = q by rw [HS.out]; simp [hxk])
              clear hxk
              cases q with
              | true =>
                go_wp2
                go_round
                case rel => exact ⟨j + 1, by omega, by go_num, by rw [HSx.out]⟩
                case measure => simp [intOf]; omega
              | false =>
                go_wp2
                go_round
                case rel => exact ⟨j + 1, by omega, by go_num, by rw [HSx.out]⟩
                case measure => simp [intOf]; omega
          · rw [List.take_of_length_le (by omega)]
            have HGA := Lib.hid (show goodA n ts fw ls k = (!tried ts k && newAt n fw ls k) by rfl)
            have HNx := Lib.hid (fun (h : goodA n ts fw ls k = false) => fun i (hi : i < k + 1) => show goodA n ts fw ls i = false by
              by_cases e : i = k
              · rw [e]; exact h
              · exact HNO.out i (by omega))
            generalize hq : tried ts k = q at HGA
            clear hq
            cases q with
            | true =>
              have E1 := Lib.hid (HNx.out (by rw [HGA.out]; rfl))
              go_wp2
              go_round
              case rel => exact ⟨k + 1, by omega, by go_num, E1.out⟩
              case measure => simp [intOf]; omega
            | false =>
              have C3 := HNX.out u k w2 HU.out (by omega) (by omega)
              cases hna : newAt n fw ls k with
              | true =>
                rw [hna] at C3
                have D3 := Lib.hid C3
                have E1 := Lib.hid (HHit.out k hlt (by rw [HGA.out, hna]; rfl) HNO.out)
                clear C3 hna
                go_wp2_with (go_at_call 90; refine D3.out.mono ?_; rintro e w' ⟨rfl, rfl⟩)
                go_ret2
                exact ⟨by rw [E1.out]; rfl, hw2⟩
              | false =>
                rw [hna] at C3
                have D3 := Lib.hid C3
                have E1 := Lib.hid (HNx.out (by rw [HGA.out, hna]; rfl))
                clear C3 hna
                go_wp2_with (go_at_call 90; refine D3.out.mono ?_; rintro e w' ⟨rfl, rfl⟩)
                go_round
                case rel => exact ⟨k + 1, by omega, by go_num, E1.out⟩
                case measure => simp [intOf]; omega
      · have hkn : k = N := by omega
        subst hkn
        have E1 := Lib.hid (HMiss.out (fun j hj => HNO.out j hj))
        go_wp2_with (go_at_call 76; refine (l18Exits_any _ _ HD.out).mono ?_; rintro e w' ⟨rfl, rfl⟩; rw [HX.out])
        go_ret2
        exact ⟨by rw [E1.out]; rfl, hw2⟩
  · have HE := Lib.hid (show valNext d ts = (0, codeF d ts) by simp [valNext, h0])
    have hne : (codeF d ts != 0) = true := by simpa using h0
    generalize codeF d ts = c at *
    have D1 := Lib.hid C1
    clear C1 h0 e2
    go_enter Try.func57, Try.ntmps57
    go_wp2_with fail
    refine D1.out.mono ?_
    rintro e w1 ⟨u, rfl, _, hb1⟩
    go_wp2_with fail
    go_ret2
    exact ⟨by rw [HE.out]; rfl, hb1⟩

end Go.Proofs.Ytejnfngnofilfaa
