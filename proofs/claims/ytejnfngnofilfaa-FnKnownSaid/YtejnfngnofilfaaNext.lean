/-
  NextAddress of the program: what it returns.
-/
import Derived.Test.YtejnfngnofilfaaNextSpec
import Derived.Test.YtejnfngnofilfaaSlicesMem
namespace Go.Proofs.Ytejnfngnofilfaa
open Go.RowKit

theorem next1_enters : ∀ args w, (callFunc 81 args).run Try.prog w = .ok (.enter 81 args) w := enters_of Try.func81 (by kernel_rfl) rfl
theorem next2_enters : ∀ args w, (callFunc 83 args).run Try.prog w = .ok (.enter 83 args) w := enters_of Try.func83 (by kernel_rfl) rfl

theorem next1_any (x y k : Int) (b1 : Nat) (w : World) (h : w.cell? ⟨b1, 0, none⟩ = some (.int .i64 k)) (hb1 : b1 < w.heap.size) :
    Calls Try.prog 81 #[.agg #[.int .i64 x, .int .i64 y], .pointer (some ⟨b1, 0, none⟩)] w fun e w' => e = .returned (.bool (x == k)) ∧ Below w.heap.size w w' := by
  have hb : ∀ o : Obj, Below w.heap.size w (w.alloc o) := fun o => (Below.refl _ _).alloc (Nat.le_refl _) _
  go_enter Try.func81, Try.ntmps81
  go_wp2
  go_ret
  exact ⟨rfl, hb _⟩

theorem next2_any (m N g cap b1 : Nat) (c : Int) (w : World) (h : w.cell? ⟨b1, 0, none⟩ = some (.slice (some ⟨g, 0, none⟩) N cap)) (hc : w.cell? ⟨g, m, none⟩ = some (.int .u8 c)) (hm : (m : Int) < N) :
    Calls Try.prog 83 #[.int .i64 m, .pointer (some ⟨b1, 0, none⟩)] w fun e w' => e = .returned (.bool (newL c)) ∧ w = w' := by
  by_cases c1 : c = 63
  · have e1 : (c == 63) = true := by simp [c1]
    have HE := Lib.hid (show newL c = true by simp [newL, c1])
    clear c1
    go_enter Try.func83, Try.ntmps83
    go_wp2
    go_ret
    exact ⟨ret_bool HE.out.symm, rfl⟩
  · have e1 : (c == 63) = false := by simp [c1]
    by_cases c2 : c = 97
    · have e2 : (c == 97) = true := by simp [c2]
      have HE := Lib.hid (show newL c = true by simp [newL, c2])
      clear c1 c2
      go_enter Try.func83, Try.ntmps83
      go_wp2
      go_ret
      exact ⟨ret_bool HE.out.symm, rfl⟩
    · have e2 : (c == 97) = false := by simp [c2]
      have HE := Lib.hid (show newL c = (c == 98) by simp [newL, c1, c2])
      clear c1 c2
      go_enter Try.func83, Try.ntmps83
      go_wp2
      go_ret
      exact ⟨ret_bool HE.out.symm, rfl⟩

set_option maxRecDepth 100000 in
set_option maxHeartbeats 1000000 in
theorem implNextAddress_any (d : Int) (v : Value) (ts : List (Int × Int)) (w : World) (hv : SI P2 w v ts) :
    Calls Try.prog 39 #[.int .i64 d, v] w fun e w' => e = .returned (.tuple #[.int .i64 (valNext d ts).1, .int .i64 (valNext d ts).2]) ∧ Below w.heap.size w w' := by
  have hl := hv.len
  have HV := Lib.hid hv
  have C1 := diagnosed_any d _ ts w hv
  have hmf : ∀ (fn : Fn) (first cap : Array Value) (w : World), (Instr.makeFunc fn first cap).run Try.prog w = .ok (.func fn first cap) w := fun _ _ _ _ => rfl
  clear hv
  have e2 : (valFewest d ts).2 = codeF d ts := rfl
  rw [e2] at C1
  by_cases h0 : codeF d ts = 0
  · obtain ⟨h1, h2⟩ := codeF_zero h0
    have hd := okTrials_depth h1
    obtain ⟨n, rfl⟩ : ∃ n : Nat, d = n := ⟨d.toNat, by simp [inB] at hd; omega⟩
    have hn : 1 ≤ n ∧ n ≤ 4 := by simp [inB] at hd; omega
    obtain ⟨hn1, hn4⟩ := hn
    have hE : ex (n : Int) = ((2 ^ n : Nat) : Int) := by simp [ex]
    obtain ⟨e1, _, e3, e4⟩ := wrap_ex hd
    have e1' : wrap64 (2 ^ n) = ((2 ^ n : Nat) : Int) := by rw [← hE]; simpa using e1
    have hf := fit4_seen hd ts
    simp only [Int.toNat_natCast] at hf
    have hok := fewTo_ok hd hf
    have hLt := fun (x : Int) (k : Nat) (hk : k < n) => wayAt_lt (n := n) x hk
    have hll := lettersTo_length (seenTo n ts) (2 ^ n)
    have hlet : letters n ts = lettersTo (seenTo n ts) (2 ^ n) := by simp [letters, h0]
    have hhit := fun k => next_hit (d := (n : Int)) (ts := ts) (k := k) h0
    have hmiss := next_miss (d := (n : Int)) (ts := ts) h0
    simp only [Int.toNat_natCast] at hhit hmiss
    rw [h0, valFewest_good h0, hlet] at C1
    have h1N : 1 ≤ 2 ^ n := Nat.one_le_two_pow
    generalize hNN : 2 ^ n = N at *
    generalize fewTo (seenTo n ts) N = fw at *
    generalize lettersTo (seenTo n ts) N = ls at *
    have hN : N ≤ 16 := by omega
    have hNW := fun a => newAt_way hok ls a
    have D1 := Lib.hid C1
    have HHit := Lib.hid hhit
    have HMiss := Lib.hid hmiss
    have HNW := Lib.hid hNW
    have HOk := Lib.hid hok
    have HLt := Lib.hid hLt
    have HD := Lib.hid hd
    have HX := Lib.hid hE
    have E1 := Lib.hid e1'
    clear C1 h0 h1 h2 hd e2 hE hf hok hlet hhit hmiss hNW hNN hLt e1 e1'
    go_enter Try.func39, Try.ntmps39
    go_wp2_with fail
    refine D1.out.mono ?_
    rintro e w1 ⟨u, u2, rfl, hu, hy, hb1⟩
    obtain ⟨g, cap, rfl, hg⟩ : ∃ g cap, u2 = .slice (some ⟨g, 0, none⟩) N cap ∧ g < w1.heap.size := by
      rcases hy.shape with ⟨_, h⟩ | ⟨g, cap, h, _, hc, _⟩
      · rw [h] at hll; simp at hll; omega
      · exact ⟨g, cap, by rw [h, hll], hc⟩
    have hsu := hu.si
    have B0 : Below w1.heap.size w1 (w1.alloc (.cells #[.slice (some ⟨g, 0, none⟩) N cap] 42)) := (Below.refl _ _).alloc (Nat.le_refl _) _
    have hbox : (w1.alloc (.cells #[.slice (some ⟨g, 0, none⟩) N cap] 42)).cell? ⟨w1.heap.size, 0, none⟩ = some (.slice (some ⟨g, 0, none⟩) N cap) := by rw [World.cell?_alloc_at _ _ _ _ rfl]; rfl
    have hbs : w1.heap.size < (w1.alloc (.cells #[.slice (some ⟨g, 0, none⟩) N cap] 42)).heap.size := by simp
    have hba := bthen hb1 B0
    have HU := Lib.hid (hsu.below B0)
    have HY := Lib.hid (hy.below B0)
    have hga : g < (w1.alloc (.cells #[.slice (some ⟨g, 0, none⟩) N cap] 42)).heap.size := Nat.lt_trans hg hbs
    have HBox := Lib.hid hbox
    clear B0 hbox
    generalize hwa : w1.alloc (.cells #[.slice (some ⟨g, 0, none⟩) N cap] 42) = wa at hbs hba HU HY hga HBox ⊢
    have HWa := Lib.hid hwa
    clear hu hy hsu hwa
    go_wp2_with fail
    rw [E1.out]
    go_loopw [23] (fun i wr => ∃ k : Nat, k ≤ N ∧ i = .int .i64 k ∧ Below wa.heap.size wa wr ∧ ∀ j, j < k → goodA n ts fw ls j = false) (fun i _ => N - (intOf i).toNat)
    case atStart => exact ⟨0, Nat.zero_le _, rfl, by rw [HWa.out]; exact Below.refl _ _, fun j hj => absurd hj (Nat.not_lt_zero _)⟩
    case round =>
      obtain ⟨k, hk, rfl, hw, hno⟩ := hrel
      have HNO := Lib.hid hno
      clear hno
      by_cases hlt : k < N
      · have hB : Below wr.heap.size wr (wr.alloc (.cells #[.int .i64 (k : Int)] 2)) := (Below.refl _ _).alloc (Nat.le_refl _) _
        have hbk : (wr.alloc (.cells #[.int .i64 (k : Int)] 2)).cell? ⟨wr.heap.size, 0, none⟩ = some (.int .i64 k) := by rw [World.cell?_alloc_at _ _ _ _ rfl]; rfl
        have hbs2 : wr.heap.size < (wr.alloc (.cells #[.int .i64 (k : Int)] 2)).heap.size := by simp
        have HB := Lib.hid hB
        have HBk := Lib.hid hbk
        have hwk := bthen hw hB
        clear hB hbk
        have HGA := Lib.hid (show goodA n ts fw ls k = (!tried ts k && newAt n fw ls k) by rfl)
        have HNx := Lib.hid (fun (h : goodA n ts fw ls k = false) => fun i (hi : i < k + 1) => show goodA n ts fw ls i = false by
          by_cases e : i = k
          · rw [e]; exact h
          · exact HNO.out i (by omega))
        have HTr := Lib.hid (show (ts.any fun t => t.1 == (k : Int)) = tried ts k by rfl)
        go_wp2_with fail
        refine (containsTrial_any 81 _ (fun t => t.1 == (k : Int)) _ ts _ next1_enters ?_ (HV.out.below (bthen hba hwk))).mono ?_
        · intro W x y hW _ _ _
          exact (next1_any x y k _ W ((hW.cell (p := ⟨wr.heap.size, 0, none⟩) hbs2).trans HBk.out) (Nat.lt_of_lt_of_le hbs2 hW.size)).mono fun e w' ⟨he, hb'⟩ => ⟨he, bthen hW hb'⟩
        · rintro e w3 ⟨rfl, hb3⟩
          rw [HTr.out]
          have hw3 := bthen hwk hb3
          have hk3 := (hb3.cell (p := ⟨wr.heap.size, 0, none⟩) hbs2).trans HBk.out
          have hs3 := Nat.lt_of_lt_of_le hbs2 hb3.size
          generalize hq : tried ts k = q at HGA ⊢
          clear hq HTr
          cases q with
          | true =>
            have E2 := Lib.hid (HNx.out (by rw [HGA.out]; rfl))
            go_wp2
            go_roundw
            case rel => exact ⟨k + 1, by omega, by go_num, hw3, E2.out⟩
            case measure => simp [intOf]; omega
          | false =>
            have hrb := runE_bound HOk.out (k : Int)
            rw [HX.out] at hrb
            have C3 := Lib.hid (fun (W : World) (h : SI P2 W u fw) => exitOf_any n u fw k W h HOk.out (by omega) (by omega))
            have HW0 := Lib.hid (HNW.out k)
            have HWL := Lib.hid (HLt.out (runE n fw k))
            generalize runE n fw k = r at C3 hrb HW0 HWL
            obtain ⟨r0, r1⟩ := hrb
            go_wp2_with fail
            refine (C3.out _ (HU.out.below hw3)).mono ?_
            rintro e w4 ⟨rfl, hb4⟩
            go_wp2_with fail
            refine (switchesTo_any n r _ HD.out r0 (by omega)).mono ?_
            rintro e w5 ⟨wv, rfl, hwv, hb5⟩
            have hw5 := bthen (bthen hw3 hb4) hb5
            have hk5 := (hb5.cell (p := ⟨wr.heap.size, 0, none⟩) (Nat.lt_of_lt_of_le hs3 hb4.size)).trans ((hb4.cell (p := ⟨wr.heap.size, 0, none⟩) hs3).trans hk3)
            have hs5 := Nat.lt_of_lt_of_le (Nat.lt_of_lt_of_le hs3 hb4.size) hb5.size
            have HWv := Lib.hid hwv.ri
            clear hwv hk3
            go_wp2_with fail
            refine (containsMem_any 83 _ (fun v => newL (ls.getD v.toNat 0)) _ (way n r) _ next2_enters ?_ HWv.out).mono ?_
            · intro W x hW hx
              unfold way at hx
              obtain ⟨j, hj, rfl⟩ := List.mem_map.1 hx
              have hj' : j < n := by simpa using List.mem_range.1 hj
              have hvb := wayAt_bound n r j (by omega)
              have hvl := HWL.out j hj'
              generalize wayAt n r j = vv at hvb hvl
              obtain ⟨m, rfl⟩ : ∃ m : Nat, vv = m := ⟨vv.toNat, by omega⟩
              have hWa := bthen hw5 hW
              have hc := ((HY.out.below hWa).cell m (by simp at hvl; omega))
              exact (next2_any m N g cap _ _ W ((hWa.cell (p := ⟨w1.heap.size, 0, none⟩) hbs).trans HBox.out) hc (by simp at hvl; omega)).mono fun e w' ⟨he, hb'⟩ => ⟨by rw [he]; simp, by subst hb'; exact hW⟩
            · rintro e w6 ⟨rfl, hb6⟩
              rw [HW0.out]
              have hw6 := bthen hw5 hb6
              have hk6 := (hb6.cell (p := ⟨wr.heap.size, 0, none⟩) hs5).trans hk5
              cases hna : newAt n fw ls k with
              | true =>
                have E2 := Lib.hid (HHit.out k hlt (by rw [HGA.out, hna]; rfl) HNO.out)
                clear hna
                go_wp2
                go_ret2
                exact ⟨by rw [E2.out]; rfl, bthen hba hw6⟩
              | false =>
                have E2 := Lib.hid (HNx.out (by rw [HGA.out, hna]; rfl))
                clear hna
                go_wp2
                go_roundw
                case rel => exact ⟨k + 1, by omega, by go_num, hw6, E2.out⟩
                case measure => simp [intOf]; omega
      · have hkn : k = N := by omega
        subst hkn
        have E2 := Lib.hid (HMiss.out (fun j hj => HNO.out j hj))
        go_wp2
        go_ret2
        exact ⟨by rw [E2.out]; rfl, bthen hba hw⟩
  · have HE := Lib.hid (show valNext d ts = (0, codeF d ts) by simp [valNext, h0])
    have hne : (codeF d ts != 0) = true := by simpa using h0
    generalize codeF d ts = c at *
    have D1 := Lib.hid C1
    clear C1 h0 e2
    go_enter Try.func39, Try.ntmps39
    go_wp2_with fail
    refine D1.out.mono ?_
    rintro e w1 ⟨u, u2, rfl, _, hy, hb1⟩
    obtain ⟨sa, sn, sc, rfl⟩ : ∃ a n c, u2 = .slice a n c := by
      rcases hy.shape with ⟨h, _⟩ | ⟨g, cap, h, _⟩
      · exact ⟨_, _, _, h⟩
      · exact ⟨_, _, _, h⟩
    clear hy
    go_wp2_with fail
    go_ret2
    exact ⟨by rw [HE.out]; rfl, hb1.alloc hb1.size _⟩

end Go.Proofs.Ytejnfngnofilfaa
