/-
  What trials tell of switches, of the reference and of the program: what each side's table is.
-/
import Derived.Test.YtejnfngnofilfaaFour
import Derived.Test.YtejnfngnofilfaaBools
namespace Go.Proofs.Ytejnfngnofilfaa
open Go.RowKit

theorem infoSeen : (Try.prog.info? 108).map (fun i => (i.zero, i.size, i.bytes)) = some (some (.agg #[.bool false, .bool false, .bool false, .bool false]), 4, 4) := by kernel_rfl

theorem okTrials_depth {d : Int} {ts : List (Int × Int)} (h : okTrials d ts = true) : inB 1 4 d = true := by simp [okTrials] at h; exact h.1.1
theorem okTrials_pair {d : Int} {ts : List (Int × Int)} (h : okTrials d ts = true) {k : Nat} (hk : k < ts.length) : (0 ≤ (ts.getD k (0, 0)).1 ∧ (ts.getD k (0, 0)).1 ≤ 15) ∧ 0 ≤ (ts.getD k (0, 0)).2 ∧ (ts.getD k (0, 0)).2 ≤ 15 := by
  have hd := okTrials_depth h
  have he := (wrap_ex hd).2.2.2
  simp only [okTrials, Bool.and_eq_true, List.all_eq_true] at h
  have h1 := h.1.2 _ (List.getElem_mem hk)
  simp only [List.getD, List.getElem?_eq_getElem hk, Option.getD_some]
  simp only [okTrial, inB, Bool.and_eq_true, decide_eq_true_eq] at h1
  omega
theorem way_getD (d x : Int) (k : Nat) (hk : k < d.toNat) : (way d x).getD k 0 = wayAt d x k := by simp [way, List.getD, hk]
theorem way_length (d x : Int) : (way d x).length = d.toNat := by simp [way]
theorem wayAt_lt {n : Nat} (x : Int) {k : Nat} (hk : k < n) : (wayAt n x k).toNat < 2 ^ n := by
  have h := wayAt_pow n x k
  have h2 : (2 : Nat) ^ (k + 1) ≤ 2 ^ n := Nat.pow_le_pow_right (by omega) (by omega)
  have h3 : ((2 ^ (k + 1) : Nat) : Int) = 2 ^ (k + 1) := by simp
  have h4 : ((2 ^ (k + 1) : Nat) : Int) ≤ ((2 ^ n : Nat) : Int) := by exact_mod_cast h2
  omega

/-- The first place of a list at which p holds; -1 if there is none. -/
def idx4 (p : B4 → Bool) (xs : List B4) : Int := match xs.findIdx? p with | some i => (i : Int) | none => -1
theorem idx4_hit (p : B4 → Bool) (xs : List B4) (k : Nat) (hk : k < xs.length) (hp : p (xs.getD k z4) = true) (hn : ∀ j, j < k → p (xs.getD j z4) = false) : idx4 p xs = k := by
  have : xs.findIdx? p = some k := by
    rw [List.findIdx?_eq_some_iff_getElem]
    refine ⟨hk, by simpa [List.getD, hk] using hp, fun j hj => ?_⟩
    have := hn j hj
    simpa [List.getD, Nat.lt_trans hj hk] using this
  simp [idx4, this]
theorem idx4_miss (p : B4 → Bool) (xs : List B4) (hn : ∀ j, j < xs.length → p (xs.getD j z4) = false) : idx4 p xs = -1 := by
  have : xs.findIdx? p = none := by
    rw [List.findIdx?_eq_none_iff]
    intro x hx
    obtain ⟨j, hj, rfl⟩ := List.getElem_of_mem hx
    have := hn j hj
    simpa only [List.getD, List.getElem?_eq_getElem hj, Option.getD_some] using this
  simp [idx4, this]
theorem idx4_any (p : B4 → Bool) (xs : List B4) : decide (0 ≤ idx4 p xs) = xs.any p := by
  unfold idx4
  cases h : xs.findIdx? p with
  | none =>
    rw [List.findIdx?_eq_none_iff] at h
    have : xs.any p = false := by rw [List.any_eq_false]; intro x hx; simp [h x hx]
    simp [this]
  | some i =>
    rw [List.findIdx?_eq_some_iff_getElem] at h
    obtain ⟨hi, hp, _⟩ := h
    have : xs.any p = true := by rw [List.any_eq_true]; exact ⟨_, List.getElem_mem hi, hp⟩
    simp [this]

theorem seenBy_enters : ∀ args w, (callFunc 100 args).run Try.prog w = .ok (.enter 100 args) w := enters_of Try.func100 (by kernel_rfl) rfl

theorem seenBy1_any (a b c d : Bool) (w : World) :
    Calls Try.prog 100 #[.agg #[.bool a, .bool b, .bool c, .bool d]] w fun e w' => e = .returned (.bool (clash4 (a, b, c, d))) ∧ Below w.heap.size w w' := by
  have hb : ∀ o : Obj, Below w.heap.size w (w.alloc o) := fun o => (Below.refl _ _).alloc (Nat.le_refl _) _
  cases a <;> cases b <;> cases c <;> cases d
  all_goals
    go_enter Try.func100, Try.ntmps100
    go_wp2
    go_ret
    exact ⟨rfl, hb _⟩

theorem indexSeen_any (T : TypeId) (base g n cap : Nat) (st : List B4) (w : World) (hO : O4 T w base (.slice (some ⟨g, 0, none⟩) n cap) st) (hs : st.length ≤ 16) :
    Calls Try.prog 106 #[.slice (some ⟨g, 0, none⟩) n cap, .func (.func 100) #[] #[]] w fun e w' => e = .returned (.int .i64 (idx4 clash4 st)) ∧ Below w.heap.size w w' := by
  obtain rfl := hO.len
  have hg := hO.size.2
  have HO := Lib.hid hO
  clear hO
  have eg := seenBy_enters
  go_enter Try.func106, Try.ntmps106
  go_wp2
  go_loopw [5, 8] (fun _ i wr => ∃ k : Nat, k ≤ st.length ∧ i = .int .i64 k ∧ Below w.heap.size w wr ∧ ∀ j, j < k → clash4 (st.getD j z4) = false) (fun _ i _ => st.length - (intOf i).toNat)
  case atStart => exact ⟨0, Nat.zero_le _, rfl, Below.refl _ _, fun j hj => absurd hj (Nat.not_lt_zero _)⟩
  case round =>
    obtain ⟨k, hk, rfl, hb, hno⟩ := hrel
    have HNO := Lib.hid hno
    clear hno
    by_cases hlt : k < st.length
    · obtain ⟨⟨g1, g2, g3, g4⟩, _⟩ := (HO.out.below hb).cell k hlt
      generalize hy : st.getD k z4 = y at g1 g2 g3 g4
      have HY := Lib.hid hy
      clear hy
      obtain ⟨a, b, c, d⟩ := y
      simp only at g1 g2 g3 g4
      have HC := seenBy1_any a b c d wr
      cases hq : clash4 (a, b, c, d) with
      | true =>
        rw [hq] at HC
        have HC' := Lib.hid HC
        have HQ := Lib.hid hq
        clear HC hq
        go_wp2_with (go_at_fn 100; refine HC'.out.mono ?_; rintro e w' ⟨rfl, hb'⟩)
        go_ret
        exact ⟨ret_int (idx4_hit clash4 st k hlt (by rw [HY.out]; exact HQ.out) HNO.out).symm, bthen hb hb'⟩
      | false =>
        rw [hq] at HC
        have HC' := Lib.hid HC
        have HQ := Lib.hid hq
        clear HC hq
        go_wp2_with (go_at_fn 100; refine HC'.out.mono ?_; rintro e w' ⟨rfl, hb'⟩)
        go_roundw
        case rel =>
          refine ⟨k + 1, by omega, by go_num, bthen hb hb', fun j hj => ?_⟩
          by_cases e : j = k
          · subst e; rw [HY.out]; exact HQ.out
          · exact HNO.out j (by omega)
        case measure => simp [intOf]; omega
    · go_wp2
      go_ret
      exact ⟨ret_int (idx4_miss clash4 st (fun j hj => HNO.out j (by omega))).symm, hb⟩

theorem containsSeen_any (T : TypeId) (base g n cap : Nat) (st : List B4) (w : World) (hO : O4 T w base (.slice (some ⟨g, 0, none⟩) n cap) st) (hs : st.length ≤ 16) :
    Calls Try.prog 99 #[.slice (some ⟨g, 0, none⟩) n cap, .func (.func 100) #[] #[]] w fun e w' => e = .returned (.bool (st.any clash4)) ∧ Below w.heap.size w w' := by
  have HA := Lib.hid (idx4_any clash4 st)
  have HO := Lib.hid hO
  clear hO
  go_enter Try.func99, Try.ntmps99
  go_wp2_with (go_at_call 106; refine (indexSeen_any T base g n cap st _ HO.out hs).mono ?_; rintro e w' ⟨rfl, hb'⟩)
  go_ret
  exact ⟨ret_bool HA.out, hb'⟩

set_option maxRecDepth 100000 in
set_option maxHeartbeats 1000000 in
theorem seenBy_any (n : Nat) (v : Value) (ts : List (Int × Int)) (w : World) (hv : SI P2 w v ts) (hok : okTrials n ts = true) :
    Calls Try.prog 80 #[.int .i64 n, v] w fun e w' => ∃ v', e = .returned (.tuple #[v', .bool (!clashes n ts)]) ∧ O4 108 w' w.heap.size v' (seenTo n ts) ∧ Below w.heap.size w w' := by
  obtain ⟨a, cap, rfl⟩ := hv.shape
  have hl := hv.len
  have HV := Lib.hid hv
  have HK := Lib.hid hok
  have hd := okTrials_depth hok
  have HD := Lib.hid hd
  have hn : 1 ≤ n ∧ n ≤ 4 := by simp [inB] at hd; omega
  obtain ⟨hn1, hn4⟩ := hn
  obtain ⟨e1, _, e3, e4⟩ := wrap_ex hd
  have hE : ex (n : Int) = ((2 ^ n : Nat) : Int) := by simp [ex]
  have e1' : wrap64 (2 ^ n) = ((2 ^ n : Nat) : Int) := by rw [← hE]; simpa using e1
  have hfit := fun k => fit4_seen hd (ts.take k)
  have hLt := fun (x : Int) (k : Nat) (hk : k < n) => wayAt_lt (n := n) x hk
  simp only [Int.toNat_natCast] at hfit
  have hN : 2 ^ n ≤ 16 := by omega
  generalize hNN : 2 ^ n = N at *
  have HFit := Lib.hid hfit
  have HLt := Lib.hid hLt
  have HNN := Lib.hid hNN
  have E1 := Lib.hid e1'
  clear hv hok hd e1 e1' hNN hE hfit hLt
  obtain ⟨j0, hj, jz0, jz1, jz2⟩ := info_parts infoSeen
  have HJ := Lib.hid hj
  clear hj
  go_enter Try.func80, Try.ntmps80
  go_wp2_with (at_make; refine wpList_make_full _ rfl _ _ 91 rfl w.heap.size 108 j0 (.agg #[.bool false, .bool false, .bool false, .bool false]) 4 Try.underlying91 HJ.out jz0 jz1 .i64 .i64 _ _ N rfl rfl E1.out E1.out (by rw [jz2]; omega) (by unfold maxLen; omega) (Nat.le_refl _) ?_; intro w2 hown hgr)
  have hb2 : Below w.heap.size w w2 := (Below.refl _ _).grown hgr (Nat.le_refl _) (by simp)
  have hO := O4.made hown
  have hg2 := hO.size.2
  have HZ := Lib.hid (show seenTo n (ts.take 0) = List.replicate N z4 by simp [seenTo, HNN.out])
  have HO := Lib.hid hO
  clear hown hgr hO
  have HSS := Lib.hid (fun (k : Nat) (hk : k < ts.length) => show seenTo n (ts.take (k + 1)) = trialTo n (ts.getD k (0, 0)) (seenTo n (ts.take k)) n by rw [take_snocG (0, 0) ts k hk, seenTo_snoc]; simp)
  go_loopw [18] (fun i wr => ∃ k : Nat, k ≤ ts.length ∧ i = .int .i64 k ∧ Below w.heap.size w wr ∧ O4 108 wr w.heap.size (.slice (some ⟨w.heap.size, 0, none⟩) N N) (seenTo n (ts.take k))) (fun i _ => ts.length - (intOf i).toNat)
  case atStart => exact ⟨0, Nat.zero_le _, rfl, hb2, by rw [HZ.out]; exact HO.out⟩
  case round =>
    obtain ⟨k, hk, rfl, hw, ho⟩ := hrel
    have hgw := ho.size.2
    have HOk := Lib.hid ho
    clear ho
    by_cases hlt : k < ts.length
    · obtain ⟨b, off, rfl, hb, hc⟩ := HV.out.cells2 (by omega)
      obtain ⟨g1, g2⟩ := hc k hlt
      replace g1 := (hw.cell (p := ⟨b, off + k * 2, none⟩) hb).trans g1
      replace g2 := (hw.cell (p := ⟨b, off + k * 2 + 1, none⟩) hb).trans g2
      clear hc
      have HP := okTrials_pair HK.out hlt
      have HS1 := Lib.hid (HSS.out k hlt)
      have HF := Lib.hid (HFit.out k)
      generalize ts.getD k (0, 0) = p at g1 g2 HP HS1
      generalize seenTo n (ts.take k) = st at HOk HS1 HF
      obtain ⟨x, y⟩ := p
      simp only at g1 g2 HP
      obtain ⟨⟨x0, x1⟩, y0, y1⟩ := HP
      go_wp2_with fail
      refine (switchesTo_any n y _ HD.out y0 (by omega)).mono ?_
      rintro e w3 ⟨wv, rfl, hwv, hb3⟩
      have hw3 : Below w.heap.size w w3 := bthen (hw.alloc hw.size _) hb3
      have hsz : wr.heap.size < w3.heap.size := Nat.lt_of_lt_of_le (by simp) hb3.size
      have hbA : Below wr.heap.size wr w3 := bthen ((Below.refl _ _).alloc (Nat.le_refl _) _) hb3
      have HO3 := Lib.hid (HOk.out.below hbA)
      have c1 : w3.cell? ⟨wr.heap.size, 0, none⟩ = some (.int .i64 x) := (hb3.cell (p := ⟨wr.heap.size, 0, none⟩) (by simp)).trans (by rw [World.cell?_alloc_at _ _ _ _ rfl]; rfl)
      have c2 : w3.cell? ⟨wr.heap.size, 1, none⟩ = some (.int .i64 y) := (hb3.cell (p := ⟨wr.heap.size, 1, none⟩) (by simp)).trans (by rw [World.cell?_alloc_at _ _ _ _ rfl]; rfl)
      have hwl : (way n y).length = n := by simp [way]
      obtain ⟨g', cap', rfl, hg'⟩ : ∃ g' cap', wv = .slice (some ⟨g', 0, none⟩) n cap' ∧ wr.heap.size < g' := by
        rcases hwv.shape with ⟨_, h⟩ | ⟨g', cap', h, h2, _⟩
        · rw [h] at hwl; simp at hwl; omega
        · exact ⟨g', cap', by rw [h, hwl], by have := h2; simp at this; omega⟩
      have HW := Lib.hid hwv
      clear hwv hbA hb3 g1 g2 hwl
      go_wp2_with fail
      go_loopw [27] (fun i wq => ∃ j : Nat, j ≤ n ∧ i = .int .i64 j ∧ Below w.heap.size w wq ∧ wr.heap.size < wq.heap.size ∧ O4 108 wq w.heap.size (.slice (some ⟨w.heap.size, 0, none⟩) N N) (trialTo n (x, y) st j) ∧ OI 2 wq (wr.heap.size + 1) (.slice (some ⟨g', 0, none⟩) n cap') (way n y) ∧ wq.cell? ⟨wr.heap.size, 0, none⟩ = some (.int .i64 x) ∧ wq.cell? ⟨wr.heap.size, 1, none⟩ = some (.int .i64 y)) (fun i _ => n - (intOf i).toNat)
      case atStart => exact ⟨0, Nat.zero_le _, rfl, hw3, hsz, HO3.out, by simpa using HW.out, c1, c2⟩
      case round =>
        obtain ⟨j, hj, rfl, hq, hsq, hoq, hwq, q1, q2⟩ := hrel
        by_cases hlj : j < n
        · have hv1 := (hwq.cell j (by simp [way]; omega)).1
          rw [way_getD n y j (by simpa using hlj)] at hv1
          have hvb := wayAt_bound n y j (by omega)
          have hvl := HLt.out y j hlj
          have HT := Lib.hid (trialTo_succ n (x, y) st j)
          have hlen : (trialTo n (x, y) st j).length = N := by rw [trialTo_length]; exact HF.out.1
          rw [stepS] at HT
          simp only at HT
          generalize wayAt n y j = vv at hv1 hvb hvl HT
          obtain ⟨m, rfl⟩ : ∃ m : Nat, vv = m := ⟨vv.toNat, by omega⟩
          simp only [Int.toNat_natCast] at hvl HT
          generalize trialTo n (x, y) st j = sj at hoq hlen HT
          have HWq := Lib.hid hwq
          have HOq := Lib.hid hoq
          have hdy := dig_01 n y j
          have hdx := dig_01 n x j
          generalize hgy : dig n y j = dy at hdy HT
          generalize hgx : dig n x j = dx at hdx HT
          have EY := Lib.hid hgy
          have EX := Lib.hid hgx
          clear hwq hoq hgx hgy hvb
          obtain ⟨⟨q3, q4, q5, q6⟩, qf⟩ := HOq.out.cell m (by omega)
          have qf0 := qf (m * 4)
          have qf1 := qf (m * 4 + 1)
          clear qf
          rcases (by omega : dy = 0 ∨ dy = 1) with rfl | rfl
          · rcases (by omega : dx = 0 ∨ dx = 1) with rfl | rfl
            · obtain ⟨a1, a2⟩ := HOq.out.led m (by omega) false
              simp only [Bool.false_eq_true, if_false, if_true, Nat.add_zero] at a1 a2
              have A1 := Lib.hid a1
              have A2 := Lib.hid a2
              clear a1 a2
              go_wp2_with (go_at_call 92; refine (digit_any _ _ _ _ (by omega) (by omega) (by omega) (by omega) (by omega)).mono ?_; rintro e w' ⟨rfl, rfl⟩; first | rw [EY.out] | rw [EX.out])
              go_roundw
              case rel =>
                refine ⟨j + 1, by omega, by go_num, bgrown hq A2.out (fun q hq' => by simp at hq'; omega), Nat.lt_of_lt_of_le hsq A2.out.size, ?_, HWq.out.grown A2.out (.inr (by simp [Value.ownBlock]; omega)), (World.cell?_of_block (A2.out.block _ hsq (by simp; omega))).trans q1, (World.cell?_of_block (A2.out.block _ hsq (by simp; omega))).trans q2⟩
                rw [HT.out, show (hit (sj.getD m z4) (((0 : Int)) == 1) ((0 : Int) != 0)) = led (sj.getD m z4) false from hit_led _ _]
                exact A1.out
              case measure => simp [intOf]; omega
            · obtain ⟨a1, a2⟩ := HOq.out.led m (by omega) false
              simp only [Bool.false_eq_true, if_false, if_true, Nat.add_zero] at a1 a2
              obtain ⟨b1, b2⟩ := a1.aga m (by simp; omega) false
              simp only [Bool.false_eq_true, if_false, if_true, Nat.add_zero, Nat.add_assoc, Nat.reduceAdd] at b1 b2
              obtain ⟨⟨r3, r4, r5, r6⟩, rf⟩ := a1.cell m (by simp; omega)
              have rf2 := rf (m * 4 + 2)
              have rf3 := rf (m * 4 + 3)
              clear rf
              have hgm : (sj.set m (led (sj.getD m z4) false)).getD m z4 = led (sj.getD m z4) false := by simp [List.getD, show m < sj.length by omega]
              rw [hgm, List.set_set] at b1
              have A1 := Lib.hid b1
              have A2 := Lib.hid (grownBy_trans a2 b2)
              clear a1 a2 b1 b2 hgm
              go_wp2_with (go_at_call 92; refine (digit_any _ _ _ _ (by omega) (by omega) (by omega) (by omega) (by omega)).mono ?_; rintro e w' ⟨rfl, rfl⟩; first | rw [EY.out] | rw [EX.out])
              go_roundw
              case rel =>
                refine ⟨j + 1, by omega, by go_num, bgrown hq A2.out (fun q hq' => by simp at hq'; omega), Nat.lt_of_lt_of_le hsq A2.out.size, ?_, HWq.out.grown A2.out (.inr (by simp [Value.ownBlock]; omega)), (World.cell?_of_block (A2.out.block _ hsq (by simp; omega))).trans q1, (World.cell?_of_block (A2.out.block _ hsq (by simp; omega))).trans q2⟩
                rw [HT.out, show (hit (sj.getD m z4) (((0 : Int)) == 1) ((1 : Int) != 0)) = aga (led (sj.getD m z4) false) false from hit_aga _ _]
                exact A1.out
              case measure => simp [intOf]; omega
          · rcases (by omega : dx = 0 ∨ dx = 1) with rfl | rfl
            · obtain ⟨a1, a2⟩ := HOq.out.led m (by omega) true
              simp only [Bool.false_eq_true, if_false, if_true, Nat.add_zero] at a1 a2
              obtain ⟨b1, b2⟩ := a1.aga m (by simp; omega) true
              simp only [Bool.false_eq_true, if_false, if_true, Nat.add_zero, Nat.add_assoc, Nat.reduceAdd] at b1 b2
              obtain ⟨⟨r3, r4, r5, r6⟩, rf⟩ := a1.cell m (by simp; omega)
              have rf2 := rf (m * 4 + 2)
              have rf3 := rf (m * 4 + 3)
              clear rf
              have hgm : (sj.set m (led (sj.getD m z4) true)).getD m z4 = led (sj.getD m z4) true := by simp [List.getD, show m < sj.length by omega]
              rw [hgm, List.set_set] at b1
              have A1 := Lib.hid b1
              have A2 := Lib.hid (grownBy_trans a2 b2)
              clear a1 a2 b1 b2 hgm
              go_wp2_with (go_at_call 92; refine (digit_any _ _ _ _ (by omega) (by omega) (by omega) (by omega) (by omega)).mono ?_; rintro e w' ⟨rfl, rfl⟩; first | rw [EY.out] | rw [EX.out])
              go_roundw
              case rel =>
                refine ⟨j + 1, by omega, by go_num, bgrown hq A2.out (fun q hq' => by simp at hq'; omega), Nat.lt_of_lt_of_le hsq A2.out.size, ?_, HWq.out.grown A2.out (.inr (by simp [Value.ownBlock]; omega)), (World.cell?_of_block (A2.out.block _ hsq (by simp; omega))).trans q1, (World.cell?_of_block (A2.out.block _ hsq (by simp; omega))).trans q2⟩
                rw [HT.out, show (hit (sj.getD m z4) (((1 : Int)) == 1) ((0 : Int) != 1)) = aga (led (sj.getD m z4) true) true from hit_aga _ _]
                exact A1.out
              case measure => simp [intOf]; omega
            · obtain ⟨a1, a2⟩ := HOq.out.led m (by omega) true
              simp only [Bool.false_eq_true, if_false, if_true, Nat.add_zero] at a1 a2
              have A1 := Lib.hid a1
              have A2 := Lib.hid a2
              clear a1 a2
              go_wp2_with (go_at_call 92; refine (digit_any _ _ _ _ (by omega) (by omega) (by omega) (by omega) (by omega)).mono ?_; rintro e w' ⟨rfl, rfl⟩; first | rw [EY.out] | rw [EX.out])
              go_roundw
              case rel =>
                refine ⟨j + 1, by omega, by go_num, bgrown hq A2.out (fun q hq' => by simp at hq'; omega), Nat.lt_of_lt_of_le hsq A2.out.size, ?_, HWq.out.grown A2.out (.inr (by simp [Value.ownBlock]; omega)), (World.cell?_of_block (A2.out.block _ hsq (by simp; omega))).trans q1, (World.cell?_of_block (A2.out.block _ hsq (by simp; omega))).trans q2⟩
                rw [HT.out, show (hit (sj.getD m z4) (((1 : Int)) == 1) ((1 : Int) != 1)) = led (sj.getD m z4) true from hit_led _ _]
                exact A1.out
              case measure => simp [intOf]; omega
        · have hjn : j = n := by omega
          subst hjn
          have HOq := Lib.hid hoq
          clear hoq hwq
          go_wp2_with fail
          go_roundw
          case rel => exact ⟨k + 1, by omega, by go_num, hq, by rw [HS1.out]; exact HOq.out⟩
          case measure => simp [intOf]; omega
    · have HF := (HFit.out ts.length)
      rw [List.take_of_length_le (Nat.le_refl _)] at HF
      have hkn : k = ts.length := by omega
      subst hkn
      have HOk2 := HOk.out
      rw [List.take_of_length_le (Nat.le_refl _)] at HOk2
      have HO2 := Lib.hid HOk2
      have HC := Lib.hid (show (seenTo n ts).any clash4 = clashes n ts by rfl)
      have hlen := HF.1
      clear HOk2 HF
      go_wp2_with fail
      refine (containsSeen_any 108 w.heap.size w.heap.size N N _ _ HO2.out (by omega)).mono ?_
      rintro e w9 ⟨rfl, hb9⟩
      rw [HC.out]
      go_wp2
      go_ret2
      exact ⟨_, rfl, HO2.out.below hb9, bthen hw hb9⟩

end Go.Proofs.Ytejnfngnofilfaa
