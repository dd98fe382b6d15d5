/-
  What trials tell of switches, of the reference and of the program: what each side's table is.
  What trials tell of switches, of the reference: its two tables.
  Lists of records of type Stuck: the copy, the size, the comparison, by contracts.
  The fewest stuck switches of the reference: what it returns.
  The program's diagnosis of trials: the fewest stuck switches and the letters of all switches.
  KnownSwitches of the reference and of the program: what each returns.
  KnownSwitches of the reference and of the program: what each returns.
-/
import Derived.Test.YthlpbeohlhhblaaGreatTopP
import Derived.Test.YthlpbeohlhhblaaGreatTopO
import Derived.Test.YthlpbeohlhhblaaGreatTopB
import Derived.Test.YthlpbeohlhhblaaGreatTopN
import Derived.Deep.RegionWith
import Derived.Laws.BytesArg
namespace Go.Proofs.YthlpbeohlhhblaaGreat
open Go.RowKit

theorem infoSeen : (Tryz.prog.info? 136).map (fun i => (i.zero, i.size, i.bytes)) = some (some (.agg #[.bool false, .bool false, .bool false, .bool false]), 4, 4) := by kernel_rfl

theorem okTrials_depth {d : Int} {ts : List (Int × Int)} (h : okTrials d ts = true) : inB 1 4 d = true := by simp [okTrials] at h; exact h.1.1
theorem okTrials_pair {d : Int} {ts : List (Int × Int)} (h : okTrials d ts = true) {k : Nat} (hk : k < ts.length) : (0 ≤ (ts.getD k (0, 0)).1 ∧ (ts.getD k (0, 0)).1 ≤ 15) ∧ 0 ≤ (ts.getD k (0, 0)).2 ∧ (ts.getD k (0, 0)).2 ≤ 15 := by
  have hd := okTrials_depth h
  have he := (wrap_ex hd).2.2.2
  simp only [okTrials, Bool.and_eq_true, List.all_eq_true] at h
  have h1 := h.1.2 _ (List.getElem_mem hk)
  simp only [List.getD, List.getElem?_eq_getElem hk, Option.getD_some]
  simp only [okTrial, inB, Bool.and_eq_true, decide_eq_true_eq] at h1
  omega
theorem way_getD (d x : Int) (k : Nat) (hk : k < d.toNat) : (way d x).getD k 0 = wayAt d x k := by simp [way, List.getD, hk]
theorem way_length (d x : Int) : (way d x).length = d.toNat := by simp [way]
theorem wayAt_lt {n : Nat} (x : Int) {k : Nat} (hk : k < n) : (wayAt n x k).toNat < 2 ^ n := by
  have h := wayAt_pow n x k
  have h2 : (2 : Nat) ^ (k + 1) ≤ 2 ^ n := Nat.pow_le_pow_right (by omega) (by omega)
  have h3 : ((2 ^ (k + 1) : Nat) : Int) = 2 ^ (k + 1) := by simp
  have h4 : ((2 ^ (k + 1) : Nat) : Int) ≤ ((2 ^ n : Nat) : Int) := by exact_mod_cast h2
  omega

/-- The first place of a list at which p holds; -1 if there is none. -/
def idx4 (p : B4 → Bool) (xs : List B4) : Int := match xs.findIdx? p with | some i => (i : Int) | none => -1
theorem idx4_hit (p : B4 → Bool) (xs : List B4) (k : Nat) (hk : k < xs.length) (hp : p (xs.getD k z4) = true) (hn : ∀ j, j < k → p (xs.getD j z4) = false) : idx4 p xs = k := by
  have : xs.findIdx? p = some k := by
    rw [List.findIdx?_eq_some_iff_getElem]
    refine ⟨hk, by simpa [List.getD, hk] using hp, fun j hj => ?_⟩
    have := hn j hj
    simpa [List.getD, Nat.lt_trans hj hk] using this
  simp [idx4, this]
theorem idx4_miss (p : B4 → Bool) (xs : List B4) (hn : ∀ j, j < xs.length → p (xs.getD j z4) = false) : idx4 p xs = -1 := by
  have : xs.findIdx? p = none := by
    rw [List.findIdx?_eq_none_iff]
    intro x hx
    obtain ⟨j, hj, rfl⟩ := List.getElem_of_mem hx
    have := hn j hj
    simpa only [List.getD, List.getElem?_eq_getElem hj, Option.getD_some] using this
  simp [idx4, this]
theorem idx4_any (p : B4 → Bool) (xs : List B4) : decide (0 ≤ idx4 p xs) = xs.any p := by
  unfold idx4
  cases h : xs.findIdx? p with
  | none =>
    rw [List.findIdx?_eq_none_iff] at h
    have : xs.any p = false := by rw [List.any_eq_false]; intro x hx; simp [h x hx]
    simp [this]
  | some i =>
    rw [List.findIdx?_eq_some_iff_getElem] at h
    obtain ⟨hi, hp, _⟩ := h
    have : xs.any p = true := by rw [List.any_eq_true]; exact ⟨_, List.getElem_mem hi, hp⟩
    simp [this]

theorem seenBy_enters : ∀ args w, (callFunc 105 args).run Tryz.prog w = .ok (.enter 105 args) w := enters_of Tryz.func105 (by kernel_rfl) rfl

theorem seenBy1_any (a b c d : Bool) (w : World) :
    Calls Tryz.prog 105 #[.agg #[.bool a, .bool b, .bool c, .bool d]] w fun e w' => e = .returned (.bool (clash4 (a, b, c, d))) ∧ Below w.heap.size w w' := by
  have hb : ∀ o : Obj, Below w.heap.size w (w.alloc o) := fun o => (Below.refl _ _).alloc (Nat.le_refl _) _
  cases a <;> cases b <;> cases c <;> cases d
  all_goals
    go_enter Tryz.func105, Tryz.ntmps105
    go_wp2
    go_ret
    exact ⟨rfl, hb _⟩

theorem indexSeen_any (T : TypeId) (base g n cap : Nat) (st : List B4) (w : World) (hO : O4 T w base (.slice (some ⟨g, 0, none⟩) n cap) st) (hs : st.length ≤ 16) :
    Calls Tryz.prog 109 #[.slice (some ⟨g, 0, none⟩) n cap, .func (.func 105) #[] #[]] w fun e w' => e = .returned (.int .i64 (idx4 clash4 st)) ∧ Below w.heap.size w w' := by
  obtain rfl := hO.len
  have hg := hO.size.2
  have HO := Lib.hid hO
  clear hO
  have eg := seenBy_enters
  go_enter Tryz.func109, Tryz.ntmps109
  go_wp2
  go_loopw [5, 8] (fun _ i wr => ∃ k : Nat, k ≤ st.length ∧ i = .int .i64 k ∧ Below w.heap.size w wr ∧ ∀ j, j < k → clash4 (st.getD j z4) = false) (fun _ i _ => st.length - (intOf i).toNat)
  case atStart => exact ⟨0, Nat.zero_le _, rfl, Below.refl _ _, fun j hj => absurd hj (Nat.not_lt_zero _)⟩
  case round =>
    obtain ⟨k, hk, rfl, hb, hno⟩ := hrel
    have HNO := Lib.hid hno
    clear hno
    by_cases hlt : k < st.length
    · obtain ⟨⟨g1, g2, g3, g4⟩, _⟩ := (HO.out.below hb).cell k hlt
      generalize hy : st.getD k z4 = y at g1 g2 g3 g4
      have HY := Lib.hid hy
      clear hy
      obtain ⟨a, b, c, d⟩ := y
      simp only at g1 g2 g3 g4
      have HC := seenBy1_any a b c d wr
      cases hq : clash4 (a, b, c, d) with
      | true =>
        rw [hq] at HC
        have HC' := Lib.hid HC
        have HQ := Lib.hid hq
        clear HC hq
        go_wp2_with (go_at_fn 105; refine HC'.out.mono ?_; rintro e w' ⟨rfl, hb'⟩)
        go_ret
        exact ⟨ret_int (idx4_hit clash4 st k hlt (by rw [HY.out]; exact HQ.out) HNO.out).symm, bthen hb hb'⟩
      | false =>
        rw [hq] at HC
        have HC' := Lib.hid HC
        have HQ := Lib.hid hq
        clear HC hq
        go_wp2_with (go_at_fn 105; refine HC'.out.mono ?_; rintro e w' ⟨rfl, hb'⟩)
        go_roundw
        case rel =>
          refine ⟨k + 1, by omega, by go_num, bthen hb hb', fun j hj => ?_⟩
          by_cases e : j = k
          · subst e; rw [HY.out]; exact HQ.out
          · exact HNO.out j (by omega)
        case measure => simp [intOf]; omega
    · go_wp2
      go_ret
      exact ⟨ret_int (idx4_miss clash4 st (fun j hj => HNO.out j (by omega))).symm, hb⟩

theorem containsSeen_any (T : TypeId) (base g n cap : Nat) (st : List B4) (w : World) (hO : O4 T w base (.slice (some ⟨g, 0, none⟩) n cap) st) (hs : st.length ≤ 16) :
    Calls Tryz.prog 104 #[.slice (some ⟨g, 0, none⟩) n cap, .func (.func 105) #[] #[]] w fun e w' => e = .returned (.bool (st.any clash4)) ∧ Below w.heap.size w w' := by
  have HA := Lib.hid (idx4_any clash4 st)
  have HO := Lib.hid hO
  clear hO
  go_enter Tryz.func104, Tryz.ntmps104
  go_wp2_with (go_at_call 109; refine (indexSeen_any T base g n cap st _ HO.out hs).mono ?_; rintro e w' ⟨rfl, hb'⟩)
  go_ret
  exact ⟨ret_bool HA.out, hb'⟩

set_option maxRecDepth 100000 in
set_option maxHeartbeats 1000000 in
theorem seenBy_any (n : Nat) (v : Value) (ts : List (Int × Int)) (w : World) (hv : SI P2 w v ts) (hok : okTrials n ts = true) :
    Calls Tryz.prog 82 #[.int .i64 n, v] w fun e w' => ∃ v', e = .returned (.tuple #[v', .bool (!clashes n ts)]) ∧ O4 136 w' w.heap.size v' (seenTo n ts) ∧ Below w.heap.size w w' := by
  obtain ⟨a, cap, rfl⟩ := hv.shape
  have hl := hv.len
  have HV := Lib.hid hv
  have HK := Lib.hid hok
  have hd := okTrials_depth hok
  have HD := Lib.hid hd
  have hn : 1 ≤ n ∧ n ≤ 4 := by simp [inB] at hd; omega
  obtain ⟨hn1, hn4⟩ := hn
  obtain ⟨e1, _, e3, e4⟩ := wrap_ex hd
  have hE : ex (n : Int) = ((2 ^ n : Nat) : Int) := by simp [ex]
  have e1' : wrap64 (2 ^ n) = ((2 ^ n : Nat) : Int) := by rw [← hE]; simpa using e1
  have hfit := fun k => fit4_seen hd (ts.take k)
  have hLt := fun (x : Int) (k : Nat) (hk : k < n) => wayAt_lt (n := n) x hk
  simp only [Int.toNat_natCast] at hfit
  have hN : 2 ^ n ≤ 16 := by omega
  generalize hNN : 2 ^ n = N at *
  have HFit := Lib.hid hfit
  have HLt := Lib.hid hLt
  have HNN := Lib.hid hNN
  have E1 := Lib.hid e1'
  clear hv hok hd e1 e1' hNN hE hfit hLt
  obtain ⟨j0, hj, jz0, jz1, jz2⟩ := info_parts infoSeen
  have HJ := Lib.hid hj
  clear hj
  go_enter Tryz.func82, Tryz.ntmps82
  go_wp2_with (at_make; refine wpList_make_full _ rfl _ _ 131 rfl w.heap.size 136 j0 (.agg #[.bool false, .bool false, .bool false, .bool false]) 4 Tryz.underlying131 HJ.out jz0 jz1 .i64 .i64 _ _ N rfl rfl E1.out E1.out (by rw [jz2]; omega) (by unfold maxLen; omega) (Nat.le_refl _) ?_; intro w2 hown hgr)
  have hb2 : Below w.heap.size w w2 := (Below.refl _ _).grown hgr (Nat.le_refl _) (by simp)
  have hO := O4.made hown
  have hg2 := hO.size.2
  have HZ := Lib.hid (show seenTo n (ts.take 0) = List.replicate N z4 by simp [seenTo, HNN.out])
  have HO := Lib.hid hO
  clear hown hgr hO
  have HSS := Lib.hid (fun (k : Nat) (hk : k < ts.length) => show seenTo n (ts.take (k + 1)) = trialTo n (ts.getD k (0, 0)) (seenTo n (ts.take k)) n by rw [take_snocG (0, 0) ts k hk, seenTo_snoc]; simp)
  go_loopw [18] (fun i wr => ∃ k : Nat, k ≤ ts.length ∧ i = .int .i64 k ∧ Below w.heap.size w wr ∧ O4 136 wr w.heap.size (.slice (some ⟨w.heap.size, 0, none⟩) N N) (seenTo n (ts.take k))) (fun i _ => ts.length - (intOf i).toNat)
  case atStart => exact ⟨0, Nat.zero_le _, rfl, hb2, by rw [HZ.out]; exact HO.out⟩
  case round =>
    obtain ⟨k, hk, rfl, hw, ho⟩ := hrel
    have hgw := ho.size.2
    have HOk := Lib.hid ho
    clear ho
    by_cases hlt : k < ts.length
    · obtain ⟨b, off, rfl, hb, hc⟩ := HV.out.cells2 (by omega)
      obtain ⟨g1, g2⟩ := hc k hlt
      replace g1 := (hw.cell (p := ⟨b, off + k * 2, none⟩) hb).trans g1
      replace g2 := (hw.cell (p := ⟨b, off + k * 2 + 1, none⟩) hb).trans g2
      clear hc
      have HP := okTrials_pair HK.out hlt
      have HS1 := Lib.hid (HSS.out k hlt)
      have HF := Lib.hid (HFit.out k)
      generalize ts.getD k (0, 0) = p at g1 g2 HP HS1
      generalize seenTo n (ts.take k) = st at HOk HS1 HF
      obtain ⟨x, y⟩ := p
      simp only at g1 g2 HP
      obtain ⟨⟨x0, x1⟩, y0, y1⟩ := HP
      go_wp2_with fail
      refine (switchesTo_any n y _ HD.out y0 (by omega)).mono ?_
      rintro e w3 ⟨wv, rfl, hwv, hb3⟩
      have hw3 : Below w.heap.size w w3 := bthen (hw.alloc hw.size _) hb3
      have hsz : wr.heap.size < w3.heap.size := Nat.lt_of_lt_of_le (by simp) hb3.size
      have hbA : Below wr.heap.size wr w3 := bthen ((Below.refl _ _).alloc (Nat.le_refl _) _) hb3
      have HO3 := Lib.hid (HOk.out.below hbA)
      have c1 : w3.cell? ⟨wr.heap.size, 0, none⟩ = some (.int .i64 x) := (hb3.cell (p := ⟨wr.heap.size, 0, none⟩) (by simp)).trans (by rw [World.cell?_alloc_at _ _ _ _ rfl]; rfl)
      have c2 : w3.cell? ⟨wr.heap.size, 1, none⟩ = some (.int .i64 y) := (hb3.cell (p := ⟨wr.heap.size, 1, none⟩) (by simp)).trans (by rw [World.cell?_alloc_at _ _ _ _ rfl]; rfl)
      have hwl : (way n y).length = n := by simp [way]
      obtain ⟨g', cap', rfl, hg'⟩ : ∃ g' cap', wv = .slice (some ⟨g', 0, none⟩) n cap' ∧ wr.heap.size < g' := by
        rcases hwv.shape with ⟨_, h⟩ | ⟨g', cap', h, h2, _⟩
        · rw [h] at hwl; simp at hwl; omega
        · exact ⟨g', cap', by rw [h, hwl], by have := h2; simp at this; omega⟩
      have HW := Lib.hid hwv
      clear hwv hbA hb3 g1 g2 hwl
      go_wp2_with fail
      go_loopw [27] (fun i wq => ∃ j : Nat, j ≤ n ∧ i = .int .i64 j ∧ Below w.heap.size w wq ∧ wr.heap.size < wq.heap.size ∧ O4 136 wq w.heap.size (.slice (some ⟨w.heap.size, 0, none⟩) N N) (trialTo n (x, y) st j) ∧ OI 2 wq (wr.heap.size + 1) (.slice (some ⟨g', 0, none⟩) n cap') (way n y) ∧ wq.cell? ⟨wr.heap.size, 0, none⟩ = some (.int .i64 x) ∧ wq.cell? ⟨wr.heap.size, 1, none⟩ = some (.int .i64 y)) (fun i _ => n - (intOf i).toNat)
      case atStart => exact ⟨0, Nat.zero_le _, rfl, hw3, hsz, HO3.out, by simpa using HW.out, c1, c2⟩
      case round =>
        obtain ⟨j, hj, rfl, hq, hsq, hoq, hwq, q1, q2⟩ := hrel
        by_cases hlj : j < n
        · have hv1 := (hwq.cell j (by simp [way]; omega)).1
          rw [way_getD n y j (by simpa using hlj)] at hv1
          have hvb := wayAt_bound n y j (by omega)
          have hvl := HLt.out y j hlj
          have HT := Lib.hid (trialTo_succ n (x, y) st j)
          have hlen : (trialTo n (x, y) st j).length = N := by rw [trialTo_length]; exact HF.out.1
          rw [stepS] at HT
          simp only at HT
          generalize wayAt n y j = vv at hv1 hvb hvl HT
          obtain ⟨m, rfl⟩ : ∃ m : Nat, vv = m := ⟨vv.toNat, by omega⟩
          simp only [Int.toNat_natCast] at hvl HT
          generalize trialTo n (x, y) st j = sj at hoq hlen HT
          have HWq := Lib.hid hwq
          have HOq := Lib.hid hoq
          have hdy := dig_01 n y j
          have hdx := dig_01 n x j
          generalize hgy : dig n y j = dy at hdy HT
          generalize hgx : dig n x j = dx at hdx HT
          have EY := Lib.hid hgy
          have EX := Lib.hid hgx
          clear hwq hoq hgx hgy hvb
          obtain ⟨⟨q3, q4, q5, q6⟩, qf⟩ := HOq.out.cell m (by omega)
          have qf0 := qf (m * 4)
          have qf1 := qf (m * 4 + 1)
          clear qf
          rcases (by omega : dy = 0 ∨ dy = 1) with rfl | rfl
          · rcases (by omega : dx = 0 ∨ dx = 1) with rfl | rfl
            · obtain ⟨a1, a2⟩ := HOq.out.led m (by omega) false
              simp only [Bool.false_eq_true, if_false, if_true, Nat.add_zero] at a1 a2
              have A1 := Lib.hid a1
              have A2 := Lib.hid a2
              clear a1 a2
              go_wp2_with (go_at_call 81; refine (digit_any _ _ _ _ (by omega) (by omega) (by omega) (by omega) (by omega)).mono ?_; rintro e w' ⟨rfl, rfl⟩; first | rw [EY.out] | rw [EX.out])
              go_roundw
              case rel =>
                refine ⟨j + 1, by omega, by go_num, bgrown hq A2.out (fun q hq' => by simp at hq'; omega), Nat.lt_of_lt_of_le hsq A2.out.size, ?_, HWq.out.grown A2.out (.inr (by simp [Value.ownBlock]; omega)), (World.cell?_of_block (A2.out.block _ hsq (by simp; omega))).trans q1, (World.cell?_of_block (A2.out.block _ hsq (by simp; omega))).trans q2⟩
                rw [HT.out, show (hit (sj.getD m z4) (((0 : Int)) == 1) ((0 : Int) != 0)) = led (sj.getD m z4) false from hit_led _ _]
                exact A1.out
              case measure => simp [intOf]; omega
            · obtain ⟨a1, a2⟩ := HOq.out.led m (by omega) false
              simp only [Bool.false_eq_true, if_false, if_true, Nat.add_zero] at a1 a2
              obtain ⟨b1, b2⟩ := a1.aga m (by simp; omega) false
              simp only [Bool.false_eq_true, if_false, if_true, Nat.add_zero, Nat.add_assoc, Nat.reduceAdd] at b1 b2
              obtain ⟨⟨r3, r4, r5, r6⟩, rf⟩ := a1.cell m (by simp; omega)
              have rf2 := rf (m * 4 + 2)
              have rf3 := rf (m * 4 + 3)
              clear rf
              have hgm : (sj.set m (led (sj.getD m z4) false)).getD m z4 = led (sj.getD m z4) false := by simp [List.getD, show m < sj.length by omega]
              rw [hgm, List.set_set] at b1
              have A1 := Lib.hid b1
              have A2 := Lib.hid (grownBy_trans a2 b2)
              clear a1 a2 b1 b2 hgm
              go_wp2_with (go_at_call 81; refine (digit_any _ _ _ _ (by omega) (by omega) (by omega) (by omega) (by omega)).mono ?_; rintro e w' ⟨rfl, rfl⟩; first | rw [EY.out] | rw [EX.out])
              go_roundw
              case rel =>
                refine ⟨j + 1, by omega, by go_num, bgrown hq A2.out (fun q hq' => by simp at hq'; omega), Nat.lt_of_lt_of_le hsq A2.out.size, ?_, HWq.out.grown A2.out (.inr (by simp [Value.ownBlock]; omega)), (World.cell?_of_block (A2.out.block _ hsq (by simp; omega))).trans q1, (World.cell?_of_block (A2.out.block _ hsq (by simp; omega))).trans q2⟩
                rw [HT.out, show (hit (sj.getD m z4) (((0 : Int)) == 1) ((1 : Int) != 0)) = aga (led (sj.getD m z4) false) false from hit_aga _ _]
                exact A1.out
              case measure => simp [intOf]; omega
          · rcases (by omega : dx = 0 ∨ dx = 1) with rfl | rfl
            · obtain ⟨a1, a2⟩ := HOq.out.led m (by omega) true
              simp only [Bool.false_eq_true, if_false, if_true, Nat.add_zero] at a1 a2
              obtain ⟨b1, b2⟩ := a1.aga m (by simp; omega) true
              simp only [Bool.false_eq_true, if_false, if_true, Nat.add_zero, Nat.add_assoc, Nat.reduceAdd] at b1 b2
              obtain ⟨⟨r3, r4, r5, r6⟩, rf⟩ := a1.cell m (by simp; omega)
              have rf2 := rf (m * 4 + 2)
              have rf3 := rf (m * 4 + 3)
              clear rf
              have hgm : (sj.set m (led (sj.getD m z4) true)).getD m z4 = led (sj.getD m z4) true := by simp [List.getD, show m < sj.length by omega]
              rw [hgm, List.set_set] at b1
              have A1 := Lib.hid b1
              have A2 := Lib.hid (grownBy_trans a2 b2)
              clear a1 a2 b1 b2 hgm
              go_wp2_with (go_at_call 81; refine (digit_any _ _ _ _ (by omega) (by omega) (by omega) (by omega) (by omega)).mono ?_; rintro e w' ⟨rfl, rfl⟩; first | rw [EY.out] | rw [EX.out])
              go_roundw
              case rel =>
                refine ⟨j + 1, by omega, by go_num, bgrown hq A2.out (fun q hq' => by simp at hq'; omega), Nat.lt_of_lt_of_le hsq A2.out.size, ?_, HWq.out.grown A2.out (.inr (by simp [Value.ownBlock]; omega)), (World.cell?_of_block (A2.out.block _ hsq (by simp; omega))).trans q1, (World.cell?_of_block (A2.out.block _ hsq (by simp; omega))).trans q2⟩
                rw [HT.out, show (hit (sj.getD m z4) (((1 : Int)) == 1) ((0 : Int) != 1)) = aga (led (sj.getD m z4) true) true from hit_aga _ _]
                exact A1.out
              case measure => simp [intOf]; omega
            · obtain ⟨a1, a2⟩ := HOq.out.led m (by omega) true
              simp only [Bool.false_eq_true, if_false, if_true, Nat.add_zero] at a1 a2
              have A1 := Lib.hid a1
              have A2 := Lib.hid a2
              clear a1 a2
              go_wp2_with (go_at_call 81; refine (digit_any _ _ _ _ (by omega) (by omega) (by omega) (by omega) (by omega)).mono ?_; rintro e w' ⟨rfl, rfl⟩; first | rw [EY.out] | rw [EX.out])
              go_roundw
              case rel =>
                refine ⟨j + 1, by omega, by go_num, bgrown hq A2.out (fun q hq' => by simp at hq'; omega), Nat.lt_of_lt_of_le hsq A2.out.size, ?_, HWq.out.grown A2.out (.inr (by simp [Value.ownBlock]; omega)), (World.cell?_of_block (A2.out.block _ hsq (by simp; omega))).trans q1, (World.cell?_of_block (A2.out.block _ hsq (by simp; omega))).trans q2⟩
                rw [HT.out, show (hit (sj.getD m z4) (((1 : Int)) == 1) ((1 : Int) != 1)) = led (sj.getD m z4) true from hit_led _ _]
                exact A1.out
              case measure => simp [intOf]; omega
        · have hjn : j = n := by omega
          subst hjn
          have HOq := Lib.hid hoq
          clear hoq hwq
          go_wp2_with fail
          go_roundw
          case rel => exact ⟨k + 1, by omega, by go_num, hq, by rw [HS1.out]; exact HOq.out⟩
          case measure => simp [intOf]; omega
    · have HF := (HFit.out ts.length)
      rw [List.take_of_length_le (Nat.le_refl _)] at HF
      have hkn : k = ts.length := by omega
      subst hkn
      have HOk2 := HOk.out
      rw [List.take_of_length_le (Nat.le_refl _)] at HOk2
      have HO2 := Lib.hid HOk2
      have HC := Lib.hid (show (seenTo n ts).any clash4 = clashes n ts by rfl)
      have hlen := HF.1
      clear HOk2 HF
      go_wp2_with fail
      refine (containsSeen_any 136 w.heap.size w.heap.size N N _ _ HO2.out (by omega)).mono ?_
      rintro e w9 ⟨rfl, hb9⟩
      rw [HC.out]
      go_wp2
      go_ret2
      exact ⟨_, rfl, HO2.out.below hb9, bthen hw hb9⟩

end Go.Proofs.YthlpbeohlhhblaaGreat
namespace Go.Proofs.YthlpbeohlhhblaaGreat
open Go.RowKit

theorem infoBoolS : (Tryz.prog.info? 4).map (fun i => (i.zero, i.size, i.bytes)) = some (some (.bool false), 1, 1) := by kernel_rfl

theorem map4_getD {α : Type} (f : B4 → α) (st : List B4) (m : Nat) (hm : m < st.length) (z : α) : (st.map f).getD m z = f (st.getD m z4) := by simp [List.getD, hm]

end Go.Proofs.YthlpbeohlhhblaaGreat
namespace Go.Proofs.YthlpbeohlhhblaaGreat
open Go.RowKit

theorem infoStuck : (Tryz.prog.info? 128).map (fun i => (i.zero, i.size, i.bytes)) = some (some (.agg #[.int .i64 0, .int .i64 0]), 2, 16) := by kernel_rfl

end Go.Proofs.YthlpbeohlhhblaaGreat
namespace Go.Proofs.YthlpbeohlhhblaaGreat
open Go.RowKit

theorem OB.shape {e : TypeId} {w : World} {base : Nat} {v : Value} {bs : List Bool} (h : OB e w base v bs) : (v = .slice none 0 0 ∧ bs = []) ∨ ∃ g cap, v = .slice (some ⟨g, 0, none⟩) bs.length cap ∧ base ≤ g ∧ g < w.heap.size := by
  rcases h.2 with ⟨h1, h0⟩ | ⟨g, cap, cur, rfl, hbg, hg, r⟩
  · exact .inl ⟨h1, List.length_eq_zero_iff.1 h0⟩
  · exact .inr ⟨g, cap, rfl, hbg, (Array.getElem?_eq_some_iff.1 hg).1⟩

/-- The side of a stuck switch. -/
def side4 (s : B4) : Int := if s.2.2.1 then 0 else 1
/-- The stuck ones of the first switches. -/
def fewTo (st : List B4) (k : Nat) : List (Int × Int) := ((List.range k).filter fun v => wrong4 (st.getD v z4)).map fun (v : Nat) => ((v : Int), side4 (st.getD v z4))
theorem fewTo_yes {st : List B4} {k : Nat} (h : wrong4 (st.getD k z4) = true) : fewTo st (k + 1) = fewTo st k ++ [((k : Int), side4 (st.getD k z4))] := by
  unfold fewTo
  rw [List.range_succ, List.filter_append, List.map_append, List.filter_cons_of_pos (by simpa using h)]
  rfl
theorem fewTo_no {st : List B4} {k : Nat} (h : wrong4 (st.getD k z4) = false) : fewTo st (k + 1) = fewTo st k := by
  unfold fewTo
  rw [List.range_succ, List.filter_append, List.map_append, List.filter_cons_of_neg (by show ¬ (wrong4 (st.getD k z4) = true); rw [h]; exact Bool.false_ne_true)]
  simp
theorem fewTo_len (st : List B4) (k : Nat) : (fewTo st k).length ≤ k := by
  unfold fewTo
  rw [List.length_map]
  exact Nat.le_trans (List.length_filter_le _ _) (by simp)
theorem fewTo_one {n : Nat} {st : List B4} (h : fit4 n st) : fewTo st 1 = [] := by
  rw [fewTo_no (by rw [h.2.2]; rfl)]; rfl
theorem side4_sides {s : B4} (h : good4 s) (h1 : wrong4 s = true) (h2 : sides4 s ≠ 3) : sides4 s - 1 = side4 s := by
  obtain ⟨x, y, c, e⟩ := s
  cases x <;> cases y <;> cases c <;> cases e <;> simp_all [good4, wrong4, sides4, side4]
theorem any4_hit {st : List B4} {k : Nat} (hk : k < st.length) (h : clash4 (st.getD k z4) = true) : st.any clash4 = true := by
  rw [List.any_eq_true]
  refine ⟨st[k], List.getElem_mem hk, ?_⟩
  simpa [List.getD, hk] using h
theorem any4_miss {st : List B4} (h : ∀ j, j < st.length → clash4 (st.getD j z4) = false) : st.any clash4 = false := by
  rw [List.any_eq_false]
  intro x hx
  obtain ⟨j, hj, rfl⟩ := List.getElem_of_mem hx
  have := h j hj
  simpa [List.getD, hj] using this

/-- What the fewest stuck switches are; [] if nothing explains the trials. -/
def fewest (n : Nat) (ts : List (Int × Int)) : List (Int × Int) := if clashes n ts then [] else fewTo (seenTo n ts) (2 ^ n)
def codeF (d : Int) (ts : List (Int × Int)) : Int := if okTrials d ts then (if clashes d ts then 9 else 0) else 1
def valFewest (d : Int) (ts : List (Int × Int)) : List (Int × Int) × Int := (if okTrials d ts then fewest d.toNat ts else [], codeF d ts)
theorem fewest_len {n : Nat} {ts : List (Int × Int)} (h : okTrials n ts = true) : (fewest n ts).length ≤ 16 := by
  unfold fewest
  split
  · simp
  · have hd := okTrials_depth h
    have hE : ex (n : Int) = ((2 ^ n : Nat) : Int) := by simp [ex]
    have := (wrap_ex hd).2.2.2
    have := fewTo_len (seenTo n ts) (2 ^ n)
    omega
theorem valFewest_len (d : Int) (ts : List (Int × Int)) : (valFewest d ts).1.length ≤ 16 := by
  unfold valFewest
  simp only
  split
  · rename_i h
    have hd := okTrials_depth h
    obtain ⟨n, rfl⟩ : ∃ n : Nat, d = n := ⟨d.toNat, by simp [inB] at hd; omega⟩
    exact fewest_len h
  · simp

end Go.Proofs.YthlpbeohlhhblaaGreat
namespace Go.Proofs.YthlpbeohlhhblaaGreat
open Go.RowKit

/-- v, in memory from block base on, holds the bytes ys. -/
def OY (e : TypeId) (w : World) (base : Nat) (v : Value) (ys : List Int) : Prop := w.ownsRow base e 1 v ys.length (ys.map (Value.int .u8))
theorem OY.below {e : TypeId} {w w' : World} {base : Nat} {v : Value} {ys : List Int} (h : OY e w base v ys) (hb : Below w.heap.size w w') : OY e w' base v ys := by
  refine ⟨h.1, ?_⟩
  rcases h.2 with h1 | ⟨g, cap, cur, rfl, hbg, hg, r⟩
  · exact .inl h1
  · exact .inr ⟨g, cap, cur, rfl, hbg, by rw [hb.block g (Array.getElem?_eq_some_iff.1 hg).1]; exact hg, r⟩
theorem OY.grown {e : TypeId} {w w' : World} {base : Nat} {v : Value} {ys : List Int} {row : Option Nat} (h : OY e w base v ys) (hg : w.grownBy w' row) (hne : v.ownBlock = none ∨ v.ownBlock ≠ row) : OY e w' base v ys := World.ownsRow.kept h hg hne
theorem OY.apart {e : TypeId} {w w' : World} {base : Nat} {v vx : Value} {ys : List Int} (h : OY e w base v ys) (hg : w.grownBy w' vx.ownBlock) (hne : ∀ k, vx.ownBlock = some k → v.ownBlock ≠ some k) : OY e w' base v ys := by
  refine h.grown hg ?_
  cases hv : v.ownBlock with
  | none => exact .inl rfl
  | some k => exact .inr (fun e => hne k e.symm hv)
theorem OY.lt {e : TypeId} {w : World} {base : Nat} {v : Value} {ys : List Int} (h : OY e w base v ys) : ∀ k, v.ownBlock = some k → base ≤ k ∧ k < w.heap.size := World.ownsRow.lt h
theorem OY.mono {e : TypeId} {w : World} {base base' : Nat} {v : Value} {ys : List Int} (h : OY e w base v ys) (hb : base' ≤ base) : OY e w base' v ys := by
  refine ⟨h.1, ?_⟩
  rcases h.2 with h1 | ⟨g, cap, cur, rfl, hbg, r⟩
  · exact .inl h1
  · exact .inr ⟨g, cap, cur, rfl, Nat.le_trans hb hbg, r⟩
theorem OY.nil (e : TypeId) (w : World) (base : Nat) : OY e w base (.slice none 0 0) [] := World.ownsRow_nil _ _ _ _
theorem OY.lit0 (e : TypeId) (w : World) (base : Nat) (hb : base ≤ w.heap.size) : OY e (w.alloc (.cells #[] e)) base (.slice (some ⟨w.heap.size, 0, none⟩) 0 0) [] := by
  simpa [OY] using World.ownsRow_made w #[] 0 hb (Nat.zero_le _) (by simp)
theorem OY.shape {e : TypeId} {w : World} {base : Nat} {v : Value} {ys : List Int} (h : OY e w base v ys) : (v = .slice none 0 0 ∧ ys = []) ∨ ∃ g cap, v = .slice (some ⟨g, 0, none⟩) ys.length cap ∧ base ≤ g ∧ g < w.heap.size ∧ ys.length ≤ cap := by
  rcases h.2 with ⟨h1, h0⟩ | ⟨g, cap, cur, rfl, hbg, hg, hc, r⟩
  · exact .inl ⟨h1, List.length_eq_zero_iff.1 h0⟩
  · exact .inr ⟨g, cap, rfl, hbg, (Array.getElem?_eq_some_iff.1 hg).1, hc⟩
theorem OY.cell {e : TypeId} {w : World} {base g n cap : Nat} {ys : List Int} (h : OY e w base (.slice (some ⟨g, 0, none⟩) n cap) ys) (k : Nat) (hk : k < ys.length) : w.cell? ⟨g, k, none⟩ = some (.int .u8 (ys.getD k 0)) := by
  have hn : n = ys.length := by
    rcases h.2 with ⟨h1, _⟩ | ⟨g', cap', cur, h1, _⟩
    · simp at h1
    · simp only [Value.slice.injEq] at h1; exact h1.2.1
  subst hn
  have h' : w.ownsRow base e 1 (.slice (some ⟨g, 0, none⟩) ys.length cap) ys.length (ys.map (Value.int .u8)) := h
  rw [h'.cellAt k (by omega)]; simp [List.getD, List.getElem?_eq_getElem hk]

/-- append(out, c), a byte. -/
theorem wpList_app1y {P : Program} {W : World} {ops : Array Oper} {rest : List Oper} {o : Oper} {a : Act} {Q : Exit → Act → World → Prop} (hgd : o.guard = none) (s x : Operand) (t : TypeId)
    (ho : o.op = .call { callee := .builtin .append, args := #[s, x], argTypes := #[t, t] }) (e e' : TypeId) (i : TypeInfo) (ht : P.underlying t = some (.slice e)) (hi : P.info? e = some i) (hz : i.zero = some (.int .u8 0)) (hsize : i.size = 1) (hby : i.bytes = 1)
    (base : Nat) (v : Value) (xs : List Int) (hs : a.eval s = v) (hown : OY e W base v xs) (n : Int) (H : Nat) (hH : W.heap.size = H) (hx : a.eval x = .slice (some ⟨H, 0, none⟩) 1 1) (hlen : xs.length ≤ 1099511627776) (hbase : base ≤ W.heap.size)
    (hK : ∀ v' w', OY e w' base v' (xs ++ [n]) → W.grownBy w' v.ownBlock → (∀ k, v'.ownBlock = some k → v.ownBlock = some k ∨ W.heap.size ≤ k) → wpList P ops Q rest (a.put o.dst v') w') : wpList P ops Q (o :: rest) a (W.alloc (.cells #[.int .u8 n] e')) := by
  subst hH
  refine wpList_append_lies (W.alloc (.cells #[.int .u8 n] e')) hgd s x t ho base e i (.int .u8 0) 1 1 ht hi hz hsize hby rfl (by decide) v xs.length (xs.map (Value.int .u8)) hs (World.ownsRow.alloc hown _) ⟨W.heap.size, 0, none⟩ 1 1 [.int .u8 n] hx rfl ?_ ?_ (by decide) ?_ ?_ ?_ _ rfl ?_
  · intro j u hj
    match j, hj with
    | 0, hj =>
      simp only [List.getElem?_cons_zero, Option.some.injEq] at hj
      subst hj
      simp only [Addr.add, if_true]
      rw [World.cell?_alloc_at _ _ _ _ rfl]; rfl
  · intro u hu; simp at hu; subst hu; rfl
  · unfold maxLen; omega
  · omega
  · simp; omega
  · intro g cap w' h1 h2 h3 _
    refine hK _ w' (by unfold OY; simpa using h1) ⟨h2.os, h2.tape, h2.output, Nat.le_trans (by simp) h2.size, fun k hk hne => (h2.block k (by simp; omega) hne).trans (Below.heap_alloc W _ k hk)⟩ (fun k hk => ?_)
    simp only [Value.ownBlock, Option.some.injEq] at hk
    rcases h3 with h3 | h3
    · exact .inl (hk ▸ h3)
    · right; simp at h3; omega

/-- The letter of a switch. -/
def letter4 (s : B4) : Int := if s.2.2.1 then 48 else if s.2.2.2 then 49 else if s.1 && s.2.1 then 119 else if s.1 then 97 else if s.2.1 then 98 else 63
def lettersTo (st : List B4) (k : Nat) : List Int := (List.range k).map fun (v : Nat) => letter4 (st.getD v z4)
theorem lettersTo_succ (st : List B4) (k : Nat) : lettersTo st (k + 1) = lettersTo st k ++ [letter4 (st.getD k z4)] := by simp [lettersTo, List.range_succ]
theorem lettersTo_length (st : List B4) (k : Nat) : (lettersTo st k).length = k := by simp [lettersTo]

theorem infoU8 : (Tryz.prog.info? 5).map (fun i => (i.zero, i.size, i.bytes)) = some (some (.int .u8 0), 1, 1) := by kernel_rfl

theorem letter_any (a b c d : Bool) (w : World) :
    Calls Tryz.prog 83 #[.agg #[.bool a, .bool b, .bool c, .bool d]] w fun e w' => e = .returned (.int .u8 (letter4 (a, b, c, d))) ∧ Below w.heap.size w w' := by
  have hb : ∀ o : Obj, Below w.heap.size w (w.alloc o) := fun o => (Below.refl _ _).alloc (Nat.le_refl _) _
  cases a <;> cases b <;> cases c <;> cases d
  all_goals
    go_enter Tryz.func83, Tryz.ntmps83
    go_wp2
    go_ret
    exact ⟨rfl, hb _⟩

/-- The letters of all switches; [] if there are none. -/
def letters (d : Int) (ts : List (Int × Int)) : List Int := if codeF d ts = 0 then lettersTo (seenTo d ts) (2 ^ d.toNat) else []

set_option maxRecDepth 100000 in
set_option maxHeartbeats 2000000 in
theorem diagnosed_any (d : Int) (v : Value) (ts : List (Int × Int)) (w : World) (hv : SI P2 w v ts) :
    Calls Tryz.prog 49 #[.int .i64 d, v] w fun e w' => ∃ v1 v2, e = .returned (.tuple #[v1, v2, .int .i64 (valFewest d ts).2]) ∧ OS P2 128 w' w.heap.size v1 (valFewest d ts).1 ∧ OY 5 w' w.heap.size v2 (letters d ts) ∧ Below w.heap.size w w' := by
  have HV := Lib.hid hv
  have C1 := implValidTrials_any d v ts w hv
  clear hv
  cases h1 : okTrials d ts with
  | false =>
    rw [h1] at C1
    have D1 := Lib.hid C1
    have HE := Lib.hid (show valFewest d ts = ([], 1) by simp [valFewest, codeF, h1])
    have HL := Lib.hid (show letters d ts = [] by simp [letters, codeF, h1])
    clear C1 h1
    go_enter Tryz.func49, Tryz.ntmps49
    go_wp2_with (go_at_call 50; refine D1.out.mono ?_; rintro e w1 ⟨rfl, hb1⟩)
    go_ret3
    exact ⟨_, _, by rw [HE.out]; rfl, by rw [HE.out]; exact OS.nil _ _ _, by rw [HL.out]; exact OY.nil _ _ _, hb1⟩
  | true =>
    rw [h1] at C1
    have D1 := Lib.hid C1
    have hd := okTrials_depth h1
    obtain ⟨n, rfl⟩ : ∃ n : Nat, d = n := ⟨d.toNat, by simp [inB] at hd; omega⟩
    have C2 := fun (W : World) (h : SI P2 W v ts) => seenBy_any n v ts W h h1
    cases h2 : clashes n ts with
    | true =>
      have HE := Lib.hid (show valFewest n ts = ([], 9) by simp [valFewest, codeF, h1, fewest, h2])
      have HL := Lib.hid (show letters n ts = [] by simp [letters, codeF, h1, h2])
      rw [h2] at C2
      have D2 := Lib.hid C2
      clear C1 C2 h1 h2 hd
      go_enter Tryz.func49, Tryz.ntmps49
      go_wp2_with fail
      refine D1.out.mono ?_
      rintro e w1 ⟨rfl, hb1⟩
      go_wp2_with fail
      refine (D2.out _ (HV.out.below hb1)).mono ?_
      rintro e w2 ⟨u, rfl, ho, hb2⟩
      clear ho
      go_wp2_with fail
      go_ret3
      exact ⟨_, _, by rw [HE.out]; rfl, by rw [HE.out]; exact OS.nil _ _ _, by rw [HL.out]; exact OY.nil _ _ _, bthen hb1 hb2⟩
    | false =>
      have hval : valFewest n ts = (fewTo (seenTo n ts) (2 ^ n), 0) := by simp [valFewest, codeF, h1, h2, fewest]
      have hlet : letters n ts = lettersTo (seenTo n ts) (2 ^ n) := by simp [letters, codeF, h1, h2]
      have hE : ex (n : Int) = ((2 ^ n : Nat) : Int) := by simp [ex]
      obtain ⟨_, _, e3, e4⟩ := wrap_ex hd
      have hfit := fit4_seen hd ts
      simp only [Int.toNat_natCast] at hfit
      have hN : 2 ^ n ≤ 16 := by omega
      have hN2 : 2 ≤ 2 ^ n := by omega
      rw [h2] at C2
      generalize 2 ^ n = N at hfit hN hN2 hval hlet
      generalize seenTo n ts = st at hfit hval hlet C2
      have HE := Lib.hid hval
      have HL := Lib.hid hlet
      have HF := Lib.hid hfit
      have D2 := Lib.hid C2
      clear C1 C2 h1 h2 hd hval hlet hfit hE
      obtain ⟨i0, hi, hz0, hz1, hz2⟩ := info_parts infoStuck
      have HI := Lib.hid hi
      obtain ⟨j0, hj, jz0, jz1, jz2⟩ := info_parts infoU8
      have HJ := Lib.hid hj
      clear hi hj
      go_enter Tryz.func49, Tryz.ntmps49
      go_wp2_with fail
      refine D1.out.mono ?_
      rintro e w1 ⟨rfl, hb1⟩
      go_wp2_with fail
      refine (D2.out _ (HV.out.below hb1)).mono ?_
      rintro e w2 ⟨u, rfl, ho, hb2⟩
      have hlen := HF.out.1
      obtain ⟨g, cg, rfl⟩ : ∃ g cap, u = .slice (some ⟨g, 0, none⟩) N cap := by
        rcases ho.2 with ⟨_, h⟩ | ⟨g, cap, cur, h, _⟩
        · omega
        · exact ⟨g, cap, by rw [h]; simp [hlen]⟩
      have hgs := ho.size.2
      have HO := Lib.hid ho
      have hbb := bthen hb1 hb2
      clear ho hb1 hb2
      go_wp2_with fail
      go_loopw [9, 10, 29] (fun o1 o2 i wr => ∃ (k : Nat) (u1 u2 : Value), k ≤ N ∧ o1 = u1 ∧ o2 = u2 ∧ i = .int .i64 k ∧ Below w2.heap.size w2 wr ∧ OS P2 128 wr w2.heap.size u1 (fewTo st k) ∧ OY 5 wr w2.heap.size u2 (lettersTo st k) ∧ Apart u1 u2) (fun _ _ i _ => N - (intOf i).toNat)
      case atStart =>
        have hA := OS.lit0 (E := P2) 128 w2 w2.heap.size (Nat.le_refl _)
        refine ⟨0, _, _, Nat.zero_le _, rfl, rfl, rfl, ((Below.refl _ _).alloc (Nat.le_refl _) _).alloc (by simp) _, ?_, ?_, ?_⟩
        · exact hA.below ((Below.refl _ _).alloc (Nat.le_refl _) _)
        · have hy := OY.lit0 5 (w2.alloc (.cells #[] 128)) w2.heap.size (by simp)
          simpa [lettersTo] using hy
        · intro q h3 h4; simp [Value.ownBlock] at h3 h4; omega
      case round =>
        obtain ⟨k, _, _, hk, rfl, rfl, rfl, hw, ho1, ho2, hap⟩ := hrel
        have HO1 := Lib.hid ho1
        have HO2 := Lib.hid ho2
        have HAp := Lib.hid hap
        clear ho1 ho2 hap
        by_cases hlt : k < N
        · obtain ⟨⟨c1, c2, c3, c4⟩, _⟩ := (HO.out.below hw).cell k (by omega)
          have HY := Lib.hid (fewTo_yes (st := st) (k := k))
          have HN := Lib.hid (fewTo_no (st := st) (k := k))
          have HLS := Lib.hid (lettersTo_succ st k)
          have hll := fewTo_len st k
          have hly := lettersTo_length st k
          generalize hs : st.getD k z4 = s at c1 c2 c3 c4 HY HN HLS
          clear hs
          obtain ⟨a, b, c, d⟩ := s
          simp only at c1 c2 c3 c4
          have hsz : wr.heap.size < (wr.alloc (.cells #[.bool a, .bool b, .bool c, .bool d] 136)).heap.size := by simp
          go_wp2_with fail
          refine (letter_any a b c d _).mono ?_
          rintro e w3 ⟨rfl, hb3⟩
          have hbA : Below wr.heap.size wr w3 := bthen ((Below.refl _ _).alloc (Nat.le_refl _) _) hb3
          have hw3 : Below w2.heap.size w2 w3 := bthen hw hbA
          have hs3 : wr.heap.size < w3.heap.size := Nat.lt_of_lt_of_le (by simp) hb3.size
          have d1 : w3.cell? ⟨wr.heap.size, 0, none⟩ = some (.bool a) := (hb3.cell (p := ⟨wr.heap.size, 0, none⟩) (by simp)).trans (by rw [World.cell?_alloc_at _ _ _ _ rfl]; rfl)
          have d2 : w3.cell? ⟨wr.heap.size, 1, none⟩ = some (.bool b) := (hb3.cell (p := ⟨wr.heap.size, 1, none⟩) (by simp)).trans (by rw [World.cell?_alloc_at _ _ _ _ rfl]; rfl)
          have d3 : w3.cell? ⟨wr.heap.size, 2, none⟩ = some (.bool c) := (hb3.cell (p := ⟨wr.heap.size, 2, none⟩) (by simp)).trans (by rw [World.cell?_alloc_at _ _ _ _ rfl]; rfl)
          have d4 : w3.cell? ⟨wr.heap.size, 3, none⟩ = some (.bool d) := (hb3.cell (p := ⟨wr.heap.size, 3, none⟩) (by simp)).trans (by rw [World.cell?_alloc_at _ _ _ _ rfl]; rfl)
          have HO13 := Lib.hid (HO1.out.below hbA)
          have HO23 := Lib.hid (HO2.out.below hbA)
          have hu2 := fun q h => (HO2.out.lt q h).2
          have hu1 := fun q h => (HO1.out.lt q h).2
          have HU1 := Lib.hid hu1
          have HU2 := Lib.hid hu2
          clear c1 c2 c3 c4 hb3 hbA hu1 hu2
          go_wp2_with (at_builtin; refine wpList_app1y rfl _ _ 22 rfl 5 _ j0 Tryz.underlying22 HJ.out jz0 jz1 jz2 w2.heap.size _ _ rfl HO23.out _ _ (by simp) rfl ?_ hw3.size ?_)
          · omega
          · intro v9 w9 h1 h2 h3
            have hw9 : Below w2.heap.size w2 w9 := bgrown hw3 h2 (fun q hq => (HO23.out.lt q hq).1)
            have HP9 := Lib.hid h1
            have hne : ∀ q, v9.ownBlock = some q → u9.ownBlock ≠ some q := fun q hq hq1 => by
              rcases h3 q hq with h | h
              · exact HAp.out q hq1 h
              · have := HU1.out q hq1; omega
            have HAp9 := Lib.hid (show Apart u9 v9 from fun q hq1 hq => hne q hq hq1)
            have HO19 := Lib.hid (HO13.out.apart h2 (fun q hq hq1 => HAp.out q hq1 hq))
            have hbk := h2.block wr.heap.size hs3 (fun e => by have := HU2.out _ e.symm; omega)
            replace d1 := (World.cell?_of_block (a := ⟨wr.heap.size, 0, none⟩) hbk).trans d1
            replace d2 := (World.cell?_of_block (a := ⟨wr.heap.size, 1, none⟩) hbk).trans d2
            replace d3 := (World.cell?_of_block (a := ⟨wr.heap.size, 2, none⟩) hbk).trans d3
            replace d4 := (World.cell?_of_block (a := ⟨wr.heap.size, 3, none⟩) hbk).trans d4
            clear h1 h2 h3 hne hbk HO13 HO23 HO1 HO2
            go_wp2_with fail
            refine (letter_any a b c d _).mono ?_
            rintro e w4 ⟨rfl, hb4⟩
            have hw4 : Below w2.heap.size w2 w4 := bthen hw9 hb4
            have HP4 := Lib.hid (HP9.out.below hb4)
            have HO14 := Lib.hid (HO19.out.below hb4)
            clear d1 d2 d3 d4 hb4 HP9 HO19
            have hlt4 : letter4 (a, b, c, d) = (if c then 48 else if d then 49 else letter4 (a, b, false, false)) := by cases c <;> cases d <;> rfl
            generalize hlg : letter4 (a, b, c, d) = lt at *
            clear hlg
            cases c with
            | true =>
              have HY1 := Lib.hid (HY.out rfl)
              clear HY HN
              simp only [if_true] at hlt4
              subst hlt4
              go_wp2_with (at_builtin; refine wpList_appS (E := P2) rfl _ _ 47 rfl 128 _ i0 _ Tryz.underlying47 HI.out hz0 rfl hz1 16 hz2 (by decide) w2.heap.size _ _ rfl HO14.out (k, 0) _ rfl _ (by simp) rfl ?_ ?_ hw4.size ?_)
              · intro y hy; simp [P2] at hy; unfold Good; omega
              · omega
              · intro v8 w8 h1 h2 h3
                have hw8 : Below w2.heap.size w2 w8 := HO14.out.step hw4 h2
                have HO18 := Lib.hid h1
                have HP8 := Lib.hid (HP4.out.apart h2 (fun q hq => HAp9.out q hq))
                have hv9 := fun q h => (HP4.out.lt q h).2
                have HAp8 := Lib.hid (show Apart v8 v9 from fun q hq hq1 => by
                  rcases h3 q hq with h | h
                  · exact HAp9.out q h hq1
                  · have := hv9 q hq1; omega)
                clear h1 h2 h3 hv9
                go_wp2_with fail
                go_roundw
                case rel => exact ⟨k + 1, _, _, by omega, rfl, rfl, by go_num, hw8, by rw [HY1.out]; exact HO18.out, by rw [HLS.out]; exact HP8.out, HAp8.out⟩
                case measure => simp [intOf]; omega
            | false =>
              cases d with
              | true =>
                have HY1 := Lib.hid (HY.out rfl)
                clear HY HN
                simp only [if_true, Bool.false_eq_true, if_false] at hlt4
                subst hlt4
                go_wp2_with (at_builtin; refine wpList_appS (E := P2) rfl _ _ 47 rfl 128 _ i0 _ Tryz.underlying47 HI.out hz0 rfl hz1 16 hz2 (by decide) w2.heap.size _ _ rfl HO14.out (k, 1) _ rfl _ (by simp) rfl ?_ ?_ hw4.size ?_)
                · intro y hy; simp [P2] at hy; unfold Good; omega
                · omega
                · intro v8 w8 h1 h2 h3
                  have hw8 : Below w2.heap.size w2 w8 := HO14.out.step hw4 h2
                  have HO18 := Lib.hid h1
                  have HP8 := Lib.hid (HP4.out.apart h2 (fun q hq => HAp9.out q hq))
                  have hv9 := fun q h => (HP4.out.lt q h).2
                  have HAp8 := Lib.hid (show Apart v8 v9 from fun q hq hq1 => by
                    rcases h3 q hq with h | h
                    · exact HAp9.out q h hq1
                    · have := hv9 q hq1; omega)
                  clear h1 h2 h3 hv9
                  go_wp2_with fail
                  go_roundw
                  case rel => exact ⟨k + 1, _, _, by omega, rfl, rfl, by go_num, hw8, by rw [HY1.out]; exact HO18.out, by rw [HLS.out]; exact HP8.out, HAp8.out⟩
                  case measure => simp [intOf]; omega
              | false =>
                have HN1 := Lib.hid (HN.out rfl)
                clear HY HN
                have q1 : (lt == 48) = false := by rw [hlt4]; cases a <;> cases b <;> rfl
                have q2 : (lt == 49) = false := by rw [hlt4]; cases a <;> cases b <;> rfl
                clear hlt4
                go_wp2_with fail
                go_roundw
                case rel => exact ⟨k + 1, _, _, by omega, rfl, rfl, by go_num, hw4, by rw [HN1.out]; exact HO14.out, by rw [HLS.out]; exact HP4.out, HAp9.out⟩
                case measure => simp [intOf]; omega
        · have hkn : k = N := by omega
          subst hkn
          go_wp2_with fail
          go_ret3
          exact ⟨_, _, by rw [HE.out]; rfl, by rw [HE.out]; exact HO1.out.mono hbb.size, by rw [HL.out]; exact HO2.out.mono hbb.size, bthen hbb hw⟩

end Go.Proofs.YthlpbeohlhhblaaGreat
namespace Go.Proofs.YthlpbeohlhhblaaGreat
open Go.RowKit

theorem letter_cases {s : B4} (h : good4 s) (hc : clash4 s = false) :
    (wrong4 s = true ∧ sides4 s = 1 ∧ letter4 s = 48) ∨ (wrong4 s = true ∧ sides4 s = 2 ∧ letter4 s = 49) ∨ (wrong4 s = false ∧ sides4 s = 3 ∧ letter4 s = 119) ∨ (wrong4 s = false ∧ sides4 s = 1 ∧ letter4 s = 97) ∨ (wrong4 s = false ∧ sides4 s = 2 ∧ letter4 s = 98) ∨ (wrong4 s = false ∧ sides4 s = 0 ∧ letter4 s = 63) := by
  obtain ⟨x, y, c, e⟩ := s
  cases x <;> cases y <;> cases c <;> cases e <;> simp_all [good4, clash4, wrong4, sides4, letter4]
theorem letters_drop (st : List B4) (k : Nat) (hk : 1 ≤ k) : (lettersTo st (k + 1)).drop 1 = (lettersTo st k).drop 1 ++ [letter4 (st.getD k z4)] := by
  rw [lettersTo_succ, List.drop_append_of_le_length (by rw [lettersTo_length]; exact hk)]
theorem letters_one (st : List B4) : (lettersTo st 1).drop 1 = [] := by rfl
theorem clash_none {n : Nat} {ts : List (Int × Int)} (h : clashes n ts = false) (k : Nat) : clash4 ((seenTo n ts).getD k z4) = false := by
  by_cases hk : k < (seenTo n ts).length
  · cases hc : clash4 ((seenTo n ts).getD k z4) with
    | false => rfl
    | true => have := any4_hit hk hc; unfold clashes at h; rw [h] at this; simp at this
  · have : (seenTo n ts).getD k z4 = z4 := by simp [List.getD, List.getElem?_eq_none (by omega : (seenTo n ts).length ≤ k)]
    rw [this]; rfl

def known (n : Nat) (ts : List (Int × Int)) : ByteArray := strOfNums ((lettersTo (seenTo n ts) (2 ^ n)).drop 1)
def valKnown (d : Int) (ts : List (Int × Int)) : ByteArray × Int := (if codeF d ts = 0 then known d.toNat ts else ⟨#[]⟩, codeF d ts)

end Go.Proofs.YthlpbeohlhhblaaGreat
namespace Go.Proofs.YthlpbeohlhhblaaGreat
open Go.RowKit

theorem codeF_zero {d : Int} {ts : List (Int × Int)} (h : codeF d ts = 0) : okTrials d ts = true ∧ clashes d ts = false := by
  unfold codeF at h
  split at h
  · split at h
    · simp at h
    · rename_i h1 h2; exact ⟨h1, by simpa using h2⟩
  · simp at h

end Go.Proofs.YthlpbeohlhhblaaGreat
