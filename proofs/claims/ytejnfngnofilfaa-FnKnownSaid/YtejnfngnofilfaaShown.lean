/-
  What trials tell of switches, of the reference: its two tables.
-/
import Derived.Test.YtejnfngnofilfaaSeen
namespace Go.Proofs.Ytejnfngnofilfaa
open Go.RowKit

theorem infoBoolS : (Try.prog.info? 4).map (fun i => (i.zero, i.size, i.bytes)) = some (some (.bool false), 1, 1) := by kernel_rfl

theorem map4_getD {α : Type} (f : B4 → α) (st : List B4) (m : Nat) (hm : m < st.length) (z : α) : (st.map f).getD m z = f (st.getD m z4) := by simp [List.getD, hm]

set_option maxRecDepth 100000 in
set_option maxHeartbeats 1000000 in
theorem l18Shown_any (n : Nat) (v : Value) (ts : List (Int × Int)) (w : World) (hv : SI P2 w v ts) (hok : okTrials n ts = true) :
    Calls Try.prog 103 #[.int .i64 n, v] w fun e w' => ∃ v1 v2, e = .returned (.tuple #[v1, v2]) ∧ OI 2 w' w.heap.size v1 ((seenTo n ts).map sides4) ∧ OB 4 w' w.heap.size v2 ((seenTo n ts).map wrong4) ∧ Below w.heap.size w w' := by
  obtain ⟨a, cap, rfl⟩ := hv.shape
  have hl := hv.len
  have HV := Lib.hid hv
  have HK := Lib.hid hok
  have hd := okTrials_depth hok
  have HD := Lib.hid hd
  have hn : 1 ≤ n ∧ n ≤ 4 := by simp [inB] at hd; omega
  obtain ⟨hn1, hn4⟩ := hn
  obtain ⟨_, _, e3, e4⟩ := wrap_ex hd
  have hE : ex (n : Int) = ((2 ^ n : Nat) : Int) := by simp [ex]
  have hfit := fun k => fit4_seen hd (ts.take k)
  have hLt := fun (x : Int) (k : Nat) (hk : k < n) => wayAt_lt (n := n) x hk
  simp only [Int.toNat_natCast] at hfit
  have hN : 2 ^ n ≤ 16 := by omega
  generalize hNN : 2 ^ n = N at *
  have HFit := Lib.hid hfit
  have HLt := Lib.hid hLt
  have HNN := Lib.hid hNN
  have HX := Lib.hid hE
  clear hv hok hd hNN hE hfit hLt
  obtain ⟨i0, hi, hz0, hz1, hz2⟩ := info_parts info64
  have HI := Lib.hid hi
  obtain ⟨j0, hj, jz0, jz1, jz2⟩ := info_parts infoBoolS
  have HJ := Lib.hid hj
  clear hi hj
  go_enter Try.func103, Try.ntmps103
  go_wp2_with (first | (go_at_call 76; refine (l18Exits_any _ _ HD.out).mono ?_; rintro e w' ⟨rfl, rfl⟩; rw [HX.out]) | (at_make; refine wpList_make_full _ rfl _ _ 29 rfl w.heap.size 2 i0 (.int .i64 0) 1 Try.underlying29 HI.out hz0 hz1 .i64 .i64 _ _ N rfl rfl rfl rfl (by rw [hz2]; omega) (by unfold maxLen; omega) (Nat.le_refl _) ?_; intro w1 hown1 hgr1; have hb1 : Below w.heap.size w w1 := (Below.refl _ _).grown hgr1 (Nat.le_refl _) (by simp)) | (at_make; refine wpList_make_full _ rfl _ _ 95 rfl w.heap.size 4 j0 (.bool false) 1 Try.underlying95 HJ.out jz0 jz1 .i64 .i64 _ _ N rfl rfl rfl rfl (by rw [jz2]; omega) (by unfold maxLen; omega) hb1.size ?_; intro w2 hown hgr))
  have hS := OI.made hown1
  have hg1 := (hS.lt w.heap.size rfl).2
  have HS := Lib.hid hS
  clear hown1 hgr1 hS
  have hb2 : Below w.heap.size w w2 := bgrown hb1 hgr (by simp)
  have hB := OB.made hown
  have hg2 := hB.size
  have HB := Lib.hid hB
  have HS2 := Lib.hid (HS.out.grown hgr (.inr (by simp [Value.ownBlock])))
  clear hown hgr hB HS
  generalize hgg : w1.heap.size = g at *
  clear hgg hb1
  have HZ := Lib.hid (show seenTo n (ts.take 0) = List.replicate N z4 by simp [seenTo, HNN.out])
  have HSS := Lib.hid (fun (k : Nat) (hk : k < ts.length) => show seenTo n (ts.take (k + 1)) = trialTo n (ts.getD k (0, 0)) (seenTo n (ts.take k)) n by rw [take_snocG (0, 0) ts k hk, seenTo_snoc]; simp)
  go_loopw [8] (fun i wr => ∃ k : Nat, k ≤ ts.length ∧ i = .int .i64 k ∧ Below w.heap.size w wr ∧ g < wr.heap.size ∧ OI 2 wr w.heap.size (.slice (some ⟨w.heap.size, 0, none⟩) N N) ((seenTo n (ts.take k)).map sides4) ∧ OB 4 wr w.heap.size (.slice (some ⟨g, 0, none⟩) N N) ((seenTo n (ts.take k)).map wrong4)) (fun i _ => ts.length - (intOf i).toNat)
  case atStart => exact ⟨0, Nat.zero_le _, rfl, hb2, hg2, by rw [HZ.out]; simpa [sides4, z4] using HS2.out, by rw [HZ.out]; simpa [wrong4, z4] using HB.out⟩
  case round =>
    obtain ⟨k, hk, rfl, hw, hgw, hs, hb⟩ := hrel
    have HSk := Lib.hid hs
    have HBk := Lib.hid hb
    clear hs hb HS2 HB
    by_cases hlt : k < ts.length
    · obtain ⟨b, off, rfl, hb, hc⟩ := HV.out.cells2 (by omega)
      obtain ⟨g1, g2⟩ := hc k hlt
      clear hc
      have HP := okTrials_pair HK.out hlt
      have HS1 := Lib.hid (HSS.out k hlt)
      have HF := Lib.hid (HFit.out k)
      generalize ts.getD k (0, 0) = p at g1 g2 HP HS1
      generalize seenTo n (ts.take k) = st at HSk HBk HS1 HF
      obtain ⟨x, y⟩ := p
      simp only at g1 g2 HP
      obtain ⟨⟨x0, x1⟩, y0, y1⟩ := HP
      have HC := Lib.hid (And.intro g1 g2)
      clear g1 g2
      go_wp2_with fail
      go_loopw [9, 10] (fun at' i wq => ∃ j : Nat, j ≤ n ∧ i = .int .i64 j ∧ at' = .int .i64 (wayAt n y j) ∧ Below w.heap.size w wq ∧ g < wq.heap.size ∧ OI 2 wq w.heap.size (.slice (some ⟨w.heap.size, 0, none⟩) N N) ((trialTo n (x, y) st j).map sides4) ∧ OB 4 wq w.heap.size (.slice (some ⟨g, 0, none⟩) N N) ((trialTo n (x, y) st j).map wrong4)) (fun _ i _ => n - (intOf i).toNat)
      case atStart => exact ⟨0, Nat.zero_le _, rfl, rfl, hw, hgw, HSk.out, HBk.out⟩
      case round =>
        obtain ⟨j, hj, rfl, rfl, hq, hgq, hsq, hbq⟩ := hrel
        by_cases hlj : j < n
        · have q1 := (hq.cell (p := ⟨b, off + k * 2, none⟩) hb).trans HC.out.1
          have q2 := (hq.cell (p := ⟨b, off + k * 2 + 1, none⟩) hb).trans HC.out.2
          have hvb := wayAt_bound n y j (by omega)
          have hvl := HLt.out y j hlj
          have HT := Lib.hid (trialTo_succ n (x, y) st j)
          have HY := Lib.hid (show wayAt n y (j + 1) = 2 * wayAt n y j + dig n y j by rfl)
          have hlen : (trialTo n (x, y) st j).length = N := by rw [trialTo_length]; exact HF.out.1
          rw [stepS] at HT
          simp only at HT
          generalize wayAt n y j = vv at hvb hvl HT HY
          obtain ⟨m, rfl⟩ : ∃ m : Nat, vv = m := ⟨vv.toNat, by omega⟩
          simp only [Int.toNat_natCast] at hvl HT
          generalize trialTo n (x, y) st j = sj at hsq hbq hlen HT
          have hdy := dig_01 n y j
          have hdx := dig_01 n x j
          generalize hgy : dig n y j = dy at hdy HT HY
          generalize hgx : dig n x j = dx at hdx HT
          have EY := Lib.hid hgy
          have EX := Lib.hid hgx
          clear hgx hgy
          have hsb := sides4_bound (sj.getD m z4)
          have HSH := Lib.hid (sides_hit (sj.getD m z4) dy hdy (dx != dy))
          have HWH := Lib.hid (wrong_hit (sj.getD m z4) (dy == 1) (dx != dy))
          obtain ⟨k1, k2⟩ := hsq.cell m (by simp; omega)
          rw [map4_getD sides4 sj m (by omega)] at k1
          have hset := hsq.set m (sides4 (hit (sj.getD m z4) (dy == 1) (dx != dy))) (by have := sides4_bound (hit (sj.getD m z4) (dy == 1) (dx != dy)); unfold Good; omega)
          obtain ⟨a1, a2⟩ := hset
          have hob := hbq.grown a2 (.inr (by simp [Value.ownBlock]; omega))
          rw [← HSH.out] at a1 a2 hob
          obtain ⟨k3, k4⟩ := hob.cell m (by simp; omega)
          rw [map4_getD wrong4 sj m (by omega)] at k3
          have hset2 := fun x => hob.set m x
          have HA1 := Lib.hid a1
          have HA2 := Lib.hid a2
          have HSet2 := Lib.hid hset2
          clear hset2 a1 a2 hob hsq hbq
          obtain ⟨dy0, dy1⟩ := hdy
          obtain ⟨dx0, dx1⟩ := hdx
          generalize hs4 : sides4 (sj.getD m z4) = s4 at k1 k3 k4 hsb HSH HSet2 HA1 HA2
          generalize hw4 : wrong4 (sj.getD m z4) = w4 at k3 HWH
          clear hs4 hw4
          have hgw' : w.heap.size < g := by omega
          cases w4 with
          | true =>
            go_wp2_with (go_at_call 65; refine (l18Digit_any _ _ _ _ (by omega) (by omega) (by omega) (by omega) (by omega)).mono ?_; rintro e w' ⟨rfl, rfl⟩; first | rw [EY.out] | rw [EX.out])
            go_roundw
            case rel =>
              obtain ⟨b1, b2⟩ := HSet2.out (true)
              have a1 := HA1.out
              have a2 := HA2.out
              have o1 := a1.grown b2 (.inr (by simp [Value.ownBlock]; omega))
              refine ⟨j + 1, by omega, by go_num, congrArg (Value.int .i64) (by rw [HY.out]; try omega), bgrown (bgrown hq a2 (by simp)) b2 (fun q hq' => by simp at hq'; omega), Nat.lt_of_lt_of_le (Nat.lt_of_lt_of_le hgq a2.size) b2.size, ?_, ?_⟩
              · rw [HT.out, List.map_set, ← HSH.out]; exact o1
              · rw [HT.out, List.map_set, HWH.out]; exact b1
            case measure => simp [intOf]; omega
          | false =>
            go_wp2_with (go_at_call 65; refine (l18Digit_any _ _ _ _ (by omega) (by omega) (by omega) (by omega) (by omega)).mono ?_; rintro e w' ⟨rfl, rfl⟩; first | rw [EY.out] | rw [EX.out])
            go_roundw
            case rel =>
              obtain ⟨b1, b2⟩ := HSet2.out (dy != dx)
              have a1 := HA1.out
              have a2 := HA2.out
              have o1 := a1.grown b2 (.inr (by simp [Value.ownBlock]; omega))
              refine ⟨j + 1, by omega, by go_num, congrArg (Value.int .i64) (by rw [HY.out]; try omega), bgrown (bgrown hq a2 (by simp)) b2 (fun q hq' => by simp at hq'; omega), Nat.lt_of_lt_of_le (Nat.lt_of_lt_of_le hgq a2.size) b2.size, ?_, ?_⟩
              · rw [HT.out, List.map_set, ← HSH.out]; exact o1
              · rw [HT.out, List.map_set, HWH.out, Bool.false_or, show (dx != dy) = (dy != dx) from bne_comm]; exact b1
            case measure => simp [intOf]; omega
        · have hjn : j = n := by omega
          subst hjn
          have HS2 := Lib.hid hsq
          have HB2 := Lib.hid hbq
          clear hsq hbq
          go_wp2_with fail
          go_roundw
          case rel => exact ⟨k + 1, by omega, by go_num, hq, hgq, by rw [HS1.out]; exact HS2.out, by rw [HS1.out]; exact HB2.out⟩
          case measure => simp [intOf]; omega
    · have hkn : k = ts.length := by omega
      subst hkn
      have h1 := HSk.out
      have h2 := HBk.out
      rw [List.take_of_length_le (Nat.le_refl _)] at h1 h2
      have H1 := Lib.hid h1
      have H2 := Lib.hid h2
      clear h1 h2
      go_wp2_with fail
      go_ret2
      exact ⟨_, _, rfl, H1.out, H2.out, hw⟩

end Go.Proofs.Ytejnfngnofilfaa
