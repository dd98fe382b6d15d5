/-
  The fewest stuck switches of the reference: what it returns.
-/
import Derived.Test.YtejnfngnofilfaaShown
import Derived.Test.YtejnfngnofilfaaRecStuck
namespace Go.Proofs.Ytejnfngnofilfaa
open Go.RowKit

theorem OB.shape {e : TypeId} {w : World} {base : Nat} {v : Value} {bs : List Bool} (h : OB e w base v bs) : (v = .slice none 0 0 ∧ bs = []) ∨ ∃ g cap, v = .slice (some ⟨g, 0, none⟩) bs.length cap ∧ base ≤ g ∧ g < w.heap.size := by
  rcases h.2 with ⟨h1, h0⟩ | ⟨g, cap, cur, rfl, hbg, hg, r⟩
  · exact .inl ⟨h1, List.length_eq_zero_iff.1 h0⟩
  · exact .inr ⟨g, cap, rfl, hbg, (Array.getElem?_eq_some_iff.1 hg).1⟩

/-- The side of a stuck switch. -/
def side4 (s : B4) : Int := if s.2.2.1 then 0 else 1
/-- The stuck ones of the first switches. -/
def fewTo (st : List B4) (k : Nat) : List (Int × Int) := ((List.range k).filter fun v => wrong4 (st.getD v z4)).map fun (v : Nat) => ((v : Int), side4 (st.getD v z4))
theorem fewTo_yes {st : List B4} {k : Nat} (h : wrong4 (st.getD k z4) = true) : fewTo st (k + 1) = fewTo st k ++ [((k : Int), side4 (st.getD k z4))] := by
  unfold fewTo
  rw [List.range_succ, List.filter_append, List.map_append, List.filter_cons_of_pos (by simpa using h)]
  rfl
theorem fewTo_no {st : List B4} {k : Nat} (h : wrong4 (st.getD k z4) = false) : fewTo st (k + 1) = fewTo st k := by
  unfold fewTo
  rw [List.range_succ, List.filter_append, List.map_append, List.filter_cons_of_neg (by show ¬ (wrong4 (st.getD k z4) = true); rw [h]; exact Bool.false_ne_true)]
  simp
theorem fewTo_len (st : List B4) (k : Nat) : (fewTo st k).length ≤ k := by
  unfold fewTo
  rw [List.length_map]
  exact Nat.le_trans (List.length_filter_le _ _) (by simp)
theorem fewTo_one {n : Nat} {st : List B4} (h : fit4 n st) : fewTo st 1 = [] := by
  rw [fewTo_no (by rw [h.2.2]; rfl)]; rfl
theorem side4_sides {s : B4} (h : good4 s) (h1 : wrong4 s = true) (h2 : sides4 s ≠ 3) : sides4 s - 1 = side4 s := by
  obtain ⟨x, y, c, e⟩ := s
  cases x <;> cases y <;> cases c <;> cases e <;> simp_all [good4, wrong4, sides4, side4]
theorem any4_hit {st : List B4} {k : Nat} (hk : k < st.length) (h : clash4 (st.getD k z4) = true) : st.any clash4 = true := by
  rw [List.any_eq_true]
  refine ⟨st[k], List.getElem_mem hk, ?_⟩
  simpa [List.getD, hk] using h
theorem any4_miss {st : List B4} (h : ∀ j, j < st.length → clash4 (st.getD j z4) = false) : st.any clash4 = false := by
  rw [List.any_eq_false]
  intro x hx
  obtain ⟨j, hj, rfl⟩ := List.getElem_of_mem hx
  have := h j hj
  simpa [List.getD, hj] using this

/-- What the fewest stuck switches are; [] if nothing explains the trials. -/
def fewest (n : Nat) (ts : List (Int × Int)) : List (Int × Int) := if clashes n ts then [] else fewTo (seenTo n ts) (2 ^ n)
def codeF (d : Int) (ts : List (Int × Int)) : Int := if okTrials d ts then (if clashes d ts then 9 else 0) else 1
def valFewest (d : Int) (ts : List (Int × Int)) : List (Int × Int) × Int := (if okTrials d ts then fewest d.toNat ts else [], codeF d ts)
theorem fewest_len {n : Nat} {ts : List (Int × Int)} (h : okTrials n ts = true) : (fewest n ts).length ≤ 16 := by
  unfold fewest
  split
  · simp
  · have hd := okTrials_depth h
    have hE : ex (n : Int) = ((2 ^ n : Nat) : Int) := by simp [ex]
    have := (wrap_ex hd).2.2.2
    have := fewTo_len (seenTo n ts) (2 ^ n)
    omega
theorem valFewest_len (d : Int) (ts : List (Int × Int)) : (valFewest d ts).1.length ≤ 16 := by
  unfold valFewest
  simp only
  split
  · rename_i h
    have hd := okTrials_depth h
    obtain ⟨n, rfl⟩ : ∃ n : Nat, d = n := ⟨d.toNat, by simp [inB] at hd; omega⟩
    exact fewest_len h
  · simp

set_option maxRecDepth 100000 in
set_option maxHeartbeats 1000000 in
theorem l18Fewest_any (n : Nat) (v : Value) (ts : List (Int × Int)) (w : World) (hv : SI P2 w v ts) (hok : okTrials n ts = true) :
    Calls Try.prog 85 #[.int .i64 n, v] w fun e w' => ∃ v', e = .returned (.tuple #[v', .bool (!clashes n ts)]) ∧ OS P2 57 w' w.heap.size v' (fewest n ts) ∧ Below w.heap.size w w' := by
  have HV := Lib.hid hv
  have HK := Lib.hid hok
  have hd := okTrials_depth hok
  have hE : ex (n : Int) = ((2 ^ n : Nat) : Int) := by simp [ex]
  obtain ⟨_, _, e3, e4⟩ := wrap_ex hd
  have hfit := fit4_seen hd ts
  simp only [Int.toNat_natCast] at hfit
  have HC := Lib.hid (show (seenTo n ts).any clash4 = clashes n ts by rfl)
  have HE := Lib.hid (show fewest n ts = if clashes n ts then [] else fewTo (seenTo n ts) (2 ^ n) by rfl)
  have hN : 2 ^ n ≤ 16 := by omega
  have hN2 : 2 ≤ 2 ^ n := by omega
  generalize 2 ^ n = N at hfit hN hN2 HE
  have HF := Lib.hid hfit
  clear hv hok hd hE hfit
  obtain ⟨i0, hi, hz0, hz1, hz2⟩ := info_parts infoStuck
  have HI := Lib.hid hi
  clear hi
  go_enter Try.func85, Try.ntmps85
  go_wp2_with fail
  refine (l18Shown_any n v ts _ HV.out HK.out).mono ?_
  rintro e w1 ⟨va, vb, rfl, ha, hb, hb1⟩
  generalize seenTo n ts = st at ha hb HF HC HE
  have hlen := HF.out.1
  obtain ⟨ga, ca, rfl⟩ : ∃ g cap, va = .slice (some ⟨g, 0, none⟩) N cap := by
    rcases ha.shape with ⟨_, h⟩ | ⟨g, cap, h, _⟩
    · have := congrArg List.length h; rw [List.length_map] at this; simp only [List.length_nil] at this; omega
    · exact ⟨g, cap, by rw [h]; simp [hlen]⟩
  obtain ⟨gb, cb, rfl⟩ : ∃ g cap, vb = .slice (some ⟨g, 0, none⟩) N cap := by
    rcases hb.shape with ⟨_, h⟩ | ⟨g, cap, h, _⟩
    · have := congrArg List.length h; rw [List.length_map] at this; simp only [List.length_nil] at this; omega
    · exact ⟨g, cap, by rw [h]; simp [hlen]⟩
  have HA := Lib.hid ha
  have HB := Lib.hid hb
  clear ha hb
  go_wp2_with fail
  go_loopw [8, 9] (fun o i wr => ∃ (k : Nat) (u : Value), 1 ≤ k ∧ k ≤ N ∧ o = u ∧ i = .int .i64 k ∧ Below w1.heap.size w1 wr ∧ OS P2 57 wr w1.heap.size u (fewTo st k) ∧ ∀ j, j < k → clash4 (st.getD j z4) = false) (fun _ i _ => N - (intOf i).toNat)
  case atStart => exact ⟨1, _, Nat.le_refl _, by omega, rfl, rfl, (Below.refl _ _).alloc (Nat.le_refl _) _, by rw [fewTo_one HF.out]; exact OS.lit0 _ _ _ (Nat.le_refl _), fun j hj => by rw [show j = 0 by omega, HF.out.2.2]; rfl⟩
  case round =>
    obtain ⟨k, u, hk1, hk, rfl, rfl, hw, ho, hno⟩ := hrel
    have HO := Lib.hid ho
    have HNO := Lib.hid hno
    clear ho hno
    by_cases hlt : k < N
    · have k1 := ((HA.out.below hw).cell k (by simp; omega)).1
      have k2 := ((HB.out.below hw).cell k (by simp; omega)).1
      rw [map4_getD sides4 st k (by omega)] at k1
      rw [map4_getD wrong4 st k (by omega)] at k2
      have HG := Lib.hid (HF.out.2.1 k)
      have HY := Lib.hid (fewTo_yes (st := st) (k := k))
      have HN := Lib.hid (fewTo_no (st := st) (k := k))
      have HH := Lib.hid (any4_hit (st := st) (k := k) (by omega))
      have HCS := Lib.hid (clash_spec HG.out)
      have hsb := sides4_bound (st.getD k z4)
      have HSS := Lib.hid (fun h1 h2 => side4_sides HG.out h1 h2)
      have HNx := Lib.hid (fun (h : clash4 (st.getD k z4) = false) => fun j (hj : j < k + 1) => show clash4 (st.getD j z4) = false by
        by_cases e : j = k
        · rw [e]; exact h
        · exact HNO.out j (by omega))
      generalize st.getD k z4 = s at k1 k2 HG HY HN HH HCS hsb HSS HNx
      cases hw4 : wrong4 s with
      | false =>
        rw [hw4] at k2
        have E1 := Lib.hid (HNx.out (by rw [HCS.out, hw4]; rfl))
        have E2 := Lib.hid (HN.out hw4)
        clear HY HN HH HSS HNx hw4
        generalize sides4 s = s4 at k1
        go_wp2_with fail
        go_roundw
        case rel => exact ⟨k + 1, _, by omega, by omega, rfl, by go_num, hw, by rw [E2.out]; exact HO.out, E1.out⟩
        case measure => simp [intOf]; omega
      | true =>
        rw [hw4] at k2
        by_cases h3 : sides4 s = 3
        · have E1 := Lib.hid (HH.out (by rw [HCS.out, hw4, h3]; rfl))
          rw [h3] at k1
          clear HY HN HH HSS HNx hw4 HCS h3
          go_wp2_with fail
          go_ret2
          have hc : clashes n ts = true := by rw [← HC.out]; exact E1.out
          exact ⟨_, by rw [hc]; rfl, by rw [HE.out, hc]; exact OS.nil _ _ _, bthen hb1 hw⟩
        · have E1 := Lib.hid (HNx.out (by rw [HCS.out, hw4]; simp [h3]))
          have E2 := Lib.hid (HY.out hw4)
          have E3 := Lib.hid (HSS.out hw4 h3)
          have hsd : side4 s = 0 ∨ side4 s = 1 := by unfold side4; split <;> simp
          clear HY HN HH HSS HNx hw4 HCS
          generalize side4 s = sd at E2 E3 hsd
          generalize sides4 s = s4 at k1 h3 hsb E3
          have hq3 : (s4 == 3) = false := by rw [beq_eq_false_iff_ne]; exact h3
          have hll := fewTo_len st k
          obtain ⟨s0, s1⟩ := hsb
          go_wp2_with (at_builtin; refine wpList_appS (E := P2) rfl _ _ 25 rfl 57 _ i0 _ Try.underlying25 HI.out hz0 rfl hz1 16 hz2 (by decide) w1.heap.size _ _ rfl HO.out (k, s4 - 1) _ rfl _ (by simp) rfl ?_ ?_ hw.size ?_)
          · intro y hy; simp [P2] at hy; unfold Good; omega
          · omega
          · intro v9 w9 h1 h2 _
            have hb9 := HO.out.step hw h2
            have H9 := Lib.hid h1
            clear h1 h2
            go_wp2_with fail
            go_roundw
            case rel => exact ⟨k + 1, v9, by omega, by omega, rfl, by go_num, hb9, by rw [E2.out, ← E3.out]; exact H9.out, E1.out⟩
            case measure => simp [intOf]; omega
    · have hkn : k = N := by omega
      subst hkn
      have E1 := Lib.hid (any4_miss (st := st) (fun j hj => HNO.out j (by omega)))
      clear HNO
      go_wp2_with fail
      go_ret2
      have hc : clashes n ts = false := by rw [← HC.out]; exact E1.out
      exact ⟨_, by rw [hc]; rfl, by rw [HE.out, hc]; exact HO.out.mono hb1.size, bthen hb1 hw⟩

theorem l18Code_any (d : Int) (v : Value) (ts : List (Int × Int)) (w : World) (hv : SI P2 w v ts) :
    Calls Try.prog 88 #[.int .i64 d, v] w fun e w' => ∃ v', e = .returned (.tuple #[v', .int .i64 (valFewest d ts).2]) ∧ OS P2 57 w' w.heap.size v' (valFewest d ts).1 ∧ Below w.heap.size w w' := by
  have HV := Lib.hid hv
  have C1 := l18Trials_any d v ts w hv
  clear hv
  cases h1 : okTrials d ts with
  | false =>
    rw [h1] at C1
    have D1 := Lib.hid C1
    have HE := Lib.hid (show valFewest d ts = ([], 1) by simp [valFewest, codeF, h1])
    clear C1 h1
    go_enter Try.func88, Try.ntmps88
    go_wp2_with (go_at_call 68; refine D1.out.mono ?_; rintro e w1 ⟨rfl, hb1⟩)
    go_ret2
    exact ⟨_, by rw [HE.out]; rfl, by rw [HE.out]; exact OS.nil _ _ _, hb1⟩
  | true =>
    rw [h1] at C1
    have D1 := Lib.hid C1
    have hd := okTrials_depth h1
    obtain ⟨n, rfl⟩ : ∃ n : Nat, d = n := ⟨d.toNat, by simp [inB] at hd; omega⟩
    have HK := Lib.hid h1
    have C2 := fun (W : World) (h : SI P2 W v ts) => l18Fewest_any n v ts W h h1
    cases h2 : clashes n ts with
    | true =>
      have HE := Lib.hid (show valFewest n ts = ([], 9) by simp [valFewest, codeF, h1, fewest, h2])
      rw [h2] at C2
      have D2 := Lib.hid C2
      clear C1 C2 h1 h2 hd
      go_enter Try.func88, Try.ntmps88
      go_wp2_with fail
      refine D1.out.mono ?_
      rintro e w1 ⟨rfl, hb1⟩
      go_wp2_with fail
      refine (D2.out _ (HV.out.below hb1)).mono ?_
      rintro e w2 ⟨u, rfl, ho, hb2⟩
      clear ho
      go_wp2_with fail
      go_ret2
      exact ⟨_, by rw [HE.out]; rfl, by rw [HE.out]; exact OS.nil _ _ _, bthen hb1 hb2⟩
    | false =>
      have HE := Lib.hid (show valFewest n ts = (fewest n ts, 0) by simp [valFewest, codeF, h1, h2])
      rw [h2] at C2
      have D2 := Lib.hid C2
      clear C1 C2 h1 h2 hd
      go_enter Try.func88, Try.ntmps88
      go_wp2_with fail
      refine D1.out.mono ?_
      rintro e w1 ⟨rfl, hb1⟩
      go_wp2_with fail
      refine (D2.out _ (HV.out.below hb1)).mono ?_
      rintro e w2 ⟨u, rfl, ho, hb2⟩
      have HO := Lib.hid ho
      clear ho
      go_wp2_with fail
      go_ret2
      exact ⟨_, by rw [HE.out]; rfl, by rw [HE.out]; exact HO.out.mono hb1.size, bthen hb1 hb2⟩

theorem specFewestStuck_any (d : Int) (v : Value) (ts : List (Int × Int)) (w : World) (hv : SI P2 w v ts) :
    Calls Try.prog 55 #[.int .i64 d, v] w fun e w' => ∃ v', e = .returned (.tuple #[v', .int .i64 (valFewest d ts).2]) ∧ OS P2 57 w' w.heap.size v' (valFewest d ts).1 ∧ Below w.heap.size w w' := by
  have HV := Lib.hid hv
  clear hv
  go_enter Try.func55, Try.ntmps55
  go_wp2_with fail
  refine (l18Code_any d v ts _ HV.out).mono ?_
  rintro e w1 ⟨u, rfl, ho, hb1⟩
  have HO := Lib.hid ho
  clear ho
  go_wp2_with fail
  go_ret2
  exact ⟨_, rfl, HO.out, hb1⟩

end Go.Proofs.Ytejnfngnofilfaa
