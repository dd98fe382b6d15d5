/-
  SwitchTurns and BranchCounts of both sides.
-/
import Derived.Test.YteohfokchimfeaaSlices
namespace Go.Proofs.Yteohfokchimfeaa
open Go.RowKit

/-- Targets of carriers. -/
def okTargets (xs : List Int) (b : Int) : Bool := xs.all (inB 0 (b - 1)) && decide (xs.length ≤ 40)
theorem okTargets_iff {xs : List Int} {b : Int} (h : okTargets xs b = true) : (∀ x ∈ xs, 0 ≤ x ∧ x ≤ b - 1) ∧ xs.length ≤ 40 := by
  simp [okTargets, inB] at h; exact h
theorem okTargets_getD {xs : List Int} {b : Int} (h : okTargets xs b = true) (k : Nat) (hk : k < xs.length) : 0 ≤ xs.getD k 0 ∧ xs.getD k 0 ≤ b - 1 := by
  refine (okTargets_iff h).1 _ ?_
  simp only [List.getD, List.getElem?_eq_getElem hk, Option.getD_some]; exact List.getElem_mem hk
theorem any_not_all (p : Int → Bool) (ws : List Int) : (!(ws.any fun n => !p n)) = ws.all p := by
  induction ws with
  | nil => rfl
  | cons x xs ih => simp [List.all_cons, List.any_cons, ← ih]

theorem l17Targets_any (v : Value) (xs : List Int) (b : Int) (w : World) (hv : RI w v xs) (hb : 1 ≤ b) (hb2 : b ≤ 100) :
    Calls Try.prog 60 #[v, .int .i64 b] w fun e w' => e = .returned (.bool (okTargets xs b)) ∧ w = w' := by
  obtain ⟨a, cap, rfl⟩ := hv.shape
  have hl := hv.len
  have HV := Lib.hid hv
  clear hv
  go_enter Try.func60, Try.ntmps60
  go_wp2
  go_loop [5] (fun i => ∃ k : Nat, k ≤ xs.length ∧ i = .int .i64 k ∧ (xs.take k).all (inB 0 (b - 1)) = true) (fun i => xs.length - (intOf i).toNat)
  case atStart => exact ⟨0, Nat.zero_le _, rfl, rfl⟩
  case round =>
    obtain ⟨k, hk, rfl, hall⟩ := hrel
    have HA := Lib.hid hall
    clear hall
    by_cases hlt : k < xs.length
    · obtain ⟨bl, off, rfl, hbl, hc⟩ := HV.out.cells (by omega)
      have g := hc k hlt
      clear hc
      have S1 := take_snoc xs k hlt
      have hmem : xs.getD k 0 ∈ xs := by simp only [List.getD, List.getElem?_eq_getElem hlt, Option.getD_some]; exact List.getElem_mem hlt
      generalize xs.getD k 0 = x at g S1 hmem
      have HS := Lib.hid S1
      have HM := Lib.hid hmem
      clear S1 hmem
      cases hx : inB 0 (b - 1) x with
      | true =>
        have HX := Lib.hid hx
        go_wp2_with (go_at_call 59; refine (l00In_any _ _ _ _).mono ?_; rintro e w' ⟨rfl, rfl⟩)
        go_round
        case rel => exact ⟨k + 1, by omega, by go_num, by rw [HS.out, List.all_append, HA.out]; simp [HX.out]⟩
        case measure => simp [intOf]; omega
      | false =>
        have HX := Lib.hid hx
        go_wp2_with (go_at_call 59; refine (l00In_any _ _ _ _).mono ?_; rintro e w' ⟨rfl, rfl⟩)
        go_ret
        refine ⟨ret_bool ?_, rfl⟩
        have : xs.all (inB 0 (b - 1)) = false := by rw [List.all_eq_false]; exact ⟨x, HM.out, by simp [HX.out]⟩
        simp [okTargets, this]
    · have h1 := HA.out
      rw [List.take_of_length_le (by omega)] at h1
      have H1 := Lib.hid h1
      clear h1
      go_wp2
      go_ret
      refine ⟨ret_bool ?_, rfl⟩
      rw [okTargets, H1.out, Bool.true_and, decide_eq_decide]; omega

/-- How often a switch has been turned, and where it stands. -/
def turnsTo (xs : List Int) : Nat → Int × Int
  | 0 => (0, 0)
  | k + 1 => if xs.getD k 0 = (turnsTo xs k).2 then turnsTo xs k else ((turnsTo xs k).1 + 1, xs.getD k 0)
theorem turnsTo_le (xs : List Int) (k : Nat) : 0 ≤ (turnsTo xs k).1 ∧ (turnsTo xs k).1 ≤ k := by
  induction k with
  | zero => simp [turnsTo]
  | succ k ih => simp only [turnsTo]; split <;> simp <;> omega
def valTurns (xs : List Int) : Int × Int := if okTargets xs 2 = true then ((turnsTo xs xs.length).1, 0) else (0, 2)

set_option maxHeartbeats 1000000 in
theorem specSwitchTurns_any (v : Value) (xs : List Int) (w : World) (hv : RI w v xs) :
    Calls Try.prog 27 #[v] w fun e w' => e = .returned (.tuple #[.int .i64 (valTurns xs).1, .int .i64 (valTurns xs).2]) ∧ Below w.heap.size w w' := by
  obtain ⟨a, cap, rfl⟩ := hv.shape
  have HV := Lib.hid hv
  clear hv
  cases hok : okTargets xs 2 with
  | false =>
    have HE : Hid (valTurns xs = (0, 2)) := if_neg (by rw [hok]; simp)
    go_enter Try.func27, Try.ntmps27
    go_wp2_with fail
    refine (l17Targets_any _ xs 2 _ HV.out (by omega) (by omega)).mono ?_
    rintro e w' ⟨rfl, rfl⟩
    go_wp2_with fail
    go_ret2
    exact ⟨ret_ii (by rw [HE.out]) (by rw [HE.out]), Below.refl _ _⟩
  | true =>
    have l40 := (okTargets_iff hok).2
    have HE : Hid (valTurns xs = ((turnsTo xs xs.length).1, 0)) := if_pos hok
    go_enter Try.func27, Try.ntmps27
    go_wp2_with fail
    refine (l17Targets_any _ xs 2 _ HV.out (by omega) (by omega)).mono ?_
    rintro e w' ⟨rfl, rfl⟩
    go_wp2_with fail
    go_loop [4, 5, 6] (fun n at' i => ∃ k : Nat, k ≤ xs.length ∧ i = .int .i64 k ∧ n = .int .i64 (turnsTo xs k).1 ∧ at' = .int .i64 (turnsTo xs k).2) (fun _ _ i => xs.length - (intOf i).toNat)
    case atStart => exact ⟨0, Nat.zero_le _, rfl, rfl, rfl⟩
    case round =>
      obtain ⟨k, hk, rfl, rfl, rfl⟩ := hrel
      by_cases hlt : k < xs.length
      · obtain ⟨bl, off, rfl, hbl, hc⟩ := HV.out.cells (by omega)
        have g := hc k hlt
        clear hc
        have tl := turnsTo_le xs k
        have S1 : turnsTo xs (k + 1) = if xs.getD k 0 = (turnsTo xs k).2 then turnsTo xs k else ((turnsTo xs k).1 + 1, xs.getD k 0) := rfl
        have HS := Lib.hid S1
        clear S1
        generalize xs.getD k 0 = x at *
        generalize turnsTo xs k = t at *
        obtain ⟨n, p⟩ := t
        simp only at tl
        by_cases hx : x = p
        · have hn : (x != p) = false := by simp [hx]
          have HS2 := Lib.hid (HS.out.trans (if_pos hx))
          clear hx
          go_wp2_with fail
          go_round
          case rel => exact ⟨k + 1, by omega, by go_num, by rw [HS2.out], by rw [HS2.out]⟩
          case measure => simp [intOf]; omega
        · have hn : (x != p) = true := by simp [hx]
          have HS2 := Lib.hid (HS.out.trans (if_neg hx))
          clear hx
          go_wp2_with fail
          go_round
          case rel => exact ⟨k + 1, by omega, by go_num, by rw [HS2.out], by rw [HS2.out]⟩
          case measure => simp [intOf]; omega
      · obtain rfl : k = xs.length := by omega
        go_wp2_with fail
        go_ret2
        exact ⟨ret_ii (by rw [HE.out]) (by rw [HE.out]), Below.refl _ _⟩

set_option maxHeartbeats 1000000 in
theorem implSwitchTurns_any (v : Value) (xs : List Int) (w : World) (hv : RI w v xs) :
    Calls Try.prog 28 #[v] w fun e w' => e = .returned (.tuple #[.int .i64 (valTurns xs).1, .int .i64 (valTurns xs).2]) ∧ Below w.heap.size w w' := by
  obtain ⟨a, cap, rfl⟩ := hv.shape
  have hl := hv.len
  have HV := Lib.hid hv
  have HN := Lib.hid (any_not_all (inB 0 1) xs)
  clear hv
  by_cases h40 : xs.length ≤ 40
  · have C1 := outside_any _ xs 0 1 w HV.out
    cases hok : xs.any (fun n => !inB 0 1 n) with
    | true =>
      have hf : okTargets xs 2 = false := by
        have := HN.out; rw [hok] at this
        rw [okTargets, show ((2 : Int) - 1) = 1 from rfl, ← this]; rfl
      have HE : Hid (valTurns xs = (0, 2)) := if_neg (by rw [hf]; simp)
      rw [hok] at C1
      have D1 := Lib.hid C1
      clear C1 hok hf
      go_enter Try.func28, Try.ntmps28
      go_wp2_with fail
      refine D1.out.mono ?_
      rintro e w1 ⟨rfl, hb1⟩
      go_wp2_with fail
      go_ret2
      exact ⟨ret_ii (by rw [HE.out]) (by rw [HE.out]), hb1⟩
    | false =>
      have hf : okTargets xs 2 = true := by
        have := HN.out; rw [hok] at this
        rw [okTargets, show ((2 : Int) - 1) = 1 from rfl, ← this]; simp [h40]
      have HE : Hid (valTurns xs = ((turnsTo xs xs.length).1, 0)) := if_pos hf
      rw [hok] at C1
      have D1 := Lib.hid C1
      clear C1 hok hf
      go_enter Try.func28, Try.ntmps28
      go_wp2_with fail
      refine D1.out.mono ?_
      rintro e w1 ⟨rfl, hb1⟩
      go_wp2_with fail
      go_loop [4, 5, 17] (fun n at' i => ∃ k : Nat, k ≤ xs.length ∧ i = .int .i64 k ∧ n = .int .i64 (turnsTo xs k).1 ∧ at' = .int .i64 (turnsTo xs k).2) (fun _ _ i => xs.length - (intOf i).toNat)
      case atStart => exact ⟨0, Nat.zero_le _, rfl, rfl, rfl⟩
      case round =>
        obtain ⟨k, hk, rfl, rfl, rfl⟩ := hrel
        by_cases hlt : k < xs.length
        · obtain ⟨bl, off, rfl, hbl, hc⟩ := HV.out.cells (by omega)
          have g := (hb1.cell (p := ⟨bl, off + k, none⟩) hbl).trans (hc k hlt)
          clear hc
          have tl := turnsTo_le xs k
          have S1 : turnsTo xs (k + 1) = if xs.getD k 0 = (turnsTo xs k).2 then turnsTo xs k else ((turnsTo xs k).1 + 1, xs.getD k 0) := rfl
          have HS := Lib.hid S1
          clear S1
          generalize xs.getD k 0 = x at *
          generalize turnsTo xs k = t at *
          obtain ⟨n, p⟩ := t
          simp only at tl
          by_cases hx : x = p
          · have hn : (x != p) = false := by simp [hx]
            have HS2 := Lib.hid (HS.out.trans (if_pos hx))
            have HX := Lib.hid hx
            clear hx
            go_wp2_with fail
            go_round
            case rel => exact ⟨k + 1, by omega, by go_num, by rw [HS2.out], by rw [HS2.out, HX.out]⟩
            case measure => simp [intOf]; omega
          · have hn : (x != p) = true := by simp [hx]
            have HS2 := Lib.hid (HS.out.trans (if_neg hx))
            clear hx
            go_wp2_with fail
            go_round
            case rel => exact ⟨k + 1, by omega, by go_num, by rw [HS2.out], by rw [HS2.out]⟩
            case measure => simp [intOf]; omega
        · obtain rfl : k = xs.length := by omega
          go_wp2_with fail
          go_ret2
          exact ⟨ret_ii (by rw [HE.out]) (by rw [HE.out]), hb1⟩
  · have HE : Hid (valTurns xs = (0, 2)) := if_neg (by simp [okTargets, h40])
    have h4 : (40 : Int) < xs.length := by omega
    go_enter Try.func28, Try.ntmps28
    go_wp2_with fail
    go_ret2
    exact ⟨ret_ii (by rw [HE.out]) (by rw [HE.out]), Below.refl _ _⟩

/-- How many targets each branch has among the first k. -/
def countsTo (b : Nat) (xs : List Int) : Nat → List Int
  | 0 => List.replicate b 0
  | k + 1 => (countsTo b xs k).set (xs.getD k 0).toNat ((countsTo b xs k).getD (xs.getD k 0).toNat 0 + 1)
theorem countsTo_length (b : Nat) (xs : List Int) (k : Nat) : (countsTo b xs k).length = b := by
  induction k with
  | zero => simp [countsTo]
  | succ k ih => simp [countsTo, ih]
theorem countsTo_le (b : Nat) (xs : List Int) (k : Nat) : ∀ y ∈ countsTo b xs k, 0 ≤ y ∧ y ≤ k := by
  induction k with
  | zero => intro y hy; simp only [countsTo] at hy; have := List.eq_of_mem_replicate hy; omega
  | succ k ih =>
    intro y hy
    simp only [countsTo] at hy
    rcases List.mem_or_eq_of_mem_set hy with hy | rfl
    · have := ih y hy; omega
    · by_cases h : (xs.getD k 0).toNat < (countsTo b xs k).length
      · have hm : (countsTo b xs k).getD (xs.getD k 0).toNat 0 ∈ countsTo b xs k := by
          rw [List.getD, List.getElem?_eq_getElem h, Option.getD_some]; exact List.getElem_mem h
        have := ih _ hm; omega
      · rw [List.getD, List.getElem?_eq_none (by omega), Option.getD_none]; omega
theorem countsTo_getD (b : Nat) (xs : List Int) (k j : Nat) : 0 ≤ (countsTo b xs k).getD j 0 ∧ (countsTo b xs k).getD j 0 ≤ k := by
  by_cases h : j < (countsTo b xs k).length
  · refine countsTo_le b xs k _ ?_
    rw [List.getD, List.getElem?_eq_getElem h, Option.getD_some]; exact List.getElem_mem h
  · rw [List.getD, List.getElem?_eq_none (by omega), Option.getD_none]; omega
def okBranches (xs : List Int) (b : Int) : Bool := inB 1 8 b && okTargets xs b
def valBranches (xs : List Int) (b : Int) : List Int × Int := if okBranches xs b = true then (countsTo b.toNat xs xs.length, 0) else ([], 2)

set_option maxHeartbeats 1000000 in
theorem specBranchCounts_any (v : Value) (xs : List Int) (b : Int) (w : World) (hv : RI w v xs) :
    Calls Try.prog 23 #[v, .int .i64 b] w fun e w' => ∃ v', e = .returned (.tuple #[v', .int .i64 (valBranches xs b).2]) ∧ OI 2 w' w.heap.size v' (valBranches xs b).1 ∧ Below w.heap.size w w' := by
  obtain ⟨a, cap, rfl⟩ := hv.shape
  have hl := hv.len
  have HV := Lib.hid hv
  clear hv
  obtain ⟨i0, hi, hz0, hz1, hz2⟩ := info_parts info64
  have HI := Lib.hid hi
  clear hi
  cases hb8 : inB 1 8 b with
  | false =>
    have HE : Hid (valBranches xs b = ([], 2)) := if_neg (by simp [okBranches, hb8])
    go_enter Try.func23, Try.ntmps23
    go_wp2_with (go_at_call 59; refine (l00In_any _ _ _ _).mono ?_; rintro e w' ⟨rfl, rfl⟩)
    go_ret2
    exact ⟨_, by rw [HE.out]; rfl, by rw [HE.out]; exact OI.nil _ _ _, Below.refl _ _⟩
  | true =>
    have hb : 1 ≤ b ∧ b ≤ 8 := by simpa [inB] using hb8
    obtain ⟨bn, rfl⟩ := Int.eq_ofNat_of_zero_le (by omega : 0 ≤ b)
    cases hok : okTargets xs bn with
    | false =>
      have HE : Hid (valBranches xs bn = ([], 2)) := if_neg (by simp [okBranches, hok])
      go_enter Try.func23, Try.ntmps23
      go_wp2_with (first | (go_at_call 59; refine (l00In_any _ _ _ _).mono ?_; rintro e w' ⟨rfl, rfl⟩) | (go_at_call 60; refine (l17Targets_any _ xs _ _ HV.out hb.1 (by omega)).mono ?_; rintro e w' ⟨rfl, rfl⟩))
      go_ret2
      exact ⟨_, by rw [HE.out]; rfl, by rw [HE.out]; exact OI.nil _ _ _, Below.refl _ _⟩
    | true =>
      have l40 := (okTargets_iff hok).2
      have HE : Hid (valBranches xs bn = (countsTo bn xs xs.length, 0)) := if_pos (by simp [okBranches, hok, hb8])
      have HT := Lib.hid (fun k hk => okTargets_getD hok k hk)
      obtain ⟨wb, hwb⟩ : ∃ wb : World, wb = w := ⟨_, rfl⟩
      have hb1 : Below w.heap.size w w := Below.refl _ _
      go_enter Try.func23, Try.ntmps23
      go_wp2_with (first | (go_at_call 59; refine (l00In_any _ _ _ _).mono ?_; rintro e w' ⟨rfl, rfl⟩) | (go_at_call 60; refine (l17Targets_any _ xs _ _ HV.out hb.1 (by omega)).mono ?_; rintro e w' ⟨rfl, rfl⟩) | (at_make; refine wpList_make_full _ rfl _ _ 22 rfl w.heap.size 2 i0 (.int .i64 0) 1 Try.underlying22 HI.out hz0 hz1 .i64 .i64 _ _ bn rfl rfl rfl rfl (by rw [hz2]; omega) (by unfold maxLen; omega) hb1.size ?_; intro w2 hown hgr))
      have hb2 : Below w.heap.size w w2 := hb1.grown hgr hb1.size (by simp)
      have HO := Lib.hid (OI.made hown)
      have hbn : bn ≤ 8 := by omega
      clear hown hgr
      go_loopw [7] (fun i wr => ∃ k : Nat, k ≤ xs.length ∧ i = .int .i64 k ∧ Below w.heap.size w wr ∧ OI 2 wr w.heap.size (.slice (some ⟨w.heap.size, 0, none⟩) bn bn) (countsTo bn xs k)) (fun i _ => xs.length - (intOf i).toNat)
      case atStart => exact ⟨0, Nat.zero_le _, rfl, hb2, HO.out⟩
      case round =>
        obtain ⟨k, hk, rfl, hb3, ho⟩ := hrel
        by_cases hlt : k < xs.length
        · obtain ⟨bl, off, rfl, hbl, hc⟩ := HV.out.cells (by omega)
          have g := (hb3.cell (p := ⟨bl, off + k, none⟩) hbl).trans (hc k hlt)
          clear hc
          have ht := HT.out k hlt
          have S1 : countsTo bn xs (k + 1) = (countsTo bn xs k).set (xs.getD k 0).toNat ((countsTo bn xs k).getD (xs.getD k 0).toNat 0 + 1) := rfl
          generalize xs.getD k 0 = x at g ht S1
          obtain ⟨m, rfl⟩ := Int.eq_ofNat_of_zero_le ht.1
          rw [Int.toNat_natCast] at S1
          have hm : m < bn := by omega
          obtain ⟨g2, f2⟩ := ho.cell m (by rw [countsTo_length]; exact hm)
          have bd := countsTo_getD bn xs k m
          have HSet := Lib.hid (ho.set m ((countsTo bn xs k).getD m 0 + 1) (by unfold Good; omega))
          have HS := Lib.hid S1
          clear ho S1
          generalize (countsTo bn xs k).getD m 0 = y at *
          go_wp2_with fail
          go_roundw
          case rel =>
            obtain ⟨a1, a2⟩ := HSet.out
            exact ⟨k + 1, by omega, by go_num, hb3.grown a2 hb3.size (fun q hq => by simp at hq; subst hq; exact hb1.size), by rw [HS.out]; exact a1⟩
          case measure => simp [intOf]; omega
        · obtain rfl : k = xs.length := by omega
          have HO2 := Lib.hid ho
          clear ho
          go_wp2_with fail
          go_ret2
          exact ⟨_, by rw [HE.out]; rfl, by rw [HE.out]; exact HO2.out, hb3⟩

set_option maxHeartbeats 1000000 in
theorem implBranchCounts_any (v : Value) (xs : List Int) (b : Int) (w : World) (hv : RI w v xs) :
    Calls Try.prog 24 #[v, .int .i64 b] w fun e w' => ∃ v', e = .returned (.tuple #[v', .int .i64 (valBranches xs b).2]) ∧ OI 2 w' w.heap.size v' (valBranches xs b).1 ∧ Below w.heap.size w w' := by
  obtain ⟨a, cap, rfl⟩ := hv.shape
  have hl := hv.len
  have HV := Lib.hid hv
  clear hv
  obtain ⟨i0, hi, hz0, hz1, hz2⟩ := info_parts info64
  have HI := Lib.hid hi
  clear hi
  cases hb8 : inB 1 8 b with
  | false =>
    have HE : Hid (valBranches xs b = ([], 2)) := if_neg (by simp [okBranches, hb8])
    go_enter Try.func24, Try.ntmps24
    go_wp2_with (go_at_call 58; refine (within_any _ _ _ _).mono ?_; rintro e w' ⟨rfl, rfl⟩)
    go_ret2
    exact ⟨_, by rw [HE.out]; rfl, by rw [HE.out]; exact OI.nil _ _ _, Below.refl _ _⟩
  | true =>
    have hb : 1 ≤ b ∧ b ≤ 8 := by simpa [inB] using hb8
    obtain ⟨bn, rfl⟩ := Int.eq_ofNat_of_zero_le (by omega : 0 ≤ b)
    have HN := Lib.hid (any_not_all (inB 0 (bn - 1)) xs)
    by_cases h40 : xs.length ≤ 40
    · have C1 := outside_any _ xs 0 (bn - 1) w HV.out
      have h4 : ¬ (40 : Int) < xs.length := by omega
      have h4d : decide ((40 : Int) < xs.length) = false := by simpa using h4
      cases hok : xs.any (fun n => !inB 0 (bn - 1) n) with
      | true =>
        have hf : okTargets xs bn = false := by
          have := HN.out; rw [hok] at this
          rw [okTargets, ← this]; rfl
        have HE : Hid (valBranches xs bn = ([], 2)) := if_neg (by simp [okBranches, hf])
        rw [hok] at C1
        have D1 := Lib.hid C1
        clear C1 hok hf
        go_enter Try.func24, Try.ntmps24
        go_wp2_with (first | (go_at_call 58; refine (within_any _ _ _ _).mono ?_; rintro e w' ⟨rfl, rfl⟩) | (go_at_call 61; refine D1.out.mono ?_; rintro e w1 ⟨rfl, hb1⟩))
        go_ret2
        exact ⟨_, by rw [HE.out]; rfl, by rw [HE.out]; exact OI.nil _ _ _, by assumption⟩
      | false =>
        have hf : okTargets xs bn = true := by
          have := HN.out; rw [hok] at this
          rw [okTargets, ← this]; simp [h40]
        have l40 := h40
        have HE : Hid (valBranches xs bn = (countsTo bn xs xs.length, 0)) := if_pos (by simp [okBranches, hf, hb8])
        have HT := Lib.hid (fun k hk => okTargets_getD hf k hk)
        rw [hok] at C1
        have D1 := Lib.hid C1
        clear C1 hok hf
        go_enter Try.func24, Try.ntmps24
        go_wp2_with (first | (go_at_call 58; refine (within_any _ _ _ _).mono ?_; rintro e w' ⟨rfl, rfl⟩) | (go_at_call 61; refine D1.out.mono ?_; rintro e w1 ⟨rfl, hb1⟩) | (at_make; refine wpList_make_full _ rfl _ _ 22 rfl w.heap.size 2 i0 (.int .i64 0) 1 Try.underlying22 HI.out hz0 hz1 .i64 .i64 _ _ bn rfl rfl rfl rfl (by rw [hz2]; omega) (by unfold maxLen; omega) hb1.size ?_; intro w2 hown hgr))
        have hb2 : Below w.heap.size w w2 := hb1.grown hgr hb1.size (by simp)
        have HO := Lib.hid (OI.made hown)
        have hbn : bn ≤ 8 := by omega
        clear hown hgr
        go_loopw [27] (fun i wr => ∃ k : Nat, k ≤ xs.length ∧ i = .int .i64 k ∧ Below w.heap.size w wr ∧ OI 2 wr w.heap.size (.slice (some ⟨w1.heap.size, 0, none⟩) bn bn) (countsTo bn xs k)) (fun i _ => xs.length - (intOf i).toNat)
        case atStart => exact ⟨0, Nat.zero_le _, rfl, hb2, HO.out⟩
        case round =>
          obtain ⟨k, hk, rfl, hb3, ho⟩ := hrel
          by_cases hlt : k < xs.length
          · obtain ⟨bl, off, rfl, hbl, hc⟩ := HV.out.cells (by omega)
            have g := (hb3.cell (p := ⟨bl, off + k, none⟩) hbl).trans (hc k hlt)
            clear hc
            have ht := HT.out k hlt
            have S1 : countsTo bn xs (k + 1) = (countsTo bn xs k).set (xs.getD k 0).toNat ((countsTo bn xs k).getD (xs.getD k 0).toNat 0 + 1) := rfl
            generalize xs.getD k 0 = x at g ht S1
            obtain ⟨m, rfl⟩ := Int.eq_ofNat_of_zero_le ht.1
            rw [Int.toNat_natCast] at S1
            have hm : m < bn := by omega
            obtain ⟨g2, f2⟩ := ho.cell m (by rw [countsTo_length]; exact hm)
            have bd := countsTo_getD bn xs k m
            have HSet := Lib.hid (ho.set m ((countsTo bn xs k).getD m 0 + 1) (by unfold Good; omega))
            have HS := Lib.hid S1
            clear ho S1
            generalize (countsTo bn xs k).getD m 0 = y at *
            go_wp2_with fail
            go_roundw
            case rel =>
              obtain ⟨a1, a2⟩ := HSet.out
              exact ⟨k + 1, by omega, by go_num, hb3.grown a2 hb3.size (fun q hq => by simp at hq; subst hq; exact hb1.size), by rw [HS.out]; exact a1⟩
            case measure => simp [intOf]; omega
          · obtain rfl : k = xs.length := by omega
            have HO2 := Lib.hid ho
            clear ho
            go_wp2_with fail
            go_ret2
            exact ⟨_, by rw [HE.out]; rfl, by rw [HE.out]; exact HO2.out, hb3⟩
    · have HE : Hid (valBranches xs bn = ([], 2)) := if_neg (by simp [okBranches, okTargets, h40])
      have h4 : (40 : Int) < xs.length := by omega
      go_enter Try.func24, Try.ntmps24
      go_wp2_with (go_at_call 58; refine (within_any _ _ _ _).mono ?_; rintro e w' ⟨rfl, rfl⟩)
      go_ret2
      exact ⟨_, by rw [HE.out]; rfl, by rw [HE.out]; exact OI.nil _ _ _, Below.refl _ _⟩

theorem valBranches_len (xs : List Int) (b : Int) : (valBranches xs b).1.length ≤ 1048576 := by
  unfold valBranches
  split
  · rename_i h
    simp only [okBranches, Bool.and_eq_true] at h
    have hb : 1 ≤ b ∧ b ≤ 8 := by simpa [inB] using h.1
    simp only [countsTo_length]; omega
  · simp

end Go.Proofs.Yteohfokchimfeaa
