/-
  The least address that can tell more, in plain Lean. No program in sight.
  RunTrials of the reference and of the program: what each returns.
  FirstContrary of the reference and of the program: what each returns.
  What trials of real switches show of them. In plain Lean, no program in sight.
  The stuck switches that the laws draw.
-/
import Derived.Test.YthlpbeohlhhblaaGreatTopQ
import Derived.Test.YthlpbeohlhhblaaGreatTopO
import Derived.Test.YthlpbeohlhhblaaGreatTopD
import Derived.Test.YthlpbeohlhhblaaGreatTopP
import Derived.Test.YthlpbeohlhhblaaGreatTopH
import Derived.Deep.RegionHeld3
namespace Go.Proofs.YthlpbeohlhhblaaGreat
open Go.RowKit

theorem run_grow {n : Int} {xs : List (Int × Int)} (h : okStuck n xs = true) (a : Int) (k m : Nat) : ∃ t : Int, 0 ≤ t ∧ t < 2 ^ m ∧ runAt n xs a (k + m) = 2 ^ m * runAt n xs a k + t := by
  induction m with
  | zero => exact ⟨0, by omega, by simp, by simp⟩
  | succ m ih =>
    obtain ⟨t, t0, t1, ht⟩ := ih
    have hg := goes_01 h (runAt n xs a (k + m)) (dig n a ((k + m : Nat) : Int)) (dig_01 _ _ _)
    refine ⟨2 * t + goes xs (runAt n xs a (k + m)) (dig n a ((k + m : Nat) : Int)), by omega, ?_, ?_⟩
    · rw [Int.pow_succ]; omega
    · show 2 * runAt n xs a (k + m) + goes xs (runAt n xs a (k + m)) (dig n a ((k + m : Nat) : Int)) = _
      rw [Int.pow_succ]
      have e : (2 ^ m * 2 * runAt n xs a k : Int) = 2 * (2 ^ m * runAt n xs a k) := by rw [Int.mul_comm (2 ^ m) 2, Int.mul_assoc]
      rw [e]
      generalize goes xs (runAt n xs a (k + m)) (dig n a ((k + m : Nat) : Int)) = g
      omega

theorem dig_run {n : Nat} {xs : List (Int × Int)} (h : okStuck n xs = true) (a : Int) (k : Nat) (hk : k < n) : dig n (runE n xs a) k = goes xs (runAt n xs a k) (dig n a k) := by
  obtain ⟨m, hm⟩ : ∃ m, n = k + 1 + m := ⟨n - k - 1, by omega⟩
  obtain ⟨t, t0, t1, ht⟩ := run_grow h a (k + 1) m
  have hg := goes_01 h (runAt n xs a k) (dig n a k) (dig_01 _ _ _)
  have hE : runE n xs a = 2 ^ m * (runAt n xs a (k + 1) - 2 ^ (k + 1)) + t := by
    unfold runE ex
    have e2 : (2 : Int) ^ n = 2 ^ m * 2 ^ (k + 1) := by rw [← Int.pow_add]; congr 1; omega
    rw [Int.toNat_natCast]
    have e3 : runAt n xs a n = runAt n xs a (k + 1 + m) := by rw [← hm]
    rw [e3, ht, e2, Int.mul_sub]; omega
  have hp : (0 : Int) < 2 ^ m := Int.pow_pos (by omega)
  have hd : runE n xs a / 2 ^ m = runAt n xs a (k + 1) - 2 ^ (k + 1) := by
    rw [hE, Int.add_comm, Int.add_mul_ediv_left _ _ (by omega), Int.ediv_eq_zero_of_lt t0 t1]; omega
  have e4 : ((n : Int) - 1 - k).toNat = m := by omega
  have hdg : dig n (runE n xs a) k = runE n xs a / 2 ^ m % 2 := by unfold dig; rw [e4]
  rw [hdg, hd]
  show (2 * runAt n xs a k + goes xs (runAt n xs a k) (dig n a k) - 2 ^ (k + 1)) % 2 = _
  rw [Int.pow_succ]
  generalize goes xs (runAt n xs a k) (dig n a k) = g at hg
  omega

/-- The way to the exit where a carrier runs is the way that it runs. -/
theorem way_run {n : Nat} {xs : List (Int × Int)} (h : okStuck n xs = true) (a : Int) (k : Nat) (hk : k ≤ n) : wayAt n (runE n xs a) k = runAt n xs a k := by
  induction k with
  | zero => rfl
  | succ k ih =>
    show 2 * wayAt n (runE n xs a) k + dig n (runE n xs a) k = 2 * runAt n xs a k + goes xs (runAt n xs a k) (dig n a k)
    rw [ih (by omega), dig_run h a k (by omega)]

theorem fewTo_mem {N : Nat} {st : List B4} (hf : fit4 N st) {k : Nat} {x : Int × Int} (hx : x ∈ fewTo st k) : 1 ≤ x.1 ∧ x.1 < k ∧ 0 ≤ x.2 ∧ x.2 ≤ 1 := by
  unfold fewTo at hx
  obtain ⟨v, hv, rfl⟩ := List.mem_map.1 hx
  obtain ⟨h1, h2⟩ := List.mem_filter.1 hv
  have h3 := List.mem_range.1 h1
  have h4 : v ≠ 0 := by
    intro e
    subst e
    rw [hf.2.2] at h2
    simp [wrong4, z4] at h2
  refine ⟨by simp only; omega, by simp only; omega, ?_⟩
  simp only [side4]
  split <;> omega
theorem fewTo_sorted (st : List B4) (k : Nat) : (fewTo st k).Pairwise (fun a b => a.1 < b.1) := by
  unfold fewTo
  rw [List.pairwise_map]
  refine List.Pairwise.filter _ ?_
  exact (List.pairwise_lt_range (n := k)).imp (fun h => by simp only; omega)
theorem fewTo_ok {n : Nat} (hd : inB 1 4 (n : Int) = true) {st : List B4} (hf : fit4 (2 ^ n) st) : okStuck n (fewTo st (2 ^ n)) = true := by
  have hE : ex (n : Int) = ((2 ^ n : Nat) : Int) := by simp [ex]
  refine okStuck_yes (fun j hj => ?_) hd
  have hm := fewTo_mem hf (List.getElem_mem hj)
  have hg : (fewTo st (2 ^ n)).getD j (0, 0) = (fewTo st (2 ^ n))[j] := by simp [List.getD, hj]
  have hs : (decide (j = 0) || decide (((fewTo st (2 ^ n)).getD (j - 1) (0, 0)).1 < ((fewTo st (2 ^ n)).getD j (0, 0)).1)) = true := by
    by_cases h0 : j = 0
    · simp [h0]
    · have := List.pairwise_iff_getElem.1 (fewTo_sorted st (2 ^ n)) (j - 1) j (by omega) hj (by omega)
      rw [hg, show (fewTo st (2 ^ n)).getD (j - 1) (0, 0) = (fewTo st (2 ^ n))[j - 1]'(by omega) by simp [List.getD, show j - 1 < (fewTo st (2 ^ n)).length by omega]]
      simp [this]
  simp only [okS, hs, Bool.and_true]
  rw [hg, hE]
  simp only [inB, Bool.and_eq_true, decide_eq_true_eq]
  omega

/-- Does a letter leave something open? -/
def newL (c : Int) : Bool := c == 63 || c == 97 || c == 98
/-- Does an address lead through a switch of which not all is known? -/
def newAt (n : Nat) (xs : List (Int × Int)) (ls : List Int) (a : Int) : Bool := (List.range n).any fun k => newL (ls.getD (runAt n xs a k).toNat 0)
def tried (ts : List (Int × Int)) (a : Int) : Bool := ts.any fun t => t.1 == a
theorem newAt_way {n : Nat} {xs : List (Int × Int)} (h : okStuck n xs = true) (ls : List Int) (a : Int) : ((way n (runE n xs a)).any fun v => newL (ls.getD v.toNat 0)) = newAt n xs ls a := by
  unfold way newAt
  rw [List.any_map, Int.toNat_natCast]
  rw [Bool.eq_iff_iff, List.any_eq_true, List.any_eq_true]
  constructor
  · rintro ⟨k, hk, h1⟩
    refine ⟨k, hk, ?_⟩
    rw [← way_run h a k (by have := List.mem_range.1 hk; omega)]; exact h1
  · rintro ⟨k, hk, h1⟩
    refine ⟨k, hk, ?_⟩
    show newL (ls.getD (wayAt n (runE n xs a) k).toNat 0) = true
    rw [way_run h a k (by have := List.mem_range.1 hk; omega)]; exact h1

def goodA (n : Nat) (ts xs : List (Int × Int)) (ls : List Int) (a : Nat) : Bool := !tried ts a && newAt n xs ls a
def nextA (d : Int) (ts : List (Int × Int)) : Option Nat := (List.range (2 ^ d.toNat)).find? (goodA d.toNat ts (fewTo (seenTo d ts) (2 ^ d.toNat)) (lettersTo (seenTo d ts) (2 ^ d.toNat)))
def valNext (d : Int) (ts : List (Int × Int)) : Int × Int := if codeF d ts = 0 then (match nextA d ts with | some a => ((a : Int), 0) | none => (0, 3)) else (0, codeF d ts)
theorem next_hit {d : Int} {ts : List (Int × Int)} (h : codeF d ts = 0) {k : Nat} (hk : k < 2 ^ d.toNat) (hc : goodA d.toNat ts (fewTo (seenTo d ts) (2 ^ d.toNat)) (lettersTo (seenTo d ts) (2 ^ d.toNat)) k = true)
    (hn : ∀ j, j < k → goodA d.toNat ts (fewTo (seenTo d ts) (2 ^ d.toNat)) (lettersTo (seenTo d ts) (2 ^ d.toNat)) j = false) : valNext d ts = ((k : Int), 0) := by
  have : nextA d ts = some k := by
    unfold nextA
    rw [List.find?_range_eq_some]
    exact ⟨hc, by simpa using hk, fun j hj => by simp [hn j hj]⟩
  simp [valNext, h, this]
theorem next_miss {d : Int} {ts : List (Int × Int)} (h : codeF d ts = 0) (hn : ∀ j, j < 2 ^ d.toNat → goodA d.toNat ts (fewTo (seenTo d ts) (2 ^ d.toNat)) (lettersTo (seenTo d ts) (2 ^ d.toNat)) j = false) : valNext d ts = (0, 3) := by
  have : nextA d ts = none := by
    unfold nextA
    rw [List.find?_range_eq_none]
    exact fun j hj => by simp [hn j hj]
  simp [valNext, h, this]

theorem letter_small (s : B4) : 0 ≤ letter4 s ∧ letter4 s < 256 := by
  unfold letter4
  split
  · omega
  · split
    · omega
    · split
      · omega
      · split
        · omega
        · split <;> omega
theorem lettersTo_small (st : List B4) (k i : Nat) : 0 ≤ (lettersTo st k).getD i 0 ∧ (lettersTo st k).getD i 0 < 256 := by
  by_cases hi : i < k
  · have : (lettersTo st k).getD i 0 = letter4 (st.getD i z4) := by simp [lettersTo, List.getD, hi]
    rw [this]; exact letter_small _
  · have : (lettersTo st k).getD i 0 = 0 := by simp [lettersTo, List.getD, List.getElem?_eq_none, hi]
    rw [this]; omega
/-- A byte of the letters as a string. -/
theorem known_byte (st : List B4) (k j : Nat) (hs : j < (strOfNums ((lettersTo st k).drop 1)).size) : ((((strOfNums ((lettersTo st k).drop 1))[j]'hs).toNat : Nat) : Int) = (lettersTo st k).getD (j + 1) 0 := by
  have hl := lettersTo_small st k (j + 1)
  have hsz := strOfNums_size ((lettersTo st k).drop 1)
  have hj : j < ((lettersTo st k).drop 1).length := by omega
  have e : (strOfNums ((lettersTo st k).drop 1))[j]'hs = UInt8.ofNat (((lettersTo st k).drop 1)[j]).toNat := by
    show ((((lettersTo st k).drop 1).map fun n => UInt8.ofNat n.toNat).toArray)[j]'(by simpa using hj) = _
    simp
  rw [e]
  have e2 : ((lettersTo st k).drop 1)[j] = (lettersTo st k).getD (j + 1) 0 := by
    rw [List.getElem_drop]
    have : 1 + j < (lettersTo st k).length := by simp at hj; omega
    simp [List.getD, show j + 1 < (lettersTo st k).length by omega, Nat.add_comm 1 j]
  rw [e2]
  generalize (lettersTo st k).getD (j + 1) 0 = c at hl
  simp only [UInt8.toNat_ofNat']
  omega

end Go.Proofs.YthlpbeohlhhblaaGreat
namespace Go.Proofs.YthlpbeohlhhblaaGreat
open Go.RowKit

/-- The trials of addresses. -/
def runs (d : Int) (xs : List (Int × Int)) (ys : List Int) : List (Int × Int) := ys.map fun a => (a, runE d xs a)
def okAddr (d : Int) (ys : List Int) : Bool := ys.all (inB 0 (ex d - 1)) && decide (ys.length ≤ 16)
def valRuns (d : Int) (xs : List (Int × Int)) (ys : List Int) : List (Int × Int) × Int :=
  if okStuck d xs then (if okAddr d ys then (runs d xs ys, 0) else ([], 2)) else ([], 1)

theorem infoTrial2 : (Tryz.prog.info? 94).map (fun i => (i.zero, i.size, i.bytes)) = some (some (.agg #[.int .i64 0, .int .i64 0]), 2, 16) := by kernel_rfl

theorem runs_snoc (d : Int) (xs : List (Int × Int)) (ys : List Int) (k : Nat) (h : k < ys.length) : runs d xs (ys.take (k + 1)) = runs d xs (ys.take k) ++ [(ys.getD k 0, runE d xs (ys.getD k 0))] := by
  rw [take_snoc ys k h]; simp [runs]

theorem valRuns_len (d : Int) (xs : List (Int × Int)) (ys : List Int) : (valRuns d xs ys).1.length ≤ 16 := by
  unfold valRuns
  split
  · split
    · rename_i h; simp [okAddr] at h; simp [runs]; exact h.2
    · simp
  · simp

theorem okAddr_at {d : Int} {ys : List Int} (h : okAddr d ys = true) (hd : inB 1 4 d = true) {k : Nat} (hk : k < ys.length) : 0 ≤ ys.getD k 0 ∧ ys.getD k 0 ≤ 15 := by
  simp only [okAddr, Bool.and_eq_true, List.all_eq_true] at h
  have h1 := h.1 _ (List.getElem_mem hk)
  have h2 := (wrap_ex hd).2.2.2
  simp only [List.getD, List.getElem?_eq_getElem hk, Option.getD_some]
  simp only [inB, Bool.and_eq_true, decide_eq_true_eq] at h1
  omega

theorem implRunTrials_any (d : Int) (v : Value) (xs : List (Int × Int)) (u : Value) (ys : List Int) (w : World) (hv : SI P2 w v xs) (hu : RI w u ys) :
    Calls Tryz.prog 18 #[.int .i64 d, v, u] w fun e w' => ∃ v', e = .returned (.tuple #[v', .int .i64 (valRuns d xs ys).2]) ∧ OS P2 94 w' w.heap.size v' (valRuns d xs ys).1 ∧ Below w.heap.size w w' := by
  obtain ⟨a, cap, rfl⟩ := hu.shape
  have hl := hu.len
  have HV := Lib.hid hv
  have HU := Lib.hid hu
  have C1 := implValidStuck_any d v xs w hv
  clear hv hu
  cases h1 : okStuck d xs with
  | false =>
    rw [h1] at C1
    have D1 := Lib.hid C1
    have HE := Lib.hid (show valRuns d xs ys = ([], 1) by simp only [valRuns, h1]; rfl)
    clear C1 h1
    go_enter Tryz.func18, Tryz.ntmps18
    go_wp2_with (go_at_call 45; refine D1.out.mono ?_; rintro e w1 ⟨rfl, hb1⟩)
    go_ret2
    exact ⟨_, by rw [HE.out]; rfl, by rw [HE.out]; exact OS.nil _ _ _, hb1⟩
  | true =>
    rw [h1] at C1
    have D1 := Lib.hid C1
    have HK := Lib.hid h1
    have hd := okStuck_depth h1
    have HD := Lib.hid hd
    have hdd : 1 ≤ d ∧ d ≤ 4 := by simpa [inB] using hd
    obtain ⟨d1, d2⟩ := hdd
    obtain ⟨e1, e2, e3, e4⟩ := wrap_ex hd
    have E1 := Lib.hid e1
    have E2 := Lib.hid e2
    clear hd e1 e2
    by_cases h16 : ys.length ≤ 16
    · have hd2 : decide ((16 : Int) < ys.length) = false := by rw [decide_eq_false_iff_not]; omega
      have C2 := fun (W : World) (h : RI W (.slice a ys.length cap) ys) => outside_any _ ys 0 (ex d - 1) W h
      have hany : ys.any (fun n => !inB 0 (ex d - 1) n) = !okAddr d ys := by
        rw [okAddr, show decide (ys.length ≤ 16) = true by simpa using h16, Bool.and_true]
        clear C2 hd2 h16 C1 D1 HU hl
        induction ys with
        | nil => rfl
        | cons x ys ih => simp [List.all_cons, List.any_cons, ih]
      rw [hany] at C2
      clear hany
      cases h2 : okAddr d ys with
      | false =>
        rw [h2] at C2
        have D2 := Lib.hid C2
        have HE := Lib.hid (show valRuns d xs ys = ([], 2) by simp only [valRuns, h1, h2]; rfl)
        clear C1 C2 h1 h2
        go_enter Tryz.func18, Tryz.ntmps18
        go_wp2_with fail
        refine D1.out.mono ?_
        rintro e w1 ⟨rfl, hb1⟩
        go_wp2_with fail
        rw [E1.out, E2.out]
        refine (D2.out _ (HU.out.below hb1)).mono ?_
        rintro e w2 ⟨rfl, hb2⟩
        go_wp2
        go_ret2
        exact ⟨_, by rw [HE.out]; rfl, by rw [HE.out]; exact OS.nil _ _ _, bthen hb1 hb2⟩
      | true =>
        rw [h2] at C2
        have D2 := Lib.hid C2
        have HA := Lib.hid h2
        have HE := Lib.hid (show valRuns d xs ys = (runs d xs ys, 0) by simp only [valRuns, h1, h2]; rfl)
        clear C1 C2 h1 h2
        obtain ⟨i0, hi, hz0, hz1, hz2⟩ := info_parts infoTrial2
        have HI := Lib.hid hi
        clear hi
        go_enter Tryz.func18, Tryz.ntmps18
        go_wp2_with fail
        refine D1.out.mono ?_
        rintro e w1 ⟨rfl, hb1⟩
        go_wp2_with fail
        rw [E1.out, E2.out]
        refine (D2.out _ (HU.out.below hb1)).mono ?_
        rintro e w2 ⟨rfl, hb2⟩
        have B2 := bthen hb1 hb2
        clear hb1 hb2
        go_wp2_with fail
        go_loopw [8, 31] (fun vo i wr => ∃ (k : Nat) (o : Value), k ≤ ys.length ∧ vo = o ∧ i = .int .i64 k ∧ Below w.heap.size w wr ∧ OS P2 94 wr w.heap.size o (runs d xs (ys.take k))) (fun _ i _ => ys.length - (intOf i).toNat)
        case atStart => exact ⟨0, _, Nat.zero_le _, rfl, rfl, B2.alloc B2.size _, OS.lit0 _ _ _ B2.size⟩
        case round =>
          obtain ⟨k, o, hk, rfl, rfl, hw, ho⟩ := hrel
          have HO := Lib.hid ho
          clear ho
          by_cases hlt : k < ys.length
          · obtain ⟨b, off, rfl, hb, hc⟩ := HU.out.cells (by omega)
            have g1 := (hw.cell (p := ⟨b, off + k, none⟩) hb).trans (hc k hlt)
            obtain ⟨x0, x1⟩ := okAddr_at HA.out HD.out hlt
            have S1 := runs_snoc d xs ys k hlt
            clear hc
            generalize ys.getD k 0 = x at g1 x0 x1 S1
            have hrb := runE_bound HK.out x
            have C3 := fun (W : World) (h : SI P2 W v xs) => exitOf_any d v xs x W h HK.out x0 (by omega)
            generalize runE d xs x = r at C3 S1 hrb
            obtain ⟨r0, r1⟩ := hrb
            have D3 := Lib.hid C3
            have HS := Lib.hid S1
            clear C3 S1
            have HLen : (runs d xs (ys.take k)).length ≤ 16 := by simp [runs]; omega
            go_wp2_with fail
            refine (D3.out _ (HV.out.below hw)).mono ?_
            rintro e w3 ⟨rfl, hb3⟩
            have hw3 := bthen hw hb3
            have HO3 := Lib.hid (HO.out.below hb3)
            go_wp2_with (at_builtin; refine wpList_appS (E := P2) rfl _ _ 49 rfl 94 _ i0 _ Tryz.underlying49 HI.out hz0 rfl hz1 16 hz2 (by decide) w.heap.size _ _ rfl HO3.out (x, r) _ rfl _ (by simp) rfl ?_ ?_ hw3.size ?_)
            · intro y hy; simp [P2] at hy; unfold Good; omega
            · omega
            · intro v9 w9 h1 h2 _
              have hb9 := HO3.out.step hw3 h2
              have H9 := Lib.hid h1
              clear h1 h2
              go_wp2_with fail
              go_roundw
              case rel => exact ⟨k + 1, v9, by omega, rfl, by go_num, hb9, by rw [HS.out]; exact H9.out⟩
              case measure => simp [intOf]; omega
          · go_wp2
            go_ret2
            have h3 := HO.out
            rw [List.take_of_length_le (by omega)] at h3
            exact ⟨_, by rw [HE.out]; rfl, by rw [HE.out]; exact h3, hw⟩
    · have hd2 : decide ((16 : Int) < ys.length) = true := by rw [decide_eq_true_iff]; omega
      have hd3 : okAddr d ys = false := by simp [okAddr]; intro _; omega
      have HE := Lib.hid (show valRuns d xs ys = ([], 2) by simp only [valRuns, h1, hd3]; rfl)
      clear C1 h1 hd3
      go_enter Tryz.func18, Tryz.ntmps18
      go_wp2_with (go_at_call 45; refine D1.out.mono ?_; rintro e w1 ⟨rfl, hb1⟩)
      go_ret2
      exact ⟨_, by rw [HE.out]; rfl, by rw [HE.out]; exact OS.nil _ _ _, hb1⟩

end Go.Proofs.YthlpbeohlhhblaaGreat
namespace Go.Proofs.YthlpbeohlhhblaaGreat
open Go.RowKit

def firstC (d : Int) (ts : List (Int × Int)) : Option Nat := (List.range ts.length).find? fun i => clashes d (ts.take (i + 1))
def valContrary (d : Int) (ts : List (Int × Int)) : Int × Int := if okTrials d ts then (match firstC d ts with | some i => ((i : Int), 0) | none => (0, 3)) else (0, 1)
theorem contrary_hit {d : Int} {ts : List (Int × Int)} {k : Nat} (h : okTrials d ts = true) (hk : k < ts.length) (hc : clashes d (ts.take (k + 1)) = true) (hn : ∀ j, j < k → clashes d (ts.take (j + 1)) = false) : valContrary d ts = ((k : Int), 0) := by
  have : firstC d ts = some k := by
    unfold firstC
    rw [List.find?_range_eq_some]
    exact ⟨hc, by simpa using hk, fun j hj => by simp [hn j hj]⟩
  simp [valContrary, h, this]
theorem contrary_miss {d : Int} {ts : List (Int × Int)} (h : okTrials d ts = true) (hn : ∀ j, j < ts.length → clashes d (ts.take (j + 1)) = false) : valContrary d ts = (0, 3) := by
  have : firstC d ts = none := by
    unfold firstC
    rw [List.find?_range_eq_none]
    exact fun j hj => by simp [hn j hj]
  simp [valContrary, h, this]
theorem okTrials_take {d : Int} {ts : List (Int × Int)} (h : okTrials d ts = true) (k : Nat) : okTrials d (ts.take k) = true := by
  simp only [okTrials, Bool.and_eq_true, decide_eq_true_eq, List.all_eq_true] at h ⊢
  refine ⟨⟨h.1.1, fun x hx => h.1.2 x (List.mem_of_mem_take hx)⟩, ?_⟩
  have := h.2
  simp; omega

end Go.Proofs.YthlpbeohlhhblaaGreat
namespace Go.Proofs.YthlpbeohlhhblaaGreat
open Go.RowKit

/-- What a switch has shown is true of it. -/
def trueOf (xs : List (Int × Int)) (v : Int) (s : B4) : Prop := (s.1 = true → sideF xs v ≠ 1) ∧ (s.2.1 = true → sideF xs v ≠ 0) ∧ (s.2.2.1 = true → sideF xs v = 0) ∧ (s.2.2.2 = true → sideF xs v = 1)
theorem true_hit {d : Int} {xs : List (Int × Int)} (h : okStuck d xs = true) {v : Int} {s : B4} (hs : trueOf xs v s) (dg : Int) (hd : 0 ≤ dg ∧ dg ≤ 1) : trueOf xs v (hit s (goes xs v dg == 1) (dg != goes xs v dg)) := by
  have hb := sideF_bound h v
  obtain ⟨a, b, c, e⟩ := s
  obtain ⟨h1, h2, h3, h4⟩ := hs
  simp only at h1 h2 h3 h4
  unfold trueOf hit goes
  by_cases hn : sideF xs v < 0
  · rw [if_pos hn]
    by_cases g : dg = 1
    · subst g
      exact ⟨h1, fun _ => by omega, h3, fun q => by simpa using h4 (by simpa using q)⟩
    · have g0 : dg = 0 := by omega
      subst g0
      exact ⟨fun _ => by omega, h2, fun q => by simpa using h3 (by simpa using q), h4⟩
  · rw [if_neg hn]
    by_cases g : sideF xs v = 1
    · rw [g]
      exact ⟨fun q => by have := h1 q; omega, fun _ => by omega, fun q => by have := h3 q; omega, fun _ => rfl⟩
    · have g0 : sideF xs v = 0 := by omega
      rw [g0]
      exact ⟨fun _ => by omega, fun q => by have := h2 q; omega, fun _ => rfl, fun q => by have := h4 q; omega⟩
def allTrue (xs : List (Int × Int)) (st : List B4) : Prop := ∀ v : Nat, trueOf xs v (st.getD v z4)
theorem allTrue_start (xs : List (Int × Int)) (m : Nat) : allTrue xs (List.replicate m z4) := fun v => by
  have : (List.replicate m z4).getD v z4 = z4 := by simp [List.getD, List.getElem?_replicate]; split <;> rfl
  rw [this]
  exact ⟨fun h => by simp [z4] at h, fun h => by simp [z4] at h, fun h => by simp [z4] at h, fun h => by simp [z4] at h⟩
theorem allTrue_set {xs : List (Int × Int)} {st : List B4} (h : allTrue xs st) (v : Nat) (s : B4) (hs : trueOf xs v s) : allTrue xs (st.set v s) := fun u => by
  by_cases e : v = u
  · subst e
    by_cases hl : v < st.length
    · have : (st.set v s).getD v z4 = s := by simp [List.getD, hl]
      rw [this]; exact hs
    · rw [List.set_eq_of_length_le (by omega)]; exact h v
  · have : (st.set v s).getD u z4 = st.getD u z4 := by simp [List.getD, List.getElem?_set, e]
    rw [this]; exact h u
theorem allTrue_trial {n : Nat} {xs : List (Int × Int)} (h : okStuck n xs = true) (a : Int) {st : List B4} (hst : allTrue xs st) : ∀ k, k ≤ n → allTrue xs (trialTo n (a, runE n xs a) st k) := by
  intro k
  induction k with
  | zero => intro _; exact hst
  | succ k ih =>
    intro hk
    rw [trialTo_succ]
    have i := ih (by omega)
    unfold stepS
    simp only
    have hw := way_run h a k (by omega)
    have hd := dig_run h a k (by omega)
    have hb := runAt_pow h a k
    have hp := pow_pos1 k
    obtain ⟨V, hV⟩ : ∃ V : Nat, runAt n xs a k = V := ⟨(runAt n xs a k).toNat, by omega⟩
    rw [hw, hd, hV, Int.toNat_natCast]
    exact allTrue_set i V _ (true_hit h (i V) _ (dig_01 _ _ _))
theorem allTrue_runs {n : Nat} {xs : List (Int × Int)} (h : okStuck n xs = true) (ys : List Int) : allTrue xs (seenTo n (runs n xs ys)) := by
  unfold seenTo runs
  have h0 := allTrue_start xs (2 ^ (n : Int).toNat)
  generalize List.replicate (2 ^ (n : Int).toNat) z4 = st at h0
  induction ys generalizing st with
  | nil => exact h0
  | cons y ys ih => exact ih _ (allTrue_trial h y h0 n (Nat.le_refl _))
theorem true_noClash {xs : List (Int × Int)} {v : Int} {s : B4} (h : trueOf xs v s) : clash4 s = false := by
  obtain ⟨a, b, c, e⟩ := s
  obtain ⟨h1, h2, h3, h4⟩ := h
  simp only at h1 h2 h3 h4
  cases a <;> cases b <;> cases c <;> cases e <;> simp_all [clash4]
theorem runs_noClash {n : Nat} {xs : List (Int × Int)} (h : okStuck n xs = true) (ys : List Int) : clashes n (runs n xs ys) = false := by
  unfold clashes
  rw [List.any_eq_false]
  intro s hs
  obtain ⟨j, hj, rfl⟩ := List.getElem_of_mem hs
  have := true_noClash (allTrue_runs h ys j)
  simpa [List.getD, hj] using this
theorem runs_take (n : Int) (xs : List (Int × Int)) (ys : List Int) (k : Nat) : (runs n xs ys).take k = runs n xs (ys.take k) := by simp [runs, List.map_take]
/-- A letter tells the side. -/
theorem letter_true {d : Int} {xs : List (Int × Int)} (h : okStuck d xs = true) {v : Int} {s : B4} (hs : trueOf xs v s) :
    (wrong4 s = true ↔ letter4 s = 48 ∨ letter4 s = 49) ∧ (letter4 s = 48 → sideF xs v = 0) ∧ (letter4 s = 49 → sideF xs v = 1) ∧ (letter4 s = 119 → sideF xs v = -1) ∧ (letter4 s = 97 → sideF xs v ≠ 1) ∧ (letter4 s = 98 → sideF xs v ≠ 0) := by
  have hb := sideF_bound h v
  obtain ⟨a, b, c, e⟩ := s
  obtain ⟨h1, h2, h3, h4⟩ := hs
  simp only at h1 h2 h3 h4
  cases a <;> cases b <;> cases c <;> cases e <;> simp_all [letter4, wrong4] <;> omega
/-- Which switches the fewest ones name. -/
theorem few_told (st : List B4) (k v : Nat) (hv : v < k) : ((fewTo st k).any fun p => p.1 == (v : Int)) = wrong4 (st.getD v z4) := by
  rw [Bool.eq_iff_iff, List.any_eq_true]
  unfold fewTo
  constructor
  · rintro ⟨p, hp, he⟩
    obtain ⟨u, hu, rfl⟩ := List.mem_map.1 hp
    obtain ⟨h1, h2⟩ := List.mem_filter.1 hu
    have : u = v := by simp only [beq_iff_eq] at he; omega
    rw [← this]; exact h2
  · intro hw
    exact ⟨((v : Int), side4 (st.getD v z4)), List.mem_map.2 ⟨v, List.mem_filter.2 ⟨List.mem_range.2 hv, hw⟩, rfl⟩, by simp⟩

/-! ### a trial with all digits turned clashes with its own -/
theorem stepS_keeps {d : Int} {t : Int × Int} {st : List B4} {k v : Nat} (h : (wayAt d t.2 k).toNat ≠ v) : (stepS d t st k).getD v z4 = st.getD v z4 := by
  unfold stepS
  simp [List.getD, List.getElem?_set, h]
/-- The first switch is on the way once. -/
theorem trial_root {n : Nat} (t : Int × Int) {st : List B4} (hl : 1 < st.length) (k : Nat) (hk : 1 ≤ k) : (trialTo n t st k).getD 1 z4 = hit (st.getD 1 z4) (dig n t.2 0 == 1) (dig n t.1 0 != dig n t.2 0) := by
  induction k with
  | zero => omega
  | succ k ih =>
    rw [trialTo_succ]
    by_cases h0 : k = 0
    · subst h0
      show ((st.set (wayAt n t.2 0).toNat _).getD 1 z4) = _
      have : (wayAt n t.2 0).toNat = 1 := rfl
      simp only [this]
      have e0 : trialTo (n : Int) t st 0 = st := rfl
      rw [e0]
      simp [List.getD, hl]
    · rw [stepS_keeps, ih (by omega)]
      have hp := wayAt_pow n t.2 k
      have h2 : (2 : Int) ≤ 2 ^ k := by
        obtain ⟨m, rfl⟩ : ∃ m, k = m + 1 := ⟨k - 1, by omega⟩
        have := pow_pos1 m
        rw [Int.pow_succ]; omega
      omega

def ledTo (s : B4) (g : Int) : Bool := if g = 1 then s.2.1 else s.1
theorem led_keeps (s : B4) (g : Int) (one wr : Bool) (h : ledTo s g = true) : ledTo (hit s one wr) g = true := by
  obtain ⟨a, b, c, e⟩ := s
  unfold ledTo at *
  cases one <;> by_cases hg : g = 1 <;> simp_all [hit]
theorem led_hit (s : B4) (g : Int) (hg : 0 ≤ g ∧ g ≤ 1) (wr : Bool) : ledTo (hit s (g == 1) wr) g = true := by
  obtain ⟨a, b, c, e⟩ := s
  unfold ledTo
  rcases (by omega : g = 0 ∨ g = 1) with rfl | rfl <;> simp [hit]
theorem seen_len (n : Nat) (ts : List (Int × Int)) : (seenTo n ts).length = 2 ^ n := by
  unfold seenTo
  have h0 : (List.replicate (2 ^ (n : Int).toNat) z4).length = 2 ^ n := by simp
  generalize List.replicate (2 ^ (n : Int).toNat) z4 = st at h0
  induction ts generalizing st with
  | nil => exact h0
  | cons t ts ih => exact ih _ (by rw [trialTo_length]; exact h0)
theorem seen_root {n : Nat} (hn : 1 ≤ n) (ts : List (Int × Int)) (t : Int × Int) : (seenTo n (ts ++ [t])).getD 1 z4 = hit ((seenTo n ts).getD 1 z4) (dig n t.2 0 == 1) (dig n t.1 0 != dig n t.2 0) := by
  rw [seenTo_snoc, Int.toNat_natCast]
  refine trial_root t ?_ n hn
  rw [seen_len]
  obtain ⟨m, rfl⟩ : ∃ m, n = m + 1 := ⟨n - 1, by omega⟩
  have := Nat.one_le_two_pow (n := m)
  rw [Nat.pow_succ]; omega
theorem root_holds {n : Nat} (hn : 1 ≤ n) (x : Int × Int) : ∀ (ts : List (Int × Int)) (l : List (Int × Int)), ts = l.reverse → x ∈ ts → ledTo ((seenTo n ts).getD 1 z4) (dig n x.2 0) = true ∧ (dig n x.1 0 ≠ dig n x.2 0 → wrong4 ((seenTo n ts).getD 1 z4) = true) := by
  intro ts l
  induction l generalizing ts with
  | nil => intro e hx; subst e; simp at hx
  | cons t l ih =>
    intro e hx
    have e2 : ts = l.reverse ++ [t] := by rw [e]; simp
    rw [e2] at hx ⊢
    rw [seen_root hn]
    rcases List.mem_append.1 hx with hx | hx
    · obtain ⟨i1, i2⟩ := ih l.reverse rfl hx
      exact ⟨led_keeps _ _ _ _ i1, fun h => by rw [wrong_hit, i2 h]; rfl⟩
    · rw [List.mem_singleton.1 hx]
      exact ⟨led_hit _ _ (dig_01 _ _ _) _, fun h => by rw [wrong_hit]; simp [h]⟩
theorem dig_turned {n e : Nat} (hn : 1 ≤ n ∧ n ≤ 4) (he : e < 2 ^ n) : dig n ((2 : Int) ^ n - 1 - e) 0 = 1 - dig n e 0 := by
  have h4 := pow4 hn.2
  have key : ∀ n : Fin 5, ∀ e : Fin 16, 1 ≤ n.val → e.val < 2 ^ n.val → dig (n.val : Int) ((2 : Int) ^ n.val - 1 - (e.val : Int)) 0 = 1 - dig (n.val : Int) (e.val : Int) 0 := by decide +kernel
  exact key ⟨n, by omega⟩ ⟨e, by omega⟩ hn.1 he
/-- A trial with the exit turned clashes. -/
theorem turned_clash {n : Nat} (hn : 1 ≤ n ∧ n ≤ 4) (ts : List (Int × Int)) (a : Int) (e : Nat) (he : e < 2 ^ n) (hx : (a, (e : Int)) ∈ ts) : clashes n (ts ++ [(a, (2 : Int) ^ n - 1 - e)]) = true := by
  obtain ⟨h1, h2⟩ := root_holds hn.1 (a, (e : Int)) ts ts.reverse (by simp) hx
  simp only at h1 h2
  have hd := dig_01 n e 0
  have ha := dig_01 n a 0
  have hr := seen_root hn.1 ts (a, (2 : Int) ^ n - 1 - e)
  simp only at hr
  rw [dig_turned hn he] at hr
  have hc : clash4 ((seenTo n (ts ++ [(a, (2 : Int) ^ n - 1 - e)])).getD 1 z4) = true := by
    rw [hr]
    generalize (seenTo n ts).getD 1 z4 = s at h1 h2
    generalize dig n e 0 = g at hd h1 h2
    generalize dig n a 0 = q at ha h2
    obtain ⟨x, y, c, f⟩ := s
    unfold ledTo at h1
    rcases (by omega : g = 0 ∨ g = 1) with rfl | rfl <;> rcases (by omega : q = 0 ∨ q = 1) with rfl | rfl <;> cases x <;> cases y <;> cases c <;> cases f <;> simp_all [hit, clash4, wrong4]
  unfold clashes
  rw [List.any_eq_true]
  have hl : 1 < (seenTo n (ts ++ [(a, (2 : Int) ^ n - 1 - e)])).length := by
    rw [seen_len]
    obtain ⟨m, hm⟩ : ∃ m, n = m + 1 := ⟨n - 1, by omega⟩
    have := Nat.one_le_two_pow (n := m)
    rw [hm, Nat.pow_succ]; omega
  exact ⟨_, List.getElem_mem hl, by simpa [List.getD, hl] using hc⟩

/-! ### the next address -/
theorem next_some {n : Nat} {ts : List (Int × Int)} (h : codeF n ts = 0) {a : Nat} (hn : nextA n ts = some a) : valNext n ts = ((a : Int), 0) ∧ a < 2 ^ n ∧ tried ts a = false := by
  refine ⟨by simp [valNext, h, hn], ?_⟩
  unfold nextA at hn
  rw [Int.toNat_natCast, List.find?_range_eq_some] at hn
  obtain ⟨h1, h2, _⟩ := hn
  refine ⟨List.mem_range.1 h2, ?_⟩
  unfold goodA at h1
  simp only [Bool.and_eq_true, Bool.not_eq_true'] at h1
  exact h1.1
theorem next_none {n : Nat} {ts : List (Int × Int)} (h : codeF n ts = 0) (hn : nextA n ts = none) : valNext n ts = (0, 3) := by simp [valNext, h, hn]
theorem next_first {n : Nat} (hn : 1 ≤ n) : nextA n [] = some 0 := by
  have hp := Nat.one_le_two_pow (n := n)
  have h2 : 1 < 2 ^ n := by
    obtain ⟨m, rfl⟩ : ∃ m, n = m + 1 := ⟨n - 1, by omega⟩
    have := Nat.one_le_two_pow (n := m)
    rw [Nat.pow_succ]; omega
  unfold nextA
  rw [Int.toNat_natCast, List.find?_range_eq_some]
  refine ⟨?_, List.mem_range.2 (by omega), fun j hj => absurd hj (Nat.not_lt_zero _)⟩
  unfold goodA newAt
  have ht : tried [] ((0 : Nat) : Int) = false := rfl
  rw [ht]
  simp only [Bool.not_false, Bool.true_and]
  rw [List.any_eq_true]
  refine ⟨0, List.mem_range.2 hn, ?_⟩
  have hs : (seenTo (n : Int) []).getD 1 z4 = z4 := by simp [seenTo, List.getD, h2]
  have hl : (lettersTo (seenTo (n : Int) []) (2 ^ n)).getD 1 0 = 63 := by
    unfold lettersTo
    have : ((List.range (2 ^ n)).map fun (v : Nat) => letter4 ((seenTo (n : Int) []).getD v z4)).getD 1 0 = letter4 ((seenTo (n : Int) []).getD 1 z4) := by simp [List.getD, h2]
    rw [this, hs]; rfl
  show newL ((lettersTo (seenTo (n : Int) []) (2 ^ n)).getD 1 0) = true
  rw [hl]; rfl

end Go.Proofs.YthlpbeohlhhblaaGreat
namespace Go.Proofs.YthlpbeohlhhblaaGreat
open Go.RowKit

theorem l18Small_any (d : Int) (w : World) (hd : inB 1 4 d = true) : Calls Tryz.prog 77 #[.int .i64 d] w fun e w' => e = .returned (.int .i64 d) ∧ w = w' := by
  have h : d = 1 ∨ d = 2 ∨ d = 3 ∨ d = 4 := depth_cases hd
  have hm : ∀ (a b : Int) (w : World), a ≤ b → Calls Tryz.prog 101 #[.int .i64 a, .int .i64 b] w fun e w' => e = .returned (.int .i64 a) ∧ w = w' := by
    intro a b w hab
    by_cases hlt : a < b
    · have hd1 : decide (a < b) = true := decide_eq_true hlt
      go_enter Tryz.func101, Tryz.ntmps101
      go_wp2
      go_ret
      exact ⟨rfl, rfl⟩
    · have hd1 : decide (a < b) = false := decide_eq_false hlt
      have he : b = a := by omega
      subst he
      go_enter Tryz.func101, Tryz.ntmps101
      go_wp2
      go_ret
      exact ⟨rfl, rfl⟩
  have hx : ∀ (a b : Int) (w : World), a ≤ b → Calls Tryz.prog 100 #[.int .i64 a, .int .i64 b] w fun e w' => e = .returned (.int .i64 b) ∧ w = w' := by
    intro a b w hab
    have hd1 : decide (b < a) = false := decide_eq_false (by omega)
    go_enter Tryz.func100, Tryz.ntmps100
    go_wp2
    go_ret
    exact ⟨rfl, rfl⟩
  have h4 : d ≤ 4 := by omega
  have h1 : 1 ≤ d := by omega
  have HM := Lib.hid hm
  have HX := Lib.hid hx
  clear hm hx h
  go_enter Tryz.func77, Tryz.ntmps77
  go_wp2_with (first
    | (go_at_call 101; refine (HM.out d 4 _ h4).mono ?_; rintro e w' ⟨rfl, rfl⟩)
    | (go_at_call 100; refine (HX.out 1 d _ h1).mono ?_; rintro e w' ⟨rfl, rfl⟩))
  go_ret
  exact ⟨rfl, rfl⟩

/-- Stuck switches below k, drawn one after another. -/
def drawn18 (xs : List (Int × Int)) (k : Nat) : Prop := (∀ p ∈ xs, 1 ≤ p.1 ∧ p.1 < k ∧ 0 ≤ p.2 ∧ p.2 ≤ 1) ∧ xs.Pairwise (fun a b => a.1 < b.1) ∧ xs.length ≤ k
theorem drawn18_nil : drawn18 [] 1 := ⟨by simp, List.Pairwise.nil, by simp⟩
theorem drawn18_no {xs : List (Int × Int)} {k : Nat} (h : drawn18 xs k) : drawn18 xs (k + 1) :=
  ⟨fun p hp => by have := h.1 p hp; omega, h.2.1, by have := h.2.2; omega⟩
theorem drawn18_yes {xs : List (Int × Int)} {k : Nat} (h : drawn18 xs k) (hk : 1 ≤ k) {s : Int} (hs : 0 ≤ s ∧ s ≤ 1) : drawn18 (xs ++ [((k : Int), s)]) (k + 1) := by
  refine ⟨fun p hp => ?_, ?_, by simp; exact h.2.2⟩
  · rcases List.mem_append.1 hp with hp | hp
    · have := h.1 p hp; omega
    · rw [List.mem_singleton.1 hp]; simp only; omega
  · rw [List.pairwise_append]
    refine ⟨h.2.1, List.pairwise_singleton _ _, fun a ha b hb => ?_⟩
    rw [List.mem_singleton.1 hb]
    exact (h.1 a ha).2.1
theorem drawn18_ok {n : Nat} (hd : inB 1 4 (n : Int) = true) {xs : List (Int × Int)} (h : drawn18 xs (2 ^ n)) : okStuck n xs = true := by
  have hE : ex (n : Int) = ((2 ^ n : Nat) : Int) := by simp [ex]
  refine okStuck_yes (fun j hj => ?_) hd
  have hm := h.1 _ (List.getElem_mem hj)
  have hg : xs.getD j (0, 0) = xs[j] := by simp [List.getD, hj]
  have hs : (decide (j = 0) || decide ((xs.getD (j - 1) (0, 0)).1 < (xs.getD j (0, 0)).1)) = true := by
    by_cases h0 : j = 0
    · simp [h0]
    · have := List.pairwise_iff_getElem.1 h.2.1 (j - 1) j (by omega) hj (by omega)
      rw [hg, show xs.getD (j - 1) (0, 0) = xs[j - 1]'(by omega) by simp [List.getD, show j - 1 < xs.length by omega]]
      simp [this]
  simp only [okS, hs, Bool.and_true]
  rw [hg, hE]
  simp only [inB, Bool.and_eq_true, decide_eq_true_eq]
  omega

set_option maxRecDepth 100000 in
theorem l18Draw_any (v : Value) (m b base : Nat) (n : Nat) (w : World) (hv : BI w v m) (hs : SrcAt w base b v 0) (hne : 0 < m → v.ownBlock ≠ some b) (hd : inB 1 4 (n : Int) = true) :
    Calls Tryz.prog 44 #[.pointer (some ⟨b, 0, none⟩), .int .i64 n] w fun e w' => ∃ v' xs, e = .returned v' ∧ OS P2 128 w' w.heap.size v' xs ∧ okStuck n xs = true ∧ w.grownBy w' (some b) := by
  have hn : 1 ≤ n ∧ n ≤ 4 := by simp [inB] at hd; omega
  obtain ⟨hn1, hn4⟩ := hn
  have hE : ex (n : Int) = ((2 ^ n : Nat) : Int) := by simp [ex]
  have hN := pow4 hn4
  have HV := Lib.hid hv
  have HS := Lib.hid hs
  have HD := Lib.hid hd
  have HE := Lib.hid hE
  have HOK := Lib.hid (fun xs h => drawn18_ok (n := n) hd (xs := xs) h)
  have hN1 : 1 ≤ 2 ^ n := Nat.one_le_two_pow
  generalize 2 ^ n = N at hN HE HOK hN1
  have hblt := hs.lt.2
  clear hv hs hd hE
  obtain ⟨i0, hi, iz0, iz1, iz2⟩ := info_parts infoStuck
  have HI := Lib.hid hi
  clear hi
  go_enter Tryz.func44, Tryz.ntmps44
  go_wp2_with fail
  go_loopw [5, 6] (fun o i wr => ∃ (k : Nat) (u : Value) (xs : List (Int × Int)), 1 ≤ k ∧ k ≤ N ∧ u = o ∧ i = .int .i64 k ∧ OS P2 128 wr w.heap.size u xs ∧ Hid (drawn18 xs k) ∧ w.grownBy wr (some b) ∧ SrcAt wr base b v (4 * k)) (fun _ i _ => N - (intOf i).toNat)
  case atStart =>
    refine ⟨1, _, [], Nat.le_refl _, hN1, rfl, rfl, OS.lit0 _ _ _ (Nat.le_refl _), Lib.hid drawn18_nil, grown_below ((Below.refl _ _).alloc (Nat.le_refl _) _), ?_⟩
    have h1 := HS.out.below ((Below.refl w.heap.size w).alloc (Nat.le_refl _) (.cells #[] 128))
    exact h1.more (by omega)
  case round =>
    obtain ⟨k, u, xs, hk1, hk, rfl, rfl, ho, HDR, hg, hsr⟩ := hrel
    rename World => wo
    have HO := Lib.hid ho
    have HSR := Lib.hid hsr
    have HG := Lib.hid hg
    clear ho hsr hg
    by_cases hlt : k < N
    · have hd : decide ((k : Int) < (N : Int)) = true := decide_eq_true (by omega)
      have C1 := Lib.hid (one_any v m b base (4 * k) 6 wo (HV.out.grown HG.out hne) HSR.out (by omega) hne)
      go_wp2_with (first
        | (go_at_call 77; refine (l18Small_any _ _ HD.out).mono ?_; rintro e w' ⟨rfl, rfl⟩)
        | (go_at_call 48; refine (l18Exits_any _ _ HD.out).mono ?_; rintro e w' ⟨rfl, rfl⟩; rw [HE.out]))
      refine C1.out.mono ?_
      rintro e w1 ⟨y, rfl, hs1, hg1⟩
      have HG1 := Lib.hid (grownBy_trans HG.out hg1)
      have hne1 : u.ownBlock ≠ some b := fun e => by
        have := (HO.out.lt b e).1
        omega
      have HO1 := Lib.hid (HO.out.grown hg1 (.inr hne1))
      have HS1 := Lib.hid hs1
      clear hs1 hg1
      cases y with
      | false =>
        go_wp2
        go_roundw
        case rel => exact ⟨k + 1, _, xs, by omega, by omega, rfl, by go_num, HO1.out, Lib.hid (drawn18_no HDR.out), HG1.out, HS1.out.more (by omega)⟩
        case measure => simp [intOf]; omega
      | true =>
        have C2 := Lib.hid (pick_any v m b base (4 * k + 2) 2 w1 (HV.out.grown HG1.out hne) HS1.out (by omega) hne)
        go_wp2_with fail
        refine C2.out.mono ?_
        rintro e w2 ⟨z, rfl, z0, _, z1, _, hs2, hg2⟩
        have hz1 : z < 2 := z1 (by omega)
        have HG2 := Lib.hid (grownBy_trans HG1.out hg2)
        have HO2 := Lib.hid (HO1.out.grown hg2 (.inr hne1))
        have HS2 := Lib.hid hs2
        have hln := HDR.out.2.2
        have hsz := HG2.out.size
        have HGD := Lib.hid (show ∀ y ∈ P2.f ((k : Int), z), Good y from fun y hy => by
          have hy : y ∈ [(k : Int), z] := hy
          simp at hy
          rcases hy with rfl | rfl <;> (unfold Good; omega))
        clear hs2 hg2 z1
        go_wp2_with (
          at_builtin
          refine wpList_appS (E := P2) rfl _ _ 47 rfl 128 _ i0 _ Tryz.underlying47 HI.out iz0 rfl iz1 16 iz2 (by decide) w.heap.size _ xs rfl HO2.out ((k : Int), z) _ rfl _ (by simp) rfl HGD.out (by omega) hsz ?_
          intro v9 w9 h1 h2 h3
          have H9 := Lib.hid h1
          have HG9 := Lib.hid (grown_chain HG2.out h2 (fun q hq => (HO2.out.lt q hq).1))
          have HS9 := Lib.hid (HS2.out.grown h2 (fun e => hne1 e.symm))
          clear h1 h2 h3)
        go_roundw
        case rel => exact ⟨k + 1, _, xs ++ [((k : Int), z)], by omega, by omega, rfl, by go_num, H9.out, Lib.hid (drawn18_yes HDR.out hk1 ⟨z0, by omega⟩), HG9.out, HS9.out.more (by omega)⟩
        case measure => simp [intOf]; omega
    · have hd : decide ((k : Int) < (N : Int)) = false := decide_eq_false (by omega)
      have hkN : k = N := by omega
      have HKN := Lib.hid hkN
      clear hkN
      go_wp2_with (first
        | (go_at_call 77; refine (l18Small_any _ _ HD.out).mono ?_; rintro e w' ⟨rfl, rfl⟩)
        | (go_at_call 48; refine (l18Exits_any _ _ HD.out).mono ?_; rintro e w' ⟨rfl, rfl⟩; rw [HE.out]))
      go_ret
      exact ⟨_, xs, rfl, HO.out, HOK.out xs (HKN.out ▸ HDR.out), HG.out⟩

/-- Stuck switches out of bytes. -/
theorem a2Stuck_any (v : Value) (m : Nat) (n : Nat) (w : World) (hv : BI w v m) (hd : inB 1 4 (n : Int) = true) :
    Calls Tryz.prog 17 #[v, .int .i64 n] w fun e w' => ∃ v' xs, e = .returned v' ∧ OS P2 128 w' w.heap.size v' xs ∧ okStuck n xs = true ∧ Below w.heap.size w w' := by
  have HV := Lib.hid hv
  have HD := Lib.hid hd
  clear hv hd
  go_enter Tryz.func17, Tryz.ntmps17
  go_wp2_with (first
    | (go_at_call 23; refine (from_any _ m _ HV.out).mono ?_; rintro e w1 ⟨rfl, hs1, hb1⟩; have HS1 := Lib.hid hs1; clear hs1)
    | (go_at_call 44; refine (l18Draw_any _ m w.heap.size w.heap.size n _ (HV.out.below hb1) HS1.out (fun hp e => by have := HV.out.own_lt hp e; omega) HD.out).mono ?_; rintro e w2 ⟨v2, xs, rfl, ho2, hok, hg2⟩; have HO2 := Lib.hid ho2; have HK := Lib.hid hok; clear ho2 hok))
  go_ret
  exact ⟨_, xs, rfl, HO2.out.mono hb1.size, HK.out, bgrown hb1 hg2 (fun q hq => Nat.le_of_eq (Option.some.inj hq))⟩

end Go.Proofs.YthlpbeohlhhblaaGreat
