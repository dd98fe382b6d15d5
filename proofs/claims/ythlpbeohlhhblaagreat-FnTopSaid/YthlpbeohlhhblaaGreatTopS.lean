/-
  The addresses that the laws draw.
  NextAddress of the reference: what it returns.
  The library's IndexFunc and ContainsFunc at lists of int64, for every predicate of the list's own numbers that leaves old memory as it was.
  NextAddress of the program: what it returns.
  All that FnKnown asks of the trials of real switches. In plain Lean, no program in sight.
  Explains of the reference and of the program: what each returns.
  The fewest stuck switches that trials of real switches tell: no more than there are, and they explain the trials. In plain Lean.
  FewestStuck of the program: what it returns.
  What all laws of this claim share: a call that returns true and turns nothing that was there before meets the statement's condition, whatever its arguments' types; and how arguments are opened.
-/
import Derived.Test.YthlpbeohlhhblaaGreatTopR
import Derived.Test.YthlpbeohlhhblaaGreatTopD
import Derived.Test.YthlpbeohlhhblaaGreatTopO
import Derived.Test.YthlpbeohlhhblaaGreatTopP
import Derived.Test.YthlpbeohlhhblaaGreatTopQ
import Derived.Test.YthlpbeohlhhblaaGreatRows
import Derived.Test.YthlpbeohlhhblaaGreatTopA
import Derived.Deep.RegionHeld3
import Derived.JoinedCond
namespace Go.Proofs.YthlpbeohlhhblaaGreat
open Go.RowKit

theorem okAddr_yes {n : Nat} {ys : List Int} (hx : ∀ x ∈ ys, 0 ≤ x ∧ x < ((2 ^ n : Nat) : Int)) (hl : ys.length ≤ 8) : okAddr n ys = true := by
  have hE : ex (n : Int) = ((2 ^ n : Nat) : Int) := by simp [ex]
  simp only [okAddr, Bool.and_eq_true, List.all_eq_true, decide_eq_true_eq, inB]
  rw [hE]
  exact ⟨fun x h => by have := hx x h; omega, by omega⟩

set_option maxRecDepth 100000 in
/-- Addresses out of bytes. -/
theorem a2Addresses_any (v : Value) (m : Nat) (n : Nat) (w : World) (hv : BI w v m) (hd : inB 1 4 (n : Int) = true) :
    Calls Tryz.prog 19 #[v, .int .i64 n] w fun e w' => ∃ v' ys, e = .returned v' ∧ OI 2 w' w.heap.size v' ys ∧ (∀ x ∈ ys, 0 ≤ x ∧ x < ((2 ^ n : Nat) : Int)) ∧ ys.length ≤ 8 ∧ Below w.heap.size w w' := by
  have hn : 1 ≤ n ∧ n ≤ 4 := by simp [inB] at hd; omega
  obtain ⟨hn1, hn4⟩ := hn
  have hE : ex (n : Int) = ((2 ^ n : Nat) : Int) := by simp [ex]
  have hN := pow4 hn4
  have hN2 : 2 ≤ 2 ^ n := by
    obtain ⟨k, rfl⟩ : ∃ k, n = k + 1 := ⟨n - 1, by omega⟩
    have := Nat.one_le_two_pow (n := k)
    rw [Nat.pow_succ]; omega
  have HV := Lib.hid hv
  have HD := Lib.hid hd
  have HE := Lib.hid hE
  generalize 2 ^ n = N at hN HE hN2 ⊢
  clear hv hd hE
  obtain ⟨i0, hi, iz0, iz1, iz2⟩ := info_parts info64
  have HI := Lib.hid hi
  clear hi
  go_enter Tryz.func19, Tryz.ntmps19
  go_wp2_with fail
  refine (from_any v m _ HV.out).mono ?_
  rintro e w1 ⟨rfl, hs1, hb1⟩
  have hne : 0 < m → v.ownBlock ≠ some w.heap.size := fun hp e => by have := HV.out.own_lt hp e; omega
  obtain ⟨b, hbd⟩ : ∃ b, b = w.heap.size := ⟨_, rfl⟩
  rw [← hbd] at hs1 hne
  have hblt := hs1.lt.2
  have HS1 := Lib.hid hs1
  have HB1 := Lib.hid hb1
  have HBD := Lib.hid hbd
  rw [← hbd]
  clear hs1 hb1 hbd
  have hA := (Below.refl w1.heap.size w1).alloc (Nat.le_refl _) (.cells #[] 2)
  have HO1 := Lib.hid (OI.lit0 2 w1 w1.heap.size (Nat.le_refl _))
  have HS2 := Lib.hid (HS1.out.below hA)
  have HV2 := Lib.hid ((HV.out.below HB1.out).below hA)
  have HG2 := Lib.hid (grown_below (row := some b) hA)
  clear hA
  go_wp2_with fail
  refine (pick_any v m b w.heap.size 0 9 _ HV2.out (HBD.out ▸ HS2.out) (by omega) hne).mono ?_
  rintro e w3 ⟨z, rfl, z0, _, z1, _, hs3, hg3⟩
  have z9 : z < 9 := z1 (by omega)
  obtain ⟨Y, rfl⟩ : ∃ Y : Nat, z = Y := ⟨z.toNat, by omega⟩
  have HG3 := Lib.hid (grownBy_trans HG2.out hg3)
  have HO3 := Lib.hid (HO1.out.grown hg3 (.inr (fun e => Nat.ne_of_gt hblt (Option.some.inj e))))
  have HS3 := Lib.hid hs3
  have HV3 := Lib.hid ((HV.out.below HB1.out).grown HG3.out hne)
  clear z1 hs3 hg3
  go_wp2_with fail
  go_loopw [6, 7] (fun o i wr => ∃ (k : Nat) (u : Value) (xs : List Int), k ≤ Y ∧ u = o ∧ i = .int .i64 k ∧ OI 2 wr w1.heap.size u xs ∧ Hid ((∀ x ∈ xs, 0 ≤ x ∧ x < (N : Int)) ∧ xs.length + k ≤ 8) ∧ w1.grownBy wr (some b) ∧ Hid (SrcAt wr w.heap.size b v (2 + 2 * (8 - k)))) (fun _ i _ => (intOf i).toNat)
  case atStart => exact ⟨Y, _, [], Nat.le_refl _, rfl, rfl, HO3.out, Lib.hid ⟨by simp, by simp; omega⟩, HG3.out, Lib.hid (HS3.out.more (by omega))⟩
  case round =>
    obtain ⟨k, u, xs, hk, rfl, rfl, ho, HX, hg, HSR⟩ := hrel
    rename World => wo
    have HO := Lib.hid ho
    have HG := Lib.hid hg
    clear ho hg
    by_cases hlt : 0 < k
    · have hd : decide ((0 : Int) < (k : Int)) = true := decide_eq_true (by omega)
      have hd2 : decide (0 < k) = true := decide_eq_true hlt
      obtain ⟨q, hq⟩ : ∃ q, q = k - 1 := ⟨_, rfl⟩
      have HQ := Lib.hid hq
      have hwq : IntKind.i64.wrap ((k : Int) - 1) = (q : Int) := by rw [IntWalk.i64_in _ (by omega)]; omega
      clear hq
      have hln := HX.out.2
      have C2 := Lib.hid (pick_any v m b w.heap.size (2 + 2 * (8 - k)) N wo ((HV.out.below HB1.out).grown HG.out hne) HSR.out (by omega) hne)
      have hne1 : u.ownBlock ≠ some b := fun e => by
        have := (HO.out.lt b e).1
        omega
      go_wp2_with (go_at_call 48; refine (l18Exits_any _ _ HD.out).mono ?_; rintro e w' ⟨rfl, rfl⟩; rw [HE.out])
      refine C2.out.mono ?_
      rintro e w4 ⟨y, rfl, y0, _, y1, _, hs3, hg3⟩
      have yN : y < N := y1 (by omega)
      have HGD := Lib.hid (show Good y by unfold Good; omega)
      have HG4 := Lib.hid (grownBy_trans HG.out hg3)
      have HO4 := Lib.hid (HO.out.grown hg3 (.inr hne1))
      have HS4 := Lib.hid hs3
      have hsz := HG4.out.size
      clear hs3 hg3 y1
      go_wp2_with (
        at_builtin
        refine wpList_app1n rfl _ _ 24 rfl 2 _ i0 Tryz.underlying24 HI.out iz0 iz1 iz2 w1.heap.size _ _ rfl HO4.out _ _ (by simp) rfl HGD.out (by omega) hsz ?_
        intro v9 w9 h1 h2 h3
        have H9 := Lib.hid h1
        have HG9 := Lib.hid (grown_chain HG4.out h2 (fun q hq => (HO4.out.lt q hq).1))
        have HS9 := Lib.hid (HS4.out.grown h2 (fun e => hne1 e.symm))
        clear h1 h2 h3)
      go_roundw
      case rel =>
        have hq := HQ.out
        exact ⟨q, _, xs ++ [y], by omega, rfl, rfl, H9.out, Lib.hid ⟨fun x hx => by
          rcases List.mem_append.1 hx with hx | hx
          · exact HX.out.1 x hx
          · rw [List.mem_singleton.1 hx]; omega, by simp; omega⟩, HG9.out, Lib.hid (HS9.out.more (by omega))⟩
      case measure =>
        have := HQ.out
        simp [intOf]; omega
    · have hd : decide ((0 : Int) < (k : Int)) = false := decide_eq_false (by omega)
      have hd2 : decide (0 < k) = false := decide_eq_false hlt
      go_wp2
      go_ret
      have hq : ∀ q, some b = some q → w.heap.size ≤ q := fun q e => by have := Option.some.inj e; have := HBD.out; omega
      exact ⟨_, xs, rfl, HO.out.mono HB1.out.size, HX.out.1, by have := HX.out.2; omega, bgrown HB1.out HG.out hq⟩

end Go.Proofs.YthlpbeohlhhblaaGreat
namespace Go.Proofs.YthlpbeohlhhblaaGreat
open Go.RowKit

theorem valFewest_good {n : Nat} {ts : List (Int × Int)} (h : codeF n ts = 0) : (valFewest n ts).1 = fewTo (seenTo n ts) (2 ^ n) := by
  obtain ⟨h1, h2⟩ := codeF_zero h
  simp [valFewest, h1, fewest, h2]
theorem tried_succ (ts : List (Int × Int)) (a : Int) (k : Nat) (hk : k < ts.length) : tried (ts.take (k + 1)) a = (tried (ts.take k) a || (ts.getD k (0, 0)).1 == a) := by
  rw [take_snocG (0, 0) ts k hk]; simp [tried]

end Go.Proofs.YthlpbeohlhhblaaGreat
namespace Go.Proofs.YthlpbeohlhhblaaGreat
open Go.RowKit

/-- Function g, with the captured values lb, is the predicate p at the numbers of xs, in every world in which all that lay in w lies unturned. -/
def PredM (g : Nat) (lb : Array Value) (p : Int → Bool) (w : World) (xs : List Int) : Prop :=
  ∀ (W : World) (n : Int), Below w.heap.size w W → n ∈ xs → Calls Tryz.prog g (#[.int .i64 n] ++ lb) W fun e w' => e = .returned (.bool (p n)) ∧ Below w.heap.size w w'

theorem indexMem_any (g : Nat) (lb : Array Value) (p : Int → Bool) (v : Value) (xs : List Int) (w : World) (eg : ∀ args w, (callFunc g args).run Tryz.prog w = .ok (.enter g args) w) (hp : PredM g lb p w xs) (hv : RI w v xs) :
    Calls Tryz.prog 102 #[v, .func (.func g) #[] lb] w fun e w' => e = .returned (.int .i64 (idxI p xs)) ∧ Below w.heap.size w w' := by
  obtain ⟨a, cap, rfl⟩ := hv.shape
  have hl := hv.len
  have HV := Lib.hid hv
  have HP := Lib.hid hp
  clear hv hp
  go_enter Tryz.func102, Tryz.ntmps102
  go_wp2
  go_loopw [5, 8] (fun _ i wr => ∃ k : Nat, k ≤ xs.length ∧ i = .int .i64 k ∧ Below w.heap.size w wr ∧ ∀ j, j < k → p (xs.getD j 0) = false) (fun _ i _ => xs.length - (intOf i).toNat)
  case atStart => exact ⟨0, Nat.zero_le _, rfl, Below.refl _ _, fun j hj => absurd hj (Nat.not_lt_zero _)⟩
  case round =>
    obtain ⟨k, hk, rfl, hb, hno⟩ := hrel
    have HNO := Lib.hid hno
    clear hno
    by_cases hlt : k < xs.length
    · obtain ⟨b, off, rfl, hbl, hc⟩ := HV.out.cells (by omega)
      have g1 := (hb.cell (p := ⟨b, off + k, none⟩) hbl).trans (hc k hlt)
      have HC := HP.out wr (xs.getD k 0) hb (by simp only [List.getD, List.getElem?_eq_getElem hlt, Option.getD_some]; exact List.getElem_mem hlt)
      clear hc
      generalize hy : xs.getD k 0 = y at g1 HC
      have HY := Lib.hid hy
      clear hy
      cases hq : p y with
      | true =>
        rw [hq] at HC
        have HC' := Lib.hid HC
        have HQ := Lib.hid hq
        clear HC hq
        go_wp2_with (go_at_fn g; refine HC'.out.mono ?_; rintro e w' ⟨rfl, hb'⟩)
        go_ret
        exact ⟨ret_int (idxI_hit p xs k hlt (by rw [HY.out]; exact HQ.out) HNO.out).symm, hb'⟩
      | false =>
        rw [hq] at HC
        have HC' := Lib.hid HC
        have HQ := Lib.hid hq
        clear HC hq
        go_wp2_with (go_at_fn g; refine HC'.out.mono ?_; rintro e w' ⟨rfl, hb'⟩)
        go_roundw
        case rel =>
          refine ⟨k + 1, by omega, by go_num, hb', fun j hj => ?_⟩
          by_cases e : j = k
          · subst e; rw [HY.out]; exact HQ.out
          · exact HNO.out j (by omega)
        case measure => simp [intOf]; omega
    · go_wp2
      go_ret
      exact ⟨ret_int (idxI_miss p xs (fun j hj => HNO.out j (by omega))).symm, hb⟩

theorem containsMem_any (g : Nat) (lb : Array Value) (p : Int → Bool) (v : Value) (xs : List Int) (w : World) (eg : ∀ args w, (callFunc g args).run Tryz.prog w = .ok (.enter g args) w) (hp : PredM g lb p w xs) (hv : RI w v xs) :
    Calls Tryz.prog 79 #[v, .func (.func g) #[] lb] w fun e w' => e = .returned (.bool (xs.any p)) ∧ Below w.heap.size w w' := by
  have HA := Lib.hid (idxI_any p xs)
  have HV := Lib.hid hv
  have HP := Lib.hid hp
  clear hv hp
  go_enter Tryz.func79, Tryz.ntmps79
  go_wp2_with (go_at_call 102; refine (indexMem_any g lb p v xs _ eg HP.out HV.out).mono ?_; rintro e w' ⟨rfl, hb'⟩)
  go_ret
  exact ⟨ret_bool HA.out, hb'⟩

end Go.Proofs.YthlpbeohlhhblaaGreat
namespace Go.Proofs.YthlpbeohlhhblaaGreat
open Go.RowKit

end Go.Proofs.YthlpbeohlhhblaaGreat
namespace Go.Proofs.YthlpbeohlhhblaaGreat
open Go.RowKit

theorem sideTo_neg {d : Int} {xs : List (Int × Int)} (h : okStuck d xs = true) {v s : Int} (hs : sideTo xs v (-1) xs.length s) : s = sideF xs v := by
  rcases hs with ⟨rfl, hn⟩ | ⟨j, hj, hv, rfl⟩
  · rw [sideF_miss hn]
  · rw [sideF_hit hj hv (fun i hi => by have := okStuck_lt h j i hi hj; omega)]
theorem sideTo_neg_bound {d : Int} {xs : List (Int × Int)} (h : okStuck d xs = true) {v s : Int} {k : Nat} (hk : k ≤ xs.length) (hs : sideTo xs v (-1) k s) : -1 ≤ s ∧ s ≤ 1 := by
  rcases hs with ⟨rfl, _⟩ | ⟨j, hj, _, rfl⟩
  · omega
  · have := okStuck_side h (show j < xs.length by omega); omega

theorem runs_len (n : Int) (xs : List (Int × Int)) (ys : List Int) : (runs n xs ys).length = ys.length := by simp [runs]
theorem runs_ok {n : Nat} (hd : inB 1 4 (n : Int) = true) {xs : List (Int × Int)} (h : okStuck n xs = true) {ys : List Int} (hy : ∀ x ∈ ys, 0 ≤ x ∧ x < ((2 ^ n : Nat) : Int)) (hl : ys.length ≤ 8) : okTrials n (runs n xs ys) = true := by
  have hE : ex (n : Int) = ((2 ^ n : Nat) : Int) := by simp [ex]
  simp only [okTrials, Bool.and_eq_true, List.all_eq_true, decide_eq_true_eq]
  refine ⟨⟨hd, fun t ht => ?_⟩, by rw [runs_len]; omega⟩
  obtain ⟨a, ha, rfl⟩ := List.mem_map.1 ht
  have h1 := hy a ha
  have h2 := runE_bound h a
  rw [hE] at h2
  simp only [okTrial, inB, Bool.and_eq_true, decide_eq_true_eq]
  rw [hE]
  omega
theorem runs_val {n : Nat} {xs : List (Int × Int)} (h : okStuck n xs = true) {ys : List Int} (hy : ∀ x ∈ ys, 0 ≤ x ∧ x < ((2 ^ n : Nat) : Int)) (hl : ys.length ≤ 8) : valRuns n xs ys = (runs n xs ys, 0) := by
  simp [valRuns, h, okAddr_yes hy hl]
theorem runs_code {n : Nat} (hd : inB 1 4 (n : Int) = true) {xs : List (Int × Int)} (h : okStuck n xs = true) {ys : List Int} (hy : ∀ x ∈ ys, 0 ≤ x ∧ x < ((2 ^ n : Nat) : Int)) (hl : ys.length ≤ 8) : codeF n (runs n xs ys) = 0 := by
  simp [codeF, runs_ok hd h hy hl, runs_noClash h ys]
theorem runs_contrary {n : Nat} (hd : inB 1 4 (n : Int) = true) {xs : List (Int × Int)} (h : okStuck n xs = true) {ys : List Int} (hy : ∀ x ∈ ys, 0 ≤ x ∧ x < ((2 ^ n : Nat) : Int)) (hl : ys.length ≤ 8) : valContrary n (runs n xs ys) = (0, 3) :=
  contrary_miss (runs_ok hd h hy hl) fun j _ => by rw [runs_take]; exact runs_noClash h _
theorem runs_fewest {n : Nat} (hd : inB 1 4 (n : Int) = true) {xs : List (Int × Int)} (h : okStuck n xs = true) {ys : List Int} (hy : ∀ x ∈ ys, 0 ≤ x ∧ x < ((2 ^ n : Nat) : Int)) (hl : ys.length ≤ 8) : valFewest n (runs n xs ys) = (fewTo (seenTo n (runs n xs ys)) (2 ^ n), 0) := by
  have h0 := runs_code hd h hy hl
  refine Prod.ext (valFewest_good h0) h0
theorem known_size (n : Nat) (ts : List (Int × Int)) : (known n ts).size = 2 ^ n - 1 := by
  unfold known
  rw [strOfNums_size, List.length_drop, lettersTo_length]
theorem runs_known {n : Nat} (hd : inB 1 4 (n : Int) = true) {xs : List (Int × Int)} (h : okStuck n xs = true) {ys : List Int} (hy : ∀ x ∈ ys, 0 ≤ x ∧ x < ((2 ^ n : Nat) : Int)) (hl : ys.length ≤ 8) : valKnown n (runs n xs ys) = (known n (runs n xs ys), 0) := by
  simp [valKnown, runs_code hd h hy hl]

/-- What a letter, the list of the fewest, and a switch's side have to do with one another. -/
def fitL (c : Int) (told : Bool) (sd : Int) : Prop := (c = 48 ∧ told = true ∧ sd = 0) ∨ (c = 49 ∧ told = true ∧ sd = 1) ∨ (c = 119 ∧ told = false ∧ sd = -1) ∨ (c = 97 ∧ told = false ∧ sd ≠ 1) ∨ (c = 98 ∧ told = false ∧ sd ≠ 0) ∨ (c = 63 ∧ told = false)
theorem fit_letter {d : Int} {xs : List (Int × Int)} (h : okStuck d xs = true) {v : Int} {s : B4} (hs : trueOf xs v s) : fitL (letter4 s) (wrong4 s) (sideF xs v) := by
  obtain ⟨h1, h2, h3, h4, h5, h6⟩ := letter_true h hs
  have hc : letter4 s = 48 ∨ letter4 s = 49 ∨ letter4 s = 119 ∨ letter4 s = 97 ∨ letter4 s = 98 ∨ letter4 s = 63 := by
    unfold letter4
    split
    · omega
    split
    · omega
    split
    · omega
    split
    · omega
    split <;> omega
  have hf : letter4 s ≠ 48 → letter4 s ≠ 49 → wrong4 s = false := fun a b => by
    cases hw : wrong4 s with
    | false => rfl
    | true => rcases h1.1 hw with e | e <;> omega
  unfold fitL
  rcases hc with e | e | e | e | e | e
  · exact .inl ⟨e, h1.2 (.inl e), h2 e⟩
  · exact .inr (.inl ⟨e, h1.2 (.inr e), h3 e⟩)
  · exact .inr (.inr (.inl ⟨e, hf (by omega) (by omega), h4 e⟩))
  · exact .inr (.inr (.inr (.inl ⟨e, hf (by omega) (by omega), h5 e⟩)))
  · exact .inr (.inr (.inr (.inr (.inl ⟨e, hf (by omega) (by omega), h6 e⟩))))
  · exact .inr (.inr (.inr (.inr (.inr ⟨e, hf (by omega) (by omega)⟩))))
theorem fit_known {n : Nat} {xs : List (Int × Int)} (h : okStuck n xs = true) (ys : List Int) (j : Nat) (hj : j < (known n (runs n xs ys)).size) :
    fitL ((((known n (runs n xs ys))[j]'hj).toNat : Nat) : Int) ((fewTo (seenTo n (runs n xs ys)) (2 ^ n)).any fun p => p.1 == (((j + 1 : Nat)) : Int)) (sideF xs ((j + 1 : Nat) : Int)) := by
  have hs := known_size n (runs n xs ys)
  have hj2 : j + 1 < 2 ^ n := by omega
  have hb := known_byte (seenTo n (runs n xs ys)) (2 ^ n) j hj
  have hl : (lettersTo (seenTo n (runs n xs ys)) (2 ^ n)).getD (j + 1) 0 = letter4 ((seenTo n (runs n xs ys)).getD (j + 1) z4) := by simp [lettersTo, List.getD, hj2]
  rw [few_told _ _ _ hj2]
  have := fit_letter h (allTrue_runs h ys (j + 1))
  rw [← hl, ← hb] at this
  exact this

theorem tried_runs (n : Int) (xs : List (Int × Int)) (ys : List Int) (a : Int) : tried (runs n xs ys) a = decide (a ∈ ys) := by
  rw [Bool.eq_iff_iff, decide_eq_true_iff]
  unfold tried runs
  rw [List.any_eq_true]
  constructor
  · rintro ⟨t, ht, he⟩
    obtain ⟨b, hb, rfl⟩ := List.mem_map.1 ht
    simp only [beq_iff_eq] at he
    rw [← he]; exact hb
  · intro h
    exact ⟨_, List.mem_map.2 ⟨a, h, rfl⟩, by simp⟩
/-- The next address: there is none, or it is a new one; the first one is 0. -/
theorem runs_next {n : Nat} (hd : inB 1 4 (n : Int) = true) {xs : List (Int × Int)} (h : okStuck n xs = true) {ys : List Int} (hy : ∀ x ∈ ys, 0 ≤ x ∧ x < ((2 ^ n : Nat) : Int)) (hl : ys.length ≤ 8) :
    valNext n (runs n xs ys) = (0, 3) ∨ ∃ a : Nat, valNext n (runs n xs ys) = ((a : Int), 0) ∧ a < 2 ^ n ∧ decide ((a : Int) ∈ ys) = false ∧ (ys.length = 0 → a = 0) := by
  have h0 := runs_code hd h hy hl
  have hn : 1 ≤ n := by simp [inB] at hd; omega
  cases hx : nextA n (runs n xs ys) with
  | none => exact .inl (next_none h0 hx)
  | some a =>
    obtain ⟨h1, h2, h3⟩ := next_some h0 hx
    rw [tried_runs] at h3
    refine .inr ⟨a, h1, h2, h3, fun hz => ?_⟩
    have : ys = [] := List.length_eq_zero_iff.1 hz
    subst this
    have e : nextA n [] = some a := hx
    rw [next_first hn] at e
    exact (Option.some.inj e).symm

theorem runs_bad {n : Nat} (hd : inB 1 4 (n : Int) = true) {xs : List (Int × Int)} (h : okStuck n xs = true) {ys : List Int} (hy : ∀ x ∈ ys, 0 ≤ x ∧ x < ((2 ^ n : Nat) : Int)) (hl : ys.length ≤ 8) (hp : 0 < ys.length) :
    0 ≤ ((runs n xs ys).getD 0 (0, 0)).1 ∧ ((runs n xs ys).getD 0 (0, 0)).1 < ((2 ^ n : Nat) : Int) ∧ 0 ≤ ((runs n xs ys).getD 0 (0, 0)).2 ∧ ((runs n xs ys).getD 0 (0, 0)).2 < ((2 ^ n : Nat) : Int) ∧
    valContrary n (runs n xs ys ++ [(((runs n xs ys).getD 0 (0, 0)).1, ((2 ^ n : Nat) : Int) - 1 - ((runs n xs ys).getD 0 (0, 0)).2)]) = ((ys.length : Int), 0) := by
  have hn : 1 ≤ n ∧ n ≤ 4 := by simp [inB] at hd; omega
  have hE : ex (n : Int) = ((2 ^ n : Nat) : Int) := by simp [ex]
  have hlen := runs_len n xs ys
  have hok := runs_ok hd h hy hl
  have hmem : (runs n xs ys).getD 0 (0, 0) ∈ runs n xs ys := by
    rw [show (runs n xs ys).getD 0 (0, 0) = (runs n xs ys)[0]'(by omega) by simp [List.getD, show 0 < (runs n xs ys).length by omega]]
    exact List.getElem_mem _
  have hok2 := hok
  simp only [okTrials, Bool.and_eq_true, List.all_eq_true, decide_eq_true_eq] at hok
  have ht := hok.1.2 _ hmem
  generalize hT : (runs n xs ys).getD 0 (0, 0) = t at hmem ht
  obtain ⟨a, e⟩ := t
  simp only [okTrial, inB, Bool.and_eq_true, decide_eq_true_eq] at ht
  rw [hE] at ht
  obtain ⟨E, rfl⟩ : ∃ E : Nat, e = E := ⟨e.toNat, by omega⟩
  have hEl : E < 2 ^ n := by omega
  refine ⟨by omega, by omega, by simp only; omega, by simp only; omega, ?_⟩
  simp only
  have hcl := turned_clash hn (runs n xs ys) a E hEl hmem
  have ep : (2 : Int) ^ n - 1 - (E : Int) = ((2 ^ n : Nat) : Int) - 1 - (E : Int) := by simp
  rw [ep] at hcl
  have hb : okTrials n (runs n xs ys ++ [(a, ((2 ^ n : Nat) : Int) - 1 - (E : Int))]) = true := by
    simp only [okTrials, Bool.and_eq_true, List.all_eq_true, decide_eq_true_eq]
    refine ⟨⟨hd, fun x hx => ?_⟩, by simp [hlen]; omega⟩
    rcases List.mem_append.1 hx with hx | hx
    · exact hok.1.2 x hx
    · rw [List.mem_singleton.1 hx]
      simp only [okTrial, inB, Bool.and_eq_true, decide_eq_true_eq]
      rw [hE]
      omega
  rw [← hlen]
  refine contrary_hit hb (by simp) ?_ ?_
  · rw [List.take_of_length_le (by simp)]; exact hcl
  · intro j hj
    rw [List.take_append_of_le_length (by omega), runs_take]
    exact runs_noClash h _

end Go.Proofs.YthlpbeohlhhblaaGreat
namespace Go.Proofs.YthlpbeohlhhblaaGreat
open Go.RowKit

/-- Do stuck switches explain trials? -/
def explains (d : Int) (xs ts : List (Int × Int)) : Bool := ts.all fun t => runE d xs t.1 == t.2
def valExplains (d : Int) (xs ts : List (Int × Int)) : Bool × Int := if okStuck d xs && okTrials d ts then (explains d xs ts, 0) else (false, 1)

theorem okTrials_at {d : Int} {ts : List (Int × Int)} (h : okTrials d ts = true) {k : Nat} (hk : k < ts.length) : (0 ≤ (ts.getD k (0, 0)).1 ∧ (ts.getD k (0, 0)).1 ≤ 15) ∧ 0 ≤ (ts.getD k (0, 0)).2 ∧ (ts.getD k (0, 0)).2 ≤ 15 := by
  simp only [okTrials, Bool.and_eq_true, List.all_eq_true] at h
  have h1 := h.1.2 _ (List.getElem_mem hk)
  have h2 := (wrap_ex h.1.1).2.2.2
  simp only [List.getD, List.getElem?_eq_getElem hk, Option.getD_some]
  simp only [okTrial, inB, Bool.and_eq_true, decide_eq_true_eq] at h1
  omega

theorem explains1_any (d : Int) (v : Value) (xs : List (Int × Int)) (x y : Int) (b1 b2 : Nat) (w : World) (h1 : w.cell? ⟨b1, 0, none⟩ = some (.int .i64 d)) (h2 : w.cell? ⟨b2, 0, none⟩ = some v) (l1 : b1 < w.heap.size) (l2 : b2 < w.heap.size)
    (hv : SI P2 w v xs) (hok : okStuck d xs = true) (x0 : 0 ≤ x) (x1 : x ≤ 9223372036854775807) :
    Calls Tryz.prog 52 #[.agg #[.int .i64 x, .int .i64 y], .pointer (some ⟨b1, 0, none⟩), .pointer (some ⟨b2, 0, none⟩)] w fun e w' => e = .returned (.bool (runE d xs x != y)) ∧ Below w.heap.size w w' := by
  obtain ⟨a, cap, rfl⟩ := hv.shape
  have HV := Lib.hid hv
  have HK := Lib.hid hok
  clear hv hok
  have C1 := fun (W : World) (h : SI P2 W (.slice a xs.length cap) xs) => exitOf_any d _ xs x W h HK.out x0 x1
  generalize runE d xs x = r at C1 ⊢
  have D1 := Lib.hid C1
  clear C1
  go_enter Tryz.func52, Tryz.ntmps52
  go_wp2_with fail
  have hbn := below_new w (.cells #[.int .i64 x, .int .i64 y] 94)
  have hne := cell_new2 w (.int .i64 x) (.int .i64 y) 94
  have c1 := (hbn.cell (p := ⟨b1, 0, none⟩) l1).trans h1
  have c2 := (hbn.cell (p := ⟨b2, 0, none⟩) l2).trans h2
  obtain ⟨c3, c4⟩ := hne
  have hsz : w.heap.size < (w.alloc (.cells #[.int .i64 x, .int .i64 y] 94)).drew.heap.size := by simp
  go_region_held3 (fun w' => w'.cell? ⟨b1, 0, none⟩ = some (.int .i64 d) ∧ w'.cell? ⟨b2, 0, none⟩ = some (.slice a xs.length cap) ∧ w'.cell? ⟨w.heap.size, 0, none⟩ = some (.int .i64 x) ∧ w'.cell? ⟨w.heap.size, 1, none⟩ = some (.int .i64 y))
    (first
      | go_keep
      | (go_split_ands
         refine ⟨?_, ?_, ?_, ?_⟩
         · (rw [hb2.cell (p := ⟨b1, 0, none⟩) (by simp; omega)]; assumption)
         · (rw [hb2.cell (p := ⟨b2, 0, none⟩) (by simp; omega)]; assumption)
         · (rw [hb2.cell (p := ⟨w.heap.size, 0, none⟩) (by simp)]; assumption)
         · (rw [hb2.cell (p := ⟨w.heap.size, 1, none⟩) (by simp)]; assumption)))
    ((go_at_call 47; refine (D1.out _ (HV.out.below hbn)).mono ?_; rintro e w2 ⟨rfl, hb2⟩))
  go_wp2_with fail
  go_ret
  exact ⟨rfl, bthen hbn hb2⟩

theorem explains_enters : ∀ args w, (callFunc 52 args).run Tryz.prog w = .ok (.enter 52 args) w := enters_of Tryz.func52 (by kernel_rfl) rfl

theorem explains_eq (d : Int) (xs ts : List (Int × Int)) : (!(ts.any fun t => runE d xs t.1 != t.2)) = explains d xs ts := by
  unfold explains
  induction ts with
  | nil => rfl
  | cons t ts ih => simp [List.all_cons, List.any_cons, ← ih, bne]

theorem implExplains_any (d : Int) (v : Value) (xs : List (Int × Int)) (u : Value) (ts : List (Int × Int)) (w : World) (hv : SI P2 w v xs) (hu : SI P2 w u ts) :
    Calls Tryz.prog 21 #[.int .i64 d, v, u] w fun e w' => e = .returned (.tuple #[.bool (valExplains d xs ts).1, .int .i64 (valExplains d xs ts).2]) ∧ Below w.heap.size w w' := by
  obtain ⟨a, cap, rfl⟩ := hv.shape
  have HV := Lib.hid hv
  have HU := Lib.hid hu
  have C1 := fun (W : World) (h : SI P2 W (.slice a xs.length cap) xs) => implValidStuck_any d _ xs W h
  have C2 := fun (W : World) (h : SI P2 W u ts) => implValidTrials_any d u ts W h
  clear hv hu
  have hmf : ∀ (fn : Fn) (first cap : Array Value) (w : World), (Instr.makeFunc fn first cap).run Tryz.prog w = .ok (.func fn first cap) w := fun _ _ _ _ => rfl
  have B2 : Below w.heap.size w ((w.alloc (.cells #[.int .i64 d] 2)).alloc (.cells #[.slice a xs.length cap] 47)) := ((Below.refl _ _).alloc (Nat.le_refl _) _).alloc (by simp) _
  cases h1 : okStuck d xs with
  | false =>
    rw [h1] at C1
    have D1 := Lib.hid C1
    have HE := Lib.hid (show valExplains d xs ts = (false, 1) by simp only [valExplains, h1]; rfl)
    clear C1 C2 h1
    go_enter Tryz.func21, Tryz.ntmps21
    go_wp2_with (go_at_call 45; refine (D1.out _ (HV.out.below B2)).mono ?_; rintro e w1 ⟨rfl, hb1⟩)
    go_ret2
    exact ⟨by rw [HE.out]; rfl, bthen B2 hb1⟩
  | true =>
    rw [h1] at C1
    have D1 := Lib.hid C1
    have HK := Lib.hid h1
    cases h2 : okTrials d ts with
    | false =>
      rw [h2] at C2
      have D2 := Lib.hid C2
      have HE := Lib.hid (show valExplains d xs ts = (false, 1) by simp only [valExplains, h1, h2]; rfl)
      clear C1 C2 h1 h2
      go_enter Tryz.func21, Tryz.ntmps21
      go_wp2_with fail
      refine (D1.out _ (HV.out.below B2)).mono ?_
      rintro e w1 ⟨rfl, hb1⟩
      have c1 := (hb1.cell (p := ⟨w.heap.size, 0, none⟩) (by simp; omega)).trans (cell_alloc2a _ _ _ _ _)
      go_wp2_with fail
      refine (D2.out _ (HU.out.below (bthen B2 hb1))).mono ?_
      rintro e w2 ⟨rfl, hb2⟩
      go_wp2
      go_ret2
      exact ⟨by rw [HE.out]; rfl, bthen (bthen B2 hb1) hb2⟩
    | true =>
      rw [h2] at C2
      have D2 := Lib.hid C2
      have HT := Lib.hid h2
      have HE := Lib.hid (show valExplains d xs ts = (explains d xs ts, 0) by simp only [valExplains, h1, h2]; rfl)
      clear C1 C2 h1 h2
      go_enter Tryz.func21, Tryz.ntmps21
      go_wp2_with fail
      refine (D1.out _ (HV.out.below B2)).mono ?_
      rintro e w1 ⟨rfl, hb1⟩
      have c1 := (hb1.cell (p := ⟨w.heap.size, 0, none⟩) (by simp; omega)).trans (cell_alloc2a _ _ _ _ _)
      have c2 := (hb1.cell (p := ⟨w.heap.size + 1, 0, none⟩) (by simp)).trans (cell_alloc2b _ _ _ _ _)
      have z1 : w.heap.size + 1 < w1.heap.size := Nat.lt_of_lt_of_le (by simp) hb1.size
      go_wp2_with fail
      refine (D2.out _ (HU.out.below (bthen B2 hb1))).mono ?_
      rintro e w2 ⟨rfl, hb2⟩
      have k1 := (hb2.cell (p := ⟨w.heap.size, 0, none⟩) (by simp; omega)).trans c1
      have k2 := (hb2.cell (p := ⟨w.heap.size + 1, 0, none⟩) (by simp; omega)).trans c2
      have z2 : w.heap.size + 1 < w2.heap.size := Nat.lt_of_lt_of_le z1 hb2.size
      have B5 := bthen (bthen B2 hb1) hb2
      clear c1 c2
      go_wp2_with fail
      refine (containsTrial_any 52 _ (fun t => runE d xs t.1 != t.2) _ ts _ explains_enters ?_ (HU.out.below B5)).mono ?_
      · intro W x y hW hm _ _
        obtain ⟨i, hi, hxy⟩ := List.getElem_of_mem hm
        have hr := (okTrials_at HT.out hi).1
        simp only [List.getD, List.getElem?_eq_getElem hi, Option.getD_some, hxy] at hr
        refine (explains1_any d (.slice a xs.length cap) xs x y w.heap.size (w.heap.size + 1) W ?_ ?_ ?_ ?_ (HV.out.below (bthen B5 hW)) HK.out hr.1 (by omega)).mono fun e w' ⟨he, hb'⟩ => ⟨he, bthen hW hb'⟩
        · exact (hW.cell (p := ⟨w.heap.size, 0, none⟩) (by simp; omega)).trans k1
        · exact (hW.cell (p := ⟨w.heap.size + 1, 0, none⟩) (by simp; omega)).trans k2
        · exact Nat.lt_of_lt_of_le (by omega) hW.size
        · exact Nat.lt_of_lt_of_le (by omega) hW.size
      · rintro e w' ⟨rfl, hb'⟩
        go_wp2
        go_ret2
        exact ⟨by rw [HE.out, ← explains_eq]; rfl, bthen B5 hb'⟩

end Go.Proofs.YthlpbeohlhhblaaGreat
namespace Go.Proofs.YthlpbeohlhhblaaGreat
open Go.RowKit

/-- A list without repeats, all of whose members lie in another one, is no longer. -/
theorem nodup_le : ∀ {l m : List Int}, l.Pairwise (· < ·) → (∀ x ∈ l, x ∈ m) → l.length ≤ m.length := by
  intro l
  induction l with
  | nil => intro m _ _; exact Nat.zero_le _
  | cons x l ih =>
    intro m hp hs
    have hx := hs x (by simp)
    have h2 := List.pairwise_cons.1 hp
    have i := ih (m := m.erase x) h2.2 fun y hy => (List.mem_erase_of_ne (by have := h2.1 y hy; omega)).2 (hs y (by simp [hy]))
    rw [List.length_erase_of_mem hx] at i
    have := List.length_pos_of_mem hx
    simp only [List.length_cons]
    omega

theorem few_mem {st : List B4} {k : Nat} {p : Int × Int} (h : p ∈ fewTo st k) : ∃ v : Nat, v < k ∧ wrong4 (st.getD v z4) = true ∧ p = ((v : Int), side4 (st.getD v z4)) := by
  unfold fewTo at h
  obtain ⟨v, hv, rfl⟩ := List.mem_map.1 h
  obtain ⟨h1, h2⟩ := List.mem_filter.1 hv
  exact ⟨v, List.mem_range.1 h1, h2, rfl⟩
theorem few_sorted (st : List B4) (k : Nat) : (fewTo st k).Pairwise (fun a b => a.1 < b.1) := by
  unfold fewTo
  rw [List.pairwise_map]
  exact List.Pairwise.imp (fun h => by simpa using h) (List.Pairwise.filter _ List.pairwise_lt_range)
theorem few_side {st : List B4} {k v : Nat} (hv : v < k) : sideF (fewTo st k) v = if wrong4 (st.getD v z4) then side4 (st.getD v z4) else -1 := by
  have ht := few_told st k v hv
  unfold sideF
  cases hf : (fewTo st k).find? (fun p => p.1 == (v : Int)) with
  | some p =>
    have h1 := List.find?_some hf
    obtain ⟨u, _, hw, rfl⟩ := few_mem (List.mem_of_find?_eq_some hf)
    have : u = v := by simp only [beq_iff_eq] at h1; omega
    subst this
    rw [if_pos hw]
  | none =>
    have hn := List.find?_eq_none.1 hf
    rw [if_neg]
    intro hw
    rw [hw, List.any_eq_true] at ht
    obtain ⟨p, hp, he⟩ := ht
    exact hn p hp he

/-! ### a wrong turn is kept -/
theorem wrong_step {d : Int} {t : Int × Int} {st : List B4} {k v : Nat} (h : wrong4 (st.getD v z4) = true) : wrong4 ((stepS d t st k).getD v z4) = true := by
  by_cases e : (wayAt d t.2 k).toNat = v
  · unfold stepS
    rw [e]
    by_cases hl : v < st.length
    · have : (st.set v (hit (st.getD v z4) (dig d t.2 k == 1) (dig d t.1 k != dig d t.2 k))).getD v z4 = hit (st.getD v z4) (dig d t.2 k == 1) (dig d t.1 k != dig d t.2 k) := by simp [List.getD, hl]
      rw [this, wrong_hit, h]; rfl
    · rw [List.set_eq_of_length_le (by omega)]; exact h
  · rw [stepS_keeps e]; exact h
theorem wrong_trial {d : Int} {t : Int × Int} {st : List B4} {v : Nat} (h : wrong4 (st.getD v z4) = true) (k : Nat) : wrong4 ((trialTo d t st k).getD v z4) = true := by
  induction k with
  | zero => exact h
  | succ k ih => rw [trialTo_succ]; exact wrong_step ih
theorem wrong_told {d : Int} {t : Int × Int} {st : List B4} {k m : Nat} (hk : k < m) (hl : (wayAt d t.2 k).toNat < st.length) (h : dig d t.1 k ≠ dig d t.2 k) : wrong4 ((trialTo d t st m).getD (wayAt d t.2 k).toNat z4) = true := by
  induction m with
  | zero => omega
  | succ m ih =>
    rw [trialTo_succ]
    by_cases e : k = m
    · subst e
      unfold stepS
      have hl2 : (wayAt d t.2 k).toNat < (trialTo d t st k).length := by rw [trialTo_length]; exact hl
      have : ∀ x : B4, ((trialTo d t st k).set (wayAt d t.2 k).toNat x).getD (wayAt d t.2 k).toNat z4 = x := fun x => by simp [List.getD, hl2]
      rw [this, wrong_hit, bne_iff_ne.2 h]
      simp
    · exact wrong_step (ih (by omega))
theorem wrong_seen {n : Nat} {t : Int × Int} {k : Nat} (hk : k < n) (hl : (wayAt n t.2 k).toNat < 2 ^ n) (h : dig n t.1 k ≠ dig n t.2 k) : ∀ ts : List (Int × Int), t ∈ ts → ∀ st : List B4, st.length = 2 ^ n → wrong4 ((ts.foldl (fun st t => trialTo n t st n) st).getD (wayAt n t.2 k).toNat z4) = true := by
  have hkeep : ∀ (ts : List (Int × Int)) (st : List B4), wrong4 (st.getD (wayAt n t.2 k).toNat z4) = true → wrong4 ((ts.foldl (fun st t => trialTo n t st n) st).getD (wayAt n t.2 k).toNat z4) = true := by
    intro ts
    induction ts with
    | nil => intro st hst; exact hst
    | cons u ts ih => intro st hst; exact ih _ (wrong_trial hst n)
  intro ts
  induction ts with
  | nil => intro h; simp at h
  | cons u ts ih =>
    intro hm st hst
    rcases List.mem_cons.1 hm with rfl | hm
    · exact hkeep ts _ (wrong_told hk (by omega) h)
    · exact ih hm _ (by rw [trialTo_length]; exact hst)

/-! ### what the fewest stuck switches are good for -/
theorem few_goes {n : Nat} {xs : List (Int × Int)} (h : okStuck n xs = true) (ys : List Int) {a : Int} (ha : a ∈ ys) {k : Nat} (hk : k < n) :
    goes (fewTo (seenTo n (runs n xs ys)) (2 ^ n)) (runAt n xs a k) (dig n a k) = goes xs (runAt n xs a k) (dig n a k) := by
  have hb := runAt_pow h a k
  have hp := pow_pos1 k
  have hq : (2 : Int) ^ (k + 1) ≤ 2 ^ n := by
    obtain ⟨m, rfl⟩ : ∃ m, n = k + 1 + m := ⟨n - k - 1, by omega⟩
    rw [show (2 : Int) ^ (k + 1 + m) = 2 ^ (k + 1) * 2 ^ m from Int.pow_add _ _ _]
    have := pow_pos1 m
    have h2 := pow_pos1 (k + 1)
    have h3 := Int.mul_le_mul_of_nonneg_left this (show (0 : Int) ≤ 2 ^ (k + 1) by omega)
    rw [Int.mul_one] at h3
    exact h3
  have hcast : ((2 ^ n : Nat) : Int) = (2 : Int) ^ n := by simp
  obtain ⟨V, hV⟩ : ∃ V : Nat, runAt n xs a k = V := ⟨(runAt n xs a k).toNat, by omega⟩
  have hVl : V < 2 ^ n := by omega
  have ht := allTrue_runs h ys V
  have hw := way_run h a k (by omega)
  have hd := dig_run h a k hk
  have hs := few_side (st := seenTo n (runs n xs ys)) hVl
  have hwr : dig n a k ≠ dig n (runE n xs a) k → wrong4 ((seenTo n (runs n xs ys)).getD V z4) = true := fun hne => by
    have := wrong_seen (n := n) (t := (a, runE n xs a)) hk (by rw [hw, hV]; simpa using hVl) hne (runs n xs ys) (List.mem_map.2 ⟨a, ha, rfl⟩) (List.replicate (2 ^ n) z4) (by simp)
    rw [hw, hV] at this
    exact this
  rw [hV] at hd ⊢
  cases hc : wrong4 ((seenTo n (runs n xs ys)).getD V z4) with
  | false =>
    rw [hc] at hs
    have he : dig n a k = goes xs V (dig n a k) := Classical.byContradiction fun hne => by
      rw [← hd] at hne
      rw [hwr hne] at hc
      cases hc
    rw [← he]
    unfold goes
    rw [hs]
    rfl
  | true =>
    rw [hc, if_pos rfl] at hs
    obtain ⟨t1, t2, t3, t4⟩ := ht
    have hsd : side4 ((seenTo n (runs n xs ys)).getD V z4) = sideF xs V := by
      unfold side4
      cases h3 : ((seenTo n (runs n xs ys)).getD V z4).2.2.1 with
      | true => rw [if_pos rfl, t3 h3]
      | false =>
        unfold wrong4 at hc
        rw [h3, Bool.false_or] at hc
        rw [if_neg (by simp), t4 hc]
    unfold goes
    rw [hs, hsd]
theorem few_run {n : Nat} {xs : List (Int × Int)} (h : okStuck n xs = true) (ys : List Int) {a : Int} (ha : a ∈ ys) : ∀ k, k ≤ n → runAt n (fewTo (seenTo n (runs n xs ys)) (2 ^ n)) a k = runAt n xs a k := by
  intro k
  induction k with
  | zero => intro _; rfl
  | succ k ih =>
    intro hk
    have i := ih (by omega)
    simp only [runAt]
    rw [i, few_goes h ys ha (by omega)]
theorem few_explains {n : Nat} {xs : List (Int × Int)} (h : okStuck n xs = true) (ys : List Int) : explains n (fewTo (seenTo n (runs n xs ys)) (2 ^ n)) (runs n xs ys) = true := by
  unfold explains
  rw [List.all_eq_true]
  intro t ht
  obtain ⟨a, ha, rfl⟩ := List.mem_map.1 ht
  have := few_run h ys ha n (Nat.le_refl _)
  unfold runE
  rw [Int.toNat_natCast, this]
  exact beq_self_eq_true _
theorem few_drawn {n : Nat} (hd : inB 1 4 (n : Int) = true) (ts : List (Int × Int)) : drawn18 (fewTo (seenTo n ts) (2 ^ n)) (2 ^ n) := by
  have hf := fit4_seen hd ts
  refine ⟨fun p hp => ?_, few_sorted _ _, fewTo_len _ _⟩
  obtain ⟨v, hv, hw, rfl⟩ := few_mem hp
  have hv0 : v ≠ 0 := fun e => by
    rw [e, hf.2.2] at hw
    simp [z4, wrong4] at hw
  have hs : 0 ≤ side4 ((seenTo n ts).getD v z4) ∧ side4 ((seenTo n ts).getD v z4) ≤ 1 := by unfold side4; split <;> omega
  simp only
  omega
theorem few_less {n : Nat} {xs : List (Int × Int)} (h : okStuck n xs = true) (ys : List Int) : (fewTo (seenTo n (runs n xs ys)) (2 ^ n)).length ≤ xs.length := by
  have := nodup_le (l := (fewTo (seenTo n (runs n xs ys)) (2 ^ n)).map (·.1)) (m := xs.map (·.1)) (by rw [List.pairwise_map]; exact few_sorted _ _) fun x hx => by
    obtain ⟨p, hp, rfl⟩ := List.mem_map.1 hx
    obtain ⟨v, _, hw, rfl⟩ := few_mem hp
    obtain ⟨_, _, t3, t4⟩ := allTrue_runs h ys v
    have hs : sideF xs v ≠ -1 := by
      unfold wrong4 at hw
      rcases Bool.or_eq_true _ _ ▸ hw with hw | hw
      · rw [t3 hw]; decide
      · rw [t4 hw]; decide
    unfold sideF at hs
    cases hf : xs.find? (fun p => p.1 == (v : Int)) with
    | none => rw [hf] at hs; exact absurd rfl hs
    | some q =>
      have h1 := List.find?_some hf
      exact List.mem_map.2 ⟨q, List.mem_of_find?_eq_some hf, by simpa using h1⟩
  simpa using this
/-- All that FnTop says of stuck switches. -/
theorem stuck_pack {n : Nat} (hd : inB 1 4 (n : Int) = true) {xs : List (Int × Int)} (h : okStuck n xs = true) {ys : List Int} (hy : ∀ x ∈ ys, 0 ≤ x ∧ x < ((2 ^ n : Nat) : Int)) (hl : ys.length ≤ 8) :
    ∃ ts few, valRuns n xs ys = (ts, 0) ∧ valFewest n ts = (few, 0) ∧ few.length ≤ xs.length ∧ valExplains n few ts = (true, 0) := by
  refine ⟨_, _, runs_val h hy hl, runs_fewest hd h hy hl, few_less h ys, ?_⟩
  unfold valExplains
  rw [drawn18_ok hd (few_drawn hd _), runs_ok hd h hy hl, few_explains h ys]
  rfl

end Go.Proofs.YthlpbeohlhhblaaGreat
namespace Go.Proofs.YthlpbeohlhhblaaGreat
open Go.RowKit

theorem implFewestStuck_any (d : Int) (v : Value) (ts : List (Int × Int)) (w : World) (hv : SI P2 w v ts) :
    Calls Tryz.prog 20 #[.int .i64 d, v] w fun e w' => ∃ v', e = .returned (.tuple #[v', .int .i64 (valFewest d ts).2]) ∧ OS P2 128 w' w.heap.size v' (valFewest d ts).1 ∧ Below w.heap.size w w' := by
  have HV := Lib.hid hv
  clear hv
  go_enter Tryz.func20, Tryz.ntmps20
  go_wp2_with fail
  refine (diagnosed_any d v ts _ HV.out).mono ?_
  rintro e w1 ⟨u1, u2, rfl, ho, _, hb1⟩
  have HO := Lib.hid ho
  clear ho
  go_wp2_with fail
  go_ret2
  exact ⟨_, rfl, HO.out, hb1⟩

end Go.Proofs.YthlpbeohlhhblaaGreat
namespace Go.Proofs.YthlpbeohlhhblaaGreat
open Go.ChangeShapes Go.WideShapes Go.ChangeAt Go.RowKit

theorem own : ownKnob Tryz.prog.godebug = none := by kernel_rfl
theorem laidOut : laidOutB Tryz.prog = true := by kernel_rfl

section
variable {H : Type} {enc : TypeId × Value → H} {P : Program}

theorem trodAll_stays (hl : laidOutB P = true) : ∀ (ts : List TypeId), (∀ t ∈ ts, P.readableRec t = true ∧ t < P.types.size) → ∀ {W W' : World} {vs : List Value} {ds : List (DataW H)} {ps : List MemPlace},
    DataW.TrodAll enc P W 0 (fun _ => true) true ts vs ds ps → Below W.heap.size W W' → (∀ x ∈ ps, x.block < W.heap.size) → DataW.TrodAll enc P W' 0 (fun b => decide (b < W.heap.size)) true ts vs ds ps
  | [], _, _, _, _, _, _, h, _, _ => by
    obtain ⟨rfl, rfl, rfl⟩ := trodAll_nil h
    exact trodAll_mk0
  | t :: ts, ht, W, W', vs, ds, ps, h, hb, hlt => by
    obtain ⟨v, vs', d, ds', p, q, rfl, rfl, rfl, h1, h2⟩ := trodAll_cons h
    exact ⟨p, q, Below.trod hl (ht t (by simp)).1 (ht t (by simp)).2 h1 hb (fun x hx => hlt x (by simp [hx])),
      trodAll_stays hl ts (fun t' h' => ht t' (by simp [h'])) h2 hb (fun x hx => hlt x (by simp [hx])), rfl⟩

theorem law_post {f : Func} {s : ChangeSpec} {tb : TypeId} (hl : laidOutB P = true) (hts : ∀ t ∈ f.params.toList, P.readableRec t = true ∧ t < P.types.size) (hf : f.resultTypes = #[tb]) (htb : P.underlying tb = some .bool)
    (hv : s.vars = []) {W W' : World} {args : Array Value} {ds gs : List (DataW H)} {before : List MemPlace} (hW : DataW.Whole enc P f.params.toList s.vars false W args.toList ds gs before)
    (hfn : s.fn H (ds ++ gs) = { results := [.lit (.bool true)], args := ds }) (hb : Below W.heap.size W W') : s.post enc P f false true false false W args (.bool true) W' := by
  have hW' := hW
  obtain ⟨p, q, hA, hV, rfl, hfz, hnd⟩ := hW
  rw [hv] at hV
  obtain ⟨rfl, rfl⟩ := trodVars_none hV
  refine ⟨ds, [], _, [], p, [], hW', ?_, ?_, ?_, hb.frame _, fun h => by cases h⟩
  · rw [hfn, hf]; exact trodAll_mk1 (shut_bool htb true)
  · rw [hfn]; exact trodAll_stays hl _ hts hA hb (fun x hx => by simpa using hW'.lt x (by simpa using hx))
  · rw [hfn, hv]; exact rfl

theorem open_RI {t e : TypeId} {base : Nat} {r : Reach} {W : World} {v : Value} {d : DataW H} {p : List MemPlace} (ht : P.underlying t = some (.slice e)) (he : P.underlying e = some (.int .i64)) (hc : P.cellsOf e = 1)
    (hval : Value.okWide P W r base t v) (hd : DataW.Trod enc P W 0 (fun _ => true) true t v d p) (hlt : ∀ x ∈ p, x.block < W.heap.size) : ∃ xs, RI W v xs := by
  obtain ⟨a0, len, cap, rfl⟩ := okWide_slice ht hval
  obtain ⟨fuel, hf⟩ := hd
  rcases open_ints ht he hc hf with ⟨hcs, hx⟩ | ⟨a, len', cap', zs, hcs, _, hl, hm, hz, hx, hcell, hwz⟩
  · simp [Value.cells] at hcs
    obtain ⟨rfl, rfl, rfl⟩ := hcs
    exact ⟨[], RI.nil W⟩
  · simp [Value.cells] at hcs
    obtain ⟨rfl, rfl, rfl⟩ := hcs
    simp only [Prod.mk.injEq] at hx
    obtain ⟨rfl, rfl⟩ := hx
    simp only [if_true] at hz
    have hlen : (zs.take len).length = len := by simp; omega
    refine ⟨zs.take len, ⟨some a, cap, by rw [hlen], by omega, hm, ?_⟩, fun x hx => bounds_i64 (hwz x (List.mem_of_mem_take hx))⟩
    by_cases h0 : len = 0
    · left; subst h0; simp
    · right
      obtain ⟨b, off, spot⟩ := a
      have hspot : spot = none := by simpa [Addr.add] using World.cell?_spot (hcell 0 (by omega))
      subst hspot
      refine ⟨b, off, rfl, hlt (.cell b off) (MemPlace.mem_row.2 ⟨0, by omega, by simp⟩), fun j hj => ?_⟩
      rw [hlen] at hj
      rw [← add_plain, hcell j (by omega)]
      simp [List.getD, List.getElem?_take, hj]
end

end Go.Proofs.YthlpbeohlhhblaaGreat
