/-
  Runs through stuck switches, in plain Lean: a run of a run is itself; what is lost. No program in sight.
  The library's IndexFunc and ContainsFunc at lists of records of type Trial, for every predicate that leaves old memory as it was.
  ValidTrials of the reference and of the program: what each returns.
  What trials tell of switches, in plain Lean: which sides each switch led carriers to, and which ones wrongly. No program in sight.
  Lists of records of four bools in memory of the call's own.
-/
import Derived.Test.YthlpbeohlhhblaaGreatTopO
import Derived.Test.YthlpbeohlhhblaaGreatTopN
import Derived.Test.YthlpbeohlhhblaaGreatTopB
import Derived.Shelf.Abstract
namespace Go.Proofs.YthlpbeohlhhblaaGreat
open Go.RowKit

theorem rp_grow {n : Int} {xs : List (Int × Int)} (h : okStuck n xs = true) (a : Int) (k m : Nat) : ∃ t : Int, 0 ≤ t ∧ t < 2 ^ m ∧ runAt n xs a (k + m) = 2 ^ m * runAt n xs a k + t := by
  induction m with
  | zero => exact ⟨0, by omega, by simp, by simp⟩
  | succ m ih =>
    obtain ⟨t, t0, t1, ht⟩ := ih
    have hg := goes_01 h (runAt n xs a (k + m)) (dig n a ((k + m : Nat) : Int)) (dig_01 _ _ _)
    refine ⟨2 * t + goes xs (runAt n xs a (k + m)) (dig n a ((k + m : Nat) : Int)), by omega, ?_, ?_⟩
    · rw [Int.pow_succ]; omega
    · show 2 * runAt n xs a (k + m) + goes xs (runAt n xs a (k + m)) (dig n a ((k + m : Nat) : Int)) = _
      rw [Int.pow_succ]
      have e : (2 ^ m * 2 * runAt n xs a k : Int) = 2 * (2 ^ m * runAt n xs a k) := by rw [Int.mul_comm (2 ^ m) 2, Int.mul_assoc]
      rw [e]
      generalize goes xs (runAt n xs a (k + m)) (dig n a ((k + m : Nat) : Int)) = g
      omega
theorem rp_dig {n : Nat} {xs : List (Int × Int)} (h : okStuck n xs = true) (a : Int) (k : Nat) (hk : k < n) : dig n (runE n xs a) k = goes xs (runAt n xs a k) (dig n a k) := by
  obtain ⟨m, hm⟩ : ∃ m, n = k + 1 + m := ⟨n - k - 1, by omega⟩
  obtain ⟨t, t0, t1, ht⟩ := rp_grow h a (k + 1) m
  have hg := goes_01 h (runAt n xs a k) (dig n a k) (dig_01 _ _ _)
  have hE : runE n xs a = 2 ^ m * (runAt n xs a (k + 1) - 2 ^ (k + 1)) + t := by
    unfold runE ex
    have e2 : (2 : Int) ^ n = 2 ^ m * 2 ^ (k + 1) := by rw [← Int.pow_add]; congr 1; omega
    rw [Int.toNat_natCast]
    have e3 : runAt n xs a n = runAt n xs a (k + 1 + m) := by rw [← hm]
    rw [e3, ht, e2, Int.mul_sub]; omega
  have hp : (0 : Int) < 2 ^ m := Int.pow_pos (by omega)
  have hd : runE n xs a / 2 ^ m = runAt n xs a (k + 1) - 2 ^ (k + 1) := by
    rw [hE, Int.add_comm, Int.add_mul_ediv_left _ _ (by omega), Int.ediv_eq_zero_of_lt t0 t1]; omega
  have e4 : ((n : Int) - 1 - k).toNat = m := by omega
  have hdg : dig n (runE n xs a) k = runE n xs a / 2 ^ m % 2 := by unfold dig; rw [e4]
  rw [hdg, hd]
  show (2 * runAt n xs a k + goes xs (runAt n xs a k) (dig n a k) - 2 ^ (k + 1)) % 2 = _
  rw [Int.pow_succ]
  generalize goes xs (runAt n xs a k) (dig n a k) = g at hg
  omega
theorem goes_goes (xs : List (Int × Int)) (v dg : Int) : goes xs v (goes xs v dg) = goes xs v dg := by
  unfold goes
  split <;> rfl
/-- A run through what a run has met leads there again. -/
theorem run_again {n : Nat} {xs : List (Int × Int)} (h : okStuck n xs = true) (a : Int) : runE n xs (runE n xs a) = runE n xs a := by
  have : ∀ k, k ≤ n → runAt n xs (runE n xs a) k = runAt n xs a k := by
    intro k
    induction k with
    | zero => intro _; rfl
    | succ k ih =>
      intro hk
      show 2 * runAt n xs (runE n xs a) k + goes xs (runAt n xs (runE n xs a) k) (dig n (runE n xs a) k) = 2 * runAt n xs a k + goes xs (runAt n xs a k) (dig n a k)
      rw [ih (by omega), rp_dig h a k (by omega), goes_goes]
  unfold runE
  rw [Int.toNat_natCast]
  exact congrArg (fun z => z - ex n) (this n (Nat.le_refl _))
/-- Without stuck switches the run is the way. -/
theorem run_nil (n a : Int) (k : Nat) : runAt n [] a k = wayAt n a k := by
  induction k with
  | zero => rfl
  | succ k ih =>
    show 2 * runAt n [] a k + goes [] (runAt n [] a k) (dig n a k) = 2 * wayAt n a k + dig n a k
    rw [ih]; rfl
theorem way_end {n a : Nat} (hn : 1 ≤ n ∧ n ≤ 4) (ha : a < 2 ^ n) : wayAt n a n - ex n = a := by
  obtain ⟨h1, h2⟩ := hn
  have h4 := pow4 h2
  have : ∀ n : Fin 5, ∀ a : Fin 16, 1 ≤ n.val → a.val < 2 ^ n.val → wayAt (n.val : Int) (a.val : Int) n.val - ex (n.val : Int) = (a.val : Int) := by decide +kernel
  exact this ⟨n, by omega⟩ ⟨a, by omega⟩ h1 ha
theorem run_free {n a : Nat} (hn : 1 ≤ n ∧ n ≤ 4) (ha : a < 2 ^ n) : runE n [] a = a := by
  unfold runE
  rw [Int.toNat_natCast, run_nil]
  exact way_end hn ha

/-! ### what is lost -/
theorem met_iff (n : Nat) (xs : List (Int × Int)) (h : okStuck n xs = true) (k e : Nat) (he : e < 2 ^ n) : (metL n xs k).getD e false = true ↔ ∃ a : Nat, a < k ∧ runE n xs a = e := by
  induction k with
  | zero => simp [metL, List.getD, he]
  | succ k ih =>
    have hb := runE_bound h (k : Int)
    rw [metL_succ]
    by_cases e1 : runE n xs k = e
    · have e2 : (runE n xs k).toNat = e := by omega
      rw [e2]
      constructor
      · intro _; exact ⟨k, by omega, e1⟩
      · intro _
        simp [List.getD, metL_length, he]
    · have e2 : (runE n xs k).toNat ≠ e := by omega
      have e3 : ((metL n xs k).set (runE n xs k).toNat true).getD e false = (metL n xs k).getD e false := by simp [List.getD, List.getElem?_set, e2]
      rw [e3, ih]
      constructor
      · rintro ⟨a, h1, h2⟩; exact ⟨a, by omega, h2⟩
      · rintro ⟨a, h1, h2⟩
        refine ⟨a, ?_, h2⟩
        by_cases e4 : a = k
        · subst e4; exact absurd h2 e1
        · omega
def lostL (n : Nat) (xs : List (Int × Int)) : List Int := lostTo (metL n xs (2 ^ n)) (2 ^ n)
theorem lost_mem {n : Nat} {xs : List (Int × Int)} (h : okStuck n xs = true) (x : Int) : x ∈ lostL n xs ↔ ∃ e : Nat, x = e ∧ e < 2 ^ n ∧ ¬ ∃ a : Nat, a < 2 ^ n ∧ runE n xs a = e := by
  unfold lostL lostTo
  rw [List.mem_map]
  constructor
  · rintro ⟨e, he, rfl⟩
    obtain ⟨h1, h2⟩ := List.mem_filter.1 he
    have h3 := List.mem_range.1 h1
    refine ⟨e, rfl, h3, fun h4 => ?_⟩
    rw [(met_iff n xs h (2 ^ n) e h3).2 h4] at h2
    cases h2
  · rintro ⟨e, rfl, he, hn⟩
    refine ⟨e, List.mem_filter.2 ⟨List.mem_range.2 he, ?_⟩, rfl⟩
    cases hq : (metL n xs (2 ^ n)).getD e false with
    | false => rfl
    | true => exact absurd ((met_iff n xs h (2 ^ n) e he).1 hq) hn
theorem lost_not {n : Nat} {xs : List (Int × Int)} (h : okStuck n xs = true) {a : Nat} (ha : a < 2 ^ n) : runE n xs a ∉ lostL n xs := fun hm => by
  obtain ⟨e, h1, _, h2⟩ := (lost_mem h _).1 hm
  exact h2 ⟨a, ha, h1⟩
theorem lost_sorted (n : Nat) (xs : List (Int × Int)) : (lostL n xs).Pairwise (· < ·) := by
  unfold lostL lostTo
  rw [List.pairwise_map]
  refine List.Pairwise.filter _ ?_
  exact (List.pairwise_lt_range (n := 2 ^ n)).imp (fun h => by omega)
theorem lost_none {n : Nat} (hd : inB 1 4 (n : Int) = true) : lostL n [] = [] := by
  have hn : 1 ≤ n ∧ n ≤ 4 := by simp [inB] at hd; omega
  have hok : okStuck n [] = true := okStuck_yes (fun j hj => by simp at hj) hd
  rw [List.eq_nil_iff_forall_not_mem]
  intro x hx
  obtain ⟨e, rfl, he, hno⟩ := (lost_mem hok x).1 hx
  exact hno ⟨e, he, run_free hn he⟩
/-- To each side of each switch there is an exit. -/
theorem way_there {n v : Nat} {s : Int} (hn : 1 ≤ n ∧ n ≤ 4) (hv : 1 ≤ v ∧ v < 2 ^ n) (hs : s = 0 ∨ s = 1) : ∃ a k : Nat, a < 2 ^ n ∧ k < n ∧ wayAt n a k = v ∧ dig n a k = s := by
  obtain ⟨h1, h2⟩ := hn
  have h4 := pow4 h2
  have key : ∀ n : Fin 5, ∀ v : Fin 16, 1 ≤ n.val → 1 ≤ v.val → v.val < 2 ^ n.val → ∀ s : Fin 2, ∃ a : Fin 16, ∃ k : Fin 4, a.val < 2 ^ n.val ∧ k.val < n.val ∧ wayAt (n.val : Int) (a.val : Int) k.val = (v.val : Int) ∧ dig (n.val : Int) (a.val : Int) (k.val : Int) = (s.val : Int) := by decide +kernel
  obtain ⟨s', hs'⟩ : ∃ s' : Fin 2, s = (s'.val : Int) := by
    rcases hs with rfl | rfl
    · exact ⟨0, rfl⟩
    · exact ⟨1, rfl⟩
  obtain ⟨a, k, q1, q2, q3, q4⟩ := key ⟨n, by omega⟩ ⟨v, by omega⟩ h1 hv.1 hv.2 s'
  exact ⟨a.val, k.val, q1, q2, q3, by rw [hs']; exact q4⟩
theorem lost_some {n : Nat} {xs : List (Int × Int)} (h : okStuck n xs = true) (hx : xs ≠ []) : lostL n xs ≠ [] := by
  intro hnil
  have hd := okStuck_depth h
  have hn : 1 ≤ n ∧ n ≤ 4 := by simp [inB] at hd; omega
  have hE : ex (n : Int) = ((2 ^ n : Nat) : Int) := by simp [ex]
  -- each exit runs to itself
  have hid : ∀ e : Nat, e < 2 ^ n → runE n xs e = e := by
    intro e he
    by_cases hm : ∃ a : Nat, a < 2 ^ n ∧ runE n xs a = e
    · obtain ⟨a, _, h2⟩ := hm
      have := run_again h (a : Int)
      rw [h2] at this
      exact this
    · have : (e : Int) ∈ lostL n xs := (lost_mem h _).2 ⟨e, rfl, he, hm⟩
      rw [hnil] at this
      cases this
  have hp : 0 < xs.length := List.length_pos_iff.2 hx
  have hok := okStuck_at h hp
  simp only [okS, Bool.and_eq_true] at hok
  have hsw := hok.1.1
  simp only [inB, Bool.and_eq_true, decide_eq_true_eq, hE] at hsw
  have hsd := okStuck_side h hp
  have hF : sideF xs (xs.getD 0 (0, 0)).1 = (xs.getD 0 (0, 0)).2 := sideF_hit hp rfl (fun j hj => absurd hj (Nat.not_lt_zero _))
  generalize xs.getD 0 (0, 0) = p at hsw hsd hF
  obtain ⟨v, sd⟩ := p
  simp only at hsw hsd hF
  obtain ⟨V, rfl⟩ : ∃ V : Nat, v = V := ⟨v.toNat, by omega⟩
  obtain ⟨a, k, ha, hk, hw, hg⟩ := way_there (v := V) (s := 1 - sd) hn ⟨by omega, by omega⟩ (by omega)
  have hrun : ∀ j, j ≤ n → runAt n xs a j = wayAt n a j := by
    intro j
    induction j with
    | zero => intro _; rfl
    | succ j ih =>
      intro hj
      have hdg := rp_dig h (a : Int) j (by omega)
      rw [hid a ha] at hdg
      show 2 * runAt n xs a j + goes xs (runAt n xs a j) (dig n a j) = 2 * wayAt n a j + dig n a j
      rw [← hdg, ih (by omega)]
  have hdg := rp_dig h (a : Int) k hk
  rw [hid a ha, hrun k (by omega), hw, hg] at hdg
  unfold goes at hdg
  rw [hF, if_neg (by omega)] at hdg
  omega

end Go.Proofs.YthlpbeohlhhblaaGreat
namespace Go.Proofs.YthlpbeohlhhblaaGreat
open Go.RowKit

/-- Function g, with the captured values lb, is the predicate p in every world in which all that lay in w lies unturned. -/
def PredTrial (g : Nat) (lb : Array Value) (p : Int × Int → Bool) (w : World) (xs : List (Int × Int)) : Prop :=
  ∀ (W : World) (x y : Int), Below w.heap.size w W → (x, y) ∈ xs → Good x → Good y → Calls Tryz.prog g (#[.agg #[.int .i64 x, .int .i64 y]] ++ lb) W fun e w' => e = .returned (.bool (p (x, y))) ∧ Below w.heap.size w w'

/-- The first place of a list at which p holds; -1 if there is none. -/
def idxTrial (p : Int × Int → Bool) (xs : List (Int × Int)) : Int := match xs.findIdx? p with | some i => (i : Int) | none => -1

theorem idxTrial_hit (p : Int × Int → Bool) (xs : List (Int × Int)) (k : Nat) (hk : k < xs.length) (hp : p (xs.getD k (0, 0)) = true) (hn : ∀ j, j < k → p (xs.getD j (0, 0)) = false) : idxTrial p xs = k := by
  have : xs.findIdx? p = some k := by
    rw [List.findIdx?_eq_some_iff_getElem]
    refine ⟨hk, by simpa [List.getD, hk] using hp, fun j hj => ?_⟩
    have := hn j hj
    simpa [List.getD, Nat.lt_trans hj hk] using this
  simp [idxTrial, this]

theorem idxTrial_miss (p : Int × Int → Bool) (xs : List (Int × Int)) (hn : ∀ j, j < xs.length → p (xs.getD j (0, 0)) = false) : idxTrial p xs = -1 := by
  have : xs.findIdx? p = none := by
    rw [List.findIdx?_eq_none_iff]
    intro x hx
    obtain ⟨j, hj, rfl⟩ := List.getElem_of_mem hx
    have := hn j hj
    simpa only [List.getD, List.getElem?_eq_getElem hj, Option.getD_some] using this
  simp [idxTrial, this]

theorem idxTrial_any (p : Int × Int → Bool) (xs : List (Int × Int)) : decide (0 ≤ idxTrial p xs) = xs.any p := by
  unfold idxTrial
  cases h : xs.findIdx? p with
  | none =>
    rw [List.findIdx?_eq_none_iff] at h
    have : xs.any p = false := by rw [List.any_eq_false]; intro x hx; simp [h x hx]
    simp [this]
  | some i =>
    rw [List.findIdx?_eq_some_iff_getElem] at h
    obtain ⟨hi, hp, _⟩ := h
    have : xs.any p = true := by rw [List.any_eq_true]; exact ⟨_, List.getElem_mem hi, hp⟩
    simp [this]

theorem indexTrial_any (g : Nat) (lb : Array Value) (p : Int × Int → Bool) (v : Value) (xs : List (Int × Int)) (w : World) (eg : ∀ args w, (callFunc g args).run Tryz.prog w = .ok (.enter g args) w) (hp : PredTrial g lb p w xs) (hv : SI P2 w v xs) :
    Calls Tryz.prog 86 #[v, .func (.func g) #[] lb] w fun e w' => e = .returned (.int .i64 (idxTrial p xs)) ∧ Below w.heap.size w w' := by
  obtain ⟨a, cap, rfl⟩ := hv.shape
  have hl := hv.len
  have HV := Lib.hid hv
  have HP := Lib.hid hp
  clear hv hp
  go_enter Tryz.func86, Tryz.ntmps86
  go_wp2
  go_loopw [5, 8] (fun _ i wr => ∃ k : Nat, k ≤ xs.length ∧ i = .int .i64 k ∧ Below w.heap.size w wr ∧ ∀ j, j < k → p (xs.getD j (0, 0)) = false) (fun _ i _ => xs.length - (intOf i).toNat)
  case atStart => exact ⟨0, Nat.zero_le _, rfl, Below.refl _ _, fun j hj => absurd hj (Nat.not_lt_zero _)⟩
  case round =>
    obtain ⟨k, hk, rfl, hb, hno⟩ := hrel
    have HNO := Lib.hid hno
    clear hno
    by_cases hlt : k < xs.length
    · obtain ⟨b, off, rfl, hbl, hc⟩ := HV.out.cells2 (by omega)
      have g1 := (hb.cell (p := ⟨b, off + k * 2, none⟩) hbl).trans (hc k hlt).1
      have g2 := (hb.cell (p := ⟨b, off + k * 2 + 1, none⟩) hbl).trans (hc k hlt).2
      have hmem : ((xs.getD k (0, 0)).1, (xs.getD k (0, 0)).2) ∈ xs := by simp only [List.getD, List.getElem?_eq_getElem hlt, Option.getD_some]; exact List.getElem_mem hlt
      have HC := HP.out wr _ _ hb hmem (HV.out.good2 k hlt).1 (HV.out.good2 k hlt).2
      clear hmem
      clear hc
      generalize hy : xs.getD k (0, 0) = y at g1 g2 HC
      have HY := Lib.hid hy
      clear hy
      obtain ⟨y, z⟩ := y
      simp only at g1 g2 HC
      cases hq : p (y, z) with
      | true =>
        rw [hq] at HC
        have HC' := Lib.hid HC
        have HQ := Lib.hid hq
        clear HC hq
        go_wp2_with (go_at_fn g; refine HC'.out.mono ?_; rintro e w' ⟨rfl, hb'⟩)
        go_ret
        exact ⟨ret_int (idxTrial_hit p xs k hlt (by rw [HY.out]; exact HQ.out) HNO.out).symm, hb'⟩
      | false =>
        rw [hq] at HC
        have HC' := Lib.hid HC
        have HQ := Lib.hid hq
        clear HC hq
        go_wp2_with (go_at_fn g; refine HC'.out.mono ?_; rintro e w' ⟨rfl, hb'⟩)
        go_roundw
        case rel =>
          refine ⟨k + 1, by omega, by go_num, hb', fun j hj => ?_⟩
          by_cases e : j = k
          · subst e; rw [HY.out]; exact HQ.out
          · exact HNO.out j (by omega)
        case measure => simp [intOf]; omega
    · go_wp2
      go_ret
      exact ⟨ret_int (idxTrial_miss p xs (fun j hj => HNO.out j (by omega))).symm, hb⟩

theorem containsTrial_any (g : Nat) (lb : Array Value) (p : Int × Int → Bool) (v : Value) (xs : List (Int × Int)) (w : World) (eg : ∀ args w, (callFunc g args).run Tryz.prog w = .ok (.enter g args) w) (hp : PredTrial g lb p w xs) (hv : SI P2 w v xs) :
    Calls Tryz.prog 51 #[v, .func (.func g) #[] lb] w fun e w' => e = .returned (.bool (xs.any p)) ∧ Below w.heap.size w w' := by
  have HA := Lib.hid (idxTrial_any p xs)
  have HV := Lib.hid hv
  have HP := Lib.hid hp
  clear hv hp
  go_enter Tryz.func51, Tryz.ntmps51
  go_wp2_with (go_at_call 86; refine (indexTrial_any g lb p v xs _ eg HP.out HV.out).mono ?_; rintro e w' ⟨rfl, hb'⟩)
  go_ret
  exact ⟨ret_bool HA.out, hb'⟩

end Go.Proofs.YthlpbeohlhhblaaGreat
namespace Go.Proofs.YthlpbeohlhhblaaGreat
open Go.RowKit

def okTrial (d : Int) (t : Int × Int) : Bool := inB 0 (ex d - 1) t.1 && inB 0 (ex d - 1) t.2
def okTrials (d : Int) (xs : List (Int × Int)) : Bool := inB 1 4 d && xs.all (okTrial d) && decide (xs.length ≤ 16)

theorem validTrials_enters : ∀ args w, (callFunc 84 args).run Tryz.prog w = .ok (.enter 84 args) w := enters_of Tryz.func84 (by kernel_rfl) rfl

theorem validTrials1_any (d x y : Int) (b1 : Nat) (w : World) (h : w.cell? ⟨b1, 0, none⟩ = some (.int .i64 d)) (hb1 : b1 < w.heap.size) (hd : inB 1 4 d = true) :
    Calls Tryz.prog 84 #[.agg #[.int .i64 x, .int .i64 y], .pointer (some ⟨b1, 0, none⟩)] w fun e w' => e = .returned (.bool (!okTrial d (x, y))) ∧ Below w.heap.size w w' := by
  have HD := Lib.hid hd
  clear hd
  have hb : ∀ o : Obj, Below w.heap.size w (w.alloc o) := fun o => (Below.refl _ _).alloc (Nat.le_refl _) _
  cases h1 : inB 0 (ex d - 1) x with
  | false =>
    go_enter Tryz.func84, Tryz.ntmps84
    go_wp2_with (go_at_call 85; refine (isExit_any _ _ _ HD.out).mono ?_; rintro e w' ⟨rfl, rfl⟩; rw [h1])
    go_ret
    exact ⟨ret_bool (by simp [okTrial, h1]), hb _⟩
  | true =>
    go_enter Tryz.func84, Tryz.ntmps84
    go_wp2_with (go_at_call 85; refine (isExit_any _ _ _ HD.out).mono ?_; rintro e w' ⟨rfl, rfl⟩; try rw [h1])
    go_ret
    exact ⟨ret_bool (by simp [okTrial, h1]), hb _⟩

theorem okTrials_eq (d : Int) (xs : List (Int × Int)) : (decide (xs.length ≤ 16) && !(xs.any fun t => !okTrial d t)) = (xs.all (okTrial d) && decide (xs.length ≤ 16)) := by
  rw [Bool.and_comm]
  congr 1
  induction xs with
  | nil => rfl
  | cons x xs ih => simp [List.all_cons, List.any_cons, ← ih]

theorem implValidTrials_any (d : Int) (v : Value) (xs : List (Int × Int)) (w : World) (hv : SI P2 w v xs) :
    Calls Tryz.prog 50 #[.int .i64 d, v] w fun e w' => e = .returned (.bool (okTrials d xs)) ∧ Below w.heap.size w w' := by
  obtain ⟨a, cap, rfl⟩ := hv.shape
  have hl := hv.len
  have HV := Lib.hid hv
  have HE := Lib.hid (okTrials_eq d xs)
  clear hv
  have hmf : ∀ (fn : Fn) (first cap : Array Value) (w : World), (Instr.makeFunc fn first cap).run Tryz.prog w = .ok (.func fn first cap) w := fun _ _ _ _ => rfl
  have hb : ∀ o : Obj, Below w.heap.size w (w.alloc o) := fun o => (Below.refl _ _).alloc (Nat.le_refl _) _
  cases hd : inB 1 4 d with
  | false =>
    go_enter Tryz.func50, Tryz.ntmps50
    go_wp2_with (go_at_call 78; refine (isDepth_any _ _).mono ?_; rintro e w' ⟨rfl, rfl⟩; rw [hd])
    go_ret
    exact ⟨ret_bool (by simp [okTrials, hd]), hb _⟩
  | true =>
    have HD := Lib.hid hd
    by_cases h16 : xs.length ≤ 16
    · go_enter Tryz.func50, Tryz.ntmps50
      go_wp2_with (go_at_call 78; refine (isDepth_any _ _).mono ?_; rintro e w' ⟨rfl, rfl⟩; rw [hd])
      have B1 := hb (.cells #[.int .i64 d] 2)
      refine (containsTrial_any 84 _ (fun t => !okTrial d t) _ xs _ validTrials_enters ?_ (HV.out.below B1)).mono ?_
      · intro W x y hW _ _ _
        refine (validTrials1_any d x y _ W ?_ ?_ HD.out).mono fun e w' ⟨he, hb'⟩ => ⟨he, bthen hW hb'⟩
        · refine (hW.cell (p := ⟨w.heap.size, 0, none⟩) (by simp)).trans ?_
          rw [World.cell?_alloc_at _ _ _ _ rfl]; rfl
        · exact Nat.lt_of_lt_of_le (by simp) hW.size
      · rintro e w' ⟨rfl, hb'⟩
        go_wp2
        go_ret
        refine ⟨ret_bool ?_, bthen B1 hb'⟩
        have := HE.out
        simp [h16] at this
        simp [okTrials, HD.out, h16, ← this]
    · have hd2 : decide ((xs.length : Int) ≤ 16) = false := by simp; omega
      go_enter Tryz.func50, Tryz.ntmps50
      go_wp2_with (go_at_call 78; refine (isDepth_any _ _).mono ?_; rintro e w' ⟨rfl, rfl⟩; rw [hd])
      go_ret
      exact ⟨ret_bool (by simp [okTrials, h16]), hb _⟩

end Go.Proofs.YthlpbeohlhhblaaGreat
namespace Go.Proofs.YthlpbeohlhhblaaGreat
open Go.RowKit

/-- Of one switch: did it lead to side 0, to side 1, wrongly to 0, wrongly to 1? -/
abbrev B4 := Bool × Bool × Bool × Bool
def z4 : B4 := (false, false, false, false)
def hit (s : B4) (one wr : Bool) : B4 := if one then (s.1, true, s.2.2.1, s.2.2.2 || wr) else (true, s.2.1, s.2.2.1 || wr, s.2.2.2)
/-- One step of one trial's way. -/
def stepS (d : Int) (t : Int × Int) (st : List B4) (k : Nat) : List B4 :=
  st.set (wayAt d t.2 k).toNat (hit (st.getD (wayAt d t.2 k).toNat z4) (dig d t.2 k == 1) (dig d t.1 k != dig d t.2 k))
def trialTo (d : Int) (t : Int × Int) (st : List B4) (k : Nat) : List B4 := (List.range k).foldl (stepS d t) st
def seenTo (d : Int) (ts : List (Int × Int)) : List B4 := ts.foldl (fun st t => trialTo d t st d.toNat) (List.replicate (2 ^ d.toNat) z4)

def clash4 (s : B4) : Bool := (s.2.2.1 || s.2.2.2) && s.1 && s.2.1
def sides4 (s : B4) : Int := (if s.1 then 1 else 0) + (if s.2.1 then 2 else 0)
def wrong4 (s : B4) : Bool := s.2.2.1 || s.2.2.2
def good4 (s : B4) : Prop := (s.2.2.1 = true → s.1 = true) ∧ (s.2.2.2 = true → s.2.1 = true)
/-- Does nothing explain these trials? -/
def clashes (d : Int) (ts : List (Int × Int)) : Bool := (seenTo d ts).any clash4

theorem trialTo_succ (d : Int) (t : Int × Int) (st : List B4) (k : Nat) : trialTo d t st (k + 1) = stepS d t (trialTo d t st k) k := by simp [trialTo, List.range_succ]
theorem seenTo_snoc (d : Int) (ts : List (Int × Int)) (t : Int × Int) : seenTo d (ts ++ [t]) = trialTo d t (seenTo d ts) d.toNat := by simp [seenTo]
theorem trialTo_length (d : Int) (t : Int × Int) (st : List B4) (k : Nat) : (trialTo d t st k).length = st.length := by
  induction k with
  | zero => rfl
  | succ k ih => rw [trialTo_succ, stepS, List.length_set, ih]

theorem good_hit (s : B4) (one wr : Bool) (h : good4 s) : good4 (hit s one wr) := by
  obtain ⟨a, b, c, e⟩ := s
  cases one <;> cases wr <;> cases a <;> cases b <;> cases c <;> cases e <;> simp_all [good4, hit]

/-- What holds of a list of such: its length, that wrong sides were led to, and that there is no switch 0. -/
def fit4 (n : Nat) (st : List B4) : Prop := st.length = n ∧ (∀ i, good4 (st.getD i z4)) ∧ st.getD 0 z4 = z4

theorem fit4_set {n : Nat} {st : List B4} (h : fit4 n st) (v : Nat) (hv : 1 ≤ v) (one wr : Bool) : fit4 n (st.set v (hit (st.getD v z4) one wr)) := by
  obtain ⟨h1, h2, h3⟩ := h
  refine ⟨by rw [List.length_set]; exact h1, fun i => ?_, ?_⟩
  · by_cases hi : v = i
    · subst hi
      by_cases hl : v < st.length
      · have : (st.set v (hit (st.getD v z4) one wr)).getD v z4 = hit (st.getD v z4) one wr := by simp [List.getD, hl]
        rw [this]; exact good_hit _ _ _ (h2 v)
      · have : st.set v (hit (st.getD v z4) one wr) = st := List.set_eq_of_length_le (by omega)
        rw [this]; exact h2 v
    · have : (st.set v (hit (st.getD v z4) one wr)).getD i z4 = st.getD i z4 := by simp [List.getD, List.getElem?_set, hi]
      rw [this]; exact h2 i
  · have : (st.set v (hit (st.getD v z4) one wr)).getD 0 z4 = st.getD 0 z4 := by simp [List.getD, List.getElem?_set, show ¬ v = 0 by omega]
    rw [this]; exact h3

theorem fit4_trial {d : Int} {n : Nat} {t : Int × Int} {st : List B4} (h : fit4 n st) (k : Nat) (hk : k ≤ 4) : fit4 n (trialTo d t st k) := by
  induction k with
  | zero => exact h
  | succ k ih =>
    rw [trialTo_succ]
    have := wayAt_bound d t.2 k (by omega)
    exact fit4_set (ih (by omega)) _ (by omega) _ _

theorem fit4_seen {d : Int} (hd : inB 1 4 d = true) (ts : List (Int × Int)) : fit4 (2 ^ d.toNat) (seenTo d ts) := by
  have h4 : d.toNat ≤ 4 := by simp [inB] at hd; omega
  have h0 : fit4 (2 ^ d.toNat) (List.replicate (2 ^ d.toNat) z4) := by
    refine ⟨by simp, fun i => ?_, ?_⟩
    · have : (List.replicate (2 ^ d.toNat) z4).getD i z4 = z4 := by simp [List.getD, List.getElem?_replicate]; split <;> rfl
      rw [this]; simp [good4, z4]
    · simp [List.getD, List.getElem?_replicate]; split <;> rfl
  unfold seenTo
  generalize List.replicate (2 ^ d.toNat) z4 = st at h0
  induction ts generalizing st with
  | nil => exact h0
  | cons t ts ih => exact ih _ (fit4_trial h0 _ h4)

/-! ### how the reference keeps it -/
theorem sides4_bound (s : B4) : 0 ≤ sides4 s ∧ sides4 s ≤ 3 := by
  obtain ⟨a, b, c, e⟩ := s
  cases a <;> cases b <;> simp [sides4]
theorem sides_hit (s : B4) (g : Int) (hg : 0 ≤ g ∧ g ≤ 1) (b : Bool) : bits BinOp.or IntKind.i64 (sides4 s) (g + 1) = sides4 (hit s (g == 1) b) := by
  obtain ⟨x, y, c, e⟩ := s
  rcases (by omega : g = 0 ∨ g = 1) with rfl | rfl <;> (clear hg; revert x y c e b; decide +kernel)
theorem wrong_hit (s : B4) (one b : Bool) : wrong4 (hit s one b) = (wrong4 s || b) := by
  obtain ⟨x, y, c, e⟩ := s
  cases one <;> cases b <;> cases c <;> cases e <;> rfl
theorem clash_spec {s : B4} (h : good4 s) : clash4 s = (wrong4 s && decide (sides4 s = 3)) := by
  obtain ⟨x, y, c, e⟩ := s
  cases x <;> cases y <;> cases c <;> cases e <;> simp_all [good4, clash4, wrong4, sides4]

end Go.Proofs.YthlpbeohlhhblaaGreat
namespace Go.Proofs.YthlpbeohlhhblaaGreat
open Go.RowKit

def f4 (s : B4) : List Bool := [s.1, s.2.1, s.2.2.1, s.2.2.2]
def flat4 (st : List B4) : List Bool := st.flatMap f4
theorem flat4_cons (s : B4) (st : List B4) : flat4 (s :: st) = s.1 :: s.2.1 :: s.2.2.1 :: s.2.2.2 :: flat4 st := by simp [flat4, f4]
theorem flat4_length (st : List B4) : (flat4 st).length = st.length * 4 := by
  induction st with
  | nil => rfl
  | cons s st ih => rw [flat4_cons]; simp only [List.length_cons, ih]; omega
theorem flat4_get (st : List B4) (i : Nat) (hi : i < st.length) : (flat4 st)[i * 4]? = some (st.getD i z4).1 ∧ (flat4 st)[i * 4 + 1]? = some (st.getD i z4).2.1 ∧ (flat4 st)[i * 4 + 2]? = some (st.getD i z4).2.2.1 ∧ (flat4 st)[i * 4 + 3]? = some (st.getD i z4).2.2.2 := by
  induction st generalizing i with
  | nil => simp at hi
  | cons s st ih =>
    rw [flat4_cons]
    cases i with
    | zero => exact ⟨rfl, rfl, rfl, rfl⟩
    | succ i =>
      have := ih i (by simpa using hi)
      rw [show (i + 1) * 4 = i * 4 + 1 + 1 + 1 + 1 by omega]
      simpa using this

/-- The side is marked as led to. -/
def led (s : B4) (one : Bool) : B4 := if one then (s.1, true, s.2.2.1, s.2.2.2) else (true, s.2.1, s.2.2.1, s.2.2.2)
/-- The side is marked as wrongly led to. -/
def aga (s : B4) (one : Bool) : B4 := if one then (s.1, s.2.1, s.2.2.1, true) else (s.1, s.2.1, true, s.2.2.2)
theorem hit_led (s : B4) (one : Bool) : hit s one false = led s one := by obtain ⟨a, b, c, e⟩ := s; cases one <;> simp [hit, led]
theorem hit_aga (s : B4) (one : Bool) : hit s one true = aga (led s one) one := by obtain ⟨a, b, c, e⟩ := s; cases one <;> simp [hit, led, aga]

theorem flat4_led (st : List B4) (i : Nat) (hi : i < st.length) (one : Bool) : flat4 (st.set i (led (st.getD i z4) one)) = (flat4 st).set (i * 4 + (if one then 1 else 0)) true := by
  induction st generalizing i with
  | nil => simp at hi
  | cons s st ih =>
    cases i with
    | zero => cases one <;> simp [flat4_cons, led]
    | succ i =>
      have := ih i (by simpa using hi)
      rw [List.set_cons_succ, flat4_cons, flat4_cons, List.getD_cons_succ, this, show (i + 1) * 4 + (if one then 1 else 0) = i * 4 + (if one then 1 else 0) + 1 + 1 + 1 + 1 by omega]
      simp
theorem flat4_aga (st : List B4) (i : Nat) (hi : i < st.length) (one : Bool) : flat4 (st.set i (aga (st.getD i z4) one)) = (flat4 st).set (i * 4 + 2 + (if one then 1 else 0)) true := by
  induction st generalizing i with
  | nil => simp at hi
  | cons s st ih =>
    cases i with
    | zero => cases one <;> simp [flat4_cons, aga]
    | succ i =>
      have := ih i (by simpa using hi)
      rw [List.set_cons_succ, flat4_cons, flat4_cons, List.getD_cons_succ, this, show (i + 1) * 4 + 2 + (if one then 1 else 0) = i * 4 + 2 + (if one then 1 else 0) + 1 + 1 + 1 + 1 by omega]
      simp

/-- v, in memory from block base on, holds the records st; e is the element type's number. -/
def O4 (e : TypeId) (w : World) (base : Nat) (v : Value) (st : List B4) : Prop := w.ownsRow base e 4 v st.length ((flat4 st).map Value.bool)

theorem O4.made {e : TypeId} {w : World} {base n : Nat} {v : Value} (h : w.ownsRow base e 4 v n (madeCells (Value.agg #[.bool false, .bool false, .bool false, .bool false]).cells (n * 4)).toList) : O4 e w base v (List.replicate n z4) := by
  have e1 : ∀ n, flat4 (List.replicate n z4) = List.replicate (n * 4) false := by
    intro n
    induction n with
    | zero => rfl
    | succ n ih => rw [List.replicate_succ, flat4_cons, ih, show (n + 1) * 4 = n * 4 + 1 + 1 + 1 + 1 by omega]; rfl
  have e2 : (madeCells (Value.agg #[.bool false, .bool false, .bool false, .bool false]).cells (n * 4)).toList = (List.replicate (n * 4) false).map Value.bool := by
    apply List.ext_getElem?
    intro k
    simp only [madeCells, Value.cells, List.map_replicate]
    by_cases hk : k < n * 4
    · rw [List.getElem?_replicate, if_pos hk]
      simp [hk]
      rcases (by omega : k % 4 = 0 ∨ k % 4 = 1 ∨ k % 4 = 2 ∨ k % 4 = 3) with h | h | h | h <;> simp [h]
    · rw [List.getElem?_replicate, if_neg hk]
      simp; omega
  unfold O4
  rw [e1, List.length_replicate, ← e2]; exact h

theorem O4.below {e : TypeId} {w w' : World} {base : Nat} {v : Value} {st : List B4} (h : O4 e w base v st) (hb : Below w.heap.size w w') : O4 e w' base v st := by
  refine ⟨h.1, ?_⟩
  rcases h.2 with h1 | ⟨g, cap, cur, rfl, hbg, hg, r⟩
  · exact .inl h1
  · exact .inr ⟨g, cap, cur, rfl, hbg, by rw [hb.block g (Array.getElem?_eq_some_iff.1 hg).1]; exact hg, r⟩
theorem O4.grown {e : TypeId} {w w' : World} {base : Nat} {v : Value} {st : List B4} {row : Option Nat} (h : O4 e w base v st) (hg : w.grownBy w' row) (hne : v.ownBlock = none ∨ v.ownBlock ≠ row) : O4 e w' base v st := World.ownsRow.kept h hg hne

section
variable {e : TypeId} {w : World} {base g n cap : Nat} {st : List B4}
theorem O4.len (h : O4 e w base (.slice (some ⟨g, 0, none⟩) n cap) st) : n = st.length := by
  rcases h.2 with ⟨h1, _⟩ | ⟨g', cap', cur, h1, _⟩
  · simp at h1
  · simp only [Value.slice.injEq] at h1; exact h1.2.1
theorem O4.size (h : O4 e w base (.slice (some ⟨g, 0, none⟩) n cap) st) : base ≤ g ∧ g < w.heap.size := by
  rcases h.2 with ⟨h1, _⟩ | ⟨g', cap', cur, h1, hb, hg, _⟩
  · simp at h1
  · simp only [Value.slice.injEq, Option.some.injEq, Addr.mk.injEq] at h1
    rw [h1.1.1]; exact ⟨hb, (Array.getElem?_eq_some_iff.1 hg).1⟩
theorem O4.cell (h : O4 e w base (.slice (some ⟨g, 0, none⟩) n cap) st) (i : Nat) (hi : i < st.length) :
    (w.cell? ⟨g, i * 4, none⟩ = some (.bool (st.getD i z4).1) ∧ w.cell? ⟨g, i * 4 + 1, none⟩ = some (.bool (st.getD i z4).2.1) ∧ w.cell? ⟨g, i * 4 + 2, none⟩ = some (.bool (st.getD i z4).2.2.1) ∧ w.cell? ⟨g, i * 4 + 3, none⟩ = some (.bool (st.getD i z4).2.2.2)) ∧ ∀ j, w.frozen? ⟨g, j, none⟩ = false := by
  obtain rfl := h.len
  have h' : w.ownsRow base e 4 (.slice (some ⟨g, 0, none⟩) st.length cap) st.length ((flat4 st).map Value.bool) := h
  obtain ⟨a, b, c, d⟩ := flat4_get st i hi
  refine ⟨⟨?_, ?_, ?_, ?_⟩, fun j => h'.frozenAt j⟩
  · rw [h'.cellAt _ (by omega), List.getElem?_map, a]; rfl
  · rw [h'.cellAt _ (by omega), List.getElem?_map, b]; rfl
  · rw [h'.cellAt _ (by omega), List.getElem?_map, c]; rfl
  · rw [h'.cellAt _ (by omega), List.getElem?_map, d]; rfl
theorem O4.set (h : O4 e w base (.slice (some ⟨g, 0, none⟩) n cap) st) (k : Nat) (x : Bool) (st' : List B4) (hs : flat4 st' = (flat4 st).set k x) :
    O4 e (w.setCell ⟨g, k, none⟩ (.bool x)) base (.slice (some ⟨g, 0, none⟩) n cap) st' ∧ w.grownBy (w.setCell ⟨g, k, none⟩ (.bool x)) (some g) := by
  obtain rfl := h.len
  have h' : w.ownsRow base e 4 (.slice (some ⟨g, 0, none⟩) st.length cap) st.length ((flat4 st).map Value.bool) := h
  obtain ⟨a, b⟩ := h'.stored k (.bool x)
  have hl : st'.length = st.length := by
    have h3 := congrArg List.length hs
    rw [List.length_set, flat4_length, flat4_length] at h3
    omega
  refine ⟨?_, b⟩
  unfold O4
  rw [hs, List.map_set, hl]; exact a
theorem O4.led (h : O4 e w base (.slice (some ⟨g, 0, none⟩) n cap) st) (i : Nat) (hi : i < st.length) (one : Bool) :
    O4 e (w.setCell ⟨g, i * 4 + (if one then 1 else 0), none⟩ (.bool true)) base (.slice (some ⟨g, 0, none⟩) n cap) (st.set i (led (st.getD i z4) one)) ∧ w.grownBy (w.setCell ⟨g, i * 4 + (if one then 1 else 0), none⟩ (.bool true)) (some g) :=
  h.set _ _ _ (flat4_led st i hi one)
theorem O4.aga (h : O4 e w base (.slice (some ⟨g, 0, none⟩) n cap) st) (i : Nat) (hi : i < st.length) (one : Bool) :
    O4 e (w.setCell ⟨g, i * 4 + 2 + (if one then 1 else 0), none⟩ (.bool true)) base (.slice (some ⟨g, 0, none⟩) n cap) (st.set i (aga (st.getD i z4) one)) ∧ w.grownBy (w.setCell ⟨g, i * 4 + 2 + (if one then 1 else 0), none⟩ (.bool true)) (some g) :=
  h.set _ _ _ (flat4_aga st i hi one)
end

end Go.Proofs.YthlpbeohlhhblaaGreat
