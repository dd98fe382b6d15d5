/-
  The library's IndexFunc and ContainsFunc at lists of int64, for every predicate that leaves old memory as it was; and the test whether a list has a number out of a range.
  slices.Index, slices.Contains, slices.Clone at lists of int64; spec.l00Own.
  orders: it hands all orders to its function, one after another.
  Lists of records of three int64 fields: their cells, one by one. No program in sight.
  spansOf: the spans of a run.
  The record Loss in the program: what its type tells, and toLoss.
  append of a list of records to a list of the call's own; slices.Clone of a list of tests.
-/
import Derived.Test.YthlpbeohlhhblaaGreatTopC
import Derived.Test.YthlpbeohlhhblaaGreatTopB
import Derived.Test.YthlpbeohlhhblaaGreatProg
import Derived.Shelf.Abstract
import Derived.Laws.Cover3
import Derived.Deep.RegionHeld3
import Derived.Deep.RegionWith
import Derived.Deep.RegionLaw
namespace Go.Proofs.YthlpbeohlhhblaaGreat
open Go.RowKit

/-- Function g, with the captured values lb, is the predicate p in every world in which all that lay in w lies unturned. -/
def PredI (g : Nat) (lb : Array Value) (p : Int → Bool) (w : World) : Prop :=
  ∀ (W : World) (n : Int), Below w.heap.size w W → Good n → Calls Tryz.prog g (#[.int .i64 n] ++ lb) W fun e w' => e = .returned (.bool (p n)) ∧ Below w.heap.size w w'

/-- The first place of a list at which p holds; -1 if there is none. -/
def idxI (p : Int → Bool) (xs : List Int) : Int := match xs.findIdx? p with | some i => (i : Int) | none => -1

theorem idxI_hit (p : Int → Bool) (xs : List Int) (k : Nat) (hk : k < xs.length) (hp : p (xs.getD k 0) = true) (hn : ∀ j, j < k → p (xs.getD j 0) = false) : idxI p xs = k := by
  have : xs.findIdx? p = some k := by
    rw [List.findIdx?_eq_some_iff_getElem]
    refine ⟨hk, by simpa [List.getD, hk] using hp, fun j hj => ?_⟩
    have := hn j hj
    simpa [List.getD, Nat.lt_trans hj hk] using this
  simp [idxI, this]

theorem idxI_miss (p : Int → Bool) (xs : List Int) (hn : ∀ j, j < xs.length → p (xs.getD j 0) = false) : idxI p xs = -1 := by
  have : xs.findIdx? p = none := by
    rw [List.findIdx?_eq_none_iff]
    intro x hx
    obtain ⟨j, hj, rfl⟩ := List.getElem_of_mem hx
    simpa [List.getD, hj] using hn j hj
  simp [idxI, this]

theorem idxI_any (p : Int → Bool) (xs : List Int) : decide (0 ≤ idxI p xs) = xs.any p := by
  unfold idxI
  cases h : xs.findIdx? p with
  | none =>
    rw [List.findIdx?_eq_none_iff] at h
    have : xs.any p = false := by rw [List.any_eq_false]; intro x hx; simp [h x hx]
    simp [this]
  | some i =>
    rw [List.findIdx?_eq_some_iff_getElem] at h
    obtain ⟨hi, hp, _⟩ := h
    have : xs.any p = true := by rw [List.any_eq_true]; exact ⟨_, List.getElem_mem hi, hp⟩
    simp [this]

theorem indexFunc_any (g : Nat) (lb : Array Value) (p : Int → Bool) (v : Value) (xs : List Int) (w : World) (eg : ∀ args w, (callFunc g args).run Tryz.prog w = .ok (.enter g args) w) (hp : PredI g lb p w) (hv : RI w v xs) :
    Calls Tryz.prog 102 #[v, .func (.func g) #[] lb] w fun e w' => e = .returned (.int .i64 (idxI p xs)) ∧ Below w.heap.size w w' := by
  obtain ⟨a, cap, rfl⟩ := hv.shape
  have hl := hv.len
  have HV := Lib.hid hv
  have HP := Lib.hid hp
  clear hv hp
  go_enter Tryz.func102, Tryz.ntmps102
  go_wp2
  go_loopw [5, 8] (fun _ i wr => ∃ k : Nat, k ≤ xs.length ∧ i = .int .i64 k ∧ Below w.heap.size w wr ∧ ∀ j, j < k → p (xs.getD j 0) = false) (fun _ i _ => xs.length - (intOf i).toNat)
  case atStart => exact ⟨0, Nat.zero_le _, rfl, Below.refl _ _, fun j hj => absurd hj (Nat.not_lt_zero _)⟩
  case round =>
    obtain ⟨k, hk, rfl, hb, hno⟩ := hrel
    have HNO := Lib.hid hno
    clear hno
    by_cases hlt : k < xs.length
    · obtain ⟨b, off, rfl, hbl, hc⟩ := HV.out.cells (by omega)
      have g1 := (hb.cell (p := ⟨b, off + k, none⟩) hbl).trans (hc k hlt)
      have HC := HP.out wr (xs.getD k 0) hb (HV.out.getD k)
      clear hc
      generalize hy : xs.getD k 0 = y at g1 HC
      have HY := Lib.hid hy
      clear hy
      cases hq : p y with
      | true =>
        rw [hq] at HC
        have HC' := Lib.hid HC
        have HQ := Lib.hid hq
        clear HC hq
        go_wp2_with (go_at_fn g; refine HC'.out.mono ?_; rintro e w' ⟨rfl, hb'⟩)
        go_ret
        exact ⟨ret_int (idxI_hit p xs k hlt (by rw [HY.out]; exact HQ.out) HNO.out).symm, hb'⟩
      | false =>
        rw [hq] at HC
        have HC' := Lib.hid HC
        have HQ := Lib.hid hq
        clear HC hq
        go_wp2_with (go_at_fn g; refine HC'.out.mono ?_; rintro e w' ⟨rfl, hb'⟩)
        go_roundw
        case rel =>
          refine ⟨k + 1, by omega, by go_num, hb', fun j hj => ?_⟩
          by_cases e : j = k
          · subst e; rw [HY.out]; exact HQ.out
          · exact HNO.out j (by omega)
        case measure => simp [intOf]; omega
    · go_wp2
      go_ret
      exact ⟨ret_int (idxI_miss p xs (fun j hj => HNO.out j (by omega))).symm, hb⟩

theorem containsFunc_any (g : Nat) (lb : Array Value) (p : Int → Bool) (v : Value) (xs : List Int) (w : World) (eg : ∀ args w, (callFunc g args).run Tryz.prog w = .ok (.enter g args) w) (hp : PredI g lb p w) (hv : RI w v xs) :
    Calls Tryz.prog 79 #[v, .func (.func g) #[] lb] w fun e w' => e = .returned (.bool (xs.any p)) ∧ Below w.heap.size w w' := by
  have HA := Lib.hid (idxI_any p xs)
  have HV := Lib.hid hv
  have HP := Lib.hid hp
  clear hv hp
  go_enter Tryz.func79, Tryz.ntmps79
  go_wp2_with (go_at_call 102; refine (indexFunc_any g lb p v xs _ eg HP.out HV.out).mono ?_; rintro e w' ⟨rfl, hb'⟩)
  go_ret
  exact ⟨ret_bool HA.out, hb'⟩

theorem outside_enters : ∀ args w, (callFunc 80 args).run Tryz.prog w = .ok (.enter 80 args) w := enters_of Tryz.func80 (by kernel_rfl) rfl

theorem outside1_any (n lo hi : Int) (b1 b2 : Nat) (w : World) (h1 : w.cell? ⟨b1, 0, none⟩ = some (.int .i64 lo)) (h2 : w.cell? ⟨b2, 0, none⟩ = some (.int .i64 hi)) :
    Calls Tryz.prog 80 #[.int .i64 n, .pointer (some ⟨b1, 0, none⟩), .pointer (some ⟨b2, 0, none⟩)] w fun e w' => e = .returned (.bool (!inB lo hi n)) ∧ Below w.heap.size w w' := by
  go_enter Tryz.func80, Tryz.ntmps80
  go_wp2_with (go_at_call 59; refine (within_any _ _ _ _).mono ?_; rintro e w' ⟨rfl, rfl⟩)
  go_ret
  exact ⟨rfl, Below.refl _ _⟩

theorem outside_any (v : Value) (xs : List Int) (lo hi : Int) (w : World) (hv : RI w v xs) :
    Calls Tryz.prog 46 #[v, .int .i64 lo, .int .i64 hi] w fun e w' => e = .returned (.bool (xs.any fun n => !inB lo hi n)) ∧ Below w.heap.size w w' := by
  have HV := Lib.hid hv
  clear hv
  have hmf : ∀ (fn : Fn) (first cap : Array Value) (w : World), (Instr.makeFunc fn first cap).run Tryz.prog w = .ok (.func fn first cap) w := fun _ _ _ _ => rfl
  go_enter Tryz.func46, Tryz.ntmps46
  go_wp2_with fail
  have B2 : Below w.heap.size w ((w.alloc (.cells #[.int .i64 lo] 2)).alloc (.cells #[.int .i64 hi] 2)) := ((Below.refl _ _).alloc (Nat.le_refl _) _).alloc (by simp) _
  refine (containsFunc_any 80 _ (fun n => !inB lo hi n) v xs _ outside_enters ?_ (HV.out.below B2)).mono ?_
  · intro W n hb _
    refine (outside1_any n lo hi _ _ W ?_ ?_).mono fun e w' ⟨he, hb'⟩ => ⟨he, bthen hb hb'⟩
    · exact (hb.cell (p := ⟨w.heap.size, 0, none⟩) (by simp; omega)).trans (cell_alloc2a _ _ _ _ _)
    · exact (hb.cell (p := ⟨w.heap.size + 1, 0, none⟩) (by simp)).trans (cell_alloc2b _ _ _ _ _)
  · rintro e w' ⟨rfl, hb'⟩
    go_wp2
    go_ret
    exact ⟨rfl, bthen B2 hb'⟩

end Go.Proofs.YthlpbeohlhhblaaGreat
namespace Go.Proofs.YthlpbeohlhhblaaGreat
open Go.RowKit

def posI (xs : List Int) (n : Int) : Int := idxI (fun x => x == n) xs
def hasI (xs : List Int) (n : Int) : Bool := xs.any fun x => x == n
theorem hasI_mem {xs : List Int} {n : Int} : hasI xs n = true ↔ n ∈ xs := by
  unfold hasI
  rw [List.any_eq_true]
  exact ⟨fun ⟨x, hx, he⟩ => by rw [← beq_iff_eq.1 he]; exact hx, fun h => ⟨n, h, beq_self_eq_true n⟩⟩
theorem hasI_not {xs : List Int} {n : Int} : hasI xs n = false ↔ n ∉ xs := by
  rw [← Bool.not_eq_true, hasI_mem]
theorem hasI_contains (xs : List Int) (n : Int) : hasI xs n = xs.contains n := by
  rw [Bool.eq_iff_iff, hasI_mem]; simp

theorem indexI_any (v : Value) (xs : List Int) (n : Int) (w : World) (hv : RI w v xs) :
    Calls Tryz.prog 89 #[v, .int .i64 n] w fun e w' => e = .returned (.int .i64 (posI xs n)) ∧ w = w' := by
  obtain ⟨a, cap, rfl⟩ := hv.shape
  have hl := hv.len
  have HV := Lib.hid hv
  clear hv
  go_enter Tryz.func89, Tryz.ntmps89
  go_wp2
  go_loop [8] (fun i => ∃ k : Nat, k ≤ xs.length ∧ i = .int .i64 k ∧ ∀ j, j < k → (xs.getD j 0 == n) = false) (fun i => xs.length - (intOf i).toNat)
  case atStart => exact ⟨0, Nat.zero_le _, rfl, fun j hj => absurd hj (Nat.not_lt_zero _)⟩
  case round =>
    obtain ⟨k, hk, rfl, hno⟩ := hrel
    have HNO := Lib.hid hno
    clear hno
    by_cases hlt : k < xs.length
    · obtain ⟨b, off, rfl, hb, hc⟩ := HV.out.cells (by omega)
      have g1 := hc k hlt
      clear hc
      have HH := Lib.hid (fun (h : (xs.getD k 0 == n) = true) => idxI_hit (fun x => x == n) xs k hlt h HNO.out)
      have HN2 := Lib.hid (fun (h : (xs.getD k 0 == n) = false) => fun j (hj : j < k + 1) => show (xs.getD j 0 == n) = false by
        by_cases e : j = k
        · rw [e]; exact h
        · exact HNO.out j (by omega))
      generalize xs.getD k 0 = x at g1 HH HN2
      by_cases hx : x = n
      · have hq : (n == x) = true := by simp [hx]
        have HE := Lib.hid (HH.out (by simp [hx]))
        clear hx
        go_wp2
        go_ret
        exact ⟨ret_int HE.out.symm, rfl⟩
      · have hq : (n == x) = false := by rw [beq_eq_false_iff_ne]; exact fun e => hx e.symm
        have HE := Lib.hid (HN2.out (by rw [beq_eq_false_iff_ne]; exact hx))
        clear hx
        go_wp2
        go_round
        case rel => exact ⟨k + 1, by omega, by go_num, HE.out⟩
        case measure => simp [intOf]; omega
    · go_wp2
      go_ret
      exact ⟨ret_int (idxI_miss _ xs (fun j hj => HNO.out j (by omega))).symm, rfl⟩

theorem containsI_any (v : Value) (xs : List Int) (n : Int) (w : World) (hv : RI w v xs) :
    Calls Tryz.prog 60 #[v, .int .i64 n] w fun e w' => e = .returned (.bool (hasI xs n)) ∧ w = w' := by
  have HA := Lib.hid (idxI_any (fun x => x == n) xs)
  have C := Lib.hid (indexI_any v xs n w hv)
  clear hv
  go_enter Tryz.func60, Tryz.ntmps60
  go_wp2_with fail
  refine C.out.mono ?_
  rintro e w' ⟨rfl, rfl⟩
  unfold posI
  go_wp2_with fail
  go_ret
  exact ⟨ret_bool HA.out, rfl⟩

theorem infoInt64 : (Tryz.prog.info? 2).map (fun i => (i.zero, i.size, i.bytes)) = some (some (.int .i64 0), 1, 8) := by kernel_rfl

set_option maxRecDepth 100000 in
theorem cloneI_any (v : Value) (xs : List Int) (w : World) (hv : RI w v xs) (hl : xs.length ≤ 1048576) :
    Calls Tryz.prog 58 #[v] w fun e w' => ∃ v', e = .returned v' ∧ OI 2 w' w.heap.size v' xs ∧ Below w.heap.size w w' := by
  obtain ⟨a, cap, rfl⟩ := hv.shape
  obtain ⟨i0, hi, iz0, iz1, iz2⟩ := info_parts infoInt64
  have HI := Lib.hid hi
  have HV := Lib.hid hv
  cases a with
  | none =>
    have h0 : xs = [] := by
      obtain ⟨⟨a', cap', e, _, _, h3⟩, _⟩ := hv
      rcases h3 with h3 | ⟨b, off, h3, _⟩
      · exact h3
      · simp only [Value.slice.injEq] at e; rw [← e.1] at h3; cases h3
    have H0 := Lib.hid h0
    have hnil : ∀ W, (binOp .eql 24 (.slice none xs.length cap) (.slice none 0 0)).run Tryz.prog W = .ok (.bool true) W := fun W => by
      simp only [binOp]
      simp [run_equal_slice_nil W 24 2 none xs.length cap Tryz.underlying24]
    clear hv hi h0
    go_enter Tryz.func58, Tryz.ntmps58
    go_wp2
    go_ret
    exact ⟨_, rfl, by rw [H0.out]; exact OI.nil _ _ _, Below.refl _ _⟩
  | some ad =>
    have hnil : ∀ W, (binOp .eql 24 (.slice (some ad) xs.length cap) (.slice none 0 0)).run Tryz.prog W = .ok (.bool false) W := fun W => by
      simp only [binOp]
      simp [run_equal_slice_nil W 24 2 (some ad) xs.length cap Tryz.underlying24]
    have HB := Lib.hid ((Below.refl w.heap.size w).alloc (Nat.le_refl _) (.cells #[] 2))
    clear hv hi
    go_enter Tryz.func58, Tryz.ntmps58
    go_wp2_with (
      at_builtin
      refine wpList_appI rfl _ _ 24 rfl 2 i0 Tryz.underlying24 HI.out iz0 iz1 iz2 w.heap.size _ [] rfl (OI.lit0 _ _ _ (Nat.le_refl _)) _ xs rfl (HV.out.below HB.out) (by simp; omega) HB.out.size ?_
      intro v9 w9 h1 h2
      have H9 := Lib.hid (show OI 2 w9 w.heap.size v9 xs from h1)
      have HG := Lib.hid (HB.out.grown h2 (HB.out.size) (fun k hk => Nat.le_of_eq (Option.some.inj hk)))
      clear h1 h2)
    go_ret
    exact ⟨_, rfl, H9.out, HG.out⟩

end Go.Proofs.YthlpbeohlhhblaaGreat
namespace Go.Proofs.YthlpbeohlhhblaaGreat
open Go.RowKit

def ordTo (n m : Nat) (done : List Int) (k : Nat) : List (List Int) := (List.range k).flatMap fun (k : Nat) => if done.contains (k : Int) then [] else allOrders n m (done ++ [(k : Int)])
theorem ordTo_all (n m : Nat) (done : List Int) : allOrders n (m + 1) done = ordTo n m done n := rfl
theorem ordTo_yes {n m : Nat} {done : List Int} {k : Nat} (h : hasI done k = true) : ordTo n m done (k + 1) = ordTo n m done k := by
  rw [hasI_contains] at h
  unfold ordTo
  rw [List.range_succ, List.flatMap_append, List.flatMap_singleton, h, if_pos rfl, List.append_nil]
theorem ordTo_no {n m : Nat} {done : List Int} {k : Nat} (h : hasI done k = false) : ordTo n m done (k + 1) = ordTo n m done k ++ allOrders n m (done ++ [(k : Int)]) := by
  rw [hasI_contains] at h
  unfold ordTo
  rw [List.range_succ, List.flatMap_append, List.flatMap_singleton, h, if_neg (by simp)]

/-- What the function handed to orders does. -/
def Yields (p : Nat → Prop) (Inv : List Int × Int → World → Prop) (step : List Int × Int → List Int → List Int × Int) (n g : Nat) (lb : Array Value) : Prop :=
  ∀ (W : World) (st : List Int × Int) (o : List Int) (v : Value), okOrder n o → Inv st W → RI W v o → Off p v → (∀ k, p k → k < W.heap.size) →
    Calls Tryz.prog g (#[v] ++ lb) W fun e w' => e = .returned (.tuple #[]) ∧ Inv (step st o) w' ∧ Keeps p W w'

set_option maxRecDepth 100000 in
theorem orders_any (p : Nat → Prop) (Inv : List Int × Int → World → Prop) (step : List Int × Int → List Int → List Int × Int) (n g : Nat) (lb : Array Value) (hn : n ≤ 6)
    (eg : ∀ args w, (callFunc g args).run Tryz.prog w = .ok (.enter g args) w) (hInv : ∀ st W W', Inv st W → Below W.heap.size W W' → Inv st W') (hY : Yields p Inv step n g lb) :
    ∀ (m : Nat) (done : List Int) (v : Value) (st : List Int × Int) (W : World), okPart n done → done.length + m = n → Inv st W → RI W v done → Off p v → (∀ k, p k → k < W.heap.size) →
    Calls Tryz.prog 56 #[.int .i64 n, v, .func (.func g) #[] lb] W fun e w' => e = .returned (.tuple #[]) ∧ Inv ((allOrders n m done).foldl step st) w' ∧ Keeps p W w' := by
  intro m
  induction m with
  | zero =>
    intro done v st W hpart hl hI hv hoff hp
    obtain ⟨a, cap, rfl⟩ := hv.shape
    have C := Lib.hid (hY W st done (.slice a done.length cap) ⟨by omega, hpart.1, hpart.2⟩ hI hv hoff hp)
    have q1 : ((done.length : Int) == (n : Int)) = true := beq_iff_eq.2 (by omega)
    have q2 : (done.length == n) = true := beq_iff_eq.2 (by omega)
    have q3 : decide (done.length = n) = true := decide_eq_true (by omega)
    clear hpart hl hI hv hoff hp hY
    go_enter Tryz.func56, Tryz.ntmps56
    go_wp2_with (go_at_fn g; refine C.out.mono ?_; rintro e w' ⟨rfl, hi', hk'⟩; have HI' := Lib.hid hi'; clear hi')
    refine bodyPost_ret (results_none rfl _ _ _) rfl ?_
    exact ⟨rfl, HI'.out, hk'⟩
  | succ m ih =>
    intro done v st W hpart hl hI hv hoff hp
    obtain ⟨a, cap, rfl⟩ := hv.shape
    have HPT := Lib.hid hpart
    have HV := Lib.hid hv
    have HOF := Lib.hid hoff
    have HP := Lib.hid hp
    have hdl : done.length < n := by omega
    have q1 : ((done.length : Int) == (n : Int)) = false := beq_eq_false_iff_ne.2 (by omega)
    have q2 : (done.length == n) = false := beq_eq_false_iff_ne.2 (by omega)
    have q3 : decide (done.length = n) = false := decide_eq_false (by omega)
    have HL := Lib.hid hl
    have HI := Lib.hid hI
    obtain ⟨i0, hi, iz0, iz1, iz2⟩ := info_parts infoInt64
    have HIF := Lib.hid hi
    clear hpart hl hI hv hoff hp hY hi
    go_enter Tryz.func56, Tryz.ntmps56
    go_wp2_with fail
    go_loopw [15] (fun i wr => ∃ k : Nat, k ≤ n ∧ i = .int .i64 k ∧ Hid (Inv ((ordTo n m done k).foldl step st) wr) ∧ Hid (Keeps p W wr)) (fun i _ => n - (intOf i).toNat)
    case atStart => exact ⟨0, Nat.zero_le _, rfl, HI, Lib.hid (Keeps.refl _ _)⟩
    case round =>
      rename World => wr
      obtain ⟨k, hk, rfl, HIK, HKK⟩ := hrel
      by_cases hlt : k < n
      · have hd : decide ((k : Int) < (n : Int)) = true := decide_eq_true (by omega)
        have hd2 : decide (k < n) = true := decide_eq_true hlt
        have HVR := Lib.hid (HV.out.keeps HKK.out HOF.out)
        have C1 := containsI_any (.slice a done.length cap) done (k : Int) wr HVR.out
        cases hq : hasI done k with
        | true =>
          rw [hq] at C1
          have D1 := Lib.hid C1
          have S1 := Lib.hid (ordTo_yes (n := n) (m := m) hq)
          clear C1 hq
          go_wp2_with fail
          refine D1.out.mono ?_
          rintro e w' ⟨rfl, rfl⟩
          go_wp2_with fail
          go_roundw
          case rel => exact ⟨k + 1, by omega, by go_num, Lib.hid (by rw [S1.out]; exact HIK.out), HKK⟩
          case measure => simp [intOf]; omega
        | false =>
          rw [hq] at C1
          have D1 := Lib.hid C1
          have S1 := Lib.hid (ordTo_no (n := n) (m := m) hq)
          have HPA := Lib.hid (okPart_add HPT.out hlt (by rw [← hasI_contains]; exact hq))
          have C2 := Lib.hid (cloneI_any (.slice a done.length cap) done wr HVR.out (by omega))
          clear C1 hq
          go_wp2_with fail
          refine D1.out.mono ?_
          rintro e w' ⟨rfl, rfl⟩
          go_wp2_with fail
          refine C2.out.mono ?_
          rintro e w2 ⟨v2, rfl, ho2, hb2⟩
          have HO2 := Lib.hid ho2
          have HB2 := Lib.hid hb2
          have hsz2 := hb2.size
          clear ho2 hb2
          go_wp2_with (
            at_builtin
            refine wpList_app1 rfl _ _ 24 rfl 2 _ i0 Tryz.underlying24 HIF.out iz0 iz1 iz2 wr.heap.size _ done rfl HO2.out (k : Int) rfl (by unfold Good; omega) (by omega) hsz2 ?_
            intro v9 w9 h1 h2
            have H9 := Lib.hid h1
            have HB9 := Lib.hid (HO2.out.step HB2.out h2)
            clear h1 h2)
          have HOFF := Lib.hid (off_new (p := p) H9.out fun j hj => Nat.lt_of_lt_of_le (HP.out j hj) HKK.out.size)
          refine (ih (done ++ [(k : Int)]) v9 _ w9 HPA.out (by simp; have := HL.out; omega) (hInv _ _ _ HIK.out HB9.out) H9.out.ri HOFF.out (fun j hj => Nat.lt_of_lt_of_le (HP.out j hj) (Nat.le_trans HKK.out.size HB9.out.size))).mono ?_
          rintro e w3 ⟨rfl, hi3, hk3⟩
          have HI3 := Lib.hid hi3
          have HK3 := Lib.hid ((HKK.out.then_below HB9.out).trans hk3)
          clear hi3 hk3
          go_wp2_with fail
          go_roundw
          case rel => exact ⟨k + 1, by omega, by go_num, Lib.hid (by rw [S1.out, List.foldl_append]; exact HI3.out), HK3⟩
          case measure => simp [intOf]; omega
      · have hd : decide ((k : Int) < (n : Int)) = false := decide_eq_false (by omega)
        have hd2 : decide (k < n) = false := decide_eq_false hlt
        have hkn : k = n := by omega
        have HI9 := HIK.out
        rw [hkn, ← ordTo_all] at HI9
        have HI10 := Lib.hid HI9
        clear HI9 hkn
        go_wp2_with fail
        go_end0
        exact ⟨rfl, HI10.out, HKK.out⟩

end Go.Proofs.YthlpbeohlhhblaaGreat
namespace Go.Proofs.YthlpbeohlhhblaaGreat
open Go.RowKit

theorem SI.cells3 {w : World} {a : Option Addr} {n cap : Nat} {xs : List (Int × Int × Int)} (h : SI P3 w (.slice a n cap) xs) (hp : 0 < xs.length) :
    ∃ b off, a = some ⟨b, off, none⟩ ∧ b < w.heap.size ∧ ∀ i, i < xs.length → w.cell? ⟨b, off + i * 3, none⟩ = some (.int .i64 (xs.getD i (0, 0, 0)).1) ∧ w.cell? ⟨b, off + i * 3 + 1, none⟩ = some (.int .i64 (xs.getD i (0, 0, 0)).2.1) ∧ w.cell? ⟨b, off + i * 3 + 2, none⟩ = some (.int .i64 (xs.getD i (0, 0, 0)).2.2) := by
  obtain ⟨b, off, h1, h2, hc⟩ := h.cells hp
  exact ⟨b, off, h1, h2, fun i hi => ⟨hc i 0 hi (by decide), hc i 1 hi (by decide), hc i 2 hi (by decide)⟩⟩

theorem OS.cells3 {e : TypeId} {w : World} {base g n cap : Nat} {xs : List (Int × Int × Int)} (h : OS P3 e w base (.slice (some ⟨g, 0, none⟩) n cap) xs) (i : Nat) (hi : i < xs.length) :
    (w.cell? ⟨g, i * 3, none⟩ = some (.int .i64 (xs.getD i (0, 0, 0)).1) ∧ w.frozen? ⟨g, i * 3, none⟩ = false) ∧ (w.cell? ⟨g, i * 3 + 1, none⟩ = some (.int .i64 (xs.getD i (0, 0, 0)).2.1) ∧ w.frozen? ⟨g, i * 3 + 1, none⟩ = false) ∧ w.cell? ⟨g, i * 3 + 2, none⟩ = some (.int .i64 (xs.getD i (0, 0, 0)).2.2) ∧ w.frozen? ⟨g, i * 3 + 2, none⟩ = false :=
  ⟨h.cell i 0 hi (by decide), h.cell i 1 hi (by decide), h.cell i 2 hi (by decide)⟩

theorem SI.good3 {w : World} {v : Value} {xs : List (Int × Int × Int)} (h : SI P3 w v xs) (i : Nat) (hi : i < xs.length) : Good (xs.getD i (0, 0, 0)).1 ∧ Good (xs.getD i (0, 0, 0)).2.1 ∧ Good (xs.getD i (0, 0, 0)).2.2 :=
  ⟨h.getD i 0 hi (by decide), h.getD i 1 hi (by decide), h.getD i 2 hi (by decide)⟩

theorem flat3_cons (p : Int × Int × Int) (zs : List (Int × Int × Int)) : P3.flat (p :: zs) = p.1 :: p.2.1 :: p.2.2 :: P3.flat zs := rfl

theorem flat_set3 (xs : List (Int × Int × Int)) (i : Nat) (x y z : Int) : P3.flat (xs.set i (x, y, z)) = (((P3.flat xs).set (i * 3) x).set (i * 3 + 1) y).set (i * 3 + 2) z := by
  induction xs generalizing i with
  | nil => rfl
  | cons p xs ih =>
    cases i with
    | zero => rw [List.set_cons_zero, flat3_cons, flat3_cons]; rfl
    | succ i =>
      rw [List.set_cons_succ, flat3_cons, flat3_cons, ih, show (i + 1) * 3 = (i * 3 + 2) + 1 by omega]
      simp only [List.set_cons_succ]

theorem flat_get3 (xs : List (Int × Int × Int)) (i : Nat) (hi : i < xs.length) : (P3.flat xs)[i * 3]? = some (xs.getD i (0, 0, 0)).1 ∧ (P3.flat xs)[i * 3 + 1]? = some (xs.getD i (0, 0, 0)).2.1 ∧ (P3.flat xs)[i * 3 + 2]? = some (xs.getD i (0, 0, 0)).2.2 := by
  induction xs generalizing i with
  | nil => simp at hi
  | cons p xs ih =>
    rw [flat3_cons]
    cases i with
    | zero => exact ⟨rfl, rfl, rfl⟩
    | succ i =>
      have := ih i (by simpa using hi)
      rw [show (i + 1) * 3 = i * 3 + 1 + 1 + 1 by omega]
      simpa using this

/-- All fields of record i are written, one after another. -/
theorem OS.set3 {e : TypeId} {w : World} {base g n cap : Nat} {xs : List (Int × Int × Int)} (h : OS P3 e w base (.slice (some ⟨g, 0, none⟩) n cap) xs) (i : Nat) (hi : i < xs.length) (x y z : Int) (hx : Good x) (hy : Good y) (hz : Good z) :
    OS P3 e (((w.setCell ⟨g, i * 3, none⟩ (.int .i64 x)).setCell ⟨g, i * 3 + 1, none⟩ (.int .i64 y)).setCell ⟨g, i * 3 + 2, none⟩ (.int .i64 z)) base (.slice (some ⟨g, 0, none⟩) n cap) (xs.set i (x, y, z)) ∧ w.grownBy (((w.setCell ⟨g, i * 3, none⟩ (.int .i64 x)).setCell ⟨g, i * 3 + 1, none⟩ (.int .i64 y)).setCell ⟨g, i * 3 + 2, none⟩ (.int .i64 z)) (some g) := by
  obtain ⟨q1, q2, q3⟩ := flat_get3 xs i hi
  have hfl := Enc.flat_length (E := P3) xs
  have hm : P3.m = 3 := rfl
  rw [hm] at hfl
  have e1 : P3.flat (xs.set i (x, (xs.getD i (0, 0, 0)).2.1, (xs.getD i (0, 0, 0)).2.2)) = (P3.flat xs).set (i * 3) x := by
    rw [flat_set3]
    apply List.ext_getElem?
    intro k
    simp only [List.getElem?_set, List.length_set]
    by_cases h2 : i * 3 + 2 = k
    · rw [if_pos h2, if_pos (by omega), if_neg (by omega), ← h2, q3]
    · rw [if_neg h2]
      by_cases h1 : i * 3 + 1 = k
      · rw [if_pos h1, if_pos (by omega), if_neg (by omega), ← h1, q2]
      · rw [if_neg h1]
  have e2 : P3.flat (xs.set i (x, y, (xs.getD i (0, 0, 0)).2.2)) = ((P3.flat xs).set (i * 3) x).set (i * 3 + 1) y := by
    rw [flat_set3]
    apply List.ext_getElem?
    intro k
    simp only [List.getElem?_set, List.length_set]
    by_cases h2 : i * 3 + 2 = k
    · rw [if_pos h2, if_pos (by omega), if_neg (by omega), if_neg (by omega), ← h2, q3]
    · rw [if_neg h2]
  obtain ⟨a1, a2⟩ := h.set (ys := xs.set i (x, (xs.getD i (0, 0, 0)).2.1, (xs.getD i (0, 0, 0)).2.2)) (i * 3) x hx e1
  obtain ⟨b1, b2⟩ := a1.set (ys := xs.set i (x, y, (xs.getD i (0, 0, 0)).2.2)) (i * 3 + 1) y hy (by rw [e2, e1])
  obtain ⟨c1, c2⟩ := b1.set (ys := xs.set i (x, y, z)) (i * 3 + 2) z hz (by rw [flat_set3, e2])
  exact ⟨c1, grownBy_trans (grownBy_trans a2 b2) c2⟩

/-- What make([]T, n) has laid, of three fields. -/
theorem OS.made3 {e : TypeId} {w : World} {base n : Nat} {v : Value} (h : w.ownsRow base e 3 v n (madeCells (Value.agg #[.int .i64 0, .int .i64 0, .int .i64 0]).cells (n * 3)).toList) : OS P3 e w base v (List.replicate n (0, 0, 0)) := by
  have e1 : P3.flat (List.replicate n (0, 0, 0)) = List.replicate (n * 3) 0 := flat_zeros (E := P3) n
  refine ⟨?_, fun x hx => ?_⟩
  · rw [e1, List.length_replicate]
    have e2 : (madeCells (Value.agg #[.int .i64 0, .int .i64 0, .int .i64 0]).cells (n * 3)).toList = (List.replicate (n * 3) (0 : Int)).map (Value.int .i64) := by
      apply List.ext_getElem?
      intro k
      simp only [madeCells, Value.cells, List.map_replicate]
      by_cases hk : k < n * 3
      · rw [List.getElem?_replicate, if_pos hk]
        simp [hk]
        rcases (by omega : k % 3 = 0 ∨ k % 3 = 1 ∨ k % 3 = 2) with h | h | h <;> simp [h]
      · rw [List.getElem?_replicate, if_neg hk]
        simp; omega
    rw [← e2]; exact h
  · rw [e1] at hx
    obtain rfl := List.eq_of_mem_replicate hx
    unfold Good; omega

/-- The records (k, k + 1, k + 2), (k + 3, ..), .. -/
def marks3 (k n : Nat) : List (Int × Int × Int) := (List.range n).map fun i => (((k + 3 * i : Nat) : Int), ((k + 3 * i + 1 : Nat) : Int), ((k + 3 * i + 2 : Nat) : Int))
theorem marks3_length (k n : Nat) : (marks3 k n).length = n := by simp [marks3]
theorem marks3_getD (k n i : Nat) (h : i < n) : (marks3 k n).getD i (0, 0, 0) = (((k + 3 * i : Nat) : Int), ((k + 3 * i + 1 : Nat) : Int), ((k + 3 * i + 2 : Nat) : Int)) := by simp [marks3, List.getD, h]
theorem marks3_succ (k n : Nat) : marks3 k (n + 1) = marks3 k n ++ [(((k + 3 * n : Nat) : Int), ((k + 3 * n + 1 : Nat) : Int), ((k + 3 * n + 2 : Nat) : Int))] := by simp [marks3, List.range_succ]
theorem marks3_set (xs : List (Int × Int × Int)) (k j : Nat) (hj : j < xs.length) : (marks3 k j ++ xs.drop j).set j (((k + 3 * j : Nat) : Int), ((k + 3 * j + 1 : Nat) : Int), ((k + 3 * j + 2 : Nat) : Int)) = marks3 k (j + 1) ++ xs.drop (j + 1) := by
  rw [marks3_succ, List.append_assoc, List.set_append_right _ _ (by simp [marks3_length])]
  congr 1
  rw [marks3_length, Nat.sub_self, List.drop_eq_getElem_cons hj, List.set_cons_zero]
  rfl

end Go.Proofs.YthlpbeohlhhblaaGreat
namespace Go.Proofs.YthlpbeohlhhblaaGreat
open Go.RowKit

theorem infoSpan : (Tryz.prog.info? 76).map (fun i => (i.zero, i.size, i.bytes)) = some (some (.agg #[.int .i64 0, .int .i64 0, .int .i64 0]), 3, 24) := by kernel_rfl

set_option maxRecDepth 100000 in
theorem spansOf_any (times way : List Int) (start : Int) (tv yv : Value) (w : World) (ht : RI w tv times) (hy : RI w yv way) (hok : okTimes times = true) (hw : way.all (inB 0 (times.length - 1)) = true) (hl : way.length ≤ 12) (h0 : 0 ≤ start) (h1 : start ≤ 1000000) :
    Calls Tryz.prog 34 #[tv, .agg #[yv, .int .i64 start]] w fun e w' => ∃ v', e = .returned v' ∧ OS P3 76 w' w.heap.size v' (spans times way start) ∧ Below w.heap.size w w' := by
  obtain ⟨a, cap, rfl⟩ := ht.shape
  obtain ⟨a2, cap2, rfl⟩ := hy.shape
  have htl := ht.len
  have HT := Lib.hid ht
  have HY := Lib.hid hy
  have HOK := Lib.hid hok
  have HW := Lib.hid hw
  have hzb : w.heap.size < (w.alloc (.cells #[.slice a2 way.length cap2, .int .i64 start] 72)).heap.size := by simp
  have HB0 := Lib.hid ((Below.refl w.heap.size w).alloc (Nat.le_refl _) (.cells #[.slice a2 way.length cap2, .int .i64 start] 72))
  have c0 : (w.alloc (.cells #[.slice a2 way.length cap2, .int .i64 start] 72)).cell? ⟨w.heap.size, 0, none⟩ = some (.slice a2 way.length cap2) := by rw [World.cell?_alloc_at _ _ _ _ rfl]; rfl
  have c1 : (w.alloc (.cells #[.slice a2 way.length cap2, .int .i64 start] 72)).cell? ⟨w.heap.size, 1, none⟩ = some (.int .i64 start) := by rw [World.cell?_alloc_at _ _ _ _ rfl]; rfl
  clear ht hy hok hw
  obtain ⟨i0, hi, hz0, hz1, hz2⟩ := info_parts infoSpan
  have HI := Lib.hid hi
  clear hi
  go_enter Tryz.func34, Tryz.ntmps34
  go_wp2_with fail
  go_region
  go_wp2_with fail
  have HB1 := Lib.hid ((HB0.out.alloc (Nat.le_of_lt hzb) (.cells #[] 76)).drew)
  have ho1 := (OS.lit0 (E := P3) 76 (w.alloc (.cells #[.slice a2 way.length cap2, .int .i64 start] 72)) w.heap.size (Nat.le_of_lt hzb)).below ((Below.refl _ _).drew)
  rw [show (w.alloc (.cells #[.slice a2 way.length cap2, .int .i64 start] 72)).heap.size = w.heap.size + 1 by simp] at ho1
  have HO1 := Lib.hid ho1
  clear ho1
  go_loopw [5, 6, 15] (fun vo at_ i wr => ∃ (k : Nat) (o : Value), k ≤ way.length ∧ vo = o ∧ i = .int .i64 k ∧ at_ = .int .i64 (endOf times (way.take k) start) ∧ Below w.heap.size w wr ∧ Hid (OS P3 76 wr w.heap.size o (spans times (way.take k) start))) (fun _ _ i _ => way.length - (intOf i).toNat)
  case atStart => exact ⟨0, _, Nat.zero_le _, rfl, rfl, rfl, HB1.out, HO1⟩
  case round =>
    rename World => wr
    obtain ⟨k, o, hk, rfl, rfl, rfl, hb, HO⟩ := hrel
    by_cases hlt : k < way.length
    · obtain ⟨b, off, rfl, hbl, hc⟩ := HY.out.cells (by omega)
      have g1 := (hb.cell (p := ⟨b, off + k, none⟩) hbl).trans (hc k hlt)
      have hxm : inB 0 (times.length - 1) (way.getD k 0) = true := List.all_eq_true.1 HW.out _ (by rw [show way.getD k 0 = way[k] by simp [List.getD, hlt]]; exact List.getElem_mem hlt)
      have hx2 : 0 ≤ way.getD k 0 ∧ way.getD k 0 ≤ times.length - 1 := by unfold inB at hxm; simpa using hxm
      have htm := tm_bound HOK.out hxm
      have hfit := spans_fit HOK.out start (way.take k) (List.all_eq_true.2 fun x hx => List.all_eq_true.1 HW.out x (List.mem_of_mem_take hx))
      have hlen := spans_length times start (way.take k)
      have hlt2 : (way.take k).length = k := by simp; omega
      have S1 := Lib.hid (spans_snoc times (way.take k) start (way.getD k 0))
      have S2 := Lib.hid (endOf_snoc times (way.take k) start (way.getD k 0))
      have T1 := Lib.hid (take_snoc way k hlt)
      generalize way.getD k 0 = x at g1 hx2 htm S1 S2 T1
      obtain ⟨X, rfl⟩ : ∃ X : Nat, x = X := ⟨x.toNat, by omega⟩
      have hX : X < times.length := by omega
      obtain ⟨b2, off2, rfl, hbl2, hc2⟩ := HT.out.cells (by omega)
      have g2 := (hb.cell (p := ⟨b2, off2 + X, none⟩) hbl2).trans (hc2 X hX)
      rw [show times.getD X 0 = tm times X by unfold tm; rw [Int.toNat_natCast]] at g2
      obtain ⟨f1, f2, _⟩ := hfit
      rw [hlt2] at hlen f2
      have hll : (spans times (way.take k) start).length ≤ 1048576 := by omega
      have HB := Lib.hid hb
      have hsz := hb.size
      clear hc hc2 hxm hlen hlt2 hb
      generalize tm times X = t at g2 htm S1 S2
      generalize endOf times (way.take k) start = E at f1 f2 S1 S2 ⊢
      have hwt : IntKind.i64.wrap (E + t) = E + t := IntWalk.i64_in _ (by omega)
      have HGD := Lib.hid (show ∀ y ∈ P3.f ((X : Int), E, E + t), Good y from by intro y hy; simp [P3] at hy; unfold Good; omega)
      go_wp2_with (
        at_builtin
        refine wpList_appS (E := P3) rfl _ _ 73 rfl 76 _ i0 _ Tryz.underlying73 HI.out hz0 rfl hz1 24 hz2 (by decide) w.heap.size _ _ rfl HO.out ((X : Int), E, E + t) _ rfl _ (by simp) rfl HGD.out (by omega) hsz ?_
        intro v9 w9 h1 h2 _
        have hb9 := HO.out.step HB.out h2
        have H9 := Lib.hid h1
        have g3 := (hb9.cell (p := ⟨b2, off2 + X, none⟩) hbl2).trans ((HB.out.cell (p := ⟨b2, off2 + X, none⟩) hbl2).symm.trans g2)
        clear h1 h2)
      go_roundw
      case rel => exact ⟨k + 1, v9, by omega, rfl, by go_num, by rw [T1.out, S2.out], hb9, Lib.hid (by rw [T1.out, S1.out]; exact H9.out)⟩
      case measure => simp [intOf]; omega
    · go_wp2
      go_ret
      have h3 := HO.out
      rw [List.take_of_length_le (by omega)] at h3
      exact ⟨_, rfl, h3, hb⟩

end Go.Proofs.YthlpbeohlhhblaaGreat
namespace Go.Proofs.YthlpbeohlhhblaaGreat
open Go.RowKit

end Go.Proofs.YthlpbeohlhhblaaGreat
namespace Go.Proofs.YthlpbeohlhhblaaGreat
open Go.RowKit

section
variable {α : Type} {E : Enc α}

theorem wp_appL {P : Program} {W : World} {o : Oper} {a : Act} {K : Act → World → Prop} {Q : Exit → Act → World → Prop} (s x : Operand) (t : TypeId)
    (ho : o.op = .call { callee := .builtin .append, args := #[s, x], argTypes := #[t, t] }) (e : TypeId) (i : TypeInfo) (z : Value) (ht : P.underlying t = some (.slice e)) (hi : P.info? e = some i) (hz : i.zero = some z) (hzs : z.cells.size = E.m) (hsize : i.size = E.m) (bytes : Nat) (hby : i.bytes = bytes) (hb64 : bytes ≤ 64)
    (base : Nat) (v : Value) (xs : List α) (hs : a.eval s = v) (hown : OS E e W base v xs) (u : Value) (ys : List α) (hx : a.eval x = u) (hu : SI E W u ys) (hlen : xs.length + ys.length ≤ 1099511627776) (hbase : base ≤ W.heap.size)
    (hK : ∀ v' w', OS E e w' base v' (xs ++ ys) → W.grownBy w' v.ownBlock → K (a.put o.dst v') w') : Oper.wp P o a W K Q := by
  obtain ⟨⟨au, cu, rfl, hc1, hc2, hcell⟩, hgood⟩ := hu
  have fin : ∀ v' w', w'.ownsRow base e E.m v' (xs.length + ys.length) ((E.flat xs).map (Value.int .i64) ++ (E.flat ys).map (Value.int .i64)) → OS E e w' base v' (xs ++ ys) := fun v' w' h => by
    refine ⟨by rw [Enc.flat_append, List.map_append, List.length_append]; exact h, fun y hy => ?_⟩
    rw [Enc.flat_append] at hy
    rcases List.mem_append.1 hy with hy | hy
    · exact hown.2 y hy
    · exact hgood y hy
  cases au with
  | none =>
    have hy0 : ys = [] := by
      rcases hcell with h | ⟨b, off, h, _⟩
      · exact h
      · simp at h
    subst hy0
    have hrun := run_append_owned_none (P := P) W base t o.type e i E.m ht hi v xs.length _ hown.1
    have hfin : OS E e W base v (xs ++ []) := by rw [List.append_nil]; exact hown
    unfold Oper.wp
    by_cases hcu : cu = 0
    · subst hcu
      simp [execOp, ho, resolve, invoke, builtin, hs, hx, hrun, Result.andThen]
      exact hK v W hfin (World.grownBy.refl _ _)
    · have hrun2 : (Builtin.append_ #[t, t] o.type #[v, .slice none 0 cu]).run P W = .ok v W := by
        rcases hown.1.2 with ⟨rfl, _⟩ | ⟨g, cap, cur, rfl, _, _, hnc, _⟩
        · simp [Builtin.append_, run_underlying ht, sizeOf, typeInfo, hi, Builtin.lenOf, Builtin.firstCells]
        · simp [Builtin.append_, run_underlying ht, sizeOf, typeInfo, hi, Builtin.lenOf, Builtin.firstCells, hnc, storeCells]
      simp [execOp, ho, resolve, invoke, builtin, hs, hx, hrun2, Result.andThen]
      exact hK v W hfin (World.grownBy.refl _ _)
  | some ad =>
    have hb2 : (xs.length + ys.length) * bytes ≤ 1099511627776 * 64 := Nat.mul_le_mul hlen hb64
    refine wp_append_own W s x t ho base e i z E.m bytes ht hi hz hsize hby hzs E.pos v xs.length ((E.flat xs).map (Value.int .i64)) hs hown.1 ad ys.length cu ((E.flat ys).map (Value.int .i64)) hx (by rw [List.length_map, Enc.flat_length]) ?_ (ints_oneCell _ _) (by unfold maxLen; omega) (by omega) hbase (fun v' w' h1 h2 _ => hK v' w' (fin v' w' h1) h2)
    intro j u hj
    have hjl : j < ys.length * E.m := by
      have := (List.getElem?_eq_some_iff.1 hj).1
      rw [List.length_map, Enc.flat_length] at this
      exact this
    rcases hcell with h | ⟨b, off, h, _, hcc⟩
    · rw [h] at hjl; simp at hjl
    · simp only [Option.some.injEq] at h
      subst h
      rw [Addr.add_lit, hcc j hjl]
      rw [← hj]
      have hjf : j < (E.flat ys).length := by rw [Enc.flat_length]; exact hjl
      simp [List.getD, List.getElem?_eq_getElem hjf]

theorem wpList_appL {P : Program} {W : World} {ops : Array Oper} {rest : List Oper} {o : Oper} {a : Act} {Q : Exit → Act → World → Prop} (hgd : o.guard = none) (s x : Operand) (t : TypeId)
    (ho : o.op = .call { callee := .builtin .append, args := #[s, x], argTypes := #[t, t] }) (e : TypeId) (i : TypeInfo) (z : Value) (ht : P.underlying t = some (.slice e)) (hi : P.info? e = some i) (hz : i.zero = some z) (hzs : z.cells.size = E.m) (hsize : i.size = E.m) (bytes : Nat) (hby : i.bytes = bytes) (hb64 : bytes ≤ 64)
    (base : Nat) (v : Value) (xs : List α) (hs : a.eval s = v) (hown : OS E e W base v xs) (u : Value) (ys : List α) (hx : a.eval x = u) (hu : SI E W u ys) (hlen : xs.length + ys.length ≤ 1099511627776) (hbase : base ≤ W.heap.size)
    (hK : ∀ v' w', OS E e w' base v' (xs ++ ys) → W.grownBy w' v.ownBlock → wpList P ops Q rest (a.put o.dst v') w') : wpList P ops Q (o :: rest) a W :=
  wpList_plain hgd fun _ hK' => wp_appL s x t ho e i z ht hi hz hzs hsize bytes hby hb64 base v xs hs hown u ys hx hu hlen hbase fun v' w' h1 h2 => hK' _ _ (hK v' w' h1 h2)

/-- The same at a step of a region that draws its order. -/
theorem step_appL {P : Program} {W : World} {ops : Array Oper} {o : Oper} {a : Act} {K : Act → World → Prop} {Q : Exit → Act → World → Prop} {R : Prop} (hgd : o.guard = none) (s x : Operand) (t : TypeId)
    (ho : o.op = .call { callee := .builtin .append, args := #[s, x], argTypes := #[t, t] }) (e : TypeId) (i : TypeInfo) (z : Value) (ht : P.underlying t = some (.slice e)) (hi : P.info? e = some i) (hz : i.zero = some z) (hzs : z.cells.size = E.m) (hsize : i.size = E.m) (bytes : Nat) (hby : i.bytes = bytes) (hb64 : bytes ≤ 64)
    (base : Nat) (v : Value) (xs : List α) (hs : a.eval s = v) (hown : OS E e W base v xs) (u : Value) (ys : List α) (hx : a.eval x = u) (hu : SI E W u ys) (hlen : xs.length + ys.length ≤ 1099511627776) (hbase : base ≤ W.heap.size)
    (hK : ∀ v' w', OS E e w' base v' (xs ++ ys) → W.grownBy w' v.ownBlock → K (a.put o.dst v') w') : if Region.wanted o (yielded ops a.tmps) = true then Oper.wp P o a W K Q else R := by
  have hw : Region.wanted o (yielded ops a.tmps) = true := by simp [Region.wanted, hgd]
  rw [if_pos hw]
  exact wp_appL s x t ho e i z ht hi hz hzs hsize bytes hby hb64 base v xs hs hown u ys hx hu hlen hbase hK
end

/-- One record of three fields, in a block of its own, reads as a list of one. -/
theorem SI_one3 {w : World} {b : Nat} {x y z : Int} (hb : b < w.heap.size) (h0 : w.cell? ⟨b, 0, none⟩ = some (.int .i64 x)) (h1 : w.cell? ⟨b, 1, none⟩ = some (.int .i64 y)) (h2 : w.cell? ⟨b, 2, none⟩ = some (.int .i64 z)) (hx : Good x) (hy : Good y) (hz : Good z) :
    SI P3 w (.slice (some ⟨b, 0, none⟩) 1 1) [(x, y, z)] := by
  refine ⟨⟨some ⟨b, 0, none⟩, 1, rfl, Nat.le_refl _, by unfold maxLen; omega, .inr ⟨b, 0, rfl, hb, fun j hj => ?_⟩⟩, fun k hk => ?_⟩
  · have : j < 3 := hj
    rcases (by omega : j = 0 ∨ j = 1 ∨ j = 2) with rfl | rfl | rfl
    · exact h0
    · exact h1
    · exact h2
  · have hk : k ∈ [x, y, z] := hk
    simp at hk
    rcases hk with rfl | rfl | rfl
    · exact hx
    · exact hy
    · exact hz

end Go.Proofs.YthlpbeohlhhblaaGreat
