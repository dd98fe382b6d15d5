/-
  The library's IndexFunc and ContainsFunc at lists of runs, of wishes and of ways, where the predicate holds of no element.
  A part of a list of int64.
  ValidTimes, isRunWay, ValidWishes, wishesCode, ValidRuns of the program: what each answers of what is valid.
  delayOf, SumOfDelays.
-/
import Derived.Test.YthlpbeohlhhblaaGreatTopC
import Derived.Test.YthlpbeohlhhblaaGreatTopD
import Derived.Test.YthlpbeohlhhblaaGreatTopE
import Derived.Shelf.Abstract
import Derived.BigQuiet
namespace Go.Proofs.YthlpbeohlhhblaaGreat
open Go.RowKit

theorem indexNoneRun_any (g : Nat) (lb : Array Value) (v : Value) (xs : List RunP) (w : World) (eg : ∀ args w, (callFunc g args).run Tryz.prog w = .ok (.enter g args) w)
    (hp : ∀ (W : World) (k : Nat) (s : Value), k < xs.length → Below w.heap.size w W → RI W s (xs.getD k zR).1 → Calls Tryz.prog g (#[.agg #[s, .int .i64 (xs.getD k zR).2]] ++ lb) W fun e w' => e = .returned (.bool false) ∧ Below w.heap.size w w') (hv : RunsI w v xs) :
    Calls Tryz.prog 90 #[v, .func (.func g) #[] lb] w fun e w' => e = .returned (.int .i64 (-1)) ∧ Below w.heap.size w w' := by
  obtain ⟨a, cap, rfl, hl1, hl2⟩ := hv.shape
  unfold maxLen at hl2
  have hl : xs.length ≤ 9223372036854775807 := by omega
  have HV := Lib.hid hv
  have HP := Lib.hid hp
  clear hv hp hl1 hl2
  go_enter Tryz.func90, Tryz.ntmps90
  go_wp2
  go_loopw [5, 8] (fun _ i wr => ∃ k : Nat, k ≤ xs.length ∧ i = .int .i64 k ∧ Below w.heap.size w wr) (fun _ i _ => xs.length - (intOf i).toNat)
  case atStart => exact ⟨0, Nat.zero_le _, rfl, Below.refl _ _⟩
  case round =>
    obtain ⟨k, hk, rfl, hb⟩ := hrel
    by_cases hlt : k < xs.length
    · obtain ⟨b, off, rfl, hbl, hc⟩ := HV.out.cells (by omega)
      obtain ⟨s, hs, c0, c1⟩ := hc k hlt
      have g0 := (hb.cell (p := ⟨b, off + k * 2, none⟩) hbl).trans c0
      have g1 := (hb.cell (p := ⟨b, off + k * 2 + 1, none⟩) hbl).trans c1
      have HC := HP.out wr k s hlt hb (hs.below hb)
      clear hc c0 c1
      generalize xs.getD k zR = x at hs HC g1
      obtain ⟨x0, x1⟩ := x
      simp only at hs HC g1
      obtain ⟨aw, cw, rfl⟩ := hs.shape
      have HC' := Lib.hid HC
      clear HC hs
      go_wp2_with (go_at_fn g; refine HC'.out.mono ?_; rintro e w' ⟨rfl, hb'⟩)
      go_roundw
      case rel => exact ⟨k + 1, by omega, by go_num, hb'⟩
      case measure => simp [intOf]; omega
    · go_wp2
      go_ret
      exact ⟨rfl, hb⟩

theorem containsNoneRun_any (g : Nat) (lb : Array Value) (v : Value) (xs : List RunP) (w : World) (eg : ∀ args w, (callFunc g args).run Tryz.prog w = .ok (.enter g args) w)
    (hp : ∀ (W : World) (k : Nat) (s : Value), k < xs.length → Below w.heap.size w W → RI W s (xs.getD k zR).1 → Calls Tryz.prog g (#[.agg #[s, .int .i64 (xs.getD k zR).2]] ++ lb) W fun e w' => e = .returned (.bool false) ∧ Below w.heap.size w w') (hv : RunsI w v xs) :
    Calls Tryz.prog 63 #[v, .func (.func g) #[] lb] w fun e w' => e = .returned (.bool false) ∧ Below w.heap.size w w' := by
  have HV := Lib.hid hv
  have HP := Lib.hid hp
  clear hv hp
  go_enter Tryz.func63, Tryz.ntmps63
  go_wp2_with fail
  refine (indexNoneRun_any g lb v xs _ eg HP.out HV.out).mono ?_
  rintro e w' ⟨rfl, hb'⟩
  go_wp2_with fail
  go_ret
  exact ⟨rfl, hb'⟩

theorem indexNoneWish_any (g : Nat) (lb : Array Value) (v : Value) (xs : List WishP) (w : World) (eg : ∀ args w, (callFunc g args).run Tryz.prog w = .ok (.enter g args) w)
    (hp : ∀ (W : World) (k : Nat) (s : Value), k < xs.length → Below w.heap.size w W → RI W s (xs.getD k zW).1 → Calls Tryz.prog g (#[.agg #[s, .int .i64 (xs.getD k zW).2.1, .int .i64 (xs.getD k zW).2.2]] ++ lb) W fun e w' => e = .returned (.bool false) ∧ Below w.heap.size w w') (hv : WishI w v xs) :
    Calls Tryz.prog 106 #[v, .func (.func g) #[] lb] w fun e w' => e = .returned (.int .i64 (-1)) ∧ Below w.heap.size w w' := by
  obtain ⟨a, cap, rfl, hl1, hl2⟩ := hv.shape
  unfold maxLen at hl2
  have hl : xs.length ≤ 9223372036854775807 := by omega
  have HV := Lib.hid hv
  have HP := Lib.hid hp
  clear hv hp hl1 hl2
  go_enter Tryz.func106, Tryz.ntmps106
  go_wp2
  go_loopw [5, 8] (fun _ i wr => ∃ k : Nat, k ≤ xs.length ∧ i = .int .i64 k ∧ Below w.heap.size w wr) (fun _ i _ => xs.length - (intOf i).toNat)
  case atStart => exact ⟨0, Nat.zero_le _, rfl, Below.refl _ _⟩
  case round =>
    obtain ⟨k, hk, rfl, hb⟩ := hrel
    by_cases hlt : k < xs.length
    · obtain ⟨b, off, rfl, hbl, hc⟩ := HV.out.cells (by omega)
      obtain ⟨s, hs, c0, c1, c2⟩ := hc k hlt
      have g0 := (hb.cell (p := ⟨b, off + k * 3, none⟩) hbl).trans c0
      have g1 := (hb.cell (p := ⟨b, off + k * 3 + 1, none⟩) hbl).trans c1
      have g2 := (hb.cell (p := ⟨b, off + k * 3 + 2, none⟩) hbl).trans c2
      have HC := HP.out wr k s hlt hb (hs.below hb)
      clear hc c0 c1 c2
      generalize xs.getD k zW = x at hs HC g1 g2
      obtain ⟨x0, x1, x2⟩ := x
      simp only at hs HC g1 g2
      obtain ⟨aw, cw, rfl⟩ := hs.shape
      have HC' := Lib.hid HC
      clear HC hs
      go_wp2_with (go_at_fn g; refine HC'.out.mono ?_; rintro e w' ⟨rfl, hb'⟩)
      go_roundw
      case rel => exact ⟨k + 1, by omega, by go_num, hb'⟩
      case measure => simp [intOf]; omega
    · go_wp2
      go_ret
      exact ⟨rfl, hb⟩

theorem containsNoneWish_any (g : Nat) (lb : Array Value) (v : Value) (xs : List WishP) (w : World) (eg : ∀ args w, (callFunc g args).run Tryz.prog w = .ok (.enter g args) w)
    (hp : ∀ (W : World) (k : Nat) (s : Value), k < xs.length → Below w.heap.size w W → RI W s (xs.getD k zW).1 → Calls Tryz.prog g (#[.agg #[s, .int .i64 (xs.getD k zW).2.1, .int .i64 (xs.getD k zW).2.2]] ++ lb) W fun e w' => e = .returned (.bool false) ∧ Below w.heap.size w w') (hv : WishI w v xs) :
    Calls Tryz.prog 87 #[v, .func (.func g) #[] lb] w fun e w' => e = .returned (.bool false) ∧ Below w.heap.size w w' := by
  have HV := Lib.hid hv
  have HP := Lib.hid hp
  clear hv hp
  go_enter Tryz.func87, Tryz.ntmps87
  go_wp2_with fail
  refine (indexNoneWish_any g lb v xs _ eg HP.out HV.out).mono ?_
  rintro e w' ⟨rfl, hb'⟩
  go_wp2_with fail
  go_ret
  exact ⟨rfl, hb'⟩

theorem indexNoneWay_any (g : Nat) (lb : Array Value) (v : Value) (xs : List (List Int)) (w : World) (eg : ∀ args w, (callFunc g args).run Tryz.prog w = .ok (.enter g args) w)
    (hp : ∀ (W : World) (k : Nat) (s : Value), k < xs.length → Below w.heap.size w W → RI W s (xs.getD k []) → Calls Tryz.prog g (#[s] ++ lb) W fun e w' => e = .returned (.bool false) ∧ Below w.heap.size w w') (hv : WaysI w v xs) :
    Calls Tryz.prog 91 #[v, .func (.func g) #[] lb] w fun e w' => e = .returned (.int .i64 (-1)) ∧ Below w.heap.size w w' := by
  obtain ⟨a, cap, rfl, hl1, hl2⟩ := hv.shape
  unfold maxLen at hl2
  have hl : xs.length ≤ 9223372036854775807 := by omega
  have HV := Lib.hid hv
  have HP := Lib.hid hp
  clear hv hp hl1 hl2
  go_enter Tryz.func91, Tryz.ntmps91
  go_wp2
  go_loopw [5, 8] (fun _ i wr => ∃ k : Nat, k ≤ xs.length ∧ i = .int .i64 k ∧ Below w.heap.size w wr) (fun _ i _ => xs.length - (intOf i).toNat)
  case atStart => exact ⟨0, Nat.zero_le _, rfl, Below.refl _ _⟩
  case round =>
    obtain ⟨k, hk, rfl, hb⟩ := hrel
    by_cases hlt : k < xs.length
    · obtain ⟨b, off, rfl, hbl, hc⟩ := HV.out.cells (by omega)
      obtain ⟨s, hs, c0⟩ := hc k hlt
      have g0 := (hb.cell (p := ⟨b, off + k, none⟩) hbl).trans c0
      have HC := HP.out wr k s hlt hb (hs.below hb)
      clear hc c0
      generalize xs.getD k [] = x0 at hs HC
      obtain ⟨aw, cw, rfl⟩ := hs.shape
      have HC' := Lib.hid HC
      clear HC hs
      go_wp2_with (go_at_fn g; refine HC'.out.mono ?_; rintro e w' ⟨rfl, hb'⟩)
      go_roundw
      case rel => exact ⟨k + 1, by omega, by go_num, hb'⟩
      case measure => simp [intOf]; omega
    · go_wp2
      go_ret
      exact ⟨rfl, hb⟩

theorem containsNoneWay_any (g : Nat) (lb : Array Value) (v : Value) (xs : List (List Int)) (w : World) (eg : ∀ args w, (callFunc g args).run Tryz.prog w = .ok (.enter g args) w)
    (hp : ∀ (W : World) (k : Nat) (s : Value), k < xs.length → Below w.heap.size w W → RI W s (xs.getD k []) → Calls Tryz.prog g (#[s] ++ lb) W fun e w' => e = .returned (.bool false) ∧ Below w.heap.size w w') (hv : WaysI w v xs) :
    Calls Tryz.prog 69 #[v, .func (.func g) #[] lb] w fun e w' => e = .returned (.bool false) ∧ Below w.heap.size w w' := by
  have HV := Lib.hid hv
  have HP := Lib.hid hp
  clear hv hp
  go_enter Tryz.func69, Tryz.ntmps69
  go_wp2_with fail
  refine (indexNoneWay_any g lb v xs _ eg HP.out HV.out).mono ?_
  rintro e w' ⟨rfl, hb'⟩
  go_wp2_with fail
  go_ret
  exact ⟨rfl, hb'⟩

end Go.Proofs.YthlpbeohlhhblaaGreat
namespace Go.Proofs.YthlpbeohlhhblaaGreat
open Go.RowKit

theorem take_drop_getD (xs : List Int) (lo hi j : Nat) (h : j < hi - lo) : ((xs.take hi).drop lo).getD j 0 = xs.getD (lo + j) 0 := by
  simp only [List.getD, List.getElem?_drop, List.getElem?_take]
  rw [if_pos (by omega)]

/-- xs[lo:hi] -/
theorem cutI {w : World} {a : Option Addr} {n cap : Nat} {xs : List Int} (h : RI w (.slice a n cap) xs) (lo hi : Nat) (h1 : lo ≤ hi) (h2 : hi ≤ xs.length) :
    ∃ v', RI w v' ((xs.take hi).drop lo) ∧ ∀ W (lo' hi' : Int), lo' = lo → hi' = hi → (Instr.slice 24 (.slice a n cap) (some (.int .i64 lo')) (some (.int .i64 hi')) none).run Tryz.prog W = .ok v' W := by
  obtain ⟨⟨a', cap', e, hc1, hc2, h3⟩, hg⟩ := h
  simp only [Value.slice.injEq] at e
  obtain ⟨rfl, rfl, rfl⟩ := e
  have hlen : ((xs.take hi).drop lo).length = hi - lo := by simp; omega
  refine ⟨sliced a lo hi cap 1, ⟨⟨_, cap - lo, by rw [hlen]; rfl, by rw [hlen]; omega, by omega, ?_⟩, fun x hx => hg x (List.mem_of_mem_take (List.mem_of_mem_drop hx))⟩, ?_⟩
  · by_cases h0 : lo = hi
    · left; subst h0; exact List.eq_nil_of_length_eq_zero (by rw [hlen]; omega)
    · right
      rcases h3 with h3 | ⟨b, off, rfl, hb, hcell⟩
      · simp [h3] at h2; omega
      · rw [if_neg (by omega)]
        refine ⟨b, off + lo, ?_, hb, fun j hj => ?_⟩
        · simp only [Option.map_some, Nat.mul_one, Option.some.injEq]
          unfold Addr.add
          split
          · subst_vars; rfl
          · rfl
        · rw [hlen] at hj
          rw [Nat.add_assoc, hcell (lo + j) (by omega), take_drop_getD _ _ _ _ hj]
  · intro W lo' hi' e1 e2
    subst e1 e2
    rw [run_slice_lh W 24 a xs.length cap (by kernel_rfl) .i64 .i64 (lo : Int) (hi : Int) (by omega) (by omega) (by omega)]
    rw [show Tryz.prog.elem 24 = 2 from by kernel_rfl, Tryz.sizeOf2]
    simp [Result.andThen]

/-- xs[:hi] -/
theorem cutToI {w : World} {a : Option Addr} {n cap : Nat} {xs : List Int} (h : RI w (.slice a n cap) xs) (hi : Nat) (h2 : hi ≤ xs.length) :
    ∃ v', RI w v' (xs.take hi) ∧ ∀ W (hi' : Int), hi' = hi → (Instr.slice 24 (.slice a n cap) none (some (.int .i64 hi')) none).run Tryz.prog W = .ok v' W := by
  obtain ⟨v', h1, h3⟩ := cutI h 0 hi (Nat.zero_le _) h2
  refine ⟨v', by simpa using h1, fun W hi' e => ?_⟩
  obtain ⟨⟨a', cap', e', hc1, hc2, _⟩, hg⟩ := h
  simp only [Value.slice.injEq] at e'
  obtain ⟨rfl, rfl, rfl⟩ := e'
  rw [← h3 W 0 hi' rfl e]
  subst e
  rw [run_slice_lh W 24 a xs.length cap (by kernel_rfl) .i64 .i64 0 (hi : Int) (by omega) (by omega) (by omega), run_slice_h W 24 a xs.length cap (by kernel_rfl) .i64 (hi : Int) (by omega) (by omega)]
  rfl

end Go.Proofs.YthlpbeohlhhblaaGreat
namespace Go.Proofs.YthlpbeohlhhblaaGreat
open Go.RowKit

theorem any_not_all {lo hi : Int} {xs : List Int} (h : xs.all (inB lo hi) = true) : (xs.any fun n => !inB lo hi n) = false := by
  rw [List.any_eq_false]
  intro x hx
  rw [List.all_eq_true.1 h x hx]
  simp

theorem validTimes_yes (times : List Int) (tv : Value) (w : World) (ht : RI w tv times) (hok : okTimes times = true) :
    Calls Tryz.prog 62 #[tv] w fun e w' => e = .returned (.bool true) ∧ Below w.heap.size w w' := by
  obtain ⟨a, cap, rfl⟩ := ht.shape
  have hl := ht.len
  unfold okTimes at hok
  rw [Bool.and_eq_true] at hok
  obtain ⟨h1, h2⟩ := hok
  have C1 := Lib.hid (within_any (times.length : Int) 1 24 w)
  have HE1 := Lib.hid h1
  have C2 := outside_any (.slice a times.length cap) times 1 1000 w ht
  rw [any_not_all h2] at C2
  have D2 := Lib.hid C2
  clear ht C2 h1 h2
  go_enter Tryz.func62, Tryz.ntmps62
  go_wp2_with fail
  refine C1.out.mono ?_
  rintro e w' ⟨rfl, rfl⟩
  rw [HE1.out]
  go_wp2_with fail
  refine D2.out.mono ?_
  rintro e w' ⟨rfl, hb⟩
  go_wp2_with fail
  go_ret
  exact ⟨rfl, hb⟩

theorem isRunWay_yes (times way : List Int) (tv yv : Value) (w : World) (ht : RI w tv times) (hy : RI w yv way) (hok : okWay times way = true) (htl : times.length ≤ 24) :
    Calls Tryz.prog 65 #[tv, yv] w fun e w' => e = .returned (.bool true) ∧ Below w.heap.size w w' := by
  obtain ⟨a, cap, rfl⟩ := ht.shape
  obtain ⟨a2, cap2, rfl⟩ := hy.shape
  have hl := hy.len
  unfold okWay at hok
  rw [Bool.and_eq_true] at hok
  obtain ⟨h1, h2⟩ := hok
  have C1 := Lib.hid (within_any (way.length : Int) 1 12 w)
  have HE1 := Lib.hid h1
  have C2 := outside_any (.slice a2 way.length cap2) way 0 ((times.length : Int) - 1) w hy
  rw [any_not_all h2] at C2
  have D2 := Lib.hid C2
  have hw1 : IntKind.i64.wrap ((times.length : Int) - 1) = (times.length : Int) - 1 := IntWalk.i64_in _ (by omega)
  clear ht hy C2 h1 h2
  go_enter Tryz.func65, Tryz.ntmps65
  go_wp2_with fail
  refine C1.out.mono ?_
  rintro e w' ⟨rfl, rfl⟩
  rw [HE1.out]
  go_wp2_with fail
  refine D2.out.mono ?_
  rintro e w' ⟨rfl, hb⟩
  go_wp2_with fail
  go_ret
  exact ⟨rfl, hb⟩

theorem okTimes_len {times : List Int} (h : okTimes times = true) : 1 ≤ times.length ∧ times.length ≤ 24 := by
  unfold okTimes inB at h
  simp only [Bool.and_eq_true, decide_eq_true_eq] at h
  omega

theorem validWishes1_enters : ∀ args w, (callFunc 88 args).run Tryz.prog w = .ok (.enter 88 args) w := enters_of Tryz.func88 (by kernel_rfl) rfl
theorem validRuns1_enters : ∀ args w, (callFunc 64 args).run Tryz.prog w = .ok (.enter 64 args) w := enters_of Tryz.func64 (by kernel_rfl) rfl

theorem validWishes1_no (times : List Int) (x : WishP) (tv s : Value) (b1 : Nat) (w : World) (hlt : b1 < w.heap.size) (hc : w.cell? ⟨b1, 0, none⟩ = some tv) (ht : RI w tv times) (hs : RI w s x.1) (hok : okTimes times = true) (hx : okWish times x = true) :
    Calls Tryz.prog 88 #[.agg #[s, .int .i64 x.2.1, .int .i64 x.2.2], .pointer (some ⟨b1, 0, none⟩)] w fun e w' => e = .returned (.bool false) ∧ Below w.heap.size w w' := by
  obtain ⟨way, ready, due⟩ := x
  simp only at hs ⊢
  unfold okWish at hx
  simp only [Bool.and_eq_true] at hx
  obtain ⟨⟨h1, h2⟩, h3⟩ := hx
  obtain ⟨a, cap, rfl⟩ := ht.shape
  obtain ⟨a2, cap2, rfl⟩ := hs.shape
  have hz : w.heap.size < (w.alloc (.cells #[.slice a2 way.length cap2, .int .i64 ready, .int .i64 due] 61)).heap.size := by simp
  have HB := Lib.hid ((Below.refl w.heap.size w).alloc (Nat.le_refl _) (.cells #[.slice a2 way.length cap2, .int .i64 ready, .int .i64 due] 61))
  have c0 : (w.alloc (.cells #[.slice a2 way.length cap2, .int .i64 ready, .int .i64 due] 61)).cell? ⟨w.heap.size, 0, none⟩ = some (.slice a2 way.length cap2) := by rw [World.cell?_alloc_at _ _ _ _ rfl]; rfl
  have c1 : (w.alloc (.cells #[.slice a2 way.length cap2, .int .i64 ready, .int .i64 due] 61)).cell? ⟨w.heap.size, 1, none⟩ = some (.int .i64 ready) := by rw [World.cell?_alloc_at _ _ _ _ rfl]; rfl
  have c2 : (w.alloc (.cells #[.slice a2 way.length cap2, .int .i64 ready, .int .i64 due] 61)).cell? ⟨w.heap.size, 2, none⟩ = some (.int .i64 due) := by rw [World.cell?_alloc_at _ _ _ _ rfl]; rfl
  have hc' := (HB.out.cell (p := ⟨b1, 0, none⟩) hlt).trans hc
  have C1 := Lib.hid (isRunWay_yes times way _ _ _ (ht.below HB.out) (hs.below HB.out) h1 (okTimes_len hok).2)
  have H2 := Lib.hid h2
  have H3 := Lib.hid h3
  clear ht hs h1 h2 h3 hok hc
  go_enter Tryz.func88, Tryz.ntmps88
  go_wp2_with fail
  generalize w.alloc (.cells #[.slice a2 way.length cap2, .int .i64 ready, .int .i64 due] 61) = wb at hz HB c0 c1 c2 hc' C1 ⊢
  refine C1.out.mono ?_
  rintro e w1 ⟨rfl, hb⟩
  have d1 := (hb.cell (p := ⟨w.heap.size, 1, none⟩) hz).trans c1
  have d2 := (hb.cell (p := ⟨w.heap.size, 2, none⟩) hz).trans c2
  have HB2 := Lib.hid (bthen HB.out hb)
  clear hb c0 c1 c2 C1
  go_wp2_with fail
  refine (within_any ready 0 10000 _).mono ?_
  rintro e w' ⟨rfl, rfl⟩
  rw [H2.out]
  go_wp2_with fail
  refine (within_any due 0 10000 _).mono ?_
  rintro e w' ⟨rfl, rfl⟩
  rw [H3.out]
  go_wp2_with fail
  go_ret
  exact ⟨rfl, HB2.out⟩

theorem validRuns1_no (times : List Int) (x : RunP) (tv s : Value) (b1 : Nat) (w : World) (hlt : b1 < w.heap.size) (hc : w.cell? ⟨b1, 0, none⟩ = some tv) (ht : RI w tv times) (hs : RI w s x.1) (hok : okTimes times = true) (h1 : okWay times x.1 = true) (h2 : inB 0 100000 x.2 = true) :
    Calls Tryz.prog 64 #[.agg #[s, .int .i64 x.2], .pointer (some ⟨b1, 0, none⟩)] w fun e w' => e = .returned (.bool false) ∧ Below w.heap.size w w' := by
  obtain ⟨way, start⟩ := x
  simp only at hs h1 h2 ⊢
  obtain ⟨a, cap, rfl⟩ := ht.shape
  obtain ⟨a2, cap2, rfl⟩ := hs.shape
  have hz : w.heap.size < (w.alloc (.cells #[.slice a2 way.length cap2, .int .i64 start] 72)).heap.size := by simp
  have HB := Lib.hid ((Below.refl w.heap.size w).alloc (Nat.le_refl _) (.cells #[.slice a2 way.length cap2, .int .i64 start] 72))
  have c0 : (w.alloc (.cells #[.slice a2 way.length cap2, .int .i64 start] 72)).cell? ⟨w.heap.size, 0, none⟩ = some (.slice a2 way.length cap2) := by rw [World.cell?_alloc_at _ _ _ _ rfl]; rfl
  have c1 : (w.alloc (.cells #[.slice a2 way.length cap2, .int .i64 start] 72)).cell? ⟨w.heap.size, 1, none⟩ = some (.int .i64 start) := by rw [World.cell?_alloc_at _ _ _ _ rfl]; rfl
  have hc' := (HB.out.cell (p := ⟨b1, 0, none⟩) hlt).trans hc
  have C1 := Lib.hid (isRunWay_yes times way _ _ _ (ht.below HB.out) (hs.below HB.out) h1 (okTimes_len hok).2)
  have H2 := Lib.hid h2
  clear ht hs h1 h2 hok hc
  go_enter Tryz.func64, Tryz.ntmps64
  go_wp2_with fail
  generalize w.alloc (.cells #[.slice a2 way.length cap2, .int .i64 start] 72) = wb at hz HB c0 c1 hc' C1 ⊢
  refine C1.out.mono ?_
  rintro e w1 ⟨rfl, hb⟩
  have d1 := (hb.cell (p := ⟨w.heap.size, 1, none⟩) hz).trans c1
  have HB2 := Lib.hid (bthen HB.out hb)
  clear hb c0 c1 C1
  go_wp2_with fail
  refine (within_any start 0 100000 _).mono ?_
  rintro e w' ⟨rfl, rfl⟩
  rw [H2.out]
  go_wp2_with fail
  go_ret
  exact ⟨rfl, HB2.out⟩

theorem validWishes_yes (times : List Int) (xs : List WishP) (tv lv : Value) (w : World) (ht : RI w tv times) (hx : WishI w lv xs) (hok : okWishes times xs = true) :
    Calls Tryz.prog 55 #[tv, lv] w fun e w' => e = .returned (.bool true) ∧ Below w.heap.size w w' := by
  obtain ⟨a, cap, rfl⟩ := ht.shape
  obtain ⟨a2, cap2, rfl, _, _⟩ := hx.shape
  unfold okWishes at hok
  simp only [Bool.and_eq_true, decide_eq_true_eq] at hok
  obtain ⟨⟨h1, h2⟩, h3⟩ := hok
  have hmf : ∀ (fn : Fn) (first cap : Array Value) (w : World), (Instr.makeFunc fn first cap).run Tryz.prog w = .ok (.func fn first cap) w := fun _ _ _ _ => rfl
  have HB := Lib.hid ((Below.refl w.heap.size w).alloc (Nat.le_refl _) (.cells #[.slice a times.length cap] 24))
  have hz : w.heap.size < (w.alloc (.cells #[.slice a times.length cap] 24)).heap.size := by simp
  have c0 : (w.alloc (.cells #[.slice a times.length cap] 24)).cell? ⟨w.heap.size, 0, none⟩ = some (.slice a times.length cap) := by rw [World.cell?_alloc_at _ _ _ _ rfl]; rfl
  have HT := Lib.hid (ht.below HB.out)
  have HX := Lib.hid (hx.below HB.out)
  have H1 := Lib.hid h1
  have H3 := Lib.hid h3
  have d2 : decide ((xs.length : Int) ≤ 6) = true := decide_eq_true (by omega)
  have d3 : decide (xs.length ≤ 6) = true := decide_eq_true h2
  clear ht hx h1 h3
  go_enter Tryz.func55, Tryz.ntmps55
  go_wp2_with fail
  generalize w.alloc (.cells #[.slice a times.length cap] 24) = wb at hz HB c0 HT HX ⊢
  refine (validTimes_yes times _ _ HT.out H1.out).mono ?_
  rintro e w1 ⟨rfl, hb⟩
  have HB2 := Lib.hid (bthen HB.out hb)
  have HT2 := Lib.hid (HT.out.below hb)
  have HX2 := Lib.hid (HX.out.below hb)
  have c1 := (hb.cell (p := ⟨w.heap.size, 0, none⟩) hz).trans c0
  have hz1 := Nat.lt_of_lt_of_le hz hb.size
  clear hb c0 hz
  go_wp2_with fail
  refine (containsNoneWish_any 88 #[.pointer (some ⟨w.heap.size, 0, none⟩)] _ xs _ validWishes1_enters ?_ HX2.out).mono ?_
  · intro W k s hk hb hs
    refine (validWishes1_no times (xs.getD k zW) (.slice a times.length cap) s w.heap.size W (Nat.lt_of_lt_of_le hz1 hb.size) ((hb.cell (p := ⟨w.heap.size, 0, none⟩) hz1).trans c1) (HT2.out.below hb) hs H1.out ?_).mono fun e w' ⟨he, hb'⟩ => ⟨he, bthen hb hb'⟩
    rw [show xs.getD k zW = xs[k] by simp [List.getD, hk]]
    exact List.all_eq_true.1 H3.out _ (List.getElem_mem hk)
  · rintro e w' ⟨rfl, hb'⟩
    have HB3 := Lib.hid (bthen HB2.out hb')
    clear hb'
    go_wp2_with fail
    go_ret
    exact ⟨rfl, HB3.out⟩

theorem validRuns_yes (times : List Int) (xs : List RunP) (tv lv : Value) (w : World) (ht : RI w tv times) (hx : RunsI w lv xs) (hok : okTimes times = true) (hl : xs.length ≤ 12) (hxs : ∀ x ∈ xs, okWay times x.1 = true ∧ inB 0 100000 x.2 = true) :
    Calls Tryz.prog 33 #[tv, lv] w fun e w' => e = .returned (.bool true) ∧ Below w.heap.size w w' := by
  obtain ⟨a, cap, rfl⟩ := ht.shape
  obtain ⟨a2, cap2, rfl, _, _⟩ := hx.shape
  have hmf : ∀ (fn : Fn) (first cap : Array Value) (w : World), (Instr.makeFunc fn first cap).run Tryz.prog w = .ok (.func fn first cap) w := fun _ _ _ _ => rfl
  have HB := Lib.hid ((Below.refl w.heap.size w).alloc (Nat.le_refl _) (.cells #[.slice a times.length cap] 24))
  have hz : w.heap.size < (w.alloc (.cells #[.slice a times.length cap] 24)).heap.size := by simp
  have c0 : (w.alloc (.cells #[.slice a times.length cap] 24)).cell? ⟨w.heap.size, 0, none⟩ = some (.slice a times.length cap) := by rw [World.cell?_alloc_at _ _ _ _ rfl]; rfl
  have HT := Lib.hid (ht.below HB.out)
  have HX := Lib.hid (hx.below HB.out)
  have H1 := Lib.hid hok
  have H3 := Lib.hid hxs
  have d2 : decide ((xs.length : Int) ≤ 12) = true := decide_eq_true (by omega)
  have d3 : decide (xs.length ≤ 12) = true := decide_eq_true hl
  clear ht hx hok hxs
  go_enter Tryz.func33, Tryz.ntmps33
  go_wp2_with fail
  generalize w.alloc (.cells #[.slice a times.length cap] 24) = wb at hz HB c0 HT HX ⊢
  refine (validTimes_yes times _ _ HT.out H1.out).mono ?_
  rintro e w1 ⟨rfl, hb⟩
  have HB2 := Lib.hid (bthen HB.out hb)
  have HT2 := Lib.hid (HT.out.below hb)
  have HX2 := Lib.hid (HX.out.below hb)
  have c1 := (hb.cell (p := ⟨w.heap.size, 0, none⟩) hz).trans c0
  have hz1 := Nat.lt_of_lt_of_le hz hb.size
  clear hb c0 hz
  go_wp2_with fail
  refine (containsNoneRun_any 64 #[.pointer (some ⟨w.heap.size, 0, none⟩)] _ xs _ validRuns1_enters ?_ HX2.out).mono ?_
  · intro W k s hk hb hs
    have hm : xs.getD k zR ∈ xs := by rw [show xs.getD k zR = xs[k] by simp [List.getD, hk]]; exact List.getElem_mem hk
    exact (validRuns1_no times (xs.getD k zR) (.slice a times.length cap) s w.heap.size W (Nat.lt_of_lt_of_le hz1 hb.size) ((hb.cell (p := ⟨w.heap.size, 0, none⟩) hz1).trans c1) (HT2.out.below hb) hs H1.out (H3.out _ hm).1 (H3.out _ hm).2).mono fun e w' ⟨he, hb'⟩ => ⟨he, bthen hb hb'⟩
  · rintro e w' ⟨rfl, hb'⟩
    have HB3 := Lib.hid (bthen HB2.out hb')
    clear hb'
    go_wp2_with fail
    go_ret
    exact ⟨rfl, HB3.out⟩

/-- Of valid wishes and an order of all of them. -/
theorem wishesCode_ok (times : List Int) (xs : List WishP) (o : List Int) (tv lv ov : Value) (w : World) (ht : RI w tv times) (hx : WishI w lv xs) (ho : RI w ov o) (hok : okWishes times xs = true) (hor : okOrder xs.length o) :
    Calls Tryz.prog 29 #[tv, lv, ov] w fun e w' => e = .returned (.int .i64 0) ∧ Below w.heap.size w w' := by
  obtain ⟨a, cap, rfl⟩ := ht.shape
  obtain ⟨a2, cap2, rfl, _, _⟩ := hx.shape
  obtain ⟨a3, cap3, rfl⟩ := ho.shape
  have h6 : xs.length ≤ 6 := by
    unfold okWishes at hok
    simp only [Bool.and_eq_true, decide_eq_true_eq] at hok
    exact hok.1.2
  have C1 := Lib.hid (validWishes_yes times xs _ _ w ht hx hok)
  have HO := Lib.hid ho
  have HOR := Lib.hid hor
  have hol : o.length ≤ xs.length := Nat.le_of_eq hor.1
  have hol2 : xs.length ≤ o.length := Nat.le_of_eq hor.1.symm
  clear ht hx ho hok hor
  go_enter Tryz.func29, Tryz.ntmps29
  go_wp2_with fail
  refine C1.out.mono ?_
  rintro e w1 ⟨rfl, hb1⟩
  have HB1 := Lib.hid hb1
  have HO1 := Lib.hid (HO.out.below hb1)
  clear hb1 HO
  go_wp2_with fail
  go_loop [15] (fun i => ∃ k : Nat, k ≤ o.length ∧ i = .int .i64 k) (fun i => o.length - (intOf i).toNat)
  case atStart => exact ⟨0, Nat.zero_le _, rfl⟩
  case round =>
    obtain ⟨k, hk, rfl⟩ := hrel
    by_cases hlt : k < o.length
    · obtain ⟨vc, hvc, hrun⟩ := cutToI HO1.out k hk
      obtain ⟨b, off, rfl, hbl, hc⟩ := HO1.out.cells (by omega)
      have g1 := hc k hlt
      have hm : o.getD k 0 ∈ o := by rw [show o.getD k 0 = o[k] by simp [List.getD, hlt]]; exact List.getElem_mem hlt
      have hbd := HOR.out.2.1 _ hm
      have hnot : hasI (o.take k) (o.getD k 0) = false := by
        rw [hasI_not]
        intro hq
        obtain ⟨j, hj, he⟩ := List.getElem_of_mem hq
        rw [List.getElem_take] at he
        have hjk : j < k := by simp at hj; omega
        have := List.pairwise_iff_getElem.1 HOR.out.2.2 j k (by omega) hlt hjk
        rw [he] at this
        exact this (by simp [List.getD, hlt])
      have hin : inB 0 ((xs.length : Int) - 1) (o.getD k 0) = true := by unfold inB; rw [Bool.and_eq_true]; exact ⟨decide_eq_true (by omega), decide_eq_true (by omega)⟩
      have C2 := containsI_any vc (o.take k) (o.getD k 0) w1 hvc
      rw [hnot] at C2
      have D2 := Lib.hid C2
      have C3 := within_any (o.getD k 0) 0 ((xs.length : Int) - 1) w1
      rw [hin] at C3
      have D3 := Lib.hid C3
      have hr : ∀ W, (Instr.slice 24 (.slice (some ⟨b, off, none⟩) o.length cap3) none (some (.int .i64 (k : Int))) none).run Tryz.prog W = .ok vc W := fun W => hrun W k rfl
      have hw1 : IntKind.i64.wrap ((xs.length : Int) - 1) = (xs.length : Int) - 1 := IntWalk.i64_in _ (by omega)
      obtain ⟨x, hx⟩ : ∃ x, o.getD k 0 = x := ⟨_, rfl⟩
      clear hc hm hbd hnot hin C2 C3 hrun hvc
      rw [hx] at g1 D2 D3
      clear hx
      go_wp2_with fail
      refine D3.out.mono ?_
      rintro e w' ⟨rfl, rfl⟩
      go_wp2_with fail
      refine D2.out.mono ?_
      rintro e w' ⟨rfl, rfl⟩
      go_wp2_with fail
      go_round
      case rel => exact ⟨k + 1, by omega, by go_num⟩
      case measure => simp [intOf]; omega
    · have hd : decide ((k : Int) < (o.length : Int)) = false := decide_eq_false (by omega)
      have e1 : ((o.length : Int) != (xs.length : Int)) = false := by rw [bne_eq_false_iff_eq]; omega
      have e2 : (o.length != xs.length) = false := by rw [bne_eq_false_iff_eq]; omega
      go_wp2_with fail
      go_ret
      exact ⟨rfl, HB1.out⟩

end Go.Proofs.YthlpbeohlhhblaaGreat
namespace Go.Proofs.YthlpbeohlhhblaaGreat
open Go.RowKit

set_option maxRecDepth 100000 in
theorem delayOf_any (xs : List WishP) (rs : List RunP) (lv rv : Value) (w : World) (hx : WishI w lv xs) (hr : RunsI w rv rs) (hl : rs.length = xs.length) (h6 : xs.length ≤ 6)
    (hb : ∀ i, i < xs.length → 0 ≤ (xs.getD i zW).2.1 ∧ (xs.getD i zW).2.1 ≤ 10000 ∧ 0 ≤ (rs.getD i zR).2 ∧ (rs.getD i zR).2 ≤ 100000) :
    Calls Tryz.prog 28 #[lv, rv] w fun e w' => e = .returned (.int .i64 (delay xs rs xs.length)) ∧ Below w.heap.size w w' := by
  obtain ⟨a2, cap2, rfl, _, _⟩ := hx.shape
  obtain ⟨a, cap, rfl, _, _⟩ := hr.shape
  have HX := Lib.hid hx
  have HR := Lib.hid hr
  have HL := Lib.hid hl
  have HBD := Lib.hid hb
  have h6r : rs.length ≤ 6 := by omega
  clear hx hr hl hb
  go_enter Tryz.func28, Tryz.ntmps28
  go_wp2_with fail
  go_loopw [5, 10] (fun s i wr => ∃ k : Nat, k ≤ rs.length ∧ i = .int .i64 k ∧ s = .int .i64 (delay xs rs k) ∧ -100000 * (k : Int) ≤ delay xs rs k ∧ delay xs rs k ≤ 100000 * (k : Int) ∧ Below w.heap.size w wr) (fun _ i _ => rs.length - (intOf i).toNat)
  case atStart => exact ⟨0, Nat.zero_le _, rfl, rfl, by simp [delay, sumI], by simp [delay, sumI], Below.refl _ _⟩
  case round =>
    rename World => wr
    obtain ⟨k, hk, rfl, rfl, hd1, hd2, hb⟩ := hrel
    by_cases hlt : k < rs.length
    · obtain ⟨b, off, rfl, hbl, hc⟩ := HR.out.cells (by omega)
      obtain ⟨s, hs, c0, c1⟩ := hc k hlt
      obtain ⟨b2, off2, rfl, hbl2, hc2⟩ := HX.out.cells (by have := HL.out; omega)
      obtain ⟨s2, hs2, e0, e1, e2⟩ := hc2 k (by have := HL.out; omega)
      have g0 := (hb.cell (p := ⟨b, off + k * 2, none⟩) hbl).trans c0
      have g1 := (hb.cell (p := ⟨b, off + k * 2 + 1, none⟩) hbl).trans c1
      have g2 := (hb.cell (p := ⟨b2, off2 + k * 3 + 1, none⟩) hbl2).trans e1
      obtain ⟨q1, q2, q3, q4⟩ := HBD.out k (by have := HL.out; omega)
      have S1 := Lib.hid (delay_succ xs rs k)
      have hkx : k < xs.length := by have := HL.out; omega
      clear hc hc2 c0 c1 e0 e1 e2 hs2
      generalize (rs.getD k zR).2 = st at g1 q3 q4 S1
      generalize (xs.getD k zW).2.1 = rd at g2 q1 q2 S1
      generalize delay xs rs k = dl at hd1 hd2 S1 ⊢
      obtain ⟨aw, cw, hsh⟩ := hs.shape
      subst hsh
      generalize (rs.getD k zR).1.length = wl at g0
      clear hs
      have hw1 : IntKind.i64.wrap (st - rd) = st - rd := IntWalk.i64_in _ (by omega)
      have hw2 : IntKind.i64.wrap (dl + (st - rd)) = dl + (st - rd) := IntWalk.i64_in _ (by omega)
      have HB2 := Lib.hid (fun n : Nat => below_drewN (hb.alloc hb.size (.cells #[.slice aw wl cw, .int .i64 st] 72)) n)
      have k1 : (wr.alloc (.cells #[.slice aw wl cw, .int .i64 st] 72)).cell? ⟨wr.heap.size, 1, none⟩ = some (.int .i64 st) := by rw [World.cell?_alloc_at _ _ _ _ rfl]; rfl
      have k2 : (wr.alloc (.cells #[.slice aw wl cw, .int .i64 st] 72)).cell? ⟨b2, off2 + k * 3 + 1, none⟩ = some (.int .i64 rd) := ((Below.refl wr.heap.size wr).alloc (Nat.le_refl _) _).cell (p := ⟨b2, off2 + k * 3 + 1, none⟩) (Nat.lt_of_lt_of_le hbl2 hb.size) |>.trans g2
      clear hb
      go_wp2_with fail
      go_quiet (fail)
      go_wp2_with fail
      go_roundw
      case rel => exact ⟨k + 1, by omega, by go_num, by rw [S1.out], by rw [S1.out]; omega, by rw [S1.out]; omega, HB2.out _⟩
      case measure => simp [intOf]; omega
    · have hkl : k = xs.length := by have := HL.out; omega
      have HKL := Lib.hid hkl
      clear hkl
      go_wp2_with fail
      go_ret
      exact ⟨ret_int (by rw [HKL.out]), hb⟩

/-- The runs that runsOfPlan hands back, read. -/
theorem plan_runs {w w' : World} {v : Value} {rs : List (Value × Int)} {xs : List RunP} {e : TypeId} (ho : OV RV e w' w.heap.size v rs) (hr : RunRows w rs xs) (hb : Below w.heap.size w w') : RunsI w' v xs := ⟨rs, ho.si, hr.below hb⟩

theorem okWishes_len {times : List Int} {xs : List WishP} (hok : okWishes times xs = true) : xs.length ≤ 6 := by
  unfold okWishes at hok
  simp only [Bool.and_eq_true, decide_eq_true_eq] at hok
  exact hok.1.2
theorem okWishes_times {times : List Int} {xs : List WishP} (hok : okWishes times xs = true) : okTimes times = true := by
  unfold okWishes at hok
  simp only [Bool.and_eq_true, decide_eq_true_eq] at hok
  exact hok.1.1
theorem plan_bounds {times : List Int} {xs : List WishP} (hok : okWishes times xs = true) {o : List Int} (ho : okOrder xs.length o) (i : Nat) (hi : i < xs.length) :
    0 ≤ (xs.getD i zW).2.1 ∧ (xs.getD i zW).2.1 ≤ 10000 ∧ 0 ≤ ((plan times xs o).getD i zR).2 ∧ ((plan times xs o).getD i zR).2 ≤ 100000 := by
  have f := plan_fits hok ho hi
  have hr := (okWishes_at hok (k := i) (by omega) (by omega)).2.2.2.1
  rw [Int.toNat_natCast] at hr
  unfold inB at hr
  simp only [Bool.and_eq_true, decide_eq_true_eq] at hr
  omega

set_option maxRecDepth 100000 in
theorem sumOfDelays_any (times : List Int) (xs : List WishP) (o : List Int) (tv lv ov : Value) (w : World) (ht : RI w tv times) (hx : WishI w lv xs) (ho : RI w ov o) (hok : okWishes times xs = true) (hor : okOrder xs.length o) :
    Calls Tryz.prog 8 #[tv, lv, ov] w fun e w' => e = .returned (.tuple #[.int .i64 (cost times xs o), .int .i64 0]) ∧ Below w.heap.size w w' := by
  have C1 := Lib.hid (wishesCode_ok times xs o tv lv ov w ht hx ho hok hor)
  have HT := Lib.hid ht
  have HX := Lib.hid hx
  have HO := Lib.hid ho
  have HOK := Lib.hid hok
  have HOR := Lib.hid hor
  clear ht hx ho hok hor
  go_enter Tryz.func8, Tryz.ntmps8
  go_wp2_with fail
  refine C1.out.mono ?_
  rintro e w1 ⟨rfl, hb1⟩
  have HB1 := Lib.hid hb1
  clear hb1 C1
  go_wp2_with fail
  refine (runsOfPlan_any times xs o tv lv ov _ (HT.out.below HB1.out) (HX.out.below HB1.out) (HO.out.below HB1.out) HOK.out HOR.out).mono ?_
  rintro e w2 ⟨v2, rs, rfl, ho2, hr2, hb2⟩
  have HR2 := Lib.hid (plan_runs ho2 hr2 hb2)
  have HB2 := Lib.hid (bthen HB1.out hb2)
  clear ho2 hr2 hb2
  go_wp2_with fail
  refine (delayOf_any xs (plan times xs o) lv v2 _ (HX.out.below HB2.out) HR2.out (plan_length _ _ _) (okWishes_len HOK.out) (plan_bounds HOK.out HOR.out)).mono ?_
  rintro e w3 ⟨rfl, hb3⟩
  have HB3 := Lib.hid (bthen HB2.out hb3)
  clear hb3
  go_wp2_with fail
  go_ret2
  exact ⟨rfl, HB3.out⟩

end Go.Proofs.YthlpbeohlhhblaaGreat
