/-
  LeaksExplain of the reference and of the program: what each returns.
-/
import Derived.Test.YtpgnndpjlcihiaaDoorLosses
import Derived.Test.YtpgnndpjlcihiaaDoorSums
import Derived.Test.YtpgnndpjlcihiaaDoorCut
import Derived.Test.YtpgnndpjlcihiaaDoorSlices
namespace Go.Proofs.YtpgnndpjlcihiaaDoor
open Go.RowKit

/-- Do leaks explain a test? -/
def expl (ls : List Int) (x : Int × Int × Int) : Bool := sumI ((ls.take x.2.1.toNat).drop x.1.toNat) == x.2.2
def okLeaks (n : Int) (ls : List Int) : Bool := ls.all (inB 0 10000) && decide ((ls.length : Int) = n)
def valLeaks (n : Int) (xs : List (Int × Int × Int)) (ls : List Int) : Bool × Int := if okLosses n xs then (if okLeaks n ls then (xs.all (expl ls), 0) else (false, 2)) else (false, 1)

theorem leaks_part {ls : List Int} (h : ls.all (inB 0 10000) = true) (hl : ls.length ≤ 9) (lo hi k : Nat) : Good (sumI (((ls.take hi).drop lo).take k)) := by
  have hb := sumI_bound (((ls.take hi).drop lo).take k) 10000 (fun x hx => by
    have hx2 := List.mem_of_mem_take (List.mem_of_mem_drop (List.mem_of_mem_take hx))
    have := List.all_eq_true.1 h x hx2
    simpa [inB] using this)
  have : (((ls.take hi).drop lo).take k).length ≤ 9 := by simp; omega
  unfold Good; omega
theorem okLosses_n {n : Int} {xs : List (Int × Int × Int)} (h : okLosses n xs = true) : 1 ≤ n ∧ n ≤ 9 := by
  simp only [okLosses, Bool.and_eq_true] at h
  simpa [inB] using h.1.1
theorem okLosses_mem {n : Int} {xs : List (Int × Int × Int)} (h : okLosses n xs = true) {x : Int × Int × Int} (hx : x ∈ xs) : 0 ≤ x.1 ∧ x.1 < x.2.1 ∧ x.2.1 ≤ n ∧ 0 ≤ x.2.2 ∧ x.2.2 ≤ 10000 := by
  simp only [okLosses, Bool.and_eq_true, List.all_eq_true] at h
  have := h.1.2 x hx
  simp only [okLoss, inB, Bool.and_eq_true, decide_eq_true_eq] at this
  omega

/-! ### the reference -/
theorem l15Explain_any (n : Int) (v : Value) (xs : List (Int × Int × Int)) (u : Value) (ls : List Int) (w : World) (hv : SI P3 w v xs) (hu : RI w u ls) (h1 : okLosses n xs = true) (h2 : okLeaks n ls = true) :
    Calls Tryd.prog 53 #[v, u] w fun e w' => e = .returned (.bool (xs.all (expl ls))) ∧ Below w.heap.size w w' := by
  obtain ⟨a, cap, rfl⟩ := hv.shape
  obtain ⟨a2, cap2, rfl⟩ := hu.shape
  have hl := hv.len
  have hl2 := hu.len
  have hn := okLosses_n h1
  simp only [okLeaks, Bool.and_eq_true, decide_eq_true_eq] at h2
  obtain ⟨h2a, h2n⟩ := h2
  have HV := Lib.hid hv
  have HU := Lib.hid hu
  have H1 := Lib.hid h1
  have H2 := Lib.hid h2a
  clear hv hu h1 h2a
  go_enter Tryd.func53, Tryd.ntmps53
  go_wp2
  go_loopw [5] (fun i wr => ∃ k : Nat, k ≤ xs.length ∧ i = .int .i64 k ∧ Below w.heap.size w wr ∧ (xs.take k).all (expl ls) = true) (fun i _ => xs.length - (intOf i).toNat)
  case atStart => exact ⟨0, Nat.zero_le _, rfl, Below.refl _ _, rfl⟩
  case round =>
    obtain ⟨k, hk, rfl, hw, hall⟩ := hrel
    have HA := Lib.hid hall
    clear hall
    by_cases hlt : k < xs.length
    · obtain ⟨b, off, rfl, hb, hc⟩ := HV.out.cells3 (by omega)
      obtain ⟨g1, g2, g3⟩ := hc k hlt
      replace g1 := (hw.cell (p := ⟨b, off + k * 3, none⟩) hb).trans g1
      replace g2 := (hw.cell (p := ⟨b, off + k * 3 + 1, none⟩) hb).trans g2
      replace g3 := (hw.cell (p := ⟨b, off + k * 3 + 2, none⟩) hb).trans g3
      clear hc
      have S1 := take_snocG (0, 0, 0) xs k hlt
      have hmem : xs.getD k (0, 0, 0) ∈ xs := by simp only [List.getD, List.getElem?_eq_getElem hlt, Option.getD_some]; exact List.getElem_mem hlt
      have hmb := okLosses_mem H1.out hmem
      generalize xs.getD k (0, 0, 0) = p at g1 g2 g3 S1 hmem hmb
      obtain ⟨f, t, l⟩ := p
      simp only at g1 g2 g3 hmb
      obtain ⟨m1, m2, m3, m4, m5⟩ := hmb
      obtain ⟨F, rfl⟩ : ∃ F : Nat, f = F := ⟨f.toNat, by omega⟩
      obtain ⟨T, rfl⟩ : ∃ T : Nat, t = T := ⟨t.toNat, by omega⟩
      have HS := Lib.hid S1
      have HM := Lib.hid hmem
      obtain ⟨v1, hv1, hcut⟩ := cutI (HU.out) F T (by omega) (by omega)
      have hcut' := fun W => hcut W (F : Int) (T : Int) rfl rfl
      have HC := Lib.hid (fun (W : World) (h : Below w.heap.size w W) => l00Sum_any v1 _ W (hv1.below h) (leaks_part H2.out (by omega) F T))
      have hex : expl ls ((F : Int), (T : Int), l) = (sumI ((ls.take T).drop F) == l) := by simp [expl]
      generalize sumI ((ls.take T).drop F) = s at HC hex
      have hky : (k : Int) < xs.length := by omega
      have hk0 : (0 : Int) ≤ k := by omega
      clear hcut hv1 S1 hmem
      by_cases hsl : s = l
      · have hne : (s != l) = false := by simp [hsl]
        have HX := Lib.hid (show expl ls ((F : Int), (T : Int), l) = true by rw [hex]; simp [hsl])
        clear hex hsl
        go_wp2_with fail
        go_quiet ((go_at_call 68; exact quiet_eq (HC.out _ (below_drewN hw _))))
        rename_i nq
        go_wp2
        go_roundw
        case rel => exact ⟨k + 1, by omega, by go_num, below_drewN hw _, by rw [HS.out, List.all_append, HA.out]; simp [HX.out]⟩
        case measure => simp [intOf]; omega
      · have hne : (s != l) = true := by simp [hsl]
        have HX := Lib.hid (show xs.all (expl ls) = false by rw [List.all_eq_false]; exact ⟨_, HM.out, by rw [hex]; simp [hsl]⟩)
        clear hex hsl
        go_wp2_with fail
        go_quiet ((go_at_call 68; exact quiet_eq (HC.out _ (below_drewN hw _))))
        rename_i nq
        go_wp2
        go_ret
        exact ⟨ret_bool HX.out.symm, below_drewN hw _⟩
    · have hkn : k = xs.length := by omega
      subst hkn
      have HX := Lib.hid (show xs.all (expl ls) = true by have := HA.out; rwa [List.take_length] at this)
      go_wp2
      go_ret
      exact ⟨ret_bool HX.out.symm, hw⟩

theorem specLeaksExplain_any (n : Int) (v : Value) (xs : List (Int × Int × Int)) (u : Value) (ls : List Int) (w : World) (hv : SI P3 w v xs) (hu : RI w u ls) :
    Calls Tryd.prog 18 #[.int .i64 n, v, u] w fun e w' => e = .returned (.tuple #[.bool (valLeaks n xs ls).1, .int .i64 (valLeaks n xs ls).2]) ∧ Below w.heap.size w w' := by
  obtain ⟨a2, cap2, rfl⟩ := hu.shape
  have hl2 := hu.len
  have HV := Lib.hid hv
  have HU := Lib.hid hu
  have C1 := l15Ok_any n v xs w hv
  clear hv hu
  cases h1 : okLosses n xs with
  | false =>
    rw [h1] at C1
    have D1 := Lib.hid C1
    have HE := Lib.hid (show valLeaks n xs ls = (false, 1) by simp [valLeaks, h1])
    clear C1 h1
    go_enter Tryd.func18, Tryd.ntmps18
    go_wp2_with (go_at_call 41; refine D1.out.mono ?_; rintro e w1 ⟨rfl, hb1⟩)
    go_ret2
    exact ⟨by rw [HE.out]; rfl, hb1⟩
  | true =>
    rw [h1] at C1
    have D1 := Lib.hid C1
    have H1 := Lib.hid h1
    have HEb := Lib.hid (fun (h : okLeaks n ls = false) => show valLeaks n xs ls = (false, 2) by simp [valLeaks, h1, h])
    have HEg := Lib.hid (fun (h : okLeaks n ls = true) => show valLeaks n xs ls = (xs.all (expl ls), 0) by simp [valLeaks, h1, h])
    clear C1 h1
    go_enter Tryd.func18, Tryd.ntmps18
    go_wp2_with (go_at_call 41; refine D1.out.mono ?_; rintro e w1 ⟨rfl, hb1⟩)
    go_loopw [8] (fun i wr => ∃ k : Nat, k ≤ ls.length ∧ i = .int .i64 k ∧ Below w.heap.size w wr ∧ (ls.take k).all (inB 0 10000) = true) (fun i _ => ls.length - (intOf i).toNat)
    case atStart => exact ⟨0, Nat.zero_le _, rfl, hb1, rfl⟩
    case round =>
      obtain ⟨k, hk, rfl, hw, hall⟩ := hrel
      have HA := Lib.hid hall
      clear hall
      by_cases hlt : k < ls.length
      · obtain ⟨b, off, rfl, hb, hc⟩ := HU.out.cells (by omega)
        have g1 := (hw.cell (p := ⟨b, off + k, none⟩) hb).trans (hc k hlt)
        clear hc
        have S1 := take_snoc ls k hlt
        have hmem : ls.getD k 0 ∈ ls := by simp only [List.getD, List.getElem?_eq_getElem hlt, Option.getD_some]; exact List.getElem_mem hlt
        generalize ls.getD k 0 = x at g1 S1 hmem
        have HS := Lib.hid S1
        have HM := Lib.hid hmem
        clear S1 hmem
        cases h2 : inB 0 10000 x with
        | false =>
          have HE := Lib.hid (HEb.out (by
            have : ls.all (inB 0 10000) = false := by rw [List.all_eq_false]; exact ⟨_, HM.out, by simp [h2]⟩
            simp [okLeaks, this]))
          go_wp2_with (go_at_call 52; refine (l00In_any _ _ _ _).mono ?_; rintro e w' ⟨rfl, rfl⟩; rw [h2])
          go_ret2
          exact ⟨by rw [HE.out]; rfl, hw⟩
        | true =>
          have HY := Lib.hid h2
          go_wp2_with (go_at_call 52; refine (l00In_any _ _ _ _).mono ?_; rintro e w' ⟨rfl, rfl⟩; rw [h2])
          go_roundw
          case rel => exact ⟨k + 1, by omega, by go_num, hw, by rw [HS.out, List.all_append, HA.out]; simp [HY.out]⟩
          case measure => simp [intOf]; omega
      · have hkn : k = ls.length := by omega
        subst hkn
        have ha : ls.all (inB 0 10000) = true := by have := HA.out; rwa [List.take_length] at this
        by_cases hne : (ls.length : Int) = n
        · have hnb : ((ls.length : Int) != n) = false := by simp [hne]
          have hok : okLeaks n ls = true := by simp [okLeaks, ha, hne]
          have HE := Lib.hid (HEg.out hok)
          have C2 := Lib.hid (l15Explain_any n v xs _ ls wr (HV.out.below hw) (HU.out.below hw) H1.out hok)
          clear hne hok ha
          go_wp2_with (go_at_call 53; refine C2.out.mono ?_; rintro e w2 ⟨rfl, hb2⟩)
          go_ret2
          exact ⟨by rw [HE.out]; rfl, bthen hw hb2⟩
        · have hnb : ((ls.length : Int) != n) = true := by simp [hne]
          have HE := Lib.hid (HEb.out (by simp [okLeaks, hne]))
          clear hne ha
          go_wp2
          go_ret2
          exact ⟨by rw [HE.out]; rfl, hw⟩

/-! ### the program -/
theorem leaksExplain_enters : ∀ args w, (callFunc 50 args).run Tryd.prog w = .ok (.enter 50 args) w := enters_of Tryd.func50 (by kernel_rfl) rfl

theorem leaksExplain1_any (f t l : Int) (n : Int) (ls : List Int) (u : Value) (b1 : Nat) (w : World) (h : w.cell? ⟨b1, 0, none⟩ = some u) (hb1 : b1 < w.heap.size) (hu : RI w u ls) (hn : n ≤ 9) (h2 : okLeaks n ls = true) (m : 0 ≤ f ∧ f < t ∧ t ≤ n) :
    Calls Tryd.prog 50 #[.agg #[.int .i64 f, .int .i64 t, .int .i64 l], .pointer (some ⟨b1, 0, none⟩)] w fun e w' => e = .returned (.bool (!expl ls (f, t, l))) ∧ Below w.heap.size w w' := by
  obtain ⟨a2, cap2, rfl⟩ := hu.shape
  have hl2 := hu.len
  have HU := Lib.hid hu
  simp only [okLeaks, Bool.and_eq_true, decide_eq_true_eq] at h2
  obtain ⟨h2a, h2n⟩ := h2
  have H2 := Lib.hid h2a
  clear hu h2a
  obtain ⟨m1, m2, m3⟩ := m
  obtain ⟨F, rfl⟩ : ∃ F : Nat, f = F := ⟨f.toNat, by omega⟩
  obtain ⟨T, rfl⟩ : ∃ T : Nat, t = T := ⟨t.toNat, by omega⟩
  have B0 : Below w.heap.size w (w.alloc (.cells #[.int .i64 (F : Int), .int .i64 (T : Int), .int .i64 l] 25)) := (Below.refl _ _).alloc (Nat.le_refl _) _
  have h3 := (B0.cell (p := ⟨b1, 0, none⟩) hb1).trans h
  obtain ⟨v1, hv1, hcut⟩ := cutI (HU.out) F T (by omega) (by omega)
  have hcut' := fun W => hcut W (F : Int) (T : Int) rfl rfl
  have HC := Lib.hid (fun (W : World) (h : Below w.heap.size w W) => sumOf_any v1 _ W (hv1.below h) (leaks_part H2.out (by omega) F T))
  have hex : (!expl ls ((F : Int), (T : Int), l)) = (sumI ((ls.take T).drop F) != l) := by simp [expl, bne]
  rw [hex]
  generalize sumI ((ls.take T).drop F) = s at HC
  clear hcut hv1 hex
  go_enter Tryd.func50, Tryd.ntmps50
  go_wp2_with fail
  go_quiet ((go_at_call 51; exact quiet_eq (HC.out _ (below_drewN B0 _))))
  rename_i nq
  go_wp2
  go_ret
  exact ⟨rfl, below_drewN B0 _⟩

theorem any_not_all {α : Type} (p : α → Bool) (xs : List α) : (!(xs.any fun x => !p x)) = xs.all p := by
  induction xs with
  | nil => rfl
  | cons x xs ih => simp [List.all_cons, List.any_cons, ← ih]

theorem implLeaksExplain_any (n : Int) (v : Value) (xs : List (Int × Int × Int)) (u : Value) (ls : List Int) (w : World) (hv : SI P3 w v xs) (hu : RI w u ls) :
    Calls Tryd.prog 17 #[.int .i64 n, v, u] w fun e w' => e = .returned (.tuple #[.bool (valLeaks n xs ls).1, .int .i64 (valLeaks n xs ls).2]) ∧ Below w.heap.size w w' := by
  obtain ⟨a2, cap2, rfl⟩ := hu.shape
  have hl2 := hu.len
  have B0 : ∀ x : Value, Below w.heap.size w (w.alloc (.cells #[x] 33)) := fun x => (Below.refl _ _).alloc (Nat.le_refl _) _
  have HV := Lib.hid hv
  have HU := Lib.hid hu
  have C1 := fun (W : World) (h : SI P3 W v xs) => implValidLosses_any n v xs W h
  have hmf : ∀ (fn : Fn) (first cap : Array Value) (w : World), (Instr.makeFunc fn first cap).run Tryd.prog w = .ok (.func fn first cap) w := fun _ _ _ _ => rfl
  clear hv hu
  cases h1 : okLosses n xs with
  | false =>
    rw [h1] at C1
    have D1 := Lib.hid C1
    have HE := Lib.hid (show valLeaks n xs ls = (false, 1) by simp [valLeaks, h1])
    clear C1 h1
    go_enter Tryd.func17, Tryd.ntmps17
    go_wp2_with (go_at_call 27; refine (D1.out _ (HV.out.below (B0 _))).mono ?_; rintro e w1 ⟨rfl, hb1⟩)
    go_ret2
    exact ⟨by rw [HE.out]; rfl, bthen (B0 _) hb1⟩
  | true =>
    rw [h1] at C1
    have D1 := Lib.hid C1
    have H1 := Lib.hid h1
    have HEb := Lib.hid (fun (h : okLeaks n ls = false) => show valLeaks n xs ls = (false, 2) by simp [valLeaks, h1, h])
    have HEg := Lib.hid (fun (h : okLeaks n ls = true) => show valLeaks n xs ls = (xs.all (expl ls), 0) by simp [valLeaks, h1, h])
    clear C1 h1
    have hcell : ∀ x : Value, (w.alloc (.cells #[x] 33)).cell? ⟨w.heap.size, 0, none⟩ = some x := fun x => by rw [World.cell?_alloc_at _ _ _ _ rfl]; rfl
    by_cases hne : (ls.length : Int) = n
    · have hnb : ((ls.length : Int) != n) = false := by simp [hne]
      have hany := any_not_all (inB 0 10000) ls
      have C2 := Lib.hid (fun (W : World) (h : RI W (.slice a2 ls.length cap2) ls) => outside_any _ ls 0 10000 W h)
      cases hq : (ls.any fun n => !inB 0 10000 n) with
      | true =>
        have HQ := Lib.hid hq
        have HE := Lib.hid (HEb.out (by rw [hq] at hany; simp [okLeaks, ← hany]))
        clear hne hany hq
        go_enter Tryd.func17, Tryd.ntmps17
        go_wp2_with fail
        refine (D1.out _ (HV.out.below (B0 _))).mono ?_
        rintro e w1 ⟨rfl, hb1⟩
        have hw1 := bthen (B0 _) hb1
        have g1 := (hb1.cell (p := ⟨w.heap.size, 0, none⟩) (by simp)).trans (hcell _)
        go_wp2_with fail
        refine (C2.out _ (HU.out.below hw1)).mono ?_
        rintro e w2 ⟨rfl, hb2⟩
        rw [HQ.out]
        go_wp2
        go_ret2
        exact ⟨by rw [HE.out]; rfl, bthen hw1 hb2⟩
      | false =>
        have HQ := Lib.hid hq
        have hok : okLeaks n ls = true := by rw [hq] at hany; simp only [okLeaks, ← hany]; simp [hne]
        have HE := Lib.hid (HEg.out hok)
        have HOK := Lib.hid hok
        have HAN := Lib.hid (any_not_all (expl ls) xs)
        clear hne hany hq hok
        go_enter Tryd.func17, Tryd.ntmps17
        go_wp2_with fail
        refine (D1.out _ (HV.out.below (B0 _))).mono ?_
        rintro e w1 ⟨rfl, hb1⟩
        have hw1 := bthen (B0 _) hb1
        have g1 := (hb1.cell (p := ⟨w.heap.size, 0, none⟩) (by simp)).trans (hcell _)
        have hs1 : w.heap.size < w1.heap.size := Nat.lt_of_lt_of_le (by simp) hb1.size
        go_wp2_with fail
        refine (C2.out _ (HU.out.below hw1)).mono ?_
        rintro e w2 ⟨rfl, hb2⟩
        rw [HQ.out]
        have hw2 := bthen hw1 hb2
        have g2 := (hb2.cell (p := ⟨w.heap.size, 0, none⟩) hs1).trans g1
        have hs2 : w.heap.size < w2.heap.size := Nat.lt_of_lt_of_le hs1 hb2.size
        go_wp2_with fail
        refine (containsLoss_any 50 _ (fun t => !expl ls t) _ xs _ leaksExplain_enters ?_ (HV.out.below hw2)).mono ?_
        · intro W x y z hW hmem _ _ _
          have hm := okLosses_mem H1.out hmem
          refine (leaksExplain1_any x y z n ls _ w.heap.size W ((hW.cell (p := ⟨w.heap.size, 0, none⟩) hs2).trans g2) (Nat.lt_of_lt_of_le hs2 hW.size) (HU.out.below (bthen hw2 hW)) (okLosses_n H1.out).2 HOK.out ⟨hm.1, hm.2.1, hm.2.2.1⟩).mono fun e w' ⟨he, hb'⟩ => ⟨he, bthen hW hb'⟩
        · rintro e w3 ⟨rfl, hb3⟩
          have hA := HAN.out
          generalize (xs.any fun t => !expl ls t) = q at hA
          have HA := Lib.hid hA
          clear hA
          go_wp2
          go_ret2
          exact ⟨by rw [HE.out, ← HA.out]; rfl, bthen hw2 hb3⟩
    · have hnb : ((ls.length : Int) != n) = true := by simp [hne]
      have HE := Lib.hid (HEb.out (by simp [okLeaks, hne]))
      clear hne
      go_enter Tryd.func17, Tryd.ntmps17
      go_wp2_with fail
      refine (D1.out _ (HV.out.below (B0 _))).mono ?_
      rintro e w1 ⟨rfl, hb1⟩
      have hw1 := bthen (B0 _) hb1
      have g1 := (hb1.cell (p := ⟨w.heap.size, 0, none⟩) (by simp)).trans (hcell _)
      go_wp2
      go_ret2
      exact ⟨by rw [HE.out]; rfl, hw1⟩

end Go.Proofs.YtpgnndpjlcihiaaDoor
