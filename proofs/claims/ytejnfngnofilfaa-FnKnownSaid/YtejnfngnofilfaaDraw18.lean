/-
  The stuck switches that the laws draw.
-/
import Derived.Test.YtejnfngnofilfaaSrcOne
import Derived.Test.YtejnfngnofilfaaRunPlain
import Derived.Test.YtejnfngnofilfaaRecStuck
namespace Go.Proofs.Ytejnfngnofilfaa
open Go.RowKit

theorem l18Small_any (d : Int) (w : World) (hd : inB 1 4 d = true) : Calls Try.prog 94 #[.int .i64 d] w fun e w' => e = .returned (.int .i64 d) ∧ w = w' := by
  have h : d = 1 ∨ d = 2 ∨ d = 3 ∨ d = 4 := depth_cases hd
  have hm : ∀ (a b : Int) (w : World), a ≤ b → Calls Try.prog 105 #[.int .i64 a, .int .i64 b] w fun e w' => e = .returned (.int .i64 a) ∧ w = w' := by
    intro a b w hab
    by_cases hlt : a < b
    · have hd1 : decide (a < b) = true := decide_eq_true hlt
      go_enter Try.func105, Try.ntmps105
      go_wp2
      go_ret
      exact ⟨rfl, rfl⟩
    · have hd1 : decide (a < b) = false := decide_eq_false hlt
      have he : b = a := by omega
      subst he
      go_enter Try.func105, Try.ntmps105
      go_wp2
      go_ret
      exact ⟨rfl, rfl⟩
  have hx : ∀ (a b : Int) (w : World), a ≤ b → Calls Try.prog 104 #[.int .i64 a, .int .i64 b] w fun e w' => e = .returned (.int .i64 b) ∧ w = w' := by
    intro a b w hab
    have hd1 : decide (b < a) = false := decide_eq_false (by omega)
    go_enter Try.func104, Try.ntmps104
    go_wp2
    go_ret
    exact ⟨rfl, rfl⟩
  have h4 : d ≤ 4 := by omega
  have h1 : 1 ≤ d := by omega
  have HM := Lib.hid hm
  have HX := Lib.hid hx
  clear hm hx h
  go_enter Try.func94, Try.ntmps94
  go_wp2_with (first
    | (go_at_call 105; refine (HM.out d 4 _ h4).mono ?_; rintro e w' ⟨rfl, rfl⟩)
    | (go_at_call 104; refine (HX.out 1 d _ h1).mono ?_; rintro e w' ⟨rfl, rfl⟩))
  go_ret
  exact ⟨rfl, rfl⟩

/-- Stuck switches below k, drawn one after another. -/
def drawn18 (xs : List (Int × Int)) (k : Nat) : Prop := (∀ p ∈ xs, 1 ≤ p.1 ∧ p.1 < k ∧ 0 ≤ p.2 ∧ p.2 ≤ 1) ∧ xs.Pairwise (fun a b => a.1 < b.1) ∧ xs.length ≤ k
theorem drawn18_nil : drawn18 [] 1 := ⟨by simp, List.Pairwise.nil, by simp⟩
theorem drawn18_no {xs : List (Int × Int)} {k : Nat} (h : drawn18 xs k) : drawn18 xs (k + 1) :=
  ⟨fun p hp => by have := h.1 p hp; omega, h.2.1, by have := h.2.2; omega⟩
theorem drawn18_yes {xs : List (Int × Int)} {k : Nat} (h : drawn18 xs k) (hk : 1 ≤ k) {s : Int} (hs : 0 ≤ s ∧ s ≤ 1) : drawn18 (xs ++ [((k : Int), s)]) (k + 1) := by
  refine ⟨fun p hp => ?_, ?_, by simp; exact h.2.2⟩
  · rcases List.mem_append.1 hp with hp | hp
    · have := h.1 p hp; omega
    · rw [List.mem_singleton.1 hp]; simp only; omega
  · rw [List.pairwise_append]
    refine ⟨h.2.1, List.pairwise_singleton _ _, fun a ha b hb => ?_⟩
    rw [List.mem_singleton.1 hb]
    exact (h.1 a ha).2.1
theorem drawn18_ok {n : Nat} (hd : inB 1 4 (n : Int) = true) {xs : List (Int × Int)} (h : drawn18 xs (2 ^ n)) : okStuck n xs = true := by
  have hE : ex (n : Int) = ((2 ^ n : Nat) : Int) := by simp [ex]
  refine okStuck_yes (fun j hj => ?_) hd
  have hm := h.1 _ (List.getElem_mem hj)
  have hg : xs.getD j (0, 0) = xs[j] := by simp [List.getD, hj]
  have hs : (decide (j = 0) || decide ((xs.getD (j - 1) (0, 0)).1 < (xs.getD j (0, 0)).1)) = true := by
    by_cases h0 : j = 0
    · simp [h0]
    · have := List.pairwise_iff_getElem.1 h.2.1 (j - 1) j (by omega) hj (by omega)
      rw [hg, show xs.getD (j - 1) (0, 0) = xs[j - 1]'(by omega) by simp [List.getD, show j - 1 < xs.length by omega]]
      simp [this]
  simp only [okS, hs, Bool.and_true]
  rw [hg, hE]
  simp only [inB, Bool.and_eq_true, decide_eq_true_eq]
  omega

set_option maxRecDepth 100000 in
theorem l18Draw_any (v : Value) (m b base : Nat) (n : Nat) (w : World) (hv : BI w v m) (hs : SrcAt w base b v 0) (hne : 0 < m → v.ownBlock ≠ some b) (hd : inB 1 4 (n : Int) = true) :
    Calls Try.prog 73 #[.pointer (some ⟨b, 0, none⟩), .int .i64 n] w fun e w' => ∃ v' xs, e = .returned v' ∧ OS P2 57 w' w.heap.size v' xs ∧ okStuck n xs = true ∧ w.grownBy w' (some b) := by
  have hn : 1 ≤ n ∧ n ≤ 4 := by simp [inB] at hd; omega
  obtain ⟨hn1, hn4⟩ := hn
  have hE : ex (n : Int) = ((2 ^ n : Nat) : Int) := by simp [ex]
  have hN := pow4 hn4
  have HV := Lib.hid hv
  have HS := Lib.hid hs
  have HD := Lib.hid hd
  have HE := Lib.hid hE
  have HOK := Lib.hid (fun xs h => drawn18_ok (n := n) hd (xs := xs) h)
  have hN1 : 1 ≤ 2 ^ n := Nat.one_le_two_pow
  generalize 2 ^ n = N at hN HE HOK hN1
  have hblt := hs.lt.2
  clear hv hs hd hE
  obtain ⟨i0, hi, iz0, iz1, iz2⟩ := info_parts infoStuck
  have HI := Lib.hid hi
  clear hi
  go_enter Try.func73, Try.ntmps73
  go_wp2_with fail
  go_loopw [5, 6] (fun o i wr => ∃ (k : Nat) (u : Value) (xs : List (Int × Int)), 1 ≤ k ∧ k ≤ N ∧ u = o ∧ i = .int .i64 k ∧ OS P2 57 wr w.heap.size u xs ∧ Hid (drawn18 xs k) ∧ w.grownBy wr (some b) ∧ SrcAt wr base b v (4 * k)) (fun _ i _ => N - (intOf i).toNat)
  case atStart =>
    refine ⟨1, _, [], Nat.le_refl _, hN1, rfl, rfl, OS.lit0 _ _ _ (Nat.le_refl _), Lib.hid drawn18_nil, grown_below ((Below.refl _ _).alloc (Nat.le_refl _) _), ?_⟩
    have h1 := HS.out.below ((Below.refl w.heap.size w).alloc (Nat.le_refl _) (.cells #[] 57))
    exact h1.more (by omega)
  case round =>
    obtain ⟨k, u, xs, hk1, hk, rfl, rfl, ho, HDR, hg, hsr⟩ := hrel
    rename World => wo
    have HO := Lib.hid ho
    have HSR := Lib.hid hsr
    have HG := Lib.hid hg
    clear ho hsr hg
    by_cases hlt : k < N
    · have hd : decide ((k : Int) < (N : Int)) = true := decide_eq_true (by omega)
      have C1 := Lib.hid (one_any v m b base (4 * k) 6 wo (HV.out.grown HG.out hne) HSR.out (by omega) hne)
      go_wp2_with (first
        | (go_at_call 94; refine (l18Small_any _ _ HD.out).mono ?_; rintro e w' ⟨rfl, rfl⟩)
        | (go_at_call 76; refine (l18Exits_any _ _ HD.out).mono ?_; rintro e w' ⟨rfl, rfl⟩; rw [HE.out]))
      refine C1.out.mono ?_
      rintro e w1 ⟨y, rfl, hs1, hg1⟩
      have HG1 := Lib.hid (grownBy_trans HG.out hg1)
      have hne1 : u.ownBlock ≠ some b := fun e => by
        have := (HO.out.lt b e).1
        omega
      have HO1 := Lib.hid (HO.out.grown hg1 (.inr hne1))
      have HS1 := Lib.hid hs1
      clear hs1 hg1
      cases y with
      | false =>
        go_wp2
        go_roundw
        case rel => exact ⟨k + 1, _, xs, by omega, by omega, rfl, by go_num, HO1.out, Lib.hid (drawn18_no HDR.out), HG1.out, HS1.out.more (by omega)⟩
        case measure => simp [intOf]; omega
      | true =>
        have C2 := Lib.hid (pick_any v m b base (4 * k + 2) 2 w1 (HV.out.grown HG1.out hne) HS1.out (by omega) hne)
        go_wp2_with fail
        refine C2.out.mono ?_
        rintro e w2 ⟨z, rfl, z0, _, z1, _, hs2, hg2⟩
        have hz1 : z < 2 := z1 (by omega)
        have HG2 := Lib.hid (grownBy_trans HG1.out hg2)
        have HO2 := Lib.hid (HO1.out.grown hg2 (.inr hne1))
        have HS2 := Lib.hid hs2
        have hln := HDR.out.2.2
        have hsz := HG2.out.size
        have HGD := Lib.hid (show ∀ y ∈ P2.f ((k : Int), z), Good y from fun y hy => by
          have hy : y ∈ [(k : Int), z] := hy
          simp at hy
          rcases hy with rfl | rfl <;> (unfold Good; omega))
        clear hs2 hg2 z1
        go_wp2_with (
          at_builtin
          refine wpList_appS (E := P2) rfl _ _ 25 rfl 57 _ i0 _ Try.underlying25 HI.out iz0 rfl iz1 16 iz2 (by decide) w.heap.size _ xs rfl HO2.out ((k : Int), z) _ rfl _ (by simp) rfl HGD.out (by omega) hsz ?_
          intro v9 w9 h1 h2 h3
          have H9 := Lib.hid h1
          have HG9 := Lib.hid (grown_chain HG2.out h2 (fun q hq => (HO2.out.lt q hq).1))
          have HS9 := Lib.hid (HS2.out.grown h2 (fun e => hne1 e.symm))
          clear h1 h2 h3)
        go_roundw
        case rel => exact ⟨k + 1, _, xs ++ [((k : Int), z)], by omega, by omega, rfl, by go_num, H9.out, Lib.hid (drawn18_yes HDR.out hk1 ⟨z0, by omega⟩), HG9.out, HS9.out.more (by omega)⟩
        case measure => simp [intOf]; omega
    · have hd : decide ((k : Int) < (N : Int)) = false := decide_eq_false (by omega)
      have hkN : k = N := by omega
      have HKN := Lib.hid hkN
      clear hkN
      go_wp2_with (first
        | (go_at_call 94; refine (l18Small_any _ _ HD.out).mono ?_; rintro e w' ⟨rfl, rfl⟩)
        | (go_at_call 76; refine (l18Exits_any _ _ HD.out).mono ?_; rintro e w' ⟨rfl, rfl⟩; rw [HE.out]))
      go_ret
      exact ⟨_, xs, rfl, HO.out, HOK.out xs (HKN.out ▸ HDR.out), HG.out⟩

/-- Stuck switches out of bytes. -/
theorem a2Stuck_any (v : Value) (m : Nat) (n : Nat) (w : World) (hv : BI w v m) (hd : inB 1 4 (n : Int) = true) :
    Calls Try.prog 33 #[v, .int .i64 n] w fun e w' => ∃ v' xs, e = .returned v' ∧ OS P2 57 w' w.heap.size v' xs ∧ okStuck n xs = true ∧ Below w.heap.size w w' := by
  have HV := Lib.hid hv
  have HD := Lib.hid hd
  clear hv hd
  go_enter Try.func33, Try.ntmps33
  go_wp2_with (first
    | (go_at_call 74; refine (from_any _ m _ HV.out).mono ?_; rintro e w1 ⟨rfl, hs1, hb1⟩; have HS1 := Lib.hid hs1; clear hs1)
    | (go_at_call 73; refine (l18Draw_any _ m w.heap.size w.heap.size n _ (HV.out.below hb1) HS1.out (fun hp e => by have := HV.out.own_lt hp e; omega) HD.out).mono ?_; rintro e w2 ⟨v2, xs, rfl, ho2, hok, hg2⟩; have HO2 := Lib.hid ho2; have HK := Lib.hid hok; clear ho2 hok))
  go_ret
  exact ⟨_, xs, rfl, HO2.out.mono hb1.size, HK.out, bgrown hb1 hg2 (fun q hq => Nat.le_of_eq (Option.some.inj hq))⟩

end Go.Proofs.Ytejnfngnofilfaa
