/-
  AssignStacks of both sides.
-/
import Derived.Test.YteohfokchimfeaaInv
import Derived.Test.YteohfokchimfeaaSlices
import Derived.Deep.DeepCutAuto
import Derived.Deep.CutBlock
namespace Go.Proofs.Yteohfokchimfeaa
open Go.RowKit

/-- The first stack whose top is greater; the number of stacks if there is none. -/
def place : List Int → Int → Nat
  | [], _ => 0
  | t :: ts, n => if n < t then 0 else place ts n + 1
theorem place_le (ts : List Int) (n : Int) : place ts n ≤ ts.length := by
  induction ts with
  | nil => exact Nat.le_refl _
  | cons t ts ih => simp only [place, List.length_cons]; split <;> omega
theorem place_eq (ts : List Int) (n : Int) (k : Nat) (hk : k ≤ ts.length) (h1 : ∀ j, j < k → ts.getD j 0 ≤ n) (h2 : k < ts.length → n < ts.getD k 0) : place ts n = k := by
  induction ts generalizing k with
  | nil => simp at hk; subst hk; rfl
  | cons t ts ih =>
    simp only [place]
    cases k with
    | zero => rw [if_pos (by have := h2 (by simp); simpa using this)]
    | succ k =>
      rw [if_neg (by have := h1 0 (by omega); simp at this; omega)]
      rw [ih k (by simpa using hk) (fun j hj => by have := h1 (j + 1) (by omega); simpa using this) (fun hj => by have := h2 (by simpa using hj); simpa using this)]
theorem place_lt (ts : List Int) (n : Int) (h : place ts n < ts.length) : n < ts.getD (place ts n) 0 := by
  induction ts with
  | nil => simp at h
  | cons t ts ih =>
    simp only [place] at h ⊢
    split
    · rename_i h1; simpa using h1
    · rename_i h1; rw [if_neg h1] at h; simpa using ih (by simpa using h)
theorem place_ge (ts : List Int) (n : Int) (j : Nat) (h : j < place ts n) : ¬ n < ts.getD j 0 := by
  induction ts generalizing j with
  | nil => simp [place] at h
  | cons t ts ih =>
    simp only [place] at h
    split at h
    · omega
    · rename_i h1
      cases j with
      | zero => simpa using h1
      | succ j => simpa using ih j (by omega)

/-- The stacks of the first i carriers, and the tops. -/
def assignTo (xs : List Int) : Nat → List Int × List Int
  | 0 => ([], [])
  | i + 1 => ((assignTo xs i).1 ++ [(place (assignTo xs i).2 (xs.getD i 0) : Int)],
      if place (assignTo xs i).2 (xs.getD i 0) < (assignTo xs i).2.length then (assignTo xs i).2.set (place (assignTo xs i).2 (xs.getD i 0)) (xs.getD i 0) else (assignTo xs i).2 ++ [xs.getD i 0])
theorem assignTo_length (xs : List Int) (i : Nat) : (assignTo xs i).1.length = i ∧ (assignTo xs i).2.length ≤ i := by
  induction i with
  | zero => simp [assignTo]
  | succ i ih =>
    simp only [assignTo]
    refine ⟨by simp [ih.1], ?_⟩
    split <;> simp <;> omega
theorem assignTo_tops (xs : List Int) (i : Nat) (hi : i ≤ xs.length) : ∀ t ∈ (assignTo xs i).2, t ∈ xs.take i := by
  induction i with
  | zero => simp [assignTo]
  | succ i ih =>
    intro t ht
    rw [take_snoc xs i (by omega), List.mem_append]
    simp only [assignTo] at ht
    split at ht
    · rcases List.mem_or_eq_of_mem_set ht with ht | rfl
      · exact .inl (ih (by omega) t ht)
      · exact .inr (by simp)
    · rcases List.mem_append.1 ht with ht | ht
      · exact .inl (ih (by omega) t ht)
      · exact .inr ht
theorem assignTo_good (xs : List Int) (i : Nat) (hi : i ≤ xs.length) (hg : ∀ x ∈ xs, Good x) : ∀ t ∈ (assignTo xs i).2, Good t :=
  fun t ht => hg t (List.mem_of_mem_take (assignTo_tops xs i hi t ht))

theorem okTo_at {xs : List Int} {n : Nat} (h : okTo xs n = true) (i : Nat) (hi : i < n) : inB 0 (xs.length - 1) (xs.getD i 0) = true ∧ hasI (xs.take i) (xs.getD i 0) = false := by
  unfold okTo at h
  rw [List.all_eq_true] at h
  have := h i (List.mem_range.2 hi)
  simpa using this
theorem okOrder_at {xs : List Int} (h : okOrder xs = true) (i : Nat) (hi : i < xs.length) : (0 ≤ xs.getD i 0 ∧ xs.getD i 0 ≤ xs.length - 1) ∧ xs.getD i 0 ∉ xs.take i := by
  simp only [okOrder, Bool.and_eq_true] at h
  obtain ⟨h1, h2⟩ := okTo_at h.1 i hi
  refine ⟨by simpa [inB] using h1, fun hm => ?_⟩
  rw [hasI_iff.2 hm] at h2; simp at h2

/-- A top is another number than the carrier that comes. -/
theorem top_ne {xs : List Int} (h : okOrder xs = true) (i : Nat) (hi : i < xs.length) (j : Nat) (hj : j < (assignTo xs i).2.length) : (assignTo xs i).2.getD j 0 ≠ xs.getD i 0 := fun e => by
  have hm : (assignTo xs i).2.getD j 0 ∈ (assignTo xs i).2 := by
    simp only [List.getD, List.getElem?_eq_getElem hj, Option.getD_some]; exact List.getElem_mem hj
  exact (okOrder_at h i hi).2 (e ▸ assignTo_tops xs i (by omega) _ hm)

def valAssign (xs : List Int) : List Int × Int := if okOrder xs = true then ((assignTo xs xs.length).1, 0) else ([], 1)
theorem valAssign_len (xs : List Int) : (valAssign xs).1.length ≤ 1048576 := by
  unfold valAssign
  split
  · rename_i h; have := okOrder_len h; simp only [(assignTo_length xs xs.length).1]; omega
  · simp

set_option maxHeartbeats 4000000 in
theorem l17Assign_any (v : Value) (xs : List Int) (w : World) (hok : okOrder xs = true) (hv : RI w v xs) :
    Calls Try.prog 65 #[v] w fun e w' => ∃ v', e = .returned v' ∧ OI 2 w' w.heap.size v' (assignTo xs xs.length).1 ∧ Below w.heap.size w w' := by
  obtain ⟨a, cap, rfl⟩ := hv.shape
  have HV := Lib.hid hv
  have l40 := okOrder_len hok
  have HOK := Lib.hid hok
  clear hv hok
  obtain ⟨i0, hi, hz0, hz1, hz2⟩ := info_parts info64
  have HI := Lib.hid hi
  clear hi
  go_enter Try.func65, Try.ntmps65
  go_wp2_with fail
  have hst1 : OI 2 ((w.alloc (.cells #[] 2)).alloc (.cells #[] 2)) w.heap.size (.slice (some ⟨w.heap.size, 0, none⟩) 0 0) [] := (OI.lit0 2 w w.heap.size (Nat.le_refl _)).below ((Below.refl _ _).alloc (Nat.le_refl _) _)
  have hst2 : OI 2 ((w.alloc (.cells #[] 2)).alloc (.cells #[] 2)) w.heap.size (.slice (some ⟨w.heap.size + 1, 0, none⟩) 0 0) [] := by
    have := OI.lit0 2 (w.alloc (.cells #[] 2)) w.heap.size (by simp)
    simpa using this
  have hst3 : Apart (.slice (some ⟨w.heap.size + 1, 0, none⟩) 0 0) (.slice (some ⟨w.heap.size, 0, none⟩) 0 0) := fun k h1 h2 => by
    simp [Value.ownBlock] at h1 h2; omega
  have HS1 := Lib.hid hst1
  have HS2 := Lib.hid hst2
  have HS3 := Lib.hid hst3
  clear hst1 hst2 hst3
  go_loopw [3, 4, 5] (fun o t i wr => ∃ (i' : Nat) (vo vt : Value), i' ≤ xs.length ∧ i = .int .i64 i' ∧ o = vo ∧ t = vt ∧ OI 2 wr w.heap.size vo (assignTo xs i').1 ∧ OI 2 wr w.heap.size vt (assignTo xs i').2 ∧ Hid (Apart vt vo) ∧ Below w.heap.size w wr) (fun _ _ i _ => xs.length - (intOf i).toNat)
  case atStart => exact ⟨0, _, _, Nat.zero_le _, rfl, rfl, rfl, HS1.out, HS2.out, HS3, ((Below.refl _ _).alloc (Nat.le_refl _) _).alloc (by simp) _⟩
  case round =>
    obtain ⟨i, vo, vt, hi, rfl, rfl, rfl, ho, ht, HAP, hb⟩ := hrel
    by_cases hlt : i < xs.length
    · obtain ⟨wo, rfl⟩ : ∃ wo : World, wo = wr := ⟨_, rfl⟩
      have hle := assignTo_length xs i
      have hpl := place_le (assignTo xs i).2 (xs.getD i 0)
      have hne := fun j hj => top_ne HOK.out i hlt j hj
      have hpe := fun k h1 h2 h3 => place_eq (assignTo xs i).2 (xs.getD i 0) k h1 h2 h3
      have HN1 : Hid (assignTo xs (i + 1) = ((assignTo xs i).1 ++ [(place (assignTo xs i).2 (xs.getD i 0) : Int)],
        if place (assignTo xs i).2 (xs.getD i 0) < (assignTo xs i).2.length then (assignTo xs i).2.set (place (assignTo xs i).2 (xs.getD i 0)) (xs.getD i 0) else (assignTo xs i).2 ++ [xs.getD i 0])) := rfl
      have hgx := HV.out.getD i
      have hlo := hle.1
      have hlt2 := hle.2
      clear hle
      generalize assignTo xs i = st at *
      obtain ⟨out, tops⟩ := st
      simp only at ho ht hpl hne hpe hlo hlt2
      have HN2 := Lib.hid HN1.out
      simp only [Hid] at HN2
      have HN := Lib.hid HN2
      have HNE := Lib.hid hne
      have HPE := Lib.hid hpe
      have HGX := Lib.hid hgx
      have HO := Lib.hid ho
      have HT := Lib.hid ht
      have HLO := Lib.hid hlo
      clear HN1 HN2 hne hpe hgx ho ht hlo
      obtain ⟨b, off, rfl, hbl, hc⟩ := HV.out.cells (by omega)
      have HG := Lib.hid (hc i hlt)
      clear hc
      generalize xs.getD i 0 = x at *
      have hrt := HT.out.ri
      obtain ⟨at', capt, hvt⟩ := hrt.shape
      subst hvt
      have HRT := Lib.hid hrt
      clear hrt
      have hii : (i : Int) < xs.length := by omega
      go_upto_block 2 with fail
      go_cut [6] (fun k wx => k = .int .i64 (place tops x : Int) ∧ Below wo.heap.size wo wx)
      case first =>
        go_wp2_with fail
        go_loopw [6] (fun k wx => ∃ k' : Nat, k' ≤ tops.length ∧ k = .int .i64 k' ∧ Hid (∀ j, j < k' → tops.getD j 0 ≤ x) ∧ Below wo.heap.size wo wx) (fun k _ => tops.length - (intOf k).toNat)
        case atStart => exact ⟨0, Nat.zero_le _, rfl, Lib.hid (fun j hj => absurd hj (Nat.not_lt_zero _)), Below.refl _ _⟩
        case round =>
          obtain ⟨k, hk, rfl, HK, hb2⟩ := hrel
          have g1 := ((bthen hb hb2).cell (p := ⟨b, off + i, none⟩) hbl).trans HG.out
          by_cases hkt : k < tops.length
          · have hrt := HRT.out.below hb2
            obtain ⟨bt, offt, rfl, hblt, hct⟩ := hrt.cells (by omega)
            have g2 := hct k hkt
            have hne := HNE.out k hkt
            have hpe := HPE.out k hk HK.out
            have hki : (k : Int) < tops.length := by omega
            clear hct hrt
            generalize hq : tops.getD k 0 = t at *
            have HQ := Lib.hid hq
            have HPK := Lib.hid hpe
            clear hq hpe
            by_cases htx : t < x
            · have hd : decide (t < x) = true := by simpa using htx
              have HH : Hid (∀ j, j < k + 1 → tops.getD j 0 ≤ x) := Lib.hid (fun j hj => by
                by_cases e : j = k
                · subst e; rw [HQ.out]; omega
                · exact HK.out j (by omega))
              clear hne
              go_wp2_with fail
              go_quiet (fail)
              go_wp2_with fail
              go_roundw
              case rel => exact ⟨k + 1, by omega, by go_num, HH, below_drewN hb2 _⟩
              case measure => simp [intOf]; omega
            · have hd : decide (t < x) = false := by simpa using htx
              have HP : Hid (place tops x = k) := Lib.hid (HPK.out (fun _ => by omega))
              clear hne
              go_wp2_with fail
              go_quiet (fail)
              go_wp2_with fail
              go_meet
              case rel => exact ⟨by rw [HP.out], below_drewN hb2 _⟩
          · obtain rfl : k = tops.length := by omega
            have HP : Hid (place tops x = tops.length) := Lib.hid (HPE.out tops.length (Nat.le_refl _) HK.out (fun h => absurd h (Nat.lt_irrefl _)))
            have hd : decide ((tops.length : Int) < tops.length) = false := by simp
            go_wp2_with fail
            go_quiet (fail)
            go_wp2_with fail
            go_meet
            case rel => exact ⟨by rw [HP.out], below_drewN hb2 _⟩
      case rest =>
        obtain ⟨rfl, hb2⟩ := hcut
        have hb3 := bthen hb hb2
        have HO2 := Lib.hid (HO.out.below hb2)
        have HT2 := Lib.hid (HT.out.below hb2)
        have g1 := (hb3.cell (p := ⟨b, off + i, none⟩) hbl).trans HG.out
        generalize place tops x = k at *
        by_cases hkl : k < tops.length
        · have HNN := Lib.hid (HN.out.trans (by rw [if_pos hkl]))
          have hbe : ((k : Int) == (tops.length : Int)) = false := by rw [beq_eq_false_iff_ne]; omega
          obtain ⟨_, hnil⟩ | ⟨g, capg, hvv, hg1, hg2⟩ := HT2.out.shape
          · rw [hnil] at hkl; simp at hkl
          · simp only [Value.slice.injEq, true_and] at hvv
            obtain ⟨rfl, rfl⟩ := hvv
            obtain ⟨gc, fc⟩ := HT2.out.cell k hkl
            have hset := HT2.out.set k x HGX.out
            have HSet := Lib.hid hset.1
            have hgw := hset.2
            have hbs : Below w.heap.size w _ := HT2.out.step hb3 hgw
            have HOs := Lib.hid (HO2.out.other hgw HAP.out)
            have hki : (k : Int) < tops.length := by omega
            clear hset hgw
            generalize tops.getD k 0 = t at *
            go_wp2_with (at_builtin; refine wpList_app1n rfl _ _ 22 rfl 2 _ i0 Try.underlying22 HI.out hz0 hz1 hz2 w.heap.size _ _ rfl HOs.out _ _ (by simp) rfl ?_ ?_ hbs.size ?_)
            · unfold Good; omega
            · have := HLO.out; omega
            · intro v9 w9 h1 h2 h3
              have hb9 := HOs.out.step hbs h2
              have HT9 := Lib.hid (HSet.out.other h2 HAP.out.symm)
              have HA9 := Lib.hid ((HAP.out.symm.app HSet.out (fun q hq => by simpa using h3 q hq)).symm)
              have H9 := Lib.hid h1
              clear h1 h2 h3
              go_wp2_with fail
              go_roundw
              case rel => exact ⟨i + 1, v9, _, by omega, by go_num, rfl, rfl, by rw [HNN.out]; exact H9.out, by rw [HNN.out]; exact HT9.out, HA9, hb9⟩
              case measure => simp [intOf]; omega
        · obtain rfl : k = tops.length := by omega
          have HNN := Lib.hid (HN.out.trans (by rw [if_neg hkl]))
          have hbe : ((tops.length : Int) == (tops.length : Int)) = true := by simp
          go_wp2_with (at_builtin; refine wpList_app1n rfl _ _ 22 rfl 2 _ i0 Try.underlying22 HI.out hz0 hz1 hz2 w.heap.size _ _ rfl HT2.out _ _ (by simp) rfl ?_ ?_ hb3.size ?_)
          · exact HGX.out
          · omega
          · intro v5 w5 h1 h2 h3
            have hb5 := HT2.out.step hb3 h2
            have HO5 := Lib.hid (HO2.out.other h2 HAP.out)
            have HA5 : Hid (Apart v5 _) := Lib.hid (HAP.out.app HO2.out h3)
            have g5 := (hb5.cell (p := ⟨b, off + i, none⟩) hbl).trans HG.out
            have HT5 := Lib.hid h1
            clear h1 h2 h3
            obtain ⟨_, hnil⟩ | ⟨g, capg, hvv, hg1, hg2⟩ := HT5.out.shape
            · simp at hnil
            · subst hvv
              have HT6 : Hid (OI 2 w5 w.heap.size (.slice (some ⟨g, 0, none⟩) (tops.length + 1) capg) (tops ++ [x])) := by
                have := HT5.out
                rw [List.length_append] at this
                exact this
              have HA6 := HA5
              rw [show (tops ++ [x]).length = tops.length + 1 by simp] at HA6
              obtain ⟨gc, fc⟩ := HT6.out.cell tops.length (by simp)
              have hset := HT6.out.set tops.length x HGX.out
              have hse : (tops ++ [x]).set tops.length x = tops ++ [x] := by simp
              rw [hse] at hset
              have HSet := Lib.hid hset.1
              have hgw := hset.2
              have hbs : Below w.heap.size w _ := HT6.out.step hb5 hgw
              have HOs := Lib.hid (HO5.out.other hgw HA6.out)
              have hln : (tops ++ [x]).length = tops.length + 1 := by simp
              rw [hln]
              clear hset hgw hse hln HT5 HA5
              generalize (tops ++ [x]).getD tops.length 0 = t at *
              go_wp2_with (at_builtin; refine wpList_app1n rfl _ _ 22 rfl 2 _ i0 Try.underlying22 HI.out hz0 hz1 hz2 w.heap.size _ _ rfl HOs.out _ _ (by simp) rfl ?_ ?_ hbs.size ?_)
              · unfold Good; omega
              · have := HLO.out; omega
              · intro v9 w9 h1 h2 h3
                have hb9 := HOs.out.step hbs h2
                have HT9 := Lib.hid (HSet.out.other h2 HA6.out.symm)
                have HA9 := Lib.hid ((HA6.out.symm.app HSet.out (fun q hq => by simpa using h3 q hq)).symm)
                have H9 := Lib.hid h1
                clear h1 h2 h3
                go_wp2_with fail
                go_roundw
                case rel => exact ⟨i + 1, v9, _, by omega, by go_num, rfl, rfl, by rw [HNN.out]; exact H9.out, by rw [HNN.out]; exact HT9.out, HA9, hb9⟩
                case measure => simp [intOf]; omega
    · obtain rfl : i = xs.length := by omega
      have HO := Lib.hid ho
      clear ho ht
      go_wp2_with fail
      go_ret
      exact ⟨_, rfl, HO.out, hb⟩

end Go.Proofs.Yteohfokchimfeaa
