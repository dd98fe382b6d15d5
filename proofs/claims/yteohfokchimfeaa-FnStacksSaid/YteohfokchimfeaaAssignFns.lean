/-
  AssignStacks of both sides.
-/
import Derived.Test.YteohfokchimfeaaAssign
namespace Go.Proofs.Yteohfokchimfeaa
open Go.RowKit

theorem specAssignStacks_any (v : Value) (xs : List Int) (w : World) (hv : RI w v xs) :
    Calls Try.prog 35 #[v] w fun e w' => ∃ v', e = .returned (.tuple #[v', .int .i64 (valAssign xs).2]) ∧ OI 2 w' w.heap.size v' (valAssign xs).1 ∧ Below w.heap.size w w' := by
  have HV := Lib.hid hv
  clear hv
  cases hok : okOrder xs with
  | false =>
    have HE : Hid (valAssign xs = ([], 1)) := if_neg (by rw [hok]; simp)
    go_enter Try.func35, Try.ntmps35
    go_wp2_with (go_at_call 57; refine (l17Ok_any _ xs _ HV.out).mono ?_; rintro e w1 ⟨rfl, hb1⟩)
    go_ret2
    exact ⟨_, by rw [HE.out]; rfl, by rw [HE.out]; exact OI.nil _ _ _, by assumption⟩
  | true =>
    have HE : Hid (valAssign xs = ((assignTo xs xs.length).1, 0)) := if_pos hok
    have C1 := l17Ok_any _ xs w HV.out
    rw [hok] at C1
    have D1 := Lib.hid C1
    have HOK := Lib.hid hok
    clear C1 hok
    go_enter Try.func35, Try.ntmps35
    go_wp2_with fail
    refine D1.out.mono ?_
    rintro e w1 ⟨rfl, hb1⟩
    go_wp2_with fail
    refine (l17Assign_any v xs _ HOK.out (HV.out.below hb1)).mono ?_
    rintro e w2 ⟨v2, rfl, ho2, hb2⟩
    have HO := Lib.hid ho2
    clear ho2
    go_wp2_with fail
    go_ret2
    exact ⟨_, by rw [HE.out]; rfl, by rw [HE.out]; exact HO.out.mono hb1.size, bthen hb1 hb2⟩

theorem idxI_place (ts : List Int) (n : Int) : idxI (fun t => decide (n < t)) ts = if place ts n < ts.length then (place ts n : Int) else -1 := by
  split
  · rename_i h
    exact idxI_hit _ _ _ h (by simpa using place_lt ts n h) (fun j hj => by simpa using place_ge ts n j hj)
  · rename_i h
    refine idxI_miss _ _ (fun j hj => ?_)
    have := place_ge ts n j (by omega)
    simpa using this

theorem assign_enters : ∀ args w, (callFunc 67 args).run Try.prog w = .ok (.enter 67 args) w := enters_of Try.func67 (by kernel_rfl) rfl

theorem assign1_any (t n : Int) (b1 : Nat) (w : World) (h1 : w.cell? ⟨b1, 0, none⟩ = some (.int .i64 n)) :
    Calls Try.prog 67 #[.int .i64 t, .pointer (some ⟨b1, 0, none⟩)] w fun e w' => e = .returned (.bool (decide (n < t))) ∧ Below w.heap.size w w' := by
  go_enter Try.func67, Try.ntmps67
  go_wp2
  go_ret
  exact ⟨rfl, Below.refl _ _⟩

set_option maxHeartbeats 4000000 in
theorem implAssignStacks_any (v : Value) (xs : List Int) (w : World) (hv : RI w v xs) (hs : xs.length ≤ 1048576) :
    Calls Try.prog 36 #[v] w fun e w' => ∃ v', e = .returned (.tuple #[v', .int .i64 (valAssign xs).2]) ∧ OI 2 w' w.heap.size v' (valAssign xs).1 ∧ Below w.heap.size w w' := by
  obtain ⟨a, cap, rfl⟩ := hv.shape
  have HV := Lib.hid hv
  clear hv
  cases hok : okOrder xs with
  | false =>
    have HE : Hid (valAssign xs = ([], 1)) := if_neg (by rw [hok]; simp)
    go_enter Try.func36, Try.ntmps36
    go_wp2_with (go_at_call 19; refine (implValidOrder_any _ xs _ HV.out (by omega)).mono ?_; rintro e w1 ⟨rfl, hb1⟩)
    go_ret2
    exact ⟨_, by rw [HE.out]; rfl, by rw [HE.out]; exact OI.nil _ _ _, by assumption⟩
  | true =>
    have l40 := okOrder_len hok
    have HE : Hid (valAssign xs = ((assignTo xs xs.length).1, 0)) := if_pos hok
    have C1 := implValidOrder_any _ xs w HV.out (by omega)
    rw [hok] at C1
    have D1 := Lib.hid C1
    clear C1 hok
    obtain ⟨i0, hi, hz0, hz1, hz2⟩ := info_parts info64
    have HI := Lib.hid hi
    clear hi
    have hmf : ∀ (fn : Fn) (first cap : Array Value) (w : World), (Instr.makeFunc fn first cap).run Try.prog w = .ok (.func fn first cap) w := fun _ _ _ _ => rfl
    go_enter Try.func36, Try.ntmps36
    go_wp2_with fail
    refine D1.out.mono ?_
    rintro e w1 ⟨rfl, hb1⟩
    go_wp2_with fail
    have HS1 := Lib.hid (show OI 2 ((w1.alloc (.cells #[] 2)).alloc (.cells #[] 2)) w.heap.size (.slice (some ⟨w1.heap.size, 0, none⟩) 0 0) [] from (OI.lit0 2 w1 w.heap.size hb1.size).below ((Below.refl _ _).alloc (Nat.le_refl _) _))
    have HS2 := Lib.hid (show OI 2 ((w1.alloc (.cells #[] 2)).alloc (.cells #[] 2)) w.heap.size (.slice (some ⟨w1.heap.size + 1, 0, none⟩) 0 0) [] from by
      have := OI.lit0 2 (w1.alloc (.cells #[] 2)) w.heap.size (by simp; have := hb1.size; omega)
      simpa using this)
    have HS3 := Lib.hid (show Apart (.slice (some ⟨w1.heap.size + 1, 0, none⟩) 0 0) (.slice (some ⟨w1.heap.size, 0, none⟩) 0 0) from fun k h1 h2 => by
      simp [Value.ownBlock] at h1 h2; omega)
    have HB2 := Lib.hid (show Below w.heap.size w ((w1.alloc (.cells #[] 2)).alloc (.cells #[] 2)) from bthen hb1 (((Below.refl _ _).alloc (Nat.le_refl _) _).alloc (by simp) _))
    go_loopw [4, 5, 16] (fun o t i wr => ∃ (i' : Nat) (vo vt : Value), i' ≤ xs.length ∧ i = .int .i64 i' ∧ vo = o ∧ vt = t ∧ OI 2 wr w.heap.size vo (assignTo xs i').1 ∧ OI 2 wr w.heap.size vt (assignTo xs i').2 ∧ Hid (Apart vt vo) ∧ Below w.heap.size w wr) (fun _ _ i _ => xs.length - (intOf i).toNat)
    case atStart => exact ⟨0, _, _, Nat.zero_le _, rfl, rfl, rfl, HS1.out, HS2.out, HS3, HB2.out⟩
    case round =>
      obtain ⟨i, vo, vt, hi, rfl, rfl, rfl, ho, ht, HAP, hb⟩ := hrel
      by_cases hlt : i < xs.length
      · obtain ⟨wo, rfl⟩ : ∃ wo : World, wo = wr := ⟨_, rfl⟩
        have hle := assignTo_length xs i
        have hpl := place_le (assignTo xs i).2 (xs.getD i 0)
        have hix := idxI_place (assignTo xs i).2 (xs.getD i 0)
        have HN1 : Hid (assignTo xs (i + 1) = ((assignTo xs i).1 ++ [(place (assignTo xs i).2 (xs.getD i 0) : Int)],
          if place (assignTo xs i).2 (xs.getD i 0) < (assignTo xs i).2.length then (assignTo xs i).2.set (place (assignTo xs i).2 (xs.getD i 0)) (xs.getD i 0) else (assignTo xs i).2 ++ [xs.getD i 0])) := rfl
        have hgx := HV.out.getD i
        have hlo := hle.1
        have hlt2 := hle.2
        clear hle
        generalize assignTo xs i = st at *
        obtain ⟨out, tops⟩ := st
        simp only at ho ht hpl hix hlo hlt2
        have HN2 := Lib.hid HN1.out
        simp only [Hid] at HN2
        have HN := Lib.hid HN2
        have HIX := Lib.hid hix
        have HGX := Lib.hid hgx
        have HO := Lib.hid ho
        have HT := Lib.hid ht
        have HLO := Lib.hid hlo
        clear HN1 HN2 hix hgx ho ht hlo
        obtain ⟨b, off, rfl, hbl, hc⟩ := HV.out.cells (by omega)
        have g1 := (hb.cell (p := ⟨b, off + i, none⟩) hbl).trans (hc i hlt)
        clear hc
        generalize xs.getD i 0 = x at *
        have BN : Below wo.heap.size wo (wo.alloc (.cells #[.int .i64 x] 2)) := (Below.refl _ _).alloc (Nat.le_refl _) _
        have cN : (wo.alloc (.cells #[.int .i64 x] 2)).cell? ⟨wo.heap.size, 0, none⟩ = some (.int .i64 x) := by rw [World.cell?_alloc_at _ _ _ _ rfl]; rfl
        have HRT := Lib.hid (HT.out.ri.below BN)
        have C2 := indexFunc_any 67 #[.pointer (some ⟨wo.heap.size, 0, none⟩)] (fun t => decide (x < t)) vt tops (wo.alloc (.cells #[.int .i64 x] 2)) assign_enters
          (fun W n hb' _ => (assign1_any n x _ W ((hb'.cell (p := ⟨wo.heap.size, 0, none⟩) (by simp)).trans cN)).mono fun e w' ⟨he, hb2⟩ => ⟨he, bthen hb' hb2⟩) HRT.out
        rw [HIX.out] at C2
        have D2 := Lib.hid C2
        have HCN := Lib.hid cN
        have HBN := Lib.hid BN
        clear C2 cN BN
        generalize place tops x = k at *
        by_cases hkl : k < tops.length
        · have HNN := Lib.hid (HN.out.trans (by rw [if_pos hkl]))
          rw [if_pos hkl] at D2
          go_wp2_with fail
          refine D2.out.mono ?_
          rintro e w3 ⟨rfl, hb3⟩
          have hb13 := bthen HBN.out hb3
          have hb03 := bthen hb hb13
          have HO3 := Lib.hid (HO.out.below hb13)
          have HT3 := Lib.hid (HT.out.below hb13)
          have cn3 := (hb3.cell (p := ⟨wo.heap.size, 0, none⟩) (by simp)).trans HCN.out
          obtain ⟨_, hnil⟩ | ⟨g, capg, hvv, hg1, hg2⟩ := HT.out.shape
          · rw [hnil] at hkl; simp at hkl
          · subst hvv
            obtain ⟨gc, fc⟩ := HT3.out.cell k hkl
            have hset := HT3.out.set k x HGX.out
            have HSet := Lib.hid hset.1
            have hgw := hset.2
            have hbs : Below w.heap.size w _ := HT3.out.step hb03 hgw
            have HOs := Lib.hid (HO3.out.other hgw HAP.out)
            have hki : (k : Int) < tops.length := by omega
            clear hset hgw
            generalize tops.getD k 0 = t at *
            go_wp2_with (at_builtin; refine wpList_app1n rfl _ _ 22 rfl 2 _ i0 Try.underlying22 HI.out hz0 hz1 hz2 w.heap.size _ _ rfl HOs.out _ _ (by simp) rfl ?_ ?_ hbs.size ?_)
            · unfold Good; omega
            · have := HLO.out; omega
            · intro v9 w9 h1 h2 h3
              have hb9 := HOs.out.step hbs h2
              have HT9 := Lib.hid (HSet.out.other h2 HAP.out.symm)
              have HA9 := Lib.hid ((HAP.out.symm.app HSet.out (fun q hq => by simpa using h3 q hq)).symm)
              have H9 := Lib.hid h1
              clear h1 h2 h3
              go_wp2_with fail
              go_roundw
              case rel => exact ⟨i + 1, v9, _, by omega, by go_num, rfl, rfl, by rw [HNN.out]; exact H9.out, by rw [HNN.out]; exact HT9.out, HA9, hb9⟩
              case measure => simp [intOf]; omega
        · obtain rfl : k = tops.length := by omega
          have HNN := Lib.hid (HN.out.trans (by rw [if_neg hkl]))
          rw [if_neg hkl] at D2
          go_wp2_with fail
          refine D2.out.mono ?_
          rintro e w3 ⟨rfl, hb3⟩
          have hb13 := bthen HBN.out hb3
          have hb03 := bthen hb hb13
          have HO3 := Lib.hid (HO.out.below hb13)
          have HT3 := Lib.hid (HT.out.below hb13)
          have HLT := Lib.hid HT.out.lt
          have hz3 : wo.heap.size < w3.heap.size := Nat.lt_of_lt_of_le (by simp) hb3.size
          have cn3 := (hb3.cell (p := ⟨wo.heap.size, 0, none⟩) (by simp)).trans HCN.out
          obtain ⟨av, capv, hvv⟩ := HT.out.ri.shape
          subst hvv
          go_wp2_with (at_builtin; refine wpList_app1n rfl _ _ 22 rfl 2 _ i0 Try.underlying22 HI.out hz0 hz1 hz2 w.heap.size _ _ rfl HT3.out _ _ (by simp) rfl ?_ ?_ hb03.size ?_)
          · exact HGX.out
          · omega
          · intro v5 w5 h1 h2 h3
            have hb5 := HT3.out.step hb03 h2
            have HO5 := Lib.hid (HO3.out.other h2 HAP.out)
            have HA5 := Lib.hid (HAP.out.app HO3.out h3)
            have cn5 := (World.cell?_of_block (a := ⟨wo.heap.size, 0, none⟩) (h2.block wo.heap.size hz3 (fun e => by have := (HLT.out _ e.symm).2; omega))).trans cn3
            have HT5 := Lib.hid h1
            clear h1 h2 h3
            obtain ⟨_, hnil⟩ | ⟨g, capg, hvv, hg1, hg2⟩ := HT5.out.shape
            · simp at hnil
            · subst hvv
              have HT6 : Hid (OI 2 w5 w.heap.size (.slice (some ⟨g, 0, none⟩) (tops.length + 1) capg) (tops ++ [x])) := by
                have := HT5.out
                rw [List.length_append] at this
                exact this
              have HA6 := HA5
              rw [show (tops ++ [x]).length = tops.length + 1 by simp] at HA6
              obtain ⟨gc, fc⟩ := HT6.out.cell tops.length (by simp)
              have hset := HT6.out.set tops.length x HGX.out
              have hse : (tops ++ [x]).set tops.length x = tops ++ [x] := by simp
              rw [hse] at hset
              have HSet := Lib.hid hset.1
              have hgw := hset.2
              have hbs : Below w.heap.size w _ := HT6.out.step hb5 hgw
              have HOs := Lib.hid (HO5.out.other hgw HA6.out)
              have hln : (tops ++ [x]).length = tops.length + 1 := by simp
              rw [hln]
              clear hset hgw hse hln HT5 HA5
              generalize (tops ++ [x]).getD tops.length 0 = t at *
              go_wp2_with (at_builtin; refine wpList_app1n rfl _ _ 22 rfl 2 _ i0 Try.underlying22 HI.out hz0 hz1 hz2 w.heap.size _ _ rfl HOs.out _ _ (by simp) rfl ?_ ?_ hbs.size ?_)
              · unfold Good; omega
              · have := HLO.out; omega
              · intro v9 w9 h1 h2 h3
                have hb9 := HOs.out.step hbs h2
                have HT9 := Lib.hid (HSet.out.other h2 HA6.out.symm)
                have HA9 := Lib.hid ((HA6.out.symm.app HSet.out (fun q hq => by simpa using h3 q hq)).symm)
                have H9 := Lib.hid h1
                clear h1 h2 h3
                go_wp2_with fail
                go_roundw
                case rel => exact ⟨i + 1, v9, _, by omega, by go_num, rfl, rfl, by rw [HNN.out]; exact H9.out, by rw [HNN.out]; exact HT9.out, HA9, hb9⟩
                case measure => simp [intOf]; omega
      · obtain rfl : i = xs.length := by omega
        have HO := Lib.hid ho
        clear ho ht
        go_wp2_with fail
        go_ret2
        exact ⟨_, by rw [HE.out]; rfl, by rw [HE.out]; exact HO.out, hb⟩

end Go.Proofs.Yteohfokchimfeaa
