/-
  FnSearches: for all bytes it returns true, and leaves its argument as it was. No condition.
-/
import Derived.Test.YtoeigifmghfpgaaDraw16
import Derived.Test.YtoeigifmghfpgaaA2Long
import Derived.Test.YtoeigifmghfpgaaA2Has
import Derived.Test.YtoeigifmghfpgaaSearchLaw
import Derived.Test.YtoeigifmghfpgaaFor
import Derived.Test.YtoeigifmghfpgaaSteps
import Derived.Test.YtoeigifmghfpgaaLawBytes
namespace Go.Proofs.Ytoeigifmghfpgaa.fnSearches
open Go.ChangeShapes Go.WideShapes Go.ChangeAt Go.RowKit Plain

theorem a2Sum_any (v : Value) (xs : List Int) (w : World) (hv : RI w v xs) (hs : ∀ k, Good (sumI (xs.take k))) :
    Calls Try.prog 23 #[v] w fun e w' => e = .returned (.int .i64 (sumI xs)) ∧ w = w' := by
  obtain ⟨a, cap, rfl⟩ := hv.shape
  have hl := hv.len
  have HV := Lib.hid hv
  have HS := Lib.hid hs
  clear hv hs
  go_enter Try.func23, Try.ntmps23
  go_wp2
  go_loop [3, 4] (fun s i => ∃ k : Nat, k ≤ xs.length ∧ i = .int .i64 k ∧ s = .int .i64 (sumI (xs.take k))) (fun _ i => xs.length - (intOf i).toNat)
  case atStart => exact ⟨0, Nat.zero_le _, rfl, rfl⟩
  case round =>
    obtain ⟨k, hk, rfl, rfl⟩ := hrel
    by_cases hlt : k < xs.length
    · obtain ⟨b, off, rfl, hb, hc⟩ := HV.out.cells (by omega)
      have g := hc k hlt
      clear hc
      have h1 := HS.out k
      have h2 := HS.out (k + 1)
      rw [take_snoc xs k hlt, sumI_snoc] at h2
      have S1 : sumI (xs.take (k + 1)) = sumI (xs.take k) + xs.getD k 0 := by rw [take_snoc xs k hlt, sumI_snoc]
      generalize xs.getD k 0 = x at g h2 S1
      have H1 := Lib.hid S1
      clear S1
      generalize sumI (xs.take k) = s at *
      unfold Good at h1 h2
      go_wp2
      go_round
      case rel => exact ⟨k + 1, by omega, by go_num, by rw [H1.out]⟩
      case measure => simp [intOf]; omega
    · go_wp2
      go_ret
      exact ⟨ret_int (by rw [List.take_of_length_le (by omega)]), rfl⟩

/-- The answers told so far. -/
def told (L : List Int) (s : Nat) (b : ByteArray) (k : Nat) : Prop := b.size = k ∧ ∀ j, j < k → byteAt b j = ansOf L s j
theorem told_nil (L : List Int) (s : Nat) : told L s ⟨#[]⟩ 0 := ⟨rfl, fun _ h => absurd h (Nat.not_lt_zero _)⟩
theorem told_more {L : List Int} {s : Nat} {b : ByteArray} {k : Nat} (h : told L s b k) (c : UInt8) (hc : c.toNat = ansOf L s k) : told L s (b ++ ⟨#[c]⟩) (k + 1) := by
  obtain ⟨h1, h2⟩ := h
  have hd : (b ++ (⟨#[c]⟩ : ByteArray)).data.toList = b.data.toList ++ [c] := by simp [ByteArray.append_eq, ByteArray.toList_data_append]
  have hl : b.data.toList.length = k := by rw [← h1]; rfl
  refine ⟨by simp [ByteArray.size_append, h1]; rfl, fun j hj => ?_⟩
  unfold byteAt
  rw [hd]
  by_cases e : j = k
  · have e2 : (b.data.toList ++ [c]).getD k 0 = c := by
      rw [← hl]
      simp [List.getD]
    rw [e, e2, hc]
  · have := h2 j (by omega)
    unfold byteAt at this
    rw [← this]
    simp [List.getD, List.getElem?_append_left (show j < b.data.toList.length by omega)]

theorem sum_take_le {xs : List Int} (h : ∀ x ∈ xs, 0 ≤ x) (k : Nat) : sumI (xs.take k) ≤ sumI xs := by
  have h1 : sumI (xs.take k) + sumI (xs.drop k) = sumI xs := by rw [← sumI_append, List.take_append_drop]
  have h2 : 0 ≤ sumI (xs.drop k) := by
    have : ∀ ys : List Int, (∀ x ∈ ys, 0 ≤ x) → 0 ≤ sumI ys := by
      intro ys
      induction ys with
      | nil => intro _; exact Int.le_refl _
      | cons y ys ih =>
        intro hy
        rw [sumI_cons]
        have a := hy y List.mem_cons_self
        have b := ih (fun x hx => hy x (List.mem_cons_of_mem _ hx))
        omega
    exact this _ (fun x hx => h x (List.mem_of_mem_drop hx))
  omega
def pW (xs : List Int) (s : Int) : Int := (findR (bWorst xs) xs s 9 0 xs.length).2
def pL (xs : List Int) (s : Int) : List Int := (findR (bWorst xs) xs s 9 0 xs.length).1
/-- The greatest price of the first k sections. -/
def topP (xs : List Int) (k : Nat) (x : Int) : Prop := (∀ s : Nat, s < k → pW xs s ≤ x) ∧ (x = 0 ∨ ∃ s : Nat, s < k ∧ x = pW xs s) ∧ 0 ≤ x
theorem topP_more {xs : List Int} {k : Nat} {x : Int} (h : topP xs k x) (hp : 0 ≤ pW xs k) : topP xs (k + 1) (max x (pW xs k)) := by
  obtain ⟨h1, h2, h3⟩ := h
  refine ⟨fun s hs => ?_, ?_, by omega⟩
  · by_cases e : s = k
    · subst e; omega
    · have := h1 s (by omega); omega
  · by_cases e : x < pW xs k
    · exact .inr ⟨k, by omega, by omega⟩
    · rcases h2 with h2 | ⟨s, h4, h5⟩
      · exact .inl (by omega)
      · exact .inr ⟨s, by omega, by omega⟩
theorem topP_end {xs : List Int} {x : Int} (h9 : xs.length ≤ 9) (h : topP xs (xs.length + 1) x) (hp : 0 ≤ (price (cWorst xs) 9 0 xs.length).1) : x = (price (cWorst xs) 9 0 xs.length).1 := by
  obtain ⟨w1, s0, _, w2, w3⟩ := worst_all xs 9 0 xs.length (Nat.zero_le _) (by omega) (by omega)
  obtain ⟨h1, h2, h3⟩ := h
  have a := h1 s0 (by omega)
  unfold pW at a h2
  rw [w3] at a
  rcases h2 with h2 | ⟨s, h4, h5⟩
  · omega
  · have := w1 s (Nat.zero_le _) (by omega)
    omega

set_option maxRecDepth 100000 in
set_option maxHeartbeats 4000000 in
theorem walk (v : Value) (n : Nat) (w : World) (hv : BI w v n) :
    Calls Try.prog 4 #[v] w fun e w' => e = .returned (.bool true) ∧ Below w.heap.size w w' := by
  have HV := Lib.hid hv
  clear hv
  go_enter Try.func4, Try.ntmps4
  go_wp2_with fail
  refine (a2Long_any v _ n 0 _ HV.out (BI.nil _)).mono ?_
  rintro e w' ⟨lg, rfl, rfl⟩
  cases lg with
  | true =>
    go_wp2
    go_ret
    exact ⟨rfl, Below.refl _ _⟩
  | false =>
    go_wp2_with fail
    refine (a2Openings_any v n _ HV.out).mono ?_
    rintro e w1 ⟨v1, v2, xs, ws, rfl, ho1, ho2, hok, hb1⟩
    obtain ⟨a1, c1, hsh⟩ := ho1.ri.shape
    subst hsh
    have HR1 := Lib.hid ho1.ri
    have HOP := Lib.hid (okWeights_iff hok).1
    have hx9 : xs.length ≤ 9 := by
      have h := (okWeights_iff hok).1
      simp only [okOpen, Bool.and_eq_true, decide_eq_true_eq] at h
      exact h.2
    have HPB := Lib.hid (fun s => findR_bounds (bWorst xs) xs s (fun k hk => okOpen_getD HOP.out k hk) (fun lo hi h _ => ⟨(bWorst_mem xs lo hi h).1, (bWorst_mem xs lo hi h).2.1⟩) 9 0 xs.length (Nat.le_refl _))
    have HB1 := Lib.hid hb1
    clear ho1 ho2 hok hb1
    have HCS := Lib.hid (show ∀ lo hi : Int, 0 ≤ lo → lo ≤ hi → hi ≤ xs.length → codeS xs lo hi = 0 from fun lo hi h1 h2 h3 => by unfold codeS; rw [if_pos HOP.out, if_pos ⟨h1, h2, h3⟩])
    have HWV := Lib.hid (show ∀ lo hi : Nat, lo ≤ hi → hi ≤ xs.length → valWorst xs lo hi = ((price (cWorst xs) 9 lo hi).1, 0) from fun lo hi h1 h2 => by
      unfold valWorst; rw [if_pos (HCS.out _ _ (by omega) (by omega) (by omega))]; rfl)
    have hPb : 0 ≤ (price (cWorst xs) 9 0 xs.length).1 ∧ (price (cWorst xs) 9 0 xs.length).1 ≤ 9000 := by
      obtain ⟨_, s0, _, _, w3⟩ := worst_all xs 9 0 xs.length (Nat.zero_le _) (by omega) (by omega)
      have := HPB.out s0
      omega
    have C1 := fun W h => implWorstSearch_any (.slice a1 xs.length c1) xs 0 xs.length W h
    have e0 := HWV.out 0 xs.length (Nat.zero_le _) (Nat.le_refl _)
    rw [show ((0 : Nat) : Int) = 0 from rfl] at e0
    rw [e0] at C1
    simp only at C1
    have D1 := Lib.hid C1
    have HTE := Lib.hid (fun x h => topP_end (xs := xs) (x := x) hx9 h hPb.1)
    have HWA := Lib.hid (worst_all xs 9 0 xs.length (Nat.zero_le _) (by omega) (by omega)).1
    have HWP := Lib.hid (fun h => worst_parts xs (n := xs.length) h hx9)
    have HP0 := Lib.hid (fun (h : xs.length = 0) => show (price (cWorst xs) 9 0 xs.length).1 = 0 by rw [h]; exact price_none _ _ _)
    generalize hPd : (price (cWorst xs) 9 0 xs.length).1 = P at hPb D1 HTE HWA HWP HP0
    obtain ⟨P0, P1⟩ := hPb
    clear C1 e0 hPd
    go_wp2_with fail
    refine (D1.out _ HR1.out).mono ?_
    rintro e w2 ⟨rfl, hb2⟩
    have HR2 := Lib.hid (HR1.out.below hb2)
    have HB2 := Lib.hid (bthen HB1.out hb2)
    clear hb2
    go_wp2_with fail
    go_loopw [8, 9] (fun a i wr => ∃ (k : Nat) (x : Int), k ≤ xs.length + 1 ∧ i = .int .i64 k ∧ a = .int .i64 x ∧ Hid (topP xs k x) ∧ Below w2.heap.size w2 wr) (fun _ i _ => xs.length + 1 - (intOf i).toNat)
    case atStart => exact ⟨0, 0, Nat.zero_le _, rfl, rfl, Lib.hid ⟨fun _ h => absurd h (Nat.not_lt_zero _), .inl rfl, Int.le_refl _⟩, Below.refl _ _⟩
    case round =>
      obtain ⟨k, x, hk, rfl, rfl, HT, hw⟩ := hrel
      rename World => wo
      by_cases hlt : k ≤ xs.length
      · have hd : decide ((k : Int) ≤ (xs.length : Int)) = true := decide_eq_true (by omega)
        have E1 : valSearchFor xs k = (pL xs k, pW xs k, 0) := by unfold valSearchFor; rw [if_pos (HCS.out _ _ (by omega) (by omega) (by omega))]; rfl
        have E2 : valStep xs k = (sumI (xs.take (k + 1)), 0) := by unfold valStep; rw [if_pos (HCS.out _ _ (by omega) (by omega) (by omega))]; rfl
        have C2 := implSearchFor_any (.slice a1 xs.length c1) xs k wo (HR2.out.below hw)
        rw [E1] at C2
        have C3 := fun W h => implStepSearch_any (.slice a1 xs.length c1) xs k W h
        rw [E2] at C3
        simp only at C2 C3
        have hpb := HPB.out (k : Int)
        have hpP : pW xs k ≤ P := HWA.out k (Nat.zero_le _) hlt
        have htb := HT.out.2.2
        have hsum := open_sum HOP.out (k + 1)
        have hsuma := open_sum HOP.out xs.length
        rw [List.take_length] at hsuma
        have hsl : sumI (xs.take (k + 1)) ≤ sumI xs := sum_take_le (fun x hx => by have := okOpen_mem HOP.out x hx; omega) _
        have HTM := Lib.hid (topP_more HT.out (show 0 ≤ pW xs k from hpb.1))
        have HFT := Lib.hid (find_tells xs k 9 0 xs.length (Nat.zero_le _) hlt (by omega))
        have HNE := Lib.hid (fun b h1 h2 => narrow_end xs k hlt hx9 HOP.out b h1 h2)
        have hpw : 0 ≤ pW xs k ∧ pW xs k ≤ 9000 := by unfold pW; omega
        have hpl : (pL xs k).length ≤ 9 := by unfold pL; omega
        have hft1 : ∀ y ∈ pL xs k, 0 ≤ y ∧ y < xs.length := fun y hy => by have := HFT.out.1 y hy; omega
        have hft2 : sumI ((pL xs k).map fun x => xs.getD x.toNat 0) = pW xs k := HFT.out.2.2.2
        have hne2 : ∀ b, b.size = xs.length → (∀ j, j < xs.length → byteAt b j = ansOf (pL xs k) k j) → valNarrow xs b = ((k : Int), (k : Int), 0) := HNE.out
        have HGS := Lib.hid (fun j => show Good (sumI (xs.take j)) by have := open_sum HOP.out j; unfold Good; omega)
        clear E1 E2 HFT HNE hpb
        generalize pL xs k = lst at C2 hpl hft1 hft2 hne2
        generalize pW xs k = p at C2 hpP hpw HTM hft2
        generalize sumI (xs.take (k + 1)) = st at C3 hsum hsl
        have D2 := Lib.hid C2
        have D3 := Lib.hid C3
        have HF1 := Lib.hid hft1
        have HF2 := Lib.hid hft2
        have HN2 := Lib.hid hne2
        have hdP : decide (P < p) = false := decide_eq_false (by omega)
        have hdS : decide (sumI xs < st) = false := decide_eq_false (by omega)
        clear C2 C3 hft1 hft2 hne2 hsum hsuma hsl hpP
        go_wp2_with fail
        refine D2.out.mono ?_
        rintro e w3 ⟨v3, rfl, ho3, hb3⟩
        have hw3 := bthen hw hb3
        obtain ⟨a3, c3, hsh⟩ := ho3.ri.shape
        subst hsh
        have HL3 := Lib.hid ho3.ri
        clear ho3 hb3
        go_wp2_with fail
        refine (D3.out _ (HR2.out.below hw3)).mono ?_
        rintro e w4 ⟨rfl, hb4⟩
        have HW4 := Lib.hid (bthen hw3 hb4)
        have HL4 := Lib.hid (HL3.out.below hb4)
        have HR4 := Lib.hid (HR2.out.below HW4.out)
        clear hb4 hw3
        have hmx : max x p = if x < p then p else x := by split <;> omega
        have HMX := Lib.hid hmx
        clear hmx
        by_cases hxp : x < p
        all_goals
          have HXP := Lib.hid hxp
          go_wp2_with (go_at_call 23; refine (a2Sum_any _ xs w4 HR4.out HGS.out).mono ?_; rintro e w' ⟨rfl, rfl⟩)
          go_loop [15, 16] (fun q i => ∃ (j : Nat) (b : ByteArray), j ≤ xs.length ∧ i = .int .i64 j ∧ q = .string b ∧ Hid (told lst k b j)) (fun _ i => xs.length - (intOf i).toNat)
          case atStart => exact ⟨0, _, Nat.zero_le _, rfl, rfl, Lib.hid (told_nil _ _)⟩
          case round =>
            obtain ⟨j, b, hj, rfl, rfl, HTD⟩ := hrel
            by_cases hlj : j < xs.length
            · have hdj : decide ((j : Int) < (xs.length : Int)) = true := decide_eq_true (by omega)
              have hbs : b.size ≤ 9 := by have := HTD.out.1; omega
              cases hm : decide ((j : Int) ∈ lst) with
              | false =>
                have HM := Lib.hid hm
                have HA := Lib.hid (show ansOf lst k j = 63 by unfold ansOf; rw [if_pos (by simpa using hm)])
                clear hm
                go_wp2_with (go_at_call 24; refine (a2Has_any _ lst j w4 HL4.out).mono ?_; rintro e w' ⟨rfl, rfl⟩; rw [HM.out])
                go_round
                case rel => exact ⟨j + 1, _, by omega, by go_num, rfl, Lib.hid (told_more HTD.out 63 HA.out.symm)⟩
                case measure => simp [intOf]; omega
              | true =>
                by_cases hs : k ≤ j
                · have hds : decide ((k : Int) ≤ (j : Int)) = true := decide_eq_true (by omega)
                  have hds2 : decide (k ≤ j) = true := decide_eq_true hs
                  have HM := Lib.hid hm
                  have HA := Lib.hid (show ansOf lst k j = 60 by unfold ansOf; rw [if_neg (by simpa using hm), if_pos hs])
                  clear hm
                  go_wp2_with (go_at_call 24; refine (a2Has_any _ lst j w4 HL4.out).mono ?_; rintro e w' ⟨rfl, rfl⟩; rw [HM.out])
                  go_round
                  case rel => exact ⟨j + 1, _, by omega, by go_num, rfl, Lib.hid (told_more HTD.out 60 HA.out.symm)⟩
                  case measure => simp [intOf]; omega
                · have hds : decide ((k : Int) ≤ (j : Int)) = false := decide_eq_false (by omega)
                  have hds2 : decide (k ≤ j) = false := decide_eq_false hs
                  have HM := Lib.hid hm
                  have HA := Lib.hid (show ansOf lst k j = 62 by unfold ansOf; rw [if_neg (by simpa using hm), if_neg hs])
                  clear hm
                  go_wp2_with (go_at_call 24; refine (a2Has_any _ lst j w4 HL4.out).mono ?_; rintro e w' ⟨rfl, rfl⟩; rw [HM.out])
                  go_round
                  case rel => exact ⟨j + 1, _, by omega, by go_num, rfl, Lib.hid (told_more HTD.out 62 HA.out.symm)⟩
                  case measure => simp [intOf]; omega
            · have hdj : decide ((j : Int) < (xs.length : Int)) = false := decide_eq_false (by omega)
              have hjn : j = xs.length := by omega
              have hbs : b.size ≤ 1048576 := by have := HTD.out.1; omega
              have HNR := Lib.hid (HN2.out b (by rw [HTD.out.1, hjn]) (fun q hq => HTD.out.2 q (by omega)))
              have C5 := implNarrowTo_any (.slice a1 xs.length c1) xs b w4 HR4.out hbs
              rw [HNR.out] at C5
              simp only at C5
              have D5 := Lib.hid C5
              clear C5 hjn
              go_wp2_with fail
              go_loop [17, 18] (fun q i => ∃ (j : Nat) (y : Int), j ≤ lst.length ∧ i = .int .i64 j ∧ q = .int .i64 y ∧ Hid (y = sumI ((lst.take j).map fun x => xs.getD x.toNat 0)) ∧ 0 ≤ y ∧ y ≤ 1000 * j) (fun _ i => lst.length - (intOf i).toNat)
              case atStart => exact ⟨0, 0, Nat.zero_le _, rfl, rfl, Lib.hid rfl, by omega, by omega⟩
              case round =>
                obtain ⟨i, y, hi, rfl, rfl, HY, y0, y1⟩ := hrel
                by_cases hli : i < lst.length
                · have hdi : decide ((i : Int) < (lst.length : Int)) = true := decide_eq_true (by omega)
                  have hii : (i : Int) < lst.length := by omega
                  obtain ⟨b3, o3, rfl, hb3, hc3⟩ := HL4.out.cells (by omega)
                  have g3 := hc3 i hli
                  have he := HF1.out (lst.getD i 0) (by simp only [List.getD, List.getElem?_eq_getElem hli, Option.getD_some]; exact List.getElem_mem hli)
                  have HS1 := Lib.hid (show sumI ((lst.take (i + 1)).map fun x => xs.getD x.toNat 0) = y + xs.getD (lst.getD i 0).toNat 0 by rw [take_snoc lst i hli, List.map_append, HY.out]; exact sumI_snoc _ _)
                  clear hc3
                  generalize lst.getD i 0 = e at g3 he HS1
                  obtain ⟨e0, e1⟩ := he
                  obtain ⟨E, rfl⟩ : ∃ E : Nat, e = E := ⟨e.toNat, by omega⟩
                  rw [Int.toNat_natCast] at HS1
                  obtain ⟨b4, o4, rfl, hb4, hc4⟩ := HR4.out.cells (by omega)
                  have g4 := hc4 E (by omega)
                  have hz := okOpen_getD HOP.out E (by omega)
                  clear hc4
                  generalize xs.getD E 0 = z at g4 hz HS1
                  obtain ⟨z0, z1⟩ := hz
                  have hde : decide ((E : Int) < 0) = false := decide_eq_false (by omega)
                  have hde2 : decide ((xs.length : Int) ≤ (E : Int)) = false := decide_eq_false (by omega)
                  have hwy : IntKind.i64.wrap (y + z) = y + z := IntWalk.i64_in _ (by omega)
                  go_wp2
                  go_round
                  case rel => exact ⟨i + 1, _, by omega, by go_num, rfl, Lib.hid HS1.out.symm, by omega, by omega⟩
                  case measure => simp [intOf]; omega
                · have hdi : decide ((i : Int) < (lst.length : Int)) = false := decide_eq_false (by omega)
                  have hyp : y = p := by
                    have h := HY.out
                    rw [List.take_of_length_le (by omega), HF2.out] at h
                    exact h
                  have hyb : (y != p) = false := by simp [hyp]
                  have hkk : ((k : Int) != (k : Int)) = false := by simp
                  clear hyp
                  go_wp2_with fail
                  refine D5.out.mono ?_
                  rintro e w5 ⟨rfl, hb5⟩
                  have hT := HTM.out
                  rw [HMX.out] at hT
                  first
                    | rw [if_pos (show x < p by have := HXP.out; omega)] at hT
                    | rw [if_neg (show ¬ x < p by have := HXP.out; omega)] at hT
                  have HTT := Lib.hid hT
                  clear hT
                  go_wp2
                  go_roundw
                  case rel => exact ⟨k + 1, _, by omega, by go_num, rfl, HTT, bthen HW4.out hb5⟩
                  case measure => simp [intOf]; omega
      · have hd : decide ((k : Int) ≤ (xs.length : Int)) = false := decide_eq_false (by omega)
        have hkn : k = xs.length + 1 := by omega
        have hxP : x = P := HTE.out x (hkn ▸ HT.out)
        have HXP := Lib.hid hxP
        have hb1 : (x == P) = true := by rw [beq_iff_eq]; exact hxP
        clear hkn hxP
        by_cases h0 : xs.length = 0
        · have hz : ((xs.length : Int) == 0) = true := by rw [beq_iff_eq]; omega
          have hp : (P == 0) = true := by rw [beq_iff_eq]; exact HP0.out h0
          clear h0
          go_wp2
          go_ret
          exact ⟨rfl, bthen HB2.out hw⟩
        · have hz : ((xs.length : Int) == 0) = false := by rw [beq_eq_false_iff_ne]; omega
          obtain ⟨q1, q2, q3⟩ := bWorst_mem xs 0 xs.length (by omega)
          have E1 : valNext xs 0 xs.length = ((bWorst xs 0 xs.length : Int), 0) := by
            unfold valNext
            rw [if_pos (HCS.out _ _ (by omega) (by omega) (by omega)), if_neg (by omega)]
            show ((price (cWorst xs) 9 0 xs.length).2, (0 : Int)) = _
            rw [q3]
          have hpart := HWP.out (by omega)
          generalize bWorst xs 0 xs.length = K at q1 q2 E1 hpart
          have C2 := implNextOpening_any (.slice a1 xs.length c1) xs 0 xs.length wo (HR2.out.below hw)
          rw [E1] at C2
          have C3 := fun W h => implWorstSearch_any (.slice a1 xs.length c1) xs ((0 : Nat) : Int) K W h
          rw [HWV.out 0 K (by omega) (by omega)] at C3
          rw [show ((0 : Nat) : Int) = 0 from rfl] at C3
          have C4 := fun W h => implWorstSearch_any (.slice a1 xs.length c1) xs ((K + 1 : Nat) : Int) xs.length W h
          rw [HWV.out (K + 1) xs.length (by omega) (by omega)] at C4
          simp only at C2 C3 C4
          have hxk := okOpen_getD HOP.out K (by omega)
          obtain ⟨b, off, rfl, hbl, hc⟩ := HR2.out.cells (by omega)
          have gK := (hw.cell (p := ⟨b, off + K, none⟩) hbl).trans (hc K (by omega))
          clear hc
          generalize (price (cWorst xs) 9 0 K).1 = pa at C3 hpart
          generalize (price (cWorst xs) 9 (K + 1) xs.length).1 = pb at C4 hpart
          generalize xs.getD K 0 = xk at gK hxk hpart
          have D2 := Lib.hid C2
          have D3 := Lib.hid C3
          have D4 := Lib.hid C4
          have HPT := Lib.hid hpart
          clear C2 C3 C4 E1 hpart q3
          have hKi : (K : Int) < xs.length := by omega
          have hK0 : decide ((K : Int) < 0) = false := decide_eq_false (by omega)
          have hK1 : decide ((xs.length : Int) ≤ (K : Int)) = false := decide_eq_false (by omega)
          have hwK : IntKind.i64.wrap ((K : Int) + 1) = ((K + 1 : Nat) : Int) := by rw [IntWalk.i64_in _ (by omega)]; omega
          go_wp2_with fail
          refine D2.out.mono ?_
          rintro e w3 ⟨rfl, hb3⟩
          have hw3 := bthen hw hb3
          have gK3 := (hb3.cell (p := ⟨b, off + K, none⟩) (Nat.lt_of_lt_of_le hbl hw.size)).trans gK
          clear gK hb3
          have HR3 := Lib.hid (HR2.out.below hw3)
          go_wp2_with fail
          refine (D3.out _ HR3.out).mono ?_
          rintro e w4 ⟨rfl, hb4⟩
          have gK4 := (hb4.cell (p := ⟨b, off + K, none⟩) (Nat.lt_of_lt_of_le hbl hw3.size)).trans gK3
          have hw4 := bthen hw3 hb4
          have HR4 := Lib.hid (HR3.out.below hb4)
          clear gK3 hb4
          go_wp2_with fail
          refine (D4.out _ HR4.out).mono ?_
          rintro e w5 ⟨rfl, hb5⟩
          have gK5 := (hb5.cell (p := ⟨b, off + K, none⟩) (Nat.lt_of_lt_of_le hbl hw4.size)).trans gK4
          have hw5 := bthen hw4 hb5
          clear gK4 hb5
          have hPb2 := HPT.out
          by_cases hpq : pa < pb
          · have hwm : IntKind.i64.wrap (xk + pb) = xk + pb := IntWalk.i64_in _ (by omega)
            have hfin : (xk + pb == P) = true := by rw [beq_iff_eq]; omega
            clear hPb2
            go_wp2
            go_ret
            exact ⟨rfl, bthen HB2.out hw5⟩
          · have hwm : IntKind.i64.wrap (xk + pa) = xk + pa := IntWalk.i64_in _ (by omega)
            have hfin : (xk + pa == P) = true := by rw [beq_iff_eq]; omega
            clear hPb2
            go_wp2
            go_ret
            exact ⟨rfl, bthen HB2.out hw5⟩

set_option maxRecDepth 100000 in
theorem lifted (os : Os) (started : os.Started) (H : Type) (enc : TypeId × Value → H) :
    ReturnsInHanded {} Try.checked os 4 .any (Rows.fnSearchesSpec.pre6 enc Try.prog Try.f4 Rows.fnSearchesRow.domain false) (Rows.fnSearchesSpec.post enc Try.prog Try.f4 false true false false) := by
  refine returnsInHanded_of_change (C := Try.checked) own started (by kernel_rfl) Try.func4
    (ChangeSpec.witness6 (enc := enc) (C := Try.checked) false ⟨#[], #[.slice none 0 0], []⟩ 8 (by kernel_rfl) (by kernel_rfl) (by kernel_rfl) (by kernel_rfl)) ?_
  intro W base args ds gs before hval0 hW _ _
  have hval : ∀ (j : Nat) t v, Try.f4.params[j]? = some t → args[j]? = some v → Value.okWide Try.prog W .any base t v := hval0
  have hW' := hW
  obtain ⟨p, q, hA0, hV, rfl, _, _⟩ := hW
  have hA : DataW.TrodAll enc Try.prog W 0 (fun _ => true) true Try.f4.params.toList args.toList ds p := hA0
  obtain ⟨rfl, rfl⟩ := trodVars_none hV
  have hlt0 : ∀ x ∈ p, x.block < W.heap.size := fun x hx => by simpa using hW'.lt x (by simpa using hx)
  rw [Try.params4] at hA hval
  obtain ⟨b0, vs0, d0, ds0, p0, q0, hargs0, rfl, rfl, h0, r0⟩ := trodAll_cons hA
  obtain ⟨e1, rfl, e2⟩ := trodAll_nil r0
  have hargs : args = #[b0] := by
    cases args
    simp_all
  subst hargs
  obtain ⟨n0, hx0⟩ := open_BI Try.underlying26 Try.underlying5 (by kernel_rfl) (hval 0 _ b0 rfl rfl) h0 (fun x hx => hlt0 x (by simp [hx]))
  refine (walk b0 n0 W hx0).mono fun e W' ⟨he, hb⟩ => ?_
  subst he
  exact ⟨_, rfl, law_post laidOut (by decide +kernel) (by kernel_rfl) Try.underlying4 rfl hW' rfl hb⟩

theorem proved : Rows.FnSearchesSaid :=
  OpenClaim.holds_of_wide 4 Try.f4 rfl rfl rfl rfl rfl rfl rfl ⟨rfl, rfl, rfl, rfl, rfl⟩ rfl rfl rfl rfl rfl (by kernel_rfl) Try.func4 (by kernel_rfl)
    (of_decide_eq_true (by kernel_rfl)) (by unfold Func.isWrapper; first | (rw [if_pos (by decide +kernel)]; kernel_rfl) | (rw [if_neg (by decide +kernel)]; exact ⟨rfl, rfl⟩))
    (fun os started H enc _ => lifted os started H enc)

end Go.Proofs.Ytoeigifmghfpgaa.fnSearches
