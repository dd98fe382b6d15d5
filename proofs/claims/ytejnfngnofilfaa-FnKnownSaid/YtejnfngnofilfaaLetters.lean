/-
  KnownSwitches of the reference and of the program: what each returns.
-/
import Derived.Test.YtejnfngnofilfaaDiag
import Derived.Laws.BytesArg
namespace Go.Proofs.Ytejnfngnofilfaa
open Go.RowKit

theorem letter_cases {s : B4} (h : good4 s) (hc : clash4 s = false) :
    (wrong4 s = true ∧ sides4 s = 1 ∧ letter4 s = 48) ∨ (wrong4 s = true ∧ sides4 s = 2 ∧ letter4 s = 49) ∨ (wrong4 s = false ∧ sides4 s = 3 ∧ letter4 s = 119) ∨ (wrong4 s = false ∧ sides4 s = 1 ∧ letter4 s = 97) ∨ (wrong4 s = false ∧ sides4 s = 2 ∧ letter4 s = 98) ∨ (wrong4 s = false ∧ sides4 s = 0 ∧ letter4 s = 63) := by
  obtain ⟨x, y, c, e⟩ := s
  cases x <;> cases y <;> cases c <;> cases e <;> simp_all [good4, clash4, wrong4, sides4, letter4]
theorem letters_drop (st : List B4) (k : Nat) (hk : 1 ≤ k) : (lettersTo st (k + 1)).drop 1 = (lettersTo st k).drop 1 ++ [letter4 (st.getD k z4)] := by
  rw [lettersTo_succ, List.drop_append_of_le_length (by rw [lettersTo_length]; exact hk)]
theorem letters_one (st : List B4) : (lettersTo st 1).drop 1 = [] := by rfl
theorem clash_none {n : Nat} {ts : List (Int × Int)} (h : clashes n ts = false) (k : Nat) : clash4 ((seenTo n ts).getD k z4) = false := by
  by_cases hk : k < (seenTo n ts).length
  · cases hc : clash4 ((seenTo n ts).getD k z4) with
    | false => rfl
    | true => have := any4_hit hk hc; unfold clashes at h; rw [h] at this; simp at this
  · have : (seenTo n ts).getD k z4 = z4 := by simp [List.getD, List.getElem?_eq_none (by omega : (seenTo n ts).length ≤ k)]
    rw [this]; rfl

def known (n : Nat) (ts : List (Int × Int)) : ByteArray := strOfNums ((lettersTo (seenTo n ts) (2 ^ n)).drop 1)
def valKnown (d : Int) (ts : List (Int × Int)) : ByteArray × Int := (if codeF d ts = 0 then known d.toNat ts else ⟨#[]⟩, codeF d ts)

set_option maxRecDepth 100000 in
set_option maxHeartbeats 1000000 in
theorem l18Letters_any (n : Nat) (v : Value) (ts : List (Int × Int)) (w : World) (hv : SI P2 w v ts) (hok : okTrials n ts = true) (hcl : clashes n ts = false) :
    Calls Try.prog 89 #[.int .i64 n, v] w fun e w' => e = .returned (.string (known n ts)) ∧ Below w.heap.size w w' := by
  have HV := Lib.hid hv
  have HK := Lib.hid hok
  have hd := okTrials_depth hok
  have hE : ex (n : Int) = ((2 ^ n : Nat) : Int) := by simp [ex]
  obtain ⟨_, _, e3, e4⟩ := wrap_ex hd
  have hfit := fit4_seen hd ts
  simp only [Int.toNat_natCast] at hfit
  have HE := Lib.hid (show known n ts = strOfNums ((lettersTo (seenTo n ts) (2 ^ n)).drop 1) by rfl)
  have HLC := Lib.hid (fun k => letter_cases (hfit.2.1 k) (clash_none hcl k))
  have hN : 2 ^ n ≤ 16 := by omega
  have hN2 : 2 ≤ 2 ^ n := by omega
  generalize 2 ^ n = N at hfit hN hN2 HE
  have HF := Lib.hid hfit
  clear hv hok hd hE hfit hcl
  obtain ⟨j0, hj, jz0, jz1, jz2⟩ := info_parts infoU8
  have HJ := Lib.hid hj
  clear hj
  go_enter Try.func89, Try.ntmps89
  go_wp2_with fail
  refine (l18Shown_any n v ts _ HV.out HK.out).mono ?_
  rintro e w1 ⟨va, vb, rfl, ha, hb, hb1⟩
  generalize seenTo n ts = st at ha hb HF HE HLC
  have hlen := HF.out.1
  obtain ⟨ga, ca, rfl⟩ : ∃ g cap, va = .slice (some ⟨g, 0, none⟩) N cap := by
    rcases ha.shape with ⟨_, h⟩ | ⟨g, cap, h, _⟩
    · have := congrArg List.length h; rw [List.length_map] at this; simp only [List.length_nil] at this; omega
    · exact ⟨g, cap, by rw [h]; simp [hlen]⟩
  obtain ⟨gb, cb, rfl⟩ : ∃ g cap, vb = .slice (some ⟨g, 0, none⟩) N cap := by
    rcases hb.shape with ⟨_, h⟩ | ⟨g, cap, h, _⟩
    · have := congrArg List.length h; rw [List.length_map] at this; simp only [List.length_nil] at this; omega
    · exact ⟨g, cap, by rw [h]; simp [hlen]⟩
  have HA := Lib.hid ha
  have HB := Lib.hid hb
  clear ha hb
  go_wp2_with fail
  go_loopw [7, 8] (fun o i wr => ∃ k : Nat, 1 ≤ k ∧ k ≤ N ∧ i = .int .i64 k ∧ Below w1.heap.size w1 wr ∧ OY 5 wr w1.heap.size o ((lettersTo st k).drop 1)) (fun _ i _ => N - (intOf i).toNat)
  case atStart => exact ⟨1, Nat.le_refl _, by omega, rfl, (Below.refl _ _).alloc (Nat.le_refl _) _, by rw [letters_one]; exact OY.lit0 _ _ _ (Nat.le_refl _)⟩
  case round =>
    obtain ⟨k, hk1, hk, rfl, hw, ho⟩ := hrel
    have HO := Lib.hid ho
    clear ho
    by_cases hlt : k < N
    · have k1 := ((HA.out.below hw).cell k (by simp; omega)).1
      have k2 := ((HB.out.below hw).cell k (by simp; omega)).1
      rw [map4_getD sides4 st k (by omega)] at k1
      rw [map4_getD wrong4 st k (by omega)] at k2
      have HLS := Lib.hid (letters_drop st k hk1)
      have hlc := HLC.out k
      have hll : ((lettersTo st k).drop 1).length ≤ 16 := by rw [List.length_drop, lettersTo_length]; omega
      generalize st.getD k z4 = s at k1 k2 HLS hlc
      rcases hlc with ⟨e1, e2, e3⟩ | ⟨e1, e2, e3⟩ | ⟨e1, e2, e3⟩ | ⟨e1, e2, e3⟩ | ⟨e1, e2, e3⟩ | ⟨e1, e2, e3⟩
      all_goals
        rw [e2] at k1
        rw [e1] at k2
        rw [e3] at HLS
        clear e1 e2 e3
        go_wp2_with (at_builtin; refine wpList_app1y rfl _ _ 42 rfl 5 _ j0 Try.underlying42 HJ.out jz0 jz1 jz2 w1.heap.size _ _ rfl HO.out _ _ (by simp) rfl ?_ hw.size ?_)
        · omega
        · intro v9 w9 h1 h2 _
          have hb9 : Below w1.heap.size w1 w9 := bgrown hw h2 (fun q hq => (HO.out.lt q hq).1)
          have H9 := Lib.hid h1
          clear h1 h2
          go_wp2_with fail
          go_roundw
          case rel => exact ⟨k + 1, by omega, by omega, by go_num, hb9, by rw [HLS.out]; simpa using H9.out⟩
          case measure => simp [intOf]; omega
    · have hkn : k = N := by omega
      subst hkn
      have hll : ((lettersTo st k).drop 1).length = k - 1 := by rw [List.length_drop, lettersTo_length]
      obtain ⟨g, cap, rfl⟩ : ∃ g cap, u7 = .slice (some ⟨g, 0, none⟩) (k - 1) cap := by
        rcases HO.out.shape with ⟨_, h⟩ | ⟨g, cap, h, _⟩
        · rw [h] at hll; simp at hll; omega
        · exact ⟨g, cap, by rw [h, hll]⟩
      have hcv := run_convert_bytes_arg (P := Try.prog) wr 42 5 Try.underlying42 Try.underlying5 g 0 (k - 1) cap ((lettersTo st k).drop 1) hll (fun i hi => by rw [Nat.zero_add]; exact HO.out.cell i (by omega)) 9 Try.underlying9
      rw [← HE.out] at hcv
      go_wp2
      go_ret
      exact ⟨rfl, bthen hb1 hw⟩

end Go.Proofs.Ytejnfngnofilfaa
