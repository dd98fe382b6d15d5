/-
  FnMeans: for all bytes it returns true, and leaves its argument as it was. No condition.
-/
import Derived.Test.YtoeigifmghfpgaaDraw16
import Derived.Test.YtoeigifmghfpgaaA2Long
import Derived.Test.YtoeigifmghfpgaaMeanLaw
import Derived.Test.YtoeigifmghfpgaaFor
import Derived.Test.YtoeigifmghfpgaaMeanFns
import Derived.Test.YtoeigifmghfpgaaLawBytes
namespace Go.Proofs.Ytoeigifmghfpgaa.fnMeans
open Go.ChangeShapes Go.WideShapes Go.ChangeAt Go.RowKit Plain

/-- What a section costs, of the program's mean search and of the reference's other one. -/
def pM (xs ws : List Int) (s : Int) : Int := (findR (bMean xs ws) xs s 9 0 xs.length).2
def pW (xs : List Int) (s : Int) : Int := (findR (bWorst xs) xs s 9 0 xs.length).2
theorem pM_in {xs ws : List Int} (h : okOpen xs = true) (s : Int) : 0 ≤ pM xs ws s ∧ pM xs ws s ≤ 9000 := by
  have := findR_bounds (bMean xs ws) xs s (fun k hk => okOpen_getD h k hk) (fun lo hi h _ => ⟨(bMean_mem xs ws lo hi h).1, (bMean_mem xs ws lo hi h).2.1⟩) 9 0 xs.length (Nat.le_refl _)
  unfold pM; omega
theorem pW_in {xs : List Int} (h : okOpen xs = true) (s : Int) : 0 ≤ pW xs s ∧ pW xs s ≤ 9000 := by
  have := findR_bounds (bWorst xs) xs s (fun k hk => okOpen_getD h k hk) (fun lo hi h _ => ⟨(bWorst_mem xs lo hi h).1, (bWorst_mem xs lo hi h).2.1⟩) 9 0 xs.length (Nat.le_refl _)
  unfold pW; omega
theorem ws_in {xs ws : List Int} (h : okWeights xs ws = true) (i : Nat) : 0 ≤ ws.getD i 0 ∧ ws.getD i 0 ≤ 100 := by
  by_cases hi : i < ws.length
  · have := (okWeights_iff h).2.2 (ws.getD i 0) (by simp only [List.getD, List.getElem?_eq_getElem hi, Option.getD_some]; exact List.getElem_mem _)
    omega
  · simp only [List.getD, List.getElem?_eq_none (by omega : ws.length ≤ i), Option.getD_none]; omega
theorem sumM_in {xs ws : List Int} (h : okWeights xs ws = true) (k : Nat) : 0 ≤ wsum ws (pM xs ws) 0 k ∧ wsum ws (pM xs ws) 0 k ≤ 900000 * k :=
  wsum_bound (fun i _ => mul_in (ws_in h _) (pM_in (okWeights_iff h).1 _))
theorem sumW_in {xs ws : List Int} (h : okWeights xs ws = true) (k : Nat) : 0 ≤ wsum ws (pW xs) 0 k ∧ wsum ws (pW xs) 0 k ≤ 900000 * k :=
  wsum_bound (fun i _ => mul_in (ws_in h _) (pW_in (okWeights_iff h).1 _))

set_option maxRecDepth 100000 in
set_option maxHeartbeats 2000000 in
theorem walk (v : Value) (n : Nat) (w : World) (hv : BI w v n) :
    Calls Try.prog 13 #[v] w fun e w' => e = .returned (.bool true) ∧ Below w.heap.size w w' := by
  have HV := Lib.hid hv
  clear hv
  go_enter Try.func13, Try.ntmps13
  go_wp2_with fail
  refine (a2Long_any v _ n 0 _ HV.out (BI.nil _)).mono ?_
  rintro e w' ⟨lg, rfl, rfl⟩
  cases lg with
  | true =>
    go_wp2
    go_ret
    exact ⟨rfl, Below.refl _ _⟩
  | false =>
    go_wp2_with fail
    refine (a2Openings_any v n _ HV.out).mono ?_
    rintro e w1 ⟨v1, v2, xs, ws, rfl, ho1, ho2, hok, hb1⟩
    obtain ⟨a1, c1, hsh⟩ := ho1.ri.shape
    subst hsh
    obtain ⟨a2, c2, hsh⟩ := ho2.ri.shape
    subst hsh
    have HR1 := Lib.hid ho1.ri
    have HR2 := Lib.hid ho2.ri
    have HOK := Lib.hid hok
    have HOP := Lib.hid (okWeights_iff hok).1
    have hwl := (okWeights_iff hok).2.1
    have hx9 : xs.length ≤ 9 := by
      have h := (okWeights_iff hok).1
      simp only [okOpen, Bool.and_eq_true, decide_eq_true_eq] at h
      exact h.2
    have HB1 := Lib.hid hb1
    have HWL := Lib.hid hwl
    have hM1 := mean_sum xs ws hwl 9 0 xs.length (Nat.zero_le _) (Nat.le_refl _) (by omega) (by omega)
    have hM2 := mean_least (bWorst xs) xs ws (fun lo hi h _ => ⟨(bWorst_mem xs lo hi h).1, (bWorst_mem xs lo hi h).2.1⟩) hwl 9 0 xs.length (Nat.zero_le _) (Nat.le_refl _) (by omega)
    rw [show xs.length + 1 - 0 = ws.length by omega] at hM1 hM2
    have E0 : valMean xs ws = (wsum ws (pM xs ws) 0 ws.length, 0) := by
      unfold valMean; rw [if_pos hok]; rw [hM1]; rfl
    have hle : wsum ws (pM xs ws) 0 ws.length ≤ wsum ws (pW xs) 0 ws.length := by
      have e : wsum ws (pM xs ws) 0 ws.length = (price (cMean xs ws) 9 0 xs.length).1 := hM1.symm
      rw [e]; exact hM2
    have HLE := Lib.hid hle
    have C1 := implMeanSearch_any _ xs _ ws w1 HR1.out HR2.out
    rw [E0] at C1
    simp only at C1
    have D1 := Lib.hid C1
    clear ho1 ho2 hok hb1 hM1 hM2 E0 hle C1 hwl
    go_wp2_with fail
    refine D1.out.mono ?_
    rintro e w2 ⟨rfl, hb2⟩
    have HR1 := Lib.hid (HR1.out.below hb2)
    have HR2 := Lib.hid (HR2.out.below hb2)
    have HB2 := Lib.hid (bthen HB1.out hb2)
    clear hb2
    go_wp2_with fail
    go_loopw [7, 8, 9] (fun a b i wr => ∃ (k : Nat) (x y : Int), k ≤ ws.length ∧ i = .int .i64 k ∧ a = .int .i64 x ∧ b = .int .i64 y ∧ Hid (x = wsum ws (pM xs ws) 0 k ∧ y = wsum ws (pW xs) 0 k) ∧ Below w2.heap.size w2 wr) (fun _ _ i _ => ws.length - (intOf i).toNat)
    case atStart => exact ⟨0, 0, 0, Nat.zero_le _, rfl, rfl, rfl, Lib.hid ⟨rfl, rfl⟩, Below.refl _ _⟩
    case round =>
      obtain ⟨k, x, y, hk, rfl, rfl, rfl, HXY, hw⟩ := hrel
      rename World => wo
      have bx := sumM_in HOK.out k
      have by' := sumW_in HOK.out k
      rw [← HXY.out.1] at bx
      rw [← HXY.out.2] at by'
      have hwl10 : ws.length ≤ 10 := by have := HWL.out; omega
      obtain ⟨x0, x1⟩ := bx
      obtain ⟨y0, y1⟩ := by'
      by_cases hlt : k < ws.length
      · have hd : decide ((k : Int) < (ws.length : Int)) = true := decide_eq_true (by omega)
        have hcs : codeS xs k k = 0 := by
          rw [codeS_valid HOP.out, if_pos]
          have := HWL.out
          simp only [inB, Bool.and_eq_true, decide_eq_true_eq]; omega
        have E1 : valMeanFor xs ws k = ((findR (bMean xs ws) xs k 9 0 xs.length).1, pM xs ws k, 0) := by unfold valMeanFor; rw [if_pos HOK.out, if_pos hcs]; rfl
        have E2 : valSearchFor xs k = ((findR (bWorst xs) xs k 9 0 xs.length).1, pW xs k, 0) := by unfold valSearchFor; rw [if_pos hcs]; rfl
        have C2 := implMeanSearchFor_any _ xs _ ws k wo (HR1.out.below hw) (HR2.out.below hw)
        rw [E1] at C2
        have C3 := fun W h => specSearchFor_any (.slice a1 xs.length c1) xs k W h
        rw [E2] at C3
        simp only at C2 C3
        have hpM := pM_in (ws := ws) HOP.out (k : Int)
        have hpW := pW_in HOP.out (k : Int)
        have hwk := ws_in HOK.out k
        have HS1 := Lib.hid (show wsum ws (pM xs ws) 0 (k + 1) = x + ws.getD k 0 * pM xs ws k by rw [HXY.out.1]; simp [wsum])
        have HS2 := Lib.hid (show wsum ws (pW xs) 0 (k + 1) = y + ws.getD k 0 * pW xs k by rw [HXY.out.2]; simp [wsum])
        have hm1 := mul_in hwk hpM
        have hm2 := mul_in hwk hpW
        have hfst : 0 < xs.length → ∃ t, (findR (bMean xs ws) xs k 9 0 xs.length).1 = (bMean xs ws 0 xs.length : Int) :: t := fun h => findR_first (bMean xs ws) xs k 8 0 xs.length h
        have hnil : xs.length = 0 → (findR (bMean xs ws) xs k 9 0 xs.length).1 = [] := fun h => by rw [findR_done _ _ _ _ _ _ (by omega)]
        have E3 : 0 < xs.length → valMeanOpening xs ws = ((bMean xs ws 0 xs.length : Int), 0) := fun h => by
          unfold valMeanOpening
          rw [if_pos HOK.out, if_neg (by omega), (bMean_mem xs ws 0 xs.length h).2.2]
        generalize (findR (bMean xs ws) xs k 9 0 xs.length).1 = lst at C2 hfst hnil
        generalize (findR (bWorst xs) xs k 9 0 xs.length).1 = lst2 at C3
        generalize pM xs ws k = p at C2 hpM HS1 hm1
        generalize pW xs k = q at C3 hpW HS2 hm2
        generalize hwkd : ws.getD k 0 = g at hwk HS1 HS2 hm1 hm2
        have D2 := Lib.hid C2
        have D3 := Lib.hid C3
        have HF := Lib.hid hfst
        have HN := Lib.hid hnil
        have HE3 := Lib.hid E3
        have HWK := Lib.hid hwkd
        clear C2 C3 E1 E2 hcs hfst hnil E3 hwkd
        obtain ⟨p0, p1⟩ := hpM
        obtain ⟨m0, m1⟩ := hm1
        obtain ⟨n0, n1⟩ := hm2
        have hdp0 : decide (p < 0) = false := decide_eq_false (by omega)
        have hdp1 : decide ((100000 : Int) < p) = false := decide_eq_false (by omega)
        have hwg1 : IntKind.i64.wrap (g * p) = g * p := IntWalk.i64_in _ (by omega)
        have hwg2 : IntKind.i64.wrap (g * q) = g * q := IntWalk.i64_in _ (by omega)
        have hws1 : IntKind.i64.wrap (x + g * p) = x + g * p := IntWalk.i64_in _ (by omega)
        have hws2 : IntKind.i64.wrap (y + g * q) = y + g * q := IntWalk.i64_in _ (by omega)
        have hki : (k : Int) < ws.length := by omega
        go_wp2_with fail
        refine D2.out.mono ?_
        rintro e w3 ⟨v3, rfl, ho3, hb3⟩
        have hw3 := bthen hw hb3
        have HL3 := Lib.hid ho3.ri
        clear ho3
        go_wp2_with fail
        refine (D3.out _ (HR1.out.below hw3)).mono ?_
        rintro e w4 ⟨v4, rfl, _, hb4⟩
        have hw4 := bthen hw3 hb4
        have HL4 := Lib.hid (HL3.out.below hb4)
        have HR24 := Lib.hid (HR2.out.below hw4)
        obtain ⟨a3, c3, hsh⟩ := HL4.out.shape
        subst hsh
        clear hb3 hb4 hw3
        obtain ⟨bw, ow, rfl, hbw, hcw⟩ := HR24.out.cells (by omega)
        have gw := hcw k hlt
        rw [HWK.out] at gw
        clear hcw
        rcases (by omega : xs.length = 0 ∨ 0 < xs.length) with h0 | h0
        · have hl0 := HN.out h0
          have HL0 := Lib.hid hl0
          have hdx : decide ((0 : Int) < (xs.length : Int)) = false := decide_eq_false (by omega)
          have hdx2 : decide (0 < xs.length) = false := decide_eq_false (by omega)
          have hdl : decide ((0 : Int) < (lst.length : Int)) = false := decide_eq_false (by rw [hl0]; simp)
          have hdl2 : decide (0 < lst.length) = false := decide_eq_false (by rw [hl0]; simp)
          clear hl0 h0
          go_wp2
          go_roundw
          case rel => exact ⟨k + 1, _, _, by omega, by go_num, rfl, rfl, Lib.hid ⟨HS1.out.symm, HS2.out.symm⟩, hw4⟩
          case measure => simp [intOf]; omega
        · obtain ⟨t, ht⟩ := HF.out h0
          have hln : 0 < lst.length := by rw [ht]; simp
          have hg0 : lst.getD 0 0 = (bMean xs ws 0 xs.length : Int) := by rw [ht]; rfl
          obtain ⟨bl, ol, rfl, hbl, hcl⟩ := HL4.out.cells hln
          have gl := hcl 0 hln
          rw [hg0, Nat.add_zero] at gl
          have E3 := HE3.out h0
          have C5 := fun W h h2 => implMeanOpening_any (.slice a1 xs.length c1) xs (.slice (some ⟨bw, ow, none⟩) ws.length c2) ws W h h2
          rw [E3] at C5
          simp only at C5
          generalize (bMean xs ws 0 xs.length : Int) = kk at C5 gl
          have hkk : (kk != kk) = false := by simp
          have D5 := Lib.hid (C5 _ (HR1.out.below hw4) HR24.out)
          have hdx : decide ((0 : Int) < (xs.length : Int)) = true := decide_eq_true (by omega)
          have hdx2 : decide (0 < xs.length) = true := decide_eq_true h0
          have hdl : decide ((0 : Int) < (lst.length : Int)) = true := decide_eq_true (by omega)
          have hdl2 : decide (0 < lst.length) = true := decide_eq_true hln
          have hle0 : ((lst.length : Int) == 0) = false := by rw [beq_eq_false_iff_ne]; omega
          have hl0i : (0 : Int) < lst.length := by omega
          clear ht hg0 hcl E3 C5 h0
          go_wp2_with (go_at_call 32; refine D5.out.mono ?_; rintro e w5 ⟨rfl, hb5⟩; have gl5 := (hb5.cell (p := ⟨bl, ol, none⟩) hbl).trans gl; have gw5 := (hb5.cell (p := ⟨bw, ow + k, none⟩) hbw).trans gw; have hw5 := bthen hw4 hb5; clear gl gw)
          go_roundw
          case rel => exact ⟨k + 1, _, _, by omega, by go_num, rfl, rfl, Lib.hid ⟨HS1.out.symm, HS2.out.symm⟩, hw5⟩
          case measure => simp [intOf]; omega
      · have hd : decide ((k : Int) < (ws.length : Int)) = false := decide_eq_false (by omega)
        have hK : k = ws.length := by omega
        have hxy := HXY.out
        rw [hK] at hxy
        obtain ⟨hx, hy⟩ := hxy
        have hb1 : (x == wsum ws (pM xs ws) 0 ws.length) = true := by rw [beq_iff_eq]; exact hx
        have hb2 : decide (wsum ws (pM xs ws) 0 ws.length ≤ y) = true := decide_eq_true (by rw [hy]; exact HLE.out)
        clear hx hy hK
        go_wp2
        go_ret
        exact ⟨rfl, bthen HB2.out hw⟩

set_option maxRecDepth 100000 in
theorem lifted (os : Os) (started : os.Started) (H : Type) (enc : TypeId × Value → H) :
    ReturnsInHanded {} Try.checked os 13 .any (Rows.fnMeansSpec.pre6 enc Try.prog Try.f13 Rows.fnMeansRow.domain false) (Rows.fnMeansSpec.post enc Try.prog Try.f13 false true false false) := by
  refine returnsInHanded_of_change (C := Try.checked) own started (by kernel_rfl) Try.func13
    (ChangeSpec.witness6 (enc := enc) (C := Try.checked) false ⟨#[], #[.slice none 0 0], []⟩ 8 (by kernel_rfl) (by kernel_rfl) (by kernel_rfl) (by kernel_rfl)) ?_
  intro W base args ds gs before hval0 hW _ _
  have hval : ∀ (j : Nat) t v, Try.f13.params[j]? = some t → args[j]? = some v → Value.okWide Try.prog W .any base t v := hval0
  have hW' := hW
  obtain ⟨p, q, hA0, hV, rfl, _, _⟩ := hW
  have hA : DataW.TrodAll enc Try.prog W 0 (fun _ => true) true Try.f13.params.toList args.toList ds p := hA0
  obtain ⟨rfl, rfl⟩ := trodVars_none hV
  have hlt0 : ∀ x ∈ p, x.block < W.heap.size := fun x hx => by simpa using hW'.lt x (by simpa using hx)
  rw [Try.params13] at hA hval
  obtain ⟨b0, vs0, d0, ds0, p0, q0, hargs0, rfl, rfl, h0, r0⟩ := trodAll_cons hA
  obtain ⟨e1, rfl, e2⟩ := trodAll_nil r0
  have hargs : args = #[b0] := by
    cases args
    simp_all
  subst hargs
  obtain ⟨n0, hx0⟩ := open_BI Try.underlying26 Try.underlying5 (by kernel_rfl) (hval 0 _ b0 rfl rfl) h0 (fun x hx => hlt0 x (by simp [hx]))
  refine (walk b0 n0 W hx0).mono fun e W' ⟨he, hb⟩ => ?_
  subst he
  exact ⟨_, rfl, law_post laidOut (by decide +kernel) (by kernel_rfl) Try.underlying4 rfl hW' rfl hb⟩

theorem proved : Rows.FnMeansSaid :=
  OpenClaim.holds_of_wide 13 Try.f13 rfl rfl rfl rfl rfl rfl rfl ⟨rfl, rfl, rfl, rfl, rfl⟩ rfl rfl rfl rfl rfl (by kernel_rfl) Try.func13 (by kernel_rfl)
    (of_decide_eq_true (by kernel_rfl)) (by unfold Func.isWrapper; first | (rw [if_pos (by decide +kernel)]; kernel_rfl) | (rw [if_neg (by decide +kernel)]; exact ⟨rfl, rfl⟩))
    (fun os started H enc _ => lifted os started H enc)

end Go.Proofs.Ytoeigifmghfpgaa.fnMeans
