/-
  FnTop: for all bytes it returns true, and leaves its arguments as they were. No condition.
-/
import Derived.Test.YthlpbeohlhhblaaGreatTopG
import Derived.Test.YthlpbeohlhhblaaGreatTopI
import Derived.Test.YthlpbeohlhhblaaGreatTopH
import Derived.Test.YthlpbeohlhhblaaGreatTopK
import Derived.Test.YthlpbeohlhhblaaGreatTopM
import Derived.Test.YthlpbeohlhhblaaGreatTopN
import Derived.Test.YthlpbeohlhhblaaGreatTopS
import Derived.Test.YthlpbeohlhhblaaGreatTopR
import Derived.Test.YthlpbeohlhhblaaGreatTopT
namespace Go.Proofs.YthlpbeohlhhblaaGreat
open Go.ChangeShapes Go.WideShapes Go.ChangeAt Go.RowKit
namespace fnTop

theorem dead_upto (halls : List Int) (ways : List (List Int)) (S : List St4) : ∀ n, (∀ j, j < n → deadS halls ways (S.getD j zSt) = false) ∨ ∃ k, k < n ∧ deadS halls ways (S.getD k zSt) = true ∧ ∀ j, j < k → deadS halls ways (S.getD j zSt) = false
  | 0 => .inl fun j hj => absurd hj (Nat.not_lt_zero _)
  | n + 1 => by
    rcases dead_upto halls ways S n with h | ⟨k, hk, h1, h2⟩
    · cases hd : deadS halls ways (S.getD n zSt) with
      | true => exact .inr ⟨n, Nat.lt_succ_self _, hd, h⟩
      | false =>
        refine .inl fun j hj => ?_
        by_cases e : j = n
        · rw [e]; exact hd
        · exact h j (by omega)
    · exact .inr ⟨k, by omega, h1, h2⟩
theorem dead_ex (halls : List Int) (ways : List (List Int)) (S : List St4) : ∃ o, DeadR halls ways S o := by
  rcases dead_upto halls ways S S.length with h | ⟨k, hk, h1, h2⟩
  · exact ⟨none, .inl ⟨rfl, h⟩⟩
  · exact ⟨some k, .inr ⟨k, rfl, hk, h1, h2⟩⟩
/-- What the two searches for a deadlock tell: the same. -/
theorem dead_pack (halls : List Int) (ways : List (List Int)) (ok : OkHW halls ways) : ∃ (dead : Bool) (ms : List Int), (dead = true → LegalS halls ways ms ∧ deadS halls ways (pathS ms) = true) ∧
    (∀ (hv wv : Value) (w : World), RI w hv halls → WaysI w wv ways → Calls Tryz.prog 13 #[hv, wv] w fun e w' => ∃ v1, e = .returned (.tuple #[v1, .int .i64 (if dead then 0 else 3)]) ∧ RI w' v1 ms ∧ Below w.heap.size w w') ∧
    (∀ (hv wv : Value) (w : World), RI w hv halls → WaysI w wv ways → Calls Tryz.prog 14 #[hv, wv] w fun e w' => e = .returned (.tuple #[.bool (!dead), .int .i64 0]) ∧ Below w.heap.size w w') := by
  have c1 := fun (hv wv : Value) (w : World) (h1 : RI w hv halls) (h2 : WaysI w wv ways) => firstDeadlock_any halls ways hv wv w h1 h2 ok
  have c2 := fun (hv wv : Value) (w : World) (h1 : RI w hv halls) (h2 : WaysI w wv ways) => isFree_any halls ways hv wv w h1 h2 ok
  have hi := reach_inv halls ways
  generalize reachT halls ways = R at c1 c2 hi
  obtain ⟨o, ho⟩ := dead_ex halls ways R.1
  refine ⟨o.isSome, lstOf R.2 o, fun hd => ?_, fun hv wv w h1 h2 => (c1 hv wv w h1 h2).mono ?_, fun hv wv w h1 h2 => (c2 hv wv w h1 h2).mono ?_⟩
  · rcases ho with ⟨rfl, _⟩ | ⟨k, rfl, hk, h1, _⟩
    · cases hd
    · refine ⟨hi.legal k hk, ?_⟩
      have := hi.path k hk
      show deadS halls ways (pathS (R.2.getD k [])) = true
      rw [← this]
      exact h1
  · rintro e w' ⟨o', v1, hd', he, hr, hb⟩
    obtain rfl := deadR_uniq hd' ho
    exact ⟨v1, he, hr, hb⟩
  · rintro e w' ⟨o', hd', he, hb⟩
    obtain rfl := deadR_uniq hd' ho
    exact ⟨he, hb⟩

/-- What the best order is like, and its plan. -/
theorem plan_pack {times : List Int} {xs : List WishP} (hok : okWishes times xs = true) : ∃ (b : List Int) (l : Int), best (cost times xs) (allOrders xs.length xs.length []) = (b, l) ∧ okOrder xs.length b ∧ cost times xs b = l ∧ (∀ o, okOrder xs.length o → l ≤ cost times xs o) ∧
    okTimes times = true ∧ xs.length ≤ 6 ∧ (plan times xs b).length = xs.length ∧ (∀ x ∈ plan times xs b, okWay times x.1 = true ∧ inB 0 100000 x.2 = true) ∧
    ∀ i k, i < (plan times xs b).length → k < (plan times xs b).length → i ≠ k → apart times ((plan times xs b).getD i zR) ((plan times xs b).getD k zR) := by
  obtain ⟨b, l, h⟩ : ∃ b l, best (cost times xs) (allOrders xs.length xs.length []) = (b, l) := ⟨_, _, rfl⟩
  obtain ⟨h1, h2, h3⟩ := best_order hok h
  have hl := plan_length times xs b
  have h6 : xs.length ≤ 6 ∧ okTimes times = true := by
    have := hok
    unfold okWishes at this
    simp only [Bool.and_eq_true, decide_eq_true_eq] at this
    exact ⟨this.1.2, this.1.1⟩
  refine ⟨b, l, h, h1, h2, h3, h6.2, h6.1, hl, fun x hx => ?_, fun i k hi hk hne => plan_apart hok h1 (by omega) (by omega) hne⟩
  obtain ⟨i, hi, rfl⟩ := List.getElem_of_mem hx
  have := plan_fits hok h1 (i := i) (by omega)
  rw [show (plan times xs b).getD i zR = (plan times xs b)[i] by simp [List.getD, hi]] at this
  refine ⟨this.2.1, ?_⟩
  unfold inB
  rw [Bool.and_eq_true]
  exact ⟨decide_eq_true (by omega), decide_eq_true (by omega)⟩

set_option maxRecDepth 100000 in
set_option maxHeartbeats 8000000 in
theorem walk (v u : Value) (n m : Nat) (w : World) (hv : BI w v n) (hu : BI w u m) :
    Calls Tryz.prog 3 #[v, u] w fun e w' => e = .returned (.bool true) ∧ Below w.heap.size w w' := by
  have HV := Lib.hid hv
  have HU := Lib.hid hu
  clear hv hu
  go_enter Tryz.func3, Tryz.ntmps3
  go_wp2_with fail
  refine (a2Long_any v u n m _ HV.out HU.out).mono ?_
  rintro e w' ⟨lg, rfl, rfl⟩
  cases lg with
  | true =>
    go_wp2
    go_ret
    exact ⟨rfl, Below.refl _ _⟩
  | false =>
    go_wp2_with fail
    refine (a2Times_any v n _ HV.out).mono ?_
    rintro e w1 ⟨v1, times, rfl, ht1, hok1, hb1⟩
    have HT := Lib.hid ht1
    have HB1 := Lib.hid hb1
    have C2 := Lib.hid (a2Wishes_any u m times v1 w1 (HU.out.below hb1) ht1 hok1)
    clear ht1 hok1 hb1
    go_wp2_with fail
    refine C2.out.mono ?_
    rintro e w2 ⟨v2, xs, rfl, hx2, hok2, hb2⟩
    have HT2 := Lib.hid (HT.out.below hb2)
    have HX2 := Lib.hid hx2
    have HB2 := Lib.hid (bthen HB1.out hb2)
    have HOK := Lib.hid hok2
    obtain ⟨b, l, hbest, hob, hcl, hmin, hot, h6, hpl, hpx, hpa⟩ := plan_pack hok2
    have C3 := bestOrderPub_any times xs v1 v2 w2 HT2.out hx2 hok2
    rw [hbest] at C3
    simp only at C3
    have D3 := Lib.hid C3
    have HOB := Lib.hid hob
    have HCL := Lib.hid hcl
    have HMIN := Lib.hid hmin
    have HOT := Lib.hid hot
    have HPL := Lib.hid hpl
    have HPX := Lib.hid hpx
    have HPA := Lib.hid hpa
    obtain ⟨a2, c2, hsh, _, _⟩ := hx2.shape
    subst hsh
    clear hx2 hok2 hb2 hbest hob hcl hmin hot hpl hpx hpa C3 C2
    go_wp2_with fail
    refine D3.out.mono ?_
    rintro e w3 ⟨v3, rfl, hr3, hb3⟩
    have HR3 := Lib.hid hr3
    have HT3 := Lib.hid (HT2.out.below hb3)
    have HX3 := Lib.hid (HX2.out.below hb3)
    have HB3 := Lib.hid (bthen HB2.out hb3)
    have C4 := sumOfDelays_any times xs b v1 _ v3 w3 HT3.out HX3.out hr3 HOK.out HOB.out
    rw [HCL.out] at C4
    have D4 := Lib.hid C4
    clear hr3 hb3 C4 D3
    go_wp2_with fail
    refine D4.out.mono ?_
    rintro e w4 ⟨rfl, hb4⟩
    have HR4 := Lib.hid (HR3.out.below hb4)
    have HT4 := Lib.hid (HT3.out.below hb4)
    have HX4 := Lib.hid (HX3.out.below hb4)
    have HB4 := Lib.hid (bthen HB3.out hb4)
    have C5 := Lib.hid (a2Order_any v n xs.length w4 (HV.out.below (bthen HB3.out hb4)) (by omega))
    clear hb4 D4
    go_wp2_with (
      go_at_call 9
      refine C5.out.mono ?_
      rintro e w5 ⟨v5, o, rfl, hr5, ho5, hb5⟩
      have HR5 := Lib.hid (HR4.out.below hb5)
      have HT5 := Lib.hid (HT4.out.below hb5)
      have HX5 := Lib.hid (HX4.out.below hb5)
      have HB5 := Lib.hid (bthen HB4.out hb5)
      have hle := HMIN.out o ho5
      have C6 := sumOfDelays_any times xs o v1 _ v5 w5 HT5.out HX5.out hr5 HOK.out ho5
      generalize cost times xs o = co at hle C6
      have D6 := Lib.hid C6
      have hlt : decide (co < l) = false := decide_eq_false (by omega)
      clear hr5 ho5 hb5 C6 hle)
    refine D6.out.mono ?_
    rintro e w6 ⟨rfl, hb6⟩
    have HR6 := Lib.hid (HR5.out.below hb6)
    have HT6 := Lib.hid (HT5.out.below hb6)
    have HX6 := Lib.hid (HX5.out.below hb6)
    have HB6 := Lib.hid (bthen HB5.out hb6)
    have C7 := Lib.hid (runsOfPlanPub_any times xs b v1 _ v3 w6 HT6.out HX6.out HR6.out HOK.out HOB.out)
    clear hb6 D6 C5
    go_wp2_with fail
    refine C7.out.mono ?_
    rintro e w7 ⟨v7, rfl, hr7, hb7⟩
    have HT7 := Lib.hid (HT6.out.below hb7)
    have HB7 := Lib.hid (bthen HB6.out hb7)
    have C8 := Lib.hid (firstMeeting_any times (plan times xs b) v1 v7 w7 HT7.out hr7 HOT.out (by rw [HPL.out]; omega) HPX.out HPA.out)
    obtain ⟨a7, c7, hsh, _, _⟩ := hr7.shape
    subst hsh
    rw [HPL.out] at C8 ⊢
    have hll : (l != l) = false := by simp
    have hnn : ((xs.length : Int) != (xs.length : Int)) = false := by simp
    clear hr7 hb7 C7
    go_wp2_with fail
    refine C8.out.mono ?_
    rintro e w8 ⟨rfl, hb8⟩
    have HB8 := Lib.hid (bthen HB7.out hb8)
    have C9 := Lib.hid (a2Halls_any u m w8 (HU.out.below (bthen HB7.out hb8)))
    clear hb8 C8
    go_wp2_with fail
    refine C9.out.mono ?_
    rintro e w9 ⟨v9, u9, halls, ways, rfl, hh9, hw9, ok9, hb9⟩
    have HH9 := Lib.hid hh9
    have HW9 := Lib.hid hw9
    have HB9 := Lib.hid (bthen HB8.out hb9)
    have HOH := Lib.hid ok9
    obtain ⟨dead, ms, hdm, cf, ci⟩ := dead_pack halls ways ok9
    have HDM := Lib.hid hdm
    clear hh9 hw9 hb9 ok9 hdm C9 hlt hll hnn
    cases dead with
    | true =>
      simp only [Bool.false_eq_true, if_true, if_false, Bool.not_true, Bool.not_false] at cf ci
      have CF := Lib.hid cf
      have CI := Lib.hid ci
      clear cf ci
      go_wp2_with fail
      refine (CF.out _ _ w9 HH9.out HW9.out).mono ?_
      rintro e w10 ⟨v10, rfl, hr10, hb10⟩
      have HR10 := Lib.hid hr10
      have HH10 := Lib.hid (HH9.out.below hb10)
      have HW10 := Lib.hid (HW9.out.below hb10)
      have HB10 := Lib.hid (bthen HB9.out hb10)
      clear hr10 hb10 CF
      go_wp2_with fail
      refine (CI.out _ _ w10 HH10.out HW10.out).mono ?_
      rintro e w11 ⟨rfl, hb11⟩
      have HR11 := Lib.hid (HR10.out.below hb11)
      have HH11 := Lib.hid (HH10.out.below hb11)
      have HW11 := Lib.hid (HW10.out.below hb11)
      have HB11 := Lib.hid (bthen HB10.out hb11)
      clear hb11 CI
      have hleg := HDM.out (by trivial)
      have CL := Lib.hid (a2Locked_any halls ways ms _ _ _ w11 HH11.out HW11.out HR11.out HOH.out hleg.1 hleg.2)
      clear hleg
      go_wp2_with (
        go_at_call 15
        refine CL.out.mono ?_
        rintro e w12 ⟨rfl, hb12⟩
        have HB12 := Lib.hid (bthen HB11.out hb12)
        clear hb12)
      refine (a2At_any u m 4 _ (HU.out.below HB12.out)).mono ?_
      rintro e w13 ⟨y, rfl, y0, y1, hb13⟩
      have y2 := y1 (by omega)
      obtain ⟨D, hD⟩ : ∃ D : Nat, D = y.toNat + 1 := ⟨_, rfl⟩
      have hwD : IntKind.i64.wrap (1 + y) = (D : Int) := by rw [IntWalk.i64_in _ (by omega)]; omega
      have HDB := Lib.hid (show inB 1 4 (D : Int) = true by simp [inB]; omega)
      have HB13 := Lib.hid (bthen HB12.out hb13)
      clear y1 hD hb13
      go_wp2_with fail
      refine (a2Stuck_any v n D _ (HV.out.below HB13.out) HDB.out).mono ?_
      rintro e w14 ⟨v14, sx, rfl, ho14, hok14, hb14⟩
      obtain ⟨a14, c14, hsh⟩ := ho14.si.shape
      subst hsh
      have HO14 := Lib.hid ho14.si
      have HK14 := Lib.hid hok14
      have HB14 := Lib.hid (bthen HB13.out hb14)
      have C15 := Lib.hid (a2Addresses_any u m D w14 (HU.out.below (bthen HB13.out hb14)) HDB.out)
      clear ho14 hok14 hb14 hwD
      go_wp2_with (
        go_at_call 19
        refine C15.out.mono ?_
        rintro e w15 ⟨v15, ys, rfl, ho15, hy15, hl15, hb15⟩
        have HO15 := Lib.hid (HO14.out.below hb15)
        have HB15 := Lib.hid (bthen HB14.out hb15)
        have C16 := implRunTrials_any D _ sx v15 ys w15 HO15.out ho15.ri
        obtain ⟨ts, few, e1, e2, e3, e4⟩ := stuck_pack HDB.out HK14.out hy15 hl15
        rw [e1] at C16
        simp only at C16
        have D16 := Lib.hid C16
        have HE2 := Lib.hid e2
        have HE4 := Lib.hid e4
        clear ho15 hy15 hl15 hb15 C16 e1 e2 e4)
      refine D16.out.mono ?_
      rintro e w16 ⟨v16, rfl, ho16, hb16⟩
      obtain ⟨a16, c16, hsh⟩ := ho16.si.shape
      subst hsh
      have HO16 := Lib.hid ho16.si
      have HB16 := Lib.hid (bthen HB15.out hb16)
      have C17 := implFewestStuck_any D _ ts w16 ho16.si
      rw [HE2.out] at C17
      simp only at C17
      have D17 := Lib.hid C17
      clear ho16 hb16 C17
      go_wp2_with fail
      refine D17.out.mono ?_
      rintro e w17 ⟨v17, rfl, ho17, hb17⟩
      obtain ⟨a17, c17, hsh⟩ := ho17.si.shape
      subst hsh
      have HB17 := Lib.hid (bthen HB16.out hb17)
      have C18 := implExplains_any D _ few _ ts w17 ho17.si (HO16.out.below hb17)
      rw [HE4.out] at C18
      simp only at C18
      have D18 := Lib.hid C18
      have hfl : decide ((few.length : Int) ≤ (sx.length : Int)) = true := decide_eq_true (by omega)
      have hfl2 : decide (few.length ≤ sx.length) = true := decide_eq_true e3
      clear ho17 hb17 C18 e3
      go_wp2_with fail
      refine D18.out.mono ?_
      rintro e w18 ⟨rfl, hb18⟩
      have HB18 := Lib.hid (bthen HB17.out hb18)
      clear hb18
      go_wp2
      go_ret
      exact ⟨rfl, HB18.out⟩
    | false =>
      simp only [Bool.false_eq_true, if_true, if_false, Bool.not_true, Bool.not_false] at cf ci
      have CF := Lib.hid cf
      have CI := Lib.hid ci
      clear cf ci
      go_wp2_with fail
      refine (CF.out _ _ w9 HH9.out HW9.out).mono ?_
      rintro e w10 ⟨v10, rfl, hr10, hb10⟩
      have HR10 := Lib.hid hr10
      have HH10 := Lib.hid (HH9.out.below hb10)
      have HW10 := Lib.hid (HW9.out.below hb10)
      have HB10 := Lib.hid (bthen HB9.out hb10)
      clear hr10 hb10 CF
      go_wp2_with fail
      refine (CI.out _ _ w10 HH10.out HW10.out).mono ?_
      rintro e w11 ⟨rfl, hb11⟩
      have HR11 := Lib.hid (HR10.out.below hb11)
      have HH11 := Lib.hid (HH10.out.below hb11)
      have HW11 := Lib.hid (HW10.out.below hb11)
      have HB11 := Lib.hid (bthen HB10.out hb11)
      clear hb11 CI
      have HB12 := HB11
      obtain ⟨w12, hw12⟩ : ∃ w12, w12 = w11 := ⟨_, rfl⟩
      rw [← hw12] at HB12 ⊢
      clear hw12
      go_wp2_with fail
      refine (a2At_any u m 4 _ (HU.out.below HB12.out)).mono ?_
      rintro e w13 ⟨y, rfl, y0, y1, hb13⟩
      have y2 := y1 (by omega)
      obtain ⟨D, hD⟩ : ∃ D : Nat, D = y.toNat + 1 := ⟨_, rfl⟩
      have hwD : IntKind.i64.wrap (1 + y) = (D : Int) := by rw [IntWalk.i64_in _ (by omega)]; omega
      have HDB := Lib.hid (show inB 1 4 (D : Int) = true by simp [inB]; omega)
      have HB13 := Lib.hid (bthen HB12.out hb13)
      clear y1 hD hb13
      go_wp2_with fail
      refine (a2Stuck_any v n D _ (HV.out.below HB13.out) HDB.out).mono ?_
      rintro e w14 ⟨v14, sx, rfl, ho14, hok14, hb14⟩
      obtain ⟨a14, c14, hsh⟩ := ho14.si.shape
      subst hsh
      have HO14 := Lib.hid ho14.si
      have HK14 := Lib.hid hok14
      have HB14 := Lib.hid (bthen HB13.out hb14)
      have C15 := Lib.hid (a2Addresses_any u m D w14 (HU.out.below (bthen HB13.out hb14)) HDB.out)
      clear ho14 hok14 hb14 hwD
      go_wp2_with (
        go_at_call 19
        refine C15.out.mono ?_
        rintro e w15 ⟨v15, ys, rfl, ho15, hy15, hl15, hb15⟩
        have HO15 := Lib.hid (HO14.out.below hb15)
        have HB15 := Lib.hid (bthen HB14.out hb15)
        have C16 := implRunTrials_any D _ sx v15 ys w15 HO15.out ho15.ri
        obtain ⟨ts, few, e1, e2, e3, e4⟩ := stuck_pack HDB.out HK14.out hy15 hl15
        rw [e1] at C16
        simp only at C16
        have D16 := Lib.hid C16
        have HE2 := Lib.hid e2
        have HE4 := Lib.hid e4
        clear ho15 hy15 hl15 hb15 C16 e1 e2 e4)
      refine D16.out.mono ?_
      rintro e w16 ⟨v16, rfl, ho16, hb16⟩
      obtain ⟨a16, c16, hsh⟩ := ho16.si.shape
      subst hsh
      have HO16 := Lib.hid ho16.si
      have HB16 := Lib.hid (bthen HB15.out hb16)
      have C17 := implFewestStuck_any D _ ts w16 ho16.si
      rw [HE2.out] at C17
      simp only at C17
      have D17 := Lib.hid C17
      clear ho16 hb16 C17
      go_wp2_with fail
      refine D17.out.mono ?_
      rintro e w17 ⟨v17, rfl, ho17, hb17⟩
      obtain ⟨a17, c17, hsh⟩ := ho17.si.shape
      subst hsh
      have HB17 := Lib.hid (bthen HB16.out hb17)
      have C18 := implExplains_any D _ few _ ts w17 ho17.si (HO16.out.below hb17)
      rw [HE4.out] at C18
      simp only at C18
      have D18 := Lib.hid C18
      have hfl : decide ((few.length : Int) ≤ (sx.length : Int)) = true := decide_eq_true (by omega)
      have hfl2 : decide (few.length ≤ sx.length) = true := decide_eq_true e3
      clear ho17 hb17 C18 e3
      go_wp2_with fail
      refine D18.out.mono ?_
      rintro e w18 ⟨rfl, hb18⟩
      have HB18 := Lib.hid (bthen HB17.out hb18)
      clear hb18
      go_wp2
      go_ret
      exact ⟨rfl, HB18.out⟩

set_option maxRecDepth 100000 in
theorem lifted (os : Os) (started : os.Started) (H : Type) (enc : TypeId × Value → H) :
    ReturnsInHanded {} Tryz.checked os 3 .any (Rows.fnTopSpec.pre6 enc Tryz.prog Tryz.f3 Rows.fnTopRow.domain false) (Rows.fnTopSpec.post enc Tryz.prog Tryz.f3 false true false false) := by
  refine returnsInHanded_of_change (C := Tryz.checked) own started (by kernel_rfl) Tryz.func3
    (ChangeSpec.witness6 (enc := enc) (C := Tryz.checked) false ⟨#[], #[.slice none 0 0, .slice none 0 0], []⟩ 8 (by kernel_rfl) (by kernel_rfl) (by kernel_rfl) (by kernel_rfl)) ?_
  intro W base args ds gs before hval0 hW _ _
  have hval : ∀ (j : Nat) t v, Tryz.f3.params[j]? = some t → args[j]? = some v → Value.okWide Tryz.prog W .any base t v := hval0
  have hW' := hW
  obtain ⟨p, q, hA0, hV, rfl, _, _⟩ := hW
  have hA : DataW.TrodAll enc Tryz.prog W 0 (fun _ => true) true Tryz.f3.params.toList args.toList ds p := hA0
  obtain ⟨rfl, rfl⟩ := trodVars_none hV
  have hlt0 : ∀ x ∈ p, x.block < W.heap.size := fun x hx => by simpa using hW'.lt x (by simpa using hx)
  rw [Tryz.params3] at hA hval
  obtain ⟨b0, vs0, d0, ds0, p0, q0, hargs0, rfl, rfl, h0, r0⟩ := trodAll_cons hA
  obtain ⟨b1, vs1, d1, ds1, p1, q1, hargs1, rfl, rfl, h1, r1⟩ := trodAll_cons r0
  obtain ⟨e1, rfl, e2⟩ := trodAll_nil r1
  have hargs : args = #[b0, b1] := by
    cases args
    simp_all
  subst hargs
  obtain ⟨n0, hx0⟩ := open_BI Tryz.underlying22 Tryz.underlying5 (by kernel_rfl) (hval 0 _ b0 rfl rfl) h0 (fun x hx => hlt0 x (by simp [hx]))
  obtain ⟨n1, hx1⟩ := open_BI Tryz.underlying22 Tryz.underlying5 (by kernel_rfl) (hval 1 _ b1 rfl rfl) h1 (fun x hx => hlt0 x (by simp [hx]))
  refine (walk b0 b1 n0 n1 W hx0 hx1).mono fun e W' ⟨he, hb⟩ => ?_
  subst he
  exact ⟨_, rfl, law_post laidOut (by decide +kernel) (by kernel_rfl) Tryz.underlying4 rfl hW' rfl hb⟩

theorem proved : Rows.FnTopSaid :=
  OpenClaim.holds_of_wide 3 Tryz.f3 rfl rfl rfl rfl rfl rfl rfl ⟨rfl, rfl, rfl, rfl, rfl⟩ rfl rfl rfl rfl rfl (by kernel_rfl) Tryz.func3 (by kernel_rfl)
    (of_decide_eq_true (by kernel_rfl)) (by unfold Func.isWrapper; first | (rw [if_pos (by decide +kernel)]; kernel_rfl) | (rw [if_neg (by decide +kernel)]; exact ⟨rfl, rfl⟩))
    (fun os started H enc _ => lifted os started H enc)

end fnTop
end Go.Proofs.YthlpbeohlhhblaaGreat
