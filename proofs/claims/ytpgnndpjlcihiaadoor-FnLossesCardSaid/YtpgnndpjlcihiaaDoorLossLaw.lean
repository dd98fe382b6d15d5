/-
  What the law FnLosses says of the values, in plain Lean: leaks that are told explain all tests, each within its bounds, and the first odd test is told just if there is one.
-/
import Derived.Test.YtpgnndpjlcihiaaDoorLatePot
namespace Go.Proofs.YtpgnndpjlcihiaaDoor

theorem mapL_take (g : Nat → Int) (s b : Nat) (h : b ≤ s) : (mapL g s).take b = mapL g b := by
  unfold mapL
  rw [← List.map_take, List.take_range, Nat.min_eq_left h]
theorem mapL_sum (P : Nat → Int) (a b : Nat) (h : a ≤ b) : sumI ((mapL (fun k => P (k + 1) - P k) b).drop a) = P b - P a := by
  induction b with
  | zero =>
    obtain rfl : a = 0 := by omega
    simp [mapL, sumI]
  | succ b ih =>
    by_cases e : a = b + 1
    · subst e
      rw [List.drop_eq_nil_of_le (by rw [mapL_len]; omega)]
      simp [sumI]
    · rw [mapL_succ, List.drop_append_of_le_length (by rw [mapL_len]; omega), sumI_snoc, ih (by omega)]
      omega

/-- A late leak is no more than the greatest loss. -/
theorem late_le {s : Nat} (hs : s ≤ 9) {xs : List (Int × Int × Int)} (hx : fitT s xs) (hok : okA s openT xs = true) {k : Nat} (hk : k < s) : valLate s xs k ≤ 10000 := by
  have hI : INF = 1099511627776 := rfl
  have hp := late_pot hs openT hx hok
  rw [late_val]
  refine Int.not_lt.1 fun hgt => ?_
  have hmono : ∀ a b, a ≤ b → b ≤ s → lateP s openT xs a ≤ lateP s openT xs b := by
    intro a b hab hb
    induction b with
    | zero => obtain rfl : a = 0 := by omega
              exact Int.le_refl _
    | succ b ih =>
      by_cases e : a = b + 1
      · subst e; exact Int.le_refl _
      · exact Int.le_trans (ih (by omega) (by omega)) (hp.up b (by omega))
  have hend : ∀ q, 1 ≤ q → q ≤ s → lateP s openT xs q = -(endA s openT xs q 0) := fun q hq _ => by unfold lateP; rw [if_neg (by omega)]
  have h0 : lateP s openT xs 0 = 0 := by unfold lateP; rw [if_pos rfl]
  generalize lateP s openT xs = p at hp hgt hmono hend h0
  have hq : Pot s openT xs (fun a => if a ≤ k then p a else p a - (p (k + 1) - p k - 10000)) := by
    refine ⟨fun j hj => ?_, fun j hj ht => ?_, fun x hxm => ?_, fun a b ha hb => ?_⟩
    · have := hp.up j hj
      by_cases e : j ≤ k
      · by_cases e2 : j + 1 ≤ k
        · simp only [if_pos e, if_pos e2]; exact this
        · obtain rfl : j = k := by omega
          simp only [if_pos e, if_neg e2]; omega
      · simp only [if_neg e, if_neg (show ¬ j + 1 ≤ k by omega)]; omega
    · unfold openT at ht; cases ht
    · have q := hx x hxm
      have t := hp.test x hxm
      by_cases e : x.2.1.toNat ≤ k
      · simp only [if_pos e, if_pos (show x.1.toNat ≤ k by omega)]; exact t
      · by_cases e2 : x.1.toNat ≤ k
        · have a1 := hmono x.1.toNat k e2 (by omega)
          have a2 := hmono (k + 1) x.2.1.toNat (by omega) (by omega)
          omega
        · simp only [if_neg e, if_neg e2]; omega
    · have n1 := hp.near a b ha hb
      by_cases e : a ≤ k
      · by_cases e2 : b ≤ k
        · simp only [if_pos e, if_pos e2]; exact n1
        · simp only [if_pos e, if_neg e2]; omega
      · by_cases e2 : b ≤ k
        · have a1 := hmono b k e2 (by omega)
          have a2 := hmono (k + 1) a (by omega) (by omega)
          simp only [if_neg e, if_pos e2]; omega
        · simp only [if_neg e, if_neg e2]; omega
  have e1 := pot_end hx hq (a := k + 1) (b := 0) (by omega) (by omega)
  have e2 := hend (k + 1) (by omega) (by omega)
  simp only [if_pos (Nat.zero_le k), if_neg (show ¬ k + 1 ≤ k by omega)] at e1
  omega

/-- The late leaks explain the tests. -/
theorem late_explains {n : Int} {xs : List (Int × Int × Int)} (h0 : codeL n xs = 0) : valLeaks n xs (mapL (valLate n.toNat xs) n.toNat) = (true, 0) := by
  obtain ⟨h1, h2⟩ := codeL_zero h0
  have hn := okLosses_n h1
  have hs : n.toNat ≤ 9 := by omega
  have hx := fitT_of h1
  have hp := late_pot hs openT hx h2
  unfold valLeaks
  rw [if_pos h1, if_pos]
  · have he : (xs.all (expl (mapL (valLate n.toNat xs) n.toNat))) = true := by
      rw [List.all_eq_true]
      intro x hxm
      have q := hx x hxm
      have t := hp.test x hxm
      unfold expl
      rw [show valLate n.toNat xs = (fun k => lateP n.toNat openT xs (k + 1) - lateP n.toNat openT xs k) from funext fun k => late_val k, mapL_take _ _ _ (by omega), mapL_sum _ _ _ (by omega), t]
      exact beq_self_eq_true _
    rw [he]
  · unfold okLeaks
    rw [Bool.and_eq_true, List.all_eq_true]
    refine ⟨fun y hy => ?_, decide_eq_true (by rw [mapL_len]; omega)⟩
    unfold mapL at hy
    obtain ⟨k, hk, rfl⟩ := List.mem_map.1 hy
    have hk := List.mem_range.1 hk
    have l1 := late_le hs hx h2 hk
    have l2 := hp.up k hk
    have l3 := late_val (s := n.toNat) (xs := xs) k
    unfold inB
    simp
    omega

/-- Each late leak lies within its bounds. -/
theorem bounds_pack {n : Int} {xs : List (Int × Int × Int)} (h0 : codeL n xs = 0) {k : Nat} (hk : k < n.toNat) :
    ∃ lo hi : Int, valLeakB n xs (k : Int) = (lo, hi, 0) ∧ 0 ≤ lo ∧ lo ≤ valLate n.toNat xs k ∧ (0 ≤ hi → valLate n.toNat xs k ≤ hi) := by
  obtain ⟨h1, h2⟩ := codeL_zero h0
  have hn := okLosses_n h1
  have hs : n.toNat ≤ 9 := by omega
  have hx := fitT_of h1
  have hp := late_pot hs openT hx h2
  have e1 := pot_end hx hp (a := k + 1) (b := k) (by omega) (by omega)
  have e2 := pot_end hx hp (a := k) (b := k + 1) (by omega) (by omega)
  have d1 : DA n.toNat xs (k + 1) k = endA n.toNat openT xs (k + 1) k := by unfold DA; rw [if_neg (by omega)]
  have d2 : DA n.toNat xs k (k + 1) = endA n.toNat openT xs k (k + 1) := by unfold DA; rw [if_neg (by omega)]
  have l3 := late_val (s := n.toNat) (xs := xs) k
  obtain ⟨g1, g2, g3⟩ := end_stg hs openT hx h2
  have z := stg_le (initA n.toNat openT xs) (n.toNat + 1) (k + 1) k
  rw [← g3 (k + 1) k (by omega) (by omega)] at z
  have z2 := init_step n.toNat openT xs k hk
  refine ⟨valLow n.toNat xs k, valHigh n.toNat xs k, ?_, ?_, ?_, ?_⟩
  · unfold valLeakB
    rw [if_pos h1, if_pos (by unfold inB; simp; omega), if_pos h2, Int.toNat_natCast]
  · unfold valLow; rw [d1]; omega
  · unfold valLow; rw [d1]; omega
  · unfold valHigh
    rw [d2]
    by_cases hi : INF ≤ endA n.toNat openT xs k (k + 1)
    · rw [if_pos hi]; omega
    · rw [if_neg hi]; omega

theorem pot_zero (s : Nat) : Pot s openT [] (fun _ => 0) := by
  have hI : INF = 1099511627776 := rfl
  exact ⟨fun _ _ => Int.le_refl _, fun _ _ _ => Int.le_refl _, fun x hx => (by simp at hx), fun _ _ _ _ => (by omega)⟩

/-- There is a first odd test just if the tests do not agree. -/
theorem odd_iff {s : Nat} (hs : s ≤ 9) {xs : List (Int × Int × Int)} (hx : fitT s xs) : ((oddL s xs).2 == 0) = !okA s openT xs := by
  cases h : okA s openT xs with
  | true =>
    have hp := late_pot hs openT hx h
    rw [oddL_miss fun j hj => pot_ok (p := lateP s openT xs) (fitT_take hx (j + 1)) ⟨hp.up, hp.tight, fun x hxm => hp.test x (List.mem_of_mem_take hxm), hp.near⟩]
    rfl
  | false =>
    cases hf : (List.range xs.length).find? (fun i => !okA s openT (xs.take (i + 1))) with
    | some i => unfold oddL; rw [hf]; rfl
    | none =>
      exfalso
      have hall := List.find?_eq_none.1 hf
      by_cases e : xs = []
      · subst e
        rw [pot_ok (by intro x hx; simp at hx) (pot_zero s)] at h
        cases h
      · have hl : 0 < xs.length := List.length_pos_iff.2 e
        have := hall (xs.length - 1) (List.mem_range.2 (by omega))
        rw [show xs.length - 1 + 1 = xs.length by omega, List.take_length, h] at this
        simp at this

theorem odd_pack {n k cA cO cc : Int} {xs : List (Int × Int × Int)} {ag : Bool} (hA : valAgree n xs = (ag, cA)) (hO : valOdd n xs = (k, cO)) (hc : codeL n xs = cc) (h0 : cA = 0) : (cO == 0) = !ag ∧ (cc == 0) = ag := by
  unfold valAgree at hA
  by_cases h1 : okLosses n xs = true
  · rw [if_pos h1] at hA
    unfold valOdd at hO
    rw [if_pos h1] at hO
    have hn := okLosses_n h1
    have e := odd_iff (s := n.toNat) (by omega) (fitT_of h1)
    rw [hO] at e
    obtain ⟨rfl, _⟩ := Prod.mk.inj hA
    refine ⟨e, ?_⟩
    rw [← hc]
    unfold codeL
    rw [if_pos h1]
    cases okA n.toNat openT xs <;> rfl
  · rw [if_neg h1] at hA
    have := (Prod.mk.inj hA).2
    omega

end Go.Proofs.YtpgnndpjlcihiaaDoor
