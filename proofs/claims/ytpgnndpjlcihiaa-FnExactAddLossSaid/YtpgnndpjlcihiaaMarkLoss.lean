/-
  Lists of records of type Loss: their marks.
-/
import Derived.Test.YtpgnndpjlcihiaaRecLoss
namespace Go.Proofs.Ytpgnndpjlcihiaa
open Go.RowKit

/-- markLossS: the fields of an owned list become k, k + 1, .. -/
theorem markLossS_any (v : Value) (xs : List (Int × Int × Int)) (base k0 : Nat) (kk : Int) (hkk : kk = (k0 : Int)) (w : World) (ho : OS P3 46 w base v xs) (hs : xs.length ≤ 1099511627776) (hk0 : k0 ≤ 1099511627776) :
    Calls Try.prog 35 #[v, .int .i64 kk] w fun e w' => e = .returned (.int .i64 ((k0 + 3 * xs.length : Nat) : Int)) ∧ OS P3 46 w' base v (marks3 k0 xs.length) ∧ w.grownBy w' v.ownBlock := by
  subst hkk
  rcases ho.shape with ⟨rfl, rfl⟩ | ⟨g, cap, rfl, hbg, hg⟩
  · go_enter Try.func35, Try.ntmps35
    go_wp2
    go_loopw [1, 5] (fun k i wr => k = .int .i64 k0 ∧ i = .int .i64 0 ∧ wr = w) (fun _ _ _ => 0)
    case atStart => exact ⟨rfl, rfl, rfl⟩
    case round =>
      obtain ⟨rfl, rfl, rfl⟩ := hrel
      go_wp2
      go_ret
      exact ⟨by simp, OS.nil _ _ _, World.grownBy.refl _ _⟩
  · have HO := Lib.hid ho
    clear ho
    go_enter Try.func35, Try.ntmps35
    go_wp2
    go_loopw [1, 5] (fun k i wr => ∃ j : Nat, j ≤ xs.length ∧ k = .int .i64 ((k0 + 3 * j : Nat) : Int) ∧ i = .int .i64 j ∧ w.grownBy wr (some g) ∧ OS P3 46 wr base (.slice (some ⟨g, 0, none⟩) xs.length cap) (marks3 k0 j ++ xs.drop j)) (fun _ i _ => xs.length - (intOf i).toNat)
    case atStart => exact ⟨0, Nat.zero_le _, rfl, rfl, World.grownBy.refl _ _, by simpa [marks3] using HO.out⟩
    case round =>
      obtain ⟨j, hj, rfl, rfl, hgr, ho⟩ := hrel
      by_cases hlt : j < xs.length
      · have hl2 : j < (marks3 k0 j ++ xs.drop j).length := by simp [marks3_length]; omega
        obtain ⟨⟨g2, f2⟩, ⟨g3, f3⟩, g4, f4⟩ := ho.cells3 j hl2
        have HO2 := Lib.hid (ho.set3 j hl2 ((k0 + 3 * j : Nat) : Int) ((k0 + 3 * j + 1 : Nat) : Int) ((k0 + 3 * j + 2 : Nat) : Int) (by unfold Good; omega) (by unfold Good; omega) (by unfold Good; omega))
        have HG := Lib.hid hgr
        clear ho hgr hl2
        generalize (marks3 k0 j ++ xs.drop j).getD j (0, 0, 0) = y at g2 g3 g4
        have hk1 : (0 : Int) ≤ (k0 : Int) + 3 * j := by omega
        go_wp2
        go_roundw
        case rel =>
          obtain ⟨a1, a2⟩ := HO2.out
          refine ⟨j + 1, by omega, by go_num, by go_num, grownBy_trans HG.out a2, ?_⟩
          rw [← marks3_set xs k0 j hlt]
          exact a1
        case measure => simp [intOf]; omega
      · have HO2 := Lib.hid ho
        have HG := Lib.hid hgr
        clear ho hgr
        go_wp2
        go_ret
        have hj2 : j = xs.length := by omega
        subst hj2
        refine ⟨by simp, ?_, HG.out⟩
        have := HO2.out
        rwa [List.drop_length, List.append_nil] at this

/-- heldLossS at such a list: the count goes on. -/
theorem heldLossS_any (v : Value) (n k0 : Nat) (kk : Int) (hkk : kk = (k0 : Int)) (w : World) (hv : SI P3 w v (marks3 k0 n)) (hn : n ≤ 1099511627776) (hk0 : k0 ≤ 1099511627776) :
    Calls Try.prog 36 #[v, .int .i64 kk] w fun e w' => e = .returned (.int .i64 ((k0 + 3 * n : Nat) : Int)) ∧ w = w' := by
  subst hkk
  obtain ⟨a, cap, rfl⟩ := hv.shape
  have HV := Lib.hid hv
  clear hv
  have hml : (marks3 k0 n).length = n := marks3_length k0 n
  rw [hml]
  clear hml
  go_enter Try.func36, Try.ntmps36
  go_wp2
  go_loop [1, 5] (fun k i => ∃ j : Nat, j ≤ n ∧ k = .int .i64 ((k0 + 3 * j : Nat) : Int) ∧ i = .int .i64 j) (fun _ i => n - (intOf i).toNat)
  case atStart => exact ⟨0, Nat.zero_le _, rfl, rfl⟩
  case round =>
    obtain ⟨j, hj, rfl, rfl⟩ := hrel
    by_cases hlt : j < n
    · have HV' := HV.out
      obtain ⟨b, off, rfl, hb, hc⟩ := HV'.cells3 (by rw [marks3_length]; omega)
      obtain ⟨g1, g2, g3⟩ := hc j (by rw [marks3_length]; omega)
      rw [marks3_getD k0 n j hlt] at g1 g2 g3
      clear hc HV'
      have hne : ((((k0 + 3 * j : Nat) : Int)) != ((k0 + 3 * j : Nat) : Int)) = false := by simp
      go_wp2
      go_round
      case rel => exact ⟨j + 1, by omega, by go_num, by go_num⟩
      case measure => simp [intOf]; omega
    · go_wp2
      go_ret
      have hj2 : j = n := by omega
      subst hj2
      exact ⟨by simp, rfl⟩

end Go.Proofs.Ytpgnndpjlcihiaa
