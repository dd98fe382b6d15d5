/-
  How an argument that is a list of records of two int64 fields is opened.
-/
import Derived.Test.YtejnfngnofilfaaLaw
import Derived.Test.YtejnfngnofilfaaRec
import Derived.Deep.SlicePairs
namespace Go.Proofs.Ytejnfngnofilfaa
open Go.ChangeShapes Go.WideShapes Go.ChangeAt Go.RowKit Go.Deep

section
variable {H : Type} {enc : TypeId × Value → H} {P : Program}

theorem open_SI2 {t e : TypeId} {base : Nat} {r : Reach} {W : World} {v : Value} {d : DataW H} {p : List MemPlace} (ht : P.underlying t = some (.slice e))
    (hs : ∃ f0 f1 : Field, P.underlying e = some (.struct #[f0, f1]) ∧ P.cellsOf e = 2 ∧ f0.offset = 0 ∧ f1.offset = 1 ∧ P.cellsOf f0.type = 1 ∧ P.cellsOf f1.type = 1 ∧ P.underlying f0.type = some (.int .i64) ∧ P.underlying f1.type = some (.int .i64))
    (hval : Value.okWide P W r base t v) (hd : DataW.Trod enc P W 0 (fun _ => true) true t v d p) (hlt : ∀ x ∈ p, x.block < W.heap.size) : ∃ xs : List (Int × Int), SI P2 W v xs := by
  obtain ⟨f0, f1, he, ce, o0, o1, c0, c1, i0, i1⟩ := hs
  obtain ⟨a0, len, cap, rfl⟩ := okWide_slice ht hval
  obtain ⟨fuel, hf⟩ := hd
  rcases open_slice_pairs ht he ce o0 o1 c0 c1 hf with ⟨hcs, hx⟩ | ⟨a, len', cap', m, k, V0, V1, D0, D1, P0, P1, hcs, _, hl, hm, hmm, hx, hall⟩
  · simp [Value.cells] at hcs
    obtain ⟨rfl, rfl, rfl⟩ := hcs
    exact ⟨[], SI.nil W⟩
  · simp [Value.cells] at hcs
    obtain ⟨rfl, rfl, rfl⟩ := hcs
    simp only [if_true] at hmm
    subst hmm
    simp only [Prod.mk.injEq] at hx
    obtain ⟨_, rfl⟩ := hx
    have hint : ∀ i, i < m → (V0 i = .int .i64 (intOf (V0 i)) ∧ Good (intOf (V0 i))) ∧ V1 i = .int .i64 (intOf (V1 i)) ∧ Good (intOf (V1 i)) := fun i hi => by
      obtain ⟨N0, h1, _, h3⟩ := DataW.trod_int i0 (hall i hi).2.2.1
      obtain ⟨N1, h4, _, h6⟩ := DataW.trod_int i1 (hall i hi).2.2.2
      simp only [List.cons.injEq, and_true] at h1 h4
      rw [h1, h4]
      exact ⟨⟨rfl, bounds_i64 h3⟩, rfl, bounds_i64 h6⟩
    have hlen : ((List.range len).map fun i => (intOf (V0 i), intOf (V1 i))).length = len := by simp
    refine ⟨(List.range len).map fun i => (intOf (V0 i), intOf (V1 i)), ⟨some a, m, by rw [hlen], by omega, hm, ?_⟩, fun x hx => ?_⟩
    · by_cases h0 : len = 0
      · left; subst h0; rfl
      · right
        obtain ⟨b, off, spot⟩ := a
        have hspot : spot = none := by simpa [Addr.add] using World.cell?_spot (hall 0 (by omega)).1
        subst hspot
        refine ⟨b, off, rfl, hlt (.cell b off) (List.mem_append.2 (.inl (MemPlace.mem_row.2 ⟨0, by omega, by simp⟩))), fun j hj => ?_⟩
        rw [hlen] at hj
        have hm2 : P2.m = 2 := rfl
        rw [hm2] at hj
        have hi : j / 2 < len := by omega
        have hg : ((List.range len).map fun i => (intOf (V0 i), intOf (V1 i))).getD (j / 2) (0, 0) = (intOf (V0 (j / 2)), intOf (V1 (j / 2))) := by simp [List.getD, hi]
        rcases Nat.mod_two_eq_zero_or_one j with h | h
        · have hj2 : j = j / 2 * 2 + 0 := by omega
          have hfl := flat_getD (E := P2) ((List.range len).map fun i => (intOf (V0 i), intOf (V1 i))) (j / 2) 0 (by rw [hlen]; exact hi) (by decide)
          rw [hm2, ← hj2] at hfl
          rw [hfl]
          have hc := (hall (j / 2) (by omega)).1
          rw [add_plain, show j / 2 * 2 = j by omega, (hint (j / 2) (by omega)).1.1] at hc
          rw [hc]
          show _ = some (Value.int .i64 (List.getD [_, _] 0 0))
          have : (P2.z) = (0, 0) := rfl
          rw [this, hg]; rfl
        · have hj2 : j = j / 2 * 2 + 1 := by omega
          have hfl := flat_getD (E := P2) ((List.range len).map fun i => (intOf (V0 i), intOf (V1 i))) (j / 2) 1 (by rw [hlen]; exact hi) (by decide)
          rw [hm2, ← hj2] at hfl
          rw [hfl]
          have hc := (hall (j / 2) (by omega)).2.1
          rw [add_plain, show j / 2 * 2 + 1 = j by omega, (hint (j / 2) (by omega)).2.1] at hc
          rw [hc]
          show _ = some (Value.int .i64 (List.getD [_, _] 1 0))
          have : (P2.z) = (0, 0) := rfl
          rw [this, hg]; rfl
    · unfold Enc.flat at hx
      obtain ⟨q, hq, hx⟩ := List.mem_flatMap.1 hx
      obtain ⟨i, hi, rfl⟩ := List.mem_map.1 hq
      have hi' := List.mem_range.1 hi
      simp [P2] at hx
      rcases hx with rfl | rfl
      · exact (hint i (by omega)).1.2
      · exact (hint i (by omega)).2.2
end
end Go.Proofs.Ytejnfngnofilfaa
