/-
  How an argument that is a list of records of three int64 fields is opened.
-/
import Derived.Test.YtpgnndpjlcihiaaDoorLaw
import Derived.Test.YtpgnndpjlcihiaaDoorRec3
import Derived.Deep.SlicePairs
namespace Go.Proofs.YtpgnndpjlcihiaaDoor
open Go.ChangeShapes Go.WideShapes Go.ChangeAt Go.RowKit Go.Deep

section
variable {H : Type} {enc : TypeId × Value → H} {P : Program}

theorem open_SI3 {t e : TypeId} {base : Nat} {r : Reach} {W : World} {v : Value} {d : DataW H} {p : List MemPlace} (ht : P.underlying t = some (.slice e))
    (hs : ∃ f0 f1 f2 : Field, P.underlying e = some (.struct #[f0, f1, f2]) ∧ P.cellsOf e = 3 ∧ (f0.offset = 0 ∧ f1.offset = 1 ∧ f2.offset = 2) ∧ (P.cellsOf f0.type = 1 ∧ P.cellsOf f1.type = 1 ∧ P.cellsOf f2.type = 1) ∧ P.underlying f0.type = some (.int .i64) ∧ P.underlying f1.type = some (.int .i64) ∧ P.underlying f2.type = some (.int .i64))
    (hval : Value.okWide P W r base t v) (hd : DataW.Trod enc P W 0 (fun _ => true) true t v d p) (hlt : ∀ x ∈ p, x.block < W.heap.size) : ∃ xs : List (Int × Int × Int), SI P3 W v xs := by
  obtain ⟨f0, f1, f2, he, ce, ⟨o0, o1, o2⟩, ⟨c0, c1, c2⟩, i0, i1, i2⟩ := hs
  obtain ⟨a0, len, cap, rfl⟩ := okWide_slice ht hval
  obtain ⟨fuel, hf⟩ := hd
  rcases open_slice ht hf with ⟨hcs, hx⟩ | ⟨a, len', cap', m, k, D, Pl, hcs, _, hl, hm, hmm, hx, hall⟩
  · simp [Value.cells] at hcs
    obtain ⟨rfl, rfl, rfl⟩ := hcs
    exact ⟨[], SI.nil W⟩
  · simp [Value.cells] at hcs
    obtain ⟨rfl, rfl, rfl⟩ := hcs
    simp only [if_true] at hmm
    subst hmm
    simp only [Prod.mk.injEq] at hx
    obtain ⟨_, rfl⟩ := hx
    have each : ∀ i, i < m → ∃ q : Int × Int × Int, (W.cell? (a.add (i * 3)) = some (.int .i64 q.1) ∧ W.cell? (a.add (i * 3 + 1)) = some (.int .i64 q.2.1) ∧ W.cell? (a.add (i * 3 + 2)) = some (.int .i64 q.2.2)) ∧ Good q.1 ∧ Good q.2.1 ∧ Good q.2.2 := by
      intro i hi
      obtain ⟨cs', h1, h2⟩ := hall i hi
      rw [ce] at h1
      obtain ⟨_, hlen, hcell⟩ := World.cells?_some h1
      obtain ⟨ys, k', hk, hxy, _, hxl, hfs⟩ := DataW.trod_struct he h2
      match ys, hxl, cs', hlen with
      | [y0, y1, y2], _, [v0, v1, v2], _ =>
        have g0 := hfs 0 f0 rfl
        have g1 := hfs 1 f1 rfl
        have g2 := hfs 2 f2 rfl
        simp [o0, o1, o2, c0, c1, c2] at g0 g1 g2
        have e0 := hcell 0 (by omega)
        have e1 := hcell 1 (by omega)
        have e2 := hcell 2 (by omega)
        rw [add_add] at e0 e1 e2
        obtain ⟨N0, t0, _, b0⟩ := DataW.trod_int i0 g0
        obtain ⟨N1, t1, _, b1⟩ := DataW.trod_int i1 g1
        obtain ⟨N2, t2, _, b2⟩ := DataW.trod_int i2 g2
        simp only [List.cons.injEq, and_true] at t0 t1 t2
        subst t0 t1 t2
        exact ⟨(N0, N1, N2), ⟨by simpa using e0, by simpa using e1, by simpa using e2⟩, bounds_i64 b0, bounds_i64 b1, bounds_i64 b2⟩
    obtain ⟨q, hq⟩ := choose_lt each
    have hlen : ((List.range len).map q).length = len := by simp
    refine ⟨(List.range len).map q, ⟨some a, m, by rw [hlen], by omega, hm, ?_⟩, fun x hx => ?_⟩
    · by_cases h0 : len = 0
      · left; subst h0; rfl
      · right
        obtain ⟨b, off, spot⟩ := a
        have hspot : spot = none := by simpa [Addr.add] using World.cell?_spot (hq 0 (by omega)).1.1
        subst hspot
        refine ⟨b, off, rfl, hlt (.cell b off) (List.mem_append.2 (.inl (MemPlace.mem_row.2 ⟨0, by rw [ce]; omega, by simp⟩))), fun j hj => ?_⟩
        rw [hlen] at hj
        have hm3 : P3.m = 3 := rfl
        rw [hm3] at hj
        have hi : j / 3 < len := by omega
        have hg : ((List.range len).map q).getD (j / 3) (0, 0, 0) = q (j / 3) := by simp [List.getD, hi]
        have hz : P3.z = (0, 0, 0) := rfl
        obtain ⟨⟨k0, k1, k2⟩, _⟩ := hq (j / 3) (by omega)
        rcases (by omega : j % 3 = 0 ∨ j % 3 = 1 ∨ j % 3 = 2) with h | h | h
        · have hj2 : j = j / 3 * 3 + 0 := by omega
          have hfl := flat_getD (E := P3) ((List.range len).map q) (j / 3) 0 (by rw [hlen]; exact hi) (by decide)
          rw [hm3, ← hj2, hz, hg] at hfl
          rw [hfl]
          rw [add_plain, show j / 3 * 3 = j by omega] at k0
          rw [k0]; rfl
        · have hj2 : j = j / 3 * 3 + 1 := by omega
          have hfl := flat_getD (E := P3) ((List.range len).map q) (j / 3) 1 (by rw [hlen]; exact hi) (by decide)
          rw [hm3, ← hj2, hz, hg] at hfl
          rw [hfl]
          rw [add_plain, show j / 3 * 3 + 1 = j by omega] at k1
          rw [k1]; rfl
        · have hj2 : j = j / 3 * 3 + 2 := by omega
          have hfl := flat_getD (E := P3) ((List.range len).map q) (j / 3) 2 (by rw [hlen]; exact hi) (by decide)
          rw [hm3, ← hj2, hz, hg] at hfl
          rw [hfl]
          rw [add_plain, show j / 3 * 3 + 2 = j by omega] at k2
          rw [k2]; rfl
    · unfold Enc.flat at hx
      obtain ⟨u, hu, hx⟩ := List.mem_flatMap.1 hx
      obtain ⟨i, hi, rfl⟩ := List.mem_map.1 hu
      have hi' := List.mem_range.1 hi
      simp [P3] at hx
      obtain ⟨_, b0, b1, b2⟩ := hq i (by omega)
      rcases hx with rfl | rfl | rfl
      · exact b0
      · exact b1
      · exact b2
end
end Go.Proofs.YtpgnndpjlcihiaaDoor
