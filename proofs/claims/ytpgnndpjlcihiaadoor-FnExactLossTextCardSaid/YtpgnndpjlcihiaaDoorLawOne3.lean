/-
  How an argument that is one record of three int64 fields is opened.
-/
import Derived.Test.YtpgnndpjlcihiaaDoorLawRec3
namespace Go.Proofs.YtpgnndpjlcihiaaDoor
open Go.ChangeShapes Go.WideShapes Go.ChangeAt Go.RowKit Go.Deep

theorem open_rec3 {H : Type} {enc : TypeId × Value → H} {P : Program} {t : TypeId} {base : Nat} {r : Reach} {W : World} {v : Value} {d : DataW H} {p : List MemPlace}
    (hs : ∃ f0 f1 f2 : Field, P.underlying t = some (.struct #[f0, f1, f2]) ∧ P.cellsOf t = 3 ∧ (f0.offset = 0 ∧ f1.offset = 1 ∧ f2.offset = 2) ∧ (P.cellsOf f0.type = 1 ∧ P.cellsOf f1.type = 1 ∧ P.cellsOf f2.type = 1) ∧ P.underlying f0.type = some (.int .i64) ∧ P.underlying f1.type = some (.int .i64) ∧ P.underlying f2.type = some (.int .i64))
    (hval : Value.okWide P W r base t v) (hd : DataW.Trod enc P W 0 (fun _ => true) true t v d p) : ∃ x y z : Int, v = .agg #[.int .i64 x, .int .i64 y, .int .i64 z] := by
  obtain ⟨f0, f1, f2, he, ce, ⟨o0, o1, o2⟩, ⟨c0, c1, c2⟩, i0, i1, i2⟩ := hs
  obtain ⟨cs, rfl, hsz⟩ := okWide_struct he hval
  obtain ⟨fuel, hf⟩ := hd
  obtain ⟨ys, k', hk, hxy, _, hxl, hfs⟩ := DataW.trod_struct he hf
  obtain ⟨l⟩ := cs
  have hlen : l.length = 3 := by rw [ce] at hsz; simpa using hsz
  match ys, hxl, l, hlen with
  | [y0, y1, y2], _, [v0, v1, v2], _ =>
    have g0 := hfs 0 f0 rfl
    have g1 := hfs 1 f1 rfl
    have g2 := hfs 2 f2 rfl
    simp [o0, o1, o2, c0, c1, c2, Value.cells] at g0 g1 g2
    obtain ⟨N0, t0, _, b0⟩ := DataW.trod_int i0 g0
    obtain ⟨N1, t1, _, b1⟩ := DataW.trod_int i1 g1
    obtain ⟨N2, t2, _, b2⟩ := DataW.trod_int i2 g2
    simp only [List.cons.injEq, and_true] at t0 t1 t2
    subst t0 t1 t2
    exact ⟨N0, N1, N2, rfl⟩

end Go.Proofs.YtpgnndpjlcihiaaDoor
