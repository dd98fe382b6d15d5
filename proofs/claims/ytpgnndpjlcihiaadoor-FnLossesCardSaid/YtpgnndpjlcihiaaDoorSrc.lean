/-
  The reference's source of choices: what next, pick, one and among return.
-/
import Derived.Test.YtpgnndpjlcihiaaDoorIn
import Derived.Deep.QuietTactic
import Derived.BigQuiet
import Derived.IntWalk
import Derived.Laws.Bits64b
namespace Go.Proofs.YtpgnndpjlcihiaaDoor
open Go.RowKit

/-- In w, v reads as n bytes. -/
structure BI (w : World) (v : Value) (n : Nat) : Prop where
  shp : ∃ a cap, v = .slice a n cap ∧ n ≤ cap ∧ cap ≤ maxLen ∧ (n = 0 ∨ ∃ b off, a = some ⟨b, off, none⟩ ∧ b < w.heap.size ∧ ∀ j, j < n → ∃ y : Int, 0 ≤ y ∧ y ≤ 255 ∧ w.cell? ⟨b, off + j, none⟩ = some (.int .u8 y))

theorem BI.shape {w : World} {v : Value} {n : Nat} (h : BI w v n) : ∃ a cap, v = .slice a n cap := by
  obtain ⟨a, cap, rfl, _⟩ := h.shp
  exact ⟨a, cap, rfl⟩
theorem BI.len {w : World} {v : Value} {n : Nat} (h : BI w v n) : n ≤ 9223372036854775807 := by
  obtain ⟨a, cap, _, h1, h2, _⟩ := h.shp
  unfold maxLen at h2; omega
theorem BI.below {w w' : World} {v : Value} {n : Nat} (h : BI w v n) (hb : Below w.heap.size w w') : BI w' v n := by
  obtain ⟨a, cap, rfl, h1, h2, h3⟩ := h.shp
  refine ⟨⟨a, cap, rfl, h1, h2, ?_⟩⟩
  rcases h3 with h3 | ⟨b, off, rfl, hlt, hc⟩
  · exact .inl h3
  · refine .inr ⟨b, off, rfl, Nat.lt_of_lt_of_le hlt hb.size, fun j hj => ?_⟩
    obtain ⟨y, y1, y2, y3⟩ := hc j hj
    exact ⟨y, y1, y2, (hb.cell (p := ⟨b, off + j, none⟩) hlt).trans y3⟩
theorem BI.grown {w w' : World} {v : Value} {n : Nat} {b0 : Nat} (h : BI w v n) (hg : w.grownBy w' (some b0)) (hne : 0 < n → v.ownBlock ≠ some b0) : BI w' v n := by
  obtain ⟨a, cap, rfl, h1, h2, h3⟩ := h.shp
  refine ⟨⟨a, cap, rfl, h1, h2, ?_⟩⟩
  rcases h3 with h3 | ⟨b, off, rfl, hlt, hc⟩
  · exact .inl h3
  · refine .inr ⟨b, off, rfl, Nat.lt_of_lt_of_le hlt hg.size, fun j hj => ?_⟩
    obtain ⟨y, y1, y2, y3⟩ := hc j hj
    exact ⟨y, y1, y2, (World.cell?_of_block (hg.block b hlt (hne (by omega)))).trans y3⟩
theorem BI.own_lt {w : World} {v : Value} {n : Nat} (h : BI w v n) (hp : 0 < n) {q : Nat} (hq : v.ownBlock = some q) : q < w.heap.size := by
  obtain ⟨a, cap, rfl, h1, h2, h3⟩ := h.shp
  rcases h3 with h3 | ⟨b, off, rfl, hlt, _⟩
  · omega
  · have := Option.some.inj hq
    simp only at this
    omega
theorem BI.cells {w : World} {a : Option Addr} {n cap : Nat} (h : BI w (.slice a n cap) n) (hp : 0 < n) : ∃ b off, a = some ⟨b, off, none⟩ ∧ b < w.heap.size ∧ ∀ j, j < n → ∃ y : Int, 0 ≤ y ∧ y ≤ 255 ∧ w.cell? ⟨b, off + j, none⟩ = some (.int .u8 y) := by
  obtain ⟨a', cap', e, _, _, h3⟩ := h.shp
  simp only [Value.slice.injEq] at e
  obtain ⟨rfl, _, rfl⟩ := e
  rcases h3 with h3 | h3
  · omega
  · exact h3

/-- Block b holds a source that reads v; it has been asked m times at most. -/
def SrcAt (w : World) (base b : Nat) (v : Value) (m : Nat) : Prop :=
  ∃ x sd : Int, 0 ≤ x ∧ x ≤ m ∧ 0 ≤ sd ∧ sd ≤ 18446744073709551615 ∧ w.ownsRow base 84 3 (.slice (some ⟨b, 0, none⟩) 1 1) 1 [v, .int .i64 x, .int .u64 sd]

theorem SrcAt.below {w w' : World} {base b : Nat} {v : Value} {m : Nat} (h : SrcAt w base b v m) (hb : Below w.heap.size w w') : SrcAt w' base b v m := by
  obtain ⟨x, sd, h1, h2, h3, h4, h5⟩ := h
  refine ⟨x, sd, h1, h2, h3, h4, h5.1, ?_⟩
  rcases h5.2 with ⟨h, _⟩ | ⟨g, cap, cur, e, hbg, hg, r⟩
  · cases h
  · exact .inr ⟨g, cap, cur, e, hbg, by rw [hb.block g (Array.getElem?_eq_some_iff.1 hg).1]; exact hg, r⟩
theorem SrcAt.lt {w : World} {base b : Nat} {v : Value} {m : Nat} (h : SrcAt w base b v m) : base ≤ b ∧ b < w.heap.size := by
  obtain ⟨x, sd, _, _, _, _, h5⟩ := h
  exact h5.lt b rfl
theorem SrcAt.grown {w w' : World} {base b : Nat} {v : Value} {m : Nat} {row : Option Nat} (h : SrcAt w base b v m) (hg : w.grownBy w' row) (hne : some b ≠ row) : SrcAt w' base b v m := by
  obtain ⟨x, sd, h1, h2, h3, h4, h5⟩ := h
  exact ⟨x, sd, h1, h2, h3, h4, h5.kept hg (.inr hne)⟩

theorem SrcAt.more {w : World} {base b : Nat} {v : Value} {m m' : Nat} (h : SrcAt w base b v m) (hm : m ≤ m') : SrcAt w base b v m' := by
  obtain ⟨x, sd, h1, h2, h3, h4, h5⟩ := h
  exact ⟨x, sd, h1, by omega, h3, h4, h5⟩
theorem grown_below {w w' : World} {row : Option Nat} (h : Below w.heap.size w w') : w.grownBy w' row := ⟨h.os, h.tape, h.output, h.size, fun k hk _ => h.block k hk⟩
/-- A block of the call's own that grows is none of the caller's. -/
theorem grown_chain {w w1 w2 : World} {r row : Option Nat} (h : w.grownBy w1 r) (k : w1.grownBy w2 row) (hn : ∀ q, row = some q → w.heap.size ≤ q) : w.grownBy w2 r :=
  ⟨k.os.trans h.os, k.tape.trans h.tape, k.output.trans h.output, Nat.le_trans h.size k.size, fun q hq hne => (k.block q (Nat.lt_of_lt_of_le hq h.size) (fun e => by have := hn q e.symm; omega)).trans (h.block q hq hne)⟩
theorem grownBy_quiet {w w3 : World} {row : Option Nat} (k : Nat) (h : (w.drewN k).grownBy w3 row) : w.grownBy w3 row := ⟨h.os, h.tape, h.output, h.size, h.block⟩
theorem grownBy_more {w w3 : World} {row : Option Nat} (k : Nat) (h : w.grownBy w3 row) : w.grownBy (w3.drewN k) row := ⟨h.os, h.tape, h.output, h.size, h.block⟩
theorem u64_bounds (z : Int) : 0 ≤ IntKind.u64.wrap z ∧ IntKind.u64.wrap z ≤ 18446744073709551615 := by rw [IntKind.wrap_u64]; omega
theorem and_255 (z : Int) (h0 : 0 ≤ z) (h1 : z ≤ 18446744073709551615) : 0 ≤ bits BinOp.and IntKind.u64 z 255 ∧ bits BinOp.and IntKind.u64 z 255 ≤ 255 := by
  obtain ⟨n, rfl⟩ : ∃ n : Nat, z = n := ⟨z.toNat, by omega⟩
  have e : bits BinOp.and IntKind.u64 (n : Int) ((255 : Nat) : Int) = ((n &&& 255 : Nat) : Int) := bits_and_u64_nat n 255 (by omega) (by omega)
  have h2 : n &&& 255 ≤ 255 := Nat.and_le_right
  have e2 : bits BinOp.and IntKind.u64 (n : Int) 255 = ((n &&& 255 : Nat) : Int) := e
  rw [e2]
  omega
/-- Behind the two stores. -/
theorem src_stored {w : World} {base b : Nat} {v : Value} {x sd : Int} (h : w.ownsRow base 84 3 (.slice (some ⟨b, 0, none⟩) 1 1) 1 [v, .int .i64 x, .int .u64 sd]) (k : Nat) (y z : Int) :
    (((w.drewN k).setCell ⟨b, 1, none⟩ (.int .i64 y)).setCell ⟨b, 2, none⟩ (.int .u64 z)).ownsRow base 84 3 (.slice (some ⟨b, 0, none⟩) 1 1) 1 [v, .int .i64 y, .int .u64 z] ∧
      w.grownBy (((w.drewN k).setCell ⟨b, 1, none⟩ (.int .i64 y)).setCell ⟨b, 2, none⟩ (.int .u64 z)) (some b) := by
  have h' : (w.drewN k).ownsRow base 84 3 (.slice (some ⟨b, 0, none⟩) 1 1) 1 [v, .int .i64 x, .int .u64 sd] := h
  obtain ⟨a1, a2⟩ := h'.stored 1 (.int .i64 y)
  obtain ⟨b1, b2⟩ := World.ownsRow.stored a1 2 (.int .u64 z)
  exact ⟨b1, grownBy_quiet k (grownBy_trans a2 b2)⟩

set_option maxRecDepth 100000 in
theorem next_any (v : Value) (n b base m : Nat) (w : World) (hv : BI w v n) (hs : SrcAt w base b v m) (hm : m ≤ 1000000000) (hne : 0 < n → v.ownBlock ≠ some b) :
    Calls Tryd.prog 64 #[.pointer (some ⟨b, 0, none⟩)] w fun e w' => ∃ y : Int, e = .returned (.int .i64 y) ∧ 0 ≤ y ∧ y ≤ 255 ∧ SrcAt w' base b v (m + 1) ∧ w.grownBy w' (some b) := by
  obtain ⟨a, cap, rfl⟩ := hv.shape
  have hl := hv.len
  obtain ⟨x, sd, x0, x1, s0, s1, hrow⟩ := hs
  have HR := Lib.hid hrow
  have HV := Lib.hid hv
  have c0 := hrow.cellAt 0 (by omega)
  have c1 := hrow.cellAt 1 (by omega)
  have c2 := hrow.cellAt 2 (by omega)
  have f1 := hrow.frozenAt 1
  have f2 := hrow.frozenAt 2
  simp only [List.getElem?_cons_zero, List.getElem?_cons_succ] at c0 c1 c2
  have hwx : IntKind.i64.wrap (x + 1) = x + 1 := IntWalk.i64_in _ (by omega)
  clear hrow hv
  by_cases hx : x < n
  · have hd1 : decide (x < (n : Int)) = true := decide_eq_true hx
    have hd2 : decide (x + 1 ≤ (n : Int)) = true := decide_eq_true (by omega)
    obtain ⟨b1, o1, rfl, hb1, hcs⟩ := BI.cells HV.out (by omega)
    obtain ⟨X, rfl⟩ : ∃ X : Nat, x = X := ⟨x.toNat, by omega⟩
    obtain ⟨y, y0, y1, hy⟩ := hcs X (by omega)
    clear hcs
    go_enter Tryd.func64, Tryd.ntmps64
    go_wp2_with fail
    go_quiet (fail)
    rename_i nq
    go_wp2_with fail
    go_quiet (fail)
    rename_i nq2
    go_wp2_with fail
    have hz := u64_bounds (IntKind.u64.wrap (IntKind.u64.wrap (sd * 6364136223846793005) + y) + 1442695040888963407)
    generalize IntKind.u64.wrap (IntKind.u64.wrap (IntKind.u64.wrap (sd * 6364136223846793005) + y) + 1442695040888963407) = z at hz ⊢
    obtain ⟨z0, z1⟩ := hz
    obtain ⟨r1, r2⟩ := src_stored HR.out (nq2 + nq) ((X : Int) + 1) z
    generalize ((w.drewN (nq2 + nq)).setCell ⟨b, 1, none⟩ (.int .i64 ((X : Int) + 1))).setCell ⟨b, 2, none⟩ (.int .u64 z) = w3 at r1 r2 ⊢
    clear c0 c1 c2 f1 f2
    have c0 := r1.cellAt 0 (by omega)
    have c1 := r1.cellAt 1 (by omega)
    simp only [List.getElem?_cons_zero, List.getElem?_cons_succ] at c0 c1
    have HR1 := Lib.hid r1
    clear r1
    go_quiet (fail)
    rename_i nq3
    go_wp2
    go_ret
    exact ⟨y, rfl, y0, y1, ⟨_, z, by omega, by omega, z0, z1, HR1.out⟩, grownBy_more _ r2⟩
  · have hd1 : decide (x < (n : Int)) = false := decide_eq_false hx
    have hd2 : decide (x + 1 ≤ (n : Int)) = false := decide_eq_false (by omega)
    go_enter Tryd.func64, Tryd.ntmps64
    go_wp2_with fail
    go_quiet (fail)
    rename_i nq
    go_wp2_with fail
    have hz := u64_bounds (IntKind.u64.wrap (IntKind.u64.wrap (sd * 6364136223846793005)) + 1442695040888963407)
    generalize IntKind.u64.wrap (IntKind.u64.wrap (IntKind.u64.wrap (sd * 6364136223846793005)) + 1442695040888963407) = z at hz ⊢
    obtain ⟨z0, z1⟩ := hz
    obtain ⟨r1, r2⟩ := src_stored HR.out nq (x + 1) z
    generalize ((w.drewN nq).setCell ⟨b, 1, none⟩ (.int .i64 (x + 1))).setCell ⟨b, 2, none⟩ (.int .u64 z) = w3 at r1 r2 ⊢
    clear c0 c1 c2 f1 f2
    have c0 := r1.cellAt 0 (by omega)
    have c1 := r1.cellAt 1 (by omega)
    have c2 := r1.cellAt 2 (by omega)
    simp only [List.getElem?_cons_zero, List.getElem?_cons_succ] at c0 c1 c2
    have HR1 := Lib.hid r1
    clear r1
    have hA := and_255 (z / 1099511627776) (by omega) (by omega)
    go_quiet (fail)
    rename_i nq3
    go_wp2
    go_ret
    exact ⟨_, rfl, hA.1, hA.2, ⟨_, z, by omega, by omega, z0, z1, HR1.out⟩, grownBy_more _ r2⟩

theorem emod_le' (y k : Int) (h : 0 ≤ y) (hk : 0 < k) : y % k ≤ y := by
  obtain ⟨Y, rfl⟩ : ∃ Y : Nat, y = Y := ⟨y.toNat, by omega⟩
  obtain ⟨K, rfl⟩ : ∃ K : Nat, k = K := ⟨k.toNat, by omega⟩
  have := Nat.mod_le Y K
  rw [← Int.natCast_emod]; omega

set_option maxRecDepth 100000 in
/-- A number below n; 0 where n is 1 or less. -/
theorem pick_any (v : Value) (n b base m : Nat) (k : Int) (w : World) (hv : BI w v n) (hs : SrcAt w base b v m) (hm : m ≤ 900000000) (hne : 0 < n → v.ownBlock ≠ some b) :
    Calls Tryd.prog 46 #[.pointer (some ⟨b, 0, none⟩), .int .i64 k] w fun e w' => ∃ y : Int, e = .returned (.int .i64 y) ∧ 0 ≤ y ∧ y ≤ 65535 ∧ (1 < k → y < k) ∧ (k ≤ 1 → y = 0) ∧ SrcAt w' base b v (m + 2) ∧ w.grownBy w' (some b) := by
  have HV := Lib.hid hv
  have HS := Lib.hid hs
  clear hv hs
  by_cases h1 : k ≤ 1
  · have hd1 : decide (k ≤ 1) = true := decide_eq_true h1
    go_enter Tryd.func46, Tryd.ntmps46
    go_wp2
    go_ret
    obtain ⟨x, sd, q1, q2, q3, q4, q5⟩ := HS.out
    exact ⟨0, rfl, by omega, by omega, by omega, fun _ => rfl, ⟨x, sd, q1, by omega, q3, q4, q5⟩, World.grownBy.refl _ _⟩
  · have hd1 : decide (k ≤ 1) = false := decide_eq_false h1
    have hk0 : k ≠ 0 := by omega
    by_cases h2 : 200 < k
    · have hd2 : decide ((200 : Int) < k) = true := decide_eq_true h2
      go_enter Tryd.func46, Tryd.ntmps46
      go_wp2_with fail
      refine (next_any v n b base m w HV.out HS.out (by omega) hne).mono ?_
      rintro e w1 ⟨y1, rfl, y10, y11, hs1, hg1⟩
      have HS1 := Lib.hid hs1
      have HG1 := Lib.hid hg1
      have hwm : IntKind.i64.wrap (y1 * 256) = y1 * 256 := IntWalk.i64_in _ (by omega)
      clear hs1 hg1
      go_wp2_with fail
      refine (next_any v n b base (m + 1) w1 (HV.out.grown HG1.out hne) HS1.out (by omega) hne).mono ?_
      rintro e w2 ⟨y2, rfl, y20, y21, hs2, hg2⟩
      have hwa : IntKind.i64.wrap (y1 * 256 + y2) = y1 * 256 + y2 := IntWalk.i64_in _ (by omega)
      have HS2 := Lib.hid hs2
      have HG2 := Lib.hid hg2
      clear hs2 hg2
      have b1 : 0 ≤ (y1 * 256 + y2) % k := Int.emod_nonneg _ hk0
      have b2 : (y1 * 256 + y2) % k < k := Int.emod_lt_of_pos _ (by omega)
      have b3 := emod_le' (y1 * 256 + y2) k (by omega) (by omega)
      go_wp2
      go_ret
      exact ⟨_, rfl, b1, by omega, fun _ => b2, fun h => by omega, HS2.out, grownBy_trans HG1.out HG2.out⟩
    · have hd2 : decide ((200 : Int) < k) = false := decide_eq_false h2
      go_enter Tryd.func46, Tryd.ntmps46
      go_wp2_with fail
      refine (next_any v n b base m w HV.out HS.out (by omega) hne).mono ?_
      rintro e w1 ⟨y1, rfl, y10, y11, hs1, hg1⟩
      have HS1 := Lib.hid hs1
      have HG1 := Lib.hid hg1
      clear hs1 hg1
      have b1 : 0 ≤ y1 % k := Int.emod_nonneg _ hk0
      have b2 : y1 % k < k := Int.emod_lt_of_pos _ (by omega)
      have b3 := emod_le' y1 k (by omega) (by omega)
      go_wp2
      go_ret
      obtain ⟨x, sd, q1, q2, q3, q4, q5⟩ := HS1.out
      exact ⟨_, rfl, b1, by omega, fun _ => b2, fun h => by omega, ⟨x, sd, q1, by omega, q3, q4, q5⟩, HG1.out⟩

theorem pick_lt {y k : Int} (h1 : 1 < k → y < k) (h2 : k ≤ 1 → y = 0) (hk : 0 < k) : y < k := by
  by_cases h : 1 < k
  · exact h1 h
  · have := h2 (by omega); omega

/-- A source over bytes. -/
theorem from_any (v : Value) (n : Nat) (w : World) (hv : BI w v n) :
    Calls Tryd.prog 35 #[v] w fun e w' => e = .returned (.pointer (some ⟨w.heap.size, 0, none⟩)) ∧ SrcAt w' w.heap.size w.heap.size v 0 ∧ Below w.heap.size w w' := by
  obtain ⟨a, cap, rfl⟩ := hv.shape
  clear hv
  go_enter Tryd.func35, Tryd.ntmps35
  go_wp2
  go_ret
  refine ⟨rfl, ⟨0, 0, by omega, by omega, by omega, by omega, by simp, .inr ⟨w.heap.size, 1, #[.slice a n cap, .int .i64 0, .int .u64 0], rfl, Nat.le_refl _, by show (w.heap.push _)[w.heap.size]? = _; simp, by omega, by unfold maxLen; omega, rfl, rfl⟩⟩, (Below.refl _ _).alloc (Nat.le_refl _) _⟩

end Go.Proofs.YtpgnndpjlcihiaaDoor
