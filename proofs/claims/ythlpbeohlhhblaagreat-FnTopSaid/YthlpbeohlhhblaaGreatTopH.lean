/-
  The reference's source of choices: what next, pick, one and among return.
  The reference's source of choices: what one returns (in a text of its own: not each seat holds it).
  l06DrawTimes, l06DrawWay: lists of drawn numbers.
  l08New: a drawn wish.
  A2Times, A2Wishes, A2Order: what FnTop draws of plans.
-/
import Derived.Test.YthlpbeohlhhblaaGreatTopC
import Derived.Test.YthlpbeohlhhblaaGreatTopD
import Derived.Test.YthlpbeohlhhblaaGreatTopG
import Derived.Test.YthlpbeohlhhblaaGreatTopF
import Derived.Deep.QuietTactic
import Derived.BigQuiet
import Derived.IntWalk
import Derived.Laws.Bits64b
import Derived.Deep.RegionHeld3
namespace Go.Proofs.YthlpbeohlhhblaaGreat
open Go.RowKit

/-- In w, v reads as n bytes. -/
structure BI (w : World) (v : Value) (n : Nat) : Prop where
  shp : ∃ a cap, v = .slice a n cap ∧ n ≤ cap ∧ cap ≤ maxLen ∧ (n = 0 ∨ ∃ b off, a = some ⟨b, off, none⟩ ∧ b < w.heap.size ∧ ∀ j, j < n → ∃ y : Int, 0 ≤ y ∧ y ≤ 255 ∧ w.cell? ⟨b, off + j, none⟩ = some (.int .u8 y))

theorem BI.shape {w : World} {v : Value} {n : Nat} (h : BI w v n) : ∃ a cap, v = .slice a n cap := by
  obtain ⟨a, cap, rfl, _⟩ := h.shp
  exact ⟨a, cap, rfl⟩
theorem BI.len {w : World} {v : Value} {n : Nat} (h : BI w v n) : n ≤ 9223372036854775807 := by
  obtain ⟨a, cap, _, h1, h2, _⟩ := h.shp
  unfold maxLen at h2; omega
theorem BI.below {w w' : World} {v : Value} {n : Nat} (h : BI w v n) (hb : Below w.heap.size w w') : BI w' v n := by
  obtain ⟨a, cap, rfl, h1, h2, h3⟩ := h.shp
  refine ⟨⟨a, cap, rfl, h1, h2, ?_⟩⟩
  rcases h3 with h3 | ⟨b, off, rfl, hlt, hc⟩
  · exact .inl h3
  · refine .inr ⟨b, off, rfl, Nat.lt_of_lt_of_le hlt hb.size, fun j hj => ?_⟩
    obtain ⟨y, y1, y2, y3⟩ := hc j hj
    exact ⟨y, y1, y2, (hb.cell (p := ⟨b, off + j, none⟩) hlt).trans y3⟩
theorem BI.grown {w w' : World} {v : Value} {n : Nat} {b0 : Nat} (h : BI w v n) (hg : w.grownBy w' (some b0)) (hne : 0 < n → v.ownBlock ≠ some b0) : BI w' v n := by
  obtain ⟨a, cap, rfl, h1, h2, h3⟩ := h.shp
  refine ⟨⟨a, cap, rfl, h1, h2, ?_⟩⟩
  rcases h3 with h3 | ⟨b, off, rfl, hlt, hc⟩
  · exact .inl h3
  · refine .inr ⟨b, off, rfl, Nat.lt_of_lt_of_le hlt hg.size, fun j hj => ?_⟩
    obtain ⟨y, y1, y2, y3⟩ := hc j hj
    exact ⟨y, y1, y2, (World.cell?_of_block (hg.block b hlt (hne (by omega)))).trans y3⟩
theorem BI.own_lt {w : World} {v : Value} {n : Nat} (h : BI w v n) (hp : 0 < n) {q : Nat} (hq : v.ownBlock = some q) : q < w.heap.size := by
  obtain ⟨a, cap, rfl, h1, h2, h3⟩ := h.shp
  rcases h3 with h3 | ⟨b, off, rfl, hlt, _⟩
  · omega
  · have := Option.some.inj hq
    simp only at this
    omega
theorem BI.cells {w : World} {a : Option Addr} {n cap : Nat} (h : BI w (.slice a n cap) n) (hp : 0 < n) : ∃ b off, a = some ⟨b, off, none⟩ ∧ b < w.heap.size ∧ ∀ j, j < n → ∃ y : Int, 0 ≤ y ∧ y ≤ 255 ∧ w.cell? ⟨b, off + j, none⟩ = some (.int .u8 y) := by
  obtain ⟨a', cap', e, _, _, h3⟩ := h.shp
  simp only [Value.slice.injEq] at e
  obtain ⟨rfl, _, rfl⟩ := e
  rcases h3 with h3 | h3
  · omega
  · exact h3

/-- Block b holds a source that reads v; it has been asked m times at most. -/
def SrcAt (w : World) (base b : Nat) (v : Value) (m : Nat) : Prop :=
  ∃ x sd : Int, 0 ≤ x ∧ x ≤ m ∧ 0 ≤ sd ∧ sd ≤ 18446744073709551615 ∧ w.ownsRow base 102 3 (.slice (some ⟨b, 0, none⟩) 1 1) 1 [v, .int .i64 x, .int .u64 sd]

theorem SrcAt.below {w w' : World} {base b : Nat} {v : Value} {m : Nat} (h : SrcAt w base b v m) (hb : Below w.heap.size w w') : SrcAt w' base b v m := by
  obtain ⟨x, sd, h1, h2, h3, h4, h5⟩ := h
  refine ⟨x, sd, h1, h2, h3, h4, h5.1, ?_⟩
  rcases h5.2 with ⟨h, _⟩ | ⟨g, cap, cur, e, hbg, hg, r⟩
  · cases h
  · exact .inr ⟨g, cap, cur, e, hbg, by rw [hb.block g (Array.getElem?_eq_some_iff.1 hg).1]; exact hg, r⟩
theorem SrcAt.lt {w : World} {base b : Nat} {v : Value} {m : Nat} (h : SrcAt w base b v m) : base ≤ b ∧ b < w.heap.size := by
  obtain ⟨x, sd, _, _, _, _, h5⟩ := h
  exact h5.lt b rfl
theorem SrcAt.grown {w w' : World} {base b : Nat} {v : Value} {m : Nat} {row : Option Nat} (h : SrcAt w base b v m) (hg : w.grownBy w' row) (hne : some b ≠ row) : SrcAt w' base b v m := by
  obtain ⟨x, sd, h1, h2, h3, h4, h5⟩ := h
  exact ⟨x, sd, h1, h2, h3, h4, h5.kept hg (.inr hne)⟩

theorem SrcAt.more {w : World} {base b : Nat} {v : Value} {m m' : Nat} (h : SrcAt w base b v m) (hm : m ≤ m') : SrcAt w base b v m' := by
  obtain ⟨x, sd, h1, h2, h3, h4, h5⟩ := h
  exact ⟨x, sd, h1, by omega, h3, h4, h5⟩
theorem grown_below {w w' : World} {row : Option Nat} (h : Below w.heap.size w w') : w.grownBy w' row := ⟨h.os, h.tape, h.output, h.size, fun k hk _ => h.block k hk⟩
/-- A block of the call's own that grows is none of the caller's. -/
theorem grown_chain {w w1 w2 : World} {r row : Option Nat} (h : w.grownBy w1 r) (k : w1.grownBy w2 row) (hn : ∀ q, row = some q → w.heap.size ≤ q) : w.grownBy w2 r :=
  ⟨k.os.trans h.os, k.tape.trans h.tape, k.output.trans h.output, Nat.le_trans h.size k.size, fun q hq hne => (k.block q (Nat.lt_of_lt_of_le hq h.size) (fun e => by have := hn q e.symm; omega)).trans (h.block q hq hne)⟩
theorem grownBy_quiet {w w3 : World} {row : Option Nat} (k : Nat) (h : (w.drewN k).grownBy w3 row) : w.grownBy w3 row := ⟨h.os, h.tape, h.output, h.size, h.block⟩
theorem grownBy_more {w w3 : World} {row : Option Nat} (k : Nat) (h : w.grownBy w3 row) : w.grownBy (w3.drewN k) row := ⟨h.os, h.tape, h.output, h.size, h.block⟩
theorem u64_bounds (z : Int) : 0 ≤ IntKind.u64.wrap z ∧ IntKind.u64.wrap z ≤ 18446744073709551615 := by rw [IntKind.wrap_u64]; omega
theorem and_255 (z : Int) (h0 : 0 ≤ z) (h1 : z ≤ 18446744073709551615) : 0 ≤ bits BinOp.and IntKind.u64 z 255 ∧ bits BinOp.and IntKind.u64 z 255 ≤ 255 := by
  obtain ⟨n, rfl⟩ : ∃ n : Nat, z = n := ⟨z.toNat, by omega⟩
  have e : bits BinOp.and IntKind.u64 (n : Int) ((255 : Nat) : Int) = ((n &&& 255 : Nat) : Int) := bits_and_u64_nat n 255 (by omega) (by omega)
  have h2 : n &&& 255 ≤ 255 := Nat.and_le_right
  have e2 : bits BinOp.and IntKind.u64 (n : Int) 255 = ((n &&& 255 : Nat) : Int) := e
  rw [e2]
  omega
/-- Behind the two stores. -/
theorem src_stored {w : World} {base b : Nat} {v : Value} {x sd : Int} (h : w.ownsRow base 102 3 (.slice (some ⟨b, 0, none⟩) 1 1) 1 [v, .int .i64 x, .int .u64 sd]) (k : Nat) (y z : Int) :
    (((w.drewN k).setCell ⟨b, 1, none⟩ (.int .i64 y)).setCell ⟨b, 2, none⟩ (.int .u64 z)).ownsRow base 102 3 (.slice (some ⟨b, 0, none⟩) 1 1) 1 [v, .int .i64 y, .int .u64 z] ∧
      w.grownBy (((w.drewN k).setCell ⟨b, 1, none⟩ (.int .i64 y)).setCell ⟨b, 2, none⟩ (.int .u64 z)) (some b) := by
  have h' : (w.drewN k).ownsRow base 102 3 (.slice (some ⟨b, 0, none⟩) 1 1) 1 [v, .int .i64 x, .int .u64 sd] := h
  obtain ⟨a1, a2⟩ := h'.stored 1 (.int .i64 y)
  obtain ⟨b1, b2⟩ := World.ownsRow.stored a1 2 (.int .u64 z)
  exact ⟨b1, grownBy_quiet k (grownBy_trans a2 b2)⟩

set_option maxRecDepth 100000 in
theorem next_any (v : Value) (n b base m : Nat) (w : World) (hv : BI w v n) (hs : SrcAt w base b v m) (hm : m ≤ 1000000000) (hne : 0 < n → v.ownBlock ≠ some b) :
    Calls Tryz.prog 53 #[.pointer (some ⟨b, 0, none⟩)] w fun e w' => ∃ y : Int, e = .returned (.int .i64 y) ∧ 0 ≤ y ∧ y ≤ 255 ∧ SrcAt w' base b v (m + 1) ∧ w.grownBy w' (some b) := by
  obtain ⟨a, cap, rfl⟩ := hv.shape
  have hl := hv.len
  obtain ⟨x, sd, x0, x1, s0, s1, hrow⟩ := hs
  have HR := Lib.hid hrow
  have HV := Lib.hid hv
  have c0 := hrow.cellAt 0 (by omega)
  have c1 := hrow.cellAt 1 (by omega)
  have c2 := hrow.cellAt 2 (by omega)
  have f1 := hrow.frozenAt 1
  have f2 := hrow.frozenAt 2
  simp only [List.getElem?_cons_zero, List.getElem?_cons_succ] at c0 c1 c2
  have hwx : IntKind.i64.wrap (x + 1) = x + 1 := IntWalk.i64_in _ (by omega)
  clear hrow hv
  by_cases hx : x < n
  · have hd1 : decide (x < (n : Int)) = true := decide_eq_true hx
    have hd2 : decide (x + 1 ≤ (n : Int)) = true := decide_eq_true (by omega)
    obtain ⟨b1, o1, rfl, hb1, hcs⟩ := BI.cells HV.out (by omega)
    obtain ⟨X, rfl⟩ : ∃ X : Nat, x = X := ⟨x.toNat, by omega⟩
    obtain ⟨y, y0, y1, hy⟩ := hcs X (by omega)
    clear hcs
    go_enter Tryz.func53, Tryz.ntmps53
    go_wp2_with fail
    go_quiet (fail)
    rename_i nq
    go_wp2_with fail
    go_quiet (fail)
    rename_i nq2
    go_wp2_with fail
    have hz := u64_bounds (IntKind.u64.wrap (IntKind.u64.wrap (sd * 6364136223846793005) + y) + 1442695040888963407)
    generalize IntKind.u64.wrap (IntKind.u64.wrap (IntKind.u64.wrap (sd * 6364136223846793005) + y) + 1442695040888963407) = z at hz ⊢
    obtain ⟨z0, z1⟩ := hz
    obtain ⟨r1, r2⟩ := src_stored HR.out (nq2 + nq) ((X : Int) + 1) z
    generalize ((w.drewN (nq2 + nq)).setCell ⟨b, 1, none⟩ (.int .i64 ((X : Int) + 1))).setCell ⟨b, 2, none⟩ (.int .u64 z) = w3 at r1 r2 ⊢
    clear c0 c1 c2 f1 f2
    have c0 := r1.cellAt 0 (by omega)
    have c1 := r1.cellAt 1 (by omega)
    simp only [List.getElem?_cons_zero, List.getElem?_cons_succ] at c0 c1
    have HR1 := Lib.hid r1
    clear r1
    go_quiet (fail)
    rename_i nq3
    go_wp2
    go_ret
    exact ⟨y, rfl, y0, y1, ⟨_, z, by omega, by omega, z0, z1, HR1.out⟩, grownBy_more _ r2⟩
  · have hd1 : decide (x < (n : Int)) = false := decide_eq_false hx
    have hd2 : decide (x + 1 ≤ (n : Int)) = false := decide_eq_false (by omega)
    go_enter Tryz.func53, Tryz.ntmps53
    go_wp2_with fail
    go_quiet (fail)
    rename_i nq
    go_wp2_with fail
    have hz := u64_bounds (IntKind.u64.wrap (IntKind.u64.wrap (sd * 6364136223846793005)) + 1442695040888963407)
    generalize IntKind.u64.wrap (IntKind.u64.wrap (IntKind.u64.wrap (sd * 6364136223846793005)) + 1442695040888963407) = z at hz ⊢
    obtain ⟨z0, z1⟩ := hz
    obtain ⟨r1, r2⟩ := src_stored HR.out nq (x + 1) z
    generalize ((w.drewN nq).setCell ⟨b, 1, none⟩ (.int .i64 (x + 1))).setCell ⟨b, 2, none⟩ (.int .u64 z) = w3 at r1 r2 ⊢
    clear c0 c1 c2 f1 f2
    have c0 := r1.cellAt 0 (by omega)
    have c1 := r1.cellAt 1 (by omega)
    have c2 := r1.cellAt 2 (by omega)
    simp only [List.getElem?_cons_zero, List.getElem?_cons_succ] at c0 c1 c2
    have HR1 := Lib.hid r1
    clear r1
    have hA := and_255 (z / 1099511627776) (by omega) (by omega)
    go_quiet (fail)
    rename_i nq3
    go_wp2
    go_ret
    exact ⟨_, rfl, hA.1, hA.2, ⟨_, z, by omega, by omega, z0, z1, HR1.out⟩, grownBy_more _ r2⟩

theorem emod_le' (y k : Int) (h : 0 ≤ y) (hk : 0 < k) : y % k ≤ y := by
  obtain ⟨Y, rfl⟩ : ∃ Y : Nat, y = Y := ⟨y.toNat, by omega⟩
  obtain ⟨K, rfl⟩ : ∃ K : Nat, k = K := ⟨k.toNat, by omega⟩
  have := Nat.mod_le Y K
  rw [← Int.natCast_emod]; omega

set_option maxRecDepth 100000 in
/-- A number below n; 0 where n is 1 or less. -/
theorem pick_any (v : Value) (n b base m : Nat) (k : Int) (w : World) (hv : BI w v n) (hs : SrcAt w base b v m) (hm : m ≤ 900000000) (hne : 0 < n → v.ownBlock ≠ some b) :
    Calls Tryz.prog 24 #[.pointer (some ⟨b, 0, none⟩), .int .i64 k] w fun e w' => ∃ y : Int, e = .returned (.int .i64 y) ∧ 0 ≤ y ∧ y ≤ 65535 ∧ (1 < k → y < k) ∧ (k ≤ 1 → y = 0) ∧ SrcAt w' base b v (m + 2) ∧ w.grownBy w' (some b) := by
  have HV := Lib.hid hv
  have HS := Lib.hid hs
  clear hv hs
  by_cases h1 : k ≤ 1
  · have hd1 : decide (k ≤ 1) = true := decide_eq_true h1
    go_enter Tryz.func24, Tryz.ntmps24
    go_wp2
    go_ret
    obtain ⟨x, sd, q1, q2, q3, q4, q5⟩ := HS.out
    exact ⟨0, rfl, by omega, by omega, by omega, fun _ => rfl, ⟨x, sd, q1, by omega, q3, q4, q5⟩, World.grownBy.refl _ _⟩
  · have hd1 : decide (k ≤ 1) = false := decide_eq_false h1
    have hk0 : k ≠ 0 := by omega
    by_cases h2 : 200 < k
    · have hd2 : decide ((200 : Int) < k) = true := decide_eq_true h2
      go_enter Tryz.func24, Tryz.ntmps24
      go_wp2_with fail
      refine (next_any v n b base m w HV.out HS.out (by omega) hne).mono ?_
      rintro e w1 ⟨y1, rfl, y10, y11, hs1, hg1⟩
      have HS1 := Lib.hid hs1
      have HG1 := Lib.hid hg1
      have hwm : IntKind.i64.wrap (y1 * 256) = y1 * 256 := IntWalk.i64_in _ (by omega)
      clear hs1 hg1
      go_wp2_with fail
      refine (next_any v n b base (m + 1) w1 (HV.out.grown HG1.out hne) HS1.out (by omega) hne).mono ?_
      rintro e w2 ⟨y2, rfl, y20, y21, hs2, hg2⟩
      have hwa : IntKind.i64.wrap (y1 * 256 + y2) = y1 * 256 + y2 := IntWalk.i64_in _ (by omega)
      have HS2 := Lib.hid hs2
      have HG2 := Lib.hid hg2
      clear hs2 hg2
      have b1 : 0 ≤ (y1 * 256 + y2) % k := Int.emod_nonneg _ hk0
      have b2 : (y1 * 256 + y2) % k < k := Int.emod_lt_of_pos _ (by omega)
      have b3 := emod_le' (y1 * 256 + y2) k (by omega) (by omega)
      go_wp2
      go_ret
      exact ⟨_, rfl, b1, by omega, fun _ => b2, fun h => by omega, HS2.out, grownBy_trans HG1.out HG2.out⟩
    · have hd2 : decide ((200 : Int) < k) = false := decide_eq_false h2
      go_enter Tryz.func24, Tryz.ntmps24
      go_wp2_with fail
      refine (next_any v n b base m w HV.out HS.out (by omega) hne).mono ?_
      rintro e w1 ⟨y1, rfl, y10, y11, hs1, hg1⟩
      have HS1 := Lib.hid hs1
      have HG1 := Lib.hid hg1
      clear hs1 hg1
      have b1 : 0 ≤ y1 % k := Int.emod_nonneg _ hk0
      have b2 : y1 % k < k := Int.emod_lt_of_pos _ (by omega)
      have b3 := emod_le' y1 k (by omega) (by omega)
      go_wp2
      go_ret
      obtain ⟨x, sd, q1, q2, q3, q4, q5⟩ := HS1.out
      exact ⟨_, rfl, b1, by omega, fun _ => b2, fun h => by omega, ⟨x, sd, q1, by omega, q3, q4, q5⟩, HG1.out⟩

theorem pick_lt {y k : Int} (h1 : 1 < k → y < k) (h2 : k ≤ 1 → y = 0) (hk : 0 < k) : y < k := by
  by_cases h : 1 < k
  · exact h1 h
  · have := h2 (by omega); omega

/-- A source over bytes. -/
theorem from_any (v : Value) (n : Nat) (w : World) (hv : BI w v n) :
    Calls Tryz.prog 23 #[v] w fun e w' => e = .returned (.pointer (some ⟨w.heap.size, 0, none⟩)) ∧ SrcAt w' w.heap.size w.heap.size v 0 ∧ Below w.heap.size w w' := by
  obtain ⟨a, cap, rfl⟩ := hv.shape
  clear hv
  go_enter Tryz.func23, Tryz.ntmps23
  go_wp2
  go_ret
  refine ⟨rfl, ⟨0, 0, by omega, by omega, by omega, by omega, by simp, .inr ⟨w.heap.size, 1, #[.slice a n cap, .int .i64 0, .int .u64 0], rfl, Nat.le_refl _, by show (w.heap.push _)[w.heap.size]? = _; simp, by omega, by unfold maxLen; omega, rfl, rfl⟩⟩, (Below.refl _ _).alloc (Nat.le_refl _) _⟩

end Go.Proofs.YthlpbeohlhhblaaGreat
namespace Go.Proofs.YthlpbeohlhhblaaGreat
open Go.RowKit

theorem one_any (v : Value) (n b base m : Nat) (k : Int) (w : World) (hv : BI w v n) (hs : SrcAt w base b v m) (hm : m ≤ 900000000) (hne : 0 < n → v.ownBlock ≠ some b) :
    Calls Tryz.prog 67 #[.pointer (some ⟨b, 0, none⟩), .int .i64 k] w fun e w' => ∃ y : Bool, e = .returned (.bool y) ∧ SrcAt w' base b v (m + 2) ∧ w.grownBy w' (some b) := by
  have C1 := Lib.hid (pick_any v n b base m k w hv hs hm hne)
  clear hv hs
  go_enter Tryz.func67, Tryz.ntmps67
  go_wp2_with (go_at_call 24; refine C1.out.mono ?_; rintro e w1 ⟨y1, rfl, _, _, _, _, hs1, hg1⟩; have HS1 := Lib.hid hs1; clear hs1)
  go_ret
  exact ⟨_, rfl, HS1.out, hg1⟩


end Go.Proofs.YthlpbeohlhhblaaGreat
namespace Go.Proofs.YthlpbeohlhhblaaGreat
open Go.RowKit

set_option maxRecDepth 100000 in
theorem l06DrawTimes_any (v : Value) (m b base c0 : Nat) (w : World) (hv : BI w v m) (hs : SrcAt w base b v c0) (hc0 : c0 ≤ 1000000) (hne : 0 < m → v.ownBlock ≠ some b) :
    Calls Tryz.prog 22 #[.pointer (some ⟨b, 0, none⟩)] w fun e w' => ∃ v' xs, e = .returned v' ∧ OI 2 w' w.heap.size v' xs ∧ (∀ x ∈ xs, 1 ≤ x ∧ x ≤ 12) ∧ 1 ≤ xs.length ∧ xs.length ≤ 6 ∧ w.grownBy w' (some b) ∧ SrcAt w' base b v (c0 + 20) := by
  have HV := Lib.hid hv
  have hblt := hs.lt.2
  have HS := Lib.hid hs
  clear hv hs
  obtain ⟨i0, hi, iz0, iz1, iz2⟩ := info_parts infoInt64
  have HI := Lib.hid hi
  clear hi
  have hA := (Below.refl w.heap.size w).alloc (Nat.le_refl _) (.cells #[] 2)
  have HO1 := Lib.hid (OI.lit0 2 w w.heap.size (Nat.le_refl _))
  have HS2 := Lib.hid (HS.out.below hA)
  have HV2 := Lib.hid (HV.out.below hA)
  have HG2 := Lib.hid (grown_below (row := some b) hA)
  clear hA
  go_enter Tryz.func22, Tryz.ntmps22
  go_wp2_with fail
  refine (pick_any v m b base c0 6 _ HV2.out HS2.out (by omega) hne).mono ?_
  rintro e w3 ⟨z, rfl, z0, _, z1, _, hs3, hg3⟩
  have z9 : z < 6 := z1 (by omega)
  obtain ⟨Y, rfl⟩ : ∃ Y : Nat, z = Y := ⟨z.toNat, by omega⟩
  have HG3 := Lib.hid (grownBy_trans HG2.out hg3)
  have HO3 := Lib.hid (HO1.out.grown hg3 (.inr (fun e => Nat.ne_of_gt hblt (Option.some.inj e))))
  have HS3 := Lib.hid hs3
  obtain ⟨Z, hZ⟩ : ∃ Z, Z = Y + 1 := ⟨_, rfl⟩
  have hwy : IntKind.i64.wrap (1 + (Y : Int)) = (Z : Int) := by rw [IntWalk.i64_in _ (by omega)]; omega
  have hZ1 : 1 ≤ Z := by omega
  have hZ2 : Z ≤ 6 := by omega
  clear z1 hs3 hg3 hZ
  go_wp2_with fail
  go_loopw [3, 4] (fun o i wr => ∃ (k : Nat) (u : Value) (xs : List Int), k ≤ Z ∧ u = o ∧ i = .int .i64 k ∧ Hid (OI 2 wr w.heap.size u xs) ∧ Hid ((∀ x ∈ xs, 1 ≤ x ∧ x ≤ 12) ∧ xs.length + k = Z) ∧ Hid (w.grownBy wr (some b)) ∧ Hid (SrcAt wr base b v (c0 + 2 + 2 * (Z - k)))) (fun _ i _ => (intOf i).toNat)
  case atStart => exact ⟨Z, _, [], Nat.le_refl _, rfl, rfl, HO3, Lib.hid ⟨by simp, by simp⟩, HG3, Lib.hid (HS3.out.more (by omega))⟩
  case round =>
    obtain ⟨k, u, xs, hk, rfl, rfl, HO, HX, HG, HSR⟩ := hrel
    rename World => wo
    by_cases hlt : 0 < k
    · have hd : decide ((0 : Int) < (k : Int)) = true := decide_eq_true (by omega)
      have hd2 : decide (0 < k) = true := decide_eq_true hlt
      obtain ⟨q, hq⟩ : ∃ q, q = k - 1 := ⟨_, rfl⟩
      have HQ := Lib.hid hq
      have hwq : IntKind.i64.wrap ((k : Int) - 1) = (q : Int) := by rw [IntWalk.i64_in _ (by omega)]; omega
      clear hq
      have hxl : xs.length ≤ 10 := by have := HX.out.2; omega
      have C2 := Lib.hid (pick_any v m b base (c0 + 2 + 2 * (Z - k)) 12 wo (HV.out.grown HG.out hne) HSR.out (by omega) hne)
      have hne1 : u.ownBlock ≠ some b := fun e => by
        have := (HO.out.lt b e).1
        omega
      go_wp2_with fail
      refine C2.out.mono ?_
      rintro e w4 ⟨y, rfl, y0, yM, y1, y2, hs3, hg3⟩
      have yN : y < 12 := pick_lt y1 y2 (by omega)
      have hwz : IntKind.i64.wrap (1 + y) = 1 + y := IntWalk.i64_in _ (by omega)
      have HGD := Lib.hid (show Good (1 + y) by unfold Good; omega)
      have HG4 := Lib.hid (grownBy_trans HG.out hg3)
      have HO4 := Lib.hid (HO.out.grown hg3 (.inr hne1))
      have HS4 := Lib.hid hs3
      have hsz := HG4.out.size
      clear hs3 hg3 y1 y2
      go_wp2_with (
        at_builtin
        refine wpList_app1n rfl _ _ 24 rfl 2 _ i0 Tryz.underlying24 HI.out iz0 iz1 iz2 w.heap.size _ _ rfl HO4.out _ _ (by simp) rfl HGD.out (by omega) hsz ?_
        intro v9 w9 h1 h2 h3
        have H9 := Lib.hid h1
        have HG9 := Lib.hid (grown_chain HG4.out h2 (fun q hq => (HO4.out.lt q hq).1))
        have HS9 := Lib.hid (HS4.out.grown h2 (fun e => hne1 e.symm))
        clear h1 h2 h3)
      go_roundw
      case rel =>
        have hq := HQ.out
        exact ⟨q, _, xs ++ [1 + y], by omega, rfl, rfl, H9, Lib.hid ⟨fun x hx => by
          rcases List.mem_append.1 hx with hx | hx
          · exact HX.out.1 x hx
          · rw [List.mem_singleton.1 hx]; omega, by have := HX.out.2; simp; omega⟩, HG9, Lib.hid (HS9.out.more (by omega))⟩
      case measure =>
        have := HQ.out
        simp [intOf]; omega
    · have hd : decide ((0 : Int) < (k : Int)) = false := decide_eq_false (by omega)
      have hd2 : decide (0 < k) = false := decide_eq_false hlt
      go_wp2
      go_ret
      exact ⟨_, xs, rfl, HO.out, HX.out.1, by have := HX.out.2; omega, by have := HX.out.2; omega, HG.out, HSR.out.more (by omega)⟩

set_option maxRecDepth 100000 in
theorem l06DrawWay_any (v : Value) (m b base c0 : Nat) (tubes : Nat) (w : World) (hv : BI w v m) (hs : SrcAt w base b v c0) (hc0 : c0 ≤ 1000000) (hne : 0 < m → v.ownBlock ≠ some b) (htb1 : 1 ≤ tubes) (htb2 : tubes ≤ 1000) :
    Calls Tryz.prog 54 #[.pointer (some ⟨b, 0, none⟩), .int .i64 tubes] w fun e w' => ∃ v' xs, e = .returned v' ∧ OI 2 w' w.heap.size v' xs ∧ (∀ x ∈ xs, 0 ≤ x ∧ x < (tubes : Int)) ∧ 1 ≤ xs.length ∧ xs.length ≤ 4 ∧ w.grownBy w' (some b) ∧ SrcAt w' base b v (c0 + 20) := by
  have HV := Lib.hid hv
  have hblt := hs.lt.2
  have HS := Lib.hid hs
  clear hv hs
  obtain ⟨i0, hi, iz0, iz1, iz2⟩ := info_parts infoInt64
  have HI := Lib.hid hi
  clear hi
  have hA := (Below.refl w.heap.size w).alloc (Nat.le_refl _) (.cells #[] 2)
  have HO1 := Lib.hid (OI.lit0 2 w w.heap.size (Nat.le_refl _))
  have HS2 := Lib.hid (HS.out.below hA)
  have HV2 := Lib.hid (HV.out.below hA)
  have HG2 := Lib.hid (grown_below (row := some b) hA)
  clear hA
  go_enter Tryz.func54, Tryz.ntmps54
  go_wp2_with fail
  refine (pick_any v m b base c0 4 _ HV2.out HS2.out (by omega) hne).mono ?_
  rintro e w3 ⟨z, rfl, z0, _, z1, _, hs3, hg3⟩
  have z9 : z < 4 := z1 (by omega)
  obtain ⟨Y, rfl⟩ : ∃ Y : Nat, z = Y := ⟨z.toNat, by omega⟩
  have HG3 := Lib.hid (grownBy_trans HG2.out hg3)
  have HO3 := Lib.hid (HO1.out.grown hg3 (.inr (fun e => Nat.ne_of_gt hblt (Option.some.inj e))))
  have HS3 := Lib.hid hs3
  obtain ⟨Z, hZ⟩ : ∃ Z, Z = Y + 1 := ⟨_, rfl⟩
  have hwy : IntKind.i64.wrap (1 + (Y : Int)) = (Z : Int) := by rw [IntWalk.i64_in _ (by omega)]; omega
  have hZ1 : 1 ≤ Z := by omega
  have hZ2 : Z ≤ 4 := by omega
  clear z1 hs3 hg3 hZ
  go_wp2_with fail
  go_loopw [5, 6] (fun o i wr => ∃ (k : Nat) (u : Value) (xs : List Int), k ≤ Z ∧ u = o ∧ i = .int .i64 k ∧ Hid (OI 2 wr w.heap.size u xs) ∧ Hid ((∀ x ∈ xs, 0 ≤ x ∧ x < (tubes : Int)) ∧ xs.length + k = Z) ∧ Hid (w.grownBy wr (some b)) ∧ Hid (SrcAt wr base b v (c0 + 2 + 2 * (Z - k)))) (fun _ i _ => (intOf i).toNat)
  case atStart => exact ⟨Z, _, [], Nat.le_refl _, rfl, rfl, HO3, Lib.hid ⟨by simp, by simp⟩, HG3, Lib.hid (HS3.out.more (by omega))⟩
  case round =>
    obtain ⟨k, u, xs, hk, rfl, rfl, HO, HX, HG, HSR⟩ := hrel
    rename World => wo
    by_cases hlt : 0 < k
    · have hd : decide ((0 : Int) < (k : Int)) = true := decide_eq_true (by omega)
      have hd2 : decide (0 < k) = true := decide_eq_true hlt
      obtain ⟨q, hq⟩ : ∃ q, q = k - 1 := ⟨_, rfl⟩
      have HQ := Lib.hid hq
      have hwq : IntKind.i64.wrap ((k : Int) - 1) = (q : Int) := by rw [IntWalk.i64_in _ (by omega)]; omega
      clear hq
      have hxl : xs.length ≤ 10 := by have := HX.out.2; omega
      have C2 := Lib.hid (pick_any v m b base (c0 + 2 + 2 * (Z - k)) (tubes : Int) wo (HV.out.grown HG.out hne) HSR.out (by omega) hne)
      have hne1 : u.ownBlock ≠ some b := fun e => by
        have := (HO.out.lt b e).1
        omega
      go_wp2_with fail
      refine C2.out.mono ?_
      rintro e w4 ⟨y, rfl, y0, yM, y1, y2, hs3, hg3⟩
      have yN : y < (tubes : Int) := pick_lt y1 y2 (by omega)
      have hwz : IntKind.i64.wrap (1 + y) = 1 + y := IntWalk.i64_in _ (by omega)
      have HGD := Lib.hid (show Good (y) by unfold Good; omega)
      have HG4 := Lib.hid (grownBy_trans HG.out hg3)
      have HO4 := Lib.hid (HO.out.grown hg3 (.inr hne1))
      have HS4 := Lib.hid hs3
      have hsz := HG4.out.size
      clear hs3 hg3 y1 y2
      go_wp2_with (
        at_builtin
        refine wpList_app1n rfl _ _ 24 rfl 2 _ i0 Tryz.underlying24 HI.out iz0 iz1 iz2 w.heap.size _ _ rfl HO4.out _ _ (by simp) rfl HGD.out (by omega) hsz ?_
        intro v9 w9 h1 h2 h3
        have H9 := Lib.hid h1
        have HG9 := Lib.hid (grown_chain HG4.out h2 (fun q hq => (HO4.out.lt q hq).1))
        have HS9 := Lib.hid (HS4.out.grown h2 (fun e => hne1 e.symm))
        clear h1 h2 h3)
      go_roundw
      case rel =>
        have hq := HQ.out
        exact ⟨q, _, xs ++ [y], by omega, rfl, rfl, H9, Lib.hid ⟨fun x hx => by
          rcases List.mem_append.1 hx with hx | hx
          · exact HX.out.1 x hx
          · rw [List.mem_singleton.1 hx]; omega, by have := HX.out.2; simp; omega⟩, HG9, Lib.hid (HS9.out.more (by omega))⟩
      case measure =>
        have := HQ.out
        simp [intOf]; omega
    · have hd : decide ((0 : Int) < (k : Int)) = false := decide_eq_false (by omega)
      have hd2 : decide (0 < k) = false := decide_eq_false hlt
      go_wp2
      go_ret
      exact ⟨_, xs, rfl, HO.out, HX.out.1, by have := HX.out.2; omega, by have := HX.out.2; omega, HG.out, HSR.out.more (by omega)⟩

end Go.Proofs.YthlpbeohlhhblaaGreat
namespace Go.Proofs.YthlpbeohlhhblaaGreat
open Go.RowKit

/-- A wish in a block of its own. -/
def BoxW (w : World) (base q : Nat) (s : Value) (x y : Int) : Prop := w.ownsRow base 61 3 (.slice (some ⟨q, 0, none⟩) 1 1) 1 [s, .int .i64 x, .int .i64 y]
theorem BoxW.cells {w : World} {base q : Nat} {s : Value} {x y : Int} (h : BoxW w base q s x y) : (w.cell? ⟨q, 0, none⟩ = some s ∧ w.cell? ⟨q, 1, none⟩ = some (.int .i64 x) ∧ w.cell? ⟨q, 2, none⟩ = some (.int .i64 y)) ∧ (w.frozen? ⟨q, 0, none⟩ = false ∧ w.frozen? ⟨q, 1, none⟩ = false ∧ w.frozen? ⟨q, 2, none⟩ = false) :=
  ⟨⟨h.cellAt 0 (by decide), h.cellAt 1 (by decide), h.cellAt 2 (by decide)⟩, h.frozenAt 0, h.frozenAt 1, h.frozenAt 2⟩
theorem BoxW.lt {w : World} {base q : Nat} {s : Value} {x y : Int} (h : BoxW w base q s x y) : base ≤ q ∧ q < w.heap.size := World.ownsRow.lt h q rfl
theorem BoxW.new (w : World) (s : Value) (x y : Int) : BoxW (w.alloc (.cells #[s, .int .i64 x, .int .i64 y] 61)) w.heap.size w.heap.size s x y :=
  World.ownsRow_lit (base := w.heap.size) (size := 3) w #[s, .int .i64 x, .int .i64 y] 1 (Nat.le_refl _) (by unfold maxLen; omega) rfl
theorem BoxW.grown {w w' : World} {base q : Nat} {s : Value} {x y : Int} {row : Option Nat} (h : BoxW w base q s x y) (hg : w.grownBy w' row) (hne : some q ≠ row) : BoxW w' base q s x y := World.ownsRow.kept h hg (.inr hne)
theorem BoxW.setX {w : World} {base q : Nat} {s : Value} {x y : Int} (h : BoxW w base q s x y) (t : Int) : BoxW (w.setCell ⟨q, 1, none⟩ (.int .i64 t)) base q s t y ∧ w.grownBy (w.setCell ⟨q, 1, none⟩ (.int .i64 t)) (some q) := World.ownsRow.stored h 1 (.int .i64 t)
theorem BoxW.setY {w : World} {base q : Nat} {s : Value} {x y : Int} (h : BoxW w base q s x y) (t : Int) : BoxW (w.setCell ⟨q, 2, none⟩ (.int .i64 t)) base q s x t ∧ w.grownBy (w.setCell ⟨q, 2, none⟩ (.int .i64 t)) (some q) := World.ownsRow.stored h 2 (.int .i64 t)
theorem BoxW.put {w : World} {base q : Nat} {s : Value} {x y : Int} (h : BoxW w base q s x y) (s' : Value) (x' y' : Int) :
    BoxW (((w.setCell ⟨q, 0, none⟩ s').setCell ⟨q, 1, none⟩ (.int .i64 x')).setCell ⟨q, 2, none⟩ (.int .i64 y')) base q s' x' y' ∧ w.grownBy (((w.setCell ⟨q, 0, none⟩ s').setCell ⟨q, 1, none⟩ (.int .i64 x')).setCell ⟨q, 2, none⟩ (.int .i64 y')) (some q) := by
  have h1 : BoxW (w.setCell ⟨q, 0, none⟩ s') base q s' x y ∧ w.grownBy (w.setCell ⟨q, 0, none⟩ s') (some q) := World.ownsRow.stored h 0 s'
  have h2 := h1.1.setX x'
  have h3 := h2.1.setY y'
  exact ⟨h3.1, grownBy_trans (grownBy_trans h1.2 h2.2) h3.2⟩

set_option maxRecDepth 100000 in
set_option maxHeartbeats 4000000 in
theorem l08New_any (v : Value) (m b base c0 tubes : Nat) (w : World) (hv : BI w v m) (hs : SrcAt w base b v c0) (hc0 : c0 ≤ 900000) (hne : 0 < m → v.ownBlock ≠ some b) (htb1 : 1 ≤ tubes) (htb2 : tubes ≤ 1000) :
    Calls Tryz.prog 25 #[.pointer (some ⟨b, 0, none⟩), .int .i64 tubes] w fun e w' => ∃ (s : Value) (way : List Int) (ready due : Int), e = .returned (.agg #[s, .int .i64 ready, .int .i64 due]) ∧ OI 2 w' w.heap.size s way ∧ (∀ x ∈ way, 0 ≤ x ∧ x < (tubes : Int)) ∧ 1 ≤ way.length ∧ way.length ≤ 4 ∧
      0 ≤ ready ∧ ready ≤ 19 ∧ 0 ≤ due ∧ due ≤ 100 ∧ w.grownBy w' (some b) ∧ SrcAt w' base b v (c0 + 24) := by
  have HV := Lib.hid hv
  have hblt := hs.lt.2
  have HR := Lib.hid (BoxW.new w (.slice none 0 0) 0 0)
  have hb0 := (Below.refl w.heap.size w).alloc (Nat.le_refl _) (.cells #[.slice none 0 0, .int .i64 0, .int .i64 0] 61)
  have C1 := Lib.hid (l06DrawWay_any v m b base c0 tubes _ (hv.below hb0) (hs.below hb0) (by omega) hne htb1 htb2)
  have HG0 := Lib.hid (grown_below (row := some b) hb0)
  have hsz0 : w.heap.size < (w.alloc (.cells #[.slice none 0 0, .int .i64 0, .int .i64 0] 61)).heap.size := by simp
  clear hv hs hb0
  go_enter Tryz.func25, Tryz.ntmps25
  go_wp2_with fail
  generalize w.alloc (.cells #[.slice none 0 0, .int .i64 0, .int .i64 0] 61) = w0 at HR C1 HG0 hsz0 ⊢
  refine C1.out.mono ?_
  rintro e w1 ⟨v1, way, rfl, ho1, hw1, hl1, hl2, hg1, hs1⟩
  obtain ⟨a1, k1, hsh⟩ := ho1.ri.shape
  subst hsh
  have hne0 : some w.heap.size ≠ some b := fun e => by have := Option.some.inj e; omega
  have HR1 := Lib.hid (HR.out.grown hg1 hne0)
  have hbx := (Below.refl w1.heap.size w1).alloc (Nat.le_refl _) (.cells #[.slice a1 way.length k1, .int .i64 0, .int .i64 0] 61)
  have HX := Lib.hid (BoxW.new w1 (.slice a1 way.length k1) 0 0)
  have HGX := Lib.hid (grown_below (row := some b) hbx)
  have HR2 := Lib.hid (HR1.out.grown HGX.out hne0)
  have HG1 := Lib.hid (grownBy_trans HG0.out (grownBy_trans hg1 HGX.out))
  have HOL := Lib.hid (fun k hk => (ho1.lt k hk).2)
  have HO1 := Lib.hid (ho1.below hbx)
  have HW1 := Lib.hid hw1
  have HS1 := Lib.hid (hs1.below hbx)
  have hsz1 := hg1.size
  have C2 := Lib.hid (pick_any v m b base (c0 + 20) 20 _ (HV.out.grown HG1.out hne) HS1.out (by omega) hne)
  clear ho1 hw1 hg1 hs1 hbx
  go_wp2_with fail
  generalize w1.alloc (.cells #[.slice a1 way.length k1, .int .i64 0, .int .i64 0] 61) = w2 at HX HGX HR2 HG1 HO1 HS1 C2 ⊢
  refine C2.out.mono ?_
  rintro e w3 ⟨r, rfl, r0, _, r1, _, hs3, hg3⟩
  have r19 : r < 20 := r1 (by omega)
  have hneX : some w1.heap.size ≠ some b := fun e => by have := Option.some.inj e; omega
  have HX3 := Lib.hid (HX.out.grown hg3 hneX)
  have HR3 := Lib.hid (HR2.out.grown hg3 hne0)
  have hneO : ∀ k, (Value.slice a1 way.length k1).ownBlock = some k → k ≠ b := fun k hk e => by
    have := (HO1.out.lt k hk).1
    omega
  have HO3 := Lib.hid (HO1.out.grown hg3 (.inr (fun e => hneO b e rfl)))
  have HG3 := Lib.hid (grownBy_trans HG1.out hg3)
  obtain ⟨hx4, hgx4⟩ := HX3.out.setX r
  have HX4 := Lib.hid hx4
  have hsz3 := Nat.le_trans HGX.out.size hg3.size
  have HR4 := Lib.hid (HR3.out.grown hgx4 (fun e => by have := Option.some.inj e; omega))
  have HS4 := Lib.hid (hs3.grown hgx4 (fun e => hneX e.symm))
  have HO4 := Lib.hid (HO3.out.grown hgx4 (.inr (fun e => Nat.lt_irrefl _ (HOL.out _ e))))
  have HG4 := Lib.hid (grown_chain HG3.out hgx4 (fun q e => by
    have := Option.some.inj e
    have := HG0.out.size
    omega))
  obtain ⟨⟨c0', c1', c2'⟩, f0, f1, f2⟩ := HX3.out.cells
  have hsz4 := hgx4.size
  clear hs3 hg3 r1 hx4 hgx4
  go_wp2_with fail
  generalize w3.setCell ⟨w1.heap.size, 1, none⟩ (.int .i64 r) = w4 at HX4 HR4 HS4 HO4 HG4 hsz4 ⊢
  clear c0' c1' c2' f0 f1 f2
  obtain ⟨⟨d0, d1, d2⟩, g0, g1, g2⟩ := HX4.out.cells
  have hd := (Below.refl w4.heap.size w4).drew
  have C3 := Lib.hid (pick_any v m b base (c0 + 20 + 2) 60 w4.drew ((HV.out.grown HG4.out hne).below hd) (HS4.out.below hd) (by omega) hne)
  have HD := Lib.hid hd
  clear hd
  go_region_held3 (fun w' => w'.cell? ⟨w1.heap.size, 1, none⟩ = some (.int .i64 r))
    (first
      | go_keep
      | assumption)
    (first
      | (go_simp
         go_at_call 24
         with_reducible refine C3.out.mono ?_
         rintro e w5 ⟨z, rfl, z0, _, z1, _, hs5, hg5⟩
         have hz : z < 60 := z1 (by omega)
         have HG5 := Lib.hid (grownBy_trans (grown_below (row := some b) HD.out) hg5)
         have HS5 := Lib.hid hs5
         have HX5 := Lib.hid (HX4.out.grown HG5.out hneX)
         obtain ⟨⟨e0, e1, e2⟩, h0, h1, h2⟩ := HX5.out.cells
         obtain ⟨hy1, hy2⟩ := HX5.out.setY (r + z)
         have y1 := hy1.cells.1.2.1
         have HXF := Lib.hid hy1
         have HGF := Lib.hid hy2
         have hwz : IntKind.i64.wrap (r + z) = r + z := IntWalk.i64_in _ (by omega)
         clear hs5 hg5 z1 hy1 hy2))
  have hneXR : w.heap.size ≠ w1.heap.size := by have := hsz1; omega
  have HR5 := Lib.hid ((HR4.out.grown HG5.out hne0).grown HGF.out (fun e => hneXR (Option.some.inj e)))
  have HO5 := Lib.hid ((HO4.out.grown HG5.out (.inr (fun e => hneO b e rfl))).grown HGF.out (.inr (fun e => Nat.lt_irrefl _ (HOL.out _ e))))
  have HSF := Lib.hid (HS5.out.grown HGF.out (fun e => hneX e.symm))
  have HG6 := Lib.hid (grown_chain (grownBy_trans HG4.out HG5.out) HGF.out (fun q e => by
    have := Option.some.inj e
    have := HG0.out.size
    omega))
  clear e0 e1 e2 h0 h1 h2 y1 d0 d1 d2 g0 g1 g2
  generalize w5.setCell ⟨w1.heap.size, 2, none⟩ (.int .i64 (r + z)) = wF at HXF HGF HR5 HO5 HSF HG6 ⊢
  obtain ⟨⟨x0, x1, x2⟩, _, _, _⟩ := HXF.out.cells
  obtain ⟨⟨u0, u1, u2⟩, t0, t1, t2⟩ := HR5.out.cells
  obtain ⟨hP, hG⟩ := HR5.out.put (.slice a1 way.length k1) r (r + z)
  have HP := Lib.hid hP
  have HOE := Lib.hid (HO5.out.grown hG (.inr (fun e => by
    have := (HO5.out.lt _ e).1
    omega)))
  have HSE := Lib.hid (HSF.out.grown hG (fun e => hne0 e.symm))
  have HGE := Lib.hid (grown_chain HG6.out hG (fun q e => Nat.le_of_eq (Option.some.inj e)))
  clear hP hG
  go_wp2_with fail
  generalize ((wF.setCell ⟨w.heap.size, 0, none⟩ (.slice a1 way.length k1)).setCell ⟨w.heap.size, 1, none⟩ (.int .i64 r)).setCell ⟨w.heap.size, 2, none⟩ (.int .i64 (r + z)) = wE at HP HOE HSE HGE ⊢
  clear x0 x1 x2 u0 u1 u2 t0 t1 t2
  obtain ⟨⟨x0, x1, x2⟩, _, _, _⟩ := HP.out.cells
  exact bodyPost_ret (v := .agg #[.slice a1 way.length k1, .int .i64 r, .int .i64 (r + z)]) (by simp [results, Tryz.results25, go_sem, *]) rfl
    ⟨_, way, r, r + z, rfl, HOE.out.mono (by have := hsz0; omega), HW1.out, hl1, hl2, r0, by omega, by omega, by omega, HGE.out, HSE.out.more (by omega)⟩

end Go.Proofs.YthlpbeohlhhblaaGreat
namespace Go.Proofs.YthlpbeohlhhblaaGreat
open Go.RowKit

set_option maxRecDepth 100000 in
theorem a2Times_any (v : Value) (m : Nat) (w : World) (hv : BI w v m) :
    Calls Tryz.prog 5 #[v] w fun e w' => ∃ v' xs, e = .returned v' ∧ RI w' v' xs ∧ okTimes xs = true ∧ Below w.heap.size w w' := by
  have HV := Lib.hid hv
  clear hv
  go_enter Tryz.func5, Tryz.ntmps5
  go_wp2_with fail
  refine (from_any v m _ HV.out).mono ?_
  rintro e w1 ⟨rfl, hs1, hb1⟩
  have HB1 := Lib.hid hb1
  have C := Lib.hid (l06DrawTimes_any v m w.heap.size w.heap.size 0 _ (HV.out.below hb1) hs1 (by omega) (fun hp e => by have := HV.out.own_lt hp e; omega))
  clear hs1 hb1
  go_wp2_with fail
  refine C.out.mono ?_
  rintro e w2 ⟨v2, xs, rfl, ho, hx, hl1, hl2, hg, _⟩
  have HO := Lib.hid ho.ri
  have HG := Lib.hid (bgrown HB1.out hg (fun q hq => Nat.le_of_eq (Option.some.inj hq)))
  have HK := Lib.hid (show okTimes xs = true by
    unfold okTimes inB
    rw [Bool.and_eq_true, List.all_eq_true]
    refine ⟨by simp; omega, fun x h => ?_⟩
    have := hx x h
    simp; omega)
  clear ho hx hg
  go_wp2_with fail
  go_ret
  exact ⟨_, xs, rfl, HO.out, HK.out, HG.out⟩

theorem infoWish : (Tryz.prog.info? 61).map (fun i => (i.zero, i.size, i.bytes)) = some (some (.agg #[.slice none 0 0, .int .i64 0, .int .i64 0]), 3, 40) := by kernel_rfl

/-- Each way that lies in the cells rs has its own block, which is there, and is neither v's nor b. -/
def SpreadW (w : World) (rs : List (Value × Int × Int)) (v : Value) (b : Nat) : Prop := ∀ i q, i < rs.length → (rs.getD i (vz, 0, 0)).1.ownBlock = some q → q < w.heap.size ∧ v.ownBlock ≠ some q ∧ q ≠ b
theorem SpreadW.more {w w' : World} {rs : List (Value × Int × Int)} {v : Value} {b : Nat} (h : SpreadW w rs v b) (hs : w.heap.size ≤ w'.heap.size) : SpreadW w' rs v b := fun i q hi hq => ⟨Nat.lt_of_lt_of_le (h i q hi hq).1 hs, (h i q hi hq).2⟩
theorem WishRows.grownV {w w' : World} {rs : List (Value × Int × Int)} {xs : List WishP} {v : Value} {b : Nat} (h : WishRows w rs xs) (hs : SpreadW w rs v b) (hg : w.grownBy w' v.ownBlock) : WishRows w' rs xs :=
  ⟨h.1, fun i hi => ⟨(h.2 i hi).1.grown hg fun k hk e => (hs i k (by rw [h.1]; exact hi) e).2.1 hk, (h.2 i hi).2⟩⟩
theorem WishRows.grownB {w w' : World} {rs : List (Value × Int × Int)} {xs : List WishP} {v : Value} {b : Nat} (h : WishRows w rs xs) (hs : SpreadW w rs v b) (hg : w.grownBy w' (some b)) : WishRows w' rs xs :=
  ⟨h.1, fun i hi => ⟨(h.2 i hi).1.grown hg fun k hk e => (hs i k (by rw [h.1]; exact hi) e).2.2 (Option.some.inj hk).symm, (h.2 i hi).2⟩⟩
theorem SpreadW.snoc {w w' : World} {rs : List (Value × Int × Int)} {v v' s : Value} {y : Int × Int} {b : Nat} (h : SpreadW w rs v b) (hw : w.heap.size ≤ w'.heap.size) (hn : ∀ k, v'.ownBlock = some k → v.ownBlock = some k ∨ w.heap.size ≤ k) (hs : ∀ q, s.ownBlock = some q → q < w.heap.size ∧ v.ownBlock ≠ some q ∧ q ≠ b) : SpreadW w' (rs ++ [(s, y)]) v' b := by
  have hx : ∀ q, q < w.heap.size → v.ownBlock ≠ some q → v'.ownBlock ≠ some q := fun q hb hne e => by
    rcases hn q e with h | h
    · exact hne h
    · omega
  intro i q hi hb
  rw [getD_snoc] at hb
  simp only [List.length_append, List.length_singleton] at hi
  by_cases e : i < rs.length
  · rw [if_pos e] at hb
    have := h i q e hb
    exact ⟨by omega, hx q this.1 this.2.1, this.2.2⟩
  · rw [if_neg e, if_pos (by omega)] at hb
    have := hs q hb
    exact ⟨by omega, hx q this.1 this.2.1, this.2.2⟩

set_option maxRecDepth 100000 in
set_option maxHeartbeats 4000000 in
theorem a2Wishes_any (v : Value) (m : Nat) (times : List Int) (tv : Value) (w : World) (hv : BI w v m) (ht : RI w tv times) (hok : okTimes times = true) :
    Calls Tryz.prog 6 #[v, tv] w fun e w' => ∃ v' xs, e = .returned v' ∧ WishI w' v' xs ∧ okWishes times xs = true ∧ Below w.heap.size w w' := by
  obtain ⟨a, cap, rfl⟩ := ht.shape
  have htl : 1 ≤ times.length ∧ times.length ≤ 24 := by
    unfold okTimes inB at hok
    simp only [Bool.and_eq_true, decide_eq_true_eq] at hok
    omega
  obtain ⟨htl1, htl2⟩ := htl
  have HV := Lib.hid hv
  have HOK := Lib.hid hok
  clear hv ht hok
  obtain ⟨i0, hi, iz0, iz1, iz2⟩ := info_parts infoWish
  have HI := Lib.hid hi
  clear hi
  go_enter Tryz.func6, Tryz.ntmps6
  go_wp2_with fail
  refine (from_any v m _ HV.out).mono ?_
  rintro e w1 ⟨rfl, hs1, hb1⟩
  have hne : 0 < m → v.ownBlock ≠ some w.heap.size := fun hp e => by have := HV.out.own_lt hp e; omega
  obtain ⟨b, hbd⟩ : ∃ b, b = w.heap.size := ⟨_, rfl⟩
  obtain ⟨base, hbs⟩ : ∃ base, base = w.heap.size := ⟨_, rfl⟩
  have hs1' : SrcAt w1 base b v 0 := by rw [hbd, hbs]; exact hs1
  rw [← hbd] at hne
  have hblt := hs1'.lt.2
  have HB1 := Lib.hid hb1
  have HBD := Lib.hid hbd
  have hA := (Below.refl w1.heap.size w1).alloc (Nat.le_refl _) (.cells #[] 61)
  have HO1 := Lib.hid (OV.lit0 (E := WV) 61 w1 w1.heap.size (Nat.le_refl _))
  have HS2 := Lib.hid (hs1'.below hA)
  have HV1 := Lib.hid (HV.out.below hb1)
  have HG2 := Lib.hid (grown_below (row := some b) hA)
  rw [← hbd]
  clear hs1 hs1' hb1 hbd hbs hA
  go_wp2_with fail
  refine (pick_any v m b base 0 5 _ (HV1.out.grown HG2.out hne) HS2.out (by omega) hne).mono ?_
  rintro e w3 ⟨z, rfl, z0, _, z1, _, hs3, hg3⟩
  have z9 : z < 5 := z1 (by omega)
  obtain ⟨Y, rfl⟩ : ∃ Y : Nat, z = Y := ⟨z.toNat, by omega⟩
  have HG3 := Lib.hid (grownBy_trans HG2.out hg3)
  have HO3 := Lib.hid (HO1.out.grown hg3 (.inr (fun e => Nat.ne_of_gt hblt (Option.some.inj e))))
  have HS3 := Lib.hid hs3
  clear z1 hs3 hg3 HS2 HO1
  go_wp2_with fail
  go_loopw [6, 7] (fun o i wr => ∃ (k : Nat) (u : Value) (rs : List (Value × Int × Int)) (xs : List WishP), k ≤ Y ∧ u = o ∧ i = .int .i64 k ∧ Hid (OV WV 61 wr w1.heap.size u rs) ∧ Hid (WishRows wr rs xs) ∧ Hid (SpreadW wr rs u b) ∧ Hid ((∀ x ∈ xs, okWish times x = true) ∧ xs.length + k = Y) ∧ Hid (w1.grownBy wr (some b)) ∧ Hid (SrcAt wr base b v (2 + 24 * (Y - k)))) (fun _ i _ => (intOf i).toNat)
  case atStart => exact ⟨Y, _, [], [], Nat.le_refl _, rfl, rfl, HO3, Lib.hid (WishRows.nil _), Lib.hid (fun i q hi => absurd hi (Nat.not_lt_zero _)), Lib.hid ⟨by simp, by simp⟩, HG3, Lib.hid (HS3.out.more (by omega))⟩
  case round =>
    obtain ⟨k, u, rs, xs, hk, rfl, rfl, HO, HWR, HSP, HX, HG, HSR⟩ := hrel
    rename World => wo
    by_cases hlt : 0 < k
    · have hd : decide ((0 : Int) < (k : Int)) = true := decide_eq_true (by omega)
      have hd2 : decide (0 < k) = true := decide_eq_true hlt
      obtain ⟨q, hq⟩ : ∃ q, q = k - 1 := ⟨_, rfl⟩
      have HQ := Lib.hid hq
      have hwq : IntKind.i64.wrap ((k : Int) - 1) = (q : Int) := by rw [IntWalk.i64_in _ (by omega)]; omega
      clear hq
      have hrl : rs.length ≤ 5 := by rw [HWR.out.1]; have := HX.out.2; omega
      have C2 := Lib.hid (l08New_any v m b base (2 + 24 * (Y - k)) times.length wo (HV1.out.grown HG.out hne) HSR.out (by omega) hne htl1 (by omega))
      have hne1 : u.ownBlock ≠ some b := fun e => by
        have := (HO.out.lt b e).1
        omega
      go_wp2_with fail
      refine C2.out.mono ?_
      rintro e w4 ⟨s, way, ready, due, rfl, ho4, hw4, l1, l2, r1, r2, d1, d2, hg4, hs4⟩
      obtain ⟨a4, c4, hsh⟩ := ho4.ri.shape
      subst hsh
      have HOK4 := Lib.hid (show okWish times (way, ready, due) = true by
        unfold okWish okWay inB
        simp only [Bool.and_eq_true, decide_eq_true_eq, List.all_eq_true]
        refine ⟨⟨⟨⟨by omega, by omega⟩, fun x hx => ?_⟩, by omega, by omega⟩, by omega, by omega⟩
        have := hw4 x hx
        omega)
      have hgw : wo.heap.size ≤ w4.heap.size := hg4.size
      have HG4 := Lib.hid (grownBy_trans HG.out hg4)
      have HO4 := Lib.hid (HO.out.grown hg4 (.inr hne1))
      have HW4 := Lib.hid (HWR.out.grownB HSP.out hg4)
      have HSP4 := Lib.hid (HSP.out.more hgw)
      have HS4 := Lib.hid hs4
      have HC4 := Lib.hid ho4
      have hsz := HG4.out.size
      have hbw : b < wo.heap.size := Nat.lt_of_lt_of_le hblt HG.out.size
      have hown : ∀ z, (Value.slice a4 way.length c4).ownBlock = some z → z < w4.heap.size ∧ u.ownBlock ≠ some z ∧ z ≠ b := fun z hz => by
        have p1 := HC4.out.lt z hz
        refine ⟨p1.2, fun e => ?_, by omega⟩
        have := (HO.out.lt z e).2
        omega
      have HOW := Lib.hid hown
      have H1S := Lib.hid (show ∀ y ∈ WV.f ((.slice a4 way.length c4 : Value), ready, due), y.oneCell' = true from fun y hy => by
        have hy : y ∈ [(.slice a4 way.length c4 : Value), .int .i64 ready, .int .i64 due] := hy
        simp at hy
        rcases hy with rfl | rfl | rfl <;> rfl)
      clear hs4 hg4 ho4 hw4 hown
      go_wp2_with (
        at_builtin
        refine wpList_appV (E := WV) rfl _ _ 26 rfl 61 _ i0 _ Tryz.underlying26 HI.out iz0 rfl iz1 40 iz2 (by decide) w1.heap.size _ _ rfl HO4.out (.slice a4 way.length c4, ready, due) _ rfl _ (by simp) rfl H1S.out (by omega) hsz ?_
        intro v9 w9 h1 h2 h3
        have H9 := Lib.hid h1
        have HW9 := Lib.hid (WishRows.snoc (HW4.out.grownV HSP4.out h2) (x := (way, ready, due)) (HC4.out.ri.grown h2 fun z hz e => (HOW.out z e).2.1 hz))
        have HSP9 := Lib.hid (HSP4.out.snoc (y := (ready, due)) h2.size h3 HOW.out)
        have HG9 := Lib.hid (grown_chain HG4.out h2 (fun q hq => (HO4.out.lt q hq).1))
        have HS9 := Lib.hid (HS4.out.grown h2 (fun e => hne1 e.symm))
        clear h1 h2 h3)
      go_roundw
      case rel =>
        have hq := HQ.out
        exact ⟨q, _, _, xs ++ [(way, ready, due)], by omega, rfl, rfl, H9, HW9, HSP9, Lib.hid ⟨fun x hx => by
          rcases List.mem_append.1 hx with hx | hx
          · exact HX.out.1 x hx
          · rw [List.mem_singleton.1 hx]; exact HOK4.out, by have := HX.out.2; simp; omega⟩, HG9, Lib.hid (HS9.out.more (by omega))⟩
      case measure =>
        have := HQ.out
        simp [intOf]; omega
    · have hd : decide ((0 : Int) < (k : Int)) = false := decide_eq_false (by omega)
      have hd2 : decide (0 < k) = false := decide_eq_false hlt
      go_wp2
      go_ret
      have hq : ∀ q, some b = some q → w.heap.size ≤ q := fun q e => by have := Option.some.inj e; have := HBD.out; omega
      refine ⟨_, xs, rfl, ⟨rs, HO.out.si, HWR.out⟩, ?_, bgrown HB1.out HG.out hq⟩
      unfold okWishes
      rw [HOK.out, Bool.true_and, Bool.and_eq_true, List.all_eq_true]
      exact ⟨decide_eq_true (by have := HX.out.2; omega), HX.out.1⟩

end Go.Proofs.YthlpbeohlhhblaaGreat
