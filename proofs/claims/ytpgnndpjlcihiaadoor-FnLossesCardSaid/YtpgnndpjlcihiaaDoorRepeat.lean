/-
  The library's Repeat at a list of one number.
-/
import Derived.Test.YtpgnndpjlcihiaaDoorIn
import Derived.Laws.CopyOwn
import Derived.Deep.RegionLaw
import Derived.IntWalk
namespace Go.Proofs.YtpgnndpjlcihiaaDoor
open Go.RowKit

theorem mul64_any (c : Nat) (h2 : 2 ≤ c) (h : c ≤ 10) (w : World) : Calls Tryd.prog 77 #[.int .u64 1, .int .u64 c] w fun e w' => e = .returned (.tuple #[.int .u64 0, .int .u64 c]) ∧ w = w' := by
  rcases (by omega : c = 2 ∨ c = 3 ∨ c = 4 ∨ c = 5 ∨ c = 6 ∨ c = 7 ∨ c = 8 ∨ c = 9 ∨ c = 10) with rfl | rfl | rfl | rfl | rfl | rfl | rfl | rfl | rfl
  all_goals
    clear h h2
    go_enter Tryd.func77, Tryd.ntmps77
    go_wp2
    go_ret2
    exact ⟨rfl, rfl⟩

theorem mul_any (c : Nat) (h2 : 2 ≤ c) (h : c ≤ 10) (w : World) : Calls Tryd.prog 70 #[.int .u64 1, .int .u64 c] w fun e w' => e = .returned (.tuple #[.int .u64 0, .int .u64 c]) ∧ w = w' := by
  go_enter Tryd.func70, Tryd.ntmps70
  go_wp2_with (go_at_call 77; refine (mul64_any c h2 h _).mono ?_; rintro e w' ⟨rfl, rfl⟩)
  go_ret2
  exact ⟨rfl, rfl⟩

theorem splice_fill (x : Value) (z : Value) (n k m : Nat) (h : k + m ≤ n) : splice (List.replicate k x ++ List.replicate (n - k) z) k (List.replicate m x) = List.replicate (k + m) x ++ List.replicate (n - (k + m)) z := by
  unfold splice
  rw [List.take_append_of_le_length (by simp), List.take_of_length_le (by simp), List.length_replicate, List.drop_append, List.drop_eq_nil_of_le (by simp), List.length_replicate, List.nil_append, List.drop_replicate, ← List.append_assoc, List.replicate_append_replicate]
  congr 2
  omega

theorem made_row {e : TypeId} {w : World} {base G n : Nat} {x : Value} (h : w.ownsRow base e 1 (.slice (some ⟨G, 0, none⟩) n n) n (madeCells (Value.int .i64 0).cells (n * 1)).toList) :
    Hid (w.heap[G]? = some (.cells (List.replicate 0 x ++ List.replicate (n - 0) (Value.int .i64 0)).toArray e (0, 0))) := by
  rcases h.2 with ⟨h0, _⟩ | ⟨g, cap, cur, h0, hb, hg, hn, hcm, hcs, ht⟩
  · simp at h0
  · simp only [Value.slice.injEq, Option.some.injEq, Addr.mk.injEq, and_true, true_and] at h0
    obtain ⟨rfl, rfl⟩ := h0
    have e1 : cur.toList = (madeCells (Value.int .i64 0).cells (n * 1)).toList := by rw [← ht, List.take_of_length_le (by simp [hcs])]
    simp only [Value.cells, Nat.mul_one, toList_madeCells_one] at e1
    refine Lib.hid ?_
    rw [hg]
    congr 2
    apply Array.ext'
    rw [e1]
    simp
theorem row_own {e : TypeId} {w : World} {base G n : Nat} {x : Int} (hb : base ≤ G) (hm : n ≤ maxLen) (hx : Good x) (h : w.heap[G]? = some (.cells (List.replicate n (Value.int .i64 x)).toArray e (0, 0))) : OI e w base (.slice (some ⟨G, 0, none⟩) n n) (List.replicate n x) := by
  refine ⟨⟨by simp, .inr ⟨G, n, _, by simp, hb, h, by simp, hm, by simp, by simp⟩⟩, fun y hy => ?_⟩
  obtain rfl := List.eq_of_mem_replicate hy
  exact hx

theorem one_cell {w : World} {H : Nat} {x : Int} (h : w.cell? ⟨H, 0, none⟩ = some (.int .i64 x)) : ∀ (j : Nat) (v : Value), (List.replicate 1 (Value.int .i64 x))[j]? = some v → w.cell? ((⟨H, 0, none⟩ : Addr).add j) = some v := by
  intro j v hj
  match j, hj with
  | 0, hj =>
    simp at hj
    subst hj
    simpa [Addr.add] using h
theorem one_cells (m : Nat) (x : Int) : ∀ v ∈ List.replicate m (Value.int .i64 x), v.oneCell' = true := fun v hv => by
  obtain rfl := List.eq_of_mem_replicate hv
  rfl

theorem copy_src {w : World} {H : Nat} {x : Int} {Q : Option Addr} (h : w.cell? ⟨H, 0, none⟩ = some (.int .i64 x)) : Hid (0 < (List.replicate 1 (Value.int .i64 x)).length → Q = Q ∧ ∃ ad, (some ⟨H, 0, none⟩ : Option Addr) = some ad ∧ ∀ (j : Nat) (v : Value), (List.replicate 1 (Value.int .i64 x))[j]? = some v → w.cell? (ad.add j) = some v) :=
  Lib.hid (fun _ => ⟨rfl, _, rfl, one_cell h⟩)

theorem row_cell {e : TypeId} {w : World} {G k m : Nat} {x : Value} {zs : List Value} (h : w.heap[G]? = some (.cells (List.replicate k x ++ zs).toArray e (0, 0))) (hm : m ≤ k) : ∀ (j : Nat) (v : Value), (List.replicate m x)[j]? = some v → w.cell? ((⟨G, 0, none⟩ : Addr).add j) = some v := by
  intro j v hj
  have hjm : j < m := by
    rcases Nat.lt_or_ge j m with h1 | h1
    · exact h1
    · rw [List.getElem?_eq_none (by simpa using h1)] at hj; simp at hj
  have hv : v = x := by
    rw [List.getElem?_replicate, if_pos hjm] at hj
    simpa using hj.symm
  subst hv
  have hp : (⟨G, 0, none⟩ : Addr).add j = ⟨G, j, none⟩ := by
    unfold Addr.add
    split
    · subst_vars; rfl
    · simp
  rw [hp, cell_of_row w G j _ e (0, 0) h]
  simp [List.getElem?_append, show j < k by omega]

set_option maxRecDepth 100000 in
theorem repeat_any (H : Nat) (x : Int) (n : Nat) (h2 : 2 ≤ n) (h : n ≤ 10) (w : World) (hx : Good x) (hc : w.cell? ⟨H, 0, none⟩ = some (.int .i64 x)) (hH : H < w.heap.size) :
    Calls Tryd.prog 61 #[.slice (some ⟨H, 0, none⟩) 1 1, .int .i64 n] w fun e w' => ∃ v', e = .returned v' ∧ OI 2 w' w.heap.size v' (List.replicate n x) ∧ Below w.heap.size w w' := by
  obtain ⟨i0, hi, hz0, hz1, hz2⟩ := info_parts info64
  have hi2 : (Tryd.prog.info? 2).map (·.size) = some 1 := by rw [hi]; simp [hz1]
  have HI := Lib.hid hi
  have HI2 := Lib.hid hi2
  have HC := Lib.hid hc
  have HF1 : Hid ((List.replicate 1 (Value.int .i64 x)).length = Nat.min 1 n) := Lib.hid (by rw [List.length_replicate]; show 1 = min 1 n; omega)
  have HF2 : Hid (0 + (List.replicate 1 (Value.int .i64 x)).length ≤ (List.replicate 0 (Value.int .i64 x) ++ List.replicate (n - 0) (Value.int .i64 0)).length) := Lib.hid (by simp; omega)
  clear hi hc hi2
  go_enter Tryd.func61, Tryd.ntmps61
  go_wp2_with (first | (go_at_call 70; refine (mul_any n h2 h _).mono ?_; rintro e w' ⟨rfl, rfl⟩) | (at_make; refine wpList_make_full _ rfl _ _ 33 rfl w.heap.size 2 i0 (.int .i64 0) 1 Tryd.underlying33 HI.out hz0 hz1 .i64 .i64 _ _ n rfl rfl rfl rfl (by rw [hz2]; omega) (by unfold maxLen; omega) (Nat.le_refl _) ?_; intro w1 hown hgr; have hcell := made_row (x := Value.int .i64 x) hown; have hb1 : Below w.heap.size w w1 := (Below.refl _ _).grown hgr (Nat.le_refl _) (by simp); have hpos := copy_src (Q := some ⟨w.heap.size, 0, none⟩) ((hb1.cell (p := ⟨H, 0, none⟩) hH).trans HC.out)) | (with_reducible refine wpList_copy_splice rfl (.tmp 31) (.tmp 32) 33 33 rfl 2 Tryd.underlying33 HI2.out _ _ _ _ _ _ rfl rfl w.heap.size 0 _ 2 hcell.out (List.replicate 1 (Value.int .i64 x)) HF1.out hpos.out HF2.out (one_cells 1 x) w.heap.size w hb1 (Nat.le_refl _) ?_; intro w2 hg2 hb2))
  have hrow : Hid (w2.heap[w.heap.size]? = some (.cells (List.replicate 1 (Value.int .i64 x) ++ List.replicate (n - 1) (Value.int .i64 0)).toArray 2 (0, 0))) := Lib.hid (by rw [hg2.out, splice_fill _ _ n 0 1 (by omega)])
  clear hg2 hpos hcell hown hgr hb1
  go_loopw [8] (fun i wr => ∃ k : Nat, 1 ≤ k ∧ k ≤ n ∧ i = .int .i64 k ∧ Below w.heap.size w wr ∧ Hid (wr.heap[w.heap.size]? = some (.cells (List.replicate k (Value.int .i64 x) ++ List.replicate (n - k) (Value.int .i64 0)).toArray 2 (0, 0)))) (fun i _ => n - (intOf i).toNat)
  case atStart => exact ⟨1, Nat.le_refl _, by omega, rfl, hb2, hrow⟩
  case round =>
    obtain ⟨k, hk1, hk, rfl, hw, hr⟩ := hrel
    by_cases hlt : k < n
    · obtain ⟨m, hm⟩ : ∃ m, m = min k (n - k) := ⟨_, rfl⟩
      have hm1 : 1 ≤ m ∧ m ≤ k ∧ k + m ≤ n := by omega
      have HR := Lib.hid (show wr.drew.heap[w.heap.size]? = some (.cells (List.replicate k (Value.int .i64 x) ++ List.replicate (n - k) (Value.int .i64 0)).toArray 2 (0, 0)) from hr.out)
      have HN := Lib.hid (show (List.replicate m (Value.int .i64 x)).length = Nat.min k (n - k) by rw [List.length_replicate]; exact hm)
      have HFit := Lib.hid (show k + (List.replicate m (Value.int .i64 x)).length ≤ (List.replicate k (Value.int .i64 x) ++ List.replicate (n - k) (Value.int .i64 0)).length by simp; omega)
      have HSrc := Lib.hid (fun (_ : 0 < (List.replicate m (Value.int .i64 x)).length) => show ∃ ad, (some ⟨w.heap.size, 0, none⟩ : Option Addr) = some ad ∧ ∀ (j : Nat) (v : Value), (List.replicate m (Value.int .i64 x))[j]? = some v → wr.drew.cell? (ad.add j) = some v from ⟨_, rfl, fun j v hj => row_cell HR.out hm1.2.1 j v hj⟩)
      have HBd := Lib.hid (hw.drew)
      have hnk : ¬ n = k := by omega
      have HK1 : (0 : Int) ≤ k := by omega
      have HK2 : (k : Int) ≤ n := by omega
      clear hr
      go_wp2
      go_region_law (refine step_copy_splice rfl (.tmp 41) (.tmp 44) 33 33 rfl 2 Tryd.underlying33 HI2.out (some ⟨w.heap.size, k, none⟩) (some ⟨w.heap.size, 0, none⟩) (n - k) (n - k) k n (by simp [Act.eval, Act.put, hnk]) (by simp [Act.eval, Act.put]) w.heap.size k _ 2 HR.out (List.replicate m (Value.int .i64 x)) HN.out (fun h => ⟨rfl, HSrc.out h⟩) HFit.out (one_cells m x) w.heap.size w HBd.out (Nat.le_refl _) ?_; intro w4 hg4 hb4)
      have HR4 := Lib.hid (show w4.heap[w.heap.size]? = some (.cells (List.replicate (k + m) (Value.int .i64 x) ++ List.replicate (n - (k + m)) (Value.int .i64 0)).toArray 2 (0, 0)) by rw [hg4.out, splice_fill _ _ n k m hm1.2.2])
      obtain ⟨m1, m2, m3⟩ := hm1
      clear hg4 HR HN HFit HSrc HBd
      have hwr : IntKind.i64.wrap ((k : Int) + ((min k (n - k) : Nat) : Int)) = ((k + m : Nat) : Int) := by rw [IntWalk.i64_in _ (by omega)]; omega
      simp [Act.put, go_sem]
      rw [hwr]
      go_roundw
      case rel =>
        refine ⟨_, _, _, _, _, _, _, _, _, _, _, _, _, _, ?_, rfl⟩
        exact ⟨k + m, by omega, by omega, rfl, hb4, HR4⟩
      case measure => simp [intOf]; omega
    · have hkn : k = n := by omega
      subst hkn
      have HO := Lib.hid (row_own (e := 2) (base := w.heap.size) (n := k) (x := x) (Nat.le_refl _) (by unfold maxLen; omega) hx (by have := hr.out; rwa [Nat.sub_self, List.replicate_zero, List.append_nil] at this))
      clear hr
      go_wp2
      go_ret
      exact ⟨_, rfl, HO.out, hw⟩

end Go.Proofs.YtpgnndpjlcihiaaDoor
