/-
  A part of a list of int64.
-/
import Derived.Test.YtpgnndpjlcihiaaDoorIn
namespace Go.Proofs.YtpgnndpjlcihiaaDoor
open Go.RowKit

theorem take_drop_getD (xs : List Int) (lo hi j : Nat) (h : j < hi - lo) : ((xs.take hi).drop lo).getD j 0 = xs.getD (lo + j) 0 := by
  simp only [List.getD, List.getElem?_drop, List.getElem?_take]
  rw [if_pos (by omega)]

/-- xs[lo:hi] -/
theorem cutI {w : World} {a : Option Addr} {n cap : Nat} {xs : List Int} (h : RI w (.slice a n cap) xs) (lo hi : Nat) (h1 : lo ≤ hi) (h2 : hi ≤ xs.length) :
    ∃ v', RI w v' ((xs.take hi).drop lo) ∧ ∀ W (lo' hi' : Int), lo' = lo → hi' = hi → (Instr.slice 33 (.slice a n cap) (some (.int .i64 lo')) (some (.int .i64 hi')) none).run Tryd.prog W = .ok v' W := by
  obtain ⟨⟨a', cap', e, hc1, hc2, h3⟩, hg⟩ := h
  simp only [Value.slice.injEq] at e
  obtain ⟨rfl, rfl, rfl⟩ := e
  have hlen : ((xs.take hi).drop lo).length = hi - lo := by simp; omega
  refine ⟨sliced a lo hi cap 1, ⟨⟨_, cap - lo, by rw [hlen]; rfl, by rw [hlen]; omega, by omega, ?_⟩, fun x hx => hg x (List.mem_of_mem_take (List.mem_of_mem_drop hx))⟩, ?_⟩
  · by_cases h0 : lo = hi
    · left; subst h0; exact List.eq_nil_of_length_eq_zero (by rw [hlen]; omega)
    · right
      rcases h3 with h3 | ⟨b, off, rfl, hb, hcell⟩
      · simp [h3] at h2; omega
      · rw [if_neg (by omega)]
        refine ⟨b, off + lo, ?_, hb, fun j hj => ?_⟩
        · simp only [Option.map_some, Nat.mul_one, Option.some.injEq]
          unfold Addr.add
          split
          · subst_vars; rfl
          · rfl
        · rw [hlen] at hj
          rw [Nat.add_assoc, hcell (lo + j) (by omega), take_drop_getD _ _ _ _ hj]
  · intro W lo' hi' e1 e2
    subst e1 e2
    rw [run_slice_lh W 33 a xs.length cap (by kernel_rfl) .i64 .i64 (lo : Int) (hi : Int) (by omega) (by omega) (by omega)]
    rw [show Tryd.prog.elem 33 = 2 from by kernel_rfl, Tryd.sizeOf2]
    simp [Result.andThen]

/-- xs[:hi] -/
theorem cutToI {w : World} {a : Option Addr} {n cap : Nat} {xs : List Int} (h : RI w (.slice a n cap) xs) (hi : Nat) (h2 : hi ≤ xs.length) :
    ∃ v', RI w v' (xs.take hi) ∧ ∀ W (hi' : Int), hi' = hi → (Instr.slice 33 (.slice a n cap) none (some (.int .i64 hi')) none).run Tryd.prog W = .ok v' W := by
  obtain ⟨v', h1, h3⟩ := cutI h 0 hi (Nat.zero_le _) h2
  refine ⟨v', by simpa using h1, fun W hi' e => ?_⟩
  obtain ⟨⟨a', cap', e', hc1, hc2, _⟩, hg⟩ := h
  simp only [Value.slice.injEq] at e'
  obtain ⟨rfl, rfl, rfl⟩ := e'
  rw [← h3 W 0 hi' rfl e]
  subst e
  rw [run_slice_lh W 33 a xs.length cap (by kernel_rfl) .i64 .i64 0 (hi : Int) (by omega) (by omega) (by omega), run_slice_h W 33 a xs.length cap (by kernel_rfl) .i64 (hi : Int) (by omega) (by omega)]
  rfl

end Go.Proofs.YtpgnndpjlcihiaaDoor
