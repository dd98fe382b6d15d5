/-
  FirstContrary of the reference and of the program: what each returns.
-/
import Derived.Test.YtejnfngnofilfaaFewest
namespace Go.Proofs.Ytejnfngnofilfaa
open Go.RowKit

def firstC (d : Int) (ts : List (Int × Int)) : Option Nat := (List.range ts.length).find? fun i => clashes d (ts.take (i + 1))
def valContrary (d : Int) (ts : List (Int × Int)) : Int × Int := if okTrials d ts then (match firstC d ts with | some i => ((i : Int), 0) | none => (0, 3)) else (0, 1)
theorem contrary_hit {d : Int} {ts : List (Int × Int)} {k : Nat} (h : okTrials d ts = true) (hk : k < ts.length) (hc : clashes d (ts.take (k + 1)) = true) (hn : ∀ j, j < k → clashes d (ts.take (j + 1)) = false) : valContrary d ts = ((k : Int), 0) := by
  have : firstC d ts = some k := by
    unfold firstC
    rw [List.find?_range_eq_some]
    exact ⟨hc, by simpa using hk, fun j hj => by simp [hn j hj]⟩
  simp [valContrary, h, this]
theorem contrary_miss {d : Int} {ts : List (Int × Int)} (h : okTrials d ts = true) (hn : ∀ j, j < ts.length → clashes d (ts.take (j + 1)) = false) : valContrary d ts = (0, 3) := by
  have : firstC d ts = none := by
    unfold firstC
    rw [List.find?_range_eq_none]
    exact fun j hj => by simp [hn j hj]
  simp [valContrary, h, this]
theorem okTrials_take {d : Int} {ts : List (Int × Int)} (h : okTrials d ts = true) (k : Nat) : okTrials d (ts.take k) = true := by
  simp only [okTrials, Bool.and_eq_true, decide_eq_true_eq, List.all_eq_true] at h ⊢
  refine ⟨⟨h.1.1, fun x hx => h.1.2 x (List.mem_of_mem_take hx)⟩, ?_⟩
  have := h.2
  simp; omega

set_option maxRecDepth 100000 in
theorem implFirstContrary_any (d : Int) (v : Value) (ts : List (Int × Int)) (w : World) (hv : SI P2 w v ts) :
    Calls Try.prog 37 #[.int .i64 d, v] w fun e w' => e = .returned (.tuple #[.int .i64 (valContrary d ts).1, .int .i64 (valContrary d ts).2]) ∧ Below w.heap.size w w' := by
  obtain ⟨a, cap, rfl⟩ := hv.shape
  have hl := hv.len
  have HV := Lib.hid hv
  have C1 := implValidTrials_any d _ ts w hv
  clear hv
  cases h1 : okTrials d ts with
  | false =>
    rw [h1] at C1
    have D1 := Lib.hid C1
    have HE := Lib.hid (show valContrary d ts = (0, 1) by simp [valContrary, h1])
    clear C1 h1
    go_enter Try.func37, Try.ntmps37
    go_wp2_with (go_at_call 29; refine D1.out.mono ?_; rintro e w1 ⟨rfl, hb1⟩)
    go_ret2
    exact ⟨by rw [HE.out]; rfl, hb1⟩
  | true =>
    rw [h1] at C1
    have D1 := Lib.hid C1
    have hd := okTrials_depth h1
    obtain ⟨n, rfl⟩ : ∃ n : Nat, d = n := ⟨d.toNat, by simp [inB] at hd; omega⟩
    have HH := Lib.hid (fun k => contrary_hit (d := n) (ts := ts) (k := k) h1)
    have HM := Lib.hid (contrary_miss (d := n) (ts := ts) h1)
    have C2 := Lib.hid (fun (k : Nat) (hk : k < ts.length) (W : World) (h : SI P2 W (.slice a ts.length cap) ts) => seenBy_any n (.slice a (k + 1) cap) (ts.take (k + 1)) W (h.take (k + 1) (by omega)) (okTrials_take h1 (k + 1)))
    have hcap : ts.length ≤ cap := by
      obtain ⟨⟨a', cap', e, h2, _⟩, _⟩ := HV.out
      simp only [Value.slice.injEq] at e
      omega
    clear C1 h1 hd
    go_enter Try.func37, Try.ntmps37
    go_wp2_with (go_at_call 29; refine D1.out.mono ?_; rintro e w1 ⟨rfl, hb1⟩)
    go_loopw [15] (fun i wr => ∃ k : Nat, k ≤ ts.length ∧ i = .int .i64 k ∧ Below w.heap.size w wr ∧ ∀ j, j < k → clashes n (ts.take (j + 1)) = false) (fun i _ => ts.length - (intOf i).toNat)
    case atStart => exact ⟨0, Nat.zero_le _, rfl, hb1, fun j hj => absurd hj (Nat.not_lt_zero _)⟩
    case round =>
      obtain ⟨k, hk, rfl, hw, hno⟩ := hrel
      have HNO := Lib.hid hno
      clear hno
      by_cases hlt : k < ts.length
      · have C3 := C2.out k hlt wr (HV.out.below hw)
        cases hc : clashes n (ts.take (k + 1)) with
        | true =>
          rw [hc] at C3
          have D3 := Lib.hid C3
          have HE := Lib.hid (HH.out k hlt hc HNO.out)
          clear C3 hc
          go_wp2_with fail
          refine D3.out.mono ?_
          rintro e w3 ⟨u, rfl, _, hb3⟩
          go_wp2_with fail
          go_ret2
          exact ⟨by rw [HE.out]; rfl, bthen hw hb3⟩
        | false =>
          rw [hc] at C3
          have D3 := Lib.hid C3
          have HC := Lib.hid hc
          clear C3 hc
          go_wp2_with fail
          refine D3.out.mono ?_
          rintro e w3 ⟨u, rfl, _, hb3⟩
          go_wp2_with fail
          go_roundw
          case rel =>
            refine ⟨k + 1, by omega, by go_num, bthen hw hb3, fun j hj => ?_⟩
            by_cases e : j = k
            · rw [e]; exact HC.out
            · exact HNO.out j (by omega)
          case measure => simp [intOf]; omega
      · have HE := Lib.hid (HM.out (fun j hj => HNO.out j (by omega)))
        go_wp2_with fail
        go_ret2
        exact ⟨by rw [HE.out]; rfl, hw⟩

set_option maxRecDepth 100000 in
theorem specFirstContrary_any (d : Int) (v : Value) (ts : List (Int × Int)) (w : World) (hv : SI P2 w v ts) :
    Calls Try.prog 45 #[.int .i64 d, v] w fun e w' => e = .returned (.tuple #[.int .i64 (valContrary d ts).1, .int .i64 (valContrary d ts).2]) ∧ Below w.heap.size w w' := by
  obtain ⟨a, cap, rfl⟩ := hv.shape
  have hl := hv.len
  have HV := Lib.hid hv
  have C1 := l18Trials_any d _ ts w hv
  clear hv
  cases h1 : okTrials d ts with
  | false =>
    rw [h1] at C1
    have D1 := Lib.hid C1
    have HE := Lib.hid (show valContrary d ts = (0, 1) by simp [valContrary, h1])
    clear C1 h1
    go_enter Try.func45, Try.ntmps45
    go_wp2_with (go_at_call 68; refine D1.out.mono ?_; rintro e w1 ⟨rfl, hb1⟩)
    go_ret2
    exact ⟨by rw [HE.out]; rfl, hb1⟩
  | true =>
    rw [h1] at C1
    have D1 := Lib.hid C1
    have hd := okTrials_depth h1
    obtain ⟨n, rfl⟩ : ∃ n : Nat, d = n := ⟨d.toNat, by simp [inB] at hd; omega⟩
    have HH := Lib.hid (fun k => contrary_hit (d := n) (ts := ts) (k := k) h1)
    have HM := Lib.hid (contrary_miss (d := n) (ts := ts) h1)
    have C2 := Lib.hid (fun (k : Nat) (hk : k < ts.length) (W : World) (h : SI P2 W (.slice a ts.length cap) ts) => l18Fewest_any n (.slice a (k + 1) cap) (ts.take (k + 1)) W (h.take (k + 1) (by omega)) (okTrials_take h1 (k + 1)))
    have hcap : ts.length ≤ cap := by
      obtain ⟨⟨a', cap', e, h2, _⟩, _⟩ := HV.out
      simp only [Value.slice.injEq] at e
      omega
    clear C1 h1 hd
    go_enter Try.func45, Try.ntmps45
    go_wp2_with (go_at_call 68; refine D1.out.mono ?_; rintro e w1 ⟨rfl, hb1⟩)
    go_loopw [6] (fun i wr => ∃ k : Nat, k ≤ ts.length ∧ i = .int .i64 k ∧ Below w.heap.size w wr ∧ ∀ j, j < k → clashes n (ts.take (j + 1)) = false) (fun i _ => ts.length - (intOf i).toNat)
    case atStart => exact ⟨0, Nat.zero_le _, rfl, hb1, fun j hj => absurd hj (Nat.not_lt_zero _)⟩
    case round =>
      obtain ⟨k, hk, rfl, hw, hno⟩ := hrel
      have HNO := Lib.hid hno
      clear hno
      by_cases hlt : k < ts.length
      · have C3 := C2.out k hlt wr (HV.out.below hw)
        cases hc : clashes n (ts.take (k + 1)) with
        | true =>
          rw [hc] at C3
          have D3 := Lib.hid C3
          have HE := Lib.hid (HH.out k hlt hc HNO.out)
          clear C3 hc
          go_wp2_with fail
          refine D3.out.mono ?_
          rintro e w3 ⟨u, rfl, _, hb3⟩
          go_wp2_with fail
          go_ret2
          exact ⟨by rw [HE.out]; rfl, bthen hw hb3⟩
        | false =>
          rw [hc] at C3
          have D3 := Lib.hid C3
          have HC := Lib.hid hc
          clear C3 hc
          go_wp2_with fail
          refine D3.out.mono ?_
          rintro e w3 ⟨u, rfl, _, hb3⟩
          go_wp2_with fail
          go_roundw
          case rel =>
            refine ⟨k + 1, by omega, by go_num, bthen hw hb3, fun j hj => ?_⟩
            by_cases e : j = k
            · rw [e]; exact HC.out
            · exact HNO.out j (by omega)
          case measure => simp [intOf]; omega
      · have HE := Lib.hid (HM.out (fun j hj => HNO.out j (by omega)))
        go_wp2_with fail
        go_ret2
        exact ⟨by rw [HE.out]; rfl, hw⟩

end Go.Proofs.Ytejnfngnofilfaa
