/-
  RoundsOf of the reference and of the program: what each returns.
-/
import Derived.Test.YteohfokchimfeaaRoundsPlain
namespace Go.Proofs.Yteohfokchimfeaa
open Go.RowKit

theorem index_any (v : Value) (xs : List Int) (n : Int) (w : World) (hv : RI w v xs) :
    Calls Try.prog 62 #[v, .int .i64 n] w fun e w' => e = .returned (.int .i64 (pos xs n)) ∧ w = w' := by
  obtain ⟨a, cap, rfl⟩ := hv.shape
  have hl := hv.len
  have HV := Lib.hid hv
  clear hv
  go_enter Try.func62, Try.ntmps62
  go_wp2
  go_loop [8] (fun i => ∃ k : Nat, k ≤ xs.length ∧ i = .int .i64 k ∧ ∀ j, j < k → (xs.getD j 0 == n) = false) (fun i => xs.length - (intOf i).toNat)
  case atStart => exact ⟨0, Nat.zero_le _, rfl, fun j hj => absurd hj (Nat.not_lt_zero _)⟩
  case round =>
    obtain ⟨k, hk, rfl, hno⟩ := hrel
    have HNO := Lib.hid hno
    clear hno
    by_cases hlt : k < xs.length
    · obtain ⟨b, off, rfl, hb, hc⟩ := HV.out.cells (by omega)
      have g1 := hc k hlt
      clear hc
      have HH := Lib.hid (fun (h : (xs.getD k 0 == n) = true) => idxI_hit (fun x => x == n) xs k hlt h HNO.out)
      have HN2 := Lib.hid (fun (h : (xs.getD k 0 == n) = false) => fun j (hj : j < k + 1) => show (xs.getD j 0 == n) = false by
        by_cases e : j = k
        · rw [e]; exact h
        · exact HNO.out j (by omega))
      generalize xs.getD k 0 = x at g1 HH HN2
      by_cases hx : x = n
      · have hq : (n == x) = true := by simp [hx]
        have HE := Lib.hid (HH.out (by simp [hx]))
        clear hx
        go_wp2
        go_ret
        exact ⟨ret_int HE.out.symm, rfl⟩
      · have hq : (n == x) = false := by rw [beq_eq_false_iff_ne]; exact fun e => hx e.symm
        have HE := Lib.hid (HN2.out (by rw [beq_eq_false_iff_ne]; exact hx))
        clear hx
        go_wp2
        go_round
        case rel => exact ⟨k + 1, by omega, by go_num, HE.out⟩
        case measure => simp [intOf]; omega
    · have HE := Lib.hid (idxI_miss (fun x => x == n) xs (fun j hj => HNO.out j (by omega)))
      go_wp2
      go_ret
      exact ⟨ret_int HE.out.symm, rfl⟩

theorem specRoundsOf_any (v : Value) (xs : List Int) (w : World) (hv : RI w v xs) :
    Calls Try.prog 29 #[v] w fun e w' => e = .returned (.tuple #[.int .i64 (valRounds xs).1, .int .i64 (valRounds xs).2]) ∧ Below w.heap.size w w' := by
  obtain ⟨a, cap, rfl⟩ := hv.shape
  have hl := hv.len
  have HV := Lib.hid hv
  have C1 := l17Ok_any _ xs w hv
  clear hv
  cases h1 : okOrder xs with
  | false =>
    rw [h1] at C1
    have D1 := Lib.hid C1
    have HE := Lib.hid (show valRounds xs = (0, 1) by simp [valRounds, h1])
    clear C1 h1
    go_enter Try.func29, Try.ntmps29
    go_wp2_with (go_at_call 57; refine D1.out.mono ?_; rintro e w1 ⟨rfl, hb1⟩)
    go_ret2
    exact ⟨by rw [HE.out]; rfl, hb1⟩
  | true =>
    rw [h1] at C1
    have D1 := Lib.hid C1
    have HK := Lib.hid h1
    have HE := Lib.hid (show valRounds xs = (rd xs xs.length, 0) by simp [valRounds, h1])
    have h40 := okOrder_len h1
    clear C1 h1
    go_enter Try.func29, Try.ntmps29
    go_wp2_with (go_at_call 57; refine D1.out.mono ?_; rintro e w1 ⟨rfl, hb1⟩)
    go_loop [4, 5] (fun r nx => ∃ m : Nat, m ≤ xs.length ∧ r = .int .i64 (rd xs m) ∧ nx = .int .i64 m ∧ (m = xs.length ∨ pos xs m < prev xs m)) (fun _ nx => xs.length - (intOf nx).toNat)
    case atStart =>
      refine ⟨0, Nat.zero_le _, rfl, rfl, ?_⟩
      by_cases h0 : xs.length = 0
      · exact .inl h0.symm
      · have := pos_all HK.out (show 0 < xs.length by omega)
        right
        simp only [prev, if_true]
        exact this.2
    case round =>
      obtain ⟨m, hm, rfl, rfl, hpm⟩ := hrel
      have hrb := rd_bound xs m
      by_cases hlt : m < xs.length
      · have hpm' : pos xs m < prev xs m := by rcases hpm with h | h; · omega
                                               · exact h
        have HPM := Lib.hid hpm'
        clear hpm hpm'
        go_wp2
        go_loop [5, 6] (fun nx i => ∃ j q : Nat, j ≤ xs.length ∧ i = .int .i64 j ∧ nx = .int .i64 q ∧ inRound xs m j q) (fun _ i => xs.length - (intOf i).toNat)
        case atStart => exact ⟨0, m, Nat.zero_le _, rfl, rfl, inRound_start HK.out hlt⟩
        case round =>
          obtain ⟨j, q, hj, rfl, rfl, hr⟩ := hrel
          have hq := hr.2.1
          have HR := Lib.hid hr
          clear hr
          by_cases hlj : j < xs.length
          · obtain ⟨b, off, rfl, hb, hc⟩ := HV.out.cells (by omega)
            have g1 := (hb1.cell (p := ⟨b, off + j, none⟩) hb).trans (hc j hlj)
            clear hc
            by_cases he : xs.getD j 0 = q
            · have HR2 := Lib.hid (inRound_hit HK.out HPM.out hlj HR.out he)
              rw [he] at g1
              clear he
              go_wp2
              go_round
              case rel => exact ⟨j + 1, q + 1, by omega, by go_num, by go_num, HR2.out⟩
              case measure => simp [intOf]; omega
            · have HR2 := Lib.hid (inRound_miss HK.out hlj HR.out he)
              have hne : (xs.getD j 0 == (q : Int)) = false := by rw [beq_eq_false_iff_ne]; exact he
              clear he
              generalize xs.getD j 0 = x at g1 hne
              go_wp2
              go_round
              case rel => exact ⟨j + 1, q, by omega, by go_num, rfl, HR2.out⟩
              case measure => simp [intOf]; omega
          · have hjn : j = xs.length := by omega
            subst hjn
            obtain ⟨k1, k2, k3⟩ := inRound_end HK.out hlt HR.out
            have H2 := Lib.hid k2
            have H3 := Lib.hid k3
            clear k2 k3
            go_wp2
            go_round
            case rel => exact ⟨q, by omega, by rw [H2.out], rfl, H3.out⟩
            case measure => simp [intOf]; omega
      · have hmn : m = xs.length := by omega
        subst hmn
        go_wp2
        go_ret2
        exact ⟨by rw [HE.out]; rfl, hb1⟩

theorem implRoundsOf_any (v : Value) (xs : List Int) (w : World) (hv : RI w v xs) (hs : xs.length ≤ 1099511627776) :
    Calls Try.prog 30 #[v] w fun e w' => e = .returned (.tuple #[.int .i64 (valRounds xs).1, .int .i64 (valRounds xs).2]) ∧ Below w.heap.size w w' := by
  obtain ⟨a, cap, rfl⟩ := hv.shape
  have hl := hv.len
  have HV := Lib.hid hv
  have C1 := implValidOrder_any _ xs w hv (by omega)
  clear hv
  cases h1 : okOrder xs with
  | false =>
    rw [h1] at C1
    have D1 := Lib.hid C1
    have HE := Lib.hid (show valRounds xs = (0, 1) by simp [valRounds, h1])
    clear C1 h1
    go_enter Try.func30, Try.ntmps30
    go_wp2_with (go_at_call 19; refine D1.out.mono ?_; rintro e w1 ⟨rfl, hb1⟩)
    go_ret2
    exact ⟨by rw [HE.out]; rfl, hb1⟩
  | true =>
    rw [h1] at C1
    have D1 := Lib.hid C1
    have HK := Lib.hid h1
    have HE := Lib.hid (show valRounds xs = (rd xs xs.length, 0) by simp [valRounds, h1])
    have h40 := okOrder_len h1
    clear C1 h1
    go_enter Try.func30, Try.ntmps30
    go_wp2_with (go_at_call 19; refine D1.out.mono ?_; rintro e w1 ⟨rfl, hb1⟩)
    go_loop [4, 5, 15] (fun r bf i => ∃ k : Nat, k ≤ xs.length ∧ i = .int .i64 k ∧ r = .int .i64 (rd xs k) ∧ bf = .int .i64 (prev xs k)) (fun _ _ i => xs.length - (intOf i).toNat)
    case atStart => exact ⟨0, Nat.zero_le _, rfl, rfl, rfl⟩
    case round =>
      obtain ⟨k, hk, rfl, rfl, rfl⟩ := hrel
      have hrb := rd_bound xs k
      by_cases hlt : k < xs.length
      · have HP := Lib.hid (show prev xs (k + 1) = pos xs k by unfold prev; rw [if_neg (by omega)]; rfl)
        have HR := Lib.hid (show rd xs (k + 1) = rd xs k + (if pos xs k < prev xs k then 1 else 0) by rfl)
        have hpa := pos_all HK.out hlt
        generalize hpk : pos xs (k : Int) = p at HP HR hpa
        have HPK := Lib.hid hpk
        generalize prev xs k = bf at HR
        generalize rd xs k = r at HR hrb
        clear hpk
        obtain ⟨p0, p1⟩ := hpa
        obtain ⟨r0, r1⟩ := hrb
        by_cases hpb : p < bf
        · have HR2 := Lib.hid (show rd xs (k + 1) = r + 1 by rw [HR.out, if_pos hpb])
          have hd : decide (p < bf) = true := decide_eq_true hpb
          go_wp2_with (go_at_call 62; refine (index_any _ xs _ _ (HV.out.below hb1)).mono ?_; rintro e w' ⟨rfl, rfl⟩; rw [HPK.out])
          go_round
          case rel => exact ⟨k + 1, by omega, by go_num, by rw [HR2.out], by rw [HP.out]⟩
          case measure => simp [intOf]; omega
        · have HR2 := Lib.hid (show rd xs (k + 1) = r by rw [HR.out, if_neg hpb]; omega)
          have hd : decide (p < bf) = false := decide_eq_false hpb
          go_wp2_with (go_at_call 62; refine (index_any _ xs _ _ (HV.out.below hb1)).mono ?_; rintro e w' ⟨rfl, rfl⟩; rw [HPK.out])
          go_round
          case rel => exact ⟨k + 1, by omega, by go_num, by rw [HR2.out], by rw [HP.out]⟩
          case measure => simp [intOf]; omega
      · have hmn : k = xs.length := by omega
        subst hmn
        go_wp2
        go_ret2
        exact ⟨by rw [HE.out]; rfl, hb1⟩

end Go.Proofs.Yteohfokchimfeaa
