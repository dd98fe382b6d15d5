/-
  The reference's least sums: the walk of l15Table.
-/
import Derived.Test.YtpgnndpjlcihiaaDoorSumWalk
import Derived.Test.YtpgnndpjlcihiaaDoorEdge
namespace Go.Proofs.YtpgnndpjlcihiaaDoor
open Go.RowKit

theorem l15Far_any (w : World) : Calls Tryd.prog 63 #[] w fun e w' => e = .returned (.int .i64 1000000) ∧ w = w' := by
  go_enter Tryd.func63, Tryd.ntmps63
  go_wp2
  go_ret
  exact ⟨rfl, rfl⟩
theorem l00Min_any (a b : Int) (w : World) : Calls Tryd.prog 45 #[.int .i64 a, .int .i64 b] w fun e w' => e = .returned (.int .i64 (min a b)) ∧ w = w' := by
  by_cases h : a < b
  · go_enter Tryd.func45, Tryd.ntmps45
    go_wp2
    go_ret
    exact ⟨ret_int (by omega), rfl⟩
  · go_enter Tryd.func45, Tryd.ntmps45
    go_wp2
    go_ret
    exact ⟨ret_int (by omega), rfl⟩
theorem l00Max_any (a b : Int) (w : World) : Calls Tryd.prog 54 #[.int .i64 a, .int .i64 b] w fun e w' => e = .returned (.int .i64 (max a b)) ∧ w = w' := by
  by_cases h : b < a
  · go_enter Tryd.func54, Tryd.ntmps54
    go_wp2
    go_ret
    exact ⟨ret_int (by omega), rfl⟩
  · go_enter Tryd.func54, Tryd.ntmps54
    go_wp2
    go_ret
    exact ⟨ret_int (by omega), rfl⟩
theorem still_eq {P : Program} {f : FuncId} {args : Array Value} {w : World} {v : Value} (h : Calls P f args w fun e w' => e = .returned v ∧ w = w') : Calls P f args w fun e w'' => e = .returned v ∧ w'' = w :=
  h.mono fun _ _ ⟨he, hm⟩ => ⟨he, hm.symm⟩

theorem boxB_start (w : World) (e t : TypeId) (B n : Nat) (f : Nat → Nat → Int) (hB : B < w.heap.size) : TBbox e t (w.alloc (.cells #[] t)) w.heap.size B (.slice (some ⟨w.heap.size, 0, none⟩) 0 0) n 0 f := by
  refine ⟨fun _ => 0, fun _ => 0, ⟨rfl, .inr ⟨w.heap.size, 0, #[], rfl, Nat.le_refl _, ?_, Nat.le_refl _, Nat.zero_le _, rfl, rfl⟩⟩, fun _ h => absurd h (Nat.not_lt_zero _), fun _ _ h => absurd h (Nat.not_lt_zero _), fun _ h => absurd h (Nat.not_lt_zero _), fun _ h => absurd h (Nat.not_lt_zero _), ?_⟩
  · show (w.heap.push _)[w.heap.size]? = _
    simp
  · simp only [Value.ownBlock, ne_eq, Option.some.injEq]; omega
theorem RI.pos_block {w : World} {v : Value} {xs : List Int} (h : RI w v xs) (hl : 0 < xs.length) : 0 < w.heap.size := by
  obtain ⟨a, cap, rfl⟩ := h.shape
  obtain ⟨b, off, _, hb, _⟩ := h.cells hl
  omega
/-- Behind the making of a row: the row is laid behind the others. -/
theorem boxB_next {e t : TypeId} {w wr w3 w4 : World} {B : Nat} {v v' : Value} {n k : Nat} {f : Nat → Nat → Int} {r rc : Nat} {g c : Nat → Nat} (hw : Below w.heap.size w wr) (hB : B < wr.heap.size) (h : TBg e t wr w.heap.size B v n k f g c)
    (hb : Below wr.heap.size wr w3) (hr0 : wr.heap.size ≤ r) (hrw : r < w3.heap.size) (hr : OI e w3 wr.heap.size (.slice (some ⟨r, 0, none⟩) n rc) (rowL f n k))
    (hown : w4.ownsRow w.heap.size t 1 v' (k + 1) (rowsV g c n k ++ [.slice (some ⟨r, 0, none⟩) n rc])) (hg : w3.grownBy w4 v.ownBlock) (hl : ∀ q, v'.ownBlock = some q → v.ownBlock = some q ∨ w3.heap.size ≤ q) :
    Below w.heap.size w w4 ∧ TBbox e t w4 w.heap.size B v' n (k + 1) f :=
  ⟨(bthen hw hb).grown hg (Nat.le_trans hw.size hb.size) (fun q hq => (TBbox.lt (⟨g, c, h⟩ : TBbox e t wr w.heap.size B v n k f) q hq).1), TBbox.more h hb hB hr0 hrw (hr.mono hw.size) hown hg hl⟩

theorem news_oneB (w : World) (v : Value) (t : TypeId) : ∀ j u, [v][j]? = some u → (w.alloc (.cells #[v] t)).cell? ((⟨w.heap.size, 0, none⟩ : Addr).add j) = some u := news_one w v t

/-- The reference's table in the world wr of a call that began in w. -/
def TW (e : TypeId) (w wr : World) (G : Nat) (g c : Nat → Nat) (n : Nat) (f : Nat → Nat → Int) : Prop := Below w.heap.size w wr ∧ TBat e wr w.heap.size G g c n f
theorem TW.below {e : TypeId} {w wr w' : World} {G : Nat} {g c : Nat → Nat} {n : Nat} {f : Nat → Nat → Int} (h : TW e w wr G g c n f) (hb : Below wr.heap.size wr w') : TW e w w' G g c n f := ⟨bthen h.1 hb, h.2.below hb⟩
theorem TW.drew {e : TypeId} {w wr : World} {G : Nat} {g c : Nat → Nat} {n : Nat} {f : Nat → Nat → Int} (h : TW e w wr G g c n f) : TW e w wr.drew G g c n f := h.below (Below.refl _ _).drew
theorem TW.set {e : TypeId} {w wr : World} {G : Nat} {g c : Nat → Nat} {n : Nat} {f : Nat → Nat → Int} (h : TW e w wr G g c n f) (i k : Nat) (hi : i < n) (hk : k < n) (x : Int) (hx : Good x) : TW e w (wr.setCell ⟨g i, k, none⟩ (.int .i64 x)) G g c n (upd f i k x) :=
  ⟨bgrown h.1 (h.2.set i k hi hk x hx).2 (fun q hq => by have := (h.2.base_le i hi).1; have := Option.some.inj hq; omega), (h.2.set i k hi hk x hx).1⟩

set_option maxRecDepth 100000 in
set_option maxHeartbeats 4000000 in
theorem tableB_any (s : Nat) (v : Value) (xs : List (Int × Int × Int)) (u : Value) (tl : List Int) (tf : Nat → Bool) (w : World) (hs1 : 1 ≤ s) (hs9 : s ≤ 9) (hv : SI P3 w v xs) (hx : fitT s xs) (hu : RI w u tl) (htl : tl.length = s) (htf : ∀ k, k < s → tf k = decide (tl.getD k 0 = 1)) :
    Calls Tryd.prog 42 #[.int .i64 s, v, u] w fun e w' => ∃ v', e = .returned (.tuple #[v', .bool (okB s tf xs)]) ∧ Below w.heap.size w w' ∧
      ∃ G capG g c, v' = .slice (some ⟨G, 0, none⟩) (s + 1) capG ∧ TBat 2 w' w.heap.size G g c (s + 1) (endB s tf xs) := by
  obtain ⟨a, cap, rfl⟩ := hv.shape
  have hl := hv.len
  have hw0 := hu.pos_block (by omega)
  obtain ⟨ua0, ucap, rfl⟩ := hu.shape
  have HV := Lib.hid hv
  have HU := Lib.hid hu
  have HX := Lib.hid hx
  have HTF := Lib.hid htf
  have HTL := Lib.hid htl
  clear hv hx hu htf htl
  obtain ⟨i0, hi, iz0, iz1, iz2⟩ := info_parts info64
  have HI := Lib.hid hi
  clear hi
  obtain ⟨iR, hiR, jz0, jz1, jz2⟩ := info_parts infoRow
  have HIR := Lib.hid hiR
  clear hiR
  obtain ⟨B, hBw⟩ : ∃ B, B < w.heap.size := ⟨0, hw0⟩
  have hwr : IntKind.i64.wrap ((s : Int) + 1) = (s : Int) + 1 := IntWalk.i64_in _ (by omega)
  have hwr2 : IntKind.i64.wrap ((s : Int) + 1 - 1) = (s : Int) := by rw [IntWalk.i64_in _ (by omega)]; omega
  go_enter Tryd.func42, Tryd.ntmps42
  go_wp2_with fail
  go_loopw [9, 10] (fun d i wr => ∃ (k : Nat) (dv : Value), k ≤ s + 1 ∧ dv = d ∧ i = .int .i64 k ∧ Below w.heap.size w wr ∧ TBbox 2 33 wr w.heap.size B dv (s + 1) k (edgeB s tf)) (fun _ i _ => s + 1 - (intOf i).toNat)
  case atStart => exact ⟨0, _, Nat.zero_le _, rfl, rfl, (Below.refl _ _).alloc (Nat.le_refl _) _, boxB_start w _ _ B _ _ hBw⟩
  case round =>
    obtain ⟨k, d, hk, rfl, rfl, hw, htb⟩ := hrel
    rename World => wo
    by_cases hlt : k < s + 1
    · have HTb := Lib.hid htb
      have hu : ∃ ua ul uc, d = .slice ua ul uc := by
        obtain ⟨g, c, h1, _⟩ := htb
        rcases h1.2 with ⟨h, _⟩ | ⟨G, cap, cur, h, _⟩
        · exact ⟨_, _, _, h⟩
        · exact ⟨_, _, _, h⟩
      obtain ⟨ua, ul, uc, rfl⟩ := hu
      obtain ⟨g, c, htg⟩ := HTb.out
      have HTb := Lib.hid htg
      clear htb htg
      have hk1 : (k : Int) < (s : Int) + 1 := by omega
      have hdk : decide ((k : Int) < (s : Int) + 1) = true := decide_eq_true hk1
      have hB1 := (Below.refl wo.heap.size wo).alloc (Nat.le_refl _) (.cells #[] 2)
      go_wp2_with fail
      go_loopw [11, 12] (fun r i w2 => ∃ (j : Nat) (rv : Value), j ≤ s + 1 ∧ rv = r ∧ i = .int .i64 j ∧ Below wo.heap.size wo w2 ∧ OI 2 w2 wo.heap.size rv (List.replicate j FAR)) (fun _ i _ => s + 1 - (intOf i).toNat)
      case atStart => exact ⟨0, _, Nat.zero_le _, rfl, rfl, hB1, OI.lit0 _ _ _ (Nat.le_refl _)⟩
      case round =>
        rename World => w2
        obtain ⟨j, r, hj, rfl, rfl, hw2, ho⟩ := hrel
        by_cases hltj : j < s + 1
        · have hdj : decide ((j : Int) < (s : Int) + 1) = true := decide_eq_true (by omega)
          have HO := Lib.hid ho
          have HLN := Lib.hid (show (List.replicate j FAR).length = j by simp)
          have HG := Lib.hid (show Good FAR by unfold Good FAR; omega)
          clear ho
          go_wp2_with (first | (go_at_call 63; refine (l15Far_any _).mono ?_; rintro e w3 ⟨rfl, rfl⟩) | (at_builtin; refine wpList_app1n rfl _ _ 33 rfl 2 _ i0 Tryd.underlying33 HI.out iz0 iz1 iz2 wo.heap.size _ _ rfl HO.out _ _ (by simp) rfl ?_ ?_ hw2.size ?_))
          · exact HG.out
          · rw [HLN.out]; omega
          · intro v9 w9 h1 h2 h3
            have hb9 := HO.out.step hw2 h2
            rw [show List.replicate j FAR ++ [(1000000 : Int)] = List.replicate (j + 1) FAR by rw [List.replicate_succ']; rfl] at h1
            have H9 := Lib.hid h1
            clear h1 h2 h3
            go_wp2
            go_roundw
            case rel => exact ⟨j + 1, _, by omega, rfl, by go_num, hb9, H9.out⟩
            case measure => simp [intOf]; omega
        · have hdj : decide ((j : Int) < (s : Int) + 1) = false := decide_eq_false (by omega)
          obtain ⟨R, rc, rfl, hR1, hR2⟩ : ∃ R rc, r = .slice (some ⟨R, 0, none⟩) (s + 1) rc ∧ wo.heap.size ≤ R ∧ R < w2.heap.size := by
            rcases ho.shape with ⟨_, h0⟩ | ⟨R, rc, h1, h2, h3⟩
            · have := congrArg List.length h0
              simp at this
              omega
            · refine ⟨R, rc, ?_, h2, h3⟩
              rw [h1, List.length_replicate]
              congr 1
              omega
          have hofar : OI 2 w2 wo.heap.size (.slice (some ⟨R, 0, none⟩) (s + 1) rc) (rowL farF (s + 1) k) := by
            rw [rowL_far, show s + 1 = j by omega]
            rw [show s + 1 = j by omega] at ho
            exact ho
          have HO := Lib.hid hofar
          have HB := Lib.hid hw2
          clear ho hofar hw2
          have h0 : Good 0 := by unfold Good; omega
          rcases (by omega : k = 0 ∨ 0 < k) with hk0 | hk0
          ·
            have HK0 := Lib.hid hk0
            have hdp : decide ((0 : Int) < (k : Int)) = false := decide_eq_false (by omega)
            have hdp2 : decide (0 < k) = false := decide_eq_false (by omega)
            clear hk0
            by_cases hks : k < s
            · have hds : decide ((k : Int) < (s : Int)) = true := decide_eq_true (by omega)
              obtain ⟨b, off, rfl, hbl, hcs⟩ := HU.out.cells (by have := HTL.out; omega)
              have hcl := hcs k (by have := HTL.out; omega)
              have hkt : (k : Int) < tl.length := by have := HTL.out; omega
              have HTK0 := Lib.hid (HTF.out k hks)
              generalize tl.getD k 0 = y at hcl HTK0
              clear hcs
              by_cases hy : y = 1
              · have hyb : (y == 1) = true := by rw [beq_iff_eq]; exact hy
                have HTK := Lib.hid (HTK0.out.trans (decide_eq_true hy))
                obtain ⟨p, hp⟩ : ∃ p, p = k + 1 := ⟨_, rfl⟩
                have HPP := Lib.hid hp
                have hwp : IntKind.i64.wrap ((k : Int) + 1) = (p : Int) := by rw [IntWalk.i64_in _ (by omega)]; omega
                have hp1 : p < s + 1 := by omega
                have hp2 : (p : Int) < (s : Int) + 1 := by omega
                clear hp hy
                have c1 := HO.out.cell k (by rw [rowL_length]; omega)
                have hs1 := HO.out.set k 0 h0
                rw [rowL_upd _ _ _ _ _ (by omega)] at hs1
                have hb1 := HO.out.step HB.out hs1.2
                have HQ1 := Lib.hid hs1.1
                have HB1 := Lib.hid hb1
                have gt := ((bthen hw hb1).cell (p := ⟨b, off + k, none⟩) hbl).trans hcl
                obtain ⟨c1a, c1b⟩ := c1
                clear hs1 hb1
                have c2 := HQ1.out.cell p (by rw [rowL_length]; omega)
                have hs2 := HQ1.out.set p 0 h0
                rw [rowL_upd _ _ _ _ _ (by omega)] at hs2
                have hb2 := HQ1.out.step HB1.out hs2.2
                have HQ2 := Lib.hid hs2.1
                have HB2 := Lib.hid hb2
                obtain ⟨c2a, c2b⟩ := c2
                clear hs2 hb2
                have hRs := (HQ2.out.lt R rfl).2
                have hrow : OI 2 ((w2.setCell ⟨R, k, none⟩ (.int .i64 0)).setCell ⟨R, p, none⟩ (.int .i64 0)) wo.heap.size (.slice (some ⟨R, 0, none⟩) (s + 1) rc) (rowL (edgeB s tf) (s + 1) k) := by
                  have h := HQ2.out
                  rw [HPP.out] at h ⊢
                  rw [row_zero_yes (s := s) (tf := tf) (i := k) HK0.out hks HTK.out] at h
                  exact h
                have HRW := Lib.hid hrow
                clear hrow
                have hA := (Below.refl ((w2.setCell ⟨R, k, none⟩ (.int .i64 0)).setCell ⟨R, p, none⟩ (.int .i64 0)).heap.size ((w2.setCell ⟨R, k, none⟩ (.int .i64 0)).setCell ⟨R, p, none⟩ (.int .i64 0))).alloc (Nat.le_refl _) (.cells #[.slice (some ⟨R, 0, none⟩) (s + 1) rc] 33)
                have hbA := HB2.out.trans (hA.mono HB2.out.size)
                have HO3 := Lib.hid (HTb.out.own hbA)
                have HR3 := Lib.hid (HRW.out.below hA)
                have HBA := Lib.hid hbA
                have HLE := Lib.hid (Nat.le_trans hw.size hbA.size)
                clear hA hbA
                have HR4 := Lib.hid (show R < (((w2.setCell ⟨R, k, none⟩ (.int .i64 0)).setCell ⟨R, p, none⟩ (.int .i64 0)).alloc (.cells #[.slice (some ⟨R, 0, none⟩) (s + 1) rc] 33)).heap.size from Nat.lt_of_lt_of_le hRs (by simp))
                have hnw := news_oneB ((w2.setCell ⟨R, k, none⟩ (.int .i64 0)).setCell ⟨R, p, none⟩ (.int .i64 0)) (.slice (some ⟨R, 0, none⟩) (s + 1) rc) 33
                have hsz : ((w2.setCell ⟨R, k, none⟩ (.int .i64 0)).setCell ⟨R, p, none⟩ (.int .i64 0)).heap.size = w2.heap.size := by simp
                rw [hsz] at hnw
                have HNW := Lib.hid hnw
                clear hnw hsz hRs
                go_wp2_with (
                  at_builtin
                  refine wpList_append_lies _ rfl _ _ 64 rfl w.heap.size 33 iR (.slice none 0 0) 1 24 Tryd.underlying64 HIR.out jz0 jz1 jz2 rfl (Nat.zero_lt_one) (.slice ua ul uc) k _ rfl HO3.out ⟨w2.heap.size, 0, none⟩ 1 1 [.slice (some ⟨R, 0, none⟩) (s + 1) rc] rfl rfl HNW.out (one_slice _ _ _) (Nat.zero_lt_one) (by unfold maxLen; omega) (by omega) HLE.out _ rfl ?_
                  intro gg cap1 w4 hown1 hgrow hat hlt4
                  obtain ⟨n1, n2⟩ := boxB_next hw (Nat.lt_of_lt_of_le hBw hw.size) HTb.out HBA.out hR1 HR4.out HR3.out hown1 hgrow (fun q e => by
                    simp only [Value.ownBlock, Option.some.injEq] at e
                    subst e
                    exact hat.imp id (fun e2 => Nat.le_of_eq e2.symm))
                  clear hown1 hgrow hat hlt4 c1a c1b c2a c2b)
                go_roundw
                case rel => exact ⟨k + 1, _, by omega, rfl, by rw [HPP.out], n1, n2⟩
                case measure =>
                  have := HPP.out
                  simp [intOf]; omega
              · have hyb : (y == 1) = false := by rw [beq_eq_false_iff_ne]; exact hy
                have HTK := Lib.hid (HTK0.out.trans (decide_eq_false hy))
                clear hy
                have c1 := HO.out.cell k (by rw [rowL_length]; omega)
                have hs1 := HO.out.set k 0 h0
                rw [rowL_upd _ _ _ _ _ (by omega)] at hs1
                have hb1 := HO.out.step HB.out hs1.2
                have HQ1 := Lib.hid hs1.1
                have HB1 := Lib.hid hb1
                have gt := ((bthen hw hb1).cell (p := ⟨b, off + k, none⟩) hbl).trans hcl
                obtain ⟨c1a, c1b⟩ := c1
                clear hs1 hb1
                have hRs := (HQ1.out.lt R rfl).2
                have hrow : OI 2 (w2.setCell ⟨R, k, none⟩ (.int .i64 0)) wo.heap.size (.slice (some ⟨R, 0, none⟩) (s + 1) rc) (rowL (edgeB s tf) (s + 1) k) := by
                  have h := HQ1.out
                  rw [row_zero_no (s := s) (tf := tf) (i := k) HK0.out (fun h => by have := h.2; rw [HTK.out] at this; cases this)] at h
                  exact h
                have HRW := Lib.hid hrow
                clear hrow
                have hA := (Below.refl (w2.setCell ⟨R, k, none⟩ (.int .i64 0)).heap.size (w2.setCell ⟨R, k, none⟩ (.int .i64 0))).alloc (Nat.le_refl _) (.cells #[.slice (some ⟨R, 0, none⟩) (s + 1) rc] 33)
                have hbA := HB1.out.trans (hA.mono HB1.out.size)
                have HO3 := Lib.hid (HTb.out.own hbA)
                have HR3 := Lib.hid (HRW.out.below hA)
                have HBA := Lib.hid hbA
                have HLE := Lib.hid (Nat.le_trans hw.size hbA.size)
                clear hA hbA
                have HR4 := Lib.hid (show R < ((w2.setCell ⟨R, k, none⟩ (.int .i64 0)).alloc (.cells #[.slice (some ⟨R, 0, none⟩) (s + 1) rc] 33)).heap.size from Nat.lt_of_lt_of_le hRs (by simp))
                have hnw := news_oneB (w2.setCell ⟨R, k, none⟩ (.int .i64 0)) (.slice (some ⟨R, 0, none⟩) (s + 1) rc) 33
                have hsz : (w2.setCell ⟨R, k, none⟩ (.int .i64 0)).heap.size = w2.heap.size := by simp
                rw [hsz] at hnw
                have HNW := Lib.hid hnw
                clear hnw hsz hRs
                go_wp2_with (
                  at_builtin
                  refine wpList_append_lies _ rfl _ _ 64 rfl w.heap.size 33 iR (.slice none 0 0) 1 24 Tryd.underlying64 HIR.out jz0 jz1 jz2 rfl (Nat.zero_lt_one) (.slice ua ul uc) k _ rfl HO3.out ⟨w2.heap.size, 0, none⟩ 1 1 [.slice (some ⟨R, 0, none⟩) (s + 1) rc] rfl rfl HNW.out (one_slice _ _ _) (Nat.zero_lt_one) (by unfold maxLen; omega) (by omega) HLE.out _ rfl ?_
                  intro gg cap1 w4 hown1 hgrow hat hlt4
                  obtain ⟨n1, n2⟩ := boxB_next hw (Nat.lt_of_lt_of_le hBw hw.size) HTb.out HBA.out hR1 HR4.out HR3.out hown1 hgrow (fun q e => by
                    simp only [Value.ownBlock, Option.some.injEq] at e
                    subst e
                    exact hat.imp id (fun e2 => Nat.le_of_eq e2.symm))
                  clear hown1 hgrow hat hlt4 c1a c1b)
                go_roundw
                case rel => exact ⟨k + 1, _, by omega, rfl, by go_num, n1, n2⟩
                case measure => simp [intOf]; omega
            · have hds : decide ((k : Int) < (s : Int)) = false := decide_eq_false (by omega)
              have HKS := Lib.hid (show s ≤ k by omega)
              have c1 := HO.out.cell k (by rw [rowL_length]; omega)
              have hs1 := HO.out.set k 0 h0
              rw [rowL_upd _ _ _ _ _ (by omega)] at hs1
              have hb1 := HO.out.step HB.out hs1.2
              have HQ1 := Lib.hid hs1.1
              have HB1 := Lib.hid hb1
              obtain ⟨c1a, c1b⟩ := c1
              clear hs1 hb1
              have hRs := (HQ1.out.lt R rfl).2
              have hrow : OI 2 (w2.setCell ⟨R, k, none⟩ (.int .i64 0)) wo.heap.size (.slice (some ⟨R, 0, none⟩) (s + 1) rc) (rowL (edgeB s tf) (s + 1) k) := by
                have h := HQ1.out
                rw [row_zero_no (s := s) (tf := tf) (i := k) HK0.out (fun h => by have := h.1; have := HKS.out; omega)] at h
                exact h
              have HRW := Lib.hid hrow
              clear hrow
              have hA := (Below.refl (w2.setCell ⟨R, k, none⟩ (.int .i64 0)).heap.size (w2.setCell ⟨R, k, none⟩ (.int .i64 0))).alloc (Nat.le_refl _) (.cells #[.slice (some ⟨R, 0, none⟩) (s + 1) rc] 33)
              have hbA := HB1.out.trans (hA.mono HB1.out.size)
              have HO3 := Lib.hid (HTb.out.own hbA)
              have HR3 := Lib.hid (HRW.out.below hA)
              have HBA := Lib.hid hbA
              have HLE := Lib.hid (Nat.le_trans hw.size hbA.size)
              clear hA hbA
              have HR4 := Lib.hid (show R < ((w2.setCell ⟨R, k, none⟩ (.int .i64 0)).alloc (.cells #[.slice (some ⟨R, 0, none⟩) (s + 1) rc] 33)).heap.size from Nat.lt_of_lt_of_le hRs (by simp))
              have hnw := news_oneB (w2.setCell ⟨R, k, none⟩ (.int .i64 0)) (.slice (some ⟨R, 0, none⟩) (s + 1) rc) 33
              have hsz : (w2.setCell ⟨R, k, none⟩ (.int .i64 0)).heap.size = w2.heap.size := by simp
              rw [hsz] at hnw
              have HNW := Lib.hid hnw
              clear hnw hsz hRs
              go_wp2_with (
                at_builtin
                refine wpList_append_lies _ rfl _ _ 64 rfl w.heap.size 33 iR (.slice none 0 0) 1 24 Tryd.underlying64 HIR.out jz0 jz1 jz2 rfl (Nat.zero_lt_one) (.slice ua ul uc) k _ rfl HO3.out ⟨w2.heap.size, 0, none⟩ 1 1 [.slice (some ⟨R, 0, none⟩) (s + 1) rc] rfl rfl HNW.out (one_slice _ _ _) (Nat.zero_lt_one) (by unfold maxLen; omega) (by omega) HLE.out _ rfl ?_
                intro gg cap1 w4 hown1 hgrow hat hlt4
                obtain ⟨n1, n2⟩ := boxB_next hw (Nat.lt_of_lt_of_le hBw hw.size) HTb.out HBA.out hR1 HR4.out HR3.out hown1 hgrow (fun q e => by
                  simp only [Value.ownBlock, Option.some.injEq] at e
                  subst e
                  exact hat.imp id (fun e2 => Nat.le_of_eq e2.symm))
                clear hown1 hgrow hat hlt4 c1a c1b)
              go_roundw
              case rel => exact ⟨k + 1, _, by omega, rfl, by go_num, n1, n2⟩
              case measure => simp [intOf]; omega
          ·
            have hdp : decide ((0 : Int) < (k : Int)) = true := decide_eq_true (by omega)
            have hdp2 : decide (0 < k) = true := decide_eq_true (by omega)
            obtain ⟨q, hq⟩ : ∃ q, q = k - 1 := ⟨_, rfl⟩
            have HQ := Lib.hid hq
            have hwq : IntKind.i64.wrap ((k : Int) - 1) = (q : Int) := by rw [IntWalk.i64_in _ (by omega)]; omega
            have hq1 : q < s + 1 := by omega
            have hq2 : (q : Int) < (s : Int) + 1 := by omega
            clear hq
            by_cases hks : k < s
            · have hds : decide ((k : Int) < (s : Int)) = true := decide_eq_true (by omega)
              obtain ⟨b, off, rfl, hbl, hcs⟩ := HU.out.cells (by have := HTL.out; omega)
              have hcl := hcs k (by have := HTL.out; omega)
              have hkt : (k : Int) < tl.length := by have := HTL.out; omega
              have HTK0 := Lib.hid (HTF.out k hks)
              generalize tl.getD k 0 = y at hcl HTK0
              clear hcs
              by_cases hy : y = 1
              · have hyb : (y == 1) = true := by rw [beq_iff_eq]; exact hy
                have HTK := Lib.hid (HTK0.out.trans (decide_eq_true hy))
                obtain ⟨p, hp⟩ : ∃ p, p = k + 1 := ⟨_, rfl⟩
                have HPP := Lib.hid hp
                have hwp : IntKind.i64.wrap ((k : Int) + 1) = (p : Int) := by rw [IntWalk.i64_in _ (by omega)]; omega
                have hp1 : p < s + 1 := by omega
                have hp2 : (p : Int) < (s : Int) + 1 := by omega
                clear hp hy
                have c1 := HO.out.cell k (by rw [rowL_length]; omega)
                have hs1 := HO.out.set k 0 h0
                rw [rowL_upd _ _ _ _ _ (by omega)] at hs1
                have hb1 := HO.out.step HB.out hs1.2
                have HQ1 := Lib.hid hs1.1
                have HB1 := Lib.hid hb1
                obtain ⟨c1a, c1b⟩ := c1
                clear hs1 hb1
                have c2 := HQ1.out.cell q (by rw [rowL_length]; omega)
                have hs2 := HQ1.out.set q 0 h0
                rw [rowL_upd _ _ _ _ _ (by omega)] at hs2
                have hb2 := HQ1.out.step HB1.out hs2.2
                have HQ2 := Lib.hid hs2.1
                have HB2 := Lib.hid hb2
                have gt := ((bthen hw hb2).cell (p := ⟨b, off + k, none⟩) hbl).trans hcl
                obtain ⟨c2a, c2b⟩ := c2
                clear hs2 hb2
                have c3 := HQ2.out.cell p (by rw [rowL_length]; omega)
                have hs3 := HQ2.out.set p 0 h0
                rw [rowL_upd _ _ _ _ _ (by omega)] at hs3
                have hb3 := HQ2.out.step HB2.out hs3.2
                have HQ3 := Lib.hid hs3.1
                have HB3 := Lib.hid hb3
                obtain ⟨c3a, c3b⟩ := c3
                clear hs3 hb3
                have hRs := (HQ3.out.lt R rfl).2
                have hrow : OI 2 (((w2.setCell ⟨R, k, none⟩ (.int .i64 0)).setCell ⟨R, q, none⟩ (.int .i64 0)).setCell ⟨R, p, none⟩ (.int .i64 0)) wo.heap.size (.slice (some ⟨R, 0, none⟩) (s + 1) rc) (rowL (edgeB s tf) (s + 1) k) := by
                  have h := HQ3.out
                  rw [HQ.out] at h ⊢
                  rw [HPP.out] at h ⊢
                  rw [row_some_yes (s := s) (tf := tf) (i := k) hk0 hks HTK.out] at h
                  exact h
                have HRW := Lib.hid hrow
                clear hrow
                have hA := (Below.refl (((w2.setCell ⟨R, k, none⟩ (.int .i64 0)).setCell ⟨R, q, none⟩ (.int .i64 0)).setCell ⟨R, p, none⟩ (.int .i64 0)).heap.size (((w2.setCell ⟨R, k, none⟩ (.int .i64 0)).setCell ⟨R, q, none⟩ (.int .i64 0)).setCell ⟨R, p, none⟩ (.int .i64 0))).alloc (Nat.le_refl _) (.cells #[.slice (some ⟨R, 0, none⟩) (s + 1) rc] 33)
                have hbA := HB3.out.trans (hA.mono HB3.out.size)
                have HO3 := Lib.hid (HTb.out.own hbA)
                have HR3 := Lib.hid (HRW.out.below hA)
                have HBA := Lib.hid hbA
                have HLE := Lib.hid (Nat.le_trans hw.size hbA.size)
                clear hA hbA
                have HR4 := Lib.hid (show R < ((((w2.setCell ⟨R, k, none⟩ (.int .i64 0)).setCell ⟨R, q, none⟩ (.int .i64 0)).setCell ⟨R, p, none⟩ (.int .i64 0)).alloc (.cells #[.slice (some ⟨R, 0, none⟩) (s + 1) rc] 33)).heap.size from Nat.lt_of_lt_of_le hRs (by simp))
                have hnw := news_oneB (((w2.setCell ⟨R, k, none⟩ (.int .i64 0)).setCell ⟨R, q, none⟩ (.int .i64 0)).setCell ⟨R, p, none⟩ (.int .i64 0)) (.slice (some ⟨R, 0, none⟩) (s + 1) rc) 33
                have hsz : (((w2.setCell ⟨R, k, none⟩ (.int .i64 0)).setCell ⟨R, q, none⟩ (.int .i64 0)).setCell ⟨R, p, none⟩ (.int .i64 0)).heap.size = w2.heap.size := by simp
                rw [hsz] at hnw
                have HNW := Lib.hid hnw
                clear hnw hsz hRs
                go_wp2_with (
                  at_builtin
                  refine wpList_append_lies _ rfl _ _ 64 rfl w.heap.size 33 iR (.slice none 0 0) 1 24 Tryd.underlying64 HIR.out jz0 jz1 jz2 rfl (Nat.zero_lt_one) (.slice ua ul uc) k _ rfl HO3.out ⟨w2.heap.size, 0, none⟩ 1 1 [.slice (some ⟨R, 0, none⟩) (s + 1) rc] rfl rfl HNW.out (one_slice _ _ _) (Nat.zero_lt_one) (by unfold maxLen; omega) (by omega) HLE.out _ rfl ?_
                  intro gg cap1 w4 hown1 hgrow hat hlt4
                  obtain ⟨n1, n2⟩ := boxB_next hw (Nat.lt_of_lt_of_le hBw hw.size) HTb.out HBA.out hR1 HR4.out HR3.out hown1 hgrow (fun q e => by
                    simp only [Value.ownBlock, Option.some.injEq] at e
                    subst e
                    exact hat.imp id (fun e2 => Nat.le_of_eq e2.symm))
                  clear hown1 hgrow hat hlt4 c1a c1b c2a c2b c3a c3b)
                go_roundw
                case rel => exact ⟨k + 1, _, by omega, rfl, by rw [HPP.out], n1, n2⟩
                case measure =>
                  have := HPP.out
                  simp [intOf]; omega
              · have hyb : (y == 1) = false := by rw [beq_eq_false_iff_ne]; exact hy
                have HTK := Lib.hid (HTK0.out.trans (decide_eq_false hy))
                clear hy
                have c1 := HO.out.cell k (by rw [rowL_length]; omega)
                have hs1 := HO.out.set k 0 h0
                rw [rowL_upd _ _ _ _ _ (by omega)] at hs1
                have hb1 := HO.out.step HB.out hs1.2
                have HQ1 := Lib.hid hs1.1
                have HB1 := Lib.hid hb1
                obtain ⟨c1a, c1b⟩ := c1
                clear hs1 hb1
                have c2 := HQ1.out.cell q (by rw [rowL_length]; omega)
                have hs2 := HQ1.out.set q 0 h0
                rw [rowL_upd _ _ _ _ _ (by omega)] at hs2
                have hb2 := HQ1.out.step HB1.out hs2.2
                have HQ2 := Lib.hid hs2.1
                have HB2 := Lib.hid hb2
                have gt := ((bthen hw hb2).cell (p := ⟨b, off + k, none⟩) hbl).trans hcl
                obtain ⟨c2a, c2b⟩ := c2
                clear hs2 hb2
                have hRs := (HQ2.out.lt R rfl).2
                have hrow : OI 2 ((w2.setCell ⟨R, k, none⟩ (.int .i64 0)).setCell ⟨R, q, none⟩ (.int .i64 0)) wo.heap.size (.slice (some ⟨R, 0, none⟩) (s + 1) rc) (rowL (edgeB s tf) (s + 1) k) := by
                  have h := HQ2.out
                  rw [HQ.out] at h ⊢
                  rw [row_some_no (s := s) (tf := tf) (i := k) hk0 (fun h => by have := h.2; rw [HTK.out] at this; cases this)] at h
                  exact h
                have HRW := Lib.hid hrow
                clear hrow
                have hA := (Below.refl ((w2.setCell ⟨R, k, none⟩ (.int .i64 0)).setCell ⟨R, q, none⟩ (.int .i64 0)).heap.size ((w2.setCell ⟨R, k, none⟩ (.int .i64 0)).setCell ⟨R, q, none⟩ (.int .i64 0))).alloc (Nat.le_refl _) (.cells #[.slice (some ⟨R, 0, none⟩) (s + 1) rc] 33)
                have hbA := HB2.out.trans (hA.mono HB2.out.size)
                have HO3 := Lib.hid (HTb.out.own hbA)
                have HR3 := Lib.hid (HRW.out.below hA)
                have HBA := Lib.hid hbA
                have HLE := Lib.hid (Nat.le_trans hw.size hbA.size)
                clear hA hbA
                have HR4 := Lib.hid (show R < (((w2.setCell ⟨R, k, none⟩ (.int .i64 0)).setCell ⟨R, q, none⟩ (.int .i64 0)).alloc (.cells #[.slice (some ⟨R, 0, none⟩) (s + 1) rc] 33)).heap.size from Nat.lt_of_lt_of_le hRs (by simp))
                have hnw := news_oneB ((w2.setCell ⟨R, k, none⟩ (.int .i64 0)).setCell ⟨R, q, none⟩ (.int .i64 0)) (.slice (some ⟨R, 0, none⟩) (s + 1) rc) 33
                have hsz : ((w2.setCell ⟨R, k, none⟩ (.int .i64 0)).setCell ⟨R, q, none⟩ (.int .i64 0)).heap.size = w2.heap.size := by simp
                rw [hsz] at hnw
                have HNW := Lib.hid hnw
                clear hnw hsz hRs
                go_wp2_with (
                  at_builtin
                  refine wpList_append_lies _ rfl _ _ 64 rfl w.heap.size 33 iR (.slice none 0 0) 1 24 Tryd.underlying64 HIR.out jz0 jz1 jz2 rfl (Nat.zero_lt_one) (.slice ua ul uc) k _ rfl HO3.out ⟨w2.heap.size, 0, none⟩ 1 1 [.slice (some ⟨R, 0, none⟩) (s + 1) rc] rfl rfl HNW.out (one_slice _ _ _) (Nat.zero_lt_one) (by unfold maxLen; omega) (by omega) HLE.out _ rfl ?_
                  intro gg cap1 w4 hown1 hgrow hat hlt4
                  obtain ⟨n1, n2⟩ := boxB_next hw (Nat.lt_of_lt_of_le hBw hw.size) HTb.out HBA.out hR1 HR4.out HR3.out hown1 hgrow (fun q e => by
                    simp only [Value.ownBlock, Option.some.injEq] at e
                    subst e
                    exact hat.imp id (fun e2 => Nat.le_of_eq e2.symm))
                  clear hown1 hgrow hat hlt4 c1a c1b c2a c2b)
                go_roundw
                case rel => exact ⟨k + 1, _, by omega, rfl, by go_num, n1, n2⟩
                case measure => simp [intOf]; omega
            · have hds : decide ((k : Int) < (s : Int)) = false := decide_eq_false (by omega)
              have HKS := Lib.hid (show s ≤ k by omega)
              have c1 := HO.out.cell k (by rw [rowL_length]; omega)
              have hs1 := HO.out.set k 0 h0
              rw [rowL_upd _ _ _ _ _ (by omega)] at hs1
              have hb1 := HO.out.step HB.out hs1.2
              have HQ1 := Lib.hid hs1.1
              have HB1 := Lib.hid hb1
              obtain ⟨c1a, c1b⟩ := c1
              clear hs1 hb1
              have c2 := HQ1.out.cell q (by rw [rowL_length]; omega)
              have hs2 := HQ1.out.set q 0 h0
              rw [rowL_upd _ _ _ _ _ (by omega)] at hs2
              have hb2 := HQ1.out.step HB1.out hs2.2
              have HQ2 := Lib.hid hs2.1
              have HB2 := Lib.hid hb2
              obtain ⟨c2a, c2b⟩ := c2
              clear hs2 hb2
              have hRs := (HQ2.out.lt R rfl).2
              have hrow : OI 2 ((w2.setCell ⟨R, k, none⟩ (.int .i64 0)).setCell ⟨R, q, none⟩ (.int .i64 0)) wo.heap.size (.slice (some ⟨R, 0, none⟩) (s + 1) rc) (rowL (edgeB s tf) (s + 1) k) := by
                have h := HQ2.out
                rw [HQ.out] at h ⊢
                rw [row_some_no (s := s) (tf := tf) (i := k) hk0 (fun h => by have := h.1; have := HKS.out; omega)] at h
                exact h
              have HRW := Lib.hid hrow
              clear hrow
              have hA := (Below.refl ((w2.setCell ⟨R, k, none⟩ (.int .i64 0)).setCell ⟨R, q, none⟩ (.int .i64 0)).heap.size ((w2.setCell ⟨R, k, none⟩ (.int .i64 0)).setCell ⟨R, q, none⟩ (.int .i64 0))).alloc (Nat.le_refl _) (.cells #[.slice (some ⟨R, 0, none⟩) (s + 1) rc] 33)
              have hbA := HB2.out.trans (hA.mono HB2.out.size)
              have HO3 := Lib.hid (HTb.out.own hbA)
              have HR3 := Lib.hid (HRW.out.below hA)
              have HBA := Lib.hid hbA
              have HLE := Lib.hid (Nat.le_trans hw.size hbA.size)
              clear hA hbA
              have HR4 := Lib.hid (show R < (((w2.setCell ⟨R, k, none⟩ (.int .i64 0)).setCell ⟨R, q, none⟩ (.int .i64 0)).alloc (.cells #[.slice (some ⟨R, 0, none⟩) (s + 1) rc] 33)).heap.size from Nat.lt_of_lt_of_le hRs (by simp))
              have hnw := news_oneB ((w2.setCell ⟨R, k, none⟩ (.int .i64 0)).setCell ⟨R, q, none⟩ (.int .i64 0)) (.slice (some ⟨R, 0, none⟩) (s + 1) rc) 33
              have hsz : ((w2.setCell ⟨R, k, none⟩ (.int .i64 0)).setCell ⟨R, q, none⟩ (.int .i64 0)).heap.size = w2.heap.size := by simp
              rw [hsz] at hnw
              have HNW := Lib.hid hnw
              clear hnw hsz hRs
              go_wp2_with (
                at_builtin
                refine wpList_append_lies _ rfl _ _ 64 rfl w.heap.size 33 iR (.slice none 0 0) 1 24 Tryd.underlying64 HIR.out jz0 jz1 jz2 rfl (Nat.zero_lt_one) (.slice ua ul uc) k _ rfl HO3.out ⟨w2.heap.size, 0, none⟩ 1 1 [.slice (some ⟨R, 0, none⟩) (s + 1) rc] rfl rfl HNW.out (one_slice _ _ _) (Nat.zero_lt_one) (by unfold maxLen; omega) (by omega) HLE.out _ rfl ?_
                intro gg cap1 w4 hown1 hgrow hat hlt4
                obtain ⟨n1, n2⟩ := boxB_next hw (Nat.lt_of_lt_of_le hBw hw.size) HTb.out HBA.out hR1 HR4.out HR3.out hown1 hgrow (fun q e => by
                  simp only [Value.ownBlock, Option.some.injEq] at e
                  subst e
                  exact hat.imp id (fun e2 => Nat.le_of_eq e2.symm))
                clear hown1 hgrow hat hlt4 c1a c1b c2a c2b)
              go_roundw
              case rel => exact ⟨k + 1, _, by omega, rfl, by go_num, n1, n2⟩
              case measure => simp [intOf]; omega
    · have hdk : decide ((k : Int) < (s : Int) + 1) = false := decide_eq_false (by omega)
      have hks : k = s + 1 := by omega
      subst hks
      obtain ⟨G, capG, g, c, rfl, ht0, _, _⟩ := htb.done (by omega)
      have HTS := Lib.hid (show TW 2 w wo G g c (s + 1) (testsF (edgeB s tf) (xs.take 0)) from ⟨hw, ht0⟩)
      clear htb ht0 hlt hk hw
      have hcast : ((s + 1 : Nat) : Int) = (s : Int) + 1 := by omega
      rw [hcast]
      clear hcast
      go_wp2_with fail
      go_loopw [13] (fun i wr => ∃ k : Nat, k ≤ xs.length ∧ i = .int .i64 k ∧ TW 2 w wr G g c (s + 1) (testsF (edgeB s tf) (xs.take k))) (fun i _ => xs.length - (intOf i).toNat)
      case atStart => exact ⟨0, Nat.zero_le _, rfl, HTS.out⟩
      case round =>
        obtain ⟨k, hk, rfl, hts⟩ := hrel
        rename World => wo
        have HTS := Lib.hid hts
        clear hts
        by_cases hlt : k < xs.length
        ·
          obtain ⟨b, off, rfl, hb, hcs⟩ := HV.out.cells3 (by omega)
          obtain ⟨g1, g2, g3⟩ := hcs k hlt
          replace g1 := (HTS.out.1.cell (p := ⟨b, off + k * 3, none⟩) hb).trans g1
          replace g2 := (HTS.out.1.cell (p := ⟨b, off + k * 3 + 1, none⟩) hb).trans g2
          replace g3 := (HTS.out.1.cell (p := ⟨b, off + k * 3 + 2, none⟩) hb).trans g3
          clear hcs
          have S1 := take_snocG (0, 0, 0) xs k hlt
          have hmem : xs.getD k (0, 0, 0) ∈ xs := by simp only [List.getD, List.getElem?_eq_getElem hlt, Option.getD_some]; exact List.getElem_mem hlt
          have hq := HX.out _ hmem
          clear hmem
          generalize xs.getD k (0, 0, 0) = p at g1 g2 g3 S1 hq
          obtain ⟨x, y, z⟩ := p
          simp only at g1 g2 g3 hq
          obtain ⟨m1, m2, m3, m4, m5⟩ := hq
          obtain ⟨X, rfl⟩ : ∃ X : Nat, x = X := ⟨x.toNat, by omega⟩
          obtain ⟨Y, rfl⟩ : ∃ Y : Nat, y = Y := ⟨y.toNat, by omega⟩
          have HS := Lib.hid S1
          clear S1
          have hX : X < s + 1 := by omega
          have hY : Y < s + 1 := by omega
          have hXi : (X : Int) < (s : Int) + 1 := by omega
          have hYi : (Y : Int) < (s : Int) + 1 := by omega
          have hXY : X ≠ Y := by omega
          have hnz : IntKind.i64.wrap (-z) = -z := IntWalk.i64_in _ (by omega)
          have hA := (Below.refl wo.heap.size wo).alloc (Nat.le_refl _) (.cells #[.int .i64 (X : Int), .int .i64 (Y : Int), .int .i64 z] 25)
          have HTS1 := Lib.hid (HTS.out.below hA)
          have HL := Lib.hid (HTS.out.2.base_le X hX).2
          have hz0 : wo.heap.size < (wo.alloc (.cells #[.int .i64 (X : Int), .int .i64 (Y : Int), .int .i64 z] 25)).heap.size := by simp
          have hca := cell3a wo (.int .i64 (X : Int)) (.int .i64 (Y : Int)) (.int .i64 z) 25
          have hcb := cell3b wo (.int .i64 (X : Int)) (.int .i64 (Y : Int)) (.int .i64 z) 25
          have hcc := cell3c wo (.int .i64 (X : Int)) (.int .i64 (Y : Int)) (.int .i64 z) 25
          go_wp2_with fail
          clear hA
          generalize wo.alloc (.cells #[.int .i64 (X : Int), .int .i64 (Y : Int), .int .i64 z] 25) = w1 at HTS1 hz0 hca hcb hcc ⊢
          have HT0 := Lib.hid (show testsF (edgeB s tf) (xs.take k ++ [((X : Int), (Y : Int), z)]) = boundF (boundF (testsF (edgeB s tf) (xs.take k)) X Y z) Y X (-z) from tests_snoc' (edgeB s tf) (xs.take k) X Y z)
          generalize testsF (edgeB s tf) (xs.take k) = f at HTS1 HTS HT0
          obtain ⟨c1, c2, c3⟩ := HTS1.out.2.cell X Y hX hY
          have hg1 := HTS1.out.2.good X Y hX hY
          have hmn : Good (min (f X Y) z) := by unfold Good at hg1 ⊢; omega
          have hgc := (HTS1.out.2.set X Y hX hY _ hmn).2
          have HTS2 := Lib.hid (HTS1.out.set X Y hX hY _ hmn).drew
          have HL2 := HL.out
          have hgc := hgc.block wo.heap.size hz0 (fun e => by have := Option.some.inj e; omega)
          have hka : (w1.setCell ⟨g X, Y, none⟩ (.int .i64 (min (f X Y) z))).drew.cell? ⟨wo.heap.size, 0, none⟩ = some (.int .i64 (X : Int)) := (World.cell?_of_block (a := ⟨wo.heap.size, 0, none⟩) hgc).trans hca
          have hkb : (w1.setCell ⟨g X, Y, none⟩ (.int .i64 (min (f X Y) z))).drew.cell? ⟨wo.heap.size, 1, none⟩ = some (.int .i64 (Y : Int)) := (World.cell?_of_block (a := ⟨wo.heap.size, 1, none⟩) hgc).trans hcb
          have hkc : (w1.setCell ⟨g X, Y, none⟩ (.int .i64 (min (f X Y) z))).drew.cell? ⟨wo.heap.size, 2, none⟩ = some (.int .i64 z) := (World.cell?_of_block (a := ⟨wo.heap.size, 2, none⟩) hgc).trans hcc
          clear hgc HL2 hg1 hmn
          refine wp_region_still_tail 20 (by kernel_rfl) (by kernel_rfl) ?_
          simp only [List.take_succ_cons, List.take_zero, List.drop_succ_cons, List.drop_zero]
          repeat still_step
          still_call (still_eq (l00Min_any _ _ _))
          repeat still_step
          try refine wpStill_nil ?_
          change wpList _ _ _ _ _ w1.drew
          replace c1 : w1.drew.cell? ⟨G, X, none⟩ = some (.slice (some ⟨g X, 0, none⟩) (s + 1) (c X)) := c1
          replace c2 : w1.drew.cell? ⟨g X, Y, none⟩ = some (.int .i64 (f X Y)) := c2
          replace c3 : w1.drew.frozen? ⟨g X, Y, none⟩ = false := c3
          clear hca hcb hcc
          go_wp2_with fail
          clear c1 c2 c3
          generalize (w1.setCell ⟨g X, Y, none⟩ (.int .i64 (min (f X Y) z))).drew = w2 at HTS2 hka hkb hkc ⊢
          have HF2 := Lib.hid (show boundF f X Y z = upd f X Y (min (f X Y) z) from rfl)
          rw [← HF2.out] at HTS2
          generalize boundF f X Y z = f2 at HTS2 HT0 HF2
          obtain ⟨c1, c2, c3⟩ := HTS2.out.2.cell Y X hY hX
          have hg1 := HTS2.out.2.good Y X hY hX
          have hmn : Good (min (f2 Y X) (-z)) := by unfold Good at hg1 ⊢; omega
          have HTS3 := Lib.hid (HTS2.out.set Y X hY hX _ hmn).drew
          clear hg1 hmn
          refine wp_region_still_tail 21 (by kernel_rfl) (by kernel_rfl) ?_
          simp only [List.take_succ_cons, List.take_zero, List.drop_succ_cons, List.drop_zero]
          repeat still_step
          still_call (still_eq (l00Min_any _ _ _))
          repeat still_step
          try refine wpStill_nil ?_
          change wpList _ _ _ _ _ w2.drew
          replace c1 : w2.drew.cell? ⟨G, Y, none⟩ = some (.slice (some ⟨g Y, 0, none⟩) (s + 1) (c Y)) := c1
          replace c2 : w2.drew.cell? ⟨g Y, X, none⟩ = some (.int .i64 (f2 Y X)) := c2
          replace c3 : w2.drew.frozen? ⟨g Y, X, none⟩ = false := c3
          clear hka hkb hkc
          go_wp2
          go_roundw
          case rel =>
            refine ⟨k + 1, by omega, by go_num, ?_⟩
            rw [HS.out, HT0.out]
            exact HTS3.out
          case measure => simp [intOf]; omega
        · have hks : k = xs.length := by omega
          subst hks
          clear hk hlt
          have hts : TW 2 w wo G g c (s + 1) (allB (s + 1) (initB s tf xs) 0) := by
            have h := HTS.out
            rw [List.take_length] at h
            exact h
          have HTS := Lib.hid hts
          have HLB := Lib.hid (fun m => allB_low (initB_low tf HX.out) m)
          clear hts
          go_wp2_with fail
          go_loopw [15] (fun i wr => ∃ m : Nat, m ≤ s + 1 ∧ i = .int .i64 m ∧ TW 2 w wr G g c (s + 1) (allB (s + 1) (initB s tf xs) m)) (fun i _ => s + 1 - (intOf i).toNat)
          case atStart => exact ⟨0, Nat.zero_le _, rfl, HTS.out⟩
          case round =>
            obtain ⟨m, hm, rfl, hts⟩ := hrel
            rename World => wm
            have HTS := Lib.hid hts
            by_cases hlt : m < s + 1
            ·
              have hlow := HLB.out m
              have HTS := Lib.hid (show TW 2 w wm G g c (s + 1) (rowB (s + 1) (allB (s + 1) (initB s tf xs) m) m 0) from hts)
              clear hts
              have hdm : decide ((m : Int) < (s : Int) + 1) = true := decide_eq_true (by omega)
              have HF9 := Lib.hid (show allB (s + 1) (initB s tf xs) (m + 1) = rowB (s + 1) (allB (s + 1) (initB s tf xs) m) m (s + 1) from rfl)
              generalize allB (s + 1) (initB s tf xs) m = f9 at hlow HTS HF9
              have HLW := Lib.hid hlow
              clear hlow
              go_wp2_with fail
              go_loopw [16] (fun i wr => ∃ r : Nat, r ≤ s + 1 ∧ i = .int .i64 r ∧ TW 2 w wr G g c (s + 1) (rowB (s + 1) f9 m r)) (fun i _ => s + 1 - (intOf i).toNat)
              case atStart => exact ⟨0, Nat.zero_le _, rfl, HTS.out⟩
              case round =>
                obtain ⟨r, hr, rfl, hts⟩ := hrel
                rename World => wi
                have HTS := Lib.hid hts
                by_cases hltr : r < s + 1
                · have hlow := rowB_low HLW.out m r
                  have HTS := Lib.hid (show TW 2 w wi G g c (s + 1) (colB (rowB (s + 1) f9 m r) m r 0) from hts)
                  clear hts
                  have HF0 := Lib.hid (show rowB (s + 1) f9 m (r + 1) = colB (rowB (s + 1) f9 m r) m r (s + 1) from rfl)
                  generalize rowB (s + 1) f9 m r = f0 at hlow HTS HF0
                  have HL0 := Lib.hid hlow
                  clear hlow
                  have hdr : decide ((r : Int) < (s : Int) + 1) = true := decide_eq_true (by omega)
                  go_wp2_with fail
                  go_loopw [17] (fun i wr => ∃ k : Nat, k ≤ s + 1 ∧ i = .int .i64 k ∧ TW 2 w wr G g c (s + 1) (colB f0 m r k)) (fun i _ => s + 1 - (intOf i).toNat)
                  case atStart => exact ⟨0, Nat.zero_le _, rfl, HTS.out⟩
                  case round =>
                    obtain ⟨k, hk, rfl, hts⟩ := hrel
                    rename World => wk
                    by_cases hltk : k < s + 1
                    · have q := colB_low HL0.out m r k
                      have HF := Lib.hid (show colB f0 m r (k + 1) = stepB (colB f0 m r k) m r k from rfl)
                      obtain ⟨c1, c2, _⟩ := hts.2.cell r m hltr hlt
                      obtain ⟨d1, d2, _⟩ := hts.2.cell m k hlt hltk
                      have q1 := q r m hltr hlt
                      have q2 := q m k hlt hltk
                      have q3 := q r k hltr hltk
                      generalize colB f0 m r k = f at hts HF c1 c2 d1 d2 q1 q2 q3
                      have hFA : FAR = 1000000 := rfl
                      rw [hFA] at q1 q2 q3
                      obtain ⟨q11, q12⟩ := q1
                      obtain ⟨q21, q22⟩ := q2
                      obtain ⟨q31, q32⟩ := q3
                      clear q
                      have hr1 : (r : Int) < (s : Int) + 1 := by omega
                      have hm1 : (m : Int) < (s : Int) + 1 := by omega
                      have hk1 : (k : Int) < (s : Int) + 1 := by omega
                      have hdk : decide ((k : Int) < (s : Int) + 1) = true := decide_eq_true hk1
                      have HTS := Lib.hid hts
                      clear hts hFA
                      by_cases h1 : f r m < 1000000
                      · have hd1 : decide (f r m < 1000000) = true := decide_eq_true h1
                        by_cases h2 : f m k < 1000000
                        · have hd2 : decide (f m k < 1000000) = true := decide_eq_true h2
                          have hws : IntKind.i64.wrap (f r m + f m k) = f r m + f m k := IntWalk.i64_in _ (by omega)
                          have HF2 := Lib.hid (show stepB f m r k = upd f r k (max (-1000000) (min (f r k) (f r m + f m k))) by unfold stepB; rw [if_pos ⟨h1, h2⟩]; rfl)
                          have HX2 := Lib.hid (show Good (max (-1000000) (min (f r k) (f r m + f m k))) by unfold Good; omega)
                          clear q11 q12 q21 q22 q31 q32
                          go_wp2_with fail
                          go_quiet ((go_at_call 63; exact quiet_eq (l15Far_any _)))
                          rename_i nq
                          go_wp2_with fail
                          have HTS1 := Lib.hid (HTS.out.below (below_drewN' wk nq))
                          clear c1 c2 d1 d2 hd1 hd2
                          generalize wk.drewN nq = w1 at HTS1 ⊢
                          obtain ⟨c1, c2, _⟩ := HTS1.out.2.cell r m hltr hlt
                          obtain ⟨d1, d2, _⟩ := HTS1.out.2.cell m k hlt hltk
                          obtain ⟨e1, e2, e3⟩ := HTS1.out.2.cell r k hltr hltk
                          have HS := Lib.hid (HTS1.out.set r k hltr hltk _ HX2.out).drew
                          refine wp_region_still_tail 32 (by kernel_rfl) (by kernel_rfl) ?_
                          simp only [List.take_succ_cons, List.take_zero, List.drop_succ_cons, List.drop_zero]
                          repeat still_step
                          still_call (still_eq (l15Far_any _))
                          repeat still_step
                          still_call (still_eq (l00Min_any _ _ _))
                          repeat still_step
                          still_call (still_eq (l00Max_any _ _ _))
                          repeat still_step
                          try refine wpStill_nil ?_
                          change wpList _ _ _ _ _ w1.drew
                          replace e1 : w1.drew.cell? ⟨G, r, none⟩ = some (.slice (some ⟨g r, 0, none⟩) (s + 1) (c r)) := e1
                          replace e2 : w1.drew.cell? ⟨g r, k, none⟩ = some (.int .i64 (f r k)) := e2
                          replace e3 : w1.drew.frozen? ⟨g r, k, none⟩ = false := e3
                          clear c1 c2 d1 d2
                          go_wp2
                          go_roundw
                          case rel =>
                            refine ⟨k + 1, by omega, by go_num, ?_⟩
                            rw [HF.out, HF2.out]
                            exact HS.out
                          case measure => simp [intOf]; omega
                        · have hd2 : decide (f m k < 1000000) = false := decide_eq_false h2
                          have HF2 := Lib.hid (show stepB f m r k = f by unfold stepB; rw [if_neg (fun h => h2 h.2)])
                          go_wp2_with fail
                          go_quiet ((go_at_call 63; exact quiet_eq (l15Far_any _)))
                          rename_i nq
                          have HTS1 := Lib.hid (HTS.out.below (below_drewN' wk nq))
                          go_wp2
                          go_roundw
                          case rel =>
                            refine ⟨k + 1, by omega, by go_num, ?_⟩
                            rw [HF.out, HF2.out]
                            exact HTS1.out
                          case measure => simp [intOf]; omega
                      · have hd1 : decide (f r m < 1000000) = false := decide_eq_false h1
                        have HF2 := Lib.hid (show stepB f m r k = f by unfold stepB; rw [if_neg (fun h => h1 h.1)])
                        go_wp2_with fail
                        go_quiet ((go_at_call 63; exact quiet_eq (l15Far_any _)))
                        rename_i nq
                        have HTS1 := Lib.hid (HTS.out.below (below_drewN' wk nq))
                        go_wp2
                        go_roundw
                        case rel =>
                          refine ⟨k + 1, by omega, by go_num, ?_⟩
                          rw [HF.out, HF2.out]
                          exact HTS1.out
                        case measure => simp [intOf]; omega
                    · have HK := Lib.hid (show k = s + 1 by omega)
                      have hdk : decide ((k : Int) < (s : Int) + 1) = false := decide_eq_false (by omega)
                      have HTS := Lib.hid hts
                      clear hts
                      go_wp2
                      go_roundw
                      case rel => exact ⟨r + 1, by omega, by go_num, by rw [HF0.out]; have h := HTS.out; rw [HK.out] at h; exact h⟩
                      case measure => simp [intOf]; omega
                · have HK := Lib.hid (show r = s + 1 by omega)
                  have hdk : decide ((r : Int) < (s : Int) + 1) = false := decide_eq_false (by omega)
                  clear hts
                  go_wp2
                  go_roundw
                  case rel => exact ⟨m + 1, by omega, by go_num, by rw [HF9.out]; have h := HTS.out; rw [HK.out] at h; exact h⟩
                  case measure => simp [intOf]; omega
            ·
              have HK := Lib.hid (show m = s + 1 by omega)
              have hdm : decide ((m : Int) < (s : Int) + 1) = false := decide_eq_false (by omega)
              have hts0 : TW 2 w wm G g c (s + 1) (endB s tf xs) := by
                rw [HK.out] at hts
                exact hts
              have HTS := Lib.hid hts0
              clear hts hts0
              go_wp2_with fail
              go_loopw [18] (fun i wr => ∃ k : Nat, k ≤ s + 1 ∧ i = .int .i64 k ∧ TW 2 w wr G g c (s + 1) (endB s tf xs) ∧ ∀ a, a < k → 0 ≤ endB s tf xs a a) (fun i _ => s + 1 - (intOf i).toNat)
              case atStart => exact ⟨0, Nat.zero_le _, rfl, HTS.out, fun _ h => absurd h (Nat.not_lt_zero _)⟩
              case round =>
                obtain ⟨k, hk, rfl, hts, hpos⟩ := hrel
                have HP := Lib.hid hpos
                have HTS := Lib.hid hts
                clear hpos
                by_cases hltk : k < s + 1
                · have hdk : decide ((k : Int) < (s : Int) + 1) = true := decide_eq_true (by omega)
                  have hk1 : (k : Int) < (s : Int) + 1 := by omega
                  obtain ⟨c1, c2, c3⟩ := hts.2.cell k k hltk hltk
                  clear hts
                  by_cases hneg : endB s tf xs k k < 0
                  · have hdn : decide (endB s tf xs k k < 0) = true := decide_eq_true hneg
                    have HO := Lib.hid (okB_false hltk hneg)
                    clear hneg
                    go_wp2
                    go_ret2
                    exact ⟨_, by rw [HO.out]; rfl, HTS.out.1, G, capG, g, c, rfl, HTS.out.2⟩
                  · have hdn : decide (endB s tf xs k k < 0) = false := decide_eq_false hneg
                    have HN := Lib.hid hneg
                    clear hneg
                    go_wp2
                    go_roundw
                    case rel => exact ⟨k + 1, by omega, by go_num, HTS.out, fun a ha => by
                      by_cases e : a = k
                      · subst e; have := HN.out; omega
                      · exact HP.out a (by omega)⟩
                    case measure => simp [intOf]; omega
                · have HO := Lib.hid (okB_true (s := s) (tf := tf) (xs := xs) (fun a ha => HP.out a (by omega)))
                  have hdk : decide ((k : Int) < (s : Int) + 1) = false := decide_eq_false (by omega)
                  clear hts
                  go_wp2
                  go_ret2
                  exact ⟨_, by rw [HO.out]; rfl, HTS.out.1, G, capG, g, c, rfl, HTS.out.2⟩

end Go.Proofs.YtpgnndpjlcihiaaDoor

