/-
  The program's least sums: the walk of sumBounds. (Under way.)
-/
import Derived.Test.YtpgnndpjlcihiaaDoorSumBounds
import Derived.Deep.RegionLaw
namespace Go.Proofs.YtpgnndpjlcihiaaDoor
open Go.RowKit

theorem box_new (w : World) (x : Obj) (v : Value) (t : TypeId) : ((w.alloc x).alloc (.cells #[v] t)).cell? ⟨w.heap.size + 1, 0, none⟩ = some v := by
  rw [World.cell?_alloc_at _ _ _ _ (by simp)]; rfl
theorem box_thaw (w : World) (x : Obj) (v : Value) (t : TypeId) : ((w.alloc x).alloc (.cells #[v] t)).frozen? ⟨w.heap.size + 1, 0, none⟩ = false := by
  rw [World.frozen?_alloc_at _ _ _ _ (by simp)]
theorem two_first (w : World) (x y : Obj) : ((w.alloc x).alloc y).heap[w.heap.size]? = some x := by
  show ((w.heap.push x).push y)[w.heap.size]? = some x
  rw [Array.getElem?_push_lt (by simp)]
  simp
theorem tbox_start (w : World) (e t t2 : TypeId) (n : Nat) (f : Nat → Nat → Int) (v : Value) : TBbox e t ((w.alloc (.cells #[] t)).alloc (.cells #[v] t2)) w.heap.size (w.heap.size + 1) (.slice (some ⟨w.heap.size, 0, none⟩) 0 0) n 0 f :=
  ⟨fun _ => 0, fun _ => 0, ⟨rfl, .inr ⟨w.heap.size, 0, #[], rfl, Nat.le_refl _, by rw [two_first], Nat.le_refl _, Nat.zero_le _, rfl, rfl⟩⟩, fun _ h => absurd h (Nat.not_lt_zero _), fun _ _ h => absurd h (Nat.not_lt_zero _), fun _ h => absurd h (Nat.not_lt_zero _), fun _ h => absurd h (Nat.not_lt_zero _), by simp [Value.ownBlock]⟩

theorem tests_snoc (f : Nat → Nat → Int) (xs : List (Int × Int × Int)) (x y z : Int) : testsF f (xs ++ [(x, y, z)]) = boundF (boundF (testsF f xs) x.toNat y.toNat z) y.toNat x.toNat (-z) := by
  unfold testsF
  rw [List.foldl_append]
  rfl
theorem pow6 {m : Nat} (h : m ≤ 9) : 0 < (6 : Int) ^ m ∧ (6 : Int) ^ m ≤ 10077696 := by
  rcases (by omega : m = 0 ∨ m = 1 ∨ m = 2 ∨ m = 3 ∨ m = 4 ∨ m = 5 ∨ m = 6 ∨ m = 7 ∨ m = 8 ∨ m = 9) with rfl | rfl | rfl | rfl | rfl | rfl | rfl | rfl | rfl | rfl <;> decide +kernel
theorem cell3a (w : World) (x y z : Value) (t : TypeId) : (w.alloc (.cells #[x, y, z] t)).cell? ⟨w.heap.size, 0, none⟩ = some x := by
  rw [World.cell?_alloc_at _ _ _ _ rfl]; rfl
theorem cell3b (w : World) (x y z : Value) (t : TypeId) : (w.alloc (.cells #[x, y, z] t)).cell? ⟨w.heap.size, 1, none⟩ = some y := by
  rw [World.cell?_alloc_at _ _ _ _ rfl]; rfl
theorem cell3c (w : World) (x y z : Value) (t : TypeId) : (w.alloc (.cells #[x, y, z] t)).cell? ⟨w.heap.size, 2, none⟩ = some z := by
  rw [World.cell?_alloc_at _ _ _ _ rfl]; rfl

set_option maxRecDepth 100000 in
set_option maxHeartbeats 4000000 in
theorem sumBounds_any (s : Nat) (v : Value) (xs : List (Int × Int × Int)) (T : Nat) (lb : Array Value) (tf : Nat → Bool) (w : World) (hs1 : 1 ≤ s) (hs9 : s ≤ 9) (hv : SI P3 w v xs) (hx : fitT s xs)
    (eg : ∀ args w, (callFunc T args).run Tryd.prog w = .ok (.enter T args) w) (ht : ∀ (W : World) (k : Nat), Below w.heap.size w W → k < s → Calls Tryd.prog T (#[.int .i64 k] ++ lb) W fun e w' => e = .returned (.bool (tf k)) ∧ Below W.heap.size W w') :
    Calls Tryd.prog 37 #[.int .i64 s, v, .func (.func T) #[] lb] w fun e w' => ∃ v', e = .returned (.tuple #[v', .bool (okA s tf xs)]) ∧ Below w.heap.size w w' ∧
      (okA s tf xs = true → ∃ G capG g c, v' = .slice (some ⟨G, 0, none⟩) (s + 1) capG ∧ TBat 2 w' w.heap.size G g c (s + 1) (fun a b => if a = b then 0 else endA s tf xs a b)) := by
  obtain ⟨a, cap, rfl⟩ := hv.shape
  have hl := hv.len
  have HV := Lib.hid hv
  have HT := Lib.hid ht
  have HX := Lib.hid hx
  clear hv ht hx
  have hmf : ∀ (fn : Fn) (first cap : Array Value) (w : World), (Instr.makeFunc fn first cap).run Tryd.prog w = .ok (.func fn first cap) w := fun _ _ _ _ => rfl
  obtain ⟨i0, hi, iz0, iz1, iz2⟩ := info_parts infoRow
  have HI := Lib.hid hi
  clear hi
  go_enter Tryd.func37, Tryd.ntmps37
  go_wp2_with fail
  go_loopw [20] (fun i wr => ∃ (k : Nat) (u : Value), k ≤ s + 1 ∧ i = .int .i64 k ∧ Below w.heap.size w wr ∧ w.heap.size + 1 < wr.heap.size ∧ wr.cell? ⟨w.heap.size + 1, 0, none⟩ = some u ∧ wr.frozen? ⟨w.heap.size + 1, 0, none⟩ = false ∧ TBbox 2 33 wr w.heap.size (w.heap.size + 1) u (s + 1) k (fun _ _ => INF)) (fun i _ => s + 1 - (intOf i).toNat)
  case atStart =>
    exact ⟨0, _, Nat.zero_le _, rfl, ((Below.refl _ _).alloc (Nat.le_refl _) _).alloc (by simp) _, by simp, box_new w _ _ _ , box_thaw w _ _ _, tbox_start w _ _ _ _ _ _⟩
  case round =>
    obtain ⟨k, u, hk, rfl, hw, hsz, hc, hf, htb⟩ := hrel
    by_cases hlt : k < s + 1
    ·
      --[
      have HTb := Lib.hid htb
      have hu : ∃ ua ul uc, u = .slice ua ul uc := by
        obtain ⟨g, c, h1, _⟩ := htb
        rcases h1.2 with ⟨h, _⟩ | ⟨G, cap, cur, h, _⟩
        · exact ⟨_, _, _, h⟩
        · exact ⟨_, _, _, h⟩
      obtain ⟨ua, ul, uc, rfl⟩ := hu
      obtain ⟨g, c, htg⟩ := HTb.out
      have HTb := Lib.hid htg
      clear htb htg
      have HW1 := Lib.hid (show IntKind.i64.wrap ((s : Int) + 1) = ((s + 1 : Nat) : Int) by rw [IntWalk.i64_in _ (by omega)]; omega)
      have hB1 := below_new wr (.cells #[.int .i64 1099511627776] 2)
      have hc1 := (hB1.cell (p := ⟨w.heap.size + 1, 0, none⟩) hsz).trans hc
      have hf1 := (hB1.frozen (p := ⟨w.heap.size + 1, 0, none⟩) hsz).trans hf
      go_wp2_with fail
      go_region_law
        (first
          | (go_simp; go_at_call 61; rw [HW1.out]; refine (repeat_at wr.heap.size 1099511627776 (s + 1) (by omega) (by omega) _ (by unfold Good; omega) (cell_new _ _ _) (by simp)).mono ?_; rintro e w2 ⟨r, rc, rfl, hr1, hr2, hrv, hb2⟩; have hc2 := (hb2.cell (p := ⟨w.heap.size + 1, 0, none⟩) (Nat.lt_of_lt_of_le hsz hB1.size)).trans hc1; have hf2 := (hb2.frozen (p := ⟨w.heap.size + 1, 0, none⟩) (Nat.lt_of_lt_of_le hsz hB1.size)).trans hf1; have hB3 := (Below.refl w2.heap.size w2).alloc (Nat.le_refl _) (.cells #[.slice (some ⟨r, 0, none⟩) (s + 1) rc] 33); have hc3 := (hB3.cell (p := ⟨w.heap.size + 1, 0, none⟩) (Nat.lt_of_lt_of_le hsz (Nat.le_trans hB1.size hb2.size))).trans hc2; have hf3 := (hB3.frozen (p := ⟨w.heap.size + 1, 0, none⟩) (Nat.lt_of_lt_of_le hsz (Nat.le_trans hB1.size hb2.size))).trans hf2)
          | (have hown0 := HTb.out.own ((hB1.trans (hb2.mono hB1.size)).trans (hB3.mono (Nat.le_trans hB1.size hb2.size))); refine step_append_lies _ rfl _ _ 64 rfl w.heap.size 33 i0 (.slice none 0 0) 1 24 Tryd.underlying64 HI.out iz0 iz1 iz2 rfl (Nat.zero_lt_one) (.slice ua ul uc) k _ rfl hown0 ⟨w2.heap.size, 0, none⟩ 1 1 [.slice (some ⟨r, 0, none⟩) (s + 1) rc] rfl rfl (news_one _ _ _) (one_slice _ _ _) (Nat.zero_lt_one) (by unfold maxLen; omega) (by omega) (Nat.le_trans hw.size (Nat.le_trans hB1.size (Nat.le_trans hb2.size hB3.size))) _ rfl ?_; intro gg cap1 w4 hown1 hgrow hat hlt4; have hc4 := (hgrow.cell_far ⟨w.heap.size + 1, 0, none⟩ (Nat.lt_of_lt_of_le hsz (Nat.le_trans hB1.size (Nat.le_trans hb2.size hB3.size))) (fun e => HTb.out.2.2.2.2.2 e.symm)).trans hc3; have hf4 := (hgrow.frozen_far ⟨w.heap.size + 1, 0, none⟩ (Nat.lt_of_lt_of_le hsz (Nat.le_trans hB1.size (Nat.le_trans hb2.size hB3.size))) (fun e => HTb.out.2.2.2.2.2 e.symm)).trans hf3))
      all_goals
        obtain ⟨n1, n2, n3, n4, n5⟩ := box_next hw hsz HTb.out (w3 := w2.alloc (.cells #[.slice (some ⟨r, 0, none⟩) (s + 1) rc] 33)) ((hB1.trans (hb2.mono hB1.size)).trans (hB3.mono (Nat.le_trans hB1.size hb2.size))) (Nat.le_trans hB1.size hr1) (Nat.lt_of_lt_of_le hr2 hB3.size) (by rw [rowL_const]; exact (hrv.below hB3).mono (Nat.le_trans hw.size hB1.size)) hown1 hgrow (fun q e => by
          simp only [Value.ownBlock, Option.some.injEq] at e
          subst e
          exact hat.imp id (fun e2 => Nat.le_of_eq e2.symm)) hc4 hf4
        generalize w4.setCell ⟨w.heap.size + 1, 0, none⟩ (.slice (some ⟨gg, 0, none⟩) (k + 1) cap1) = w5 at n1 n2 n3 n4 n5 ⊢
        clear hown1 hgrow hat hlt4 hc4 hf4 hc3 hf3 hc2 hf2 hc1 hf1 hc hf hown0
        go_wp2
        go_roundw
        case rel => exact ⟨k + 1, _, by omega, by go_num, n1, n2, n3, n4, n5⟩
        case measure => simp [intOf]; omega
      --]
    · have hks : k = s + 1 := by omega
      subst hks
      obtain ⟨G, capG, g, c, rfl, ht0, hgB, hGB⟩ := htb.done (by omega)
      have hts : TS 2 w wr G capG g c (s + 1) (edgeA tf 0) := ⟨hw, hc, ht0, hgB⟩
      have HTS := Lib.hid hts
      have eb := bound_enters
      clear htb ht0 hgB hGB hts hw hc hf hsz hlt hk
      rw [show ((s + 1 : Nat) : Int) = (s : Int) + 1 by omega]
      go_wp2_with fail
      go_loopw [32] (fun i wr => ∃ k : Nat, k ≤ s ∧ i = .int .i64 k ∧ TS 2 w wr G capG g c (s + 1) (edgeA tf k)) (fun i _ => s - (intOf i).toNat)
      case atStart => exact ⟨0, Nat.zero_le _, rfl, HTS.out⟩
      case round =>
        obtain ⟨k, hk, rfl, hts⟩ := hrel
        have HTS := Lib.hid hts
        clear hts
        by_cases hlt : k < s
        ·
          --[
          cases htk : tf k with
          | false =>
            go_wp2_with (first
              | (go_at_fn T; refine (HT.out w2 k (HTS2.out.1) hlt).mono ?_; rintro e w3 ⟨rfl, hb3⟩; have HTS3 := Lib.hid (HTS2.out.below hb3))
              | (go_at_fn 62; refine (HTS.out.call (k + 1) k (by omega) (by omega) 0 _ _ (by go_num) rfl (by unfold Good; omega)).mono ?_; rintro e w2 ⟨rfl, hts2, _⟩; have HTS2 := Lib.hid hts2; clear hts2))
            go_roundw
            case rel =>
              first | refine ⟨k + 1, by omega, by go_num, ?_⟩ | refine ⟨_, _, _, _, _, _, _, _, _, _, _, _, _, _, _, _, _, _, ⟨k + 1, by omega, by go_num, ?_⟩, rfl⟩
              rw [show edgeA tf (k + 1) = boundF (edgeA tf k) (k + 1) k 0 by simp only [edgeA, htk, Bool.false_eq_true, if_false]]; exact HTS3.out
            case measure => simp [intOf]; omega
          | true =>
            go_wp2_with (first
              | (go_at_fn 62; refine (HTS3.out.call k (k + 1) (by omega) (by omega) 0 _ _ rfl (by go_num) (by unfold Good; omega)).mono ?_; rintro e w4 ⟨rfl, hts4, _⟩; have HTS4 := Lib.hid hts4; clear hts4)
              | (go_at_fn T; refine (HT.out w2 k (HTS2.out.1) hlt).mono ?_; rintro e w3 ⟨rfl, hb3⟩; have HTS3 := Lib.hid (HTS2.out.below hb3))
              | (go_at_fn 62; refine (HTS.out.call (k + 1) k (by omega) (by omega) 0 _ _ (by go_num) rfl (by unfold Good; omega)).mono ?_; rintro e w2 ⟨rfl, hts2, _⟩; have HTS2 := Lib.hid hts2; clear hts2))
            go_roundw
            case rel =>
              first | refine ⟨k + 1, by omega, by go_num, ?_⟩ | refine ⟨_, _, _, _, _, _, _, _, _, _, _, _, _, _, _, _, _, _, ⟨k + 1, by omega, by go_num, ?_⟩, rfl⟩
              rw [show edgeA tf (k + 1) = boundF (boundF (edgeA tf k) (k + 1) k 0) k (k + 1) 0 by simp only [edgeA, htk, if_true]]; exact HTS4.out
            case measure => simp [intOf]; omega
          --]
        · have hks : s = k := by omega
          subst hks
          clear hk hlt
          go_wp2_with fail
          go_loopw [51] (fun i wr => ∃ k : Nat, k ≤ xs.length ∧ i = .int .i64 k ∧ TS 2 w wr G capG g c (s + 1) (testsF (edgeA tf s) (xs.take k))) (fun i _ => xs.length - (intOf i).toNat)
          case atStart => exact ⟨0, Nat.zero_le _, rfl, HTS.out⟩
          case round =>
            obtain ⟨k, hk, rfl, hts⟩ := hrel
            have HTS := Lib.hid hts
            clear hts
            by_cases hlt : k < xs.length
            · obtain ⟨b, off, rfl, hb, hcs⟩ := HV.out.cells3 (by omega)
              obtain ⟨g1, g2, g3⟩ := hcs k hlt
              replace g1 := (HTS.out.1.cell (p := ⟨b, off + k * 3, none⟩) hb).trans g1
              replace g2 := (HTS.out.1.cell (p := ⟨b, off + k * 3 + 1, none⟩) hb).trans g2
              replace g3 := (HTS.out.1.cell (p := ⟨b, off + k * 3 + 2, none⟩) hb).trans g3
              clear hcs
              have S1 := take_snocG (0, 0, 0) xs k hlt
              have hmem : xs.getD k (0, 0, 0) ∈ xs := by simp only [List.getD, List.getElem?_eq_getElem hlt, Option.getD_some]; exact List.getElem_mem hlt
              have hq := HX.out _ hmem
              clear hmem
              generalize xs.getD k (0, 0, 0) = p at g1 g2 g3 S1 hq
              obtain ⟨x, y, z⟩ := p
              simp only at g1 g2 g3 hq
              have HS := Lib.hid S1
              clear S1
              have hA := (Below.refl wr.heap.size wr).alloc (Nat.le_refl _) (.cells #[.int .i64 x, .int .i64 y, .int .i64 z] 25)
              have HTS1 := Lib.hid (HTS.out.below hA)
              have HL := Lib.hid (HTS.out.2.2.1.base_le x.toNat (by omega)).2
              have hz0 : wr.heap.size < (wr.alloc (.cells #[.int .i64 x, .int .i64 y, .int .i64 z] 25)).heap.size := by simp
              go_wp2_with (first
                | (go_at_fn 62; refine (HTS2.out.call y.toNat x.toNat (by omega) (by omega) (-z) _ _ (by omega) (by omega) (by unfold Good; omega)).mono ?_; rintro e w3 ⟨rfl, hts3, _⟩; have HTS3 := Lib.hid hts3; clear hts3)
                | (go_at_fn 62; refine (HTS1.out.call x.toNat y.toNat (by omega) (by omega) z _ _ (by omega) (by omega) (by unfold Good; omega)).mono ?_; rintro e w2 ⟨rfl, hts2, hg2⟩; have HTS2 := Lib.hid hts2; clear hts2; have hgc := hg2.block _ hz0 (fun e => by have := Option.some.inj e; have := HL.out; omega); have hq1 := (World.cell?_of_block (a := ⟨wr.heap.size, 0, none⟩) hgc).trans (cell3a _ _ _ _ _); have hq2 := (World.cell?_of_block (a := ⟨wr.heap.size, 1, none⟩) hgc).trans (cell3b _ _ _ _ _); have hq3 := (World.cell?_of_block (a := ⟨wr.heap.size, 2, none⟩) hgc).trans (cell3c _ _ _ _ _); clear hgc hg2))
              go_roundw
              case rel =>
                refine ⟨k + 1, by omega, by go_num, ?_⟩
                rw [HS.out, tests_snoc]
                exact HTS3.out
              case measure => simp [intOf]; omega
            · have hks : k = xs.length := by omega
              subst hks
              clear hk hlt
              have hts : TS 2 w wr G capG g c (s + 1) (allA (s + 1) (initA s tf xs) 0) := by
                have h := HTS.out
                rw [List.take_length] at h
                exact h
              have HTS := Lib.hid hts
              have hbx := hts.2.1
              clear hts
              go_wp2_with fail
              clear hbx
              go_loopw [75] (fun i wr => ∃ m : Nat, m ≤ s + 1 ∧ i = .int .i64 m ∧ TS 2 w wr G capG g c (s + 1) (allA (s + 1) (initA s tf xs) m)) (fun i _ => s + 1 - (intOf i).toNat)
              case atStart => exact ⟨0, Nat.zero_le _, rfl, HTS.out⟩
              case round =>
                obtain ⟨m, hm, rfl, hts⟩ := hrel
                have HTS := Lib.hid hts
                have hbx := hts.2.1
                by_cases hlt : m < s + 1
                · have hlow := allA_low (init_low tf HX.out) m (by omega)
                  have h6 := pow6 (show m ≤ 9 by omega)
                  have hx0 : (0 : Int) ≤ 10000 * 6 ^ m := by omega
                  have HTS := Lib.hid (show TS 2 w wr G capG g c (s + 1) (rowA (s + 1) (allA (s + 1) (initA s tf xs) m) m 0) from hts)
                  clear hts
                  have hdm : decide ((m : Int) < (s : Int) + 1) = true := decide_eq_true (by omega)
                  go_wp2_with fail
                  clear hbx
                  go_loopw [80] (fun i wr => ∃ r : Nat, r ≤ s + 1 ∧ i = .int .i64 r ∧ TS 2 w wr G capG g c (s + 1) (rowA (s + 1) (allA (s + 1) (initA s tf xs) m) m r)) (fun i _ => s + 1 - (intOf i).toNat)
                  case atStart => exact ⟨0, Nat.zero_le _, rfl, HTS.out⟩
                  case round =>
                    obtain ⟨r, hr, rfl, hts⟩ := hrel
                    have HTS := Lib.hid hts
                    have hbx := hts.2.1
                    by_cases hltr : r < s + 1
                    · have hmid := rowA_mid hx0 hlt hlow r (by omega)
                      have HTS := Lib.hid (show TS 2 w wr G capG g c (s + 1) (colA (rowA (s + 1) (allA (s + 1) (initA s tf xs) m) m r) m r 0) from hts)
                      clear hts
                      have HF0 := Lib.hid (show rowA (s + 1) (allA (s + 1) (initA s tf xs) m) m (r + 1) = colA (rowA (s + 1) (allA (s + 1) (initA s tf xs) m) m r) m r (s + 1) from rfl)
                      generalize rowA (s + 1) (allA (s + 1) (initA s tf xs) m) m r = f0 at hmid HTS HF0
                      have hdr : decide ((r : Int) < (s : Int) + 1) = true := decide_eq_true (by omega)
                      go_wp2_with fail
                      clear hbx
                      go_loopw [85] (fun i wr => ∃ k : Nat, k ≤ s + 1 ∧ i = .int .i64 k ∧ TS 2 w wr G capG g c (s + 1) (colA f0 m r k)) (fun i _ => s + 1 - (intOf i).toNat)
                      case atStart => exact ⟨0, Nat.zero_le _, rfl, HTS.out⟩
                      case round =>
                        obtain ⟨k, hk, rfl, hts⟩ := hrel
                        by_cases hltk : k < s + 1
                        · have q := colA_mid hx0 hlt hltr hmid k (by omega)
                          have HF := Lib.hid (show colA f0 m r (k + 1) = stepA (colA f0 m r k) m r k from rfl)
                          obtain ⟨c1, c2, _⟩ := hts.2.2.1.cell r m hltr hlt
                          obtain ⟨d1, d2, _⟩ := hts.2.2.1.cell m k hlt hltk
                          obtain ⟨e1, e2, e3⟩ := hts.2.2.1.cell r k hltr hltk
                          have hbx := hts.2.1
                          have q1 := q r m hltr hlt
                          have q2 := q m k hlt hltk
                          have q3 := q r k hltr hltk
                          generalize colA f0 m r k = f at hts HF c1 c2 d1 d2 e1 e2 e3 q1 q2 q3
                          have q11 := q1.1
                          have q12 := q1.2.1
                          have q21 := q2.1
                          have q22 := q2.2.1
                          have q31 := q3.1
                          have q32 := q3.2.1
                          clear q q1 q2 q3
                          have hI : INF = 1099511627776 := rfl
                          have hr1 : (r : Int) < (s : Int) + 1 := by omega
                          have hm1 : (m : Int) < (s : Int) + 1 := by omega
                          have hk1 : (k : Int) < (s : Int) + 1 := by omega
                          have hdk : decide ((k : Int) < (s : Int) + 1) = true := decide_eq_true hk1
                          have HTS := Lib.hid hts
                          clear hts
                          by_cases h1 : f r m < INF
                          · have hd1 : decide (f r m < 1099511627776) = true := decide_eq_true h1
                            by_cases h2 : f m k < INF
                            · have hd2 : decide (f m k < 1099511627776) = true := decide_eq_true h2
                              have hwr : IntKind.i64.wrap (f r m + f m k) = f r m + f m k := IntWalk.i64_in _ (by omega)
                              have HF2 := Lib.hid (show stepA f m r k = upd f r k (min (f r k) (f r m + f m k)) by unfold stepA; rw [if_pos ⟨h1, h2⟩])
                              have HD := HTS.out.below ((Below.refl wr.heap.size wr).drew)
                              by_cases h3 : f r m + f m k < f r k
                              · have hx : Good (f r m + f m k) := by unfold Good; omega
                                have HS := Lib.hid (HD.grown r hltr (HD.2.2.1.set r k hltr hltk _ hx).2 (HD.2.2.1.set r k hltr hltk _ hx).1)
                                have HM := Lib.hid (show min (f r k) (f r m + f m k) = f r m + f m k by omega)
                                clear HD hI q11 q12 q21 q22 q31 q32
                                go_wp2
                                go_still_tail 29, (by kernel_rfl)
                                change wpList _ _ _ _ _ wr.drew
                                replace hbx : wr.drew.cell? ⟨w.heap.size + 1, 0, none⟩ = some (.slice (some ⟨G, 0, none⟩) (s + 1) capG) := hbx
                                replace c1 : wr.drew.cell? ⟨G, r, none⟩ = some (.slice (some ⟨g r, 0, none⟩) (s + 1) (c r)) := c1
                                replace c2 : wr.drew.cell? ⟨g r, m, none⟩ = some (.int .i64 (f r m)) := c2
                                replace d1 : wr.drew.cell? ⟨G, m, none⟩ = some (.slice (some ⟨g m, 0, none⟩) (s + 1) (c m)) := d1
                                replace d2 : wr.drew.cell? ⟨g m, k, none⟩ = some (.int .i64 (f m k)) := d2
                                replace e2 : wr.drew.cell? ⟨g r, k, none⟩ = some (.int .i64 (f r k)) := e2
                                replace e3 : wr.drew.frozen? ⟨g r, k, none⟩ = false := e3
                                have HS2 := Lib.hid (show TS 2 w (wr.drew.setCell ⟨g r, k, none⟩ (.int .i64 (f r m + f m k))) G capG g c (s + 1) (upd f r k (f r m + f m k)) from HS.out)
                                clear HS HTS e1
                                generalize wr.drew = w2 at hbx c1 c2 d1 d2 e2 e3 HS2 ⊢
                                go_wp2
                                go_roundw
                                case rel =>
                                  refine ⟨k + 1, by omega, by go_num, ?_⟩
                                  rw [HF.out, HF2.out, HM.out]
                                  exact HS2.out
                                case measure => simp [intOf]; omega
                              · have hx : Good (f r k) := by unfold Good; omega
                                have HS := Lib.hid (HD.grown r hltr (HD.2.2.1.set r k hltr hltk _ hx).2 (HD.2.2.1.set r k hltr hltk _ hx).1)
                                have HM := Lib.hid (show min (f r k) (f r m + f m k) = f r k by omega)
                                clear HD hI q11 q12 q21 q22 q31 q32
                                go_wp2
                                go_still_tail 29, (by kernel_rfl)
                                change wpList _ _ _ _ _ wr.drew
                                replace hbx : wr.drew.cell? ⟨w.heap.size + 1, 0, none⟩ = some (.slice (some ⟨G, 0, none⟩) (s + 1) capG) := hbx
                                replace c1 : wr.drew.cell? ⟨G, r, none⟩ = some (.slice (some ⟨g r, 0, none⟩) (s + 1) (c r)) := c1
                                replace c2 : wr.drew.cell? ⟨g r, m, none⟩ = some (.int .i64 (f r m)) := c2
                                replace d1 : wr.drew.cell? ⟨G, m, none⟩ = some (.slice (some ⟨g m, 0, none⟩) (s + 1) (c m)) := d1
                                replace d2 : wr.drew.cell? ⟨g m, k, none⟩ = some (.int .i64 (f m k)) := d2
                                replace e2 : wr.drew.cell? ⟨g r, k, none⟩ = some (.int .i64 (f r k)) := e2
                                replace e3 : wr.drew.frozen? ⟨g r, k, none⟩ = false := e3
                                have HS2 := Lib.hid (show TS 2 w (wr.drew.setCell ⟨g r, k, none⟩ (.int .i64 (f r k))) G capG g c (s + 1) (upd f r k (f r k)) from HS.out)
                                clear HS HTS e1
                                generalize wr.drew = w2 at hbx c1 c2 d1 d2 e2 e3 HS2 ⊢
                                go_wp2
                                go_roundw
                                case rel =>
                                  refine ⟨k + 1, by omega, by go_num, ?_⟩
                                  rw [HF.out, HF2.out, HM.out]
                                  exact HS2.out
                                case measure => simp [intOf]; omega
                            · have hd2 : decide (f m k < 1099511627776) = false := decide_eq_false h2
                              have HF2 := Lib.hid (show stepA f m r k = f by unfold stepA; rw [if_neg (by omega)])
                              go_wp2
                              go_roundw
                              case rel =>
                                refine ⟨k + 1, by omega, by go_num, ?_⟩
                                rw [HF.out, HF2.out]
                                exact HTS.out
                              case measure => simp [intOf]; omega
                          · have hd1 : decide (f r m < 1099511627776) = false := decide_eq_false h1
                            have HF2 := Lib.hid (show stepA f m r k = f by unfold stepA; rw [if_neg (by omega)])
                            go_wp2
                            go_roundw
                            case rel =>
                              refine ⟨k + 1, by omega, by go_num, ?_⟩
                              rw [HF.out, HF2.out]
                              exact HTS.out
                            case measure => simp [intOf]; omega
                        · have HK := Lib.hid (show k = s + 1 by omega)
                          have hdk : decide ((k : Int) < (s : Int) + 1) = false := decide_eq_false (by omega)
                          have HTS := Lib.hid hts
                          clear hts
                          go_wp2
                          go_roundw
                          case rel => exact ⟨r + 1, by omega, by go_num, by rw [HF0.out]; have h := HTS.out; rw [HK.out] at h; exact h⟩
                          case measure => simp [intOf]; omega
                    · have HK := Lib.hid (show r = s + 1 by omega)
                      have hdk : decide ((r : Int) < (s : Int) + 1) = false := decide_eq_false (by omega)
                      clear hts
                      go_wp2
                      go_roundw
                      case rel => exact ⟨m + 1, by omega, by go_num, by rw [show allA (s + 1) (initA s tf xs) (m + 1) = rowA (s + 1) (allA (s + 1) (initA s tf xs) m) m (s + 1) from rfl]; have h := HTS.out; rw [HK.out] at h; exact h⟩
                      case measure => simp [intOf]; omega
                · have HK := Lib.hid (show m = s + 1 by omega)
                  have hdm : decide ((m : Int) < (s : Int) + 1) = false := decide_eq_false (by omega)
                  have hts0 : TS 2 w wr G capG g c (s + 1) (diagF (endA s tf xs) 0) := by
                    rw [diagF_zero]
                    rw [HK.out] at hts
                    exact hts
                  have HTS := Lib.hid hts0
                  clear hts hts0
                  go_wp2_with fail
                  clear hbx
                  go_loopw [140] (fun i wr => ∃ k : Nat, k ≤ s + 1 ∧ i = .int .i64 k ∧ TS 2 w wr G capG g c (s + 1) (diagF (endA s tf xs) k) ∧ ∀ a, a < k → 0 ≤ endA s tf xs a a) (fun i _ => s + 1 - (intOf i).toNat)
                  case atStart => exact ⟨0, Nat.zero_le _, rfl, HTS.out, fun _ h => absurd h (Nat.not_lt_zero _)⟩
                  case round =>
                    obtain ⟨k, hk, rfl, hts, hpos⟩ := hrel
                    have HP := Lib.hid hpos
                    have hbx := hts.2.1
                    clear hpos
                    by_cases hltk : k < s + 1
                    · have hdk : decide ((k : Int) < (s : Int) + 1) = true := decide_eq_true (by omega)
                      have hk1 : (k : Int) < (s : Int) + 1 := by omega
                      obtain ⟨c1, c2, c3⟩ := hts.2.2.1.cell k k hltk hltk
                      rw [diagF_at] at c2
                      by_cases hneg : endA s tf xs k k < 0
                      · have hdn : decide (endA s tf xs k k < 0) = true := decide_eq_true hneg
                        have HO := Lib.hid (okA_false hltk hneg)
                        have HB := Lib.hid hts.1
                        clear hts hneg
                        go_wp2
                        go_ret2
                        exact ⟨_, by rw [HO.out]; rfl, HB.out, fun h => by rw [HO.out] at h; cases h⟩
                      · have hdn : decide (endA s tf xs k k < 0) = false := decide_eq_false hneg
                        have h0 : Good 0 := by unfold Good; omega
                        have HS := Lib.hid (hts.grown k hltk (hts.2.2.1.set k k hltk hltk 0 h0).2 (hts.2.2.1.set k k hltk hltk 0 h0).1)
                        have HN := Lib.hid hneg
                        clear hts hneg
                        go_wp2
                        go_roundw
                        case rel => exact ⟨k + 1, by omega, by go_num, by rw [diagF_succ]; exact HS.out, fun a ha => by
                          by_cases e : a = k
                          · subst e; have := HN.out; omega
                          · exact HP.out a (by omega)⟩
                        case measure => simp [intOf]; omega
                    · have HK := Lib.hid (show k = s + 1 by omega)
                      have hdk : decide ((k : Int) < (s : Int) + 1) = false := decide_eq_false (by omega)
                      have HO := Lib.hid (okA_true (s := s) (tf := tf) (xs := xs) (fun a ha => HP.out a (by omega)))
                      have HTS := Lib.hid hts
                      clear hts
                      go_wp2
                      go_ret2
                      exact ⟨_, by rw [HO.out]; rfl, HTS.out.1, fun _ => ⟨G, capG, g, c, rfl, HTS.out.2.2.1.congr (fun a b ha hb => by rw [HK.out, diagF_all _ _ _ _ ha])⟩⟩

end Go.Proofs.YtpgnndpjlcihiaaDoor
