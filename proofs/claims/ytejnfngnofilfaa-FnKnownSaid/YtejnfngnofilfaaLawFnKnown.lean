/-
  FnKnown: for all bytes it returns true, and leaves its arguments as they were. No condition.
-/
import Derived.Test.YtejnfngnofilfaaKnownPack
import Derived.Test.YtejnfngnofilfaaAppS
import Derived.Test.YtejnfngnofilfaaFewestFns
import Derived.Test.YtejnfngnofilfaaA2
import Derived.Deep.DeepCutAuto
import Derived.Test.YtejnfngnofilfaaLawBytes
namespace Go.Proofs.Ytejnfngnofilfaa
open Go.ChangeShapes Go.WideShapes Go.ChangeAt Go.RowKit

namespace fnKnown

theorem bne_size {k M : Nat} (h : k = M - 1) (h2 : 2 ≤ M) : ((k : Int) != (M : Int) - 1) = false := by
  rw [bne_eq_false_iff_eq]; omega
theorem size_le {k M : Nat} (h : k = M - 1) (h2 : M ≤ 16) : k ≤ 15 := by omega
theorem below_alloc1 (w : World) (o : Obj) : Below w.heap.size w (w.alloc o) := (Below.refl _ _).alloc (Nat.le_refl _) o
theorem any_step {fw : List (Int × Int)} {k : Nat} (hk : k < fw.length) {b : Bool} {v : Int} (h : b = (fw.take k).any fun p => p.1 == v) : (b || ((fw.getD k (0, 0)).1 == v)) = (fw.take (k + 1)).any fun p => p.1 == v := by
  rw [take_snocG (0, 0) fw k hk, List.any_append, h]
  simp

set_option maxRecDepth 100000 in
set_option maxHeartbeats 100000000 in
theorem walk (v u : Value) (n m : Nat) (w : World) (hv : BI w v n) (hu : BI w u m) :
    Calls Try.prog 6 #[v, u] w fun e w' => e = .returned (.bool true) ∧ Below w.heap.size w w' := by
  have HV := Lib.hid hv
  have HU := Lib.hid hu
  clear hv hu
  obtain ⟨i0, hi, iz0, iz1, iz2⟩ := info_parts infoTrial2
  have HI := Lib.hid hi
  clear hi
  go_enter Try.func6, Try.ntmps6
  go_wp2_with fail
  refine (a2Long_any v u n m _ HV.out HU.out).mono ?_
  rintro e w' ⟨lg, rfl, rfl⟩
  cases lg with
  | true =>
    go_wp2
    go_ret
    exact ⟨rfl, Below.refl _ _⟩
  | false =>
    go_wp2_with fail
    refine (a2At_any u m 4 _ HU.out).mono ?_
    rintro e w1 ⟨y, rfl, y0, y1, hb1⟩
    have y2 := y1 (by omega)
    clear y1
    obtain ⟨D, hD⟩ : ∃ D : Nat, D = y.toNat + 1 := ⟨_, rfl⟩
    have hwD : IntKind.i64.wrap (1 + y) = (D : Int) := by rw [IntWalk.i64_in _ (by omega)]; omega
    have hD1 : 1 ≤ D := by omega
    have hD4 : D ≤ 4 := by omega
    clear hD
    have HDB := Lib.hid (show inB 1 4 (D : Int) = true by simp [inB]; omega)
    go_wp2_with fail
    refine (a2Stuck_any v n D _ (HV.out.below hb1) HDB.out).mono ?_
    rintro e w2 ⟨v2, xs, rfl, ho2, hok, hb2⟩
    obtain ⟨a2, cap2, hsh⟩ := ho2.si.shape
    subst hsh
    have HOK := Lib.hid hok
    have HO := Lib.hid ho2.si
    have HB2 := Lib.hid (bthen hb1 hb2)
    clear ho2 hok hb1 hb2 hwD y0 y2
    go_wp2_with fail
    refine (a2Addresses_any u m D _ (HU.out.below HB2.out) HDB.out).mono ?_
    rintro e w3 ⟨v3, ys, rfl, ho3, hy, hyl, hb3⟩
    obtain ⟨a3, cap3, hsh⟩ := ho3.ri.shape
    subst hsh
    have HR3 := Lib.hid ho3.ri
    have HO3 := Lib.hid (HO.out.below hb3)
    have HB3 := Lib.hid (bthen HB2.out hb3)
    have F1 := runs_val HOK.out hy hyl
    have F2 := runs_known HDB.out HOK.out hy hyl
    have F3 := runs_contrary HDB.out HOK.out hy hyl
    have F4 := runs_fewest HDB.out HOK.out hy hyl
    have F5 := runs_next HDB.out HOK.out hy hyl
    have F6 := runs_bad HDB.out HOK.out hy hyl
    have F7 := fit_known HOK.out ys
    have F8 := known_size D (runs D xs ys)
    have hM : wrap64 (2 ^ D) = ((2 ^ D : Nat) : Int) := by
      have h16 := pow4 hD4
      have e : (2 : Int) ^ D = ((2 ^ D : Nat) : Int) := by simp
      rw [e]
      generalize 2 ^ D = M at h16 ⊢
      exact IntWalk.wrap64_in _ (by omega)
    have hM16 := pow4 hD4
    have hM2 : 2 ≤ 2 ^ D := by
      obtain ⟨k, rfl⟩ : ∃ k, D = k + 1 := ⟨D - 1, by omega⟩
      have := Nat.one_le_two_pow (n := k)
      rw [Nat.pow_succ]; omega
    have hlen := runs_len D xs ys
    have C1 := implRunTrials_any D _ xs _ ys w3 HO3.out HR3.out
    rw [F1] at C1
    generalize fewTo (seenTo D (runs D xs ys)) (2 ^ D) = fw at F4 F7
    generalize known D (runs D xs ys) = kn at F2 F7 F8
    generalize runs D xs ys = ts at C1 F2 F3 F4 F5 F6 hlen
    generalize 2 ^ D = M at F5 F6 F8 hM hM16 hM2
    simp only at C1
    have D1 := Lib.hid C1
    have G2 := Lib.hid F2
    have G3 := Lib.hid F3
    have G4 := Lib.hid F4
    have G5 := Lib.hid F5
    have G6 := Lib.hid F6
    have G7 := Lib.hid F7
    have HM := Lib.hid hM
    have HLN := Lib.hid hlen
    clear ho3 hb3 hy C1 F1 F2 F3 F4 F5 F6 F7 hM hlen
    go_wp2_with fail
    refine D1.out.mono ?_
    rintro e w4 ⟨v4, rfl, ho4, hb4⟩
    obtain ⟨a4, cap4, hsh⟩ := ho4.si.shape
    rw [HLN.out] at hsh
    subst hsh
    have HT4 := Lib.hid ho4.si
    have HO4 := Lib.hid (HO3.out.below hb4)
    have HR4 := Lib.hid (HR3.out.below hb4)
    have HB4 := Lib.hid (bthen HB3.out hb4)
    clear ho4 hb4
    have C2 := implKnownSwitches_any D _ ts w4 HT4.out
    rw [G2.out] at C2
    simp only at C2
    have D2 := Lib.hid C2
    clear C2
    go_wp2_with fail
    refine D2.out.mono ?_
    rintro e w5 ⟨rfl, hb5⟩
    have HT5 := Lib.hid (HT4.out.below hb5)
    have HB5 := Lib.hid (bthen HB4.out hb5)
    have HO5 := Lib.hid (HO4.out.below hb5)
    have HR5 := Lib.hid (HR4.out.below hb5)
    clear hb5
    have C3 := implFirstContrary_any D _ ts w5 HT5.out
    rw [G3.out] at C3
    simp only at C3
    have D3 := Lib.hid C3
    clear C3
    go_wp2_with fail
    refine D3.out.mono ?_
    rintro e w6 ⟨rfl, hb6⟩
    have HT6 := Lib.hid (HT5.out.below hb6)
    have HB6 := Lib.hid (bthen HB5.out hb6)
    have HO6 := Lib.hid (HO5.out.below hb6)
    have HR6 := Lib.hid (HR5.out.below hb6)
    clear hb6
    have C4 := implFewestStuck_any D _ ts w6 HT6.out
    rw [G4.out] at C4
    simp only at C4
    have D4 := Lib.hid C4
    clear C4
    go_wp2_with fail
    refine D4.out.mono ?_
    rintro e w7 ⟨v7, rfl, ho7, hb7⟩
    obtain ⟨a7, cap7, hsh⟩ := ho7.si.shape
    subst hsh
    have HF7 := Lib.hid ho7.si
    have HT7 := Lib.hid (HT6.out.below hb7)
    have HB7 := Lib.hid (bthen HB6.out hb7)
    have HO7 := Lib.hid (HO6.out.below hb7)
    have HR7 := Lib.hid (HR6.out.below hb7)
    have lO := HO7.out.len
    have lF := HF7.out.len
    clear ho7 hb7
    have hM1 : IntKind.i64.wrap ((M : Int) - 1) = (M : Int) - 1 := IntWalk.i64_in _ (by omega)
    have hMo := HM.out
    have hSM := bne_size F8 hM2
    have hkn := size_le F8 hM16
    clear F8
    go_wp2
    clear hSM hMo
    go_loop [16] (fun i => ∃ j : Nat, j ≤ kn.size ∧ i = .int .i64 j) (fun i => kn.size - (intOf i).toNat)
    case atStart => exact ⟨0, Nat.zero_le _, rfl⟩
    case round =>
      obtain ⟨j, hj, rfl⟩ := hrel
      by_cases hlt : j < kn.size
      · have hd : decide ((j : Int) < (kn.size : Int)) = true := decide_eq_true (by omega)
        have hwj : IntKind.i64.wrap ((j : Int) + 1) = (j : Int) + 1 := IntWalk.i64_in _ (by omega)
        have FT := G7.out j hlt
        rw [show ((j + 1 : Nat) : Int) = (j : Int) + 1 by omega] at FT
        generalize hQ : (fw.any fun p => p.1 == (j : Int) + 1) = told at FT
        generalize hS : sideF xs ((j : Int) + 1) = sd at FT
        have HQ := Lib.hid hQ
        have HS := Lib.hid hS
        have HFT := Lib.hid FT
        clear hQ hS FT
        go_wp2_with fail
        go_loop [17, 18] (fun s i => ∃ (k : Nat) (s' : Int), k ≤ xs.length ∧ i = .int .i64 k ∧ s = .int .i64 s' ∧ Hid (sideTo xs ((j : Int) + 1) (-1) k s')) (fun _ i => xs.length - (intOf i).toNat)
        case atStart => exact ⟨0, -1, Nat.zero_le _, rfl, rfl, Lib.hid (.inl ⟨rfl, fun j hj => absurd hj (Nat.not_lt_zero _)⟩)⟩
        case round =>
          obtain ⟨k, s, hk, rfl, rfl, HST⟩ := hrel
          by_cases hlk : k < xs.length
          · have hdk : decide ((k : Int) < (xs.length : Int)) = true := decide_eq_true (by omega)
            obtain ⟨b, off, rfl, hbb, hc⟩ := HO7.out.cells2 (by omega)
            obtain ⟨g1, g2⟩ := hc k hlk
            clear hc
            generalize hp : xs.getD k (0, 0) = p at g1 g2
            have HP := Lib.hid hp
            clear hp
            obtain ⟨y, z⟩ := p
            simp only at g1 g2
            by_cases hyv : y = (j : Int) + 1
            · have he : (y == (j : Int) + 1) = true := by simp [hyv]
              have HX := Lib.hid hyv
              clear hyv
              go_wp2
              go_round
              case rel =>
                refine ⟨k + 1, z, by omega, by go_num, rfl, Lib.hid ?_⟩
                have := sideTo_hit (dg := -1) (show (xs.getD k (0, 0)).1 = (j : Int) + 1 by rw [HP.out]; exact HX.out)
                rw [HP.out] at this
                exact this
              case measure => simp [intOf]; omega
            · have he : (y == (j : Int) + 1) = false := by simp [hyv]
              have HX := Lib.hid hyv
              clear hyv
              go_wp2
              go_round
              case rel => exact ⟨k + 1, s, by omega, by go_num, rfl, Lib.hid (sideTo_skip HST.out (by rw [HP.out]; exact HX.out))⟩
              case measure => simp [intOf]; omega
          · have hdk : decide ((k : Int) < (xs.length : Int)) = false := decide_eq_false (by omega)
            have hkx : k = xs.length := by omega
            have hfin := HST.out
            rw [hkx] at hfin
            have hsd := sideTo_neg HOK.out hfin
            rw [HS.out] at hsd
            subst hsd
            clear hfin hkx
            go_wp2_with fail
            go_loop [19, 20] (fun t i => ∃ (l : Nat) (b : Bool), l ≤ fw.length ∧ i = .int .i64 l ∧ t = .bool b ∧ Hid (b = (fw.take l).any fun p => p.1 == (j : Int) + 1)) (fun _ i => fw.length - (intOf i).toNat)
            case atStart => exact ⟨0, false, Nat.zero_le _, rfl, rfl, Lib.hid (by simp)⟩
            case round =>
              obtain ⟨l, b, hl, rfl, rfl, HBL⟩ := hrel
              by_cases hll : l < fw.length
              · have hdl : decide ((l : Int) < (fw.length : Int)) = true := decide_eq_true (by omega)
                obtain ⟨q, off, rfl, hbb, hc⟩ := HF7.out.cells2 (by omega)
                obtain ⟨g1, g2⟩ := hc l hll
                clear hc
                have HN := Lib.hid (any_step hll HBL.out)
                generalize hp : fw.getD l (0, 0) = p at g1 g2 HN
                clear hp
                obtain ⟨y, z⟩ := p
                simp only at g1 g2 HN
                generalize hE : (y == (j : Int) + 1) = ey at HN
                cases b with
                | true =>
                  go_wp2
                  go_round
                  case rel => exact ⟨l + 1, true, by omega, by go_num, rfl, Lib.hid HN.out⟩
                  case measure => simp [intOf]; omega
                | false =>
                  cases ey with
                  | true =>
                    go_wp2
                    go_round
                    case rel => exact ⟨l + 1, true, by omega, by go_num, rfl, Lib.hid HN.out⟩
                    case measure => simp [intOf]; omega
                  | false =>
                    go_wp2
                    go_round
                    case rel => exact ⟨l + 1, false, by omega, by go_num, rfl, Lib.hid HN.out⟩
                    case measure => simp [intOf]; omega
              · have hdl : decide ((l : Int) < (fw.length : Int)) = false := decide_eq_false (by omega)
                have hlx : l = fw.length := by omega
                have hb := HBL.out
                rw [hlx, List.take_length, HQ.out] at hb
                subst hb
                clear hlx
                have HC := Lib.hid (show ∃ c : Int, (((kn[j]'hlt).toNat : Nat) : Int) = c ∧ fitL c b s from ⟨_, rfl, HFT.out⟩)
                obtain ⟨c, hc, hf⟩ := HC.out
                rcases hf with ⟨rfl, rfl, rfl⟩ | ⟨rfl, rfl, rfl⟩ | ⟨rfl, rfl, rfl⟩ | ⟨rfl, rfl, hs⟩ | ⟨rfl, rfl, hs⟩ | ⟨rfl, rfl⟩
                · go_wp2
                  go_round
                  case rel => exact ⟨j + 1, by omega, by rw [show ((j + 1 : Nat) : Int) = (j : Int) + 1 by omega]⟩
                  case measure => simp [intOf]; omega
                · go_wp2
                  go_round
                  case rel => exact ⟨j + 1, by omega, by rw [show ((j + 1 : Nat) : Int) = (j : Int) + 1 by omega]⟩
                  case measure => simp [intOf]; omega
                · go_wp2
                  go_round
                  case rel => exact ⟨j + 1, by omega, by rw [show ((j + 1 : Nat) : Int) = (j : Int) + 1 by omega]⟩
                  case measure => simp [intOf]; omega
                · have hs2 : (s == 1) = false := by simp [hs]
                  go_wp2
                  go_round
                  case rel => exact ⟨j + 1, by omega, by rw [show ((j + 1 : Nat) : Int) = (j : Int) + 1 by omega]⟩
                  case measure => simp [intOf]; omega
                · have hs2 : (s == 0) = false := by simp [hs]
                  go_wp2
                  go_round
                  case rel => exact ⟨j + 1, by omega, by rw [show ((j + 1 : Nat) : Int) = (j : Int) + 1 by omega]⟩
                  case measure => simp [intOf]; omega
                · go_wp2
                  go_round
                  case rel => exact ⟨j + 1, by omega, by rw [show ((j + 1 : Nat) : Int) = (j : Int) + 1 by omega]⟩
                  case measure => simp [intOf]; omega
      · have hd : decide ((j : Int) < (kn.size : Int)) = false := decide_eq_false (by omega)
        have C5 := implNextAddress_any D _ ts w7 HT7.out
        rcases G5.out with hn | ⟨a, hn, ha, hm, hz⟩
        · rw [hn] at C5
          simp only at C5
          have D5 := Lib.hid C5
          clear C5 hn
          go_wp2_with fail
          refine D5.out.mono ?_
          rintro e w8 ⟨rfl, hb8⟩
          go_wp2
          go_ret
          exact ⟨rfl, bthen HB7.out hb8⟩
        · rw [hn] at C5
          simp only at C5
          have D5 := Lib.hid C5
          have HM2 := Lib.hid hm
          have HZ := Lib.hid hz
          have hp0 : decide ((a : Int) < 0) = false := decide_eq_false (by omega)
          have hpM : decide ((M : Int) ≤ (a : Int)) = false := decide_eq_false (by omega)
          have hpM2 : decide (M ≤ a) = false := decide_eq_false (by omega)
          clear C5 hn hm hz
          go_wp2_with fail
          refine D5.out.mono ?_
          rintro e w8 ⟨rfl, hb8⟩
          have HB8 := Lib.hid (bthen HB7.out hb8)
          have HR8 := Lib.hid (HR7.out.below hb8)
          have HT8 := Lib.hid (HT7.out.below hb8)
          clear hb8
          by_cases hl0 : ys.length = 0
          · have ha0 := HZ.out hl0
            have hqa : ((a : Int) == 0) = true := by rw [ha0]; rfl
            have hqa2 : decide (a = 0) = true := by rw [ha0]; rfl
            have hq : ((ys.length : Int) == 0) = true := by rw [beq_iff_eq]; omega
            have HL0 := Lib.hid hl0
            clear hl0 ha0
            have hMo := HM.out
            go_wp2_with fail
            refine (a2Has_any _ ys _ _ HR8.out).mono ?_
            rintro e w9 ⟨rfl, rfl⟩
            rw [HM2.out]
            go_wp2
            go_ret
            exact ⟨rfl, HB8.out⟩
          · have hq : ((ys.length : Int) == 0) = false := by rw [beq_eq_false_iff_ne]; omega
            obtain ⟨b1, b2, b3, b4, b5⟩ := G6.out (by omega)
            obtain ⟨bt, off, ha4, hbb, hc⟩ := HT8.out.cells2 (by rw [HLN.out]; omega)
            obtain ⟨g1, g2⟩ := hc 0 (by rw [HLN.out]; omega)
            clear hc
            subst ha4
            generalize hp : ts.getD 0 (0, 0) = p at g1 g2 b1 b2 b3 b4 b5
            have HP := Lib.hid hp
            have HB5 := Lib.hid b5
            clear hp b5
            obtain ⟨x0, e0⟩ := p
            simp only at g1 g2 b1 b2 b3 b4 HB5
            have hw1 : IntKind.i64.wrap ((M : Int) - 1 - e0) = (M : Int) - 1 - e0 := IntWalk.i64_in _ (by omega)
            have HGD := Lib.hid (show ∀ y ∈ P2.f (x0, (M : Int) - 1 - e0), Good y from fun y hy => by
              have hy : y ∈ [x0, (M : Int) - 1 - e0] := hy
              simp at hy
              rcases hy with rfl | rfl <;> (unfold Good; omega))
            have HLA : Hid (([] : List (Int × Int)).length + ts.length ≤ 1099511627776) := Lib.hid (by rw [HLN.out]; simp; omega)
            have HLB : Hid (ts.length ≤ 1099511627776) := Lib.hid (by rw [HLN.out]; omega)
            have HMC := Lib.hid (fun v W (h : SI P2 W v (ts ++ [(x0, (M : Int) - 1 - e0)])) => implFirstContrary_any D v _ W h)
            rw [HB5.out] at HMC
            have hMo := HM.out
            go_wp2_with fail
            refine (a2Has_any _ ys _ _ HR8.out).mono ?_
            rintro e w9 ⟨rfl, rfl⟩
            rw [HM2.out]
            have HBA := Lib.hid (show Below w8.heap.size w8 (w8.alloc (.cells #[] 60)) from (Below.refl _ _).alloc (Nat.le_refl _) _)
            go_upto_region 37 with (
              at_builtin
              refine wpList_appL (E := P2) rfl _ _ 38 rfl 60 i0 _ Try.underlying38 HI.out iz0 rfl iz1 16 iz2 (by decide) w8.heap.size (.slice (some ⟨w8.heap.size, 0, none⟩) 0 0) [] rfl (OS.lit0 _ _ _ (Nat.le_refl _)) _ ts rfl (HT8.out.below HBA.out) ?_ HBA.out.size ?_
              · exact HLA.out
              intro v9 w9 h1 h2
              have hb9 : Below w8.heap.size w8 w9 := bgrown HBA.out h2 (fun q hq => Nat.le_of_eq (by simpa [Value.ownBlock] using hq))
              rw [List.nil_append] at h1
              have hz9 := hb9.size
              have HQ9 := Lib.hid (h1.below ((Below.refl w9.heap.size w9).alloc (Nat.le_refl _) (.cells #[.int .i64 x0, .int .i64 ((M : Int) - 1 - e0)] 60)))
              have HT9 := Lib.hid (HT8.out.below hb9)
              have HB9 := Lib.hid (bthen HB8.out hb9)
              have HC9 := Lib.hid hb9
              have f1 := (hb9.cell (p := ⟨bt, off, none⟩) hbb).trans (by simpa using g1)
              have f2 := (hb9.cell (p := ⟨bt, off + 1, none⟩) hbb).trans (by simpa using g2)
              clear h1 h2 hb9 g1 g2)
            go_wp2_with (
              at_builtin
              refine wpList_appS (E := P2) rfl _ _ 38 rfl 60 _ i0 _ Try.underlying38 HI.out iz0 rfl iz1 16 iz2 (by decide) w8.heap.size _ ts rfl HQ9.out (x0, (M : Int) - 1 - e0) _ rfl _ (by simp) rfl HGD.out ?_ ?_ ?_
              · exact HLB.out
              · exact Nat.le_trans hz9 (below_alloc1 _ _).size
              intro v10 w10 h1 h2 h3
              have hb10 : Below w8.heap.size w8 w10 := bgrown (bthen HC9.out ((Below.refl w9.heap.size w9).alloc (Nat.le_refl _) _)) h2 (fun q hq => (HQ9.out.lt q hq).1)
              have HB10 := Lib.hid (bthen HB8.out hb10)
              have C6 := HMC.out v10 w10 h1.si
              obtain ⟨a10, c10, hs10⟩ := h1.si.shape
              rw [show (ts ++ [(x0, (M : Int) - 1 - e0)]).length = ts.length + 1 by simp] at hs10
              subst hs10
              have D6 := Lib.hid C6
              clear h1 h2 h3 hb10 C6)
            refine D6.out.mono ?_
            rintro e w11 ⟨rfl, hb11⟩
            have HB11 := Lib.hid (bthen HB10.out hb11)
            go_wp2
            go_ret
            exact ⟨rfl, HB11.out⟩

set_option maxRecDepth 100000 in
theorem lifted (os : Os) (started : os.Started) (H : Type) (enc : TypeId × Value → H) :
    ReturnsInHanded {} Try.checked os 6 .any (Rows.fnKnownSpec.pre6 enc Try.prog Try.f6 Rows.fnKnownRow.domain false) (Rows.fnKnownSpec.post enc Try.prog Try.f6 false true false false) := by
  refine returnsInHanded_of_change (C := Try.checked) own started (by kernel_rfl) Try.func6
    (ChangeSpec.witness6 (enc := enc) (C := Try.checked) false ⟨#[], #[.slice none 0 0, .slice none 0 0], []⟩ 8 (by kernel_rfl) (by kernel_rfl) (by kernel_rfl) (by kernel_rfl)) ?_
  intro W base args ds gs before hval0 hW _ _
  have hval : ∀ (j : Nat) t v, Try.f6.params[j]? = some t → args[j]? = some v → Value.okWide Try.prog W .any base t v := hval0
  have hW' := hW
  obtain ⟨p, q, hA0, hV, rfl, _, _⟩ := hW
  have hA : DataW.TrodAll enc Try.prog W 0 (fun _ => true) true Try.f6.params.toList args.toList ds p := hA0
  obtain ⟨rfl, rfl⟩ := trodVars_none hV
  have hlt0 : ∀ x ∈ p, x.block < W.heap.size := fun x hx => by simpa using hW'.lt x (by simpa using hx)
  rw [Try.params6] at hA hval
  obtain ⟨b0, vs0, d0, ds0, p0, q0, hargs0, rfl, rfl, h0, r0⟩ := trodAll_cons hA
  obtain ⟨b1, vs1, d1, ds1, p1, q1, hargs1, rfl, rfl, h1, r1⟩ := trodAll_cons r0
  obtain ⟨e1, rfl, e2⟩ := trodAll_nil r1
  have hargs : args = #[b0, b1] := by
    cases args
    simp_all
  subst hargs
  obtain ⟨n0, hx0⟩ := open_BI Try.underlying42 Try.underlying5 (by kernel_rfl) (hval 0 _ b0 rfl rfl) h0 (fun x hx => hlt0 x (by simp [hx]))
  obtain ⟨n1, hx1⟩ := open_BI Try.underlying42 Try.underlying5 (by kernel_rfl) (hval 1 _ b1 rfl rfl) h1 (fun x hx => hlt0 x (by simp [hx]))
  refine (walk b0 b1 n0 n1 W hx0 hx1).mono fun e W' ⟨he, hb⟩ => ?_
  subst he
  exact ⟨_, rfl, law_post laidOut (by decide +kernel) (by kernel_rfl) Try.underlying4 rfl hW' rfl hb⟩

theorem proved : Rows.FnKnownSaid :=
  OpenClaim.holds_of_wide 6 Try.f6 rfl rfl rfl rfl rfl rfl rfl ⟨rfl, rfl, rfl, rfl, rfl⟩ rfl rfl rfl rfl rfl (by kernel_rfl) Try.func6 (by kernel_rfl)
    (of_decide_eq_true (by kernel_rfl)) (by unfold Func.isWrapper; first | (rw [if_pos (by decide +kernel)]; kernel_rfl) | (rw [if_neg (by decide +kernel)]; exact ⟨rfl, rfl⟩))
    (fun os started H enc _ => lifted os started H enc)

end fnKnown
end Go.Proofs.Ytejnfngnofilfaa
