/-
  The decimal form of a number, of both sides.
-/
import Derived.Test.YtpgnndpjlcihiaaDoorIn
import Derived.Laws.BytesArg
import Derived.Lib.ItoaNum
import Derived.Shelf.Strconv.Itoa4
import Derived.Shelf.Lay
import Derived.Ground.NamesProg
namespace Go.Proofs.YtpgnndpjlcihiaaDoor
open Go.RowKit

/-- Bytes as numbers. -/
def numsOf (us : List UInt8) : List Int := us.map fun c => (c.toNat : Int)
theorem strOf_numsOf (us : List UInt8) : strOfNums (numsOf us) = ⟨us.toArray⟩ := by
  unfold strOfNums numsOf
  rw [List.map_map]
  congr 2
  conv => rhs; rw [← List.map_id us]
  apply List.map_congr_left
  intro c _
  simp

/-- v, in memory from block base on, holds the bytes ys. -/
def OY (e : TypeId) (w : World) (base : Nat) (v : Value) (ys : List Int) : Prop := w.ownsRow base e 1 v ys.length (ys.map (Value.int .u8))
theorem OY.below {e : TypeId} {w w' : World} {base : Nat} {v : Value} {ys : List Int} (h : OY e w base v ys) (hb : Below w.heap.size w w') : OY e w' base v ys := by
  refine ⟨h.1, ?_⟩
  rcases h.2 with h1 | ⟨g, cap, cur, rfl, hbg, hg, r⟩
  · exact .inl h1
  · exact .inr ⟨g, cap, cur, rfl, hbg, by rw [hb.block g (Array.getElem?_eq_some_iff.1 hg).1]; exact hg, r⟩
theorem OY.lt {e : TypeId} {w : World} {base : Nat} {v : Value} {ys : List Int} (h : OY e w base v ys) : ∀ k, v.ownBlock = some k → base ≤ k ∧ k < w.heap.size := World.ownsRow.lt h
theorem OY.mono {e : TypeId} {w : World} {base base' : Nat} {v : Value} {ys : List Int} (h : OY e w base v ys) (hb : base' ≤ base) : OY e w base' v ys := by
  refine ⟨h.1, ?_⟩
  rcases h.2 with h1 | ⟨g, cap, cur, rfl, hbg, r⟩
  · exact .inl h1
  · exact .inr ⟨g, cap, cur, rfl, Nat.le_trans hb hbg, r⟩
theorem OY.lit0 (e : TypeId) (w : World) (base : Nat) (hb : base ≤ w.heap.size) : OY e (w.alloc (.cells #[] e)) base (.slice (some ⟨w.heap.size, 0, none⟩) 0 0) [] := by
  simpa [OY] using World.ownsRow_made w #[] 0 hb (Nat.zero_le _) (by simp)
theorem OY.lit1 (e : TypeId) (w : World) (base : Nat) (x : Int) (hb : base ≤ w.heap.size) : OY e (w.alloc (.cells #[.int .u8 x] e)) base (.slice (some ⟨w.heap.size, 0, none⟩) 1 1) [x] :=
  World.ownsRow_lit w #[.int .u8 x] 1 hb (by decide) rfl
theorem OY.shape {e : TypeId} {w : World} {base : Nat} {v : Value} {ys : List Int} (h : OY e w base v ys) : (v = .slice none 0 0 ∧ ys = []) ∨ ∃ g cap, v = .slice (some ⟨g, 0, none⟩) ys.length cap ∧ base ≤ g ∧ g < w.heap.size ∧ ys.length ≤ cap := by
  rcases h.2 with ⟨h1, h0⟩ | ⟨g, cap, cur, rfl, hbg, hg, hc, r⟩
  · exact .inl ⟨h1, List.length_eq_zero_iff.1 h0⟩
  · exact .inr ⟨g, cap, rfl, hbg, (Array.getElem?_eq_some_iff.1 hg).1, hc⟩
theorem OY.cell {e : TypeId} {w : World} {base g n cap : Nat} {ys : List Int} (h : OY e w base (.slice (some ⟨g, 0, none⟩) n cap) ys) (k : Nat) (hk : k < ys.length) : w.cell? ⟨g, k, none⟩ = some (.int .u8 (ys.getD k 0)) := by
  have hn : n = ys.length := by
    rcases h.2 with ⟨h1, _⟩ | ⟨g', cap', cur, h1, _⟩
    · simp at h1
    · simp only [Value.slice.injEq] at h1; exact h1.2.1
  subst hn
  have h' : w.ownsRow base e 1 (.slice (some ⟨g, 0, none⟩) ys.length cap) ys.length (ys.map (Value.int .u8)) := h
  rw [h'.cellAt k (by omega)]; simp [List.getD, List.getElem?_eq_getElem hk]
theorem u8_oneCell (zs : List Int) : ∀ u ∈ zs.map (Value.int .u8), u.oneCell' = true := by
  intro u hu
  obtain ⟨z, _, rfl⟩ := List.mem_map.1 hu
  rfl

/-- append(out, more...) of bytes, both in memory of the call's own. -/
theorem wpList_appY {P : Program} {W : World} {ops : Array Oper} {rest : List Oper} {o : Oper} {a : Act} {Q : Exit → Act → World → Prop} (hgd : o.guard = none) (s x : Operand) (t : TypeId)
    (ho : o.op = .call { callee := .builtin .append, args := #[s, x], argTypes := #[t, t] }) (e : TypeId) (i : TypeInfo) (ht : P.underlying t = some (.slice e)) (hi : P.info? e = some i) (hz : i.zero = some (.int .u8 0)) (hsize : i.size = 1) (hby : i.bytes = 1)
    (base : Nat) (v : Value) (xs : List Int) (hs : a.eval s = v) (hown : OY e W base v xs) (g c : Nat) (ys : List Int) (hx : a.eval x = .slice (some ⟨g, 0, none⟩) ys.length c) (base2 : Nat) (hu : OY e W base2 (.slice (some ⟨g, 0, none⟩) ys.length c) ys) (hlen : xs.length + ys.length ≤ 1099511627776) (hbase : base ≤ W.heap.size)
    (hK : ∀ v' w', OY e w' base v' (xs ++ ys) → W.grownBy w' v.ownBlock → wpList P ops Q rest (a.put o.dst v') w') : wpList P ops Q (o :: rest) a W := by
  refine wpList_append_own W hgd s x t ho base e i (.int .u8 0) 1 1 ht hi hz hsize hby rfl (by decide) v xs.length (xs.map (Value.int .u8)) hs hown ⟨g, 0, none⟩ ys.length c (ys.map (Value.int .u8)) hx (by simp) ?_ (u8_oneCell _) (by unfold maxLen; omega) (by omega) hbase (fun v' w' h1 h2 _ => hK v' w' ?_ h2)
  · intro j u hj
    have hjl : j < ys.length := by
      have := (List.getElem?_eq_some_iff.1 hj).1
      simpa using this
    rw [Addr.add_lit, Nat.zero_add, hu.cell j hjl, ← hj]
    simp [List.getD, List.getElem?_eq_getElem hjl]
  · unfold OY
    simpa using h1

theorem infoByte : (Tryd.prog.info? 5).map (fun i => (i.zero, i.size, i.bytes)) = some (some (.int .u8 0), 1, 1) := by kernel_rfl

/-- What the loop over the digits keeps. -/
def decRel (n k : Nat) (us : List UInt8) : Prop := (k ≠ 0 → Lib.decDigits k ++ us = Lib.decDigits n) ∧ (k = 0 → us = Lib.decDigits n ∨ (n = 0 ∧ us = []))
theorem dec_start (n : Nat) : decRel n n [] := ⟨fun _ => by simp, fun h => .inr ⟨h, rfl⟩⟩
theorem dec_step {n k : Nat} {us : List UInt8} (hk : k ≠ 0) (h : decRel n k us) : decRel n (k / 10) (UInt8.ofNat (48 + k % 10) :: us) := by
  have h1 := h.1 hk
  rw [Lib.decDigits] at h1
  by_cases h10 : k < 10
  · rw [dif_pos h10] at h1
    have e : k / 10 = 0 := by omega
    refine ⟨fun hn => absurd e hn, fun _ => .inl ?_⟩
    rw [show k % 10 = k by omega]
    exact h1
  · rw [dif_neg h10] at h1
    refine ⟨fun _ => by rw [← h1]; simp, fun h0 => by omega⟩
theorem ofNat_toNat {m : Nat} (h : m < 10) : (((UInt8.ofNat (48 + m)).toNat : Nat) : Int) = ((48 + m : Nat) : Int) := by
  rw [UInt8.toNat_ofNat']
  omega

set_option maxRecDepth 100000 in
theorem l01Dec_any (n : Nat) (w : World) (hn : n ≤ 1000000) :
    Calls Tryd.prog 31 #[.int .i64 n] w fun e w' => e = .returned (.string ⟨(Lib.decDigits n).toArray⟩) ∧ Below w.heap.size w w' := by
  obtain ⟨j0, hj, jz0, jz1, jz2⟩ := info_parts infoByte
  have HJ := Lib.hid hj
  clear hj
  go_enter Tryd.func31, Tryd.ntmps31
  go_wp2_with fail
  have HB1 := Lib.hid ((Below.refl w.heap.size w).alloc (Nat.le_refl _) (.cells #[] 5))
  have HO1 := Lib.hid (OY.lit0 5 w w.heap.size (Nat.le_refl _))
  go_loopw [3, 4] (fun o i wr => ∃ (k : Nat) (us : List UInt8) (g c : Nat), k ≤ n ∧ i = .int .i64 k ∧ o = .slice (some ⟨g, 0, none⟩) us.length c ∧ Hid (OY 5 wr w.heap.size (.slice (some ⟨g, 0, none⟩) us.length c) (numsOf us)) ∧ Hid (decRel n k us) ∧ us.length + k ≤ 1000000 ∧ Below w.heap.size w wr) (fun _ i _ => (intOf i).toNat)
  case atStart => exact ⟨n, [], _, _, Nat.le_refl _, rfl, rfl, HO1, Lib.hid (dec_start n), by simpa using hn, HB1.out⟩
  case round =>
    obtain ⟨k, us, g, c, hk, rfl, rfl, HO, HR, hul, hb⟩ := hrel
    rename World => wo
    by_cases h0 : k = 0
    · subst h0
      rcases HR.out.2 rfl with h1 | ⟨h1, h2⟩
      · subst h1
        have hlen := Lib.decDigits_length n
        have hpos : 1 ≤ (Lib.decDigits n).length := by
          rw [hlen, Lib.nDigits]
          split <;> omega
        have hcv := run_convert_bytes_arg (P := Tryd.prog) wo 28 5 Tryd.underlying28 Tryd.underlying5 g 0 (Lib.decDigits n).length c (numsOf (Lib.decDigits n)) (by simp [numsOf]) (fun i hi => by rw [Nat.zero_add]; exact HO.out.cell i (by simp [numsOf]; exact hi)) 9 Tryd.underlying9
        rw [strOf_numsOf] at hcv
        have hd0 : decide ((n : Int) < 0) = false := decide_eq_false (by omega)
        clear hlen
        generalize hdd : Lib.decDigits n = ds at hcv hpos hul ⊢
        have HDD := Lib.hid hdd
        clear hdd
        have hz : ((ds.length : Int) == 0) = false := by rw [beq_eq_false_iff_ne]; omega
        generalize hds : ds.length = dl at hcv hpos hul hz ⊢
        have HDS := Lib.hid hds
        clear hds
        go_wp2
        go_ret
        exact ⟨by rw [HDD.out]; rfl, hb⟩
      · subst h2
        subst h1
        go_wp2
        go_ret
        exact ⟨by rw [Lib.decDigits]; rfl, hb⟩
    · have hne : ((k : Int) != 0) = true := by rw [bne_iff_ne]; omega
      obtain ⟨k10, hk10⟩ : ∃ q, q = k / 10 := ⟨_, rfl⟩
      obtain ⟨kr, hkr⟩ : ∃ q, q = k % 10 := ⟨_, rfl⟩
      have hq : (k : Int).tdiv 10 = (k10 : Int) := by rw [hk10]; rfl
      have hr : (k : Int).tmod 10 = (kr : Int) := by rw [hkr]; rfl
      have hST := dec_step h0 HR.out
      rw [← hk10, ← hkr] at hST
      have hkr10 : kr < 10 := by omega
      have hk10l : k10 < k := by omega
      have hcell := ofNat_toNat hkr10
      have hd0 : decide ((kr : Int) < 0) = false := decide_eq_false (by omega)
      have hw48 : IntKind.i64.wrap (48 + (kr : Int)) = 48 + (kr : Int) := IntWalk.i64_in _ (by omega)
      have hw8 : IntKind.u8.wrap (48 + (kr : Int)) = 48 + (kr : Int) := by rw [IntKind.wrap_u8]; omega
      have HST := Lib.hid hST
      have HB2 := Lib.hid ((Below.refl wo.heap.size wo).alloc (Nat.le_refl _) (.cells #[.int .u8 (48 + (kr : Int))] 5))
      have HL := Lib.hid (OY.lit1 5 wo wo.heap.size (48 + (kr : Int)) (Nat.le_refl _))
      have HO2 := Lib.hid (HO.out.below HB2.out)
      have hnl : (numsOf us).length = us.length := by simp [numsOf]
      have HNL := Lib.hid hnl
      have HNC := Lib.hid (show [48 + (kr : Int)] ++ numsOf us = numsOf (UInt8.ofNat (48 + kr) :: us) by
        simp only [numsOf, List.map_cons, List.singleton_append]
        rw [hcell]; simp)
      have HLQ := Lib.hid (show ∃ q, us.length = q from ⟨_, rfl⟩)
      have hk10' := Lib.hid hk10
      clear hST hcell hnl hkr hk10
      go_wp2_with (
        at_builtin
        refine wpList_appY rfl _ _ 28 rfl 5 j0 Tryd.underlying28 HJ.out jz0 jz1 jz2 wo.heap.size _ [48 + (kr : Int)] rfl HL.out g c (numsOf us) (by rw [HNL.out]; rfl) w.heap.size (by rw [HNL.out]; exact HO2.out) (by rw [HNL.out]; simp; omega) HB2.out.size ?_
        intro v9 w9 h1 h2
        rw [HNC.out] at h1
        have hb9 : Below w.heap.size w w9 := bgrown (bthen hb HB2.out) h2 (fun q hq => Nat.le_trans hb.size (HL.out.lt q hq).1)
        have H9 := Lib.hid h1
        clear h1 h2)
      go_roundw
      case rel =>
        obtain ⟨hv, _⟩ | ⟨g9, c9, hv, _⟩ := H9.out.shape
        · exfalso
          rename_i h0
          simp [numsOf] at h0
        · have e9 : (numsOf (UInt8.ofNat (48 + kr) :: us)).length = (UInt8.ofNat (48 + kr) :: us).length := by simp [numsOf]
          rw [e9] at hv
          subst hv
          exact ⟨k10, UInt8.ofNat (48 + kr) :: us, g9, c9, by omega, rfl, rfl, Lib.hid (H9.out.mono (by have := hb.size; exact this)), HST, by simp; omega, hb9⟩
      case measure => simp [intOf]; omega

end Go.Proofs.YtpgnndpjlcihiaaDoor
