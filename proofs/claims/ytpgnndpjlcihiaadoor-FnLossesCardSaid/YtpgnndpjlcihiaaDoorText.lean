/-
  LossText of the reference and of the program: what each returns.
-/
import Derived.Test.YtpgnndpjlcihiaaDoorDec
import Derived.Test.YtpgnndpjlcihiaaDoorLossOne
import Derived.Lib.AppendIntMem
import Derived.Lib.ItoaLen
import Derived.Deep.RegionHeld3
namespace Go.Proofs.YtpgnndpjlcihiaaDoor
open Go.RowKit Go.Shelf

shelf_lay LaysM.n173 Nm 173 at Tryd as Tryd.lays173
theorem formatInt_any (n : Int) (h0 : -9223372036854775808 ≤ n) (h1 : n ≤ 9223372036854775807) (w : World) (htab : Lib.TabIs Tryd.prog w "internal/strconv.uint64pow10" .u64 Lib.pow10Tab) :
    Calls Tryd.prog 60 #[.int .i64 n, .int .i64 10] w fun e w' => e = .returned (.string ⟨(Lib.itoa n).toArray⟩) ∧ ∃ k os, w' = Sort.grow (w.drewN k) os := Any.strconv_FormatInt_10 Tryd.lays173 n h0 h1 w htab

/-- The library's table of powers, in every world that the call can come to. -/
def Pows (B : Nat) (w : World) : Prop := B ≤ w.heap.size ∧ Lib.TabBelow Tryd.prog B w "internal/strconv.uint64pow10" .u64 Lib.pow10Tab
theorem Pows.below {B : Nat} {w w' : World} (h : Pows B w) (hb : Below w.heap.size w w') : Pows B w' := ⟨Nat.le_trans h.1 hb.size, h.2.on (hb.mono h.1)⟩

theorem implDecimal_any (B : Nat) (n : Nat) (w : World) (hn : n ≤ 1000000) (hp : Pows B w) :
    Calls Tryd.prog 33 #[.int .i64 n] w fun e w' => e = .returned (.string ⟨(Lib.decDigits n).toArray⟩) ∧ Below w.heap.size w w' := by
  have C := Lib.hid (formatInt_any n (by omega) (by omega) w hp.2.here)
  have HE := Lib.hid (Lib.itoa_nonneg n)
  clear hp
  go_enter Tryd.func33, Tryd.ntmps33
  go_wp2_with fail
  refine C.out.mono ?_
  rintro e w1 ⟨rfl, k, os, rfl⟩
  have hb := Lib.hid (Lib.below_grow w.heap.size w (Nat.le_refl _) k os)
  rw [HE.out]
  go_wp2
  go_ret
  exact ⟨rfl, hb.out⟩

/-- The text of a test. -/
def textOf (n : Int) (p : Int × Int × Int) : ByteArray :=
  if okLoss n p = true then ((((⟨(Lib.decDigits p.1.toNat).toArray⟩ ++ ⟨#[46, 46]⟩) ++ ⟨(Lib.decDigits p.2.1.toNat).toArray⟩) ++ ⟨#[58, 32]⟩) ++ ⟨(Lib.decDigits p.2.2.toNat).toArray⟩ : ByteArray) else ⟨#[]⟩
theorem okLoss_nat {n : Int} {x y z : Int} (h : okLoss n (x, y, z) = true) (hn : n ≤ 9) : 0 ≤ x ∧ x ≤ 1000000 ∧ 0 ≤ y ∧ y ≤ 1000000 ∧ 0 ≤ z ∧ z ≤ 1000000 := by
  simp [okLoss, inB] at h
  omega

/-- Short strings: what the sums of two are, as the walk meets them. -/
theorem add_short (a b : ByteArray) (ha : a.size ≤ 100) (hb : b.size ≤ 100) :
    (∀ (P : Program) (t : TypeId) (w : World), (binOp .add t (.string a) (.string b)).run P w = .ok (.string (a ++ b)) w) ∧ (∀ (P : Program) (w : World), (Op.stringOp .add a b).run P w = .ok (.string (a ++ b)) w) ∧ (9223372036854775807 < a.size + b.size) = False ∧ ((9223372036854775807 : Int) < (a.size : Int) + (b.size : Int)) = False := by
  refine ⟨?_, ?_, by simp; omega, by simp; omega⟩
  · intro P t w
    have := run_string_add_sum (P := P) w a b (by omega)
    simp [binOp, this]
  · intro P w
    exact run_string_add_sum w a b (by omega)
theorem dec_short (X : Nat) (h : X ≤ 1000000) : (ByteArray.mk (Lib.decDigits X).toArray).size ≤ 20 := by
  have := Lib.decDigits_length X
  have h2 := Lib.nDigits_le20 X (by omega)
  simp [ByteArray.size]
  omega
theorem two_short (x y : UInt8) : (ByteArray.mk #[x, y]).size = 2 := rfl

/-- The five pieces put together, with the names of the sums hidden. -/
theorem sums_short (A B C : ByteArray) (ha : A.size ≤ 20) (hb : B.size ≤ 20) (hc : C.size ≤ 20) (p q : ByteArray) (hp : p.size = 2) (hq : q.size = 2) :
    ∃ S1 S2 S3 S4 : ByteArray, S4 = ((((A ++ p) ++ B) ++ q) ++ C) ∧
      (∀ (P : Program) (t : TypeId) (w : World), (binOp .add t (.string A) (.string p)).run P w = .ok (.string S1) w) ∧
      (∀ (P : Program) (t : TypeId) (w : World), (binOp .add t (.string S1) (.string B)).run P w = .ok (.string S2) w) ∧
      (∀ (P : Program) (t : TypeId) (w : World), (binOp .add t (.string S2) (.string q)).run P w = .ok (.string S3) w) ∧
      (∀ (P : Program) (t : TypeId) (w : World), (binOp .add t (.string S3) (.string C)).run P w = .ok (.string S4) w) ∧
      (∀ (P : Program) (w : World), (Op.stringOp .add A p).run P w = .ok (.string S1) w) ∧
      (∀ (P : Program) (w : World), (Op.stringOp .add S1 B).run P w = .ok (.string S2) w) ∧
      (∀ (P : Program) (w : World), (Op.stringOp .add S2 q).run P w = .ok (.string S3) w) ∧
      (∀ (P : Program) (w : World), (Op.stringOp .add S3 C).run P w = .ok (.string S4) w) := by
  have s1 : (A ++ p).size ≤ 100 := by rw [ByteArray.size_append']; omega
  have s2 : ((A ++ p) ++ B).size ≤ 100 := by rw [ByteArray.size_append', ByteArray.size_append']; omega
  have s3 : (((A ++ p) ++ B) ++ q).size ≤ 100 := by rw [ByteArray.size_append', ByteArray.size_append', ByteArray.size_append']; omega
  refine ⟨_, _, _, _, rfl, (add_short A p (by omega) (by omega)).1, (add_short _ B s1 (by omega)).1, (add_short _ q s2 (by omega)).1, (add_short _ C s3 (by omega)).1, (add_short A p (by omega) (by omega)).2.1, (add_short _ B s1 (by omega)).2.1, (add_short _ q s2 (by omega)).2.1, (add_short _ C s3 (by omega)).2.1⟩

set_option maxRecDepth 100000 in
theorem specLossText_any (x y z : Int) (w : World) :
    Calls Tryd.prog 5 #[.agg #[.int .i64 x, .int .i64 y, .int .i64 z]] w fun e w' => e = .returned (.string (textOf 9 (x, y, z))) ∧ Below w.heap.size w w' := by
  have HB1 := Lib.hid ((Below.refl w.heap.size w).alloc (Nat.le_refl _) (.cells #[.int .i64 x, .int .i64 y, .int .i64 z] 25))
  have c0 : (w.alloc (.cells #[.int .i64 x, .int .i64 y, .int .i64 z] 25)).cell? ⟨w.heap.size, 0, none⟩ = some (.int .i64 x) := by rw [World.cell?_alloc_at _ _ _ _ rfl]; rfl
  have c1 : (w.alloc (.cells #[.int .i64 x, .int .i64 y, .int .i64 z] 25)).cell? ⟨w.heap.size, 0 + 1, none⟩ = some (.int .i64 y) := by rw [World.cell?_alloc_at _ _ _ _ rfl]; rfl
  have c2 : (w.alloc (.cells #[.int .i64 x, .int .i64 y, .int .i64 z] 25)).cell? ⟨w.heap.size, 0 + 2, none⟩ = some (.int .i64 z) := by rw [World.cell?_alloc_at _ _ _ _ rfl]; rfl
  have C := l15One_any 9 x y z w.heap.size 0 _ ⟨by omega, by omega⟩ c0 c1 c2
  cases hok : okLoss 9 (x, y, z) with
  | false =>
    have HT := Lib.hid (show textOf 9 (x, y, z) = ⟨#[]⟩ by unfold textOf; rw [hok]; rfl)
    rw [hok] at C
    have D := Lib.hid C
    clear C c0 c1 c2 hok
    go_enter Tryd.func5, Tryd.ntmps5
    go_wp2_with fail
    refine D.out.mono ?_
    rintro e w1 ⟨rfl, hb⟩
    go_wp2
    go_ret
    exact ⟨by rw [HT.out]; rfl, bthen HB1.out hb⟩
  | true =>
    obtain ⟨x0, x1, y0, y1, z0, z1⟩ := okLoss_nat hok (by omega)
    obtain ⟨X, rfl⟩ : ∃ X : Nat, x = X := ⟨x.toNat, by omega⟩
    obtain ⟨Y, rfl⟩ : ∃ Y : Nat, y = Y := ⟨y.toNat, by omega⟩
    obtain ⟨Z, rfl⟩ : ∃ Z : Nat, z = Z := ⟨z.toNat, by omega⟩
    have hX : X ≤ 1000000 := by omega
    have hY : Y ≤ 1000000 := by omega
    have hZ : Z ≤ 1000000 := by omega
    obtain ⟨S1, S2, S3, S4, h4, f1, f2, f3, f4, g1, g2, g3, g4⟩ := sums_short _ _ _ (dec_short X hX) (dec_short Y hY) (dec_short Z hZ) ⟨#[46, 46]⟩ ⟨#[58, 32]⟩ rfl rfl
    have HT := Lib.hid (show textOf 9 ((X : Int), (Y : Int), (Z : Int)) = S4 by unfold textOf; rw [if_pos hok]; exact h4.symm)
    have CX := fun w => Lib.hid (l01Dec_any X w hX)
    have CY := fun w => Lib.hid (l01Dec_any Y w hY)
    have CZ := fun w => Lib.hid (l01Dec_any Z w hZ)
    clear h4
    generalize ByteArray.mk (Lib.decDigits X).toArray = A at f1 g1 CX
    generalize ByteArray.mk (Lib.decDigits Y).toArray = B at f2 g2 CY
    generalize ByteArray.mk (Lib.decDigits Z).toArray = C' at f4 g4 CZ
    rw [hok] at C
    have D := Lib.hid C
    have HC := Lib.hid (And.intro c0 (And.intro c1 c2))
    clear C c0 c1 c2 hok x0 x1 y0 y1 z0 z1
    go_enter Tryd.func5, Tryd.ntmps5
    go_wp2_with fail
    refine D.out.mono ?_
    rintro e w1 ⟨rfl, hb⟩
    have hz : w.heap.size < (w.alloc (.cells #[.int .i64 (X : Int), .int .i64 (Y : Int), .int .i64 (Z : Int)] 25)).heap.size := by simp
    have e0 := (hb.cell (p := ⟨w.heap.size, 0, none⟩) hz).trans HC.out.1
    have e1 := (hb.cell (p := ⟨w.heap.size, 1, none⟩) hz).trans HC.out.2.1
    have e2 := (hb.cell (p := ⟨w.heap.size, 2, none⟩) hz).trans HC.out.2.2
    have HB2 := Lib.hid (bthen HB1.out hb)
    have hz1 : w.heap.size < w1.heap.size := Nat.lt_of_lt_of_le hz hb.size
    clear hb hz
    go_wp2_with fail
    go_region_held3 (fun w' => w'.cell? ⟨w.heap.size, 0, none⟩ = some (.int .i64 (X : Int)) ∧ w'.cell? ⟨w.heap.size, 1, none⟩ = some (.int .i64 (Y : Int)) ∧ w'.cell? ⟨w.heap.size, 2, none⟩ = some (.int .i64 (Z : Int)))
      (first
        | go_keep
        | (go_split_ands
           refine ⟨?_, ?_, ?_⟩ <;> go_keep))
      (first
        | (go_simp
           go_at_call 31
           with_reducible refine (CX _).out.mono ?_
           rintro e w2 ⟨rfl, hbxX⟩
           have hb2 : Below w1.heap.size w1 w2 := bthen (below_drewN' _ 1) hbxX
           have p0 := (hb2.cell (p := ⟨w.heap.size, 0, none⟩) hz1).trans e0
           have p1 := (hb2.cell (p := ⟨w.heap.size, 1, none⟩) hz1).trans e1
           have p2 := (hb2.cell (p := ⟨w.heap.size, 2, none⟩) hz1).trans e2)
        | (go_simp
           go_at_call 31
           with_reducible refine (CY _).out.mono ?_
           rintro e w3 ⟨rfl, hbxY⟩
           have hb3 : Below w1.heap.size w1 w3 := bthen (hb2) hbxY
           have q0 := (hb3.cell (p := ⟨w.heap.size, 0, none⟩) hz1).trans e0
           have q1 := (hb3.cell (p := ⟨w.heap.size, 1, none⟩) hz1).trans e1
           have q2 := (hb3.cell (p := ⟨w.heap.size, 2, none⟩) hz1).trans e2)
        | (go_simp
           go_at_call 31
           with_reducible refine (CZ _).out.mono ?_
           rintro e w4 ⟨rfl, hbxZ⟩
           have hb4 : Below w1.heap.size w1 w4 := bthen (hb3) hbxZ
           have r0 := (hb4.cell (p := ⟨w.heap.size, 0, none⟩) hz1).trans e0
           have r1 := (hb4.cell (p := ⟨w.heap.size, 1, none⟩) hz1).trans e1
           have r2 := (hb4.cell (p := ⟨w.heap.size, 2, none⟩) hz1).trans e2))
    go_wp2_with fail
    go_ret
    exact ⟨by rw [HT.out]; rfl, bthen HB2.out hb4⟩

set_option maxRecDepth 100000 in
theorem implLossText_any (B0 : Nat) (x y z : Int) (w : World) (hp : Pows B0 w) :
    Calls Tryd.prog 7 #[.agg #[.int .i64 x, .int .i64 y, .int .i64 z]] w fun e w' => e = .returned (.string (textOf 9 (x, y, z))) ∧ Below w.heap.size w w' := by
  have HB1 := Lib.hid ((Below.refl w.heap.size w).alloc (Nat.le_refl _) (.cells #[.int .i64 x, .int .i64 y, .int .i64 z] 25))
  have c0 : (w.alloc (.cells #[.int .i64 x, .int .i64 y, .int .i64 z] 25)).cell? ⟨w.heap.size, 0, none⟩ = some (.int .i64 x) := by rw [World.cell?_alloc_at _ _ _ _ rfl]; rfl
  have c1 : (w.alloc (.cells #[.int .i64 x, .int .i64 y, .int .i64 z] 25)).cell? ⟨w.heap.size, 0 + 1, none⟩ = some (.int .i64 y) := by rw [World.cell?_alloc_at _ _ _ _ rfl]; rfl
  have c2 : (w.alloc (.cells #[.int .i64 x, .int .i64 y, .int .i64 z] 25)).cell? ⟨w.heap.size, 0 + 2, none⟩ = some (.int .i64 z) := by rw [World.cell?_alloc_at _ _ _ _ rfl]; rfl
  have C := isLoss_any 9 x y z (w.alloc (.cells #[.int .i64 x, .int .i64 y, .int .i64 z] 25))
  have HP := Lib.hid (hp.below HB1.out)
  clear hp
  cases hok : okLoss 9 (x, y, z) with
  | false =>
    have HT := Lib.hid (show textOf 9 (x, y, z) = ⟨#[]⟩ by unfold textOf; rw [hok]; rfl)
    rw [hok] at C
    have D := Lib.hid C
    clear C hok
    go_enter Tryd.func7, Tryd.ntmps7
    go_wp2_with fail
    refine D.out.mono ?_
    rintro e w1 ⟨rfl, hb⟩
    go_wp2
    go_ret
    exact ⟨by rw [HT.out]; rfl, bthen HB1.out hb⟩
  | true =>
    obtain ⟨x0, x1, y0, y1, z0, z1⟩ := okLoss_nat hok (by omega)
    obtain ⟨X, rfl⟩ : ∃ X : Nat, x = X := ⟨x.toNat, by omega⟩
    obtain ⟨Y, rfl⟩ : ∃ Y : Nat, y = Y := ⟨y.toNat, by omega⟩
    obtain ⟨Z, rfl⟩ : ∃ Z : Nat, z = Z := ⟨z.toNat, by omega⟩
    have hX : X ≤ 1000000 := by omega
    have hY : Y ≤ 1000000 := by omega
    have hZ : Z ≤ 1000000 := by omega
    obtain ⟨S1, S2, S3, S4, h4, f1, f2, f3, f4, g1, g2, g3, g4⟩ := sums_short _ _ _ (dec_short X hX) (dec_short Y hY) (dec_short Z hZ) ⟨#[46, 46]⟩ ⟨#[58, 32]⟩ rfl rfl
    have HT := Lib.hid (show textOf 9 ((X : Int), (Y : Int), (Z : Int)) = S4 by unfold textOf; rw [if_pos hok]; exact h4.symm)
    have CX := fun w (hpw : Pows B0 w) => Lib.hid (implDecimal_any B0 X w hX hpw)
    have CY := fun w (hpw : Pows B0 w) => Lib.hid (implDecimal_any B0 Y w hY hpw)
    have CZ := fun w (hpw : Pows B0 w) => Lib.hid (implDecimal_any B0 Z w hZ hpw)
    clear h4
    generalize ByteArray.mk (Lib.decDigits X).toArray = A at f1 g1 CX
    generalize ByteArray.mk (Lib.decDigits Y).toArray = B at f2 g2 CY
    generalize ByteArray.mk (Lib.decDigits Z).toArray = C' at f4 g4 CZ
    rw [hok] at C
    have D := Lib.hid C
    have HC := Lib.hid (And.intro c0 (And.intro c1 c2))
    clear C c0 c1 c2 hok x0 x1 y0 y1 z0 z1
    go_enter Tryd.func7, Tryd.ntmps7
    go_wp2_with fail
    refine D.out.mono ?_
    rintro e w1 ⟨rfl, hb⟩
    have hz : w.heap.size < (w.alloc (.cells #[.int .i64 (X : Int), .int .i64 (Y : Int), .int .i64 (Z : Int)] 25)).heap.size := by simp
    have e0 := (hb.cell (p := ⟨w.heap.size, 0, none⟩) hz).trans HC.out.1
    have e1 := (hb.cell (p := ⟨w.heap.size, 1, none⟩) hz).trans HC.out.2.1
    have e2 := (hb.cell (p := ⟨w.heap.size, 2, none⟩) hz).trans HC.out.2.2
    have HB2 := Lib.hid (bthen HB1.out hb)
    have hz1 : w.heap.size < w1.heap.size := Nat.lt_of_lt_of_le hz hb.size
    have HP1 := Lib.hid (HP.out.below hb)
    clear hb hz
    go_wp2_with fail
    go_region_held3 (fun w' => w'.cell? ⟨w.heap.size, 0, none⟩ = some (.int .i64 (X : Int)) ∧ w'.cell? ⟨w.heap.size, 1, none⟩ = some (.int .i64 (Y : Int)) ∧ w'.cell? ⟨w.heap.size, 2, none⟩ = some (.int .i64 (Z : Int)))
      (first
        | go_keep
        | (go_split_ands
           refine ⟨?_, ?_, ?_⟩ <;> go_keep))
      (first
        | (go_simp
           go_at_call 33
           with_reducible refine (CX _ ?hpw).out.mono ?_
           case hpw => exact HP1.out.below (below_drewN' _ 1)
           rintro e w2 ⟨rfl, hbxX⟩
           have hb2 : Below w1.heap.size w1 w2 := bthen (below_drewN' _ 1) hbxX
           have p0 := (hb2.cell (p := ⟨w.heap.size, 0, none⟩) hz1).trans e0
           have p1 := (hb2.cell (p := ⟨w.heap.size, 1, none⟩) hz1).trans e1
           have p2 := (hb2.cell (p := ⟨w.heap.size, 2, none⟩) hz1).trans e2)
        | (go_simp
           go_at_call 33
           with_reducible refine (CY _ ?hpw).out.mono ?_
           case hpw => exact HP1.out.below (hb2)
           rintro e w3 ⟨rfl, hbxY⟩
           have hb3 : Below w1.heap.size w1 w3 := bthen (hb2) hbxY
           have q0 := (hb3.cell (p := ⟨w.heap.size, 0, none⟩) hz1).trans e0
           have q1 := (hb3.cell (p := ⟨w.heap.size, 1, none⟩) hz1).trans e1
           have q2 := (hb3.cell (p := ⟨w.heap.size, 2, none⟩) hz1).trans e2)
        | (go_simp
           go_at_call 33
           with_reducible refine (CZ _ ?hpw).out.mono ?_
           case hpw => exact HP1.out.below (hb3)
           rintro e w4 ⟨rfl, hbxZ⟩
           have hb4 : Below w1.heap.size w1 w4 := bthen (hb3) hbxZ
           have r0 := (hb4.cell (p := ⟨w.heap.size, 0, none⟩) hz1).trans e0
           have r1 := (hb4.cell (p := ⟨w.heap.size, 1, none⟩) hz1).trans e1
           have r2 := (hb4.cell (p := ⟨w.heap.size, 2, none⟩) hz1).trans e2))
    go_wp2_with fail
    go_ret
    exact ⟨by rw [HT.out]; rfl, bthen HB2.out hb4⟩

end Go.Proofs.YtpgnndpjlcihiaaDoor
