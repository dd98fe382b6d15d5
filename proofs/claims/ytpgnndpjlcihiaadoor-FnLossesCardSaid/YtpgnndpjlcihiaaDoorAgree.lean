/-
  The least sums of tests without tight sections, of both sides: the walks of agree, l15Open and l15Code.
-/
import Derived.Test.YtpgnndpjlcihiaaDoorSumWalk
import Derived.Test.YtpgnndpjlcihiaaDoorTableB
import Derived.Test.YtpgnndpjlcihiaaDoorLeakVals
namespace Go.Proofs.YtpgnndpjlcihiaaDoor
open Go.RowKit

theorem noTight_enters : ∀ args w, (callFunc 38 args).run Tryd.prog w = .ok (.enter 38 args) w := enters_of Tryd.func38 (by kernel_rfl) rfl
theorem noTight_any (k : Int) (w : World) : Calls Tryd.prog 38 #[.int .i64 k] w fun e w' => e = .returned (.bool false) ∧ Below w.heap.size w w' := by
  go_enter Tryd.func38, Tryd.ntmps38
  go_wp2
  go_ret
  exact ⟨rfl, Below.refl _ _⟩

/-- The program's table of tests, no section tight. -/
theorem sumOpen_any (s : Nat) (v : Value) (xs : List (Int × Int × Int)) (w : World) (hs1 : 1 ≤ s) (hs9 : s ≤ 9) (hv : SI P3 w v xs) (hx : fitT s xs) :
    Calls Tryd.prog 37 #[.int .i64 s, v, .func (.func 38) #[] #[]] w fun e w' => ∃ v', e = .returned (.tuple #[v', .bool (okA s openT xs)]) ∧ Below w.heap.size w w' ∧
      (okA s openT xs = true → ∃ G capG g c, v' = .slice (some ⟨G, 0, none⟩) (s + 1) capG ∧ TBat 2 w' w.heap.size G g c (s + 1) (DA s xs)) :=
  sumBounds_any s v xs 38 #[] openT w hs1 hs9 hv hx noTight_enters (fun W k _ _ => noTight_any k W)

theorem agree_any (s : Nat) (v : Value) (xs : List (Int × Int × Int)) (w : World) (hs1 : 1 ≤ s) (hs9 : s ≤ 9) (hv : SI P3 w v xs) (hx : fitT s xs) :
    Calls Tryd.prog 40 #[.int .i64 s, v] w fun e w' => e = .returned (.bool (okA s openT xs)) ∧ Below w.heap.size w w' := by
  have C1 := sumOpen_any s v xs w hs1 hs9 hv hx
  have hmf : ∀ (fn : Fn) (first cap : Array Value) (w : World), (Instr.makeFunc fn first cap).run Tryd.prog w = .ok (.func fn first cap) w := fun _ _ _ _ => rfl
  generalize okA s openT xs = r at C1 ⊢
  have D1 := Lib.hid C1
  clear C1 hv hx
  go_enter Tryd.func40, Tryd.ntmps40
  go_wp2_with (go_at_call 37; refine D1.out.mono ?_; rintro e w1 ⟨v1, rfl, hb1, _⟩)
  go_ret
  exact ⟨rfl, hb1⟩

/-! ### the reference -/
theorem l15Open_any (s : Nat) (w : World) (hs1 : 1 ≤ s) (hs9 : s ≤ 9) : Calls Tryd.prog 43 #[.int .i64 s] w fun e w' => ∃ v', e = .returned v' ∧ OI 2 w' w.heap.size v' (List.replicate s 0) ∧ Below w.heap.size w w' := by
  obtain ⟨i0, hi, hz0, hz1, hz2⟩ := info_parts info64
  have HI := Lib.hid hi
  clear hi
  go_enter Tryd.func43, Tryd.ntmps43
  go_wp2_with (at_make; refine wpList_make_full _ rfl _ _ 33 rfl w.heap.size 2 i0 (.int .i64 0) 1 Tryd.underlying33 HI.out hz0 hz1 .i64 .i64 _ _ s rfl rfl rfl rfl (by rw [hz2]; omega) (by unfold maxLen; omega) (Nat.le_refl _) ?_; intro w1 hown hgr)
  have HO := Lib.hid (OI.made hown)
  have HG := Lib.hid hgr
  clear hown hgr
  go_wp2
  go_ret
  exact ⟨_, rfl, HO.out, (Below.refl _ _).grown HG.out (Nat.le_refl _) (fun k hk => by simp at hk)⟩

/-- The reference's table of tests, no section tight. -/
theorem tableOpen_any (s : Nat) (v : Value) (xs : List (Int × Int × Int)) (u : Value) (w : World) (hs1 : 1 ≤ s) (hs9 : s ≤ 9) (hv : SI P3 w v xs) (hx : fitT s xs) (hu : RI w u (List.replicate s 0)) :
    Calls Tryd.prog 42 #[.int .i64 s, v, u] w fun e w' => ∃ v', e = .returned (.tuple #[v', .bool (okA s openT xs)]) ∧ Below w.heap.size w w' ∧
      ∃ G capG g c, v' = .slice (some ⟨G, 0, none⟩) (s + 1) capG ∧ TBat 2 w' w.heap.size G g c (s + 1) (DB s xs) := by
  rw [ok_same hs9 openT hx]
  refine tableB_any s v xs u (List.replicate s 0) openT w hs1 hs9 hv hx hu (by simp) (fun k hk => ?_)
  simp [openT, List.getD, hk]

theorem l15Code_any (n : Int) (v : Value) (xs : List (Int × Int × Int)) (w : World) (hv : SI P3 w v xs) :
    Calls Tryd.prog 39 #[.int .i64 n, v] w fun e w' => ∃ v', e = .returned (.tuple #[v', .int .i64 (codeL n xs)]) ∧ Below w.heap.size w w' ∧
      (codeL n xs = 0 → ∃ G capG g c, v' = .slice (some ⟨G, 0, none⟩) (n.toNat + 1) capG ∧ TBat 2 w' w.heap.size G g c (n.toNat + 1) (DB n.toNat xs)) := by
  have HV := Lib.hid hv
  have C1 := l15Ok_any n v xs w hv
  clear hv
  cases h1 : okLosses n xs with
  | false =>
    rw [h1] at C1
    have D1 := Lib.hid C1
    have HE := Lib.hid (codeL_bad h1)
    clear C1 h1
    go_enter Tryd.func39, Tryd.ntmps39
    go_wp2_with (go_at_call 41; refine D1.out.mono ?_; rintro e w1 ⟨rfl, hb1⟩)
    go_ret2
    exact ⟨_, by rw [HE.out]; rfl, hb1, fun h => by rw [HE.out] at h; cases h⟩
  | true =>
    rw [h1] at C1
    have D1 := Lib.hid C1
    have hn := okLosses_n h1
    obtain ⟨s, rfl⟩ : ∃ s : Nat, n = s := ⟨n.toNat, by omega⟩
    have HX := Lib.hid (show fitT s xs from fitT_of h1)
    cases h2 : okA s openT xs with
    | false =>
      have HE := Lib.hid (codeL_clash h1 (show okA (s : Int).toNat openT xs = false from h2))
      have C2 := fun u W h3 h4 => tableOpen_any s v xs u W (by omega) (by omega) h3 HX.out h4
      rw [h2] at C2
      have D2 := Lib.hid C2
      clear C1 C2 h1 h2
      go_enter Tryd.func39, Tryd.ntmps39
      go_wp2_with (first
        | (go_at_call 42; refine (D2.out _ _ (HV.out.below (bthen hb1 hb2)) ho.ri).mono ?_; rintro e w3 ⟨v3, rfl, hb3, _⟩)
        | (go_at_call 43; refine (l15Open_any s _ (by omega) (by omega)).mono ?_; rintro e w2 ⟨u2, rfl, ho, hb2⟩)
        | (go_at_call 41; refine D1.out.mono ?_; rintro e w1 ⟨rfl, hb1⟩))
      go_ret2
      exact ⟨_, by rw [HE.out]; rfl, bthen (bthen hb1 hb2) hb3, fun h => by rw [HE.out] at h; cases h⟩
    | true =>
      have HE := Lib.hid (codeL_ok h1 (show okA (s : Int).toNat openT xs = true from h2))
      have C2 := fun u W h3 h4 => tableOpen_any s v xs u W (by omega) (by omega) h3 HX.out h4
      rw [h2] at C2
      have D2 := Lib.hid C2
      clear C1 C2 h1 h2
      go_enter Tryd.func39, Tryd.ntmps39
      go_wp2_with (first
        | (go_at_call 42; refine (D2.out _ _ (HV.out.below (bthen hb1 hb2)) ho.ri).mono ?_; rintro e w3 ⟨v3, rfl, hb3, ht3⟩; have HT3 := Lib.hid ht3; clear ht3)
        | (go_at_call 43; refine (l15Open_any s _ (by omega) (by omega)).mono ?_; rintro e w2 ⟨u2, rfl, ho, hb2⟩)
        | (go_at_call 41; refine D1.out.mono ?_; rintro e w1 ⟨rfl, hb1⟩))
      go_ret2
      refine ⟨_, by rw [HE.out]; rfl, bthen (bthen hb1 hb2) hb3, fun _ => ?_⟩
      obtain ⟨G, capG, g, c, q1, q2⟩ := HT3.out
      exact ⟨G, capG, g, c, q1, q2.mono (Nat.le_trans hb1.size hb2.size)⟩

end Go.Proofs.YtpgnndpjlcihiaaDoor
