-- Written by drive.py (wip/tool): the kit's print with texts of my own beside it.
import Derived.Test.YtmchbkjjpeiedaaDoorDFnCoverFormulasx0
import Derived.Test.YtmchbkjjpeiedaaDoorDFnCoverFormulasx1
import Derived.Test.YtmchbkjjpeiedaaDoorDFnCoverFormulasx2
import Derived.Test.YtmchbkjjpeiedaaDoorDFnCoverFormulasx3
import Derived.Test.YtmchbkjjpeiedaaDoorDFnCoverFormulasx4
import Derived.Test.YtmchbkjjpeiedaaDoorDFnCoverFormulasx6
import Derived.Test.YtmchbkjjpeiedaaDoorDFnCoverFormulasx7
import Derived.Test.YtmchbkjjpeiedaaDoorDFnCoverFormulasx8
import Derived.Test.YtmchbkjjpeiedaaDoorDFnCoverFormulasx9
import Derived.Test.YtmchbkjjpeiedaaDoorDFnCoverFormulasx10
namespace Go.Proofs.YtmchbkjjpeiedaaDoor.DFnCoverFormulas
open Go.RowKit Go.Proofs.YtmchbkjjpeiedaaDoorW.PrintWords Go.Proofs.YtmchbkjjpeiedaaDoorW.PrintLast Go.Proofs.YtmchbkjjpeiedaaDoorW.PrintMore Go.Proofs.YtmchbkjjpeiedaaDoorH
attribute [local go_sem] max2_int min2_int max_two min_two max_three min_three max_four min_four   -- for this text's walks alone
set_option linter.unusedVariables false
set_option linter.unusedSimpArgs false

/-! ### laws_FnCoverFormulas: function 3 -/
def laws_FnCoverFormulas.f (l0 : List Int) : Option Bool := some true
/-- What is left of the law: of every instance, in plain terms. -/
def PureCF : Prop := ∀ (a b : Int) (rows : List (List Int)), ∃ (k : Nat) (n : Int) (cs : List (List Int)) (bad : Int), impl_FormulaOfCover.f k a b rows = some (n, cs, bad) ∧ spec_FormulaOfCover.f k a b rows = some (n, cs, bad) ∧ laws_likeFormulas.f k n cs n cs = some true ∧
  (bad = 0 → rows.length ≤ 100 → (∃ r1 r2, impl_FirstCover.f a b rows = some (r1, r2)) ∧ ∀ vs : List Int, vs.length = rows.length → (∀ x ∈ vs, x = 0 ∨ x = 1) → ∃ (k : Nat) (s : List Int) (q : Bool), impl_SelectionOf.f k vs = some (s, 0) ∧ impl_Satisfies.f k n cs vs = some q ∧ impl_IsSolution.f k a b rows s = some q)
/-- A source of dice that is in order. -/
def DSrc (w0 w : World) (g : Nat) : Prop := ∃ (code : List Int) (i h : Int), IsS74 w0 w g code i h ∧ 0 ≤ i ∧ ∀ x ∈ code, 0 ≤ x ∧ x ≤ 255
theorem bits_and_24 (m : Int) (h0 : 0 ≤ m) (h1 : m < 18446744073709551616) : Go.bits .and .u64 m 16777215 = m % 16777216 :=
  bits_mask .u64 64 (by decide) (fun n h0 h1 => by rw [IntKind.wrap_u64]; omega) 24 (by decide) m h0 h1
theorem below_dice (g : Nat) (w0 w : World) (hS : DSrc w0 w g) (hB : Below w0.heap.size w0 w) :
    Calls Tryd.prog 12 #[.pointer (some ⟨g, 0, none⟩), .int .i64 2] w fun e w' => ∃ x : Int, e = .returned (.int .i64 x) ∧ (x = 0 ∨ x = 1) ∧ DSrc w0 w' g ∧ Below w0.heap.size w0 w' ∧ KeepBut w w' g none := by
  obtain ⟨code, i, s, hI, hi, hc⟩ := hS
  have hl : code.length ≤ 9223372036854775807 := by obtain ⟨A0, c0, _, _, h3⟩ := hI; exact h3.2.1
  have hrd := rd_in hc i
  obtain ⟨s', hs'⟩ : ∃ s', IntKind.u64.wrap ((IntKind.u64.wrap (s * 6364136223846793005)) + 1442695040888963407) = s' := ⟨_, rfl⟩
  have hs0 : 0 ≤ s' ∧ s' < 18446744073709551616 := by rw [← hs', IntKind.wrap_u64]; omega
  have hb := bits_and_24 (s' / 8589934592) (by omega) (by omega)
  have key : ∃ r1 r2, laws_dice_below.f code i s 2 = some (r1, r2, s') ∧ (r1 = 0 ∨ r1 = 1) ∧ 0 ≤ r2 := by
    unfold laws_dice_below.f
    rw [hs', hb]
    have w1 : wrap64 (s' / 8589934592 % 16777216) = s' / 8589934592 % 16777216 := by unfold wrap64; omega
    have w2 : wrap64 (rd code i) = rd code i := by unfold wrap64; omega
    have w3 : wrap64 (s' / 8589934592 % 16777216 + rd code i) = s' / 8589934592 % 16777216 + rd code i := by unfold wrap64; omega
    by_cases c1 : i < (code.length : Int)
    · have w4 : wrap64 (i + 1) = i + 1 := by unfold wrap64; omega
      rw [if_pos c1, if_pos hi, if_neg (by decide), w1, w2, w3, w4]
      refine ⟨_, _, rfl, ?_, by omega⟩
      rw [Int.tmod_eq_emod_of_nonneg (by omega)]
      omega
    · rw [if_neg c1, if_neg (by decide), w1]
      refine ⟨_, _, rfl, ?_, hi⟩
      rw [Int.tmod_eq_emod_of_nonneg (by omega)]
      omega
  obtain ⟨r1, r2, h1, h2, h3⟩ := key
  exact (laws_dice_below.calls g code i s 2 r1 r2 s' w0 w hI hB h1).mono fun e w' ⟨he, hI', hb, hk⟩ => ⟨r1, he, h2, ⟨code, r2, s', hI', h3, hc⟩, hb, hk⟩
theorem dsrc_below {w0 W W' : World} {g : Nat} (h : DSrc w0 W g) (hb : Below W.heap.size W W') : DSrc w0 W' g := by
  obtain ⟨code, i, s, ⟨A0, c0, h1, h2, h3⟩, h4⟩ := h
  exact ⟨code, i, s, ⟨A0, c0, blk_below h1 hb, h2, h3⟩, h4⟩
theorem dsrc_grown {w0 W W' : World} {g : Nat} {row : Option Nat} (h : DSrc w0 W g) (hg : W.grownBy W' row) (hne : some g ≠ row) : DSrc w0 W' g := by
  obtain ⟨code, i, s, ⟨A0, c0, h1, h2, h3⟩, h4⟩ := h
  exact ⟨code, i, s, ⟨A0, c0, blk_grown h1 hg hne, h2, h3⟩, h4⟩
theorem dsrc_blk {w0 w : World} {g : Nat} (h : DSrc w0 w g) : ∃ cs, w.heap[g]? = some (.cells cs 74 (0, 0)) := by
  obtain ⟨_, _, _, ⟨A0, c0, h1, _⟩, _⟩ := h
  exact ⟨_, h1⟩
theorem ints_dice {w0 W W' : World} {g base : Nat} {ok : Nat → Prop} {v : Value} {xs : List Int} (h : Kd.R (Kd.int .i64) 2 W base ok v xs) (hs : DSrc w0 W g) (hk : KeepBut W W' g none) : Kd.R (Kd.int .i64) 2 W' base ok v xs := by
  obtain ⟨cs, hb⟩ := dsrc_blk hs
  exact Kd.R_mono (Kd.R_keep (Kd.R_types h hb (by decide)) hk (fun _ hk => hk.2)) (fun _ hk => hk.1)
theorem roll_total (l : List Int) (hl : l.length ≤ 9223372036854775807) (d : Nat) : ∀ (k : Nat) (i h : Int), 0 ≤ i → (l.length : Int) - i = d → d < k → ∃ r : Int, laws_roll.l0 k l i l 0 h = some (l, 0, r) := by
  induction d with
  | zero =>
    intro k i h h0 hd hk
    obtain ⟨k, rfl⟩ : ∃ m, k = m + 1 := ⟨k - 1, by omega⟩
    refine ⟨h, ?_⟩
    simp only [laws_roll.l0]
    rw [if_neg (by omega)]
  | succ d ih =>
    intro k i h h0 hd hk
    obtain ⟨k, rfl⟩ : ∃ m, k = m + 1 := ⟨k - 1, by omega⟩
    have w1 : wrap64 (i + 1) = i + 1 := by unfold wrap64; omega
    obtain ⟨r, hr⟩ := ih k (i + 1) _ (by omega) (by omega) (by omega)
    refine ⟨r, ?_⟩
    simp only [laws_roll.l0]
    rw [if_pos (by omega), if_pos h0, w1]
    exact hr
theorem roll_src (A0 : Option Addr) (c0 : Nat) (l0 : List Int) (sd : Int) (w : World) (hr0 : Kd.C (Kd.int .u8) w A0 l0.length l0) (hc0 : l0.length ≤ c0) (hb : ∀ x ∈ l0, 0 ≤ x ∧ x ≤ 255) :
    Calls Tryd.prog 11 #[.slice A0 l0.length c0, .int .u64 sd] w fun e w' => ∃ g : Nat, e = .returned (.pointer (some ⟨g, 0, none⟩)) ∧ DSrc w w' g ∧ w.heap.size ≤ g ∧ Below w.heap.size w w' := by
  obtain ⟨r, h1⟩ := roll_total l0 hr0.2.1 l0.length (l0.length + 1) 0 (IntKind.u64.wrap ((IntKind.u64.wrap (sd * 7919)) + (IntKind.u64.wrap ((l0.length : Int))))) (by omega) (by omega) (by omega)
  exact (laws_roll.calls (l0.length + 1) A0 c0 l0 sd l0 0 r w w (Below.refl _ _) hr0 hc0 h1).mono fun e w' ⟨g, he, hI, hb1, hb2⟩ => ⟨g, he, ⟨l0, 0, r, hI, Int.le_refl _, hb⟩, by obtain ⟨_, _, _, h2, _⟩ := hI; exact h2, hb1⟩
theorem has_total (l : List Int) (x : Int) (hl : l.length ≤ 9223372036854775807) (d : Nat) : ∀ (k : Nat) (i : Int), 0 ≤ i → (l.length : Int) - i = d → d < k → ∃ r : Bool, laws_hasInt.l0 k l x i = some r := by
  induction d with
  | zero =>
    intro k i h0 hd hk
    obtain ⟨k, rfl⟩ : ∃ m, k = m + 1 := ⟨k - 1, by omega⟩
    refine ⟨false, ?_⟩
    simp only [laws_hasInt.l0]
    rw [if_neg (by omega)]
  | succ d ih =>
    intro k i h0 hd hk
    obtain ⟨k, rfl⟩ : ∃ m, k = m + 1 := ⟨k - 1, by omega⟩
    have w1 : wrap64 (i + 1) = i + 1 := by unfold wrap64; omega
    obtain ⟨r, hr⟩ := ih k (i + 1) (by omega) (by omega) (by omega)
    by_cases c : rd l i = x
    · refine ⟨true, ?_⟩
      simp only [laws_hasInt.l0]
      rw [if_pos (by omega), if_pos h0, if_pos c]
    · refine ⟨r, ?_⟩
      simp only [laws_hasInt.l0]
      rw [if_pos (by omega), if_pos h0, if_neg c, w1]
      exact hr
theorem has_some (A0 : Option Addr) (c0 : Nat) (l0 : List Int) (x : Int) (w : World) (hr0 : Kd.C (Kd.int .i64) w A0 l0.length l0) (hc0 : l0.length ≤ c0) :
    Calls Tryd.prog 14 #[.slice A0 l0.length c0, .int .i64 x] w fun e w' => ∃ q : Bool, e = .returned (.bool q) ∧ Drawn0 w w' := by
  obtain ⟨r, h1⟩ := has_total l0 x hr0.2.1 l0.length (l0.length + 1) 0 (by omega) (by omega) (by omega)
  exact (laws_hasInt.calls (l0.length + 1) A0 c0 l0 x r w hr0 hc0 h1).mono fun e w' ⟨he, hd⟩ => ⟨r, he, hd⟩
def laws_FnCoverFormulas.T25 : Bool × List (List Nat × List Nat) := (true, [([], []), ([0], [0]), ([1], [1]), ([2], [2]), ([2], [2]), ([3, 4, 2, 2], [2, 3, 4]), ([2], [2]), ([2], [2]), ([6, 7, 5, 2], [2, 6, 7]), ([5, 8, 2], [2, 5, 8]), ([2, 9], [2, 9]), ([10, 8, 0, 1, 2, 3, 4, 5, 6, 7, 8, 9, 10], [10])])
def laws_FnCoverFormulas.B25 : List Nat := [0, 1, 3, 7, 7, 31, 7, 7, 255, 511, 1023, 2047]
theorem laws_FnCoverFormulas.tab25 : rtab .any (opsOf Tryd.f3 25) = laws_FnCoverFormulas.T25 := by kernel_rfl
theorem laws_FnCoverFormulas.bits25 : waitsOk laws_FnCoverFormulas.T25.2 laws_FnCoverFormulas.B25 = true := by kernel_rfl
set_option maxHeartbeats 2000000 in
set_option maxRecDepth 100000 in
theorem lawCF (P : PureCF) (A0 : Option Addr) (c0 : Nat) (l0 : List Int) (w : World) (hr0 : Kd.C (Kd.int .u8) w A0 l0.length l0) (hc0 : l0.length ≤ c0) (hb : ∀ x ∈ l0, 0 ≤ x ∧ x ≤ 255) (hT : TabAt 1 Lib.deBruijn64tab w) :
    Calls Tryd.prog 3 #[.slice A0 l0.length c0] w fun e w' => e = .returned (.bool true) ∧ Below w.heap.size w w' := by
  have hu := Tryd.underlying26
  have hu2 := Tryd.underlying29
  have HR0 := Aside0.mk hr0
  have HC0 := Aside0.mk hc0
  have HB0 := Aside0.mk hb
  have HT := Aside0.mk hT
  have HP := Aside0.mk P
  clear hr0 hc0 hb hT P
  cases hbig : decide ((l0.length : Int) > 4096) with
  | true =>
    have HX := Aside0.mk (show laws_big.f l0 = some true by unfold laws_big.f; rw [hbig])
    clear hbig
    go_enter Tryd.func3, Tryd.ntmps3
    go_wp2_with (fail)
    (with_reducible refine (laws_big.calls A0 c0 l0 true _ HR0.out HC0.out HX.out).mono ?_)
    rintro e w1 ⟨rfl, ⟨nd, rfl⟩⟩
    go_wp2_with (fail)
    go_ret
    exact ⟨rfl, pw_below_drewN (Below.refl _ _) _⟩
  | false =>
    have HX := Aside0.mk (show laws_big.f l0 = some false by unfold laws_big.f; rw [hbig])
    clear hbig
    go_enter Tryd.func3, Tryd.ntmps3
    go_wp2_with (fail)
    (with_reducible refine (laws_big.calls A0 c0 l0 false _ HR0.out HC0.out HX.out).mono ?_)
    rintro e w1 ⟨rfl, ⟨nd, rfl⟩⟩
    clear HX
    go_wp2_with (fail)
    (with_reducible refine (drawOf_walk A0 c0 l0 _ (Kd.C_drewN HR0.out _) HC0.out HB0.out).mono ?_)
    rintro e w1 ⟨ca, cb, v3, rows, rfl, hV, hb1⟩
    have HB1 := Aside0.mk (show Below w.heap.size w w1 from below_then (pw_below_drewN (Below.refl _ _) _) (Nat.le_refl _) hb1)
    obtain ⟨A3, c3, rfl⟩ := Kd.V_slice hV
    have HV1 := Aside0.mk (Kd.V_bound hV)
    clear hV hb1
    obtain ⟨k, n, cs, bad, h1, h2, h3, h4⟩ := HP.out ca cb rows
    have HF1 := Aside0.mk h1
    have HF2 := Aside0.mk h2
    have HF3 := Aside0.mk h3
    have HF4 := Aside0.mk h4
    clear h1 h2 h3 h4
    have HV2 := Aside0.mk (Kd.V_alloc HV1.out (.cells #[.int .i64 ca, .int .i64 cb, .slice A3 rows.length c3] 26))
    have BK2 := Aside0.mk (heap_alloc_new w1 (.cells #[.int .i64 ca, .int .i64 cb, .slice A3 rows.length c3] 26))
    have HB2 := Aside0.mk (below_alloc HB1.out (.cells #[.int .i64 ca, .int .i64 cb, .slice A3 rows.length c3] 26))
    have HGE := Aside0.mk (HB1.out.size)
    clear HV1 HB1
    go_wp2_with (fail)
    (with_reducible refine (impl_FormulaOfCover.calls k ca cb A3 c3 rows n cs bad _ (Kd.V_reads' HV2.out).2.2 (Kd.V_reads' HV2.out).2.1 HF1.out).mono ?_)
    rintro e w2 ⟨v4, rfl, ho, hb⟩
    obtain ⟨A4, c4, rfl⟩ := Kd.S_slice ho
    have HV3 := Aside0.mk (Kd.V_below HV2.out hb)
    have BK3 := Aside0.mk (blk_below BK2.out hb)
    have HB3 := Aside0.mk (below_step HB2.out hb)
    have HW3 := Aside0.mk (Kd.V_bound (Kd.S_V (base' := 0) ho))
    clear ho hb HV2 BK2 HB2
    obtain ⟨g3, hg3⟩ : ∃ g, w1.heap.size = g := ⟨_, rfl⟩
    rw [hg3] at BK3 HV3 HGE
    have HVa := Aside0.mk (Kd.V_alloc HV3.out (.cells #[.int .i64 n, .slice A4 cs.length c4] 29))
    have BKa := Aside0.mk (blk_alloc BK3.out (.cells #[.int .i64 n, .slice A4 cs.length c4] 29))
    have BFa := Aside0.mk (heap_alloc_new w2 (.cells #[.int .i64 n, .slice A4 cs.length c4] 29))
    have HBa := Aside0.mk (below_alloc HB3.out (.cells #[.int .i64 n, .slice A4 cs.length c4] 29))
    have HWa := Aside0.mk (Kd.V_alloc HW3.out (.cells #[.int .i64 n, .slice A4 cs.length c4] 29))
    have HGF := Aside0.mk (HB3.out.size)
    have q0 : w2.cell? ⟨g3, 0, none⟩ = some (.int .i64 ca) := (blk_cell BK3.out 0).trans rfl
    have q1 : w2.cell? ⟨g3, 1, none⟩ = some (.int .i64 cb) := (blk_cell BK3.out 1).trans rfl
    have q2 : w2.cell? ⟨g3, 2, none⟩ = some (.slice A3 rows.length c3) := (blk_cell BK3.out 2).trans rfl
    have qlt := blk_lt BK3.out
    go_wp2_with (fail)
    clear q0 q1 q2 qlt HV3 BK3 HB3 HW3
    (with_reducible refine (spec_FormulaOfCover.calls k ca cb A3 c3 rows n cs bad _ (Kd.V_reads' HVa.out).2.2 (Kd.V_reads' HVa.out).2.1 HF2.out).mono ?_)
    rintro e w3 ⟨v6, rfl, ho, hb⟩
    obtain ⟨A6, c6, rfl⟩ := Kd.S_slice ho
    have HV := Aside0.mk (Kd.V_below HVa.out hb)
    have BK := Aside0.mk (blk_below BKa.out hb)
    have BF := Aside0.mk (blk_below BFa.out hb)
    have HB := Aside0.mk (below_step HBa.out hb)
    have HW := Aside0.mk (Kd.V_below HWa.out hb)
    have HM := Aside0.mk (Kd.V_bound (Kd.S_V (base' := 0) ho))
    clear ho hb HVa BKa BFa HBa HWa
    obtain ⟨g4, hg4⟩ : ∃ g, w2.heap.size = g := ⟨_, rfl⟩
    rw [hg4] at BF HGF HW
    have hbad : (bad != bad) = false := by simp
    have HVa := Aside0.mk (Kd.V_alloc HV.out (.cells #[.int .i64 n, .slice A6 cs.length c6] 29))
    have BKa := Aside0.mk (blk_alloc BK.out (.cells #[.int .i64 n, .slice A6 cs.length c6] 29))
    have BFa := Aside0.mk (blk_alloc BF.out (.cells #[.int .i64 n, .slice A6 cs.length c6] 29))
    have HBa := Aside0.mk (below_alloc HB.out (.cells #[.int .i64 n, .slice A6 cs.length c6] 29))
    have HWa := Aside0.mk (Kd.V_alloc HW.out (.cells #[.int .i64 n, .slice A6 cs.length c6] 29))
    have HMa := Aside0.mk (Kd.V_alloc HM.out (.cells #[.int .i64 n, .slice A6 cs.length c6] 29))
    have q0 : w3.cell? ⟨g4, 0, none⟩ = some (.int .i64 n) := (blk_cell BF.out 0).trans rfl
    have q1 : w3.cell? ⟨g4, 1, none⟩ = some (.slice A4 cs.length c4) := (blk_cell BF.out 1).trans rfl
    have qlt := blk_lt BF.out
    go_wp2_with (fail)
    clear q0 q1 qlt HV BK HB HW HM BF
    (with_reducible refine (laws_likeFormulas.calls k n A4 c4 cs n A6 c6 cs true _ (Kd.V_reads' HWa.out).2.2 (Kd.V_reads' HWa.out).2.1 (Kd.V_reads' HMa.out).2.2 (Kd.V_reads' HMa.out).2.1 HF3.out).mono ?_)
    rintro e w4 ⟨rfl, hb⟩
    have HV := Aside0.mk (Kd.V_bound (Kd.V_below HVa.out hb))
    have BK := Aside0.mk (blk_below BKa.out hb)
    have BF := Aside0.mk (blk_below BFa.out hb)
    have HB := Aside0.mk (below_step HBa.out hb)
    have HW0 := Aside0.mk (Kd.V_bound (Kd.V_below HWa.out hb))
    clear hb HVa BKa BFa HBa HWa HMa
    by_cases hb0 : bad = 0
    · by_cases hl : rows.length ≤ 100
      · have d1 : (bad != 0) = false := by simp [hb0]
        have d2 : decide (100 < (rows.length : Int)) = false := decide_eq_false (by omega)
        have d3 : decide (100 < rows.length) = false := decide_eq_false (by omega)
        have HF5 := Aside0.mk (HF4.out hb0 hl)
        clear HF4
        have HLe := Aside0.mk hl
        have HBad := Aside0.mk hb0
        clear hb0 hl
        have q2 : w4.cell? ⟨g3, 2, none⟩ = some (.slice A3 rows.length c3) := (blk_cell BK.out 2).trans rfl
        go_wp2_with (fail)
        (with_reducible refine (roll_src A0 c0 l0 2001 w4 (Kd.C_below HR0.out HB.out) HC0.out HB0.out).mono ?_)
        rintro e w5 ⟨gd, rfl, hs, hge, hb⟩
        have HS5 := Aside0.mk (dsrc_below hs (below_alloc (Below.refl _ _) (.cells #[] 2)))
        have HW5 := Aside0.mk (below_alloc hb (.cells #[] 2))
        have HR5 := Aside0.mk (R_empty (Kd.int .i64) 2 w4.heap.size w5.heap.size w5 rfl hb.size)
        have HGd := Aside0.mk hge
        have HSz := Aside0.mk HB.out.size
        have HLR := Aside0.mk (blk_lt BK.out)
        clear hs hb hge q2 d1 d2 d3 hbad
        go_wp2_with (fail)
        go_loopg [9, 10] (rows.length) (fun kq v9 v10 w' => ∃ (kk : Nat) (vs : List Int), kk ≤ rows.length ∧ rows.length - kk ≤ kq ∧ v10 = .int .i64 kk ∧ vs.length = kk ∧ Aside0 (∀ x ∈ vs, x = 0 ∨ x = 1) ∧ Aside0 (DSrc w4 w' gd) ∧ Aside0 (Below w4.heap.size w4 w') ∧ Aside0 (Kd.R (Kd.int .i64) 2 w' w4.heap.size (fun _ => True) v9 vs))
        case atStart => exact ⟨0, [], by omega, by omega, rfl, rfl, ⟨fun _ h => by simp at h⟩, HS5, HW5, HR5⟩
        case round =>
          clear HS5 HW5 HR5
          obtain ⟨kk, vs, hkk, hq, rfl, hvl, Hvs, HS, HW4, HR⟩ := hrel
          obtain ⟨A9, c9, rfl⟩ := Kd.R_slice HR.out
          have HBr := Aside0.mk (below_then HB.out HSz.out HW4.out)
          have BKr := Aside0.mk (blk_below BK.out HW4.out)
          have q2 : wr.cell? ⟨g3, 2, none⟩ = some (.slice A3 rows.length c3) := (blk_cell BKr.out 2).trans rfl
          have HVL := Aside0.mk hvl
          clear hvl
          by_cases hlt : kk < rows.length
          · have hl100 := HLe.out
            go_wp2_with (fail)
            (with_reducible refine (below_dice gd w4 wr HS.out HW4.out).mono ?_)
            rintro e w6 ⟨x, rfl, hx, hs1, hb1, hk1⟩
            have HX := Aside0.mk hx
            have HS6 := Aside0.mk hs1
            have HW6 := Aside0.mk hb1
            have HR6 := Aside0.mk (ints_dice HR.out HS.out hk1)
            clear hx hs1 hb1 hk1 HS HW4 HR HBr BKr q2
            go_wp2_with ((with_reducible refine gate_builtin (b := .append) (xs := #[.tmp 57, .tmp 60]) rfl ?_); at_builtin; refine Kd.R_append (Kd.int .i64) (w0 := w4) w4.heap.size rfl (.tmp 57) (.tmp 60) 36 2 (.int .i64 0) 8 rfl Tryd.underlying36 info2 rfl (by decide) (by omega) (.slice A9 vs.length c9) vs x [.int .i64 x] (fun _ => True) (fun _ => False) rfl rfl ?aP (fun _ hk => hk.elim) ?aF ?aO ?aB ?aS ?aL ?_; (case aP => exact rfl); (case aB => exact HW6.out); (case aF => exact (fun _ _ => trivial)); (case aO => exact HR6.out); (case aS => exact HW6.out.size); (case aL => have := HVL.out; omega); intro v1 w7 ho hb hg hat; have HS7 := Aside0.mk (by obtain ⟨cs_, hcs_⟩ := dsrc_blk HS6.out; exact dsrc_grown HS6.out hg (Kd.R_ne HR6.out hcs_ (by decide)) : DSrc w4 w7 gd); have HW7 := Aside0.mk hb; have HR7 := Aside0.mk ho; clear ho hb hg hat)
            go_roundg (rows.length - (kk + 1))
            case measure => omega
            case rel =>
              refine ⟨kk + 1, vs ++ [x], by omega, by omega, by go_num, by rw [List.length_append, List.length_singleton, HVL.out], ⟨fun y hy => ?_⟩, HS7, HW7, HR7⟩
              rcases List.mem_append.1 hy with hy | hy
              · exact Hvs.out y hy
              · rw [List.mem_singleton.1 hy]; exact HX.out
          · obtain rfl : kk = rows.length := by omega
            have q0 : wr.cell? ⟨g3, 0, none⟩ = some (.int .i64 ca) := (blk_cell BKr.out 0).trans rfl
            have q1 : wr.cell? ⟨g3, 1, none⟩ = some (.int .i64 cb) := (blk_cell BKr.out 1).trans rfl
            have HVr := Aside0.mk (Kd.V_below HV.out HW4.out)
            have hlt2 : decide (rows.length < rows.length) = false := by simp
            go_wp2_with (fail)
            obtain ⟨wq, rfl⟩ : ∃ wq : World, wq = wr := ⟨_, rfl⟩
            obtain ⟨⟨r1, r2, hfc⟩, hrest⟩ := HF5.out
            have HFC := Aside0.mk hfc
            have HRest := Aside0.mk hrest
            clear hfc hrest HF5 q0 q1 q2
            (with_reducible refine (impl_FirstCover.calls ca cb A3 c3 rows r1 r2 wq (Kd.V_reads' HVr.out).2.2 (Kd.V_reads' HVr.out).2.1 (tab_below HT.out HBr.out) HFC.out).mono ?_)
            rintro e w6 ⟨v11, rfl, ho, hb⟩
            obtain ⟨A11, c11, rfl⟩ := Kd.R_slice ho
            have HS6 := Aside0.mk (dsrc_below HS.out hb)
            have HW6 := Aside0.mk (below_step HW4.out hb)
            have HR6 := Aside0.mk (Kd.R_below HR.out hb)
            have HL6 := Aside0.mk (Kd.V_mono (Kd.R_V (base' := 0) (Kd.R_bound ho)) (ok' := fun k => wq.heap.size ≤ k) (fun k hk => hk.2.1))
            have HGl : Aside0 (gd < wq.heap.size) := ⟨by obtain ⟨cs_, hcs_⟩ := dsrc_blk HS.out; exact blk_lt hcs_⟩
            have HRl := Aside0.mk (Kd.R_lt HR.out)
            clear ho hb HS HW4 HR HVr BKr HBr hlt hlt2
            go_upto_region 17 with (fail)
            go_cut [73] (fun v73 wx => ∃ q : Bool, v73 = .bool q ∧ Aside0 (Below w4.heap.size w4 wx) ∧ Aside0 (Kd.R (Kd.int .i64) 2 wx w4.heap.size (fun _ => True) (.slice A9 vs.length c9) vs) ∧ Aside0 (Kd.V (Kd.int .i64) 2 wx 0 (fun k => wq.heap.size ≤ k) (.slice A11 r1.length c11) r1))
            case first =>
              by_cases hr2 : r2 = 0
              · have d0 : (r2 == 0) = true := by rw [beq_iff_eq]; exact hr2
                clear hr2
                go_wp2_with (fail)
                (with_reducible refine (below_dice gd w4 w6 HS6.out HW6.out).mono ?_)
                rintro e w7 ⟨x, rfl, hx, hs1, hb1, hk1⟩
                have HW7 := Aside0.mk hb1
                have HR7 := Aside0.mk (ints_dice HR6.out HS6.out hk1)
                have HL7 := Aside0.mk (Kd.V_keep HL6.out hk1 (fun k hk => by have := HGl.out; omega))
                clear hx hs1 hb1 hk1 HW6 HR6 HL6 HS6
                go_wp2_with (fail)
                go_meet
                case rel => exact ⟨_, rfl, HW7, HR7, HL7⟩
              · have d0 : (r2 == 0) = false := by rw [beq_eq_false_iff_ne]; exact hr2
                clear hr2
                go_wp2_with (fail)
                go_meet
                case rel => exact ⟨false, rfl, HW6, HR6, HL6⟩
            case rest =>
              clear HW6 HR6 HL6 HS6
              obtain ⟨q, rfl, HW, HR, HL⟩ := hcut
              have hvm : vs.length ≤ 100 := by have h1_ := HVL.out; have h2_ := HLe.out; omega
              go_upto_if 73 with (fail)
              go_cut [9] (fun v9 wx => ∃ vs' : List Int, Aside0 (vs'.length = rows.length) ∧ Aside0 (∀ x ∈ vs', x = 0 ∨ x = 1) ∧ Aside0 (Below w4.heap.size w4 wx) ∧ Aside0 (Kd.R (Kd.int .i64) 2 wx w4.heap.size (fun _ => True) v9 vs'))
              case first =>
                cases q with
                | false =>
                  go_wp2_with (fail)
                  go_meet
                  case rel => exact ⟨vs, HVL, Hvs, HW, HR⟩
                | true =>
                  go_wp2_with (fail)
                  go_loopg [13] (vs.length) (fun kq v13 w' => ∃ (kk : Nat) (vs' : List Int), kk ≤ vs.length ∧ vs.length - kk ≤ kq ∧ v13 = .int .i64 kk ∧ Aside0 (vs'.length = vs.length) ∧ Aside0 (∀ x ∈ vs', x = 0 ∨ x = 1) ∧ Aside0 (Below w4.heap.size w4 w') ∧ Aside0 (Kd.R (Kd.int .i64) 2 w' w4.heap.size (fun _ => True) (.slice A9 vs.length c9) vs') ∧ Aside0 (Kd.V (Kd.int .i64) 2 w' 0 (fun k => wq.heap.size ≤ k) (.slice A11 r1.length c11) r1))
                  case atStart => exact ⟨0, vs, by omega, by omega, rfl, ⟨rfl⟩, Hvs, HW, HR, HL⟩
                  case round =>
                    clear HW HR HL
                    obtain ⟨kk, vs', hkk, hq, rfl, HVL', Hvs', HW, HR, HL⟩ := hrel
                    by_cases hlt : kk < vs.length
                    · obtain ⟨gv, cv, hv, hgv1, hgv2, _⟩ := Kd.R_form HR.out (by have h1_ := HVL'.out; omega)
                      injection hv with hA hn hc
                      clear hn
                      subst hA
                      subst hc
                      have HG1 := Aside0.mk hgv1
                      have HG2 : Aside0 (gv < wq.heap.size) := ⟨HRl.out gv (by simp [Value.ownBlock])⟩
                      have HRn := Aside0.mk (show Kd.R (Kd.int .i64) 2 wr w4.heap.size (fun _ => True) (.slice (some ⟨gv, 0, none⟩) vs'.length c9) vs' by rw [HVL'.out]; exact HR.out)
                      obtain ⟨hcv, hfv⟩ := Kd.R_cell (h1 := fun _ => rfl) (enc := Value.int .i64) 0 HRn.out kk (by omega) (by have h1_ := HVL'.out; omega)
                      rw [Int.toNat_natCast] at hcv hfv
                      have HR1 := Aside0.mk (Kd.R_put (h1 := fun _ => rfl) (enc := Value.int .i64) HRn.out kk 0).1
                      rw [Int.toNat_natCast] at HR1
                      have HW1 := Aside0.mk (HW.out.setCell (p := ⟨gv, kk, none⟩) HG1.out (.int .i64 0))
                      have HL1 := Aside0.mk (Kd.V_far HL.out (p := ⟨gv, kk, none⟩) (fun k hk => by have h1_ := HG2.out; simp; omega) (.int .i64 0))
                      have HLs : Aside0 ((vs'.set kk 0).length = vs.length) := ⟨by rw [List.length_set, HVL'.out]⟩
                      clear HR HW HL HRn
                      go_wp2_with (fail)
                      (with_reducible refine (has_some A11 c11 r1 kk _ (Kd.V_reads' HL1.out).2.2 (Kd.V_reads' HL1.out).2.1).mono ?_)
                      rintro e w' ⟨q, rfl, ⟨nd, rfl⟩⟩
                      have HR2 := Aside0.mk (show Kd.R (Kd.int .i64) 2 (wr.setCell ⟨gv, kk, none⟩ (.int .i64 0)) w4.heap.size (fun _ => True) (.slice (some ⟨gv, 0, none⟩) vs.length c9) (vs'.set kk 0) by have h1_ := HR1.out; rw [HVL'.out] at h1_; exact h1_)
                      have H01 : ∀ y : Int, (y = 0 ∨ y = 1) → ∀ x ∈ vs'.set kk y, x = 0 ∨ x = 1 := fun y hy x hx => by
                        rcases List.mem_or_eq_of_mem_set hx with hx | hx
                        · exact Hvs'.out x hx
                        · rw [hx]; exact hy
                      have H0 := Aside0.mk (H01 0 (.inl rfl))
                      have H1 := Aside0.mk (H01 1 (.inr rfl))
                      clear H01
                      cases q with
                      | false =>
                        go_wp2_with (fail)
                        go_roundg (vs.length - (kk + 1))
                        case measure => omega
                        case rel => exact ⟨kk + 1, vs'.set kk 0, by omega, by omega, by go_num, HLs, H0, ⟨pw_below_drewN HW1.out _⟩, ⟨Kd.R_drewN HR2.out _⟩, ⟨Kd.V_drewN HL1.out _⟩⟩
                      | true =>
                        have HRd := Kd.R_drewN HR1.out nd
                        have hll : vs'.length = (vs'.set kk 0).length := by rw [List.length_set]
                        rw [hll] at HRd
                        have HRp := Aside0.mk (Kd.R_put (h1 := fun _ => rfl) (enc := Value.int .i64) HRd kk 1).1
                        clear HRd hll
                        have HR3 := Aside0.mk (show Kd.R (Kd.int .i64) 2 (((wr.setCell ⟨gv, kk, none⟩ (.int .i64 0)).drewN nd).setCell ⟨gv, kk, none⟩ (.int .i64 1)) w4.heap.size (fun _ => True) (.slice (some ⟨gv, 0, none⟩) vs.length c9) (vs'.set kk 1) by have h1_ := HRp.out; rw [HLs.out, Int.toNat_natCast, List.set_set] at h1_; exact h1_)
                        have HW3 := Aside0.mk ((pw_below_drewN HW1.out nd).setCell (p := ⟨gv, kk, none⟩) HG1.out (.int .i64 1))
                        have HL3 := Aside0.mk (Kd.V_far (Kd.V_drewN HL1.out nd) (p := ⟨gv, kk, none⟩) (fun k hk => by have h1_ := HG2.out; simp; omega) (.int .i64 1))
                        have HLt : Aside0 ((vs'.set kk 1).length = vs.length) := ⟨by rw [List.length_set, HVL'.out]⟩
                        go_wp2_with (fail)
                        go_roundg (vs.length - (kk + 1))
                        case measure => omega
                        case rel => exact ⟨kk + 1, vs'.set kk 1, by omega, by omega, by go_num, HLt, H1, HW3, HR3, HL3⟩
                    · go_wp2_with (fail)
                      go_meet
                      case rel => exact ⟨vs', ⟨HVL'.out.trans HVL.out⟩, Hvs', HW, HR⟩
              case rest =>
                clear HW HR HL
                obtain ⟨vs', HVL', Hvs', HW, HR⟩ := hcut
                obtain ⟨k2, sl, qq, hs1, hs2, hs3⟩ := HRest.out vs' HVL'.out Hvs'.out
                have HS1 := Aside0.mk hs1
                have HS2 := Aside0.mk hs2
                have HS3 := Aside0.mk hs3
                clear hs1 hs2 hs3 HRest
                obtain ⟨A8, c8, rfl⟩ := Kd.R_slice HR.out
                go_wp2_with (fail)
                (with_reducible refine (impl_SelectionOf.calls k2 A8 c8 vs' sl 0 _ (Kd.R_reads' HR.out).2.2 (Kd.R_reads' HR.out).2.1 HS1.out).mono ?_)
                rintro e w8 ⟨v14, rfl, ho, hb⟩
                obtain ⟨A14, c14, rfl⟩ := Kd.R_slice ho
                have HW8 := Aside0.mk (below_drew (below_step HW.out hb))
                have HR8 := Aside0.mk (Kd.V_drew (Kd.V_below (Kd.R_V (base' := 0) HR.out) hb))
                have HO8 := Aside0.mk (Kd.V_drew (Kd.R_V (base' := 0) ho))
                have BK8 := Aside0.mk (blk_below BK.out HW8.out)
                have BF8 := Aside0.mk (blk_below BF.out HW8.out)
                have HV8 := Aside0.mk (Kd.V_below HV.out HW8.out)
                have HM8 := Aside0.mk (Kd.V_below HW0.out HW8.out)
                have HT8 := Aside0.mk (below_then HB.out HSz.out HW8.out)
                clear ho hb HR HW
                go_upto_region 25 with (fail)
                refine start_ (n := 12) (S := fun w' => True) (ds := []) #[false, false, false, false, false, false, false, false, false, false, false, false] (by kernel_rfl) rfl rfl trivial (fun hHeld => ?_)
                refine with_tabW laws_FnCoverFormulas.tab25 laws_FnCoverFormulas.bits25 (fun HT_ HW_ => ?_)
                generalize hWR : w8.drew = WR at HW8 HR8 HO8 BK8 BF8 HV8 HM8 HT8 ⊢
                have HBW := Aside0.mk (Below.refl WR.heap.size WR)
                have HSw := Aside0.mk HT8.out.size
                refine pure_ (i := 0) (N := some 94) (v := ?_) (a' := ?_) #[true, false, false, false, false, false, false, false, false, false, false, false] rfl rfl (any_of HT_.out (by kernel_rfl)) (fun _ _ _ h => h) (Or.inl ⟨by rfl, ?_⟩) ?_ ?_
                rotate_left
                · intro w'
                  go_simp
                  with_reducible rfl
                rotate_left
                · simp only [Act.put, List.setIfInBounds_toArray, List.set_cons_zero, List.set_cons_succ, i64_w, i32_w]
                  rfl
                refine pure_ (i := 1) (N := some 95) (v := ?_) (a' := ?_) #[true, true, false, false, false, false, false, false, false, false, false, false] rfl rfl (any_of HT_.out (by kernel_rfl)) (fun _ _ _ h => h) (Or.inl ⟨by rfl, ?_⟩) ?_ ?_
                rotate_left
                · intro w'
                  go_simp
                  with_reducible rfl
                rotate_left
                · simp only [Act.put, List.setIfInBounds_toArray, List.set_cons_zero, List.set_cons_succ, i64_w, i32_w]
                  rfl
                refine pure_ (i := 2) (N := some 96) (v := ?_) (a' := ?_) #[true, true, true, false, false, false, false, false, false, false, false, false] rfl rfl (any_of HT_.out (by kernel_rfl)) (fun _ _ _ h => h) (Or.inl ⟨by rfl, ?_⟩) ?_ ?_
                rotate_left
                · intro w'
                  go_simp
                  with_reducible rfl
                rotate_left
                · simp only [Act.put, List.setIfInBounds_toArray, List.set_cons_zero, List.set_cons_succ, i64_w, i32_w]
                  rfl
                refine pure_ (i := 4) (N := some 98) (v := ?_) (a' := ?_) #[true, true, true, false, true, false, false, false, false, false, false, false] rfl rfl (any_of HT_.out (by kernel_rfl)) (fun _ _ _ h => h) (Or.inl ⟨by rfl, ?_⟩) ?_ ?_
                rotate_left
                · intro w'
                  go_simp
                  with_reducible rfl
                rotate_left
                · simp only [Act.put, List.setIfInBounds_toArray, List.set_cons_zero, List.set_cons_succ, i64_w, i32_w]
                  rfl
                refine pure_ (i := 7) (N := some 101) (v := ?_) (a' := ?_) #[true, true, true, false, true, false, false, true, false, false, false, false] rfl rfl (any_of HT_.out (by kernel_rfl)) (fun _ _ _ h => h) (Or.inl ⟨by rfl, ?_⟩) ?_ ?_
                rotate_left
                · intro w'
                  go_simp
                  with_reducible rfl
                rotate_left
                · simp only [Act.put, List.setIfInBounds_toArray, List.set_cons_zero, List.set_cons_succ, i64_w, i32_w]
                  rfl
                refine inv_at [3, 5, 6, 8, 9, 10, 11] (fun a0_ b a w' => a = putSel a0_ b [(3, 97, .agg #[.int .i64 n, .slice A4 cs.length c4]), (5, 99, .bool qq), (6, 100, .agg #[.int .i64 ca, .int .i64 cb, .slice A3 rows.length c3]), (8, 102, .bool qq), (9, 103, .bool true), (10, 104, .bool true), (11, 2, .bool true)] ∧ (Below WR.heap.size WR w')) HT_.out HW_.out (by kernel_rfl) (by kernel_rfl) ?_ ?_ ?_
                · exact ⟨by simp only [putSel, Bool.false_eq_true, if_false], HBW.out⟩
                · skip
                  clear HBW
                  refine steps_cons ?_ ?_
                  · rintro b a w' ⟨ha, Q_HBW⟩ hb_ hon hoff
                    refine ⟨_, rfl, fun K hK => ?_⟩
                    have e4 : a.tmps[4]? = some (.pointer (some ⟨g4, 0, none⟩)) := by rw [ha]; exact (putSel_off rfl).trans rfl
                    have e96 : a.tmps[96]? = some (.bool true) := by rw [ha]; exact (putSel_off rfl).trans rfl
                    replace ha := Aside0.mk ha
                    have HBW := Aside0.mk Q_HBW
                    have q0 : w'.cell? ⟨g4, 0, none⟩ = some (.int .i64 n) := (blk_cell (blk_below BF8.out HBW.out) 0).trans rfl
                    have q1 : w'.cell? ⟨g4, 1, none⟩ = some (.slice A4 cs.length c4) := (blk_cell (blk_below BF8.out HBW.out) 1).trans rfl
                    refine value_ (w1 := w') (v := .agg #[.int .i64 n, .slice A4 cs.length c4]) (wanted_on rfl rfl rfl (e96.trans (by first | rfl | (simp [*]; done)))) rfl ?_ ?_
                    · go_simp
                      (try simp only [i64_w])
                      try rfl
                    refine hK.out _ _ ⟨(by rw [ha.out]; exact putSel_upk 0 hb_ rfl rfl rfl), Q_HBW⟩
                  refine steps_cons ?_ ?_
                  · rintro b a w' ⟨ha, Q_HBW⟩ hb_ hon hoff
                    refine ⟨_, rfl, fun K hK => ?_⟩
                    have e97 : a.tmps[97]? = some (.agg #[.int .i64 n, .slice A4 cs.length c4]) := by rw [ha]; exact putSel_on (e := (3, 97, .agg #[.int .i64 n, .slice A4 cs.length c4])) 0 rfl rfl (hon 3 (by kernel_rfl)) rfl
                    have e98 : a.tmps[98]? = some (.slice A8 vs'.length c8) := by rw [ha]; exact (putSel_off rfl).trans rfl
                    have e96 : a.tmps[96]? = some (.bool true) := by rw [ha]; exact (putSel_off rfl).trans rfl
                    replace ha := Aside0.mk ha
                    have HBW := Aside0.mk Q_HBW
                    refine goes_ Tryd.func16 (by kernel_rfl) rfl #[.agg #[.int .i64 n, .slice A4 cs.length c4], .slice A8 vs'.length c8] (wanted_on rfl rfl rfl e96) rfl rfl (by first | (simp only [List.map_toArray, List.map_cons, List.map_nil, Act.eval, Array.getD_eq_getD_getElem?, Option.getD_some, e97, e98, e96]; done) | (simp only [List.map_toArray, List.map_cons, List.map_nil, Act.eval, Array.getD_eq_getD_getElem?, Option.getD_some, e97, e98, e96]; rfl)) ?_
                    refine (impl_Satisfies.calls k2 n A4 c4 cs A8 c8 vs' qq w' (Kd.V_reads' (Kd.V_below HM8.out HBW.out)).2.2 (Kd.V_reads' HM8.out).2.1 (Kd.V_reads' (Kd.V_below HR8.out HBW.out)).2.2 (Kd.V_reads' HR8.out).2.1 HS2.out).mono ?_
                    rintro e w1 ⟨rfl, hb⟩
                    refine ⟨_, rfl, ?_⟩
                    refine hK.out _ _ ⟨(by rw [ha.out]; exact putSel_upk 1 hb_ rfl rfl rfl), below_step HBW.out hb⟩
                  refine steps_cons ?_ ?_
                  · rintro b a w' ⟨ha, Q_HBW⟩ hb_ hon hoff
                    refine ⟨_, rfl, fun K hK => ?_⟩
                    have e3 : a.tmps[3]? = some (.pointer (some ⟨g3, 0, none⟩)) := by rw [ha]; exact (putSel_off rfl).trans rfl
                    have e96 : a.tmps[96]? = some (.bool true) := by rw [ha]; exact (putSel_off rfl).trans rfl
                    replace ha := Aside0.mk ha
                    have HBW := Aside0.mk Q_HBW
                    have q0 : w'.cell? ⟨g3, 0, none⟩ = some (.int .i64 ca) := (blk_cell (blk_below BK8.out HBW.out) 0).trans rfl
                    have q1 : w'.cell? ⟨g3, 1, none⟩ = some (.int .i64 cb) := (blk_cell (blk_below BK8.out HBW.out) 1).trans rfl
                    have q2 : w'.cell? ⟨g3, 2, none⟩ = some (.slice A3 rows.length c3) := (blk_cell (blk_below BK8.out HBW.out) 2).trans rfl
                    refine value_ (w1 := w') (v := .agg #[.int .i64 ca, .int .i64 cb, .slice A3 rows.length c3]) (wanted_on rfl rfl rfl (e96.trans (by first | rfl | (simp [*]; done)))) rfl ?_ ?_
                    · go_simp
                      (try simp only [i64_w])
                      try rfl
                    refine hK.out _ _ ⟨(by rw [ha.out]; exact putSel_upk 2 hb_ rfl rfl rfl), Q_HBW⟩
                  refine steps_cons ?_ ?_
                  · rintro b a w' ⟨ha, Q_HBW⟩ hb_ hon hoff
                    refine ⟨_, rfl, fun K hK => ?_⟩
                    have e100 : a.tmps[100]? = some (.agg #[.int .i64 ca, .int .i64 cb, .slice A3 rows.length c3]) := by rw [ha]; exact putSel_on (e := (6, 100, .agg #[.int .i64 ca, .int .i64 cb, .slice A3 rows.length c3])) 2 rfl rfl (hon 6 (by kernel_rfl)) rfl
                    have e101 : a.tmps[101]? = some (.slice A14 sl.length c14) := by rw [ha]; exact (putSel_off rfl).trans rfl
                    have e96 : a.tmps[96]? = some (.bool true) := by rw [ha]; exact (putSel_off rfl).trans rfl
                    replace ha := Aside0.mk ha
                    have HBW := Aside0.mk Q_HBW
                    refine goes_ Tryd.func17 (by kernel_rfl) rfl #[.agg #[.int .i64 ca, .int .i64 cb, .slice A3 rows.length c3], .slice A14 sl.length c14] (wanted_on rfl rfl rfl e96) rfl rfl (by first | (simp only [List.map_toArray, List.map_cons, List.map_nil, Act.eval, Array.getD_eq_getD_getElem?, Option.getD_some, e100, e101, e96]; done) | (simp only [List.map_toArray, List.map_cons, List.map_nil, Act.eval, Array.getD_eq_getD_getElem?, Option.getD_some, e100, e101, e96]; rfl)) ?_
                    refine (impl_IsSolution.calls k2 ca cb A3 c3 rows A14 c14 sl qq w' (Kd.V_reads' (Kd.V_below HV8.out HBW.out)).2.2 (Kd.V_reads' HV8.out).2.1 (Kd.V_reads' (Kd.V_below HO8.out HBW.out)).2.2 (Kd.V_reads' HO8.out).2.1 HS3.out).mono ?_
                    rintro e w1 ⟨rfl, hb⟩
                    refine ⟨_, rfl, ?_⟩
                    refine hK.out _ _ ⟨(by rw [ha.out]; exact putSel_upk 3 hb_ rfl rfl rfl), below_step HBW.out hb⟩
                  refine steps_cons ?_ ?_
                  · rintro b a w' ⟨ha, Q_HBW⟩ hb_ hon hoff
                    refine ⟨_, rfl, fun K hK => ?_⟩
                    have e99 : a.tmps[99]? = some (.bool qq) := by rw [ha]; exact putSel_on (e := (5, 99, .bool qq)) 1 rfl rfl (hon 5 (by kernel_rfl)) rfl
                    have e102 : a.tmps[102]? = some (.bool qq) := by rw [ha]; exact putSel_on (e := (8, 102, .bool qq)) 3 rfl rfl (hon 8 (by kernel_rfl)) rfl
                    have e96 : a.tmps[96]? = some (.bool true) := by rw [ha]; exact (putSel_off rfl).trans rfl
                    replace ha := Aside0.mk ha
                    have HBW := Aside0.mk Q_HBW
                    refine value_ (w1 := w') (v := .bool true) (wanted_on rfl rfl rfl (e96.trans (by first | rfl | (simp [*]; done)))) rfl ?_ ?_
                    · go_simp
                      (try simp only [i64_w])
                      try rfl
                    refine hK.out _ _ ⟨(by rw [ha.out]; exact putSel_upk 4 hb_ rfl rfl rfl), Q_HBW⟩
                  refine steps_cons ?_ ?_
                  · rintro b a w' ⟨ha, Q_HBW⟩ hb_ hon hoff
                    refine ⟨_, rfl, fun K hK => ?_⟩
                    have e96 : a.tmps[96]? = some (.bool true) := by rw [ha]; exact (putSel_off rfl).trans rfl
                    have e103 : a.tmps[103]? = some (.bool true) := by rw [ha]; exact putSel_on (e := (9, 103, .bool true)) 4 rfl rfl (hon 9 (by kernel_rfl)) rfl
                    replace ha := Aside0.mk ha
                    have HBW := Aside0.mk Q_HBW
                    refine value_ (w1 := w') (v := .bool true) (by rfl) rfl ?_ ?_
                    · go_simp
                      (try simp only [i64_w])
                      try rfl
                    refine hK.out _ _ ⟨(by rw [ha.out]; exact putSel_upk 5 hb_ rfl rfl rfl), Q_HBW⟩
                  refine steps_cons ?_ ?_
                  · rintro b a w' ⟨ha, Q_HBW⟩ hb_ hon hoff
                    refine ⟨_, rfl, fun K hK => ?_⟩
                    have e104 : a.tmps[104]? = some (.bool true) := by rw [ha]; exact putSel_on (e := (10, 104, .bool true)) 5 rfl rfl (hon 10 (by kernel_rfl)) rfl
                    replace ha := Aside0.mk ha
                    have HBW := Aside0.mk Q_HBW
                    refine value_ (w1 := w') (v := .bool true) (by rfl) rfl ?_ ?_
                    · go_simp
                      (try simp only [i64_w])
                      try rfl
                    refine hK.out _ _ ⟨(by rw [ha.out]; exact putSel_upk 6 hb_ rfl rfl rfl), Q_HBW⟩
                  exact steps_nil
                · rintro b a w' hall ⟨ha, Q_HBW⟩
                  clear HBW
                  have hb3_ := hall 3 (by kernel_rfl)
                  have hb5_ := hall 5 (by kernel_rfl)
                  have hb6_ := hall 6 (by kernel_rfl)
                  have hb8_ := hall 8 (by kernel_rfl)
                  have hb9_ := hall 9 (by kernel_rfl)
                  have hb10_ := hall 10 (by kernel_rfl)
                  have hb11_ := hall 11 (by kernel_rfl)
                  subst ha
                  simp only [putSel, hb3_, hb5_, hb6_, hb8_, hb9_, hb10_, hb11_, if_true, Act.put, List.setIfInBounds_toArray, List.set_cons_zero, List.set_cons_succ]
                  have HBW := Aside0.mk Q_HBW
                  clear Q_HBW
                  clear hall hb3_ hb5_ hb6_ hb8_ hb9_ hb10_ hb11_
                  have HE := HT8.out.trans (HBW.out.mono HSw.out)
                  clear HBW
                  go_wp2_with (fail)
                  go_ret
                  exact ⟨rfl, HE⟩
      · have d1 : (bad != 0) = false := by simp [hb0]
        have d2 : decide (100 < (rows.length : Int)) = true := decide_eq_true (by omega)
        have d3 : decide (100 < rows.length) = true := decide_eq_true (by omega)
        clear hb0 hl
        have q2 : w4.cell? ⟨g3, 2, none⟩ = some (.slice A3 rows.length c3) := (blk_cell BK.out 2).trans rfl
        go_wp2_with (fail)
        go_ret
        exact ⟨rfl, HB.out⟩
    · have d1 : (bad != 0) = true := by simp [hb0]
      clear hb0
      go_wp2_with (fail)
      go_ret
      exact ⟨rfl, HB.out⟩

end Go.Proofs.YtmchbkjjpeiedaaDoor.DFnCoverFormulas
