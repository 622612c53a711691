-- Written by drive.py (wip/tool): the kit's print with texts of my own beside it.
import Derived.Test.YtmchbkjjpeiedaaDoorDFnCoverFormulasx0
import Derived.Test.YtmchbkjjpeiedaaDoorDFnCoverFormulasx6
namespace Go.Proofs.YtmchbkjjpeiedaaDoor.DFnCoverFormulas
open Go.RowKit Go.Proofs.YtmchbkjjpeiedaaDoorW.PrintWords Go.Proofs.YtmchbkjjpeiedaaDoorW.PrintLast Go.Proofs.YtmchbkjjpeiedaaDoorW.PrintMore Go.Proofs.YtmchbkjjpeiedaaDoorH
attribute [local go_sem] max2_int min2_int max_two min_two max_three min_three max_four min_four   -- for this text's walks alone
set_option linter.unusedVariables false
set_option linter.unusedSimpArgs false

/-! ### laws_likeLists: function 45 -/
def laws_likeLists.l0 : Nat → List (List Int) → List (List Int) → Int → Option (Bool)
  | 0, _, _, _ => none
  | k + 1, x0, x1, x5 => if x5 < (x0.length : Int) then (if 0 ≤ x5 then (if x5 < (x1.length : Int) then ((laws_likeInts.f k (rd_L3 x0 x5) (rd_L3 x1 x5)).bind fun t182 => (if t182 = true then (laws_likeLists.l0 k x0 x1 (wrap64 (x5 + 1))) else (some false))) else (none)) else (none)) else (some true)
def laws_likeLists.f (k : Nat) (l0 : List (List Int)) (l1 : List (List Int)) : Option (Bool) := if (l0.length : Int) = (l1.length : Int) then (laws_likeLists.l0 k l0 l1 0) else (some false)
theorem laws_likeLists.mono_l : ∀ k, (∀ y0 y1 y2, LeO (laws_likeLists.l0 k y0 y1 y2) (laws_likeLists.l0 (k + 1) y0 y1 y2))
  | 0 => fun _ _ _ r h => by simp [laws_likeLists.l0] at h
  | k + 1 => by
    have ih0 := laws_likeLists.mono_l k
    · intro y0 y1 y2
      unfold laws_likeLists.l0
      repeat' first
      | (with_reducible exact ih0 _ _ _)
      | (with_reducible exact laws_likeInts.mono _ _ _)
      | (with_reducible exact LeO.refl _)
      | (with_reducible exact LeO.none _)
      | (with_reducible refine LeO.ite ?_ ?_)
      | (with_reducible refine LeO.bind ?_ (fun _ => ?_))
      | exact ih0 _ _ _
      | exact laws_likeInts.mono _ _ _
      | exact LeO.none _
      | refine LeO.ite ?_ ?_
      | refine LeO.bind ?_ (fun _ => ?_)
theorem laws_likeLists.mono : ∀ a0 a1 k, LeO (laws_likeLists.f k a0 a1) (laws_likeLists.f (k + 1) a0 a1) := by
  intro a0 a1 k
  have ih0 := laws_likeLists.mono_l k
  unfold laws_likeLists.f
  repeat' first
      | (with_reducible exact ih0 _ _ _)
      | (with_reducible exact laws_likeInts.mono _ _ _)
      | (with_reducible exact LeO.refl _)
      | (with_reducible exact LeO.none _)
      | (with_reducible refine LeO.ite ?_ ?_)
      | (with_reducible refine LeO.bind ?_ (fun _ => ?_))
      | exact ih0 _ _ _
      | exact laws_likeInts.mono _ _ _
      | exact LeO.none _
      | refine LeO.ite ?_ ?_
      | refine LeO.bind ?_ (fun _ => ?_)
set_option maxHeartbeats 8000000 in
set_option maxRecDepth 100000 in
theorem laws_likeLists.calls (k : Nat) (A0 : Option Addr) (c0 : Nat) (l0 : List (List Int)) (A1 : Option Addr) (c1 : Nat) (l1 : List (List Int)) (r : Bool) (w : World) (hr0 : Kd.C (Kd.slice 2 (Kd.int .i64)) w A0 l0.length l0) (hc0 : l0.length ≤ c0) (hr1 : Kd.C (Kd.slice 2 (Kd.int .i64)) w A1 l1.length l1) (hc1 : l1.length ≤ c1) (h : laws_likeLists.f k l0 l1 = some r) :
    Calls Tryd.prog 45 #[.slice A0 l0.length c0, .slice A1 l1.length c1] w fun e w' => e = .returned (.bool r) ∧ Drawn0 w w' := by
  have HR0 := Aside0.mk hr0
  have HC0 := Aside0.mk hc0
  clear hr0 hc0
  have HR1 := Aside0.mk hr1
  have HC1 := Aside0.mk hc1
  clear hr1 hc1
  have H : (if (l0.length : Int) = (l1.length : Int) then (laws_likeLists.l0 k l0 l1 0) else (some false)) = some r := h
  clear h
  by_cases c3 : (l0.length : Int) = (l1.length : Int)
  · rw [if_pos c3] at H
    have c3b0 : ((l0.length : Int) == (l1.length : Int)) = true := beq_iff_eq.mpr c3
    have c3b1 : ((l0.length : Int) != (l1.length : Int)) = false := bne_eq_false_iff_eq.mpr c3
    have c3b2 : (l0.length == l1.length) = true := by first | simpa using c3 | (simp at c3 ⊢; omega)
    clear c3
    have H' := Aside0.mk H
    clear H
    go_enter Tryd.func45, Tryd.ntmps45
    go_wp2
    repeat (go_quiet (fail); try go_wp2)
    go_loopg [5] k (fun kq v5 w' => ∃ (x5_1 : Int), v5 = .int .i64 x5_1 ∧ Aside0 (laws_likeLists.l0 kq l0 l1 x5_1 = some r) ∧ Aside0 (kq ≤ k) ∧ Drawn0 w w')
    case atStart => exact ⟨(0), (by first | rfl | (simp; done) | (simp [*]; done)), H', ⟨Nat.le_refl _⟩, by repeat (first | exact Drawn0.refl _ | apply Drawn0.step)⟩
    case round =>
      clear H'
      try clear c1
      try clear p2
      try clear c3
      try clear c3b0
      try clear c3b1
      try clear c3b2
      obtain ⟨x5_1, rfl, HA, HK1, ⟨m1, rfl⟩⟩ := hrel
      cases gk with
      | zero => exact absurd HA.out (by simp [laws_likeLists.l0])
      | succ k1 =>
        have H := HA.out
        clear HA
        simp only [laws_likeLists.l0] at H
        by_cases c4 : x5_1 < (l0.length : Int)
        · rw [if_pos c4] at H
          have c4b0 : decide (x5_1 < (l0.length : Int)) = true := decide_eq_true c4
          clear c4
          by_cases c5 : 0 ≤ x5_1
          · rw [if_pos c5] at H
            have c5b0 : decide (0 ≤ x5_1) = true := decide_eq_true c5
            clear c5
            by_cases c6 : x5_1 < (l1.length : Int)
            · rw [if_pos c6] at H
              have c6b0 : decide (x5_1 < (l1.length : Int)) = true := decide_eq_true c6
              clear c6
              replace H := Option.bind_eq_some_iff.mp H
              obtain ⟨t182, A70, H⟩ := H
              replace H : (if t182 = true then (laws_likeLists.l0 k1 l0 l1 (wrap64 (x5_1 + 1))) else (some false)) = some r := H
              have A7 := Aside0.mk A70
              clear A70
              by_cases c8 : t182 = true
              · subst c8
                have H1 : (laws_likeLists.l0 k1 l0 l1 (wrap64 (x5_1 + 1))) = some r := by rw [if_pos rfl] at H; exact H
                clear H
                have H := H1
                clear H1
                have H' := Aside0.mk H
                clear H
                have p180 : 0 ≤ (x5_1 : Int) := of_decide_eq_true (by first | (with_reducible assumption) | assumption)
                have q180 : x5_1 < (l0.length : Int) := of_decide_eq_true (by first | (with_reducible assumption) | assumption)
                obtain ⟨ad180, A180_0, c180_0, e180, hx180_0, hl180_0, hi180_0⟩ := at_L3 HR0.out x5_1 p180 q180
                cases e180
                have HR180_0 := Aside0.mk hi180_0
                have HC180_0 := Aside0.mk hl180_0
                clear hi180_0 hl180_0
                replace p180 := eq_true p180
                replace q180 := eq_true q180
                have p181 : 0 ≤ (x5_1 : Int) := of_decide_eq_true (by first | (with_reducible assumption) | assumption)
                have q181 : x5_1 < (l1.length : Int) := of_decide_eq_true (by first | (with_reducible assumption) | assumption)
                obtain ⟨ad181, A181_0, c181_0, e181, hx181_0, hl181_0, hi181_0⟩ := at_L3 HR1.out x5_1 p181 q181
                cases e181
                have HR181_0 := Aside0.mk hi181_0
                have HC181_0 := Aside0.mk hl181_0
                clear hi181_0 hl181_0
                replace p181 := eq_true p181
                replace q181 := eq_true q181
                go_wp2_with (first | (go_at_call 29; (with_reducible refine (laws_likeInts.calls k1 _ _ (rd_L3 l0 x5_1) _ _ (rd_L3 l1 x5_1) true _ ?side1 ?side2 ?side3 ?side4 A7.out).mono ?_); (case side1 => repeat (first | exact HR180_0.out | (with_reducible refine Kd.C_alloc ?_ _) | (with_reducible refine Kd.C_drewN ?_ _) | (with_reducible refine Kd.C_drew ?_))); (case side2 => exact HC180_0.out); (case side3 => repeat (first | exact HR181_0.out | (with_reducible refine Kd.C_alloc ?_ _) | (with_reducible refine Kd.C_drewN ?_ _) | (with_reducible refine Kd.C_drew ?_))); (case side4 => exact HC181_0.out); rintro e w' ⟨rfl, ⟨nd, rfl⟩⟩; (try first | exact ⟨rfl, _, World.drewN_drewN _ _ _⟩ | exact ⟨rfl, _, Eq.trans (World.drewN_drewN _ _ _) (congrArg (World.drewN _) (Nat.add_assoc _ _ _))⟩)))
                repeat (go_quiet (first | (go_at_call 29; (with_reducible refine (laws_likeInts.calls k1 _ _ (rd_L3 l0 x5_1) _ _ (rd_L3 l1 x5_1) true _ ?side1 ?side2 ?side3 ?side4 A7.out).mono ?_); (case side1 => repeat (first | exact HR180_0.out | (with_reducible refine Kd.C_alloc ?_ _) | (with_reducible refine Kd.C_drewN ?_ _) | (with_reducible refine Kd.C_drew ?_))); (case side2 => exact HC180_0.out); (case side3 => repeat (first | exact HR181_0.out | (with_reducible refine Kd.C_alloc ?_ _) | (with_reducible refine Kd.C_drewN ?_ _) | (with_reducible refine Kd.C_drew ?_))); (case side4 => exact HC181_0.out); rintro e w' ⟨rfl, ⟨nd, rfl⟩⟩; (try first | exact ⟨rfl, _, World.drewN_drewN _ _ _⟩ | exact ⟨rfl, _, Eq.trans (World.drewN_drewN _ _ _) (congrArg (World.drewN _) (Nat.add_assoc _ _ _))⟩))); try go_wp2_with (first | (go_at_call 29; (with_reducible refine (laws_likeInts.calls k1 _ _ (rd_L3 l0 x5_1) _ _ (rd_L3 l1 x5_1) true _ ?side1 ?side2 ?side3 ?side4 A7.out).mono ?_); (case side1 => repeat (first | exact HR180_0.out | (with_reducible refine Kd.C_alloc ?_ _) | (with_reducible refine Kd.C_drewN ?_ _) | (with_reducible refine Kd.C_drew ?_))); (case side2 => exact HC180_0.out); (case side3 => repeat (first | exact HR181_0.out | (with_reducible refine Kd.C_alloc ?_ _) | (with_reducible refine Kd.C_drewN ?_ _) | (with_reducible refine Kd.C_drew ?_))); (case side4 => exact HC181_0.out); rintro e w' ⟨rfl, ⟨nd, rfl⟩⟩; (try first | exact ⟨rfl, _, World.drewN_drewN _ _ _⟩ | exact ⟨rfl, _, Eq.trans (World.drewN_drewN _ _ _) (congrArg (World.drewN _) (Nat.add_assoc _ _ _))⟩))))
                go_roundg k1
                case measure => have := HK1.out; omega
                case rel => exact ⟨(wrap64 (x5_1 + 1)), (by first | rfl | (simp; done) | (simp [*]; done)), H', ⟨by have := HK1.out; omega⟩, by repeat (first | exact Drawn0.refl _ | apply Drawn0.step)⟩
              · replace c8 := Bool.eq_false_iff.mpr c8
                subst c8
                have H1 : (some false) = some r := by rw [if_neg (show ¬ (false = true) by decide)] at H; exact H
                clear H
                have H := H1
                clear H1
                obtain rfl := Option.some.inj H
                have p180 : 0 ≤ (x5_1 : Int) := of_decide_eq_true (by first | (with_reducible assumption) | assumption)
                have q180 : x5_1 < (l0.length : Int) := of_decide_eq_true (by first | (with_reducible assumption) | assumption)
                obtain ⟨ad180, A180_0, c180_0, e180, hx180_0, hl180_0, hi180_0⟩ := at_L3 HR0.out x5_1 p180 q180
                cases e180
                have HR180_0 := Aside0.mk hi180_0
                have HC180_0 := Aside0.mk hl180_0
                clear hi180_0 hl180_0
                replace p180 := eq_true p180
                replace q180 := eq_true q180
                have p181 : 0 ≤ (x5_1 : Int) := of_decide_eq_true (by first | (with_reducible assumption) | assumption)
                have q181 : x5_1 < (l1.length : Int) := of_decide_eq_true (by first | (with_reducible assumption) | assumption)
                obtain ⟨ad181, A181_0, c181_0, e181, hx181_0, hl181_0, hi181_0⟩ := at_L3 HR1.out x5_1 p181 q181
                cases e181
                have HR181_0 := Aside0.mk hi181_0
                have HC181_0 := Aside0.mk hl181_0
                clear hi181_0 hl181_0
                replace p181 := eq_true p181
                replace q181 := eq_true q181
                go_wp2_with (first | (go_at_call 29; (with_reducible refine (laws_likeInts.calls k1 _ _ (rd_L3 l0 x5_1) _ _ (rd_L3 l1 x5_1) false _ ?side1 ?side2 ?side3 ?side4 A7.out).mono ?_); (case side1 => repeat (first | exact HR180_0.out | (with_reducible refine Kd.C_alloc ?_ _) | (with_reducible refine Kd.C_drewN ?_ _) | (with_reducible refine Kd.C_drew ?_))); (case side2 => exact HC180_0.out); (case side3 => repeat (first | exact HR181_0.out | (with_reducible refine Kd.C_alloc ?_ _) | (with_reducible refine Kd.C_drewN ?_ _) | (with_reducible refine Kd.C_drew ?_))); (case side4 => exact HC181_0.out); rintro e w' ⟨rfl, ⟨nd, rfl⟩⟩; (try first | exact ⟨rfl, _, World.drewN_drewN _ _ _⟩ | exact ⟨rfl, _, Eq.trans (World.drewN_drewN _ _ _) (congrArg (World.drewN _) (Nat.add_assoc _ _ _))⟩)))
                repeat (go_quiet (first | (go_at_call 29; (with_reducible refine (laws_likeInts.calls k1 _ _ (rd_L3 l0 x5_1) _ _ (rd_L3 l1 x5_1) false _ ?side1 ?side2 ?side3 ?side4 A7.out).mono ?_); (case side1 => repeat (first | exact HR180_0.out | (with_reducible refine Kd.C_alloc ?_ _) | (with_reducible refine Kd.C_drewN ?_ _) | (with_reducible refine Kd.C_drew ?_))); (case side2 => exact HC180_0.out); (case side3 => repeat (first | exact HR181_0.out | (with_reducible refine Kd.C_alloc ?_ _) | (with_reducible refine Kd.C_drewN ?_ _) | (with_reducible refine Kd.C_drew ?_))); (case side4 => exact HC181_0.out); rintro e w' ⟨rfl, ⟨nd, rfl⟩⟩; (try first | exact ⟨rfl, _, World.drewN_drewN _ _ _⟩ | exact ⟨rfl, _, Eq.trans (World.drewN_drewN _ _ _) (congrArg (World.drewN _) (Nat.add_assoc _ _ _))⟩))); try go_wp2_with (first | (go_at_call 29; (with_reducible refine (laws_likeInts.calls k1 _ _ (rd_L3 l0 x5_1) _ _ (rd_L3 l1 x5_1) false _ ?side1 ?side2 ?side3 ?side4 A7.out).mono ?_); (case side1 => repeat (first | exact HR180_0.out | (with_reducible refine Kd.C_alloc ?_ _) | (with_reducible refine Kd.C_drewN ?_ _) | (with_reducible refine Kd.C_drew ?_))); (case side2 => exact HC180_0.out); (case side3 => repeat (first | exact HR181_0.out | (with_reducible refine Kd.C_alloc ?_ _) | (with_reducible refine Kd.C_drewN ?_ _) | (with_reducible refine Kd.C_drew ?_))); (case side4 => exact HC181_0.out); rintro e w' ⟨rfl, ⟨nd, rfl⟩⟩; (try first | exact ⟨rfl, _, World.drewN_drewN _ _ _⟩ | exact ⟨rfl, _, Eq.trans (World.drewN_drewN _ _ _) (congrArg (World.drewN _) (Nat.add_assoc _ _ _))⟩))))
                go_ret
                exact ⟨by first | rfl | (simp; done) | (simp [*]; done), by repeat (first | exact Drawn0.refl _ | apply Drawn0.step)⟩
            · rw [if_neg c6] at H
              exact absurd H (by simp)
          · rw [if_neg c5] at H
            exact absurd H (by simp)
        · rw [if_neg c4] at H
          have c4b0 : decide (x5_1 < (l0.length : Int)) = false := decide_eq_false c4
          clear c4
          obtain rfl := Option.some.inj H
          go_wp2
          repeat (go_quiet (fail); try go_wp2)
          go_ret
          exact ⟨by first | rfl | (simp; done) | (simp [*]; done), by repeat (first | exact Drawn0.refl _ | apply Drawn0.step)⟩
  · rw [if_neg c3] at H
    have c3b0 : ((l0.length : Int) == (l1.length : Int)) = false := beq_eq_false_iff_ne.mpr c3
    have c3b1 : ((l0.length : Int) != (l1.length : Int)) = true := bne_iff_ne.mpr c3
    have c3b2 : (l0.length == l1.length) = false := by first | simpa using c3 | (simp at c3 ⊢; omega)
    obtain rfl := Option.some.inj H
    go_enter Tryd.func45, Tryd.ntmps45
    go_wp2
    repeat (go_quiet (fail); try go_wp2)
    go_ret
    exact ⟨by first | rfl | (simp; done) | (simp [*]; done), by repeat (first | exact Drawn0.refl _ | apply Drawn0.step)⟩

/-! ### laws_likeFormulas: function 10 -/
def laws_likeFormulas.f (k : Nat) (a0_0 : Int) (l0_1 : List (List Int)) (a1_0 : Int) (l1_1 : List (List Int)) : Option (Bool) := if a0_0 = a1_0 then ((laws_likeLists.f k l0_1 l1_1).bind fun t185 => (some t185)) else (some false)
theorem laws_likeFormulas.mono : ∀ a0 a1 a2 a3 k, LeO (laws_likeFormulas.f k a0 a1 a2 a3) (laws_likeFormulas.f (k + 1) a0 a1 a2 a3) := by
  intro a0 a1 a2 a3 k
  unfold laws_likeFormulas.f
  repeat' first
      | (with_reducible exact laws_likeLists.mono _ _ _)
      | (with_reducible exact LeO.refl _)
      | (with_reducible exact LeO.none _)
      | (with_reducible refine LeO.ite ?_ ?_)
      | (with_reducible refine LeO.bind ?_ (fun _ => ?_))
      | exact laws_likeLists.mono _ _ _
      | exact LeO.none _
      | refine LeO.ite ?_ ?_
      | refine LeO.bind ?_ (fun _ => ?_)
set_option maxHeartbeats 8000000 in
set_option maxRecDepth 100000 in
theorem laws_likeFormulas.calls (k : Nat) (a0_0 : Int) (A0_1 : Option Addr) (c0_1 : Nat) (l0_1 : List (List Int)) (a1_0 : Int) (A1_1 : Option Addr) (c1_1 : Nat) (l1_1 : List (List Int)) (r : Bool) (w : World) (hr0_1 : Kd.C (Kd.slice 2 (Kd.int .i64)) w A0_1 l0_1.length l0_1) (hc0_1 : l0_1.length ≤ c0_1) (hr1_1 : Kd.C (Kd.slice 2 (Kd.int .i64)) w A1_1 l1_1.length l1_1) (hc1_1 : l1_1.length ≤ c1_1) (h : laws_likeFormulas.f k a0_0 l0_1 a1_0 l1_1 = some r) :
    Calls Tryd.prog 10 #[.agg #[.int .i64 a0_0, .slice A0_1 l0_1.length c0_1], .agg #[.int .i64 a1_0, .slice A1_1 l1_1.length c1_1]] w fun e w' => e = .returned (.bool r) ∧ Below w.heap.size w w' := by
  have hu29 := Tryd.underlying29
  have HR0_1 := Aside0.mk hr0_1
  have HC0_1 := Aside0.mk hc0_1
  clear hr0_1 hc0_1
  have HR1_1 := Aside0.mk hr1_1
  have HC1_1 := Aside0.mk hc1_1
  clear hr1_1 hc1_1
  have HB := Aside0.mk (Below.refl w.heap.size w)
  have H : (if a0_0 = a1_0 then ((laws_likeLists.f k l0_1 l1_1).bind fun t185 => (some t185)) else (some false)) = some r := h
  clear h
  by_cases c3 : a0_0 = a1_0
  · rw [if_pos c3] at H
    have c3b0 : (a0_0 == a1_0) = true := beq_iff_eq.mpr c3
    have c3b1 : (a0_0 != a1_0) = false := bne_eq_false_iff_eq.mpr c3
    clear c3
    replace H := Option.bind_eq_some_iff.mp H
    obtain ⟨t185, A40, H⟩ := H
    replace H : (some t185) = some r := H
    have A4 := Aside0.mk A40
    clear A40
    obtain rfl := Option.some.inj H
    go_enter Tryd.func10, Tryd.ntmps10
    go_wp2_with (first | ((with_reducible refine gate_dst (N := 2) rfl ?_); refine box_event ?hg (N := 2) ?hd (cs := #[.int .i64 a0_0, .slice A0_1 l0_1.length c0_1]) (t := 29) ?hr ?_; (case hd => rfl); (case hg => rfl); (case hr => first | (go_simp; done) | (go_simp; rfl)); intro gb183 hg w5 hbox hb; have n0_ := Aside0.mk (below_step (by repeat (first | (with_reducible first | exact HB.out | apply below_alloc | apply pw_below_drewN | apply below_drew1) | exact HB.out)) hb); have n1_ := Aside0.mk (hbox); have n2_ := Aside0.mk ((by rw [hg]; exact (below_size (by repeat (first | (with_reducible first | exact HB.out | apply below_alloc | apply pw_below_drewN | apply below_drew1) | exact HB.out))) : w.heap.size ≤ gb183)); have n3_ := Aside0.mk ((by rw [hg]; exact (below_size (by repeat (first | (with_reducible first | exact HB.out | apply below_alloc | apply pw_below_drewN | apply below_drew1) | exact HB.out))) : w.heap.size ≤ gb183)); clear HB; have HB := n0_; have BK183 := n1_; have GW183 := n2_; have GE183 := n3_; clear n0_ n1_ n2_ n3_; clear hb hbox hg) | ((with_reducible refine gate_dst (N := 3) rfl ?_); refine box_event ?hg (N := 3) ?hd (cs := #[.int .i64 a1_0, .slice A1_1 l1_1.length c1_1]) (t := 29) ?hr ?_; (case hd => rfl); (case hg => rfl); (case hr => first | (go_simp; done) | (go_simp; rfl)); intro gb184 hg w6 hbox hb; have n0_ := Aside0.mk (blk_below (g := gb183) (o := .cells #[.int .i64 a0_0, .slice A0_1 l0_1.length c0_1] 29 (0, 0)) (by (with_reducible repeat (first | refine blk_drewN ?_ _ | refine blk_drew ?_ | refine blk_alloc ?_ _)); exact BK183.out) hb); have n1_ := Aside0.mk (below_step (by repeat (first | (with_reducible first | exact HB.out | apply below_alloc | apply pw_below_drewN | apply below_drew1 | refine below_set ?_ GE183.out) | exact HB.out)) hb); have n2_ := Aside0.mk (hbox); have n3_ := Aside0.mk ((by rw [hg]; exact (below_size (by repeat (first | (with_reducible first | exact HB.out | apply below_alloc | apply pw_below_drewN | apply below_drew1 | refine below_set ?_ GE183.out) | exact HB.out))) : w.heap.size ≤ gb184)); have n4_ := Aside0.mk ((by rw [hg]; exact (below_size (by repeat (first | (with_reducible first | exact HB.out | apply below_alloc | apply pw_below_drewN | apply below_drew1 | refine below_set ?_ GE183.out) | exact HB.out))) : w.heap.size ≤ gb184)); have n5_ := Aside0.mk ((by rw [hg]; exact Nat.ne_of_lt (blk_lt (g := gb183) (o := .cells #[.int .i64 a0_0, .slice A0_1 l0_1.length c0_1] 29 (0, 0)) (by (with_reducible repeat (first | refine blk_drewN ?_ _ | refine blk_drew ?_ | refine blk_alloc ?_ _)); exact BK183.out)) : gb183 ≠ gb184)); have n6_ := Aside0.mk ((by rw [hg]; exact Nat.ne_of_gt (blk_lt (g := gb183) (o := .cells #[.int .i64 a0_0, .slice A0_1 l0_1.length c0_1] 29 (0, 0)) (by (with_reducible repeat (first | refine blk_drewN ?_ _ | refine blk_drew ?_ | refine blk_alloc ?_ _)); exact BK183.out)) : gb184 ≠ gb183)); clear BK183; clear HB; have BK183 := n0_; have HB := n1_; have BK184 := n2_; have GW184 := n3_; have GE184 := n4_; have NB183_184 := n5_; have NB184_183 := n6_; clear n0_ n1_ n2_ n3_ n4_ n5_ n6_; clear hb hbox hg; have hnb7 := NB183_184.out; have hnc7 := NB184_183.out; have hcz8_0 : w6.cell? ⟨gb183, 0, none⟩ = some (.int .i64 a0_0) := (blk_cell BK183.out 0).trans rfl; have hcz8_1 : w6.cell? ⟨gb183, 1, none⟩ = some (.slice A0_1 l0_1.length c0_1) := (blk_cell BK183.out 1).trans rfl; have hfz8_0 := blk_frozen BK183.out 0; have hfz8_1 := blk_frozen BK183.out 1; have hcz9_0 : w6.cell? ⟨gb184, 0, none⟩ = some (.int .i64 a1_0) := (blk_cell BK184.out 0).trans rfl; have hcz9_1 : w6.cell? ⟨gb184, 1, none⟩ = some (.slice A1_1 l1_1.length c1_1) := (blk_cell BK184.out 1).trans rfl; have hfz9_0 := blk_frozen BK184.out 0; have hfz9_1 := blk_frozen BK184.out 1) | (go_at_call 45; (with_reducible refine (laws_likeLists.calls k _ _ l0_1 _ _ l1_1 t185 _ ?side1 ?side2 ?side3 ?side4 A4.out).mono ?_); (case side1 => repeat (first | exact (Kd.C_below HR0_1.out HB.out) | (with_reducible refine Kd.C_alloc ?_ _) | (with_reducible refine Kd.C_drewN ?_ _) | (with_reducible refine Kd.C_drew ?_))); (case side2 => exact HC0_1.out); (case side3 => repeat (first | exact (Kd.C_below HR1_1.out HB.out) | (with_reducible refine Kd.C_alloc ?_ _) | (with_reducible refine Kd.C_drewN ?_ _) | (with_reducible refine Kd.C_drew ?_))); (case side4 => exact HC1_1.out); rintro e w' ⟨rfl, ⟨nd, rfl⟩⟩))
    go_ret
    exact ⟨by first | rfl | (simp [errW_none, errW_some] <;> rfl) | (simp [*, errW_none, errW_some] <;> rfl), by repeat (first | (with_reducible first | exact HB.out | apply below_alloc | apply pw_below_drewN | apply below_drew1 | refine below_set ?_ GE183.out | refine below_set ?_ GE184.out) | exact HB.out)⟩
  · rw [if_neg c3] at H
    have c3b0 : (a0_0 == a1_0) = false := beq_eq_false_iff_ne.mpr c3
    have c3b1 : (a0_0 != a1_0) = true := bne_iff_ne.mpr c3
    obtain rfl := Option.some.inj H
    go_enter Tryd.func10, Tryd.ntmps10
    go_wp2_with (first | ((with_reducible refine gate_dst (N := 2) rfl ?_); refine box_event ?hg (N := 2) ?hd (cs := #[.int .i64 a0_0, .slice A0_1 l0_1.length c0_1]) (t := 29) ?hr ?_; (case hd => rfl); (case hg => rfl); (case hr => first | (go_simp; done) | (go_simp; rfl)); intro gb183 hg w10 hbox hb; have n0_ := Aside0.mk (below_step (by repeat (first | (with_reducible first | exact HB.out | apply below_alloc | apply pw_below_drewN | apply below_drew1) | exact HB.out)) hb); have n1_ := Aside0.mk (hbox); have n2_ := Aside0.mk ((by rw [hg]; exact (below_size (by repeat (first | (with_reducible first | exact HB.out | apply below_alloc | apply pw_below_drewN | apply below_drew1) | exact HB.out))) : w.heap.size ≤ gb183)); have n3_ := Aside0.mk ((by rw [hg]; exact (below_size (by repeat (first | (with_reducible first | exact HB.out | apply below_alloc | apply pw_below_drewN | apply below_drew1) | exact HB.out))) : w.heap.size ≤ gb183)); clear HB; have HB := n0_; have BK183 := n1_; have GW183 := n2_; have GE183 := n3_; clear n0_ n1_ n2_ n3_; clear hb hbox hg) | ((with_reducible refine gate_dst (N := 3) rfl ?_); refine box_event ?hg (N := 3) ?hd (cs := #[.int .i64 a1_0, .slice A1_1 l1_1.length c1_1]) (t := 29) ?hr ?_; (case hd => rfl); (case hg => rfl); (case hr => first | (go_simp; done) | (go_simp; rfl)); intro gb184 hg w11 hbox hb; have n0_ := Aside0.mk (blk_below (g := gb183) (o := .cells #[.int .i64 a0_0, .slice A0_1 l0_1.length c0_1] 29 (0, 0)) (by (with_reducible repeat (first | refine blk_drewN ?_ _ | refine blk_drew ?_ | refine blk_alloc ?_ _)); exact BK183.out) hb); have n1_ := Aside0.mk (below_step (by repeat (first | (with_reducible first | exact HB.out | apply below_alloc | apply pw_below_drewN | apply below_drew1 | refine below_set ?_ GE183.out) | exact HB.out)) hb); have n2_ := Aside0.mk (hbox); have n3_ := Aside0.mk ((by rw [hg]; exact (below_size (by repeat (first | (with_reducible first | exact HB.out | apply below_alloc | apply pw_below_drewN | apply below_drew1 | refine below_set ?_ GE183.out) | exact HB.out))) : w.heap.size ≤ gb184)); have n4_ := Aside0.mk ((by rw [hg]; exact (below_size (by repeat (first | (with_reducible first | exact HB.out | apply below_alloc | apply pw_below_drewN | apply below_drew1 | refine below_set ?_ GE183.out) | exact HB.out))) : w.heap.size ≤ gb184)); have n5_ := Aside0.mk ((by rw [hg]; exact Nat.ne_of_lt (blk_lt (g := gb183) (o := .cells #[.int .i64 a0_0, .slice A0_1 l0_1.length c0_1] 29 (0, 0)) (by (with_reducible repeat (first | refine blk_drewN ?_ _ | refine blk_drew ?_ | refine blk_alloc ?_ _)); exact BK183.out)) : gb183 ≠ gb184)); have n6_ := Aside0.mk ((by rw [hg]; exact Nat.ne_of_gt (blk_lt (g := gb183) (o := .cells #[.int .i64 a0_0, .slice A0_1 l0_1.length c0_1] 29 (0, 0)) (by (with_reducible repeat (first | refine blk_drewN ?_ _ | refine blk_drew ?_ | refine blk_alloc ?_ _)); exact BK183.out)) : gb184 ≠ gb183)); clear BK183; clear HB; have BK183 := n0_; have HB := n1_; have BK184 := n2_; have GW184 := n3_; have GE184 := n4_; have NB183_184 := n5_; have NB184_183 := n6_; clear n0_ n1_ n2_ n3_ n4_ n5_ n6_; clear hb hbox hg; have hnb12 := NB183_184.out; have hnc12 := NB184_183.out; have hcz13_0 : w11.cell? ⟨gb183, 0, none⟩ = some (.int .i64 a0_0) := (blk_cell BK183.out 0).trans rfl; have hcz13_1 : w11.cell? ⟨gb183, 1, none⟩ = some (.slice A0_1 l0_1.length c0_1) := (blk_cell BK183.out 1).trans rfl; have hfz13_0 := blk_frozen BK183.out 0; have hfz13_1 := blk_frozen BK183.out 1; have hcz14_0 : w11.cell? ⟨gb184, 0, none⟩ = some (.int .i64 a1_0) := (blk_cell BK184.out 0).trans rfl; have hcz14_1 : w11.cell? ⟨gb184, 1, none⟩ = some (.slice A1_1 l1_1.length c1_1) := (blk_cell BK184.out 1).trans rfl; have hfz14_0 := blk_frozen BK184.out 0; have hfz14_1 := blk_frozen BK184.out 1))
    go_ret
    exact ⟨by first | rfl | (simp [errW_none, errW_some] <;> rfl) | (simp [*, errW_none, errW_some] <;> rfl), by repeat (first | (with_reducible first | exact HB.out | apply below_alloc | apply pw_below_drewN | apply below_drew1 | refine below_set ?_ GE183.out | refine below_set ?_ GE184.out) | exact HB.out)⟩

/-- A state of type 74 at block g of W; what its slices lead to came in by w0. -/
def IsS74 (w0 W : World) (g : Nat) (f0 : List Int) (f1 : Int) (f2 : Int) : Prop := ∃ A0 c0, W.heap[g]? = some (.cells #[.slice A0 f0.length c0, .int .i64 f1, .int .u64 f2] 74 (0, 0)) ∧ w0.heap.size ≤ g ∧ Kd.C (Kd.int .u8) w0 A0 f0.length f0
theorem IsS74.grown {w0 W : World} {g : Nat} {f0 : List Int} {f1 : Int} {f2 : Int} {W1 : World} {row : Option Nat} (h : IsS74 w0 W g f0 f1 f2) (hw : W.grownBy W1 row) (hne : some g ≠ row) : IsS74 w0 W1 g f0 f1 f2 := by
  obtain ⟨A0, c0, hb, hg, hr0⟩ := h
  exact ⟨A0, c0, blk_grown hb hw hne, hg, hr0⟩
theorem IsS74.own_neN {w0 W : World} {g : Nat} {f0 : List Int} {f1 : Int} {f2 : Int} {α : Type} {d : Kd α} {e : Nat} {base : Nat} {ok : Nat → Prop} {v : Value} {xs : List α} (h : IsS74 w0 W g f0 f1 f2) (ho : Kd.N d e W base ok v xs) (ht : e ≠ 74) : some g ≠ v.ownBlock := by
  obtain ⟨A0, c0, hb, hg, hr0⟩ := h
  exact Kd.N_ne ho hb ht
theorem IsS74.fresh {w0 W : World} {g : Nat} {f0 : List Int} {f1 : Int} {f2 : Int} (h : IsS74 w0 W g f0 f1 f2) : ∀ k, W.heap.size ≤ k → k ≠ g := by
  obtain ⟨A0, c0, hb, hg, hr0⟩ := h
  exact Kd.freshB hb
theorem IsS74.kept {w0 W : World} {g : Nat} {f0 : List Int} {f1 : Int} {f2 : Int} {W1 : World} {S : Nat → Prop} (h : IsS74 w0 W g f0 f1 f2) (hk : Kept W W1 S) (hne : ¬ S g) : IsS74 w0 W1 g f0 f1 f2 := by
  obtain ⟨A0, c0, hb, hg, hr0⟩ := h
  exact ⟨A0, c0, blk_kept hb hk hne, hg, hr0⟩
theorem IsS74.below {w0 W : World} {g : Nat} {f0 : List Int} {f1 : Int} {f2 : Int} {W1 : World} (h : IsS74 w0 W g f0 f1 f2) (hw : Below W.heap.size W W1) : IsS74 w0 W1 g f0 f1 f2 := h.grown (grown_of_below hw none) (by simp)
theorem IsS74.alloc {w0 W : World} {g : Nat} {f0 : List Int} {f1 : Int} {f2 : Int} (h : IsS74 w0 W g f0 f1 f2) (o : Obj) : IsS74 w0 (W.alloc o) g f0 f1 f2 := h.below (below_alloc (Below.refl _ _) o)
theorem IsS74.drewN {w0 W : World} {g : Nat} {f0 : List Int} {f1 : Int} {f2 : Int} (h : IsS74 w0 W g f0 f1 f2) (m : Nat) : IsS74 w0 (W.drewN m) g f0 f1 f2 := h
theorem IsS74.drew {w0 W : World} {g : Nat} {f0 : List Int} {f1 : Int} {f2 : Int} (h : IsS74 w0 W g f0 f1 f2) : IsS74 w0 W.drew g f0 f1 f2 := h
theorem IsS74.at_ {w0 W : World} {g : Nat} {f0 : List Int} {f1 : Int} {f2 : Int} {w' : World} {m : Nat} (hq : W.drewN m = w') (h : IsS74 w0 W g f0 f1 f2) : IsS74 w0 w' g f0 f1 f2 := by subst hq; exact IsS74.drewN h m
theorem IsS74.apart {w0 W : World} {g : Nat} {f0 : List Int} {f1 : Int} {f2 : Int} {α : Type} {d : Kd α} {e : Nat} {base : Nat} {ok : Nat → Prop} {v : Value} {xs : List α} (h : IsS74 w0 W g f0 f1 f2) (ho : d.R e W base ok v xs) (ht : ∀ q, q ∈ e :: d.E → q ≠ 74) : d.R e W base (fun k => ok k ∧ k ≠ g) v xs := by
  obtain ⟨A0, c0, hb, hg, hr0⟩ := h
  exact Kd.R_types ho hb ht
theorem IsS74.own_ne {w0 W : World} {g : Nat} {f0 : List Int} {f1 : Int} {f2 : Int} {α : Type} {d : Kd α} {e : Nat} {base : Nat} {ok : Nat → Prop} {v : Value} {xs : List α} (h : IsS74 w0 W g f0 f1 f2) (ho : d.R e W base ok v xs) (ht : e ≠ 74) : some g ≠ v.ownBlock := by
  obtain ⟨A0, c0, hb, hg, hr0⟩ := h
  exact Kd.R_ne ho hb ht
theorem IsS74.apartQ {w0 W : World} {g : Nat} {f0 : List Int} {f1 : Int} {f2 : Int} {α : Type} {d : Kd α} {e : Nat} {base : Nat} {ok : Nat → Prop} {v : Value} {xs : List α} (h : IsS74 w0 W g f0 f1 f2) (ho : d.Q e W base ok v xs) (ht : ∀ q, q ∈ e :: d.E → q ≠ 74) : d.Q e W base (fun k => ok k ∧ k ≠ g) v xs := by
  obtain ⟨A0, c0, hb, hg, hr0⟩ := h
  exact Kd.Q_types ho hb ht
theorem IsS74.own_neQ {w0 W : World} {g : Nat} {f0 : List Int} {f1 : Int} {f2 : Int} {α : Type} {d : Kd α} {e : Nat} {base : Nat} {ok : Nat → Prop} {v : Value} {xs : List α} (h : IsS74 w0 W g f0 f1 f2) (ho : d.Q e W base ok v xs) (ht : e ≠ 74) : some g ≠ v.ownBlock := by
  obtain ⟨A0, c0, hb, hg, hr0⟩ := h
  exact Kd.Q_ne ho hb ht
theorem IsS74.apartS {w0 W : World} {g : Nat} {f0 : List Int} {f1 : Int} {f2 : Int} {α : Type} {d : Kd α} {e : Nat} {base : Nat} {ok : Nat → Prop} {v : Value} {xs : List α} (h : IsS74 w0 W g f0 f1 f2) (ho : d.S e W base ok v xs) (ht : ∀ q, q ∈ e :: d.E → q ≠ 74) : d.S e W base (fun k => ok k ∧ k ≠ g) v xs := by
  obtain ⟨A0, c0, hb, hg, hr0⟩ := h
  exact Kd.S_types ho hb ht
theorem IsS74.own_neS {w0 W : World} {g : Nat} {f0 : List Int} {f1 : Int} {f2 : Int} {α : Type} {d : Kd α} {e : Nat} {base : Nat} {ok : Nat → Prop} {v : Value} {xs : List α} (h : IsS74 w0 W g f0 f1 f2) (ho : d.S e W base ok v xs) (ht : e ≠ 74) : some g ≠ v.ownBlock := by
  obtain ⟨A0, c0, hb, hg, hr0⟩ := h
  exact Kd.S_ne ho hb ht
theorem IsS74.lt {w0 W : World} {g : Nat} {f0 : List Int} {f1 : Int} {f2 : Int} (h : IsS74 w0 W g f0 f1 f2) : g < W.heap.size := by
  obtain ⟨A0, c0, hb, hg, hr0⟩ := h
  exact blk_lt hb
theorem IsS74.ge {w0 W : World} {g : Nat} {f0 : List Int} {f1 : Int} {f2 : Int} (h : IsS74 w0 W g f0 f1 f2) : w0.heap.size ≤ g := by
  obtain ⟨A0, c0, hb, hg, hr0⟩ := h
  exact hg
theorem IsS74.ne_blk {w0 W : World} {g : Nat} {f0 : List Int} {f1 : Int} {f2 : Int} {a : Nat} {cs : Array Value} {t : TypeId} {fr : Nat × Nat} (h : IsS74 w0 W g f0 f1 f2) (hb2 : W.heap[a]? = some (.cells cs t fr)) (ht : t ≠ 74) : g ≠ a := by
  obtain ⟨A0, c0, hb, hg, hr0⟩ := h
  rintro rfl
  rw [hb] at hb2
  injection hb2 with hb2
  injection hb2 with _ ht2
  exact ht ht2.symm
theorem IsS74.far {w0 W : World} {g : Nat} {f0 : List Int} {f1 : Int} {f2 : Int} {p : Addr} (h : IsS74 w0 W g f0 f1 f2) (hne : g ≠ p.block) (u : Value) : IsS74 w0 (W.setCell p u) g f0 f1 f2 := by
  obtain ⟨A0, c0, hb, hg, hr0⟩ := h
  exact ⟨A0, c0, blk_far hb hne u, hg, hr0⟩
theorem cellS74_0 {W : World} {g : Nat} {A0 : Option Addr} {c0 : Nat} {f0 : List Int} {f1 : Int} {f2 : Int} (h : W.heap[g]? = some (.cells #[.slice A0 f0.length c0, .int .i64 f1, .int .u64 f2] 74 (0, 0))) : W.cell? ⟨g, 0, none⟩ = some (.slice A0 f0.length c0) := (blk_cell h 0).trans rfl
theorem cellS74_1 {W : World} {g : Nat} {A0 : Option Addr} {c0 : Nat} {f0 : List Int} {f1 : Int} {f2 : Int} (h : W.heap[g]? = some (.cells #[.slice A0 f0.length c0, .int .i64 f1, .int .u64 f2] 74 (0, 0))) : W.cell? ⟨g, 1, none⟩ = some (.int .i64 f1) := (blk_cell h 1).trans rfl
theorem IsS74.set_1 {w0 W : World} {g : Nat} {f0 : List Int} {f1 : Int} {f2 : Int} (h : IsS74 w0 W g f0 f1 f2) (x : Int) : IsS74 w0 (W.setCell ⟨g, 1, none⟩ (.int .i64 x)) g f0 x f2 := by
  obtain ⟨A0, c0, hb, hg, hr0⟩ := h
  exact ⟨A0, c0, by simpa using blk_set hb 1 (.int .i64 x), hg, hr0⟩
theorem cellS74_2 {W : World} {g : Nat} {A0 : Option Addr} {c0 : Nat} {f0 : List Int} {f1 : Int} {f2 : Int} (h : W.heap[g]? = some (.cells #[.slice A0 f0.length c0, .int .i64 f1, .int .u64 f2] 74 (0, 0))) : W.cell? ⟨g, 2, none⟩ = some (.int .u64 f2) := (blk_cell h 2).trans rfl
theorem IsS74.set_2 {w0 W : World} {g : Nat} {f0 : List Int} {f1 : Int} {f2 : Int} (h : IsS74 w0 W g f0 f1 f2) (x : Int) : IsS74 w0 (W.setCell ⟨g, 2, none⟩ (.int .u64 x)) g f0 f1 x := by
  obtain ⟨A0, c0, hb, hg, hr0⟩ := h
  exact ⟨A0, c0, by simpa using blk_set hb 2 (.int .u64 x), hg, hr0⟩
theorem IsS74.new (w0 W : World) (A0 : Option Addr) (c0 : Nat) (f0 : List Int) (f1 : Int) (f2 : Int) (hB : Below w0.heap.size w0 W) (hr0 : Kd.C (Kd.int .u8) w0 A0 f0.length f0) : IsS74 w0 (W.alloc (.cells #[.slice A0 f0.length c0, .int .i64 f1, .int .u64 f2] 74)) W.heap.size f0 f1 f2 := ⟨A0, c0, by simpa using heap_alloc_new W _, hB.size, hr0⟩

/-! ### laws_roll: function 11 -/
def laws_roll.l0 : Nat → List Int → Int → List Int → Int → Int → Option (List Int × Int × Int)
  | 0, _, _, _, _, _ => none
  | k + 1, x0, x4, x1, x2, x3 => if x4 < (x0.length : Int) then (if 0 ≤ x4 then (laws_roll.l0 k x0 (wrap64 (x4 + 1)) x1 x2 (IntKind.u64.wrap ((IntKind.u64.wrap ((IntKind.u64.wrap (x3 * 1099511628211)) + (IntKind.u64.wrap (rd x0 x4)))) + 3))) else (none)) else (some (x1, x2, x3))
def laws_roll.f (k : Nat) (l0 : List Int) (a1 : Int) : Option (List Int × Int × Int) := laws_roll.l0 k l0 0 l0 0 (IntKind.u64.wrap ((IntKind.u64.wrap (a1 * 7919)) + (IntKind.u64.wrap ((l0.length : Int)))))
theorem laws_roll.mono_l : ∀ k, (∀ y0 y1 y2 y3 y4, LeO (laws_roll.l0 k y0 y1 y2 y3 y4) (laws_roll.l0 (k + 1) y0 y1 y2 y3 y4))
  | 0 => fun _ _ _ _ _ r h => by simp [laws_roll.l0] at h
  | k + 1 => by
    have ih0 := laws_roll.mono_l k
    intro y0 y1 y2 y3 y4
    unfold laws_roll.l0
    repeat' first
    | exact ih0 _ _ _ _ _
    | exact LeO.refl _
    | exact LeO.none _
    | refine LeO.ite ?_ ?_
theorem laws_roll.mono : ∀ a0 a1 k, LeO (laws_roll.f k a0 a1) (laws_roll.f (k + 1) a0 a1) := fun _ _ k => laws_roll.mono_l k _ _ _ _ _
set_option maxHeartbeats 2000000 in
set_option maxRecDepth 100000 in
theorem laws_roll.calls (k : Nat) (A0 : Option Addr) (c0 : Nat) (l0 : List Int) (a1 : Int) (r1 : List Int) (r2 : Int) (r3 : Int) (w0 w : World) (hB : Below w0.heap.size w0 w) (hr0 : Kd.C (Kd.int .u8) w0 A0 l0.length l0) (hc0 : l0.length ≤ c0) (h : laws_roll.f k l0 a1 = some (r1, r2, r3)) :
    Calls Tryd.prog 11 #[.slice A0 l0.length c0, .int .u64 a1] w fun e w' => ∃ g_ : Nat, e = .returned (.pointer (some ⟨g_, 0, none⟩)) ∧ IsS74 w0 w' g_ r1 r2 r3 ∧ Below w0.heap.size w0 w' ∧ Below w.heap.size w w' := by
  have hu := Tryd.underlying74
  have HR0 := Aside0.mk hr0
  have HC0 := Aside0.mk hc0
  have HBW := Aside0.mk (Below.refl w.heap.size w)
  have HB := Aside0.mk hB
  have HW0 := Aside0.mk hB.size
  clear hB hr0 hc0
  have H' := Aside0.mk (show laws_roll.l0 k l0 0 l0 0 (IntKind.u64.wrap ((IntKind.u64.wrap (a1 * 7919)) + (IntKind.u64.wrap ((l0.length : Int))))) = some (r1, r2, r3) from h)
  clear h
  go_enter Tryd.func11, Tryd.ntmps11
  go_wp2
  go_loopg [6] k (fun kq v4 w' => ∃ (x4 x2 : Int), v4 = .int .i64 x4 ∧ Aside0 (laws_roll.l0 kq l0 x4 l0 0 x2 = some (r1, r2, r3)) ∧ Aside0 (w'.heap[w.heap.size]? = some (.cells #[(.slice A0 l0.length c0), .int .i64 0, .int .u64 x2] 74 (0, 0))) ∧ Aside0 (Below w0.heap.size w0 w') ∧ Aside0 (Below w.heap.size w w'))
  case atStart => exact ⟨_, _, rfl, H', ⟨heap_alloc_new w _⟩, ⟨HB.out.alloc HB.out.size _⟩, ⟨below_alloc HBW.out _⟩⟩
  case round =>
    clear H'
    obtain ⟨x4, x2, rfl, HA, BK, HB, HBW⟩ := hrel
    have hg1 : w.heap.size < wr.heap.size := blk_lt BK.out
    cases gk with
    | zero => exact absurd HA.out (by simp [laws_roll.l0])
    | succ k1 =>
      have H := HA.out
      clear HA
      simp only [laws_roll.l0] at H
      have fin : (IsS74 w0 wr w.heap.size l0 0 x2) := ⟨_, _, BK.out, HW0.out, HR0.out⟩
      by_cases c3 : x4 < (l0.length : Int)
      · rw [if_pos c3] at H
        have hlt : decide (x4 < (l0.length : Int)) = true := decide_eq_true c3
        by_cases c5 : 0 ≤ x4
        · rw [if_pos c5] at H
          have H' := Aside0.mk H
          clear H
          obtain ⟨ad, e, hx⟩ := Kd.at_int HR0.out x4 c5 c3
          cases e
          replace hx := pw_cell_below HB.out hx
          have h0 : wr.cell? ⟨w.heap.size, 0, none⟩ = some (.slice (some ad) l0.length c0) := (blk_cell BK.out 0).trans rfl
          have h1 : wr.cell? ⟨w.heap.size, 1, none⟩ = some (.int .i64 0) := (blk_cell BK.out 1).trans rfl
          have h2 : wr.cell? ⟨w.heap.size, 2, none⟩ = some (.int .u64 x2) := (blk_cell BK.out 2).trans rfl
          have f2 := blk_frozen BK.out 2
          clear fin
          go_wp2
          go_still_tail 15, (by kernel_rfl)
          change wpList _ _ _ _ _ wr.drew
          go_wp2
          go_roundg k1
          case measure => omega
          case rel =>
            refine ⟨_, _, rfl, H', ⟨?_⟩, ⟨(HB.out.drew).setCell HW0.out _⟩, ⟨(HBW.out.drew).setCell (Nat.le_refl _) _⟩⟩
            exact blk_put (blk_drew BK.out) 2 _ rfl
        · rw [if_neg c5] at H
          exact absurd H (by simp)
      · rw [if_neg c3] at H
        simp only [Option.some.injEq, Prod.mk.injEq] at H
        obtain ⟨rfl, rfl, rfl⟩ := H
        have Fin := Aside0.mk fin
        have hlt : decide (x4 < (l0.length : Int)) = false := decide_eq_false c3
        clear fin c3
        go_wp2
        go_ret
        exact ⟨_, rfl, Fin.out, HB.out, HBW.out⟩

/-! ### laws_dice_below: function 12 -/
def laws_dice_below.f (s0_0 : List Int) (s0_1 : Int) (s0_2 : Int) (a1 : Int) : Option (Int × Int × Int) := if s0_1 < (s0_0.length : Int) then (if 0 ≤ s0_1 then (if a1 = 0 then (none) else (some (Int.tmod (wrap64 ((wrap64 (Go.bits .and .u64 ((IntKind.u64.wrap ((IntKind.u64.wrap (s0_2 * 6364136223846793005)) + 1442695040888963407)) / 8589934592) 16777215)) + (wrap64 (rd s0_0 s0_1)))) a1, wrap64 (s0_1 + 1), IntKind.u64.wrap ((IntKind.u64.wrap (s0_2 * 6364136223846793005)) + 1442695040888963407)))) else (none)) else (if a1 = 0 then (none) else (some (Int.tmod (wrap64 (Go.bits .and .u64 ((IntKind.u64.wrap ((IntKind.u64.wrap (s0_2 * 6364136223846793005)) + 1442695040888963407)) / 8589934592) 16777215)) a1, s0_1, IntKind.u64.wrap ((IntKind.u64.wrap (s0_2 * 6364136223846793005)) + 1442695040888963407))))
set_option maxHeartbeats 8000000 in
set_option maxRecDepth 100000 in
theorem laws_dice_below.calls (g : Nat) (s0_0 : List Int) (s0_1 : Int) (s0_2 : Int) (a1 : Int) (r1 : Int) (r2 : Int) (r3 : Int) (w0 w : World) (hI : IsS74 w0 w g s0_0 s0_1 s0_2) (hB : Below w0.heap.size w0 w) (h : laws_dice_below.f s0_0 s0_1 s0_2 a1 = some (r1, r2, r3)) :
    Calls Tryd.prog 12 #[.pointer (some ⟨g, 0, none⟩), .int .i64 a1] w fun e w' => e = .returned (.int .i64 r1) ∧ IsS74 w0 w' g s0_0 r2 r3 ∧ Below w0.heap.size w0 w' ∧ KeepBut w w' g none := by
  have HI0 := Aside0.mk hI
  have HK := Aside0.mk (KeepBut.refl w g none)
  have HL := Aside0.mk hB.size
  clear hI
  have HW0 := Aside0.mk hB.size
  have HB := Aside0.mk hB
  clear hB
  have H : (if s0_1 < (s0_0.length : Int) then (if 0 ≤ s0_1 then (if a1 = 0 then (none) else (some (Int.tmod (wrap64 ((wrap64 (Go.bits .and .u64 ((IntKind.u64.wrap ((IntKind.u64.wrap (s0_2 * 6364136223846793005)) + 1442695040888963407)) / 8589934592) 16777215)) + (wrap64 (rd s0_0 s0_1)))) a1, wrap64 (s0_1 + 1), IntKind.u64.wrap ((IntKind.u64.wrap (s0_2 * 6364136223846793005)) + 1442695040888963407)))) else (none)) else (if a1 = 0 then (none) else (some (Int.tmod (wrap64 (Go.bits .and .u64 ((IntKind.u64.wrap ((IntKind.u64.wrap (s0_2 * 6364136223846793005)) + 1442695040888963407)) / 8589934592) 16777215)) a1, s0_1, IntKind.u64.wrap ((IntKind.u64.wrap (s0_2 * 6364136223846793005)) + 1442695040888963407))))) = some (r1, r2, r3) := h
  clear h
  by_cases c3 : s0_1 < (s0_0.length : Int)
  · rw [if_pos c3] at H
    have c3b0 : decide (s0_1 < (s0_0.length : Int)) = true := decide_eq_true c3
    clear c3
    by_cases c4 : 0 ≤ s0_1
    · rw [if_pos c4] at H
      have c4b0 : decide (0 ≤ s0_1) = true := decide_eq_true c4
      clear c4
      by_cases c5 : a1 = 0
      · rw [if_pos c5] at H
        exact absurd H (by simp)
      · rw [if_neg c5] at H
        have c5b0 : (a1 == 0) = false := beq_eq_false_iff_ne.mpr c5
        have c5b1 : (a1 != 0) = true := bne_iff_ne.mpr c5
        simp only [Option.some.injEq, Prod.mk.injEq] at H
        obtain ⟨rfl, rfl, rfl⟩ := H
        obtain ⟨ASz6_0, cSz6_0, HGz6, hgz6, HSz6_0⟩ := HI0.out
        have hcz6_0 := cellS74_0 HGz6
        have hcz6_1 := cellS74_1 HGz6
        have hcz6_2 := cellS74_2 HGz6
        have hfz6_1 := blk_frozen HGz6 1
        have hfz6_2 := blk_frozen HGz6 2
        clear HGz6 hgz6
        have p186 : 0 ≤ (s0_1 : Int) := of_decide_eq_true (by first | (with_reducible assumption) | assumption)
        have q186 : s0_1 < (s0_0.length : Int) := of_decide_eq_true (by first | (with_reducible assumption) | assumption)
        obtain ⟨ad186, e186, hx186_0⟩ := Kd.at_int HSz6_0 s0_1 p186 q186
        cases e186
        have hn186_0 : ad186.block ≠ g := Nat.ne_of_lt (Nat.lt_of_lt_of_le (by have := World.block_lt_of_cell? _ _ hx186_0; first | rwa [add_block] at this | exact this) (IsS74.ge HI0.out))
        replace hx186_0 := pw_cell_below HB.out hx186_0
        replace hx186_0 := (cell_far (p := ⟨g, 2, none⟩) (by first | (rw [add_block]; exact hn186_0) | (show (Addr.add _ _).block ≠ _; rw [add_block]; exact hn186_0) | exact hn186_0) (.int .u64 (IntKind.u64.wrap ((IntKind.u64.wrap (s0_2 * 6364136223846793005)) + 1442695040888963407)))).trans hx186_0
        (try have hy186_0 := fun (n_ : Nat) => (show (((w.drewN n_).setCell ⟨g, 2, none⟩ (.int .u64 (IntKind.u64.wrap ((IntKind.u64.wrap (s0_2 * 6364136223846793005)) + 1442695040888963407))))).cell? _ = some _ from hx186_0))
        clear hn186_0
        replace p186 := eq_true p186
        replace q186 := eq_true q186
        go_enter Tryd.func12, Tryd.ntmps12
        go_wp2
        repeat (go_quiet (fail); try go_wp2)
        go_ret
        exact ⟨by first | rfl | (simp [errW_none, errW_some] <;> rfl) | (simp [*, errW_none, errW_some] <;> rfl), by repeat (first | (with_reducible first | exact HI0.out | apply IsS74.alloc | apply IsS74.drewN | apply IsS74.drew | apply IsS74.set_1 | apply IsS74.set_2) | exact HI0.out), by repeat (first | (with_reducible first | exact HB.out | apply below_alloc | apply pw_below_drewN | apply below_drew1 | refine below_set ?_ (IsS74.ge HI0.out)) | exact HB.out), by repeat (first | (with_reducible first | exact HK.out | apply KeepBut.set_ | apply keep_drewN | apply keep_drew | apply keep_alloc) | exact HK.out)⟩
    · rw [if_neg c4] at H
      exact absurd H (by simp)
  · rw [if_neg c3] at H
    have c3b0 : decide (s0_1 < (s0_0.length : Int)) = false := decide_eq_false c3
    clear c3
    by_cases c7 : a1 = 0
    · rw [if_pos c7] at H
      exact absurd H (by simp)
    · rw [if_neg c7] at H
      have c7b0 : (a1 == 0) = false := beq_eq_false_iff_ne.mpr c7
      have c7b1 : (a1 != 0) = true := bne_iff_ne.mpr c7
      simp only [Option.some.injEq, Prod.mk.injEq] at H
      obtain ⟨rfl, rfl, rfl⟩ := H
      obtain ⟨ASz8_0, cSz8_0, HGz8, hgz8, HSz8_0⟩ := HI0.out
      have hcz8_0 := cellS74_0 HGz8
      have hcz8_1 := cellS74_1 HGz8
      have hcz8_2 := cellS74_2 HGz8
      have hfz8_1 := blk_frozen HGz8 1
      have hfz8_2 := blk_frozen HGz8 2
      clear HGz8 hgz8
      go_enter Tryd.func12, Tryd.ntmps12
      go_wp2
      repeat (go_quiet (fail); try go_wp2)
      go_ret
      exact ⟨by first | rfl | (simp [errW_none, errW_some] <;> rfl) | (simp [*, errW_none, errW_some] <;> rfl), by repeat (first | (with_reducible first | exact HI0.out | apply IsS74.alloc | apply IsS74.drewN | apply IsS74.drew | apply IsS74.set_1 | apply IsS74.set_2) | exact HI0.out), by repeat (first | (with_reducible first | exact HB.out | apply below_alloc | apply pw_below_drewN | apply below_drew1 | refine below_set ?_ (IsS74.ge HI0.out)) | exact HB.out), by repeat (first | (with_reducible first | exact HK.out | apply KeepBut.set_ | apply keep_drewN | apply keep_drew | apply keep_alloc) | exact HK.out)⟩

-- NOT PRINTED: function 47 (slices_Clone_int64_int64)

/-! ### bits_TrailingZeros64: function 115 -/
def bits_TrailingZeros64.f (a0 : Int) : Option Int := some (Lib.ctz 64 a0.toNat)
set_option maxHeartbeats 1000000 in
theorem tz64_core (x k idx : Nat) (w : World) (hx0 : ((x : Int) == 0) = false)
    (key : IntKind.u64.wrap (bits BinOp.and IntKind.u64 (x : Int) (IntKind.u64.wrap (-(x : Int))) * 285870213051353865) / 288230376151711744 = (idx : Int))
    (hi : idx < 64) (hk : k < 64) (hcell : w.cell? ⟨1, idx, none⟩ = some (.int .u8 k)) :
    Calls Tryd.prog 115 #[.int .u64 x] w fun e w' => e = .returned (.int .i64 k) ∧ w' = w := by
  go_enter Tryd.func115, Tryd.ntmps115
  go_wp2_with (simp only [key])
  go_ret
  exact ⟨rfl, rfl⟩
theorem tz64_zero (w : World) :
    Calls Tryd.prog 115 #[.int .u64 0] w fun e w' => e = .returned (.int .i64 64) ∧ w' = w := by
  go_enter Tryd.func115, Tryd.ntmps115
  go_wp2
  go_ret
  exact ⟨rfl, rfl⟩
/-- math/bits.TrailingZeros64, at every x, where its table is laid. -/
theorem tz64_calls (x : Nat) (hx : x < 18446744073709551616) (w : World) (hT : TabAt 1 Lib.deBruijn64tab w) :
    Calls Tryd.prog 115 #[.int .u64 x] w fun e w' => e = .returned (.int .i64 (Lib.ctz 64 x)) ∧ w' = w := by
  by_cases hx0 : x = 0
  · subst hx0
    exact tz64_zero w
  · obtain ⟨hlow, hk⟩ := Lib.lowest_bit 64 x hx0 hx
    obtain ⟨hi, htab⟩ := Lib.deBruijn64_at _ hk
    have hcell := hT _ hi
    rw [htab] at hcell
    exact tz64_core x _ _ w (by simp; omega) (tz64_key x _ hx hx0 hlow) hi hk hcell

/-! ### impl_bestColumn: function 79 -/
def impl_bestColumn.f : Option Int := none
/-- One more at place i. -/
def incAt (c : List Int) (i : Nat) : List Int := c.set i (wrap64 (c.getD i 0 + 1))
theorem and_pred_lt {n : Nat} (h : ¬ n = 0) : n &&& (n - 1) < n := by
  have := @Nat.and_le_right n (n - 1)
  omega
/-- The counts of the columns, with those of 'left' added. -/
def bitsLoop (left : Nat) (c : List Int) : List Int := if h : left = 0 then c else bitsLoop (left &&& (left - 1)) (incAt c (Lib.ctz 64 left))
  termination_by left
  decreasing_by exact and_pred_lt h
def bestLoop (left : Nat) (c : List Int) (best : Int) : Int := if h : left = 0 then best else bestLoop (left &&& (left - 1)) c (if best < 0 ∨ c.getD (Lib.ctz 64 left) 0 < c.getD best.toNat 0 then (Lib.ctz 64 left : Int) else best)
  termination_by left
  decreasing_by exact and_pred_lt h
def countsOf (rq cov : Nat) (ms : List Nat) : List Int := ms.foldl (fun c m => if m &&& cov = 0 then bitsLoop (m &&& rq) c else c) (List.replicate 64 0)
def bestCol (ms : List Nat) (rq cov : Nat) : Int := bestLoop (Go.bits .andNot .u64 (rq : Int) (cov : Int)).toNat (countsOf rq cov ms) (-1)
/-- Counts, as an array's cells. -/
def ca (c : List Int) : Array Value := (c.map (Value.int .i64)).toArray
def z64a : Array Value := ca (List.replicate 64 0)
theorem ca_cell {w : World} {g : Nat} {t : TypeId} {c : List Int} (h : w.heap[g]? = some (.cells (ca c) t (0, 0))) (hl : c.length = 64) {k : Nat} (hk : k < 64) : w.cell? ⟨g, k, none⟩ = some (.int .i64 (c.getD k 0)) := by
  refine (blk_cell h k).trans ?_
  simp [ca, List.getElem?_eq_getElem (show k < c.length by omega), List.getD_eq_getElem?_getD]
theorem ca_set (c : List Int) (i : Nat) (v : Int) : (ca c).setIfInBounds i (.int .i64 v) = ca (c.set i v) := by simp [ca]
theorem incAt_len (c : List Int) (i : Nat) : (incAt c i).length = c.length := by simp [incAt]
set_option maxHeartbeats 1000000 in
set_option maxRecDepth 100000 in
theorem bestColumn_calls (g : Nat) (A : Option Addr) (c : Nat) (ms : List Nat) (rq cov : Nat) (v2 v3 v4 v5 v6 : Value) (w : World) (hb : w.heap[g]? = some (.cells #[.slice A ms.length c, .int .u64 rq, v2, v3, v4, v5, v6] 67 (0, 0))) (hm : Kd.C (Kd.int .u64) w A ms.length (ms.map fun n : Nat => (n : Int))) (hms : ∀ m ∈ ms, m < 18446744073709551616) (hrq : rq < 18446744073709551616) (hcov : cov < 18446744073709551616) (hT : TabAt 1 Lib.deBruijn64tab w) :
    Calls Tryd.prog 79 #[.pointer (some ⟨g, 0, none⟩), .int .u64 cov] w fun e w' => e = .returned (.int .i64 (bestCol ms rq cov)) ∧ Below w.heap.size w w' := by
  have BS := Aside0.mk hb
  have HM := Aside0.mk hm
  have HMS := Aside0.mk hms
  have HT := Aside0.mk hT
  have hlen : ms.length ≤ 9223372036854775807 := hm.2.1
  have hu := Tryd.underlying67
  have h0 : w.cell? ⟨g, 0, none⟩ = some (.slice A ms.length c) := (blk_cell hb 0).trans rfl
  have h1 : w.cell? ⟨g, 1, none⟩ = some (.int .u64 rq) := (blk_cell hb 1).trans rfl
  clear hb hm hms hT
  go_enter Tryd.func79, Tryd.ntmps79
  go_wp2_with (first | ((with_reducible refine gate_dst (N := 12) rfl ?_); refine Great.wpList_runTo rfl (some 12) rfl (.agg z64a) w (by kernel_rfl) ?_) | ((with_reducible refine gate_dst (N := 5) rfl ?_); refine Great.wpList_runTo rfl (some 5) rfl (.pointer (some ⟨w.heap.size, 0, none⟩)) (w.alloc (.cells z64a 137)) (by kernel_rfl) ?_) | (refine wpList_store_row rfl 137 (.tmp 5) (.tmp 12) rfl w.heap.size z64a rfl rfl 137 z64a (heap_alloc_new w _) (by kernel_rfl) rfl (by kernel_rfl) ?_; have BC := Aside0.mk (setRow_heap _ w.heap.size z64a z64a _ _ (heap_alloc_new w (.cells z64a 137))); have HB := Aside0.mk (below_setRow w (.cells z64a 137) z64a); generalize World.setRow _ _ _ = W1 at BC HB ⊢; replace h0 := pw_cell_below HB.out h0; replace h1 := pw_cell_below HB.out h1))
  have hbb : ∀ m ∈ ms, m &&& rq < 18446744073709551616 := fun m hm => Nat.lt_of_le_of_lt Nat.and_le_right hrq
  have HBB := Aside0.mk hbb
  have HLIM := Aside0.mk (And.intro hrq hcov)
  clear hbb hrq hcov
  go_loopg [18] (ms.length) (fun kq v18 w' => ∃ (kk : Nat) (cs : List Int), kk ≤ ms.length ∧ ms.length - kk ≤ kq ∧ v18 = .int .i64 kk ∧ Aside0 (cs.length = 64) ∧ Aside0 (w'.heap[w.heap.size]? = some (.cells (ca cs) 137 (0, 0))) ∧ Aside0 (countsOf rq cov (ms.take kk) = cs) ∧ Aside0 (Below w.heap.size w w'))
  case atStart => exact ⟨0, List.replicate 64 0, Nat.zero_le _, by omega, rfl, ⟨List.length_replicate⟩, BC, ⟨rfl⟩, HB⟩
  case round =>
    clear BC h0 h1 HB
    obtain ⟨kk, cs, hkk, hq, rfl, HL, BC, HC, HB⟩ := hrel
    have h0 : wr.cell? ⟨g, 0, none⟩ = some (.slice A ms.length c) := pw_cell_below HB.out ((blk_cell BS.out 0).trans rfl)
    have h1 : wr.cell? ⟨g, 1, none⟩ = some (.int .u64 rq) := pw_cell_below HB.out ((blk_cell BS.out 1).trans rfl)
    by_cases hlt : kk < ms.length
    · have hltz : (kk : Int) < (ms.length : Int) := by omega
      obtain ⟨ad, e, hx⟩ := Kd.at_int HM.out kk (by omega) hltz
      cases e
      obtain ⟨m, hmm⟩ : ∃ m, ms[kk] = m := ⟨_, rfl⟩
      have hmem : m ∈ ms := hmm ▸ List.getElem_mem hlt
      have htk : ms.take (kk + 1) = ms.take kk ++ [m] := by rw [List.take_succ_eq_append_getElem hlt, hmm]
      rw [show rd (ms.map fun n : Nat => (n : Int)) (kk : Int) = (m : Int) by simp [rd, List.getD_eq_getElem?_getD, List.getElem?_eq_getElem hlt, hmm]] at hx
      simp only [Int.toNat_natCast] at hx
      replace hx := pw_cell_below HB.out hx
      have hm64 := HMS.out m hmem
      have hac := bits_and_u64_nat m cov hm64 HLIM.out.2
      have har := bits_and_u64_nat m rq hm64 HLIM.out.1
      have hCT : countsOf rq cov (ms.take (kk + 1)) = (if m &&& cov = 0 then bitsLoop (m &&& rq) cs else cs) := by
        rw [htk, countsOf, List.foldl_append, ← HC.out]; rfl
      clear hmm htk hmem hm64
      by_cases hcv : m &&& cov = 0
      · rw [if_pos hcv] at hCT
        have hn : (Go.bits .and .u64 (m : Int) (cov : Int) != 0) = false := by rw [hac, hcv]; rfl
        have hl64 : m &&& rq < 18446744073709551616 := Nat.lt_of_le_of_lt Nat.and_le_right HLIM.out.1
        have HCT := Aside0.mk hCT
        have HAR := Aside0.mk har
        have HL64 := Aside0.mk hl64
        clear hac hcv hCT har hl64
        go_wp2
        obtain ⟨wo, rfl⟩ : ∃ wo : World, wo = wr := ⟨_, rfl⟩
        go_loopg [8] (m &&& rq) (fun kq v8 w' => ∃ (left : Nat) (cs2 : List Int), left ≤ kq ∧ v8 = .int .u64 left ∧ Aside0 (left < 18446744073709551616) ∧ Aside0 (cs2.length = 64) ∧ Aside0 (w'.heap[w.heap.size]? = some (.cells (ca cs2) 137 (0, 0))) ∧ Aside0 (bitsLoop (m &&& rq) cs = bitsLoop left cs2) ∧ Aside0 (Below w.heap.size w w'))
        case atStart => exact ⟨m &&& rq, cs, Nat.le_refl _, by rw [HAR.out], HL64, HL, BC, ⟨rfl⟩, HB⟩
        case round =>
          clear h0 h1 hx BC HL HB hn
          obtain ⟨left, cs2, hq2, rfl, HF, HL2, BC2, HC2, HB2⟩ := hrel
          have hT2 : TabAt 1 Lib.deBruijn64tab wr := fun j hj => pw_cell_below HB2.out (HT.out j hj)
          have hcall := fun (W : World) (h : TabAt 1 Lib.deBruijn64tab W) => tz64_calls left HF.out W h
          by_cases hz : left = 0
          · have hn : (((left : Nat) : Int) != 0) = false := by rw [hz]; rfl
            have hC2 : bitsLoop (m &&& rq) cs = cs2 := by rw [HC2.out, bitsLoop, dif_pos hz]
            have HC3 := Aside0.mk (HCT.out.trans hC2)
            clear hz hcall hT2 hC2
            go_wp2
            go_roundg (ms.length - (kk + 1))
            case measure => omega
            case rel => exact ⟨kk + 1, cs2, by omega, by omega, by go_num, HL2, BC2, HC3, HB2⟩
          · have hn : (((left : Nat) : Int) != 0) = true := by simp; exact hz
            have hC2 : bitsLoop (m &&& rq) cs = bitsLoop (left &&& (left - 1)) (incAt cs2 (Lib.ctz 64 left)) := by
              rw [HC2.out]
              conv => lhs; rw [bitsLoop, dif_neg hz]
            obtain ⟨_, hk⟩ := Lib.lowest_bit 64 left hz HF.out
            have hlt2 := and_pred_lt hz
            have hstep : Go.bits .and .u64 (left : Int) (IntKind.u64.wrap ((left : Int) - 1)) = ((left &&& (left - 1) : Nat) : Int) := by
              rw [← bits_and_u64_nat left (left - 1) HF.out (by have := HF.out; omega)]
              congr 1
              rw [IntKind.wrap_u64]; have := HF.out; omega
            obtain ⟨tz, htz⟩ : ∃ tz, Lib.ctz 64 left = tz := ⟨_, rfl⟩
            rw [htz] at hcall hC2 hk
            have HST := Aside0.mk hstep
            have hcell : wr.cell? ⟨w.heap.size, tz, none⟩ = some (.int .i64 (cs2.getD tz 0)) := ca_cell BC2.out HL2.out hk
            have hfr := blk_frozen BC2.out tz
            have hki : (tz : Int) < 64 := by omega
            have HC3 := Aside0.mk hC2
            have HLT := Aside0.mk hlt2
            have HCALL := Aside0.mk (hcall wr hT2)
            clear hz hcall hT2 hC2 htz hstep hlt2
            go_wp2_with ((with_reducible refine HCALL.out.mono ?_); rintro e w' ⟨rfl, rfl⟩)
            go_roundg (left &&& (left - 1))
            case measure => have := HLT.out; omega
            case rel => exact ⟨left &&& (left - 1), incAt cs2 tz, Nat.le_refl _, by rw [← HST.out], ⟨Nat.lt_of_lt_of_le HLT.out (Nat.le_of_lt HF.out)⟩, ⟨by rw [incAt_len]; exact HL2.out⟩, ⟨blk_put BC2.out tz _ (ca_set _ _ _)⟩, HC3, ⟨HB2.out.setCell (Nat.le_refl _) _⟩⟩
      · rw [if_neg hcv] at hCT
        have hn : (Go.bits .and .u64 (m : Int) (cov : Int) != 0) = true := by rw [hac]; simp; exact hcv
        have HCT := Aside0.mk hCT
        clear hac har hcv hCT
        go_wp2
        go_roundg (ms.length - (kk + 1))
        case measure => omega
        case rel => exact ⟨kk + 1, cs, by omega, by omega, by go_num, HL, BC, HCT, HB⟩
    · have hltz : ¬ (kk : Int) < (ms.length : Int) := by omega
      obtain rfl : kk = ms.length := by omega
      have hC0 : countsOf rq cov ms = cs := by have := HC.out; rwa [List.take_length] at this
      have HC0 := Aside0.mk hC0
      obtain ⟨L0, hL0, hL1⟩ : ∃ L0 : Nat, Go.bits .andNot .u64 (rq : Int) (cov : Int) = (L0 : Int) ∧ L0 < 18446744073709551616 := bits_u64_cast _ _ _
      have HL0 := Aside0.mk hL0
      have HL1 := Aside0.mk hL1
      clear HC hC0 hL0 hL1 hltz hlt hkk hq
      go_wp2
      obtain ⟨wo, rfl⟩ : ∃ wo : World, wo = wr := ⟨_, rfl⟩
      go_loopg [9, 10] L0 (fun kq v9 v10 w' => ∃ (left : Nat) (best : Int), left ≤ kq ∧ v9 = .int .i64 best ∧ v10 = .int .u64 left ∧ Aside0 (left < 18446744073709551616) ∧ Aside0 (best < 64) ∧ Aside0 (w'.heap[w.heap.size]? = some (.cells (ca cs) 137 (0, 0))) ∧ Aside0 (bestLoop L0 cs (-1) = bestLoop left cs best) ∧ Aside0 (Below w.heap.size w w'))
      case atStart => exact ⟨L0, -1, Nat.le_refl _, rfl, by rw [HL0.out], HL1, ⟨by omega⟩, BC, ⟨rfl⟩, HB⟩
      case round =>
        clear h0 h1 BC HB
        obtain ⟨left, best, hq2, rfl, rfl, HF, HBE, BC2, HC2, HB2⟩ := hrel
        have hT2 : TabAt 1 Lib.deBruijn64tab wr := fun j hj => pw_cell_below HB2.out (HT.out j hj)
        have hcall := fun (W : World) (h : TabAt 1 Lib.deBruijn64tab W) => tz64_calls left HF.out W h
        by_cases hz : left = 0
        · have hn : (((left : Nat) : Int) != 0) = false := by rw [hz]; rfl
          have hC2 : bestLoop L0 cs (-1) = best := by rw [HC2.out, bestLoop, dif_pos hz]
          have hfin : bestCol ms rq cov = best := by rw [bestCol, HL0.out, HC0.out]; exact hC2
          have HFIN := Aside0.mk hfin
          clear hz hcall hT2 hC2 hfin
          go_wp2
          go_ret
          exact ⟨by rw [HFIN.out]; rfl, HB2.out⟩
        · have hn : (((left : Nat) : Int) != 0) = true := by simp; exact hz
          obtain ⟨_, hk⟩ := Lib.lowest_bit 64 left hz HF.out
          have hlt2 := and_pred_lt hz
          have hstep : Go.bits .and .u64 (left : Int) (IntKind.u64.wrap ((left : Int) - 1)) = ((left &&& (left - 1) : Nat) : Int) := by
            rw [← bits_and_u64_nat left (left - 1) HF.out (by have := HF.out; omega)]
            congr 1
            rw [IntKind.wrap_u64]; have := HF.out; omega
          have hC2 : bestLoop L0 cs (-1) = bestLoop (left &&& (left - 1)) cs (if best < 0 ∨ cs.getD (Lib.ctz 64 left) 0 < cs.getD best.toNat 0 then (Lib.ctz 64 left : Int) else best) := by
            rw [HC2.out]
            conv => lhs; rw [bestLoop, dif_neg hz]
          obtain ⟨tz, htz⟩ : ∃ tz, Lib.ctz 64 left = tz := ⟨_, rfl⟩
          rw [htz] at hcall hC2 hk
          have HST := Aside0.mk hstep
          have hcell : wr.cell? ⟨w.heap.size, tz, none⟩ = some (.int .i64 (cs.getD tz 0)) := ca_cell BC2.out HL.out hk
          have hki : (tz : Int) < 64 := by omega
          have HLT := Aside0.mk hlt2
          have HCALL := Aside0.mk (hcall wr hT2)
          by_cases hb1 : best < 0
          · have hd1 := decide_eq_true hb1
            rw [if_pos (Or.inl hb1)] at hC2
            have HC3 := Aside0.mk hC2
            clear hz hcall hT2 hC2 htz hstep hlt2 hb1
            go_wp2_with ((with_reducible refine HCALL.out.mono ?_); rintro e w' ⟨rfl, rfl⟩)
            go_quiet (fail)
            go_wp2
            go_roundg (left &&& (left - 1))
            case measure => have := HLT.out; omega
            case rel => exact ⟨left &&& (left - 1), _, Nat.le_refl _, rfl, by rw [← HST.out], ⟨Nat.lt_of_lt_of_le HLT.out (Nat.le_of_lt HF.out)⟩, ⟨hki⟩, ⟨blk_drewN BC2.out _⟩, HC3, ⟨pw_below_drewN HB2.out _⟩⟩
          · have hd1 := decide_eq_false hb1
            have hb0 : 0 ≤ best := by omega
            obtain ⟨bn, rfl⟩ : ∃ bn : Nat, best = (bn : Int) := ⟨best.toNat, by omega⟩
            have hbn : (bn : Int) < 64 := HBE.out
            have hcell2 : wr.cell? ⟨w.heap.size, bn, none⟩ = some (.int .i64 (cs.getD bn 0)) := ca_cell BC2.out HL.out (by omega)
            rw [show ((bn : Int)).toNat = bn from rfl] at hC2
            obtain ⟨x1, hx1⟩ : ∃ x, cs.getD tz 0 = x := ⟨_, rfl⟩
            obtain ⟨y1, hy1⟩ : ∃ x, cs.getD bn 0 = x := ⟨_, rfl⟩
            rw [hx1] at hcell hC2
            rw [hy1] at hcell2 hC2
            clear hx1 hy1
            by_cases hb2 : x1 < y1
            · have hd2 := decide_eq_true hb2
              rw [if_pos (Or.inr hb2)] at hC2
              have HC3 := Aside0.mk hC2
              clear hz hcall hT2 hC2 htz hstep hlt2 hb1 hb2
              go_wp2_with ((with_reducible refine HCALL.out.mono ?_); rintro e w' ⟨rfl, rfl⟩)
              go_quiet (fail)
              go_wp2
              go_roundg (left &&& (left - 1))
              case measure => have := HLT.out; omega
              case rel => exact ⟨left &&& (left - 1), _, Nat.le_refl _, rfl, by rw [← HST.out], ⟨Nat.lt_of_lt_of_le HLT.out (Nat.le_of_lt HF.out)⟩, ⟨hki⟩, ⟨blk_drewN BC2.out _⟩, HC3, ⟨pw_below_drewN HB2.out _⟩⟩
            · have hd2 := decide_eq_false hb2
              rw [if_neg (fun h => h.elim (fun h => hb1 h) (fun h => hb2 h))] at hC2
              have HC3 := Aside0.mk hC2
              clear hz hcall hT2 hC2 htz hstep hlt2 hb1 hb2
              go_wp2_with ((with_reducible refine HCALL.out.mono ?_); rintro e w' ⟨rfl, rfl⟩)
              go_quiet (fail)
              go_wp2
              go_roundg (left &&& (left - 1))
              case measure => have := HLT.out; omega
              case rel => exact ⟨left &&& (left - 1), _, Nat.le_refl _, rfl, by rw [← HST.out], ⟨Nat.lt_of_lt_of_le HLT.out (Nat.le_of_lt HF.out)⟩, ⟨hbn⟩, ⟨blk_drewN BC2.out _⟩, HC3, ⟨pw_below_drewN HB2.out _⟩⟩

-- NOT PRINTED: function 48 (impl_coverSearch_from)

end Go.Proofs.YtmchbkjjpeiedaaDoor.DFnCoverFormulas
