-- Written by drive.py (wip/tool): the kit's print with texts of my own beside it.
import Derived.Test.YtmchbkjjpeiedaaDoorDFnCoverFormulasx0
namespace Go.Proofs.YtmchbkjjpeiedaaDoor.DFnCoverFormulas
open Go.RowKit Go.Proofs.YtmchbkjjpeiedaaDoorW.PrintWords Go.Proofs.YtmchbkjjpeiedaaDoorW.PrintLast Go.Proofs.YtmchbkjjpeiedaaDoorW.PrintMore Go.Proofs.YtmchbkjjpeiedaaDoorH
attribute [local go_sem] max2_int min2_int max_two min_two max_three min_three max_four min_four   -- for this text's walks alone
set_option linter.unusedVariables false
set_option linter.unusedSimpArgs false

/-! ### laws_big: function 6 -/
def laws_big.f (l0 : List Int) : Option (Bool) := some (decide ((l0.length : Int) > 4096))
set_option maxHeartbeats 8000000 in
set_option maxRecDepth 100000 in
theorem laws_big.calls (A0 : Option Addr) (c0 : Nat) (l0 : List Int) (r : Bool) (w : World) (hr0 : Kd.C (Kd.int .u8) w A0 l0.length l0) (hc0 : l0.length ≤ c0) (h : laws_big.f l0 = some r) :
    Calls Tryd.prog 6 #[.slice A0 l0.length c0] w fun e w' => e = .returned (.bool r) ∧ Drawn0 w w' := by
  have HR0 := Aside0.mk hr0
  have HC0 := Aside0.mk hc0
  clear hr0 hc0
  have H : (some (decide ((l0.length : Int) > 4096))) = some r := h
  clear h
  obtain rfl := Option.some.inj H
  go_enter Tryd.func6, Tryd.ntmps6
  go_wp2
  go_ret
  exact ⟨by first | rfl | (simp; done) | (simp [*]; done), by repeat (first | exact Drawn0.refl _ | apply Drawn0.step)⟩

/-- A state of type 101 at block g of W; what its slices lead to came in by w0. -/
def IsS101 (w0 W : World) (g : Nat) (f0 : List Int) (f1 : Int) (f2 : Int) : Prop := ∃ A0 c0, W.heap[g]? = some (.cells #[.slice A0 f0.length c0, .int .i64 f1, .int .i64 f2] 101 (0, 0)) ∧ w0.heap.size ≤ g ∧ Kd.C (Kd.int .u8) w0 A0 f0.length f0
theorem IsS101.grown {w0 W : World} {g : Nat} {f0 : List Int} {f1 : Int} {f2 : Int} {W1 : World} {row : Option Nat} (h : IsS101 w0 W g f0 f1 f2) (hw : W.grownBy W1 row) (hne : some g ≠ row) : IsS101 w0 W1 g f0 f1 f2 := by
  obtain ⟨A0, c0, hb, hg, hr0⟩ := h
  exact ⟨A0, c0, blk_grown hb hw hne, hg, hr0⟩
theorem IsS101.own_neN {w0 W : World} {g : Nat} {f0 : List Int} {f1 : Int} {f2 : Int} {α : Type} {d : Kd α} {e : Nat} {base : Nat} {ok : Nat → Prop} {v : Value} {xs : List α} (h : IsS101 w0 W g f0 f1 f2) (ho : Kd.N d e W base ok v xs) (ht : e ≠ 101) : some g ≠ v.ownBlock := by
  obtain ⟨A0, c0, hb, hg, hr0⟩ := h
  exact Kd.N_ne ho hb ht
theorem IsS101.fresh {w0 W : World} {g : Nat} {f0 : List Int} {f1 : Int} {f2 : Int} (h : IsS101 w0 W g f0 f1 f2) : ∀ k, W.heap.size ≤ k → k ≠ g := by
  obtain ⟨A0, c0, hb, hg, hr0⟩ := h
  exact Kd.freshB hb
theorem IsS101.kept {w0 W : World} {g : Nat} {f0 : List Int} {f1 : Int} {f2 : Int} {W1 : World} {S : Nat → Prop} (h : IsS101 w0 W g f0 f1 f2) (hk : Kept W W1 S) (hne : ¬ S g) : IsS101 w0 W1 g f0 f1 f2 := by
  obtain ⟨A0, c0, hb, hg, hr0⟩ := h
  exact ⟨A0, c0, blk_kept hb hk hne, hg, hr0⟩
theorem IsS101.below {w0 W : World} {g : Nat} {f0 : List Int} {f1 : Int} {f2 : Int} {W1 : World} (h : IsS101 w0 W g f0 f1 f2) (hw : Below W.heap.size W W1) : IsS101 w0 W1 g f0 f1 f2 := h.grown (grown_of_below hw none) (by simp)
theorem IsS101.alloc {w0 W : World} {g : Nat} {f0 : List Int} {f1 : Int} {f2 : Int} (h : IsS101 w0 W g f0 f1 f2) (o : Obj) : IsS101 w0 (W.alloc o) g f0 f1 f2 := h.below (below_alloc (Below.refl _ _) o)
theorem IsS101.drewN {w0 W : World} {g : Nat} {f0 : List Int} {f1 : Int} {f2 : Int} (h : IsS101 w0 W g f0 f1 f2) (m : Nat) : IsS101 w0 (W.drewN m) g f0 f1 f2 := h
theorem IsS101.drew {w0 W : World} {g : Nat} {f0 : List Int} {f1 : Int} {f2 : Int} (h : IsS101 w0 W g f0 f1 f2) : IsS101 w0 W.drew g f0 f1 f2 := h
theorem IsS101.at_ {w0 W : World} {g : Nat} {f0 : List Int} {f1 : Int} {f2 : Int} {w' : World} {m : Nat} (hq : W.drewN m = w') (h : IsS101 w0 W g f0 f1 f2) : IsS101 w0 w' g f0 f1 f2 := by subst hq; exact IsS101.drewN h m
theorem IsS101.apart {w0 W : World} {g : Nat} {f0 : List Int} {f1 : Int} {f2 : Int} {α : Type} {d : Kd α} {e : Nat} {base : Nat} {ok : Nat → Prop} {v : Value} {xs : List α} (h : IsS101 w0 W g f0 f1 f2) (ho : d.R e W base ok v xs) (ht : ∀ q, q ∈ e :: d.E → q ≠ 101) : d.R e W base (fun k => ok k ∧ k ≠ g) v xs := by
  obtain ⟨A0, c0, hb, hg, hr0⟩ := h
  exact Kd.R_types ho hb ht
theorem IsS101.own_ne {w0 W : World} {g : Nat} {f0 : List Int} {f1 : Int} {f2 : Int} {α : Type} {d : Kd α} {e : Nat} {base : Nat} {ok : Nat → Prop} {v : Value} {xs : List α} (h : IsS101 w0 W g f0 f1 f2) (ho : d.R e W base ok v xs) (ht : e ≠ 101) : some g ≠ v.ownBlock := by
  obtain ⟨A0, c0, hb, hg, hr0⟩ := h
  exact Kd.R_ne ho hb ht
theorem IsS101.apartQ {w0 W : World} {g : Nat} {f0 : List Int} {f1 : Int} {f2 : Int} {α : Type} {d : Kd α} {e : Nat} {base : Nat} {ok : Nat → Prop} {v : Value} {xs : List α} (h : IsS101 w0 W g f0 f1 f2) (ho : d.Q e W base ok v xs) (ht : ∀ q, q ∈ e :: d.E → q ≠ 101) : d.Q e W base (fun k => ok k ∧ k ≠ g) v xs := by
  obtain ⟨A0, c0, hb, hg, hr0⟩ := h
  exact Kd.Q_types ho hb ht
theorem IsS101.own_neQ {w0 W : World} {g : Nat} {f0 : List Int} {f1 : Int} {f2 : Int} {α : Type} {d : Kd α} {e : Nat} {base : Nat} {ok : Nat → Prop} {v : Value} {xs : List α} (h : IsS101 w0 W g f0 f1 f2) (ho : d.Q e W base ok v xs) (ht : e ≠ 101) : some g ≠ v.ownBlock := by
  obtain ⟨A0, c0, hb, hg, hr0⟩ := h
  exact Kd.Q_ne ho hb ht
theorem IsS101.apartS {w0 W : World} {g : Nat} {f0 : List Int} {f1 : Int} {f2 : Int} {α : Type} {d : Kd α} {e : Nat} {base : Nat} {ok : Nat → Prop} {v : Value} {xs : List α} (h : IsS101 w0 W g f0 f1 f2) (ho : d.S e W base ok v xs) (ht : ∀ q, q ∈ e :: d.E → q ≠ 101) : d.S e W base (fun k => ok k ∧ k ≠ g) v xs := by
  obtain ⟨A0, c0, hb, hg, hr0⟩ := h
  exact Kd.S_types ho hb ht
theorem IsS101.own_neS {w0 W : World} {g : Nat} {f0 : List Int} {f1 : Int} {f2 : Int} {α : Type} {d : Kd α} {e : Nat} {base : Nat} {ok : Nat → Prop} {v : Value} {xs : List α} (h : IsS101 w0 W g f0 f1 f2) (ho : d.S e W base ok v xs) (ht : e ≠ 101) : some g ≠ v.ownBlock := by
  obtain ⟨A0, c0, hb, hg, hr0⟩ := h
  exact Kd.S_ne ho hb ht
theorem IsS101.lt {w0 W : World} {g : Nat} {f0 : List Int} {f1 : Int} {f2 : Int} (h : IsS101 w0 W g f0 f1 f2) : g < W.heap.size := by
  obtain ⟨A0, c0, hb, hg, hr0⟩ := h
  exact blk_lt hb
theorem IsS101.ge {w0 W : World} {g : Nat} {f0 : List Int} {f1 : Int} {f2 : Int} (h : IsS101 w0 W g f0 f1 f2) : w0.heap.size ≤ g := by
  obtain ⟨A0, c0, hb, hg, hr0⟩ := h
  exact hg
theorem IsS101.ne_blk {w0 W : World} {g : Nat} {f0 : List Int} {f1 : Int} {f2 : Int} {a : Nat} {cs : Array Value} {t : TypeId} {fr : Nat × Nat} (h : IsS101 w0 W g f0 f1 f2) (hb2 : W.heap[a]? = some (.cells cs t fr)) (ht : t ≠ 101) : g ≠ a := by
  obtain ⟨A0, c0, hb, hg, hr0⟩ := h
  rintro rfl
  rw [hb] at hb2
  injection hb2 with hb2
  injection hb2 with _ ht2
  exact ht ht2.symm
theorem IsS101.far {w0 W : World} {g : Nat} {f0 : List Int} {f1 : Int} {f2 : Int} {p : Addr} (h : IsS101 w0 W g f0 f1 f2) (hne : g ≠ p.block) (u : Value) : IsS101 w0 (W.setCell p u) g f0 f1 f2 := by
  obtain ⟨A0, c0, hb, hg, hr0⟩ := h
  exact ⟨A0, c0, blk_far hb hne u, hg, hr0⟩
theorem cellS101_0 {W : World} {g : Nat} {A0 : Option Addr} {c0 : Nat} {f0 : List Int} {f1 : Int} {f2 : Int} (h : W.heap[g]? = some (.cells #[.slice A0 f0.length c0, .int .i64 f1, .int .i64 f2] 101 (0, 0))) : W.cell? ⟨g, 0, none⟩ = some (.slice A0 f0.length c0) := (blk_cell h 0).trans rfl
theorem cellS101_1 {W : World} {g : Nat} {A0 : Option Addr} {c0 : Nat} {f0 : List Int} {f1 : Int} {f2 : Int} (h : W.heap[g]? = some (.cells #[.slice A0 f0.length c0, .int .i64 f1, .int .i64 f2] 101 (0, 0))) : W.cell? ⟨g, 1, none⟩ = some (.int .i64 f1) := (blk_cell h 1).trans rfl
theorem IsS101.set_1 {w0 W : World} {g : Nat} {f0 : List Int} {f1 : Int} {f2 : Int} (h : IsS101 w0 W g f0 f1 f2) (x : Int) : IsS101 w0 (W.setCell ⟨g, 1, none⟩ (.int .i64 x)) g f0 x f2 := by
  obtain ⟨A0, c0, hb, hg, hr0⟩ := h
  exact ⟨A0, c0, by simpa using blk_set hb 1 (.int .i64 x), hg, hr0⟩
theorem cellS101_2 {W : World} {g : Nat} {A0 : Option Addr} {c0 : Nat} {f0 : List Int} {f1 : Int} {f2 : Int} (h : W.heap[g]? = some (.cells #[.slice A0 f0.length c0, .int .i64 f1, .int .i64 f2] 101 (0, 0))) : W.cell? ⟨g, 2, none⟩ = some (.int .i64 f2) := (blk_cell h 2).trans rfl
theorem IsS101.set_2 {w0 W : World} {g : Nat} {f0 : List Int} {f1 : Int} {f2 : Int} (h : IsS101 w0 W g f0 f1 f2) (x : Int) : IsS101 w0 (W.setCell ⟨g, 2, none⟩ (.int .i64 x)) g f0 f1 x := by
  obtain ⟨A0, c0, hb, hg, hr0⟩ := h
  exact ⟨A0, c0, by simpa using blk_set hb 2 (.int .i64 x), hg, hr0⟩
theorem IsS101.new (w0 W : World) (A0 : Option Addr) (c0 : Nat) (f0 : List Int) (f1 : Int) (f2 : Int) (hB : Below w0.heap.size w0 W) (hr0 : Kd.C (Kd.int .u8) w0 A0 f0.length f0) : IsS101 w0 (W.alloc (.cells #[.slice A0 f0.length c0, .int .i64 f1, .int .i64 f2] 101)) W.heap.size f0 f1 f2 := ⟨A0, c0, by simpa using heap_alloc_new W _, hB.size, hr0⟩

/-! ### spec_l01From: function 38 -/
def spec_l01From.l0 : Nat → List Int → Int → List Int → Int → Int → Option (List Int × Int × Int)
  | 0, _, _, _, _, _ => none
  | k + 1, x0, x4, x102000, x102001, x102002 => if x4 < (x0.length : Int) then (if x4 < 64 then (if 0 ≤ x4 then (spec_l01From.l0 k x0 (wrap64 (x4 + 1)) x102000 x102001 (Int.tmod (wrap64 ((wrap64 (x102002 * 47)) + (wrap64 (rd x0 x4)))) 2147483647)) else (none)) else (some (x102000, x102001, x102002))) else (some (x102000, x102001, x102002))
def spec_l01From.f (k : Nat) (l0 : List Int) : Option (List Int × Int × Int) := spec_l01From.l0 k l0 0 l0 0 61003
theorem spec_l01From.mono_l : ∀ k, (∀ y0 y1 y2 y3 y4, LeO (spec_l01From.l0 k y0 y1 y2 y3 y4) (spec_l01From.l0 (k + 1) y0 y1 y2 y3 y4))
  | 0 => fun _ _ _ _ _ r h => by simp [spec_l01From.l0] at h
  | k + 1 => by
    have ih0 := spec_l01From.mono_l k
    · intro y0 y1 y2 y3 y4
      unfold spec_l01From.l0
      repeat' first
      | (with_reducible exact ih0 _ _ _ _ _)
      | (with_reducible exact LeO.refl _)
      | (with_reducible exact LeO.none _)
      | (with_reducible refine LeO.ite ?_ ?_)
      | (with_reducible refine LeO.bind ?_ (fun _ => ?_))
      | exact ih0 _ _ _ _ _
      | exact LeO.none _
      | refine LeO.ite ?_ ?_
      | refine LeO.bind ?_ (fun _ => ?_)
theorem spec_l01From.mono : ∀ a0 k, LeO (spec_l01From.f k a0) (spec_l01From.f (k + 1) a0) := by
  intro a0 k
  have ih0 := spec_l01From.mono_l k
  unfold spec_l01From.f
  repeat' first
      | (with_reducible exact ih0 _ _ _ _ _)
      | (with_reducible exact LeO.refl _)
      | (with_reducible exact LeO.none _)
      | (with_reducible refine LeO.ite ?_ ?_)
      | (with_reducible refine LeO.bind ?_ (fun _ => ?_))
      | exact ih0 _ _ _ _ _
      | exact LeO.none _
      | refine LeO.ite ?_ ?_
      | refine LeO.bind ?_ (fun _ => ?_)
set_option maxHeartbeats 2000000 in
set_option maxRecDepth 100000 in
theorem spec_l01From.calls (k : Nat) (A0 : Option Addr) (c0 : Nat) (l0 : List Int) (r1 : List Int) (r2 : Int) (r3 : Int) (w0 w : World) (hB : Below w0.heap.size w0 w) (hr0 : Kd.C (Kd.int .u8) w0 A0 l0.length l0) (hc0 : l0.length ≤ c0) (h : spec_l01From.f k l0 = some (r1, r2, r3)) :
    Calls Tryd.prog 38 #[.slice A0 l0.length c0] w fun e w' => ∃ g_ : Nat, e = .returned (.pointer (some ⟨g_, 0, none⟩)) ∧ IsS101 w0 w' g_ r1 r2 r3 ∧ Below w0.heap.size w0 w' ∧ Below w.heap.size w w' := by
  have hu101 := Tryd.underlying101
  have HR0 := Aside0.mk hr0
  have HC0 := Aside0.mk hc0
  have HBW := Aside0.mk (Below.refl w.heap.size w)
  have HB := Aside0.mk hB
  have HW0 := Aside0.mk hB.size
  clear hB hr0 hc0
  have H' := Aside0.mk (show spec_l01From.l0 k l0 0 l0 0 61003 = some (r1, r2, r3) from h)
  clear h
  go_enter Tryd.func38, Tryd.ntmps38
  go_wp2
  go_loopg [4] k (fun kq v4 w' => ∃ (x4 x2 : Int), v4 = .int .i64 x4 ∧ Aside0 (spec_l01From.l0 kq l0 x4 l0 0 x2 = some (r1, r2, r3)) ∧ Aside0 (w'.heap[w.heap.size]? = some (.cells #[(.slice A0 l0.length c0), .int .i64 0, .int .i64 x2] 101 (0, 0))) ∧ Aside0 (Below w0.heap.size w0 w') ∧ Aside0 (Below w.heap.size w w'))
  case atStart => exact ⟨_, _, rfl, H', ⟨heap_alloc_new w _⟩, ⟨HB.out.alloc HB.out.size _⟩, ⟨below_alloc HBW.out _⟩⟩
  case round =>
    clear H'
    obtain ⟨x4, x2, rfl, HA, BK, HB, HBW⟩ := hrel
    have hg1 : w.heap.size < wr.heap.size := blk_lt BK.out
    cases gk with
    | zero => exact absurd HA.out (by simp [spec_l01From.l0])
    | succ k1 =>
      have H := HA.out
      clear HA
      simp only [spec_l01From.l0] at H
      have fin : (IsS101 w0 wr w.heap.size l0 0 x2) := ⟨_, _, BK.out, HW0.out, HR0.out⟩
      by_cases c3 : x4 < (l0.length : Int) ∧ x4 < 64
      · rw [if_pos c3.1, if_pos c3.2] at H
        have hlt : decide (x4 < (l0.length : Int)) = true := decide_eq_true c3.1
        have hlt2 : decide (x4 < 64) = true := decide_eq_true c3.2
        by_cases c5 : 0 ≤ x4
        · rw [if_pos c5] at H
          have H' := Aside0.mk H
          clear H
          obtain ⟨ad, e, hx⟩ := Kd.at_int HR0.out x4 c5 c3.1
          cases e
          replace hx := pw_cell_below HB.out hx
          have h0 : wr.cell? ⟨w.heap.size, 0, none⟩ = some (.slice (some ad) l0.length c0) := (blk_cell BK.out 0).trans rfl
          have h1 : wr.cell? ⟨w.heap.size, 1, none⟩ = some (.int .i64 0) := (blk_cell BK.out 1).trans rfl
          have h2 : wr.cell? ⟨w.heap.size, 2, none⟩ = some (.int .i64 x2) := (blk_cell BK.out 2).trans rfl
          have f2 := blk_frozen BK.out 2
          have c4 := c3.1
          clear c3 fin
          go_wp2
          go_still_tail 15, (by kernel_rfl)
          change wpList _ _ _ _ _ wr.drew
          go_wp2
          go_roundg k1
          case measure => omega
          case rel =>
            refine ⟨_, _, rfl, H', ⟨?_⟩, ⟨(HB.out.drew).setCell HW0.out _⟩, ⟨(HBW.out.drew).setCell (Nat.le_refl _) _⟩⟩
            exact blk_put (blk_drew BK.out) 2 _ rfl
        · rw [if_neg c5] at H
          exact absurd H (by simp)
      · have HQ : some (l0, (0 : Int), x2) = some (r1, r2, r3) := by
          by_cases c : x4 < (l0.length : Int)
          · rw [if_pos c, if_neg (by omega)] at H; exact H
          · rw [if_neg c] at H; exact H
        clear H
        simp only [Option.some.injEq, Prod.mk.injEq] at HQ
        obtain ⟨rfl, rfl, rfl⟩ := HQ
        have Fin := Aside0.mk fin
        clear fin
        by_cases c : x4 < (l0.length : Int)
        · have hlt : decide (x4 < (l0.length : Int)) = true := decide_eq_true c
          have hlt2 : decide (x4 < 64) = false := decide_eq_false (by omega)
          clear c c3
          go_wp2
          go_ret
          exact ⟨_, rfl, Fin.out, HB.out, HBW.out⟩
        · have hlt : decide (x4 < (l0.length : Int)) = false := decide_eq_false c
          clear c c3
          go_wp2
          go_ret
          exact ⟨_, rfl, Fin.out, HB.out, HBW.out⟩

/-! ### spec_l01Next: function 39 -/
/-- The seed's next value. -/
def nextSeed (s : Int) : Int := Int.tmod (wrap64 (wrap64 (s * 48271) + 29)) 2147483647
def spec_l01Next.f (c : List Int) (i : Int) (s : Int) (n : Int) : Option (Int × Int × Int) :=
  if n ≤ 1 then some (0, i, s)
  else if i < (c.length : Int) then
    if 0 ≤ i then
      if n ≤ 256 ∧ (i + 1) % 2 = 0 then some (Int.tmod (wrap64 (rd c i)) n, i + 1, nextSeed s)
      else some (Int.tmod (wrap64 (wrap64 (Int.tdiv (nextSeed s) 31) + wrap64 (rd c i))) n, i + 1, nextSeed s)
    else none
  else some (Int.tmod (wrap64 (Int.tdiv (nextSeed s) 31)) n, i, nextSeed s)
set_option maxHeartbeats 4000000 in
set_option maxRecDepth 100000 in
theorem spec_l01Next.calls (g : Nat) (s0_0 : List Int) (s0_1 : Int) (s0_2 : Int) (a1 : Int) (r1 : Int) (r2 : Int) (r3 : Int) (w0 w : World) (hI : IsS101 w0 w g s0_0 s0_1 s0_2) (hB : Below w0.heap.size w0 w) (h : spec_l01Next.f s0_0 s0_1 s0_2 a1 = some (r1, r2, r3)) :
    Calls Tryd.prog 39 #[.pointer (some ⟨g, 0, none⟩), .int .i64 a1] w fun e w' => e = .returned (.int .i64 r1) ∧ IsS101 w0 w' g s0_0 r2 r3 ∧ Below w0.heap.size w0 w' ∧ KeepBut w w' g none := by
  have hu101 := Tryd.underlying101
  have HI := Aside0.mk hI
  have HB := Aside0.mk hB
  obtain ⟨A0, c0, hb, hg, hr0⟩ := hI
  have hgl : g < w.heap.size := blk_lt hb
  have BK := Aside0.mk hb
  have HG := Aside0.mk hg
  have HR := Aside0.mk hr0
  clear hB hb hg hr0
  unfold spec_l01Next.f at h
  by_cases c1 : a1 ≤ 1
  · rw [if_pos c1] at h
    simp only [Option.some.injEq, Prod.mk.injEq] at h
    obtain ⟨rfl, rfl, rfl⟩ := h
    have hd := decide_eq_true c1
    clear c1
    go_enter Tryd.func39, Tryd.ntmps39
    go_wp2
    go_ret
    exact ⟨rfl, HI.out, HB.out, KeepBut.refl _ _ _⟩
  · rw [if_neg c1] at h
    have hd := decide_eq_false c1
    clear c1
    have h0 : w.cell? ⟨g, 0, none⟩ = some (.slice A0 s0_0.length c0) := (blk_cell BK.out 0).trans rfl
    have h1 : w.cell? ⟨g, 1, none⟩ = some (.int .i64 s0_1) := (blk_cell BK.out 1).trans rfl
    have h2 : w.cell? ⟨g, 2, none⟩ = some (.int .i64 s0_2) := (blk_cell BK.out 2).trans rfl
    have f2 := blk_frozen BK.out 2
    have f1 := blk_frozen BK.out 1
    have hz : (a1 == 0) = false := by rw [beq_eq_false_iff_ne]; have := of_decide_eq_false hd; omega
    have hz2 : ¬ a1 = 0 := by have := of_decide_eq_false hd; omega
    have HK := Aside0.mk (KeepBut.refl w g none)
    go_enter Tryd.func39, Tryd.ntmps39
    go_wp2
    have BK1 := Aside0.mk (blk_put (cs := #[.slice A0 s0_0.length c0, .int .i64 s0_1, .int .i64 s0_2]) BK.out 2 (.int .i64 (Int.tmod (wrap64 (wrap64 (s0_2 * 48271) + 29)) 2147483647)) rfl)
    have HB1 := Aside0.mk (HB.out.setCell (p := ⟨g, 2, none⟩) HG.out (.int .i64 (Int.tmod (wrap64 (wrap64 (s0_2 * 48271) + 29)) 2147483647)))
    have HK1 := Aside0.mk (HK.out.set_ 2 (.int .i64 (Int.tmod (wrap64 (wrap64 (s0_2 * 48271) + 29)) 2147483647)))
    generalize w.setCell ⟨g, 2, none⟩ (.int .i64 (Int.tmod (wrap64 (wrap64 (s0_2 * 48271) + 29)) 2147483647)) = w1 at BK1 HB1 HK1 ⊢
    change Aside0 (w1.heap[g]? = some (.cells #[.slice A0 s0_0.length c0, .int .i64 s0_1, .int .i64 (nextSeed s0_2)] 101 (0, 0))) at BK1
    clear h0 h1 h2 f2 f1 BK HB HK HI
    have h0 : w1.cell? ⟨g, 0, none⟩ = some (.slice A0 s0_0.length c0) := (blk_cell BK1.out 0).trans rfl
    have h1 : w1.cell? ⟨g, 1, none⟩ = some (.int .i64 s0_1) := (blk_cell BK1.out 1).trans rfl
    by_cases c2 : s0_1 < (s0_0.length : Int)
    · rw [if_pos c2] at h
      by_cases c3 : 0 ≤ s0_1
      · rw [if_pos c3] at h
        obtain ⟨ad, e, hx⟩ := Kd.at_int HR.out s0_1 c3 c2
        cases e
        have hadg : ad.block ≠ g := by
          have := World.block_lt_of_cell? w0 _ hx
          have hG := HG.out
          rw [add_block] at this
          omega
        replace hx := pw_cell_below HB1.out hx
        have hlt : decide (s0_1 < (s0_0.length : Int)) = true := decide_eq_true c2
        have hw : wrap64 (s0_1 + 1) = s0_1 + 1 := by
          have := HR.out.2.1
          unfold wrap64; omega
        have f1 := blk_frozen BK1.out 1
        go_quiet (fail)
        go_wp2
        go_quiet (fail)
        go_wp2
        · have c6 : a1 ≤ 256 := by assumption
          have c7 : (s0_1 + 1) % 2 = 0 := by rw [← beq_iff_eq]; assumption
          rw [if_pos ⟨c6, c7⟩] at h
          have e11 : IntKind.i64.wrap s0_1 = s0_1 := by
            have := HR.out.2.1
            exact IntWalk.i64_in _ (by omega)
          have hk : KeepBut w1 w1 g none := KeepBut.refl _ _ _
          generalize hW : World.setCell (World.drewN w1 _) _ _ = w2
          have BK2 : Aside0 (w2.heap[g]? = some (.cells #[.slice (some ad) s0_0.length c0, .int .i64 (s0_1 + 1), .int .i64 (nextSeed s0_2)] 101 (0, 0))) := ⟨by rw [← hW]; exact blk_put (blk_drewN BK1.out _) 1 _ rfl⟩
          have HB2 : Aside0 (Below w0.heap.size w0 w2) := ⟨by rw [← hW]; exact (pw_below_drewN HB1.out _).setCell HG.out _⟩
          have HK2 : Aside0 (KeepBut w w2 g none) := ⟨by rw [← hW]; exact (keep_drewN HK1.out _).set_ _ _⟩
          have hx2 : w2.cell? (ad.add s0_1.toNat) = some (.int .u8 (rd s0_0 s0_1)) := by rw [← hW]; exact keep_cell ((keep_drewN hk _).set_ _ _) hx (by rw [add_block]; exact hadg)
          clear c6 c7 hx hk hW h0 h1 f1 BK1 HB1 HK1
          have h0 : w2.cell? ⟨g, 0, none⟩ = some (.slice (some ad) s0_0.length c0) := (blk_cell BK2.out 0).trans rfl
          have h1 : w2.cell? ⟨g, 1, none⟩ = some (.int .i64 (s0_1 + 1)) := (blk_cell BK2.out 1).trans rfl
          go_quiet (fail)
          go_wp2
          go_ret
          simp only [Option.some.injEq, Prod.mk.injEq] at h
          obtain ⟨rfl, rfl, rfl⟩ := h
          exact ⟨rfl, ⟨_, c0, blk_drewN BK2.out _, HG.out, HR.out⟩, pw_below_drewN HB2.out _, keep_drewN HK2.out _⟩
        · have c7 : ¬ (s0_1 + 1) % 2 = 0 := beq_eq_false_iff_ne.mp (by assumption)
          rw [if_neg (fun h => c7 h.2)] at h
          go_ret
          simp only [Option.some.injEq, Prod.mk.injEq] at h
          obtain ⟨rfl, rfl, rfl⟩ := h
          exact ⟨rfl, ⟨_, c0, blk_put (blk_drewN BK1.out _) 1 _ rfl, HG.out, HR.out⟩, (pw_below_drewN HB1.out _).setCell HG.out _, (keep_drewN HK1.out _).set_ _ _⟩
        · have c6 : 256 < a1 := by assumption
          rw [if_neg (fun h => by have := h.1; omega)] at h
          go_ret
          simp only [Option.some.injEq, Prod.mk.injEq] at h
          obtain ⟨rfl, rfl, rfl⟩ := h
          exact ⟨rfl, ⟨_, c0, blk_put (blk_drewN BK1.out _) 1 _ rfl, HG.out, HR.out⟩, (pw_below_drewN HB1.out _).setCell HG.out _, (keep_drewN HK1.out _).set_ _ _⟩
      · rw [if_neg c3] at h
        exact absurd h (by simp)
    · rw [if_neg c2] at h
      simp only [Option.some.injEq, Prod.mk.injEq] at h
      obtain ⟨rfl, rfl, rfl⟩ := h
      have hlt : decide (s0_1 < (s0_0.length : Int)) = false := decide_eq_false c2
      clear c2
      go_quiet (fail)
      go_wp2
      go_ret
      exact ⟨rfl, ⟨A0, c0, blk_drewN BK1.out _, HG.out, HR.out⟩, pw_below_drewN HB1.out _, keep_drewN HK1.out _⟩

end Go.Proofs.YtmchbkjjpeiedaaDoor.DFnCoverFormulas
