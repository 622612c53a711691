-- Written by drive.py (wip/tool): the kit's print with texts of my own beside it.
import Derived.Test.YtmchbkjjpeiedaaDoorDFnCoverFormulasx0
import Derived.Test.YtmchbkjjpeiedaaDoorDFnCoverFormulasx3
import Derived.Test.YtmchbkjjpeiedaaDoorDFnCoverFormulasx7
namespace Go.Proofs.YtmchbkjjpeiedaaDoor.DFnCoverFormulas
open Go.RowKit Go.Proofs.YtmchbkjjpeiedaaDoorW.PrintWords Go.Proofs.YtmchbkjjpeiedaaDoorW.PrintLast Go.Proofs.YtmchbkjjpeiedaaDoorW.PrintMore Go.Proofs.YtmchbkjjpeiedaaDoorH
attribute [local go_sem] max2_int min2_int max_two min_two max_three min_three max_four min_four   -- for this text's walks alone
set_option linter.unusedVariables false
set_option linter.unusedSimpArgs false

/-! ### impl_FirstCover: function 13 -/
set_option maxHeartbeats 1000000 in
/-- slices.Clone, at whole numbers. -/
theorem cloneI (A : Option Addr) (c : Nat) (xs : List Int) (w : World) (hr : Kd.C (Kd.int .i64) w A xs.length xs) (hl : xs.length * 8 ≤ 140737488355328) :
    Calls Tryd.prog 47 #[.slice A xs.length c] w fun e w' => ∃ v, e = .returned v ∧ Kd.R (Kd.int .i64) 2 w' w.heap.size (fun _ => True) v xs ∧ Below w.heap.size w w' := by
  have HR := Aside0.mk hr
  clear hr
  have q : ∀ (w : World) (a : Option Addr) (n c n' c' : Nat), (binOp .eql 36 (.slice a n c) (.slice none n' c')).run Tryd.prog w = .ok (.bool a.isNone) w := fun w a n c n' c' => Lib.run_eql_slice_nil w _ _ a n c n' c' Tryd.underlying36
  cases A with
  | none =>
    obtain rfl : xs = [] := by
      cases xs with
      | nil => rfl
      | cons x xs => exact absurd (HR.out.2.2 (by simp)) (by simp)
    go_enter Tryd.func47, Tryd.ntmps47
    go_wp2
    go_ret
    exact ⟨_, rfl, Kd.R_nil _ _ _ _ _, Below.refl _ _⟩
  | some ad =>
    go_enter Tryd.func47, Tryd.ntmps47
    go_wp2_with (first | (with_reducible refine gate_dst (N := 5) rfl ?_); refine Kd.R_lit (Kd.int .i64) (w0 := w) w.heap.size 2 rfl (N := 5) rfl (xs := ([] : List Int)) (inner := []) (ok := fun _ => True) (okp := fun _ => True) ?hr (Reps.none _ _) (fun _ hk => hk) trivial (Below.refl _ _) (Nat.le_refl _) (by simp) ?_; (case hr => first | (go_simp; done) | (go_simp; rfl)); intro v1 w1 ho hb hg _; have HO := Aside0.mk ho; have HB := Aside0.mk hb; clear ho hb hg | (with_reducible refine gate_dst (N := 7) rfl ?_); at_builtin; refine Kd.R_append_rows (Kd.int .i64) (Rr := (Kd.int .i64).M w1 w.heap.size (fun _ => False)) (w0 := w) w.heap.size rfl (.tmp 5) (.tmp 6) 36 2 (.int .i64 0) 8 rfl Tryd.underlying36 info2 rfl (by decide) (by omega) v1 [] xs (some ad) xs.length c (fun _ => True) (fun _ => False) rfl rfl HO.out ?aR (fun _ _ h => h) (fun _ h => h.elim) (fun _ _ => trivial) HB.out HB.out.size (by rw [List.length_nil, Nat.zero_add]; exact hl) ?_; (case aR => exact Kd.C_below HR.out HB.out); intro v2 w2 ho2 hb2 _ _)
    go_ret
    exact ⟨_, rfl, ho2, hb2⟩
/-- Two rows of one's own of different types lie in different blocks. -/
theorem rows_ne {α β : Type} {d : Kd α} {d2 : Kd β} {e e2 b b2 : Nat} {w : World} {ok ok2 : Nat → Prop} {v v2 : Value} {xs : List α} {ys : List β} (h : d.R e w b ok v xs) (h2 : d2.R e2 w b2 ok2 v2 ys) (hne : e ≠ e2) : ∀ k, v2.ownBlock = some k → some k ≠ v.ownBlock := fun k hk he => by
  obtain ⟨_, i1, o1, _⟩ := h
  obtain ⟨_, i2, o2, _⟩ := h2
  obtain ⟨c1, h1⟩ := own_typed o1 k he.symm
  obtain ⟨c2, h2⟩ := own_typed o2 k hk
  rw [h1] at h2
  injection h2 with h2
  injection h2 with _ h2
  exact hne h2
/-- The search: what the fields hold, what the caller's two variables hold. -/
def CSX (w0 : World) (g go gf : Nat) (A : Option Addr) (c : Nat) (ms : List Nat) (rq : Nat) (n : Int) (en br fo : Bool) (out seq : List Int) (vs vo : Value) (w : World) : Prop :=
  w.heap[g]? = some (.cells #[.slice A ms.length c, .int .u64 rq, .int .i64 n, vs, .func (.func 46) #[] #[.pointer (some ⟨go, 0, none⟩), .pointer (some ⟨gf, 0, none⟩)], .bool en, .bool br] 67 (0, 0)) ∧
    w.heap[go]? = some (.cells #[vo] 36 (0, 0)) ∧ w.heap[gf]? = some (.cells #[.bool fo] 4 (0, 0)) ∧
    Kd.R (Kd.int .u64) 35 w w0.heap.size (fun _ => True) (.slice A ms.length c) (ms.map fun n : Nat => (n : Int)) ∧
    Kd.R (Kd.int .i64) 2 w w0.heap.size (fun _ => True) vs seq ∧
    Kd.R (Kd.int .i64) 2 w w0.heap.size (fun k => True ∧ some k ≠ vs.ownBlock) vo out ∧
    Below w0.heap.size w0 w
def CSM (w0 : World) (g go gf : Nat) (A : Option Addr) (c : Nat) (ms : List Nat) (rq : Nat) (n : Int) (en br fo : Bool) (out seq : List Int) (w : World) : Prop :=
  ∃ vs vo, CSX w0 g go gf A c ms rq n en br fo out seq vs vo w
section
variable {w0 : World} {g go gf : Nat} {A : Option Addr} {c : Nat} {ms : List Nat} {rq : Nat} {n : Int} {en br fo : Bool} {out seq : List Int} {vs vo : Value} {w w' : World}
theorem csm_mk (h : CSX w0 g go gf A c ms rq n en br fo out seq vs vo w) : CSM w0 g go gf A c ms rq n en br fo out seq w := ⟨vs, vo, h⟩
theorem csx_block (h : CSX w0 g go gf A c ms rq n en br fo out seq vs vo w) : w.heap[g]? = some (.cells #[.slice A ms.length c, .int .u64 rq, .int .i64 n, vs, .func (.func 46) #[] #[.pointer (some ⟨go, 0, none⟩), .pointer (some ⟨gf, 0, none⟩)], .bool en, .bool br] 67 (0, 0)) := h.1
theorem csx_base (h : CSX w0 g go gf A c ms rq n en br fo out seq vs vo w) : Below w0.heap.size w0 w := h.2.2.2.2.2.2
theorem csx_masks (h : CSX w0 g go gf A c ms rq n en br fo out seq vs vo w) : Kd.C (Kd.int .u64) w A ms.length (ms.map fun n : Nat => (n : Int)) := by
  have := (Kd.R_reads' h.2.2.2.1).2.2
  rwa [List.length_map] at this
theorem csx_ne (h : CSX w0 g go gf A c ms rq n en br fo out seq vs vo w) : go ≠ gf ∧ go ≠ g ∧ gf ≠ g := by
  obtain ⟨h1, h2, h3, _⟩ := h
  refine ⟨fun e => ?_, fun e => ?_, fun e => ?_⟩
  · rw [e, h3] at h2
    simp at h2
  · rw [e, h1] at h2
    simp at h2
  · rw [e, h1] at h3
    simp at h3
theorem csx_below (h : CSX w0 g go gf A c ms rq n en br fo out seq vs vo w) (hb : Below w.heap.size w w') : CSX w0 g go gf A c ms rq n en br fo out seq vs vo w' :=
  ⟨blk_below h.1 hb, blk_below h.2.1 hb, blk_below h.2.2.1 hb, Kd.R_below h.2.2.2.1 hb, Kd.R_below h.2.2.2.2.1 hb, Kd.R_below h.2.2.2.2.2.1 hb, below_then (csx_base h) (csx_base h).size hb⟩
theorem csx_put (h : CSX w0 g go gf A c ms rq n en br fo out seq vs vo w) (hB : w0.heap.size ≤ g) (j : Nat) (v : Value) : (w.setCell ⟨g, j, none⟩ v).heap[go]? = some (.cells #[vo] 36 (0, 0)) ∧ (w.setCell ⟨g, j, none⟩ v).heap[gf]? = some (.cells #[.bool fo] 4 (0, 0)) ∧
    Kd.R (Kd.int .u64) 35 (w.setCell ⟨g, j, none⟩ v) w0.heap.size (fun _ => True) (.slice A ms.length c) (ms.map fun n : Nat => (n : Int)) ∧
    Kd.R (Kd.int .i64) 2 (w.setCell ⟨g, j, none⟩ v) w0.heap.size (fun _ => True) vs seq ∧
    Kd.R (Kd.int .i64) 2 (w.setCell ⟨g, j, none⟩ v) w0.heap.size (fun k => True ∧ some k ≠ vs.ownBlock) vo out ∧
    Below w0.heap.size w0 (w.setCell ⟨g, j, none⟩ v) := by
  obtain ⟨_, h2, h3⟩ := csx_ne h
  exact ⟨blk_far h.2.1 h2 _, blk_far h.2.2.1 h3 _, Kd.R_set h.2.2.2.1 h.1 (by decide) _ _, Kd.R_set h.2.2.2.2.1 h.1 (by decide) _ _, Kd.R_set h.2.2.2.2.2.1 h.1 (by decide) _ _, (csx_base h).setCell (p := ⟨g, j, none⟩) hB _⟩
theorem csx_n (h : CSX w0 g go gf A c ms rq n en br fo out seq vs vo w) (hB : w0.heap.size ≤ g) (n' : Int) : CSX w0 g go gf A c ms rq n' en br fo out seq vs vo (w.setCell ⟨g, 2, none⟩ (.int .i64 n')) := ⟨blk_put h.1 2 _ rfl, csx_put h hB _ _⟩
theorem csx_en (h : CSX w0 g go gf A c ms rq n en br fo out seq vs vo w) (hB : w0.heap.size ≤ g) (en' : Bool) : CSX w0 g go gf A c ms rq n en' br fo out seq vs vo (w.setCell ⟨g, 5, none⟩ (.bool en')) := ⟨blk_put h.1 5 _ rfl, csx_put h hB _ _⟩
theorem csx_br (h : CSX w0 g go gf A c ms rq n en br fo out seq vs vo w) (hB : w0.heap.size ≤ g) (br' : Bool) : CSX w0 g go gf A c ms rq n en br' fo out seq vs vo (w.setCell ⟨g, 6, none⟩ (.bool br')) := ⟨blk_put h.1 6 _ rfl, csx_put h hB _ _⟩
theorem csx_cut {As : Option Addr} {n1 m cs : Nat} (h : CSX w0 g go gf A c ms rq n en br fo out seq (.slice As n1 cs) vo w) (hB : w0.heap.size ≤ g) (hm : m ≤ seq.length) : CSX w0 g go gf A c ms rq n en br fo out (seq.take m) (.slice As m cs) vo (w.setCell ⟨g, 3, none⟩ (.slice As m cs)) := by
  obtain ⟨h1, h2, h3, h4, h5, h6⟩ := csx_put h hB 3 (.slice As m cs)
  refine ⟨blk_put h.1 3 _ rfl, h1, h2, h3, Kd.R_take h4 hm, Kd.R_mono h5 (fun k hk => ⟨trivial, ?_⟩), h6⟩
  rw [show (Value.slice As m cs).ownBlock = (Value.slice As n1 cs).ownBlock by cases As <;> rfl]
  exact hk.2
/-- Behind an append to the sequence. -/
theorem csx_grow {v1 : Value} {seq1 : List Int} (h : CSX w0 g go gf A c ms rq n en br fo out seq vs vo w) (hs : Kd.R (Kd.int .i64) 2 w' w0.heap.size (fun _ => True) v1 seq1) (hb : Below w0.heap.size w0 w') (hg : w.grownBy w' vs.ownBlock) (hat : v1.ownBlock = vs.ownBlock ∨ ∃ b, v1.ownBlock = some b ∧ w.heap.size ≤ b) :
    w'.heap[g]? = some (.cells #[.slice A ms.length c, .int .u64 rq, .int .i64 n, vs, .func (.func 46) #[] #[.pointer (some ⟨go, 0, none⟩), .pointer (some ⟨gf, 0, none⟩)], .bool en, .bool br] 67 (0, 0)) ∧
    (w0.heap.size ≤ g → CSX w0 g go gf A c ms rq n en br fo out seq1 v1 vo (w'.setCell ⟨g, 3, none⟩ v1)) := by
  have hg1 := blk_grown h.1 hg (Kd.R_ne h.2.2.2.2.1 h.1 (by decide))
  have ho1 := blk_grown h.2.1 hg (Kd.R_ne h.2.2.2.2.1 h.2.1 (by decide))
  have hf1 := blk_grown h.2.2.1 hg (Kd.R_ne h.2.2.2.2.1 h.2.2.1 (by decide))
  obtain ⟨_, h2, h3⟩ := csx_ne h
  refine ⟨hg1, fun hB => ⟨blk_put hg1 3 _ rfl, blk_far ho1 h2 _, blk_far hf1 h3 _, Kd.R_set ?_ hg1 (by decide) _ _, Kd.R_set hs hg1 (by decide) _ _, Kd.R_set ?_ hg1 (by decide) _ _, hb.setCell (p := ⟨g, 3, none⟩) hB _⟩⟩
  · exact Kd.R_grown2 h.2.2.2.1 rfl hg (fun k hk => (rows_ne h.2.2.2.1 h.2.2.2.2.1 (by decide) k hk))
  · exact Kd.R_after h.2.2.2.2.2.1 hg hat
end
/-- The answer of the visit: it stores a copy of the sequence. -/
theorem visit_calls (w0 : World) (g go gf : Nat) (A : Option Addr) (c : Nat) (ms : List Nat) (rq : Nat) (n : Int) (en br fo : Bool) (out seq : List Int) (As : Option Addr) (cs : Nat) (w : World)
    (hB : w0.heap.size ≤ g ∧ w0.heap.size ≤ go ∧ w0.heap.size ≤ gf) (hlim : seq.length * 8 ≤ 140737488355328)
    (hg : w.heap[g]? = some (.cells #[.slice A ms.length c, .int .u64 rq, .int .i64 n, .slice As seq.length cs, .func (.func 46) #[] #[.pointer (some ⟨go, 0, none⟩), .pointer (some ⟨gf, 0, none⟩)], .bool en, .bool br] 67 (0, 0)))
    (h : CSM w0 g go gf A c ms rq n en br fo out seq w) :
    Calls Tryd.prog 46 #[.slice As seq.length cs, .pointer (some ⟨go, 0, none⟩), .pointer (some ⟨gf, 0, none⟩)] w fun e w' => e = .returned (.bool false) ∧ CSM w0 g go gf A c ms rq n en br true seq seq w' := by
  obtain ⟨vs, vo, hg2, hgo, hgf, hm, hs, ho, hb⟩ := h
  rw [hg] at hg2
  obtain rfl : vs = .slice As seq.length cs := by simp at hg2; exact hg2.symm
  clear hg2
  obtain ⟨_, _, hsr⟩ := Kd.R_reads' hs
  have hcl := cloneI As cs seq w hsr hlim
  have BG := Aside0.mk hg
  have BO := Aside0.mk hgo
  have BF := Aside0.mk hgf
  have HM := Aside0.mk hm
  have HS := Aside0.mk hs
  have HB := Aside0.mk hb
  have HC := Aside0.mk hcl
  clear hg hgo hgf hm hs ho hb hsr hcl
  have ne1 : go ≠ gf := fun e => by
    have h1 := BO.out
    rw [e, BF.out] at h1
    simp at h1
  have ne2 : g ≠ go := fun e => by
    have h1 := BG.out
    rw [e, BO.out] at h1
    simp at h1
  have ne3 : g ≠ gf := fun e => by
    have h1 := BG.out
    rw [e, BF.out] at h1
    simp at h1
  have NE1 := Aside0.mk ne1
  have NE2 := Aside0.mk ne2
  have NE3 := Aside0.mk ne3
  clear ne1 ne2 ne3
  go_enter Tryd.func46, Tryd.ntmps46
  go_wp2_with (go_at_call 47; (with_reducible refine HC.out.mono ?_); rintro e w1 ⟨v, rfl, hR1, hb1⟩; obtain ⟨Av, cv, rfl⟩ := Kd.R_slice hR1; have R1 := Aside0.mk hR1; have B1 := Aside0.mk hb1; have G1 := Aside0.mk (blk_below BG.out hb1); have O1 := Aside0.mk (blk_below BO.out hb1); have F1 := Aside0.mk (blk_below BF.out hb1); clear hR1 hb1; have fo1 := blk_frozen O1.out 0; have co1 : w1.cell? ⟨go, 0, none⟩ = some vo := (blk_cell O1.out 0).trans rfl; have F2 := Aside0.mk (blk_far F1.out (p := ⟨go, 0, none⟩) (Ne.symm NE1.out) (.slice Av seq.length cv)); have ff1 := blk_frozen F2.out 0; have cf1 : (w1.setCell ⟨go, 0, none⟩ (.slice Av seq.length cv)).cell? ⟨gf, 0, none⟩ = some (.bool fo) := (blk_cell F2.out 0).trans rfl)
  go_ret
  have ne1 := NE1.out
  have ne2 := NE2.out
  have ne3 := NE3.out
  have hO2 := blk_put O1.out 0 (.slice Av seq.length cv) rfl
  have hF2 := blk_far F1.out (p := ⟨go, 0, none⟩) (Ne.symm ne1) (.slice Av seq.length cv)
  have hS1 := Kd.R_below HS.out B1.out
  refine ⟨rfl, .slice As seq.length cs, .slice Av seq.length cv, blk_far (blk_far G1.out ne2 _) ne3 _, blk_far hO2 ne1 _, blk_put hF2 0 _ rfl, ?_, ?_, ?_, ?_⟩
  · exact Kd.R_set (Kd.R_set (Kd.R_below HM.out B1.out) O1.out (by decide) 0 _) hF2 (by decide) 0 _
  · exact Kd.R_set (Kd.R_set hS1 O1.out (by decide) 0 _) hF2 (by decide) 0 _
  · have h1 := Kd.R_mono (Kd.R_bound R1.out) (ok' := fun k => True ∧ some k ≠ (Value.slice As seq.length cs).ownBlock) (fun k hk => ⟨trivial, fun e => by
      have := Kd.R_lt HS.out k e.symm
      omega⟩)
    exact Kd.R_set (Kd.R_set (Kd.R_lower h1 HB.out.size) O1.out (by decide) 0 _) hF2 (by decide) 0 _
  · exact ((below_step HB.out B1.out).setCell (p := ⟨go, 0, none⟩) hB.2.1 _).setCell (p := ⟨gf, 0, none⟩) hB.2.2 _
/-- The rows from i on, tried one after the other; what the search has found, and whether it ended. -/
def loopF (F : Nat → List Int → Int × Bool × Bool × Bool × List Int → Option (Int × Bool × Bool × Bool × List Int)) (cov : Nat) (seq : List Int) (col : Nat) : Nat → List Nat → Int × Bool × Bool × Bool × List Int → Option (Int × Bool × Bool × Bool × List Int)
  | _, [], s => some s
  | i, m :: rest, s => if m >>> col % 2 = 0 ∨ m &&& cov ≠ 0 then loopF F cov seq col (i + 1) rest s else
    match F (cov ||| m) (seq ++ [(i : Int)]) s with
    | none => none
    | some s' => if s'.2.1 || s'.2.2.1 then some s' else loopF F cov seq col (i + 1) rest s'
/-- The search. -/
def fromF (ms : List Nat) (rq : Nat) : Nat → Nat → List Int → Int × Bool × Bool × Bool × List Int → Option (Int × Bool × Bool × Bool × List Int)
  | 0, _, _, _ => none
  | k + 1, cov, seq, (n, en, br, fo, out) => if n = 20000 then some (n, en, true, fo, out) else if bestCol ms rq cov < 0 then some (n + 1, true, br, true, seq)
    else loopF (fromF ms rq k) cov seq (bestCol ms rq cov).toNat 0 ms (n + 1, en, br, fo, out)
theorem loopF_nodes {F : Nat → List Int → Int × Bool × Bool × Bool × List Int → Option (Int × Bool × Bool × Bool × List Int)} (hF : ∀ cov seq s r, F cov seq s = some r → s.1 ≤ 20000 → s.1 ≤ r.1 ∧ r.1 ≤ 20000) (cov : Nat) (seq : List Int) (col : Nat) :
    ∀ (ms : List Nat) (i : Nat) (s r : Int × Bool × Bool × Bool × List Int), loopF F cov seq col i ms s = some r → s.1 ≤ 20000 → s.1 ≤ r.1 ∧ r.1 ≤ 20000
  | [], i, s, r, h, hs => by
    simp only [loopF, Option.some.injEq] at h
    subst h
    exact ⟨Int.le_refl _, hs⟩
  | m :: ms, i, s, r, h, hs => by
    rw [loopF] at h
    split at h
    · exact loopF_nodes hF cov seq col ms _ s r h hs
    · split at h
      · cases h
      · rename_i s' hs'
        have h1 := hF _ _ _ _ hs' hs
        split at h
        · simp only [Option.some.injEq] at h
          subst h
          exact h1
        · have h2 := loopF_nodes hF cov seq col ms _ s' r h h1.2
          exact ⟨Int.le_trans h1.1 h2.1, h2.2⟩
theorem fromF_nodes (ms : List Nat) (rq : Nat) : ∀ (k : Nat) (cov : Nat) (seq : List Int) (s r : Int × Bool × Bool × Bool × List Int), fromF ms rq k cov seq s = some r → s.1 ≤ 20000 → s.1 ≤ r.1 ∧ r.1 ≤ 20000
  | 0, cov, seq, s, r, h, hs => by cases h
  | k + 1, cov, seq, (n, en, br, fo, out), r, h, hs => by
    rw [fromF] at h
    have hn : n ≤ 20000 := hs
    split at h
    · simp only [Option.some.injEq] at h
      subst h
      exact ⟨Int.le_refl _, hn⟩
    · split at h
      · simp only [Option.some.injEq] at h
        subst h
        simp only
        omega
      · have := loopF_nodes (fun cov seq s r h hs => fromF_nodes ms rq k cov seq s r h hs) _ _ _ ms _ _ r h (by simp only; omega)
        simp only at this ⊢
        omega
theorem tab_below {G : Nat} {tab : List Nat} {w0 w : World} (h : TabAt G tab w0) (hb : Below w0.heap.size w0 w) : TabAt G tab w := fun j hj => pw_cell_below hb (h j hj)
theorem and_testbit (m col : Nat) (hm : m < 18446744073709551616) : Go.bits .and .u64 ((m : Int) / 2 ^ col) 1 = ((m >>> col % 2 : Nat) : Int) := by
  have h2 : (m : Int) / 2 ^ col = ((m >>> col : Nat) : Int) := by rw [Nat.shiftRight_eq_div_pow]; simp
  have h3 : m >>> col < 18446744073709551616 := by rw [Nat.shiftRight_eq_div_pow]; exact Nat.lt_of_le_of_lt (Nat.div_le_self _ _) hm
  rw [h2, show (1 : Int) = ((1 : Nat) : Int) from rfl, bits_and_u64_nat _ 1 h3 (by omega), Nat.and_one_is_mod]
theorem bestLoop_lt : ∀ (b left : Nat) (c : List Int) (best : Int), left ≤ b → left < 18446744073709551616 → best < 64 → bestLoop left c best < 64
  | 0, left, c, best, hb, hl, h => by
    obtain rfl : left = 0 := by omega
    rw [bestLoop, dif_pos rfl]
    exact h
  | b + 1, left, c, best, hb, hl, h => by
    rw [bestLoop]
    split
    · exact h
    · rename_i hz
      have h1 := and_pred_lt hz
      refine bestLoop_lt b _ c _ (by omega) (by omega) ?_
      split
      · have := (Lib.lowest_bit 64 left hz hl).2
        omega
      · exact h
theorem bestCol_lt (ms : List Nat) (rq cov : Nat) : bestCol ms rq cov < 64 := by
  obtain ⟨L, h1, h2⟩ := bits_u64_cast .andNot (rq : Int) (cov : Int)
  rw [bestCol, h1]
  exact bestLoop_lt L L _ _ (Nat.le_refl _) h2 (by omega)
set_option maxHeartbeats 2000000 in
set_option maxRecDepth 100000 in
theorem from_walk (w0 : World) (g go gf : Nat) (A : Option Addr) (c : Nat) (ms : List Nat) (rq : Nat) (hB : w0.heap.size ≤ g ∧ w0.heap.size ≤ go ∧ w0.heap.size ≤ gf) (hms : ∀ m ∈ ms, m < 18446744073709551616) (hrq : rq < 18446744073709551616) (hT : TabAt 1 Lib.deBruijn64tab w0) :
    ∀ (k : Nat) (cov : Nat) (seq : List Int) (n : Int) (en br fo : Bool) (out : List Int) (r : Int × Bool × Bool × Bool × List Int) (w : World), cov < 18446744073709551616 → CSM w0 g go gf A c ms rq n en br fo out seq w → (seq.length : Int) ≤ n → n ≤ 20000 → fromF ms rq k cov seq (n, en, br, fo, out) = some r →
    Calls Tryd.prog 48 #[.pointer (some ⟨g, 0, none⟩), .int .u64 cov] w fun e w' => e = .returned (.tuple #[]) ∧ CSM w0 g go gf A c ms rq r.1 r.2.1 r.2.2.1 r.2.2.2.1 r.2.2.2.2 seq w' := by
  intro k
  induction k with
  | zero => intro cov seq n en br fo out r w _ _ _ _ h; cases h
  | succ k ih =>
    intro cov seq n en br fo out r w hcov hs hn0 hn1 hf
    have IH := Aside0.mk ih
    have HT := Aside0.mk hT
    have HMS := Aside0.mk hms
    have HLIM := Aside0.mk (And.intro hrq hcov)
    have HBG := Aside0.mk hB
    clear ih hT hms hrq hcov hB
    rw [fromF] at hf
    obtain ⟨vs, vo, hx⟩ := hs
    have HX := Aside0.mk hx
    clear hx
    have hu := Tryd.underlying67
    have BG := Aside0.mk (csx_block HX.out)
    have h2 : w.cell? ⟨g, 2, none⟩ = some (.int .i64 n) := (blk_cell BG.out 2).trans rfl
    by_cases hn : n = 20000
    · subst hn
      rw [if_pos rfl] at hf
      simp only [Option.some.injEq] at hf
      subst hf
      have f6 := blk_frozen BG.out 6
      have h6 : w.cell? ⟨g, 6, none⟩ = some (.bool br) := (blk_cell BG.out 6).trans rfl
      go_enter Tryd.func48, Tryd.ntmps48
      go_wp2
      (try simp only [Exit.inBlock, Exit.then]); refine bodyPost_ret (results_none rfl _ _ _) rfl ?_
      exact ⟨rfl, vs, vo, csx_br HX.out HBG.out.1 true⟩
    · rw [if_neg hn] at hf
      obtain ⟨bc, hbc⟩ : ∃ x, bestCol ms rq cov = x := ⟨_, rfl⟩
      rw [hbc] at hf
      have HF := Aside0.mk hf
      have HBC := Aside0.mk hbc
      clear hf hbc
      have f2 := blk_frozen BG.out 2
      have hnb : (n == 20000) = false := by rw [beq_eq_false_iff_ne]; exact hn
      have hn2 : n < 20000 := by omega
      by_cases hb0 : bc < 0
      · have hdb := decide_eq_true hb0
        go_enter Tryd.func48, Tryd.ntmps48
        go_wp2_with (go_at_call 79; have HX1 := Aside0.mk (csx_n HX.out HBG.out.1 (n + 1)); generalize w.setCell ⟨g, 2, none⟩ (.int .i64 (n + 1)) = W1 at HX1 ⊢; (with_reducible refine (bestColumn_calls g A c ms rq cov (.int .i64 (n + 1)) vs _ _ _ W1 (csx_block HX1.out) (csx_masks HX1.out) HMS.out HLIM.out.1 HLIM.out.2 (tab_below HT.out (csx_base HX1.out))).mono ?_); rintro e w2 ⟨rfl, hb2⟩; rw [HBC.out]; have HX2 := Aside0.mk (csx_below HX1.out hb2); clear HX1 hb2 HX)
        have HX3 := Aside0.mk (csx_below HX2.out (Below.drew (Below.refl w2.heap.size w2)))
        obtain ⟨As, cs, rfl⟩ := Kd.R_slice HX3.out.2.2.2.2.1
        clear HX2 h2 f2 BG
        have B2 := csx_block HX3.out
        have hcl := visit_calls w0 g go gf A c ms rq (n + 1) en br fo out seq As cs w2.drew HBG.out (by omega) B2 ⟨_, _, HX3.out⟩
        have HCL := Aside0.mk hcl
        have h3 : w2.cell? ⟨g, 3, none⟩ = some (.slice As seq.length cs) := (blk_cell (w := w2.drew) B2 3).trans rfl
        have h4 : w2.cell? ⟨g, 4, none⟩ = some (.func (.func 46) #[] #[.pointer (some ⟨go, 0, none⟩), .pointer (some ⟨gf, 0, none⟩)]) := (blk_cell (w := w2.drew) B2 4).trans rfl
        clear hcl B2
        go_region_with (go_at_call 46; (with_reducible refine HCL.out.mono ?_); rintro e w3 ⟨rfl, hx4⟩; obtain ⟨vs4, vo4, hx5⟩ := hx4; have HX5 := Aside0.mk hx5; clear hx5; have f5 := blk_frozen (csx_block HX5.out) 5; have h5 : w3.cell? ⟨g, 5, none⟩ = some (.bool en) := (blk_cell (csx_block HX5.out) 5).trans rfl)
        all_goals
          have hr := HF.out
          rw [if_pos hb0] at hr
          simp only [Option.some.injEq] at hr
          subst hr
          have HE := Aside0.mk (csx_en HX5.out HBG.out.1 true)
          go_wp2
          (try simp only [Exit.inBlock, Exit.then]); refine bodyPost_ret (results_none rfl _ _ _) rfl ?_
          exact ⟨rfl, _, _, HE.out⟩
      · have hdb := decide_eq_false hb0
        obtain ⟨col, rfl⟩ : ∃ col : Nat, bc = col := ⟨bc.toNat, by omega⟩
        have hr := HF.out
        rw [if_neg hb0, show ((col : Int)).toNat = col from rfl] at hr
        have HR := Aside0.mk hr
        have hcol : (col : Int) < 64 := by rw [← HBC.out]; exact bestCol_lt ms rq cov
        clear hr HF
        go_enter Tryd.func48, Tryd.ntmps48
        go_wp2_with (go_at_call 79; have HX1 := Aside0.mk (csx_n HX.out HBG.out.1 (n + 1)); generalize w.setCell ⟨g, 2, none⟩ (.int .i64 (n + 1)) = W1 at HX1 ⊢; (with_reducible refine (bestColumn_calls g A c ms rq cov (.int .i64 (n + 1)) vs _ _ _ W1 (csx_block HX1.out) (csx_masks HX1.out) HMS.out HLIM.out.1 HLIM.out.2 (tab_below HT.out (csx_base HX1.out))).mono ?_); rintro e w2 ⟨rfl, hb2⟩; rw [HBC.out]; have HX2 := Aside0.mk (csx_below HX1.out hb2); clear HX1 hb2 HX; have h0 : w2.cell? ⟨g, 0, none⟩ = some (.slice A ms.length c) := (blk_cell (csx_block HX2.out) 0).trans rfl)
        go_loopg [45] (ms.length) (fun kq v45 w' => ∃ (kk : Nat) (n2 : Int) (en2 br2 fo2 : Bool) (out2 : List Int), kk ≤ ms.length ∧ ms.length - kk ≤ kq ∧ v45 = .int .i64 kk ∧ Aside0 (CSM w0 g go gf A c ms rq n2 en2 br2 fo2 out2 seq w') ∧ Aside0 ((seq.length : Int) + 1 ≤ n2 ∧ n2 ≤ 20000) ∧ Aside0 (loopF (fromF ms rq k) cov seq col kk (ms.drop kk) (n2, en2, br2, fo2, out2) = some r))
        case atStart => exact ⟨0, n + 1, en, br, fo, out, Nat.zero_le _, by omega, rfl, ⟨vs, vo, HX2.out⟩, ⟨by omega, by omega⟩, HR⟩
        case round =>
          clear h0 HX2 HR BG h2 f2
          obtain ⟨kk, n2, en2, br2, fo2, out2, hkk, hq, rfl, HC, HN, HR⟩ := hrel
          obtain ⟨vs2, vo2, hx2⟩ := HC.out
          have HX := Aside0.mk hx2
          clear hx2 HC
          have hlenm : ms.length ≤ 9223372036854775807 := (csx_masks HX.out).2.1
          by_cases hlt : kk < ms.length
          · have hltz : (kk : Int) < (ms.length : Int) := by omega
            obtain ⟨ad, e, hx⟩ := Kd.at_int (csx_masks HX.out) kk (by omega) hltz
            cases e
            obtain ⟨m, hmm⟩ : ∃ m, ms[kk] = m := ⟨_, rfl⟩
            have hmem : m ∈ ms := hmm ▸ List.getElem_mem hlt
            have hdr : ms.drop kk = m :: ms.drop (kk + 1) := by rw [List.drop_eq_getElem_cons hlt, hmm]
            rw [show rd (ms.map fun n : Nat => (n : Int)) (kk : Int) = (m : Int) by simp [rd, List.getD_eq_getElem?_getD, List.getElem?_eq_getElem hlt, hmm]] at hx
            simp only [Int.toNat_natCast] at hx
            have hm64 := HMS.out m hmem
            have hbit := and_testbit m col hm64
            have hac := bits_and_u64_nat m cov hm64 HLIM.out.2
            have hor := bits_or_u64_nat cov m HLIM.out.2 hm64
            have hr := HR.out
            rw [hdr, loopF] at hr
            clear HR hmm hdr
            by_cases c1 : m >>> col % 2 = 0
            · rw [c1] at hbit
              have hbit0 : Go.bits .and .u64 ((m : Int) / 2 ^ col) 1 = 0 := hbit
              rw [if_pos (Or.inl c1)] at hr
              have HR := Aside0.mk hr
              clear hr hac hbit hor c1 hm64
              go_wp2
              go_roundg (ms.length - (kk + 1))
              case measure => omega
              case rel => exact ⟨kk + 1, n2, en2, br2, fo2, out2, by omega, by omega, by go_num, ⟨vs2, vo2, HX.out⟩, HN, HR⟩
            · have c1' : m >>> col % 2 = 1 := by omega
              rw [c1'] at hbit
              have hbit0 : Go.bits .and .u64 ((m : Int) / 2 ^ col) 1 = 1 := hbit
              by_cases c2 : m &&& cov = 0
              · rw [if_neg (fun h => h.elim c1 (fun h => h c2))] at hr
                have hq2 : (Go.bits .and .u64 (m : Int) (cov : Int) != 0) = false := by rw [hac, c2]; rfl
                have HOR := Aside0.mk hor
                have HM64 := Aside0.mk hm64
                have HL := Aside0.mk (show (seq ++ [(kk : Int)]).length = seq.length + 1 by simp)
                have h3 : wr.cell? ⟨g, 3, none⟩ = some vs2 := (blk_cell (csx_block HX.out) 3).trans rfl
                cases hcall : fromF ms rq k (cov ||| m) (seq ++ [(kk : Int)]) (n2, en2, br2, fo2, out2) with
                | none =>
                  rw [hcall] at hr
                  cases hr
                | some s3 =>
                  obtain ⟨n3, en3, br3, fo3, out3⟩ := s3
                  rw [hcall] at hr
                  have hnn := fromF_nodes ms rq k _ _ _ _ hcall HN.out.2
                  simp only at hr hnn
                  have HN3 := Aside0.mk hnn
                  have HR := Aside0.mk hr
                  have HCALL := Aside0.mk hcall
                  clear hr hac hbit hor c1 c1' c2 hm64 hnn hcall
                  go_wp2_with (first | ((with_reducible refine gate_builtin (b := .append) (xs := #[.tmp 66, .tmp 68]) rfl ?_); at_builtin; refine Kd.R_append (Kd.int .i64) (w0 := w0) w0.heap.size rfl (.tmp 66) (.tmp 68) 36 2 (.int .i64 0) 8 rfl Tryd.underlying36 info2 rfl (by decide) (by omega) vs2 seq (kk : Int) [.int .i64 kk] (fun _ => True) (fun _ => False) rfl rfl ?aP (fun _ hk => hk.elim) ?aF ?aO ?aB ?aS ?aL ?_; (case aP => exact rfl); (case aB => exact csx_base HX.out); (case aF => exact (fun _ _ => trivial)); (case aO => exact HX.out.2.2.2.2.1); (case aS => exact (csx_base HX.out).size); (case aL => have := HN.out; omega); intro v1 w1 ho hb hg hat; obtain ⟨A1, c1, rfl⟩ := Kd.R_slice ho; obtain ⟨hgb, hxx⟩ := csx_grow HX.out ho hb hg hat; have hx1 := hxx HBG.out.1; rw [HL.out] at hx1; have HX1 := Aside0.mk hx1; clear hx1; have f3 := blk_frozen hgb 3; have h31 : w1.cell? ⟨g, 3, none⟩ = some vs2 := (blk_cell hgb 3).trans rfl; clear ho hb hg hat hgb hxx) | (go_at_call 48; rw [HOR.out]; (with_reducible refine (IH.out (cov ||| m) (seq ++ [(kk : Int)]) n2 en2 br2 fo2 out2 (n3, en3, br3, fo3, out3) _ (Nat.or_lt_two_pow (n := 64) HLIM.out.2 HM64.out) (csm_mk HX1.out) (by rw [HL.out]; have := HN.out; omega) HN.out.2 HCALL.out).mono ?_); rintro e w4 ⟨rfl, hx4⟩; obtain ⟨vs4, vo4, hx5⟩ := hx4; have HX4 := Aside0.mk hx5; clear hx5 HX1))
                  have HX5 := Aside0.mk (csx_below HX4.out (Below.drew (Below.refl w4.heap.size w4)))
                  obtain ⟨A4, c4, rfl⟩ := Kd.R_slice HX5.out.2.2.2.2.1
                  have hrd := Kd.R_reads' HX5.out.2.2.2.2.1
                  have hc4 : seq.length + 1 ≤ c4 := by rw [← HL.out]; exact hrd.2.1
                  have hm4 : (seq ++ [(kk : Int)]).length ≤ 9223372036854775807 := hrd.2.2.2.1
                  rw [HL.out] at HX5 HX4 hm4
                  have h3 : w4.cell? ⟨g, 3, none⟩ = some (.slice A4 (seq.length + 1) c4) := (blk_cell (csx_block HX4.out) 3).trans rfl
                  have f3 := blk_frozen (csx_block HX5.out) 3
                  have hcut := csx_cut (m := seq.length) HX5.out HBG.out.1 (by rw [HL.out]; omega)
                  rw [List.take_left] at hcut
                  have HX6 := Aside0.mk hcut
                  clear hrd hcut
                  have hwr : IntKind.i64.wrap (seq.length : Int) = (seq.length : Int) := by rw [IntKind.wrap_i64]; omega
                  have hle : (seq.length : Int) ≤ (c4 : Int) := by omega
                  have hge : (0 : Int) ≤ (seq.length : Int) := by omega
                  have h5 : (w4.setCell ⟨g, 3, none⟩ (.slice A4 seq.length c4)).cell? ⟨g, 5, none⟩ = some (.bool en3) := (blk_cell (csx_block HX6.out) 5).trans rfl
                  have h6 : (w4.setCell ⟨g, 3, none⟩ (.slice A4 seq.length c4)).cell? ⟨g, 6, none⟩ = some (.bool br3) := (blk_cell (csx_block HX6.out) 6).trans rfl
                  have h35 : w4.drew.cell? ⟨g, 3, none⟩ = some (.slice A4 (seq.length + 1) c4) := (blk_cell (csx_block HX5.out) 3).trans rfl
                  go_still_tail 14, (by kernel_rfl)
                  cases en3 with
                  | true =>
                    have hr := HR.out
                    simp only [Bool.true_or, if_true, Option.some.injEq] at hr
                    subst hr
                    go_wp2
                    (try simp only [Exit.inBlock, Exit.then]); refine bodyPost_ret (results_none rfl _ _ _) rfl ?_
                    exact ⟨rfl, _, _, HX6.out⟩
                  | false =>
                    cases br3 with
                    | true =>
                      have hr := HR.out
                      simp only [Bool.or_true, if_true, Option.some.injEq] at hr
                      subst hr
                      go_wp2
                      (try simp only [Exit.inBlock, Exit.then]); refine bodyPost_ret (results_none rfl _ _ _) rfl ?_
                      exact ⟨rfl, _, _, HX6.out⟩
                    | false =>
                      have hr := HR.out
                      simp only [Bool.or_false, Bool.false_eq_true, if_false] at hr
                      clear HR
                      have HR := Aside0.mk hr
                      clear hr
                      go_wp2
                      go_roundg (ms.length - (kk + 1))
                      case measure => omega
                      case rel => exact ⟨kk + 1, n3, false, false, fo3, out3, by omega, by omega, by go_num, ⟨_, _, HX6.out⟩, ⟨by have := HN.out; have := HN3.out; omega⟩, HR⟩
              · rw [if_pos (Or.inr c2)] at hr
                have hq2 : (Go.bits .and .u64 (m : Int) (cov : Int) != 0) = true := by rw [hac]; simp; exact c2
                have HR := Aside0.mk hr
                clear hr hac hbit hor c1 c1' c2 hm64
                go_wp2
                go_roundg (ms.length - (kk + 1))
                case measure => omega
                case rel => exact ⟨kk + 1, n2, en2, br2, fo2, out2, by omega, by omega, by go_num, ⟨vs2, vo2, HX.out⟩, HN, HR⟩
          · have hltz : ¬ (kk : Int) < (ms.length : Int) := by omega
            obtain rfl : kk = ms.length := by omega
            have hr := HR.out
            rw [List.drop_length, loopF] at hr
            simp only [Option.some.injEq] at hr
            subst hr
            go_wp2
            go_end0
            exact ⟨rfl, vs2, vo2, HX.out⟩
/-- The required columns, as bits. -/
def rqOf (n : Int) : Int := IntKind.u64.wrap (IntKind.u64.wrap (2 ^ min (IntKind.u64.wrap n).toNat 64) - 1)
set_option maxHeartbeats 1000000 in
set_option maxRecDepth 100000 in
theorem newSearch_fn (a0_0 a0_1 : Int) (A0_2 : Option Addr) (c0_2 : Nat) (l0_2 : List (List Int)) (r : List Int) (f : FuncId) (lb : Array Value) (w : World) (hr0_2 : Kd.C (Kd.slice 2 (Kd.int .i64)) w A0_2 l0_2.length l0_2) (hlim : l0_2.length < 17592186044416) (h : l0_2.map maskOf = r) :
    Calls Tryd.prog 42 #[.agg #[.int .i64 a0_0, .int .i64 a0_1, .slice A0_2 l0_2.length c0_2], .func (.func f) #[] lb] w fun e w' => ∃ (vm : Value) (g_ : Nat), e = .returned (.pointer (some ⟨g_, 0, none⟩)) ∧ w.heap.size ≤ g_ ∧ w'.heap[g_]? = some (.cells #[vm, .int .u64 (rqOf a0_1), .int .i64 0, .slice none 0 0, .func (.func f) #[] lb, .bool false, .bool false] 67 (0, 0)) ∧ Kd.R (Kd.int .u64) 35 w' w.heap.size (fun _ => True) vm r ∧ Below w.heap.size w w' := by
  have HR := Aside0.mk hr0_2
  have hm : l0_2.length ≤ 9223372036854775807 := hr0_2.2.1
  clear hr0_2
  subst h
  have hu1 := Tryd.underlying26
  have hu2 := Tryd.underlying67
  go_enter Tryd.func42, Tryd.ntmps42
  go_wp2
  go_loopg [22] (l0_2.length) (fun kq v22 w' => ∃ (kk : Nat) (vm : Value) (cc : Nat), kk ≤ l0_2.length ∧ l0_2.length - kk ≤ kq ∧ v22 = .int .i64 kk ∧ Aside0 (w'.heap[w.heap.size]? = some (.cells #[.int .i64 a0_0, .int .i64 a0_1, .slice A0_2 l0_2.length cc] 26 (0, 0))) ∧ Aside0 (w'.heap[w.heap.size + 1]? = some (.cells #[vm, .int .u64 (rqOf a0_1), .int .i64 0, .slice none 0 0, .func (.func f) #[] lb, .bool false, .bool false] 67 (0, 0))) ∧ Aside0 (Kd.R (Kd.int .u64) 35 w' w.heap.size (fun _ => True) vm ((l0_2.take kk).map maskOf)) ∧ Aside0 (Below w.heap.size w w'))
  case atStart =>
    refine ⟨0, .slice none 0 0, c0_2, Nat.zero_le _, by omega, rfl, ⟨blk_alloc (heap_alloc_new w _) _⟩, ⟨?_⟩, ⟨Kd.R_nil _ _ _ _ _⟩, ⟨below_alloc (below_alloc (Below.refl _ _) _) _⟩⟩
    exact heap_new2 _ _ _
  case round =>
    obtain ⟨kk, vm, cc, hkk, hq, rfl, BC, BS, HO, HB⟩ := hrel
    by_cases hlt : kk < l0_2.length
    · have hltz : (kk : Int) < (l0_2.length : Int) := by omega
      obtain ⟨ad, cs, e, _, ⟨A1, c1, rfl, hl1, hr1⟩, hcell⟩ := Kd.C_get HR.out ([] : List Int) kk (by omega) hltz
      cases e
      have hx := hcell 0 _ rfl
      clear hcell
      have htk : l0_2.take (kk + 1) = l0_2.take kk ++ [l0_2.getD kk []] := by
        rw [List.getD_eq_getElem?_getD, List.getElem?_eq_getElem hlt, List.take_succ_eq_append_getElem hlt]
        rfl
      rw [show (kk : Int).toNat = kk from rfl] at hx hl1 hr1
      obtain ⟨row, hrow⟩ : ∃ row, l0_2.getD kk [] = row := ⟨_, rfl⟩
      rw [hrow] at hx hl1 hr1 htk
      have HT := Aside0.mk htk
      clear hrow htk
      simp only [Nat.add_zero, show (Kd.slice 2 (Kd.int .i64)).sz = 1 from rfl, Nat.mul_one] at hx
      replace hx := pw_cell_below HB.out hx
      have hb0 : wr.cell? ⟨w.heap.size, 2, none⟩ = some (.slice (some ad) l0_2.length cc) := (blk_cell BC.out 2).trans rfl
      have HR1 := Aside0.mk hr1
      have hm1 : row.length ≤ 9223372036854775807 := hr1.2.1
      clear hr1
      go_wp2
      obtain ⟨wo, rfl⟩ : ∃ wo : World, wo = wr := ⟨_, rfl⟩
      go_loopg [8, 28] (row.length) (fun kq v8 v28 w' => ∃ jj : Nat, jj ≤ row.length ∧ row.length - jj ≤ kq ∧ v28 = .int .i64 jj ∧ v8 = .int .u64 (maskOf (row.take jj)) ∧ Aside0 (Drawn0 wo w'))
      case atStart => exact ⟨0, Nat.zero_le _, by omega, rfl, rfl, ⟨Drawn0.refl _⟩⟩
      case round =>
        obtain ⟨jj, hjj, hq2, rfl, rfl, HD⟩ := hrel
        by_cases hlt2 : jj < row.length
        · have hltz2 : (jj : Int) < (row.length : Int) := by omega
          obtain ⟨ad2, e, hx2⟩ := Kd.at_int HR1.out jj (by omega) hltz2
          cases e
          simp only [Int.toNat_natCast] at hx2
          replace hx2 := pw_cell_below HD.out.below (pw_cell_below HB.out hx2)
          have HE : Aside0 (maskOf (row.take (jj + 1)) = Go.bits .or .u64 (maskOf (row.take jj)) (bitOf (rd row jj))) := ⟨by
            rw [take_rd row jj hlt2]; simp [maskOf]⟩
          go_wp2
          go_roundg (row.length - (jj + 1))
          case measure => omega
          case rel => exact ⟨jj + 1, by omega, by omega, by go_num, by rw [HE.out]; rfl, HD⟩
        · have hltz2 : ¬ (jj : Int) < (row.length : Int) := by omega
          obtain rfl : jj = row.length := by omega
          have BSw := Aside0.mk (blk_below BS.out HD.out.below)
          have BCw := Aside0.mk (blk_below BC.out HD.out.below)
          have HOw := Aside0.mk (Kd.R_below HO.out HD.out.below)
          have HBw := Aside0.mk (below_step HB.out HD.out.below)
          clear BS BC HO HB HD hx hb0
          have hs0 : wr.cell? ⟨w.heap.size + 1, 0, none⟩ = some vm := (blk_cell BSw.out 0).trans rfl
          obtain ⟨mk, hmk⟩ : ∃ m, maskOf (row.take row.length) = m := ⟨_, rfl⟩
          rw [hmk]
          rw [List.take_length] at hmk
          have HM := Aside0.mk hmk
          clear hmk
          have hll : ((l0_2.take kk).map maskOf).length = kk := by rw [List.length_map, List.length_take]; omega
          have HL := Aside0.mk hll
          clear hll
          go_wp2_with ((with_reducible refine gate_builtin (b := .append) (xs := #[.tmp 42, .tmp 44]) rfl ?_); at_builtin; refine Kd.R_append (Kd.int .u64) (w0 := w) w.heap.size rfl (.tmp 42) (.tmp 44) 65 35 (.int .u64 0) 8 rfl Tryd.underlying65 info35 rfl (by decide) (by omega) vm ((l0_2.take kk).map maskOf) mk [.int .u64 mk] (fun _ => True) (fun _ => False) rfl rfl ?aP (fun _ hk => hk.elim) ?aF ?aO ?aB ?aS ?aL ?_; (case aP => exact rfl); (case aB => exact HBw.out); (case aF => exact (fun _ _ => trivial)); (case aO => exact HOw.out); (case aS => exact HBw.out.size); (case aL => have := HL.out; omega); intro v1 w1 ho hb hg hat; obtain ⟨Ao, co, rfl⟩ := Kd.R_slice ho; have BS1 := Aside0.mk (blk_grown BSw.out hg (Kd.R_ne HOw.out BSw.out (by decide))); have BC1 := Aside0.mk (blk_grown BCw.out hg (Kd.R_ne HOw.out BCw.out (by decide))); have HO1 := Aside0.mk ho; have HB1 := Aside0.mk hb; clear ho hb hg hat hs0; have hs1 : w1.cell? ⟨w.heap.size + 1, 0, none⟩ = some vm := (blk_cell BS1.out 0).trans rfl; have hf1 := blk_frozen BS1.out 0)
          go_roundg (l0_2.length - (kk + 1))
          case measure => omega
          case rel =>
            refine ⟨kk + 1, _, cc, by omega, by omega, by go_num, ⟨blk_far BC1.out (by simp) _⟩, ⟨blk_put BS1.out 0 _ rfl⟩, ⟨?_⟩, ⟨HB1.out.setCell (by simp) _⟩⟩
            rw [HT.out, List.map_append, List.map_cons, HM.out, List.map_nil]
            have h2 := HO1.out
            rw [show ((l0_2.take kk).map maskOf ++ [mk]).length = kk + 1 by rw [List.length_append, HL.out]; rfl] at h2
            exact Kd.R_set h2 BS1.out (by decide) 0 _
    · have hltz : ¬ (kk : Int) < (l0_2.length : Int) := by omega
      obtain rfl : kk = l0_2.length := by omega
      go_wp2
      go_ret
      refine ⟨vm, w.heap.size + 1, rfl, by omega, BS.out, ?_, HB.out⟩
      have := HO.out
      rw [List.take_length] at this
      exact this
/-- The columns of a row, as bits, told as a natural number. -/
def maskN (row : List Int) : Nat := (maskOf row).toNat
theorem maskOf_nat (row : List Int) : maskOf row = (maskN row : Int) ∧ maskN row < 18446744073709551616 := by
  have h : ∀ (l : List Int) (a : Int), (∃ n : Nat, a = n ∧ n < 18446744073709551616) → ∃ n : Nat, l.foldl (fun m k => Go.bits .or .u64 m (bitOf k)) a = n ∧ n < 18446744073709551616 := by
    intro l
    induction l with
    | nil => intro a h; exact h
    | cons x l ih => intro a _; exact ih _ (bits_u64_cast _ _ _)
  obtain ⟨n, h1, h2⟩ := h row 0 ⟨0, rfl, by omega⟩
  have h3 : maskOf row = (n : Int) := h1
  rw [maskN, h3]
  exact ⟨rfl, h2⟩
theorem masks_nat (l : List (List Int)) : l.map maskOf = (l.map maskN).map (fun n : Nat => (n : Int)) := by
  rw [List.map_map]
  exact List.map_congr_left fun row _ => (maskOf_nat row).1
theorem masks_small (l : List (List Int)) : ∀ m ∈ l.map maskN, m < 18446744073709551616 := fun m hm => by
  obtain ⟨row, _, rfl⟩ := List.mem_map.1 hm
  exact (maskOf_nat row).2
theorem rqOf_nat (n : Int) : rqOf n = ((rqOf n).toNat : Int) ∧ (rqOf n).toNat < 18446744073709551616 := by
  unfold rqOf
  rw [IntKind.wrap_u64 (IntKind.u64.wrap (2 ^ min (IntKind.u64.wrap n).toNat 64) - 1)]
  omega
theorem csx_start (w W2 w3 : World) (g go gf : Nat) (Am : Option Addr) (cm : Nat) (l : List (List Int)) (a1 : Int) (hz : w.heap.size ≤ go) (hge : W2.heap.size ≤ g) (hb2 : Below w.heap.size w W2) (ho : W2.heap[go]? = some (.cells #[.slice none 0 0] 36 (0, 0))) (hf : W2.heap[gf]? = some (.cells #[.bool false] 4 (0, 0)))
    (hg : w3.heap[g]? = some (.cells #[.slice Am (l.map maskOf).length cm, .int .u64 (rqOf a1), .int .i64 0, .slice none 0 0, .func (.func 46) #[] #[.pointer (some ⟨go, 0, none⟩), .pointer (some ⟨gf, 0, none⟩)], .bool false, .bool false] 67 (0, 0)))
    (hm : Kd.R (Kd.int .u64) 35 w3 W2.heap.size (fun _ => True) (.slice Am (l.map maskOf).length cm) (l.map maskOf)) (hb3 : Below W2.heap.size W2 w3) :
    CSX w g go gf Am cm (l.map maskN) (rqOf a1).toNat 0 false false false [] [] (.slice none 0 0) (.slice none 0 0) w3 := by
  rw [masks_nat, List.length_map] at hm
  rw [List.length_map, ← List.length_map (f := maskN), (rqOf_nat a1).1] at hg
  exact ⟨hg, blk_below ho hb3, blk_below hf hb3, Kd.R_lower hm hb2.size, Kd.R_nil _ _ _ _ _, Kd.R_nil _ _ _ _ _, below_step hb2 hb3⟩
theorem from_start (w0 : World) (g go gf : Nat) (A : Option Addr) (c : Nat) (ms : List Nat) (rq : Nat) (hg : w0.heap.size ≤ g) (hgo : w0.heap.size ≤ go) (hgf : gf = go + 1) (hms : ∀ m ∈ ms, m < 18446744073709551616) (hrq : rq < 18446744073709551616) (hT : TabAt 1 Lib.deBruijn64tab w0)
    (n : Int) (en br fo : Bool) (out : List Int) (w : World) (hs : CSX w0 g go gf A c ms rq 0 false false false [] [] (.slice none 0 0) (.slice none 0 0) w) (hf : fromF ms rq 18446744073709551617 0 [] (0, false, false, false, []) = some (n, en, br, fo, out)) :
    Calls Tryd.prog 48 #[.pointer (some ⟨g, 0, none⟩), .int .u64 0] w fun e w' => e = .returned (.tuple #[]) ∧ ∃ vs vo, CSX w0 g go gf A c ms rq n en br fo out [] vs vo w' :=
  from_walk w0 g go gf A c ms rq ⟨hg, hgo, by omega⟩ hms hrq hT 18446744073709551617 0 [] 0 false false false [] (n, en, br, fo, out) w (by omega) (csm_mk hs) (by simp) (by omega) hf
def impl_FirstCover.f (a0_0 a0_1 : Int) (l0_2 : List (List Int)) : Option (List Int × Int) :=
  if isCoverB a0_0 a0_1 l0_2 = true then (fromF (l0_2.map maskN) (rqOf a0_1).toNat 18446744073709551617 0 [] (0, false, false, false, [])).map (fun s => if s.2.2.2.1 = true then (s.2.2.2.2, 0) else if s.2.2.1 = true then ([], 3) else ([], 4)) else some ([], 1)
set_option maxHeartbeats 2000000 in
set_option maxRecDepth 100000 in
theorem impl_FirstCover.calls (a0_0 a0_1 : Int) (A0_2 : Option Addr) (c0_2 : Nat) (l0_2 : List (List Int)) (r1 : List Int) (r2 : Int) (w : World) (hr0_2 : Kd.C (Kd.slice 2 (Kd.int .i64)) w A0_2 l0_2.length l0_2) (hc0_2 : l0_2.length ≤ c0_2) (hT : TabAt 1 Lib.deBruijn64tab w) (h : impl_FirstCover.f a0_0 a0_1 l0_2 = some (r1, r2)) :
    Calls Tryd.prog 13 #[.agg #[.int .i64 a0_0, .int .i64 a0_1, .slice A0_2 l0_2.length c0_2]] w fun e w' => ∃ v0_ : Value, e = .returned (.tuple #[v0_, .int .i64 r2]) ∧ Kd.R (Kd.int .i64) 2 w' w.heap.size (fun _ => True) v0_ r1 ∧ Below w.heap.size w w' := by
  have HR := Aside0.mk hr0_2
  have HC := Aside0.mk hc0_2
  have HT := Aside0.mk hT
  unfold impl_FirstCover.f at h
  have hu1 := Tryd.underlying26
  have hu2 := Tryd.underlying67
  have HB0 := Aside0.mk (below_alloc (Below.refl w.heap.size w) (.cells #[.int .i64 a0_0, .int .i64 a0_1, .slice A0_2 l0_2.length c0_2] 26))
  have hic := fun (b : Bool) (hb : isCoverB a0_0 a0_1 l0_2 = b) => impl_IsCover.calls a0_0 a0_1 A0_2 c0_2 l0_2 b (w.alloc (.cells #[.int .i64 a0_0, .int .i64 a0_1, .slice A0_2 l0_2.length c0_2] 26)) (Kd.C_below hr0_2 HB0.out) hc0_2 (congrArg some hb)
  have HG0 := Aside0.mk (heap_alloc_new w (.cells #[.int .i64 a0_0, .int .i64 a0_1, .slice A0_2 l0_2.length c0_2] 26))
  clear hr0_2 hc0_2 hT
  cases hb : isCoverB a0_0 a0_1 l0_2 with
  | false =>
    have HIC := Aside0.mk (hic false hb)
    rw [if_neg (by rw [hb]; simp)] at h
    simp only [Option.some.injEq, Prod.mk.injEq] at h
    obtain ⟨rfl, rfl⟩ := h
    clear hic hb
    go_enter Tryd.func13, Tryd.ntmps13
    go_wp2_with (go_at_call 41; (with_reducible refine HIC.out.mono ?_); rintro e w1 ⟨rfl, hb1⟩; have HB1 := Aside0.mk (below_step HB0.out hb1); clear hb1)
    go_ret2
    exact ⟨_, rfl, Kd.R_nil _ _ _ _ _, HB1.out⟩
  | true =>
    have HIC := Aside0.mk (hic true hb)
    rw [if_pos hb] at h
    have hl : l0_2.length ≤ 400 := by
      unfold isCoverB at hb
      simp only [Bool.and_eq_true, decide_eq_true_eq] at hb
      exact hb.1.2
    cases hf : fromF (l0_2.map maskN) (rqOf a0_1).toNat 18446744073709551617 0 [] (0, false, false, false, []) with
    | none => rw [hf] at h; cases h
    | some s =>
    obtain ⟨n, en, br, fo, out⟩ := s
    rw [hf] at h
    simp only [Option.map_some, Option.some.injEq] at h
    have HH := Aside0.mk h
    have HF := Aside0.mk hf
    have HL := Aside0.mk hl
    clear hic hb h hf hl
    go_enter Tryd.func13, Tryd.ntmps13
    go_wp2_with (first | (go_at_call 41; (with_reducible refine HIC.out.mono ?_); rintro e w1 ⟨rfl, hb1⟩; have HG1 := Aside0.mk (blk_below HG0.out hb1); have HB1 := Aside0.mk (below_step HB0.out hb1); have HG2 := Aside0.mk (blk_alloc (blk_alloc HG1.out (.cells #[.slice none 0 0] 36)) (.cells #[.bool false] 4)); have h0 : ((w1.alloc (.cells #[.slice none 0 0] 36)).alloc (.cells #[.bool false] 4)).cell? ⟨w.heap.size, 0, none⟩ = some (.int .i64 a0_0) := (blk_cell HG2.out 0).trans rfl; have h1 : ((w1.alloc (.cells #[.slice none 0 0] 36)).alloc (.cells #[.bool false] 4)).cell? ⟨w.heap.size, 1, none⟩ = some (.int .i64 a0_1) := (blk_cell HG2.out 1).trans rfl; have h2 : ((w1.alloc (.cells #[.slice none 0 0] 36)).alloc (.cells #[.bool false] 4)).cell? ⟨w.heap.size, 2, none⟩ = some (.slice A0_2 l0_2.length c0_2) := (blk_cell HG2.out 2).trans rfl; clear hb1) | (go_at_call 42; have HO2 := Aside0.mk (blk_alloc (heap_alloc_new w1 (.cells #[.slice none 0 0] 36)) (.cells #[.bool false] 4)); have HF2 := Aside0.mk (heap_new2 w1 (.cells #[.slice none 0 0] 36) (.cells #[.bool false] 4)); have HB2 := Aside0.mk (below_alloc (below_alloc HB1.out (.cells #[.slice none 0 0] 36)) (.cells #[.bool false] 4)); have HZ := Aside0.mk (show w.heap.size ≤ w1.heap.size from HB1.out.size); clear h0 h1 h2; generalize (w1.alloc (.cells #[.slice none 0 0] 36)).alloc (.cells #[.bool false] 4) = W2 at HO2 HF2 HB2 ⊢; (with_reducible refine (newSearch_fn a0_0 a0_1 A0_2 c0_2 l0_2 (l0_2.map maskOf) 46 _ W2 (Kd.C_below HR.out HB2.out) (Nat.lt_of_le_of_lt HL.out (by decide)) rfl).mono ?_); rintro e w3 ⟨vm, g, rfl, hge, hgb, hrm, hb3⟩; obtain ⟨Am, cm, rfl⟩ := Kd.R_slice hrm; have HCS := Aside0.mk (csx_start w W2 w3 g w1.heap.size (w1.heap.size + 1) Am cm l0_2 a0_1 HZ.out hge HB2.out HO2.out HF2.out hgb hrm hb3); have HGE := Aside0.mk (Nat.le_trans HB2.out.size hge); clear hge hgb hrm hb3 HO2 HF2) | (go_at_call 48; (with_reducible refine (from_start w g w1.heap.size (w1.heap.size + 1) Am cm (l0_2.map maskN) (rqOf a0_1).toNat HGE.out HZ.out rfl (masks_small l0_2) (rqOf_nat a0_1).2 HT.out n en br fo out w3 HCS.out HF.out).mono ?_); rintro e w4 ⟨rfl, vs4, vo4, hx4⟩; obtain ⟨A5, c5, rfl⟩ := Kd.R_slice hx4.2.2.2.2.2.1; have HX := Aside0.mk hx4; have h5 : w4.cell? ⟨w1.heap.size + 1, 0, none⟩ = some (.bool fo) := (blk_cell hx4.2.2.1 0).trans rfl; have h6 : w4.cell? ⟨w1.heap.size, 0, none⟩ = some (.slice A5 out.length c5) := (blk_cell hx4.2.1 0).trans rfl; have h7 : w4.cell? ⟨g, 6, none⟩ = some (.bool br) := (blk_cell hx4.1 6).trans rfl; clear hx4 HCS))
    · go_ret2
      have hh := HH.out
      rw [if_pos (by assumption)] at hh
      simp only [Prod.mk.injEq] at hh
      obtain ⟨rfl, rfl⟩ := hh
      exact ⟨_, rfl, Kd.R_mono HX.out.2.2.2.2.2.1 (fun _ _ => trivial), csx_base HX.out⟩
    · go_ret2
      have hh := HH.out
      rw [if_neg (by first | assumption | (simp; assumption)), if_pos (by assumption)] at hh
      simp only [Prod.mk.injEq] at hh
      obtain ⟨rfl, rfl⟩ := hh
      exact ⟨_, rfl, Kd.R_nil _ _ _ _ _, csx_base HX.out⟩
    · go_ret2
      have hh := HH.out
      rw [if_neg (by first | assumption | (simp; assumption)), if_neg (by first | assumption | (simp; assumption))] at hh
      simp only [Prod.mk.injEq] at hh
      obtain ⟨rfl, rfl⟩ := hh
      exact ⟨_, rfl, Kd.R_nil _ _ _ _ _, csx_base HX.out⟩

/-! ### laws_hasInt: function 14 -/
def laws_hasInt.l0 : Nat → List Int → Int → Int → Option (Bool)
  | 0, _, _, _ => none
  | k + 1, x0, x1, x5 => if x5 < (x0.length : Int) then (if 0 ≤ x5 then (if (rd x0 x5) = x1 then (some true) else (laws_hasInt.l0 k x0 x1 (wrap64 (x5 + 1)))) else (none)) else (some false)
def laws_hasInt.f (k : Nat) (l0 : List Int) (a1 : Int) : Option (Bool) := laws_hasInt.l0 k l0 a1 0
theorem laws_hasInt.mono_l : ∀ k, (∀ y0 y1 y2, LeO (laws_hasInt.l0 k y0 y1 y2) (laws_hasInt.l0 (k + 1) y0 y1 y2))
  | 0 => fun _ _ _ r h => by simp [laws_hasInt.l0] at h
  | k + 1 => by
    have ih0 := laws_hasInt.mono_l k
    · intro y0 y1 y2
      unfold laws_hasInt.l0
      repeat' first
      | (with_reducible exact ih0 _ _ _)
      | (with_reducible exact LeO.refl _)
      | (with_reducible exact LeO.none _)
      | (with_reducible refine LeO.ite ?_ ?_)
      | (with_reducible refine LeO.bind ?_ (fun _ => ?_))
      | exact ih0 _ _ _
      | exact LeO.none _
      | refine LeO.ite ?_ ?_
      | refine LeO.bind ?_ (fun _ => ?_)
theorem laws_hasInt.mono : ∀ a0 a1 k, LeO (laws_hasInt.f k a0 a1) (laws_hasInt.f (k + 1) a0 a1) := by
  intro a0 a1 k
  have ih0 := laws_hasInt.mono_l k
  unfold laws_hasInt.f
  repeat' first
      | (with_reducible exact ih0 _ _ _)
      | (with_reducible exact LeO.refl _)
      | (with_reducible exact LeO.none _)
      | (with_reducible refine LeO.ite ?_ ?_)
      | (with_reducible refine LeO.bind ?_ (fun _ => ?_))
      | exact ih0 _ _ _
      | exact LeO.none _
      | refine LeO.ite ?_ ?_
      | refine LeO.bind ?_ (fun _ => ?_)
set_option maxHeartbeats 8000000 in
set_option maxRecDepth 100000 in
theorem laws_hasInt.calls (k : Nat) (A0 : Option Addr) (c0 : Nat) (l0 : List Int) (a1 : Int) (r : Bool) (w : World) (hr0 : Kd.C (Kd.int .i64) w A0 l0.length l0) (hc0 : l0.length ≤ c0) (h : laws_hasInt.f k l0 a1 = some r) :
    Calls Tryd.prog 14 #[.slice A0 l0.length c0, .int .i64 a1] w fun e w' => e = .returned (.bool r) ∧ Drawn0 w w' := by
  have HR0 := Aside0.mk hr0
  have HC0 := Aside0.mk hc0
  clear hr0 hc0
  have H : (laws_hasInt.l0 k l0 a1 0) = some r := h
  clear h
  have H' := Aside0.mk H
  clear H
  go_enter Tryd.func14, Tryd.ntmps14
  go_wp2
  go_loopg [5] k (fun kq v5 w' => ∃ (x5_1 : Int), v5 = .int .i64 x5_1 ∧ Aside0 (laws_hasInt.l0 kq l0 a1 x5_1 = some r) ∧ Aside0 (kq ≤ k) ∧ Drawn0 w w')
  case atStart => exact ⟨(0), (by first | rfl | (simp; done) | (simp [*]; done)), H', ⟨Nat.le_refl _⟩, by repeat (first | exact Drawn0.refl _ | apply Drawn0.step)⟩
  case round =>
    clear H'
    try clear c1
    try clear p2
    obtain ⟨x5_1, rfl, HA, HK1, ⟨m1, rfl⟩⟩ := hrel
    cases gk with
    | zero => exact absurd HA.out (by simp [laws_hasInt.l0])
    | succ k1 =>
      have H := HA.out
      clear HA
      simp only [laws_hasInt.l0] at H
      by_cases c3 : x5_1 < (l0.length : Int)
      · rw [if_pos c3] at H
        have c3b0 : decide (x5_1 < (l0.length : Int)) = true := decide_eq_true c3
        clear c3
        by_cases c4 : 0 ≤ x5_1
        · rw [if_pos c4] at H
          have c4b0 : decide (0 ≤ x5_1) = true := decide_eq_true c4
          clear c4
          by_cases c5 : (rd l0 x5_1) = a1
          · rw [if_pos c5] at H
            have c5b0 : ((rd l0 x5_1) == a1) = true := beq_iff_eq.mpr c5
            have c5b1 : ((rd l0 x5_1) != a1) = false := bne_eq_false_iff_eq.mpr c5
            clear c5
            obtain rfl := Option.some.inj H
            have p187 : 0 ≤ (x5_1 : Int) := of_decide_eq_true (by first | (with_reducible assumption) | assumption)
            have q187 : x5_1 < (l0.length : Int) := of_decide_eq_true (by first | (with_reducible assumption) | assumption)
            obtain ⟨ad187, e187, hx187_0⟩ := Kd.at_int HR0.out x5_1 p187 q187
            cases e187
            replace p187 := eq_true p187
            replace q187 := eq_true q187
            go_wp2
            go_ret
            exact ⟨by first | rfl | (simp; done) | (simp [*]; done), by repeat (first | exact Drawn0.refl _ | apply Drawn0.step)⟩
          · rw [if_neg c5] at H
            have c5b0 : ((rd l0 x5_1) == a1) = false := beq_eq_false_iff_ne.mpr c5
            have c5b1 : ((rd l0 x5_1) != a1) = true := bne_iff_ne.mpr c5
            have H' := Aside0.mk H
            clear H
            have p187 : 0 ≤ (x5_1 : Int) := of_decide_eq_true (by first | (with_reducible assumption) | assumption)
            have q187 : x5_1 < (l0.length : Int) := of_decide_eq_true (by first | (with_reducible assumption) | assumption)
            obtain ⟨ad187, e187, hx187_0⟩ := Kd.at_int HR0.out x5_1 p187 q187
            cases e187
            replace p187 := eq_true p187
            replace q187 := eq_true q187
            go_wp2
            go_roundg k1
            case measure => have := HK1.out; omega
            case rel => exact ⟨(wrap64 (x5_1 + 1)), (by first | rfl | (simp; done) | (simp [*]; done)), H', ⟨by have := HK1.out; omega⟩, by repeat (first | exact Drawn0.refl _ | apply Drawn0.step)⟩
        · rw [if_neg c4] at H
          exact absurd H (by simp)
      · rw [if_neg c3] at H
        have c3b0 : decide (x5_1 < (l0.length : Int)) = false := decide_eq_false c3
        clear c3
        obtain rfl := Option.some.inj H
        go_wp2
        go_ret
        exact ⟨by first | rfl | (simp; done) | (simp [*]; done), by repeat (first | exact Drawn0.refl _ | apply Drawn0.step)⟩

-- NOT PRINTED: function 116 (slices_IndexFunc_int64_int64_116)

-- NOT PRINTED: function 80 (slices_ContainsFunc_int64_int64_80)

/-! ### impl_isAssignment: function 49 -/
set_option maxHeartbeats 1000000 in
/-- slices.IndexFunc, at elements of one cell: where the first element is at which the function value answers true, or -1. -/
theorem idxL {α : Type} (d : Kd α) (hd : d.sz = 1) (z : α) (p : α → Bool) (g : Nat) (lb : Array Value) (eg : ∀ args w, (callFunc g args).run Tryd.prog w = .ok (.enter g args) w) (A : Option Addr) (c : Nat) (xs : List α) (w : World) (hr : Kd.C d w A xs.length xs)
    (hp : ∀ (W : World) (x : α) (u : Value), x ∈ xs → Below w.heap.size w W → d.K W x [u] → Calls Tryd.prog g (#[u] ++ lb) W fun e w' => e = .returned (.bool (p x)) ∧ Below W.heap.size W w') :
    Calls Tryd.prog 116 #[.slice A xs.length c, .func (.func g) #[] lb] w fun e w' => (∃ i : Int, e = .returned (.int .i64 i) ∧ decide (0 ≤ i) = xs.any p) ∧ Below w.heap.size w w' := by
  have HR := Aside0.mk hr
  have hm : xs.length ≤ 9223372036854775807 := hr.2.1
  have HP := Aside0.mk hp
  clear hr hp
  go_enter Tryd.func116, Tryd.ntmps116
  go_wp2
  go_loopg [5, 8] (xs.length) (fun gg _ s8 wr => ∃ kk : Nat, kk ≤ xs.length ∧ xs.length - kk ≤ gg ∧ s8 = .int .i64 kk ∧ Aside0 (Below w.heap.size w wr) ∧ Aside0 ((xs.take kk).any p = false))
  case atStart => exact ⟨0, Nat.zero_le _, by omega, rfl, ⟨Below.refl _ _⟩, ⟨by simp⟩⟩
  case round =>
    obtain ⟨kk, hkk, hg, rfl, HB, HA⟩ := hrel
    by_cases hlt : kk < xs.length
    · have hltz : (kk : Int) < (xs.length : Int) := by omega
      obtain ⟨ad, cs, e, hcl, hK, hcell⟩ := Kd.C_get HR.out z kk (by omega) hltz
      cases e
      rw [hd] at hcl hcell
      obtain ⟨u, rfl⟩ : ∃ u, cs = [u] := by
        match cs, hcl with
        | [u], _ => exact ⟨u, rfl⟩
      have hu := hcell 0 u rfl
      simp only [Int.toNat_natCast, Nat.mul_one, Nat.add_zero] at hu hK
      replace hu := pw_cell_below HB.out hu
      have hone := d.K_one hK u (List.mem_singleton.2 rfl)
      have hmem : xs.getD kk z ∈ xs := by
        rw [List.getD_eq_getElem?_getD, List.getElem?_eq_getElem hlt]
        exact List.getElem_mem hlt
      have hcall := HP.out wr (xs.getD kk z) u hmem HB.out (d.K_below HB.out hK)
      have htk : xs.take (kk + 1) = xs.take kk ++ [xs.getD kk z] := by
        rw [List.getD_eq_getElem?_getD, List.getElem?_eq_getElem hlt, List.take_succ_eq_append_getElem hlt]
        rfl
      have HT := Aside0.mk htk
      clear hK hcell hmem htk
      cases hq : p (xs.getD kk z) with
      | true =>
        rw [hq] at hcall
        have HQ := Aside0.mk hq
        clear hq
        have HC := Aside0.mk hcall
        clear hcall
        go_wp2_with ((with_reducible refine HC.out.mono ?_); rintro e w' ⟨rfl, hb⟩; have n0 := Aside0.mk (below_step HB.out hb); clear hb; clear HB; have HB := n0; clear n0)
        go_ret
        refine ⟨⟨kk, rfl, ?_⟩, HB.out⟩
        have h1 : (xs.take (kk + 1)).any p = true := by rw [HT.out, List.any_append, List.any_cons, HQ.out]; simp
        have h2 : xs.any p = true := by
          rw [← List.take_append_drop (kk + 1) xs, List.any_append, h1]; rfl
        rw [h2]
        exact decide_eq_true (by omega)
      | false =>
        rw [hq] at hcall
        have HQ := Aside0.mk hq
        clear hq
        have HC := Aside0.mk hcall
        clear hcall
        go_wp2_with ((with_reducible refine HC.out.mono ?_); rintro e w' ⟨rfl, hb⟩; have n0 := Aside0.mk (below_step HB.out hb); clear hb; clear HB; have HB := n0; clear n0)
        go_roundg (xs.length - (kk + 1))
        case measure => omega
        case rel => exact ⟨kk + 1, by omega, by omega, by go_num, HB, ⟨by rw [HT.out, List.any_append, HA.out, List.any_cons, HQ.out]; rfl⟩⟩
    · have hltz : ¬ (kk : Int) < (xs.length : Int) := by omega
      obtain rfl : kk = xs.length := by omega
      go_wp2
      go_ret
      refine ⟨⟨-1, rfl, ?_⟩, HB.out⟩
      have := HA.out
      rw [List.take_of_length_le (Nat.le_refl _)] at this
      rw [this]
      rfl
set_option maxHeartbeats 1000000 in
/-- slices.ContainsFunc. -/
theorem hasL {α : Type} (d : Kd α) (hd : d.sz = 1) (z : α) (p : α → Bool) (g : Nat) (lb : Array Value) (eg : ∀ args w, (callFunc g args).run Tryd.prog w = .ok (.enter g args) w) (A : Option Addr) (c : Nat) (xs : List α) (w : World) (hr : Kd.C d w A xs.length xs)
    (hp : ∀ (W : World) (x : α) (u : Value), x ∈ xs → Below w.heap.size w W → d.K W x [u] → Calls Tryd.prog g (#[u] ++ lb) W fun e w' => e = .returned (.bool (p x)) ∧ Below W.heap.size W w') :
    Calls Tryd.prog 80 #[.slice A xs.length c, .func (.func g) #[] lb] w fun e w' => e = .returned (.bool (xs.any p)) ∧ Below w.heap.size w w' := by
  have hc := idxL d hd z p g lb eg A c xs w hr hp
  clear hr hp
  go_enter Tryd.func80, Tryd.ntmps80
  go_wp2_with (go_at_call 116; (with_reducible refine hc.mono ?_); rintro e w' ⟨⟨i, rfl, hi⟩, hb⟩; have HI := Aside0.mk hi; have HB := Aside0.mk hb; clear hi hb)
  go_ret
  exact ⟨by rw [← HI.out]; rfl, HB.out⟩

def badValue (n : Int) : Bool := !decide (-1 ≤ n ∧ n ≤ 1)
def isAssignmentB (l : List Int) (v : Int) : Bool := decide ((l.length : Int) = v) && !(l.any badValue)
def impl_isAssignment.f (l0 : List Int) (a1 : Int) : Option Bool := some (isAssignmentB l0 a1)
theorem impl_isAssignment1 (n : Int) (w : World) :
    Calls Tryd.prog 81 (#[.int .i64 n] ++ #[]) w fun e w' => e = .returned (.bool (badValue n)) ∧ Below w.heap.size w w' := by
  have hc := fun (W : World) => impl_within.calls n (-1) 1 _ W rfl
  unfold badValue
  cases hq : decide (-1 ≤ n ∧ n ≤ 1) with
  | true =>
    rw [hq] at hc
    clear hq
    go_enter Tryd.func81, Tryd.ntmps81
    go_wp2_with ((with_reducible refine (hc _).mono ?_); rintro e w' ⟨rfl, ⟨nd, rfl⟩⟩)
    go_ret
    exact ⟨rfl, pw_below_drewN (Below.refl _ _) _⟩
  | false =>
    rw [hq] at hc
    clear hq
    go_enter Tryd.func81, Tryd.ntmps81
    go_wp2_with ((with_reducible refine (hc _).mono ?_); rintro e w' ⟨rfl, ⟨nd, rfl⟩⟩)
    go_ret
    exact ⟨rfl, pw_below_drewN (Below.refl _ _) _⟩
theorem impl_isAssignment1_enters : ∀ args w, (callFunc 81 args).run Tryd.prog w = .ok (.enter 81 args) w := fun args w => enters_ Tryd.func81 (by kernel_rfl) rfl args w
set_option maxHeartbeats 400000 in
theorem impl_isAssignment.calls (A0 : Option Addr) (c0 : Nat) (l0 : List Int) (a1 : Int) (r : Bool) (w : World) (hr0 : Kd.C (Kd.int .i64) w A0 l0.length l0) (hc0 : l0.length ≤ c0) (h : impl_isAssignment.f l0 a1 = some r) :
    Calls Tryd.prog 49 #[.slice A0 l0.length c0, .int .i64 a1] w fun e w' => e = .returned (.bool r) ∧ Below w.heap.size w w' := by
  obtain rfl := Option.some.inj h
  clear h
  have HH := Aside0.mk (hasL (Kd.int .i64) rfl 0 badValue 81 #[] impl_isAssignment1_enters A0 c0 l0 w hr0 (fun W x u _ _ hK => by
    obtain rfl : u = _ := by injection hK
    exact impl_isAssignment1 x W))
  clear hr0 hc0
  by_cases h1 : (l0.length : Int) = a1
  · have h1d : ((l0.length : Int) == a1) = true := by rw [beq_iff_eq]; exact h1
    have HF : Aside0 (isAssignmentB l0 a1 = !(l0.any badValue)) := ⟨by simp [isAssignmentB, h1]⟩
    clear h1
    go_enter Tryd.func49, Tryd.ntmps49
    go_wp2_with ((with_reducible refine HH.out.mono ?_); rintro e w' ⟨rfl, hb⟩; have HB := Aside0.mk hb; clear hb)
    go_ret
    exact ⟨by rw [HF.out]; rfl, HB.out⟩
  · have h1d : ((l0.length : Int) == a1) = false := by rw [beq_eq_false_iff_ne]; exact h1
    have HF : Aside0 (isAssignmentB l0 a1 = false) := ⟨by simp [isAssignmentB, h1]⟩
    clear h1
    go_enter Tryd.func49, Tryd.ntmps49
    go_wp2
    go_ret
    exact ⟨by rw [HF.out]; rfl, Below.refl _ _⟩

end Go.Proofs.YtmchbkjjpeiedaaDoor.DFnCoverFormulas
