/- The law FnCoverFormulas in plain terms, third part: the search ends; an assignment satisfies the formula just if its rows are a solution. -/
import Derived.Test.YtmchbkjjpeiedaaDoorPureFnCoverFormulasB
namespace Go.Proofs.YtmchbkjjpeiedaaDoor.DFnCoverFormulas
open Go.RowKit Go.Proofs.YtmchbkjjpeiedaaDoorW.PrintWords Go.Proofs.YtmchbkjjpeiedaaDoorW.PrintLast Go.Proofs.YtmchbkjjpeiedaaDoorW.PrintMore Go.Proofs.YtmchbkjjpeiedaaDoorH
set_option linter.unusedVariables false
set_option linter.unusedSimpArgs false
/-! ### The search ends -/
theorem loopF_total {F : Nat → List Int → Int × Bool × Bool × Bool × List Int → Option (Int × Bool × Bool × Bool × List Int)} (cov : Nat) (seq : List Int) (col : Nat) (ms : List Nat) (hF : ∀ m ∈ ms, ¬ (m >>> col % 2 = 0 ∨ m &&& cov ≠ 0) → ∀ seq s, ∃ r, F (cov ||| m) seq s = some r) : ∀ i s, ∃ r, loopF F cov seq col i ms s = some r := by
  induction ms with
  | nil => intro i s; exact ⟨s, rfl⟩
  | cons m ms ih =>
    intro i s
    have ih := ih (fun m' hm => hF m' (List.mem_cons_of_mem _ hm))
    unfold loopF
    by_cases c : m >>> col % 2 = 0 ∨ m &&& cov ≠ 0
    · rw [if_pos c]
      exact ih (i + 1) s
    · rw [if_neg c]
      obtain ⟨r, hr⟩ := hF m (List.mem_cons_self ..) c (seq ++ [(i : Int)]) s
      rw [hr]
      simp only []
      split
      · exact ⟨r, rfl⟩
      · exact ih (i + 1) r
theorem fromF_total (ms : List Nat) (rq : Nat) (hms : ∀ m ∈ ms, m < 18446744073709551616) : ∀ (k cov : Nat), cov < 18446744073709551616 → 18446744073709551616 ≤ cov + k → ∀ seq s, ∃ r, fromF ms rq k cov seq s = some r := by
  intro k
  induction k with
  | zero => intro cov h1 h2; omega
  | succ k ih =>
    intro cov h1 h2 seq s
    obtain ⟨n, en, br, fo, out⟩ := s
    unfold fromF
    split
    · exact ⟨_, rfl⟩
    · split
      · exact ⟨_, rfl⟩
      · refine loopF_total cov seq _ ms (fun m hm hc seq s => ?_) 0 _
        simp only [not_or, ne_eq, Decidable.not_not] at hc
        have h3 : m ≠ 0 := fun e => by rw [e] at hc; simp at hc
        have h4 : cov ||| m < 2 ^ 64 := Nat.or_lt_two_pow (by omega) (by have := hms m hm; omega)
        have h5 : cov ≤ cov ||| m := Nat.left_le_or
        have h6 : cov ||| m ≠ cov := fun e => by
          have h7 : m &&& (cov ||| m) = m &&& cov := by rw [e]
          rw [hc.2, Nat.and_or_distrib_left, hc.2, Nat.and_self] at h7
          simp at h7
          exact h3 h7
        exact ih (cov ||| m) (by omega) (by omega) seq s
theorem first_some (a b : Int) (rows : List (List Int)) : ∃ r1 r2, impl_FirstCover.f a b rows = some (r1, r2) := by
  unfold impl_FirstCover.f
  split
  · obtain ⟨r, hr⟩ := fromF_total (rows.map maskN) (rqOf b).toNat (masks_small rows) 18446744073709551617 0 (by omega) (by omega) [] (0, false, false, false, [])
    rw [hr]
    simp only [Option.map_some]
    split
    · exact ⟨_, _, rfl⟩
    · split
      · exact ⟨_, _, rfl⟩
      · exact ⟨_, _, rfl⟩
  · exact ⟨_, _, rfl⟩
/-! ### The selection of an assignment -/
def ones : Nat → List Int → List Int
  | _, [] => []
  | i, v :: r => if v = 1 then (i : Int) :: ones (i + 1) r else ones (i + 1) r
theorem sel_ev (vs : List Int) (hn : vs.length ≤ 400) (r : List Int) : ∀ (i : Nat) (acc : List Int), vs.drop i = r → i ≤ vs.length → acc.length ≤ i → Ev (fun k => impl_SelectionOf.l0 k acc vs (vs.length : Int) (i : Int)) (acc ++ ones i r, 0) := by
  induction r with
  | nil =>
    intro i acc h hi ha
    have := drop_nil h
    refine Ev.step (f := fun _ => some (acc, 0)) (fun k => ?_) (by simpa [ones] using Ev.now (acc, (0 : Int)))
    simp only [impl_SelectionOf.l0]
    rw [if_neg (by omega)]
  | cons y r ih =>
    intro i acc h hi ha
    obtain ⟨hi, hy, hd⟩ := drop_facts h
    unfold ones
    by_cases c : y = 1
    · rw [if_pos c]
      have := ih (i + 1) (acc ++ [(i : Int)]) hd (by omega) (by simp; omega)
      rw [List.append_assoc] at this
      refine Ev.step (f := fun k => impl_SelectionOf.l0 k (acc ++ [(i : Int)]) vs (vs.length : Int) ((i + 1 : Nat) : Int)) (fun k => ?_) this
      simp only [impl_SelectionOf.l0]
      rw [if_pos (by omega), if_pos (by omega), if_pos (by omega), rd_at _ _ hi, hy, if_pos c, if_pos (by omega), w_succ i (by omega)]
    · rw [if_neg c]
      refine Ev.step (f := fun k => impl_SelectionOf.l0 k acc vs (vs.length : Int) ((i + 1 : Nat) : Int)) (fun k => ?_) (ih (i + 1) acc hd (by omega) (by omega))
      simp only [impl_SelectionOf.l0]
      rw [if_pos (by omega), if_pos (by omega), if_pos (by omega), rd_at _ _ hi, hy, if_neg c, w_succ i (by omega)]
theorem assign_true (vs : List Int) (n : Int) (hn : (vs.length : Int) = n) (h : ∀ x ∈ vs, x = 0 ∨ x = 1) : isAssignmentB vs n = true := by
  unfold isAssignmentB
  rw [decide_eq_true hn, Bool.true_and, Bool.not_eq_true', List.any_eq_false]
  intro x hx
  unfold badValue
  rcases h x hx with rfl | rfl <;> decide
theorem selF_ev (vs : List Int) (hn : vs.length ≤ 100) (h : ∀ x ∈ vs, x = 0 ∨ x = 1) : Ev (fun k => impl_SelectionOf.f k vs) (ones 0 vs, 0) := by
  have h1 := sel_ev vs (by omega) vs 0 [] rfl (by omega) (by simp)
  refine Ev.congr (f := fun k => impl_SelectionOf.j0 k vs false) (fun k => ?_) (Ev.step (f := fun k => impl_SelectionOf.l0 k [] vs (vs.length : Int) ((0 : Nat) : Int)) (fun k => ?_) (by simpa using h1))
  · unfold impl_SelectionOf.f impl_isAssignment.f
    rw [if_neg (by omega), assign_true vs _ rfl h]
    rfl
  · simp only [impl_SelectionOf.j0, Bool.false_eq_true, if_false]
    rfl
theorem ones_mem (r : List Int) : ∀ (i : Nat) (x : Int), x ∈ ones i r ↔ ∃ j : Nat, ∃ hj : j < r.length, x = ((i + j : Nat) : Int) ∧ r[j] = 1 := by
  induction r with
  | nil => intro i x; simp [ones]
  | cons v r ih =>
    intro i x
    have key : x ∈ ones (i + 1) r ↔ ∃ j : Nat, ∃ hj : j + 1 < (v :: r).length, x = ((i + (j + 1) : Nat) : Int) ∧ (v :: r)[j + 1] = 1 := by
      rw [ih (i + 1) x]
      constructor
      · rintro ⟨j, hj, rfl, h⟩
        exact ⟨j, by simp; omega, by omega, by simpa using h⟩
      · rintro ⟨j, hj, rfl, h⟩
        exact ⟨j, by simp at hj; omega, by omega, by simpa using h⟩
    unfold ones
    constructor
    · intro h
      split at h
      · rename_i hv
        rcases List.mem_cons.1 h with rfl | h
        · exact ⟨0, by simp, by omega, by simpa using hv⟩
        · obtain ⟨j, hj, h1, h2⟩ := key.1 h
          exact ⟨j + 1, hj, h1, h2⟩
      · obtain ⟨j, hj, h1, h2⟩ := key.1 h
        exact ⟨j + 1, hj, h1, h2⟩
    · rintro ⟨j, hj, h1, h2⟩
      cases j with
      | zero =>
        have hv : v = 1 := by simpa using h2
        rw [if_pos hv, h1]
        exact List.mem_cons_self ..
      | succ j =>
        have := key.2 ⟨j, hj, h1, h2⟩
        split
        · exact List.mem_cons_of_mem _ this
        · exact this
theorem ones_sorted (r : List Int) : ∀ i : Nat, (ones i r).Pairwise (· < ·) := by
  induction r with
  | nil => intro i; simp [ones]
  | cons v r ih =>
    intro i
    unfold ones
    split
    · refine List.pairwise_cons.2 ⟨fun x hx => ?_, ih (i + 1)⟩
      obtain ⟨j, hj, rfl, _⟩ := (ones_mem r (i + 1) x).1 hx
      omega
    · exact ih (i + 1)
theorem ones_length (r : List Int) : ∀ i : Nat, (ones i r).length ≤ r.length := by
  induction r with
  | nil => intro i; simp [ones]
  | cons v r ih =>
    intro i
    have := ih (i + 1)
    unfold ones
    split <;> simp <;> omega
theorem rises_back (l : List Int) (m : Int) (hp : l.Pairwise (· < ·)) (hm : ∀ x ∈ l, 0 ≤ x ∧ x ≤ m) : (List.range l.length).all (risesAt l m) = true := by
  rw [List.all_eq_true]
  intro i hi
  have hi := List.mem_range.1 hi
  unfold risesAt
  rw [rd_at l i hi, Bool.and_eq_true, Bool.not_eq_true', Bool.and_eq_false_iff, decide_eq_true_eq, decide_eq_false_iff_not, decide_eq_false_iff_not]
  refine ⟨hm _ (List.getElem_mem hi), ?_⟩
  by_cases h0 : 0 < i
  · right
    rw [show ((i : Int) - 1) = ((i - 1 : Nat) : Int) by omega, rd_at l (i - 1) (by omega)]
    have := (List.pairwise_iff_getElem.1 hp) (i - 1) i (by omega) hi (by omega)
    omega
  · left; exact h0
/-! ### Satisfied -/
def litTrue (vs : List Int) (x : Int) : Bool := if x < 0 then decide (rd vs (-x - 1) = 0) else decide (rd vs (x - 1) = 1)
theorem state_of (vs : List Int) (hn : vs.length ≤ 100) (h : ∀ x ∈ vs, x = 0 ∨ x = 1) (x : Int) (hx : x ≠ 0) (hx1 : -(vs.length : Int) ≤ x) (hx2 : x ≤ vs.length) : ∃ s : Int, impl_state.f vs x = some s ∧ (s = 0 ∨ s = 1) ∧ (s = 1 ↔ litTrue vs x = true) := by
  unfold impl_state.f impl_variableOf.f litTrue
  simp only [Option.bind_some]
  have w1 : wrap64 (-x) = -x := by unfold wrap64; omega
  rw [w1]
  by_cases hneg : x < 0
  · have e : mx x (-x) = -x := by unfold mx; rw [if_pos (by omega)]
    have w2 : wrap64 (-x - 1) = -x - 1 := by unfold wrap64; omega
    obtain ⟨j, hj⟩ : ∃ j : Nat, -x - 1 = j := ⟨(-x - 1).toNat, by omega⟩
    have hjl : j < vs.length := by omega
    rw [e, w2, hj, rd_at vs j hjl, if_pos (by omega), if_pos (by omega)]
    have h01 := h _ (List.getElem_mem hjl)
    have w3 : wrap64 (1 - vs[j]) = 1 - vs[j] := by unfold wrap64; omega
    rw [if_pos (by omega), if_pos hneg, if_pos hneg, w3]
    exact ⟨_, rfl, by omega, by rw [decide_eq_true_eq]; omega⟩
  · have e : mx x (-x) = x := by unfold mx; rw [if_neg (by omega)]
    have w2 : wrap64 (x - 1) = x - 1 := by unfold wrap64; omega
    obtain ⟨j, hj⟩ : ∃ j : Nat, x - 1 = j := ⟨(x - 1).toNat, by omega⟩
    have hjl : j < vs.length := by omega
    rw [e, w2, hj, rd_at vs j hjl, if_pos (by omega), if_pos (by omega)]
    have h01 := h _ (List.getElem_mem hjl)
    rw [if_pos (by omega), if_neg hneg, if_neg hneg]
    exact ⟨_, rfl, h01, by rw [decide_eq_true_eq]⟩
theorem weigh_ev (vs : List Int) (hn : vs.length ≤ 100) (h : ∀ x ∈ vs, x = 0 ∨ x = 1) (c : List Int) (hc : ∀ x ∈ c, x ≠ 0 ∧ -(vs.length : Int) ≤ x ∧ x ≤ vs.length) (hl : c.length ≤ 1000000) (r : List Int) : ∀ i : Nat, c.drop i = r → i ≤ c.length → Ev (fun k => impl_weigh.l0 k vs 0 0 c (c.length : Int) (i : Int)) (r.any (litTrue vs), 0, 0) := by
  induction r with
  | nil =>
    intro i h1 hi
    have := drop_nil h1
    refine Ev.step (f := fun _ => some (false, 0, 0)) (fun k => ?_) (Ev.now _)
    simp only [impl_weigh.l0]
    rw [if_neg (by omega)]
  | cons y r ih =>
    intro i h1 hi
    obtain ⟨hi, hy, hd⟩ := drop_facts h1
    have hcy := hc y (hy ▸ List.getElem_mem hi)
    obtain ⟨s, hs, hs01, hst⟩ := state_of vs hn h y hcy.1 hcy.2.1 hcy.2.2
    rw [List.any_cons]
    by_cases c1 : s = 1
    · rw [hst.1 c1, Bool.true_or]
      refine Ev.step (f := fun _ => some (true, 0, 0)) (fun k => ?_) (Ev.now _)
      simp only [impl_weigh.l0]
      rw [if_pos (by omega), if_pos (by omega), if_pos (by omega), rd_at _ _ hi, hy, hs]
      simp only [Option.bind_some]
      rw [if_pos c1]
    · have hf : litTrue vs y = false := by
        cases hq : litTrue vs y with
        | false => rfl
        | true => exact absurd (hst.2 hq) c1
      rw [hf, Bool.false_or]
      refine Ev.step (f := fun k => impl_weigh.l0 k vs 0 0 c (c.length : Int) ((i + 1 : Nat) : Int)) (fun k => ?_) (ih (i + 1) hd (by omega))
      simp only [impl_weigh.l0]
      rw [if_pos (by omega), if_pos (by omega), if_pos (by omega), rd_at _ _ hi, hy, hs]
      simp only [Option.bind_some]
      rw [if_neg c1, if_neg (by omega), w_succ i (by omega)]
theorem sat_ev (vs : List Int) (hn : vs.length ≤ 100) (h : ∀ x ∈ vs, x = 0 ∨ x = 1) (cs : List (List Int)) (hc : ∀ c ∈ cs, c.length ≤ 1000000 ∧ ∀ x ∈ c, x ≠ 0 ∧ -(vs.length : Int) ≤ x ∧ x ≤ vs.length) (hl : cs.length ≤ 1000000) (r : List (List Int)) : ∀ i : Nat, cs.drop i = r → i ≤ cs.length → Ev (fun k => impl_Satisfies.l0 k vs cs (cs.length : Int) (i : Int)) (r.all fun c => c.any (litTrue vs)) := by
  induction r with
  | nil =>
    intro i h1 hi
    have := drop_nil h1
    refine Ev.step (f := fun _ => some true) (fun k => ?_) (Ev.now _)
    simp only [impl_Satisfies.l0]
    rw [if_neg (by omega)]
  | cons y r ih =>
    intro i h1 hi
    obtain ⟨hi, hy, hd⟩ := drop_facts h1
    have hcy := hc y (hy ▸ List.getElem_mem hi)
    have hw : Ev (fun k => impl_weigh.f k vs y) (y.any (litTrue vs), 0, 0) := weigh_ev vs hn h y hcy.2 hcy.1 y 0 rfl (by omega)
    refine Ev.step (f := fun k => (impl_weigh.f k vs y).bind fun bt204 => if bt204.1 = true then impl_Satisfies.l0 k vs cs (cs.length : Int) ((i + 1 : Nat) : Int) else some false) (fun k => ?_) (Ev.bind hw ?_)
    · simp only [impl_Satisfies.l0]
      rw [if_pos (by omega), if_pos (by omega), if_pos (by omega), rd3_at _ _ hi, hy, w_succ i (by omega)]
    · rw [List.all_cons]
      cases hq : y.any (litTrue vs) with
      | true => simpa using ih (i + 1) hd (by omega)
      | false => simpa using Ev.now false
theorem clause_ok (v : Int) (hv : v ≤ 400) (c : Int) (rs : List (List Int)) : ∀ (i : Nat) (last : Int), last ≤ i → 0 ≤ last → (i : Int) + rs.length ≤ v → clauseB v last ((idxFrom c i rs).map (· + 1)) = true := by
  induction rs with
  | nil => intro i last h1 h2 h3; simp [idxFrom, clauseB]
  | cons r rs ih =>
    intro i last h1 h0 h2
    simp only [List.length_cons] at h2
    unfold idxFrom
    split
    · have w1 : wrap64 (-v) = -v := by unfold wrap64; omega
      have w2 : wrap64 (-((i : Int) + 1)) = -((i : Int) + 1) := by unfold wrap64; omega
      have e : mx ((i : Int) + 1) (-((i : Int) + 1)) = (i : Int) + 1 := by unfold mx; rw [if_neg (by omega)]
      simp only [List.map_cons, clauseB]
      rw [w1, w2, e, decide_eq_true (by omega), decide_eq_false (by omega), ih (i + 1) ((i : Int) + 1) (by omega) (by omega) (by omega)]
      rfl
    · exact ih (i + 1) last (by omega) h0 (by omega)
theorem pair_ok (v : Int) (hv : v ≤ 400) (j m : Nat) (h1 : j < m) (h2 : (m : Int) < v) : clauseB v 0 [-(j : Int) - 1, -(m : Int) - 1] = true := by
  have w1 : wrap64 (-v) = -v := by unfold wrap64; omega
  have w2 : wrap64 (-(-(j : Int) - 1)) = (j : Int) + 1 := by unfold wrap64; omega
  have w3 : wrap64 (-(-(m : Int) - 1)) = (m : Int) + 1 := by unfold wrap64; omega
  have e1 : mx (-(j : Int) - 1) ((j : Int) + 1) = (j : Int) + 1 := by unfold mx; rw [if_pos (by omega)]
  have e2 : mx (-(m : Int) - 1) ((m : Int) + 1) = (m : Int) + 1 := by unfold mx; rw [if_pos (by omega)]
  simp only [clauseB, w1, w2, w3, e1, e2, Bool.and_true, Bool.and_eq_true, Bool.not_eq_true', decide_eq_true_eq, decide_eq_false_iff_not]
  omega
/-! ### Counts -/
/-- How often column c is in the rows of a selection. -/
def cntOf (rows : List (List Int)) (sl : List Int) (c : Nat) : Nat := sl.countP fun s => (rows.getD s.toNat []).contains (c : Int)
theorem cnt1_ev (a b : Int) (rows : List (List Int)) (sl : List Int) (n : Int) (i : Int) (r : List Int) (hr : r.length ≤ 60) (q : List Int) (t : List Int) : ∀ (j : Nat) (out : List Int), r.drop j = t → j ≤ r.length → (∀ x ∈ t, 0 ≤ x ∧ x < out.length) →
    Ev (fun k => impl_Cover_counts.l0 k (t.foldl (fun o x => o.set x.toNat (wrap64 (rd o x + 1))) out) sl n (wrap64 (i + 1)) a b rows) q → Ev (fun k => impl_Cover_counts.l1 k out sl n i r (r.length : Int) (j : Int) a b rows) q := by
  induction t with
  | nil =>
    intro j out h hj hx hq
    have := drop_nil h
    refine Ev.step (f := fun k => impl_Cover_counts.l0 k out sl n (wrap64 (i + 1)) a b rows) (fun k => ?_) (by simpa using hq)
    simp only [impl_Cover_counts.l1]
    rw [if_neg (by omega)]
  | cons y t ih =>
    intro j out h hj hx hq
    obtain ⟨hj, hy, hd⟩ := drop_facts h
    have hb := hx y (List.mem_cons_self ..)
    refine Ev.step (f := fun k => impl_Cover_counts.l1 k (out.set y.toNat (wrap64 (rd out y + 1))) sl n i r (r.length : Int) ((j + 1 : Nat) : Int) a b rows) (fun k => ?_) (ih (j + 1) _ hd (by omega) (fun x hx2 => by rw [List.length_set]; exact hx x (List.mem_cons_of_mem _ hx2)) (by simpa using hq))
    simp only [impl_Cover_counts.l1]
    rw [if_pos (by omega), if_pos (by omega), if_pos (by omega), rd_at _ _ hj, hy, if_pos hb.1, if_pos hb.2, w_succ j (by omega)]
theorem fold_at (t : List Int) (hp : t.Pairwise (· < ·)) : ∀ (out : List Int) (c : Nat), (∀ x ∈ t, 0 ≤ x ∧ x < out.length) → c < out.length → (0 ≤ out.getD c 0 ∧ out.getD c 0 ≤ 1000000) →
    (t.foldl (fun o x => o.set x.toNat (wrap64 (rd o x + 1))) out).getD c 0 = out.getD c 0 + (if t.contains (c : Int) then 1 else 0) ∧ (t.foldl (fun o x => o.set x.toNat (wrap64 (rd o x + 1))) out).length = out.length := by
  induction t with
  | nil => intro out c h1 h2 h3; simp
  | cons y t ih =>
    intro out c h1 h2 h3
    have hb := h1 y (List.mem_cons_self ..)
    obtain ⟨hlt, hp'⟩ := List.pairwise_cons.1 hp
    rw [List.foldl_cons]
    by_cases hc : y = (c : Int)
    · have e1 : rd out y = out.getD c 0 := by rw [hc]; simp [rd]
      have w : wrap64 (rd out y + 1) = out.getD c 0 + 1 := by rw [e1]; unfold wrap64; omega
      have e2 : (out.set y.toNat (wrap64 (rd out y + 1))).getD c 0 = out.getD c 0 + 1 := by
        rw [w, hc, Int.toNat_natCast]
        simp [List.getD_eq_getElem?_getD, List.getElem?_set_self h2]
      have hnot : t.contains (c : Int) = false := by
        cases h : t.contains (c : Int) with
        | false => rfl
        | true => have := hlt _ (List.contains_iff_mem.1 h); omega
      have ht : ∀ (t : List Int), t.contains (c : Int) = false → (∀ x ∈ t, 0 ≤ x) → ∀ o : List Int, (t.foldl (fun o x => o.set x.toNat (wrap64 (rd o x + 1))) o).getD c 0 = o.getD c 0 ∧ (t.foldl (fun o x => o.set x.toNat (wrap64 (rd o x + 1))) o).length = o.length := by
        intro t
        induction t with
        | nil => intro _ _ o; exact ⟨rfl, rfl⟩
        | cons z t ih2 =>
          intro hz hz0 o
          rw [List.contains_cons, Bool.or_eq_false_iff, beq_eq_false_iff_ne] at hz
          rw [List.foldl_cons]
          obtain ⟨g1, g2⟩ := ih2 hz.2 (fun x hx => hz0 x (List.mem_cons_of_mem _ hx)) (o.set z.toNat (wrap64 (rd o z + 1)))
          have := hz0 z (List.mem_cons_self ..)
          have hne : z.toNat ≠ c := by omega
          exact ⟨by rw [g1]; simp [List.getD_eq_getElem?_getD, List.getElem?_set_ne hne], by rw [g2, List.length_set]⟩
      obtain ⟨g1, g2⟩ := ht t hnot (fun x hx => (h1 x (List.mem_cons_of_mem _ hx)).1) (out.set y.toNat (wrap64 (rd out y + 1)))
      rw [g1, g2, e2, List.length_set]
      simp [List.contains_cons, hc]
    · have hne : y.toNat ≠ c := by omega
      have e2 : (out.set y.toNat (wrap64 (rd out y + 1))).getD c 0 = out.getD c 0 := by
        simp [List.getD_eq_getElem?_getD, List.getElem?_set_ne hne]
      obtain ⟨g1, g2⟩ := ih hp' (out.set y.toNat (wrap64 (rd out y + 1))) c (fun x hx => by rw [List.length_set]; exact h1 x (List.mem_cons_of_mem _ hx)) (by rw [List.length_set]; exact h2) (by rw [e2]; exact h3)
      rw [g1, g2, e2, List.length_set]
      refine ⟨?_, rfl⟩
      have : ((c : Int) == y) = false := beq_eq_false_iff_ne.2 (Ne.symm hc)
      rw [List.contains_cons, this, Bool.false_or]
theorem cnt_ev (a b : Int) (rows : List (List Int)) (ha : 0 ≤ a) (hr : ∀ row ∈ rows, RowOk a row) (sl : List Int) (hs : sl.length ≤ 400) (hsl : ∀ x ∈ sl, 0 ≤ x ∧ x < rows.length) (t : List Int) : ∀ (i : Nat) (out : List Int), sl.drop i = t → i ≤ sl.length → (out.length : Int) = a → (∀ c, c < out.length → 0 ≤ out.getD c 0 ∧ out.getD c 0 ≤ i) →
    ∃ out', Ev (fun k => impl_Cover_counts.l0 k out sl (sl.length : Int) (i : Int) a b rows) out' ∧ out'.length = out.length ∧ ∀ c, c < out.length → out'.getD c 0 = out.getD c 0 + (cntOf rows t c : Int) := by
  induction t with
  | nil =>
    intro i out h hi ho hb
    have := drop_nil h
    refine ⟨out, Ev.step (f := fun _ => some out) (fun k => ?_) (Ev.now _), rfl, fun c hc => by simp [cntOf]⟩
    simp only [impl_Cover_counts.l0]
    rw [if_neg (by omega)]
  | cons s t ih =>
    intro i out h hi ho hb
    obtain ⟨hi, hy, hd⟩ := drop_facts h
    have hsb := hsl s (hy ▸ List.getElem_mem hi)
    obtain ⟨sn, hsn⟩ : ∃ sn : Nat, s = sn := ⟨s.toNat, by omega⟩
    have hsn2 : sn < rows.length := by omega
    have hrow : rows.getD s.toNat [] = rows[sn] := by rw [hsn, Int.toNat_natCast, List.getD_eq_getElem?_getD, List.getElem?_eq_getElem hsn2]; rfl
    have hok := hr _ (List.getElem_mem hsn2)
    have hx : ∀ x ∈ rows[sn], 0 ≤ x ∧ x < out.length := fun x hx => by have := hok.2.2.2 x hx; omega
    have hf := fun c (hc : c < out.length) => fold_at rows[sn] hok.2.2.1 out c hx hc (by have := hb c hc; omega)
    have hlen : (rows[sn].foldl (fun o x => o.set x.toNat (wrap64 (rd o x + 1))) out).length = out.length := by
      have : ∀ (t : List Int) (o : List Int), (t.foldl (fun o x => o.set x.toNat (wrap64 (rd o x + 1))) o).length = o.length := by
        intro t
        induction t with
        | nil => intro o; rfl
        | cons z t ih2 => intro o; rw [List.foldl_cons, ih2, List.length_set]
      exact this _ _
    obtain ⟨out', h1, h2, h3⟩ := ih (i + 1) (rows[sn].foldl (fun o x => o.set x.toNat (wrap64 (rd o x + 1))) out) hd (by omega) (by rw [hlen]; exact ho) (fun c hc => by
      rw [hlen] at hc
      rw [(hf c hc).1]
      have := hb c hc
      split <;> omega)
    refine ⟨out', Ev.step (f := fun k => impl_Cover_counts.l1 k out sl (sl.length : Int) (i : Int) rows[sn] (rows[sn].length : Int) ((0 : Nat) : Int) a b rows) (fun k => ?_) ?_, by rw [h2, hlen], fun c hc => ?_⟩
    · simp only [impl_Cover_counts.l0]
      rw [if_pos (by omega), if_pos (by omega), if_pos (by omega), rd_at _ _ hi, hy, if_pos hsb.1, if_pos hsb.2, hsn, rd3_at _ _ hsn2]
      rfl
    · refine cnt1_ev a b rows sl (sl.length : Int) (i : Int) rows[sn] hok.2.1 _ rows[sn] 0 out rfl (by omega) hx ?_
      rw [w_succ i (by omega)]
      exact h1
    · rw [h3 c (by rw [hlen]; exact hc), (hf c hc).1]
      unfold cntOf
      rw [List.countP_cons, hrow]
      split <;> simp <;> omega
def solFrom (b : Int) : Nat → List Int → Bool
  | _, [] => true
  | i, y :: t => decide (y ≤ 1) && !(decide (y = 0) && decide ((i : Int) < b)) && solFrom b (i + 1) t
theorem sol_ev (a b : Int) (rows : List (List Int)) (cn : List Int) (ha : cn.length ≤ 60) (t : List Int) : ∀ i : Nat, cn.drop i = t → i ≤ cn.length → Ev (fun k => impl_IsSolution.l0 k cn (cn.length : Int) (i : Int) a b rows) (solFrom b i t) := by
  induction t with
  | nil =>
    intro i h hi
    have := drop_nil h
    refine Ev.step (f := fun _ => some true) (fun k => ?_) (Ev.now _)
    simp only [impl_IsSolution.l0]
    rw [if_neg (by omega)]
  | cons y t ih =>
    intro i h hi
    obtain ⟨hi, hy, hd⟩ := drop_facts h
    have ih2 := ih (i + 1) hd (by omega)
    unfold solFrom
    by_cases c1 : y > 1
    · rw [decide_eq_false (by omega : ¬ y ≤ 1), Bool.false_and, Bool.false_and]
      refine Ev.step (f := fun _ => some false) (fun k => ?_) (Ev.now _)
      simp only [impl_IsSolution.l0]
      rw [if_pos (by omega), if_pos (by omega), if_pos (by omega), rd_at _ _ hi, hy, if_pos c1]
    · rw [decide_eq_true (by omega : y ≤ 1), Bool.true_and]
      by_cases c2 : y = 0
      · by_cases c3 : (i : Int) < b
        · rw [decide_eq_true c2, decide_eq_true c3]
          refine Ev.step (f := fun _ => some false) (fun k => ?_) (Ev.now _)
          simp only [impl_IsSolution.l0]
          rw [if_pos (by omega), if_pos (by omega), if_pos (by omega), rd_at _ _ hi, hy, if_neg c1, if_pos c2, if_pos c3]
        · rw [decide_eq_false c3, Bool.and_false, Bool.not_false, Bool.true_and]
          refine Ev.step (f := fun k => impl_IsSolution.l0 k cn (cn.length : Int) ((i + 1 : Nat) : Int) a b rows) (fun k => ?_) ih2
          simp only [impl_IsSolution.l0]
          rw [if_pos (by omega), if_pos (by omega), if_pos (by omega), rd_at _ _ hi, hy, if_neg c1, if_pos c2, if_neg c3, w_succ i (by omega)]
      · rw [decide_eq_false c2, Bool.false_and, Bool.not_false, Bool.true_and]
        refine Ev.step (f := fun k => impl_IsSolution.l0 k cn (cn.length : Int) ((i + 1 : Nat) : Int) a b rows) (fun k => ?_) ih2
        simp only [impl_IsSolution.l0]
        rw [if_pos (by omega), if_pos (by omega), if_pos (by omega), rd_at _ _ hi, hy, if_neg c1, if_neg c2, w_succ i (by omega)]
end Go.Proofs.YtmchbkjjpeiedaaDoor.DFnCoverFormulas
