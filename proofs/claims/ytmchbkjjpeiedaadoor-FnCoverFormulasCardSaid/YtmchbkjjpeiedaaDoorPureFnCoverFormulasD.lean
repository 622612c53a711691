/- The law FnCoverFormulas in plain terms, fourth part: an assignment satisfies the formula of an instance just if its rows are a solution. -/
import Derived.Test.YtmchbkjjpeiedaaDoorPureFnCoverFormulasC
namespace Go.Proofs.YtmchbkjjpeiedaaDoor.DFnCoverFormulas
open Go.RowKit Go.Proofs.YtmchbkjjpeiedaaDoorW.PrintWords Go.Proofs.YtmchbkjjpeiedaaDoorW.PrintLast Go.Proofs.YtmchbkjjpeiedaaDoorW.PrintMore Go.Proofs.YtmchbkjjpeiedaaDoorH
set_option linter.unusedVariables false
set_option linter.unusedSimpArgs false
/-! ### Members -/
theorem idx_iff (c : Int) (rs : List (List Int)) : ∀ (i : Nat) (x : Int), x ∈ idxFrom c i rs ↔ ∃ m : Nat, ∃ hm : m < rs.length, rs[m].contains c = true ∧ x = ((i + m : Nat) : Int) := by
  induction rs with
  | nil => intro i x; simp [idxFrom]
  | cons r rs ih =>
    intro i x
    have key : x ∈ idxFrom c (i + 1) rs ↔ ∃ m : Nat, ∃ hm : m + 1 < (r :: rs).length, (r :: rs)[m + 1].contains c = true ∧ x = ((i + (m + 1) : Nat) : Int) := by
      rw [ih (i + 1) x]
      constructor
      · rintro ⟨m, hm, h, rfl⟩
        exact ⟨m, by simp; omega, by simpa using h, by omega⟩
      · rintro ⟨m, hm, h, rfl⟩
        exact ⟨m, by simp at hm; omega, by simpa using h, by omega⟩
    unfold idxFrom
    constructor
    · intro h
      split at h
      · rename_i hv
        rcases List.mem_cons.1 h with rfl | h
        · exact ⟨0, by simp, by simpa using hv, by omega⟩
        · obtain ⟨m, hm, h1, h2⟩ := key.1 h
          exact ⟨m + 1, hm, h1, h2⟩
      · obtain ⟨m, hm, h1, h2⟩ := key.1 h
        exact ⟨m + 1, hm, h1, h2⟩
    · rintro ⟨m, hm, h1, h2⟩
      cases m with
      | zero =>
        have hv : r.contains c = true := by simpa using h1
        rw [if_pos hv, h2]
        exact List.mem_cons_self ..
      | succ m =>
        have := key.2 ⟨m, hm, h1, h2⟩
        split
        · exact List.mem_cons_of_mem _ this
        · exact this
theorem pairRow_has (i : Nat) (r : List Int) (ss : List (List Int)) : ∀ (j m : Nat) (hm : m < ss.length), r.any ss[m].contains = true → [-(i : Int) - 1, -((j + m : Nat) : Int) - 1] ∈ pairRow i r j ss := by
  induction ss with
  | nil => intro j m hm; simp at hm
  | cons s ss ih =>
    intro j m hm h
    unfold pairRow
    cases m with
    | zero =>
      have h : r.any s.contains = true := by simpa using h
      rw [if_pos h]
      exact List.mem_cons_self ..
    | succ m =>
      have := ih (j + 1) m (by simp at hm; omega) (by simpa using h)
      rw [show j + 1 + m = j + (m + 1) by omega] at this
      split
      · exact List.mem_cons_of_mem _ this
      · exact this
theorem pairRow_over (i : Nat) (r : List Int) (ss : List (List Int)) : ∀ (j : Nat), ∀ c ∈ pairRow i r j ss, ∃ m : Nat, ∃ hm : m < ss.length, r.any ss[m].contains = true ∧ c = [-(i : Int) - 1, -((j + m : Nat) : Int) - 1] := by
  induction ss with
  | nil => intro j c h; simp [pairRow] at h
  | cons s ss ih =>
    intro j c h
    unfold pairRow at h
    have key : c ∈ pairRow i r (j + 1) ss → ∃ m : Nat, ∃ hm : m < (s :: ss).length, r.any (s :: ss)[m].contains = true ∧ c = [-(i : Int) - 1, -((j + m : Nat) : Int) - 1] := by
      intro h
      obtain ⟨m, hm, h1, h2⟩ := ih (j + 1) c h
      exact ⟨m + 1, by simp; omega, by simpa using h1, by rw [h2, show j + 1 + m = j + (m + 1) by omega]⟩
    split at h
    · rename_i hv
      rcases List.mem_cons.1 h with rfl | h
      · exact ⟨0, by simp, by simpa using hv, rfl⟩
      · exact key h
    · exact key h
theorem pairs_has (rs : List (List Int)) : ∀ (i p q : Nat) (hp : p < rs.length) (hq : q < rs.length), p < q → rs[p].any rs[q].contains = true → [-((i + p : Nat) : Int) - 1, -((i + q : Nat) : Int) - 1] ∈ pairsFrom i rs := by
  induction rs with
  | nil => intro i p q hp; simp at hp
  | cons r rs ih =>
    intro i p q hp hq hpq h
    unfold pairsFrom
    obtain ⟨q, rfl⟩ : ∃ m, q = m + 1 := ⟨q - 1, by omega⟩
    cases p with
    | zero =>
      have := pairRow_has i r rs (i + 1) q (by simp at hq; omega) (by simpa using h)
      rw [show i + 1 + q = i + (q + 1) by omega] at this
      exact List.mem_append_left _ this
    | succ p =>
      have := ih (i + 1) p q (by simp at hp; omega) (by simp at hq; omega) (by omega) (by simpa using h)
      rw [show i + 1 + q = i + (q + 1) by omega, show i + 1 + p = i + (p + 1) by omega] at this
      exact List.mem_append_right _ this
theorem pairs_over (rs : List (List Int)) : ∀ (i : Nat), ∀ c ∈ pairsFrom i rs, ∃ p q : Nat, ∃ hp : p < rs.length, ∃ hq : q < rs.length, p < q ∧ rs[p].any rs[q].contains = true ∧ c = [-((i + p : Nat) : Int) - 1, -((i + q : Nat) : Int) - 1] := by
  induction rs with
  | nil => intro i c h; simp [pairsFrom] at h
  | cons r rs ih =>
    intro i c h
    unfold pairsFrom at h
    rcases List.mem_append.1 h with h | h
    · obtain ⟨m, hm, h1, h2⟩ := pairRow_over i r rs (i + 1) c h
      exact ⟨0, m + 1, by simp, by simp; omega, by omega, by simpa using h1, by rw [h2, show i + 1 + m = i + (m + 1) by omega]; rfl⟩
    · obtain ⟨p, q, hp, hq, h0, h1, h2⟩ := ih (i + 1) c h
      exact ⟨p + 1, q + 1, by simp; omega, by simp; omega, by omega, by simpa using h1, by rw [h2, show i + 1 + q = i + (q + 1) by omega, show i + 1 + p = i + (p + 1) by omega]⟩
theorem cols_has (rows : List (List Int)) (n : Nat) : ∀ (c j : Nat), c ≤ j → j < c + n → clauseOf rows (j : Int) ∈ colsFrom rows c n := by
  induction n with
  | zero => intro c j h1 h2; omega
  | succ n ih =>
    intro c j h1 h2
    unfold colsFrom
    by_cases h : j = c
    · rw [h]; exact List.mem_cons_self ..
    · exact List.mem_cons_of_mem _ (ih (c + 1) j (by omega) (by omega))
/-! ### What an assignment says -/
theorem lit_pos (vs : List Int) (j : Nat) (hj : j < vs.length) : litTrue vs ((j : Int) + 1) = true ↔ vs[j] = 1 := by
  unfold litTrue
  rw [if_neg (by omega), show ((j : Int) + 1 - 1) = (j : Int) by omega, rd_at _ _ hj, decide_eq_true_eq]
theorem lit_neg (vs : List Int) (j : Nat) (hj : j < vs.length) : litTrue vs (-(j : Int) - 1) = true ↔ vs[j] = 0 := by
  unfold litTrue
  rw [if_pos (by omega), show (-(-(j : Int) - 1) - 1) = (j : Int) by omega, rd_at _ _ hj, decide_eq_true_eq]
theorem ones_iff (vs : List Int) (x : Int) : x ∈ ones 0 vs ↔ ∃ j : Nat, ∃ hj : j < vs.length, x = (j : Int) ∧ vs[j] = 1 := by
  rw [ones_mem]
  constructor
  · rintro ⟨j, hj, h1, h2⟩; exact ⟨j, hj, by omega, h2⟩
  · rintro ⟨j, hj, h1, h2⟩; exact ⟨j, hj, by omega, h2⟩
theorem getD_row (rows : List (List Int)) (j : Nat) (hj : j < rows.length) : rows.getD (j : Int).toNat [] = rows[j] := by
  rw [Int.toNat_natCast, List.getD_eq_getElem?_getD, List.getElem?_eq_getElem hj]; rfl
theorem col_iff (rows : List (List Int)) (vs : List Int) (hl : vs.length = rows.length) (c : Nat) : (clauseOf rows (c : Int)).any (litTrue vs) = true ↔ 0 < cntOf rows (ones 0 vs) c := by
  unfold cntOf clauseOf
  rw [List.any_eq_true, List.countP_pos_iff]
  constructor
  · rintro ⟨x, hx, h⟩
    obtain ⟨y, hy, rfl⟩ := List.mem_map.1 hx
    obtain ⟨m, hm, h1, rfl⟩ := (idx_iff (c : Int) rows 0 y).1 hy
    rw [Nat.zero_add] at h
    have h2 := (lit_pos vs m (by omega)).1 h
    exact ⟨(m : Int), (ones_iff vs _).2 ⟨m, by omega, rfl, h2⟩, by rw [getD_row rows m hm]; exact h1⟩
  · rintro ⟨x, hx, h⟩
    obtain ⟨j, hj, rfl, h2⟩ := (ones_iff vs x).1 hx
    rw [getD_row rows j (by omega)] at h
    exact ⟨(j : Int) + 1, List.mem_map.2 ⟨(j : Int), (idx_iff (c : Int) rows 0 _).2 ⟨j, by omega, h, by omega⟩, rfl⟩, (lit_pos vs j hj).2 h2⟩
theorem two_of (l : List Int) (hp : l.Pairwise (· < ·)) (p : Int → Bool) (h : 1 < l.countP p) : ∃ x y, x ∈ l ∧ y ∈ l ∧ x < y ∧ p x = true ∧ p y = true := by
  rw [List.countP_eq_length_filter] at h
  have hs : (l.filter p).Pairwise (· < ·) := hp.sublist List.filter_sublist
  match hf : l.filter p, h, hs with
  | x :: y :: r, _, hs =>
    have hx := List.mem_filter.1 (hf ▸ List.mem_cons_self .. : x ∈ l.filter p)
    have hy := List.mem_filter.1 (hf ▸ List.mem_cons_of_mem _ (List.mem_cons_self ..) : y ∈ l.filter p)
    exact ⟨x, y, hx.1, hy.1, (List.pairwise_cons.1 hs).1 y (List.mem_cons_self ..), hx.2, hy.2⟩
  | [_], h, _ => simp at h
  | [], h, _ => simp at h
theorem of_two (l : List Int) (p : Int → Bool) (x y : Int) (hx : x ∈ l) (hy : y ∈ l) (hne : x ≠ y) (h1 : p x = true) (h2 : p y = true) : 1 < l.countP p := by
  rw [List.countP_eq_length_filter]
  have hx := List.mem_filter.2 ⟨hx, h1⟩
  have hy := List.mem_filter.2 ⟨hy, h2⟩
  match hf : l.filter p with
  | _ :: _ :: _ => simp
  | [z] => rw [hf] at hx hy; simp at hx hy; omega
  | [] => rw [hf] at hx; simp at hx
theorem pairs_iff (a : Int) (rows : List (List Int)) (hr : ∀ row ∈ rows, RowOk a row) (ha : 0 ≤ a) (vs : List Int) (hl : vs.length = rows.length) (h01 : ∀ x ∈ vs, x = 0 ∨ x = 1) : ((pairsFrom 0 rows).all fun c => c.any (litTrue vs)) = true ↔ ∀ c : Nat, (c : Int) < a → cntOf rows (ones 0 vs) c ≤ 1 := by
  rw [List.all_eq_true]
  constructor
  · intro h c hc
    rcases Nat.lt_or_ge 1 (cntOf rows (ones 0 vs) c) with h2 | h2
    · obtain ⟨x, y, hx, hy, hxy, h3, h4⟩ := two_of _ (ones_sorted vs 0) _ h2
      obtain ⟨i, hi, rfl, hv1⟩ := (ones_iff vs x).1 hx
      obtain ⟨j, hj, rfl, hv2⟩ := (ones_iff vs y).1 hy
      rw [getD_row rows i (by omega)] at h3
      rw [getD_row rows j (by omega)] at h4
      have h5 := h _ (pairs_has rows 0 i j (by omega) (by omega) (by omega) (List.any_eq_true.2 ⟨(c : Int), List.contains_iff_mem.1 h3, h4⟩))
      rw [Nat.zero_add, Nat.zero_add] at h5
      simp only [List.any_cons, List.any_nil, Bool.or_false, Bool.or_eq_true] at h5
      rcases h5 with h5 | h5
      · have := (lit_neg vs i hi).1 h5; omega
      · have := (lit_neg vs j hj).1 h5; omega
    · exact h2
  · intro h c hc
    obtain ⟨i, j, hi, hj, hij, h1, rfl⟩ := pairs_over rows 0 c hc
    obtain ⟨x, hx, h2⟩ := List.any_eq_true.1 h1
    rw [Nat.zero_add, Nat.zero_add]
    simp only [List.any_cons, List.any_nil, Bool.or_false, Bool.or_eq_true]
    rw [lit_neg vs i (by omega), lit_neg vs j (by omega)]
    have hb := (hr _ (List.getElem_mem hi)).2.2.2 x hx
    obtain ⟨cn, rfl⟩ : ∃ cn : Nat, x = cn := ⟨x.toNat, by omega⟩
    have h3 := h cn hb.2
    rcases h01 _ (List.getElem_mem (show i < vs.length by omega)) with h4 | h4
    · exact Or.inl h4
    · rcases h01 _ (List.getElem_mem (show j < vs.length by omega)) with h5 | h5
      · exact Or.inr h5
      · have := of_two (ones 0 vs) (fun s => (rows.getD s.toNat []).contains (cn : Int)) (i : Int) (j : Int) ((ones_iff vs _).2 ⟨i, by omega, rfl, h4⟩) ((ones_iff vs _).2 ⟨j, by omega, rfl, h5⟩) (by omega) (by show (rows.getD (i : Int).toNat []).contains (cn : Int) = true; rw [getD_row rows i hi]; exact List.contains_iff_mem.2 hx) (by show (rows.getD (j : Int).toNat []).contains (cn : Int) = true; rw [getD_row rows j hj]; exact h2)
        unfold cntOf at h3
        omega
theorem solFrom_iff (b : Int) (t : List Int) : ∀ i : Nat, solFrom b i t = true ↔ ∀ j : Nat, (hj : j < t.length) → t[j] ≤ 1 ∧ (t[j] = 0 → b ≤ ((i + j : Nat) : Int)) := by
  induction t with
  | nil => intro i; simp [solFrom]
  | cons y t ih =>
    intro i
    unfold solFrom
    simp only [Bool.and_eq_true, decide_eq_true_eq, Bool.not_eq_true', Bool.and_eq_false_iff, decide_eq_false_iff_not]
    rw [ih (i + 1)]
    constructor
    · rintro ⟨⟨h1, h2⟩, h3⟩ j hj
      cases j with
      | zero => exact ⟨h1, fun h => by have h : y = 0 := h; omega⟩
      | succ j =>
        have := h3 j (by simp at hj; omega)
        rw [show i + 1 + j = i + (j + 1) by omega] at this
        simpa using this
    · intro h
      refine ⟨⟨(h 0 (by simp)).1, ?_⟩, fun j hj => ?_⟩
      · have h2 := (h 0 (by simp)).2
        simp only [List.getElem_cons_zero, Nat.add_zero] at h2
        by_cases h3 : y = 0
        · right; have := h2 h3; omega
        · left; exact h3
      · have := h (j + 1) (by simp; omega)
        rw [show i + (j + 1) = i + 1 + j by omega] at this
        simpa using this
/-! ### Both answers -/
theorem isFormula_true (a b : Int) (rows : List (List Int)) (hc : Cov a b rows) (hl : (colsFrom rows 0 b.toNat ++ pairsFrom 0 rows).length ≤ 20000) : isFormulaB (rows.length : Int) (colsFrom rows 0 b.toNat ++ pairsFrom 0 rows) = true := by
  have hn := hc.n
  unfold isFormulaB
  rw [decide_eq_true (by omega), decide_eq_true hl, Bool.true_and, Bool.true_and, Bool.not_eq_true', List.any_eq_false]
  intro c hm
  unfold badClause
  rw [Bool.not_eq_true', Bool.not_eq_false]
  rcases List.mem_append.1 hm with hm | hm
  · obtain ⟨j, _, _, rfl⟩ := colsFrom_mem rows _ 0 c hm
    exact clause_ok _ (by omega) _ rows 0 0 (by omega) (by omega) (by omega)
  · obtain ⟨j, m, _, h1, h2, rfl⟩ := pairsFrom_mem rows 0 c hm
    exact pair_ok _ (by omega) j m h1 (by omega)
theorem satF_ev (a b : Int) (rows : List (List Int)) (hc : Cov a b rows) (hl : (colsFrom rows 0 b.toNat ++ pairsFrom 0 rows).length ≤ 20000) (hn : rows.length ≤ 100) (vs : List Int) (hv : vs.length = rows.length) (h01 : ∀ x ∈ vs, x = 0 ∨ x = 1) :
    Ev (fun k => impl_Satisfies.f k (rows.length : Int) (colsFrom rows 0 b.toNat ++ pairsFrom 0 rows) vs) ((colsFrom rows 0 b.toNat ++ pairsFrom 0 rows).all fun c => c.any (litTrue vs)) := by
  have hb : ∀ c ∈ colsFrom rows 0 b.toNat ++ pairsFrom 0 rows, c.length ≤ 1000000 ∧ ∀ x ∈ c, x ≠ 0 ∧ -(vs.length : Int) ≤ x ∧ x ≤ vs.length := by
    intro c hm
    rcases List.mem_append.1 hm with hm | hm
    · obtain ⟨j, _, _, rfl⟩ := colsFrom_mem rows _ 0 c hm
      refine ⟨by have := idxFrom_length (j : Int) rows 0; simp [clauseOf]; omega, fun x hx => ?_⟩
      obtain ⟨y, hy, rfl⟩ := List.mem_map.1 hx
      have := idxFrom_mem (j : Int) rows 0 y hy
      omega
    · obtain ⟨j, m, _, h1, h2, rfl⟩ := pairsFrom_mem rows 0 c hm
      refine ⟨by simp, fun x hx => ?_⟩
      simp only [List.mem_cons, List.not_mem_nil, or_false] at hx
      omega
  have h1 := sat_ev vs (by omega) h01 _ hb (by omega) _ 0 rfl (by omega)
  refine Ev.congr (f := fun k => impl_Satisfies.j0 k vs false (rows.length : Int) (colsFrom rows 0 b.toNat ++ pairsFrom 0 rows)) (fun k => ?_) (Ev.step (f := fun k => impl_Satisfies.l0 k vs (colsFrom rows 0 b.toNat ++ pairsFrom 0 rows) ((colsFrom rows 0 b.toNat ++ pairsFrom 0 rows).length : Int) ((0 : Nat) : Int)) (fun k => ?_) h1)
  · unfold impl_Satisfies.f impl_IsFormula.f impl_isAssignment.f
    simp only [Option.bind_some, isFormula_true a b rows hc hl, if_true, assign_true vs (rows.length : Int) (by omega) h01, Bool.not_true]
  · simp only [impl_Satisfies.j0, Bool.false_eq_true, if_false]
    rfl
theorem solF_ev (a b : Int) (rows : List (List Int)) (h : isCoverB a b rows = true) (hn : rows.length ≤ 100) (vs : List Int) (hv : vs.length = rows.length) (h01 : ∀ x ∈ vs, x = 0 ∨ x = 1) :
    ∃ out : List Int, Ev (fun k => impl_IsSolution.f k a b rows (ones 0 vs)) (solFrom b 0 out) ∧ (out.length : Int) = a ∧ ∀ c, (hc : c < out.length) → out[c] = (cntOf rows (ones 0 vs) c : Int) := by
  have hc := cov_of a b rows h
  have ha1 := hc.a1
  have ha2 := hc.a2
  have hl := ones_length vs 0
  have hin : ∀ x ∈ ones 0 vs, 0 ≤ x ∧ x < rows.length := fun x hx => by
    obtain ⟨j, hj, rfl, _⟩ := (ones_iff vs x).1 hx
    omega
  have hrep : ∀ c : Nat, (List.replicate a.toNat (0 : Int)).getD c 0 = 0 := fun c => by
    rw [List.getD_eq_getElem?_getD, List.getElem?_replicate]
    split <;> rfl
  obtain ⟨out, h1, h2, h3⟩ := cnt_ev a b rows (by omega) hc.rows (ones 0 vs) (by omega) hin (ones 0 vs) 0 (List.replicate a.toNat 0) rfl (by omega) (by simp; omega) (fun c _ => by rw [hrep]; omega)
  rw [List.length_replicate] at h2
  refine ⟨out, ?_, by omega, fun c hc => ?_⟩
  · have w : wrap64 ((rows.length : Int) - 1) = (rows.length : Int) - 1 := by unfold wrap64; omega
    have hi : (List.range (ones 0 vs).length).all (risesAt (ones 0 vs) ((rows.length : Int) - 1)) = true := rises_back _ _ (ones_sorted vs 0) (fun x hx => by have := hin x hx; omega)
    have hs := sol_ev a b rows out (by omega) out 0 rfl (by omega)
    have hcnt : Ev (fun k => impl_Cover_counts.f k a b rows (ones 0 vs)) out := by
      unfold impl_Cover_counts.f
      refine Ev.congr (fun k => ?_) h1
      rw [if_pos (by omega), if_pos (by omega)]
      rfl
    refine Ev.congr (f := fun k => impl_IsSolution.j0 k (ones 0 vs) false a b rows) (fun k => ?_) (Ev.step (f := fun k => (impl_Cover_counts.f k a b rows (ones 0 vs)).bind fun t219 => (impl_IsSolution.l0 k t219 (t219.length : Int) 0 a b rows)) (fun k => ?_) (Ev.bind hcnt hs))
    · unfold impl_IsSolution.f impl_IsCover.f impl_isIncreasing.f
      simp only [Option.bind_some, h, if_true, w, hi, Bool.not_true]
    · simp only [impl_IsSolution.j0, Bool.false_eq_true, if_false]
  · have h4 := h3 c (by simp; omega)
    rw [hrep, Int.zero_add, List.getD_eq_getElem?_getD, List.getElem?_eq_getElem hc] at h4
    exact h4
theorem both_same (a b : Int) (rows : List (List Int)) (hc : Cov a b rows) (vs : List Int) (hv : vs.length = rows.length) (h01 : ∀ x ∈ vs, x = 0 ∨ x = 1) (out : List Int) (ho : (out.length : Int) = a) (hg : ∀ c, (hc : c < out.length) → out[c] = (cntOf rows (ones 0 vs) c : Int)) :
    ((colsFrom rows 0 b.toNat ++ pairsFrom 0 rows).all fun c => c.any (litTrue vs)) = solFrom b 0 out := by
  have hb1 := hc.b1
  have hb2 := hc.b2
  rw [Bool.eq_iff_iff, List.all_append, Bool.and_eq_true, pairs_iff a rows hc.rows (by omega) vs hv h01, solFrom_iff, List.all_eq_true]
  constructor
  · rintro ⟨h1, h2⟩ j hj
    rw [hg j hj]
    have h3 := h2 j (by omega)
    refine ⟨by omega, fun h0 => ?_⟩
    rw [Nat.zero_add]
    rcases Int.lt_or_le (j : Int) b with h4 | h4
    · have := (col_iff rows vs hv j).1 (h1 _ (cols_has rows b.toNat 0 j (by omega) (by omega)))
      omega
    · exact h4
  · intro h
    refine ⟨fun l hl => ?_, fun c hcl => ?_⟩
    · obtain ⟨j, _, h2, rfl⟩ := colsFrom_mem rows _ 0 l hl
      rw [col_iff rows vs hv j]
      have h3 := h j (by omega)
      rw [hg j (by omega), Nat.zero_add] at h3
      rcases Nat.eq_zero_or_pos (cntOf rows (ones 0 vs) j) with h4 | h4
      · have := h3.2 (by omega); omega
      · exact h4
    · have h3 := (h c (by omega)).1
      rw [hg c (by omega)] at h3
      omega
theorem Ev.two {α β : Type} {f : Nat → Option α} {g : Nat → Option β} {x : α} {y : β} (h1 : Ev f x) (h2 : Ev g y) : ∃ k, f k = some x ∧ g k = some y ∧ ∀ k', k ≤ k' → f k' = some x ∧ g k' = some y := by
  obtain ⟨k1, h1⟩ := h1
  obtain ⟨k2, h2⟩ := h2
  exact ⟨max k1 k2, h1 _ (by omega), h2 _ (by omega), fun k' hk => ⟨h1 _ (by omega), h2 _ (by omega)⟩⟩
theorem Ev.three {α β γ : Type} {f : Nat → Option α} {g : Nat → Option β} {q : Nat → Option γ} {x : α} {y : β} {z : γ} (h1 : Ev f x) (h2 : Ev g y) (h3 : Ev q z) : ∃ k, f k = some x ∧ g k = some y ∧ q k = some z := by
  obtain ⟨k1, _, _, h12⟩ := Ev.two h1 h2
  obtain ⟨k2, h3⟩ := h3
  exact ⟨max k1 k2, (h12 _ (by omega)).1, (h12 _ (by omega)).2, h3 _ (by omega)⟩
theorem pureCF : PureCF := by
  intro a b rows
  have hz := formulaOf_sizes a b rows
  obtain ⟨k, h1, h2, h3⟩ := Ev.three (implF_ev a b rows) (specF_ev a b rows) (like_ev (formulaOf a b rows).1 (formulaOf a b rows).2.1 hz.1 hz.2)
  refine ⟨k, (formulaOf a b rows).1, (formulaOf a b rows).2.1, (formulaOf a b rows).2.2, h1, h2, h3, fun hbad hn => ⟨first_some a b rows, fun vs hv h01 => ?_⟩⟩
  have hcv : isCoverB a b rows = true ∧ (colsFrom rows 0 b.toNat ++ pairsFrom 0 rows).length ≤ 20000 := by
    unfold formulaOf limited at hbad
    by_cases h : isCoverB a b rows = true
    · rw [if_pos h] at hbad
      refine ⟨h, ?_⟩
      by_cases h4 : (colsFrom rows 0 b.toNat ++ pairsFrom 0 rows).length ≤ 20000
      · exact h4
      · rw [if_neg h4] at hbad
        exact absurd hbad (by decide)
    · rw [if_neg h] at hbad
      exact absurd hbad (by decide)
  have hf : formulaOf a b rows = ((rows.length : Int), colsFrom rows 0 b.toNat ++ pairsFrom 0 rows, 0) := by
    unfold formulaOf limited
    rw [if_pos hcv.1, if_pos hcv.2]
  rw [hf]
  have hc := cov_of a b rows hcv.1
  obtain ⟨out, hs, ho, hg⟩ := solF_ev a b rows hcv.1 hn vs hv h01
  have hq := satF_ev a b rows hc hcv.2 hn vs hv h01
  rw [both_same a b rows hc vs hv h01 out ho hg] at hq
  obtain ⟨k, g1, g2, g3⟩ := Ev.three (selF_ev vs (by omega) h01) hq hs
  exact ⟨k, ones 0 vs, solFrom b 0 out, g1, g2, g3⟩
end Go.Proofs.YtmchbkjjpeiedaaDoor.DFnCoverFormulas
