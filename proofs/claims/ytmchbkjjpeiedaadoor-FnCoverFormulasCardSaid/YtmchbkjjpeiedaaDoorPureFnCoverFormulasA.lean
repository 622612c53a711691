/- The law FnCoverFormulas in plain terms, first part: the formula of an instance, as the program and as the reference make it. -/
import Derived.Test.YtmchbkjjpeiedaaDoorDFnCoverFormulasx11
namespace Go.Proofs.YtmchbkjjpeiedaaDoor.DFnCoverFormulas
open Go.RowKit Go.Proofs.YtmchbkjjpeiedaaDoorW.PrintWords Go.Proofs.YtmchbkjjpeiedaaDoorW.PrintLast Go.Proofs.YtmchbkjjpeiedaaDoorW.PrintMore Go.Proofs.YtmchbkjjpeiedaaDoorH
set_option linter.unusedVariables false
set_option linter.unusedSimpArgs false
/-! ### Small facts -/
theorem drop_facts {α : Type} {l r : List α} {i : Nat} {y : α} (h : l.drop i = y :: r) : ∃ hi : i < l.length, l[i] = y ∧ l.drop (i + 1) = r := by
  have hi : i < l.length := by
    rcases Nat.lt_or_ge i l.length with h1 | h1
    · exact h1
    · rw [List.drop_eq_nil_of_le h1] at h; cases h
  rw [List.drop_eq_getElem_cons hi] at h
  injection h with h1 h2
  exact ⟨hi, h1, h2⟩
theorem rd_at (l : List Int) (i : Nat) (hi : i < l.length) : rd l (i : Int) = l[i] := by
  simp [rd, List.getD_eq_getElem?_getD, List.getElem?_eq_getElem hi]
theorem rd3_at (l : List (List Int)) (i : Nat) (hi : i < l.length) : rd_L3 l (i : Int) = l[i] := by
  simp [rd_L3, List.getD_eq_getElem?_getD, List.getElem?_eq_getElem hi]
theorem w_succ (i : Nat) (h : i < 4611686018427387904) : wrap64 ((i : Int) + 1) = ((i + 1 : Nat) : Int) := by unfold wrap64; omega
theorem drop_nil {α : Type} {l : List α} {i : Nat} (h : l.drop i = []) : l.length ≤ i := by
  have := congrArg List.length h
  rw [List.length_drop] at this
  simp at this
  omega
/-! ### Valid instances -/
/-- A row of an instance of a columns. -/
def RowOk (a : Int) (row : List Int) : Prop := row ≠ [] ∧ row.length ≤ 60 ∧ row.Pairwise (· < ·) ∧ ∀ x ∈ row, 0 ≤ x ∧ x < a
structure Cov (a b : Int) (rows : List (List Int)) : Prop where
  a1 : 1 ≤ a
  a2 : a ≤ 60
  b1 : 1 ≤ b
  b2 : b ≤ a
  n : rows.length ≤ 400
  rows : ∀ row ∈ rows, RowOk a row
theorem rises_facts (row : List Int) (m : Int) (h : (List.range row.length).all (risesAt row m) = true) : row.Pairwise (· < ·) ∧ ∀ x ∈ row, 0 ≤ x ∧ x ≤ m := by
  have h1 : ∀ i, (hi : i < row.length) → (0 ≤ row[i] ∧ row[i] ≤ m) ∧ (0 < i → ∃ hj : i - 1 < row.length, row[i - 1] < row[i]) := by
    intro i hi
    have := List.all_eq_true.1 h i (List.mem_range.2 hi)
    unfold risesAt at this
    rw [Bool.and_eq_true, Bool.not_eq_true', Bool.and_eq_false_iff, decide_eq_true_eq, decide_eq_false_iff_not, decide_eq_false_iff_not, rd_at row i hi] at this
    refine ⟨this.1, fun hp => ⟨by omega, ?_⟩⟩
    rcases this.2 with h2 | h2
    · exact absurd hp h2
    · rw [show ((i : Int) - 1) = ((i - 1 : Nat) : Int) by omega, rd_at row (i - 1) (by omega)] at h2
      omega
  refine ⟨?_, fun x hx => ?_⟩
  · have mono : ∀ d i, (hi : i + d + 1 < row.length) → row[i]'(by omega) < row[i + d + 1] := by
      intro d
      induction d with
      | zero =>
        intro i hi
        obtain ⟨hj, h2⟩ := (h1 (i + 0 + 1) hi).2 (by omega)
        simpa using h2
      | succ d ih =>
        intro i hi
        have h2 := ih i (by omega)
        obtain ⟨hj, h3⟩ := (h1 (i + (d + 1) + 1) hi).2 (by omega)
        have e : i + (d + 1) + 1 - 1 = i + d + 1 := by omega
        have h4 : row[i + (d + 1) + 1 - 1] = row[i + d + 1] := by simp [e]
        omega
    rw [List.pairwise_iff_getElem]
    intro i j hi hj hij
    have := mono (j - i - 1) i (by omega)
    have e : i + (j - i - 1) + 1 = j := by omega
    simpa [e] using this
  · obtain ⟨i, hi, rfl⟩ := List.getElem_of_mem hx
    exact (h1 i hi).1
theorem rises_length (row : List Int) (m : Int) (hp : row.Pairwise (· < ·)) (hm : ∀ x ∈ row, 0 ≤ x ∧ x ≤ m) (h0 : 0 ≤ m + 1) : (row.length : Int) ≤ m + 1 := by
  have h1 : ∀ i, (hi : i < row.length) → (i : Int) ≤ row[i] := by
    intro i
    induction i with
    | zero => intro hi; exact (hm _ (List.getElem_mem hi)).1
    | succ i ih =>
      intro hi
      have h2 := ih (by omega)
      have h3 := (List.pairwise_iff_getElem.1 hp) i (i + 1) (by omega) hi (by omega)
      omega
  rcases Nat.eq_zero_or_pos row.length with h2 | h2
  · omega
  · have h3 := h1 (row.length - 1) (by omega)
    have h4 := (hm _ (List.getElem_mem (show row.length - 1 < row.length by omega))).2
    omega
theorem cov_of (a b : Int) (rows : List (List Int)) (h : isCoverB a b rows = true) : Cov a b rows := by
  unfold isCoverB at h
  simp only [Bool.and_eq_true, decide_eq_true_eq, Bool.not_eq_true', List.any_eq_false] at h
  obtain ⟨⟨⟨⟨h1, h2⟩, h3, h4⟩, h5⟩, h6⟩ := h
  refine ⟨h1, h2, h3, h4, h5, fun row hr => ?_⟩
  have h7 := h6 row hr
  unfold badRow at h7
  simp only [Bool.or_eq_true, decide_eq_true_eq, Bool.not_eq_true', not_or, Bool.not_eq_false] at h7
  have w : wrap64 (a - 1) = a - 1 := by unfold wrap64; omega
  rw [w] at h7
  obtain ⟨hp, hm⟩ := rises_facts row (a - 1) h7.2
  have hl := rises_length row (a - 1) hp hm (by omega)
  exact ⟨fun e => h7.1 (by rw [e]; rfl), by omega, hp, fun x hx => ⟨(hm x hx).1, by have := (hm x hx).2; omega⟩⟩
theorem isCover_ev (a b : Int) (rows : List (List Int)) (hn : rows.length ≤ 400) (rs : List (List Int)) : ∀ i : Nat, rows.drop i = rs → i ≤ rows.length → Ev (fun k => spec_IsCover.l0 k (i : Int) a b rows) (!(rs.any (badRow a))) := by
  induction rs with
  | nil =>
    intro i h hi
    have := drop_nil h
    refine Ev.step (f := fun _ => some true) (fun k => ?_) (Ev.now _)
    simp only [spec_IsCover.l0]
    rw [if_neg (by omega)]
  | cons r rs ih =>
    intro i h hi
    obtain ⟨hi, hr, hd⟩ := drop_facts h
    rw [List.any_cons]
    by_cases c1 : r.length = 0
    · have e1 : badRow a r = true := by unfold badRow; simp [c1]
      rw [e1]
      refine Ev.step (f := fun _ => some false) (fun k => ?_) (Ev.now _)
      simp only [spec_IsCover.l0]
      rw [if_pos (by omega), if_pos (by omega), rd3_at _ _ hi, hr, if_pos (by omega)]
    · by_cases c2 : (List.range r.length).all (risesAt r (wrap64 (a - 1))) = true
      · have e1 : badRow a r = false := by unfold badRow; simp [c1, c2]
        rw [e1, Bool.false_or]
        refine Ev.step (f := fun k => spec_IsCover.l0 k ((i + 1 : Nat) : Int) a b rows) (fun k => ?_) (ih (i + 1) hd (by omega))
        simp only [spec_IsCover.l0]
        rw [if_pos (by omega), if_pos (by omega), rd3_at _ _ hi, hr, if_neg (by omega)]
        simp only [spec_l01Rises.f, c2, Option.bind_some, if_true]
        rw [w_succ i (by omega)]
      · have e1 : badRow a r = true := by unfold badRow; simp [c1, c2]
        rw [e1]
        refine Ev.step (f := fun _ => some false) (fun k => ?_) (Ev.now _)
        simp only [spec_IsCover.l0]
        rw [if_pos (by omega), if_pos (by omega), rd3_at _ _ hi, hr, if_neg (by omega)]
        simp only [spec_l01Rises.f, Option.bind_some]
        rw [if_neg c2]
theorem specIsCover_ev (a b : Int) (rows : List (List Int)) : Ev (fun k => spec_IsCover.f k a b rows) (isCoverB a b rows) := by
  unfold spec_IsCover.f spec_l01In.f isCoverB
  by_cases c1 : 1 ≤ a ∧ a ≤ 60
  · by_cases c2 : 1 ≤ b ∧ b ≤ a
    · by_cases c3 : rows.length ≤ 400
      · have h := isCover_ev a b rows c3 rows 0 rfl (by omega)
        refine Ev.congr (f := fun k => spec_IsCover.j0 k false a b rows) (fun k => ?_) (Ev.step (f := fun k => spec_IsCover.l0 k ((0 : Nat) : Int) a b rows) (fun k => ?_) ?_)
        · simp only [decide_eq_true c1, decide_eq_true c2, Option.bind_some, if_true]
          rw [show decide ((rows.length : Int) > 400) = false from decide_eq_false (by omega)]
        · simp only [spec_IsCover.j0, Bool.false_eq_true, if_false]
          rfl
        · simpa [c1, c2, c3] using h
      · refine Ev.congr (f := fun k => spec_IsCover.j0 k true a b rows) (fun k => ?_) (Ev.step (f := fun _ => some false) (fun k => ?_) ?_)
        · simp only [decide_eq_true c1, decide_eq_true c2, Option.bind_some, if_true]
          rw [show decide ((rows.length : Int) > 400) = true from decide_eq_true (by omega)]
        · simp only [spec_IsCover.j0, if_true]
        · simpa [c3] using Ev.now false
    · refine Ev.congr (f := fun k => spec_IsCover.j0 k true a b rows) (fun k => ?_) (Ev.step (f := fun _ => some false) (fun k => ?_) ?_)
      · simp only [decide_eq_true c1, decide_eq_false c2, Option.bind_some, if_true, Bool.false_eq_true, if_false]
      · simp only [spec_IsCover.j0, if_true]
      · simpa [c2] using Ev.now false
  · refine Ev.congr (f := fun k => spec_IsCover.j0 k true a b rows) (fun k => ?_) (Ev.step (f := fun _ => some false) (fun k => ?_) ?_)
    · simp only [decide_eq_false c1, Option.bind_some, Bool.false_eq_true, if_false]
    · simp only [spec_IsCover.j0, if_true]
    · simpa [c1] using Ev.now false
/-! ### The reference's formula -/
theorem has_ev (l : List Int) (x : Int) (hl : l.length ≤ 400) (r : List Int) : ∀ i : Nat, l.drop i = r → i ≤ l.length → Ev (fun k => spec_l01Has.l0 k l x (i : Int)) (r.contains x) := by
  induction r with
  | nil =>
    intro i h hi
    have := drop_nil h
    refine Ev.step (f := fun _ => some false) (fun k => ?_) (Ev.now _)
    simp only [spec_l01Has.l0]
    rw [if_neg (by omega)]
  | cons y r ih =>
    intro i h hi
    obtain ⟨hi, hy, hd⟩ := drop_facts h
    by_cases c : y = x
    · have e1 : (y :: r).contains x = true := by simp [c]
      rw [e1]
      refine Ev.step (f := fun _ => some true) (fun k => ?_) (Ev.now _)
      simp only [spec_l01Has.l0]
      rw [if_pos (by omega), if_pos (by omega), rd_at _ _ hi, hy, if_pos c]
    · have e1 : (y :: r).contains x = r.contains x := by simp [List.contains_cons, Ne.symm c]
      rw [e1]
      refine Ev.step (f := fun k => spec_l01Has.l0 k l x ((i + 1 : Nat) : Int)) (fun k => ?_) (ih (i + 1) hd (by omega))
      simp only [spec_l01Has.l0]
      rw [if_pos (by omega), if_pos (by omega), rd_at _ _ hi, hy, if_neg c, w_succ i (by omega)]
theorem hasF_ev (l : List Int) (x : Int) (hl : l.length ≤ 400) : Ev (fun k => spec_l01Has.f k l x) (l.contains x) := has_ev l x hl l 0 rfl (by omega)
theorem overlap_ev (l m : List Int) (hl : l.length ≤ 400) (hm : m.length ≤ 400) (r : List Int) : ∀ i : Nat, l.drop i = r → i ≤ l.length → Ev (fun k => spec_l12Overlap.l0 k l m (i : Int)) (r.any m.contains) := by
  induction r with
  | nil =>
    intro i h hi
    have := drop_nil h
    refine Ev.step (f := fun _ => some false) (fun k => ?_) (Ev.now _)
    simp only [spec_l12Overlap.l0]
    rw [if_neg (by omega)]
  | cons y r ih =>
    intro i h hi
    obtain ⟨hi, hy, hd⟩ := drop_facts h
    have hh := hasF_ev m y hm
    refine Ev.step (f := fun k => (spec_l01Has.f k m y).bind fun t142 => if t142 = true then some true else spec_l12Overlap.l0 k l m ((i + 1 : Nat) : Int)) (fun k => ?_) (Ev.bind hh ?_)
    · simp only [spec_l12Overlap.l0]
      rw [if_pos (by omega), if_pos (by omega), rd_at _ _ hi, hy, w_succ i (by omega)]
    · rw [List.any_cons]
      cases hc : m.contains y with
      | true => simpa using Ev.now true
      | false => simpa using ih (i + 1) hd (by omega)
theorem overlapF_ev (l m : List Int) (hl : l.length ≤ 400) (hm : m.length ≤ 400) : Ev (fun k => spec_l12Overlap.f k l m) (l.any m.contains) := overlap_ev l m hl hm l 0 rfl (by omega)
/-- The places from i on at which a column is. -/
def idxFrom (c : Int) : Nat → List (List Int) → List Int
  | _, [] => []
  | i, r :: rs => if r.contains c then (i : Int) :: idxFrom c (i + 1) rs else idxFrom c (i + 1) rs
theorem idxFrom_length (c : Int) (rs : List (List Int)) : ∀ i, (idxFrom c i rs).length ≤ rs.length := by
  induction rs with
  | nil => intro i; simp [idxFrom]
  | cons r rs ih =>
    intro i
    have := ih (i + 1)
    unfold idxFrom
    split <;> simp <;> omega
theorem idxFrom_mem (c : Int) (rs : List (List Int)) : ∀ (i : Nat) (x : Int), x ∈ idxFrom c i rs → (i : Int) ≤ x ∧ x < i + rs.length := by
  induction rs with
  | nil => intro i x h; simp [idxFrom] at h
  | cons r rs ih =>
    intro i x h
    unfold idxFrom at h
    simp only [List.length_cons]
    split at h
    · rcases List.mem_cons.1 h with rfl | h
      · omega
      · have := ih (i + 1) x h; omega
    · have := ih (i + 1) x h; omega
theorem rows_ev (a b c : Int) (rows : List (List Int)) (hn : rows.length ≤ 400) (hr : ∀ row ∈ rows, row.length ≤ 400) (rs : List (List Int)) : ∀ (i : Nat) (acc : List Int), rows.drop i = rs → i ≤ rows.length → acc.length ≤ i →
    Ev (fun k => spec_l13Rows.l0 k c acc (i : Int) a b rows) (acc ++ idxFrom c i rs) := by
  induction rs with
  | nil =>
    intro i acc h hi ha
    have := drop_nil h
    refine Ev.step (f := fun _ => some acc) (fun k => ?_) (by simpa [idxFrom] using Ev.now acc)
    simp only [spec_l13Rows.l0]
    rw [if_neg (by omega)]
  | cons r rs ih =>
    intro i acc h hi ha
    obtain ⟨hi, hy, hd⟩ := drop_facts h
    have hh := hasF_ev r c (hr r (hy ▸ List.getElem_mem hi))
    refine Ev.step (f := fun k => (spec_l01Has.f k r c).bind fun t137 => if t137 = true then spec_l13Rows.l0 k c (acc ++ [(i : Int)]) ((i + 1 : Nat) : Int) a b rows else spec_l13Rows.l0 k c acc ((i + 1 : Nat) : Int) a b rows) (fun k => ?_) (Ev.bind hh ?_)
    · simp only [spec_l13Rows.l0]
      rw [if_pos (by omega), if_pos (by omega), rd3_at _ _ hi, hy, w_succ i (by omega), if_pos (by omega)]
    · unfold idxFrom
      cases hc : r.contains c with
      | true => simpa [List.append_assoc] using ih (i + 1) (acc ++ [(i : Int)]) hd (by omega) (by simp; omega)
      | false => simpa using ih (i + 1) acc hd (by omega) (by omega)
/-- The clause of a column. -/
def clauseOf (rows : List (List Int)) (c : Int) : List Int := (idxFrom c 0 rows).map (· + 1)
def pairRow (i : Nat) (r : List Int) : Nat → List (List Int) → List (List Int)
  | _, [] => []
  | j, s :: ss => if r.any s.contains then [-(i : Int) - 1, -(j : Int) - 1] :: pairRow i r (j + 1) ss else pairRow i r (j + 1) ss
def pairsFrom : Nat → List (List Int) → List (List Int)
  | _, [] => []
  | i, r :: rs => pairRow i r (i + 1) rs ++ pairsFrom (i + 1) rs
theorem pairRow_length (i : Nat) (r : List Int) (ss : List (List Int)) : ∀ j, (pairRow i r j ss).length ≤ ss.length := by
  induction ss with
  | nil => intro j; simp [pairRow]
  | cons s ss ih =>
    intro j
    have := ih (j + 1)
    unfold pairRow
    split <;> simp <;> omega
theorem pairsFrom_length (rs : List (List Int)) (m : Nat) (hm : rs.length ≤ m) : ∀ i, (pairsFrom i rs).length ≤ rs.length * m := by
  induction rs with
  | nil => intro i; simp [pairsFrom]
  | cons r rs ih =>
    intro i
    have h1 := ih (by simp at hm; omega) (i + 1)
    have h2 := pairRow_length i r rs (i + 1)
    unfold pairsFrom
    rw [List.length_append, List.length_cons, Nat.succ_mul]
    simp at hm
    omega
theorem neg_one (i : Nat) (h : i < 4611686018427387904) : wrap64 (wrap64 (-(i : Int)) - 1) = -(i : Int) - 1 := by unfold wrap64; omega
theorem clause_ev (a b : Int) (rows : List (List Int)) (c : Int) (x3 : List (List Int)) (l : List Int) (hl : l.length ≤ 400) (hx : ∀ x ∈ l, 0 ≤ x ∧ x < 400) (q : Int × List (List Int)) (h3 : x3.length ≤ 400) (r : List Int) : ∀ (i : Nat) (acc : List Int), l.drop i = r → i ≤ l.length → acc.length ≤ i →
    Ev (fun k => spec_l20Cover.l0 k (x3 ++ [acc ++ r.map (· + 1)]) (wrap64 (c + 1)) a b rows) q → Ev (fun k => spec_l20Cover.l1 k x3 c acc l (i : Int) a b rows) q := by
  induction r with
  | nil =>
    intro i acc h hi ha hq
    have := drop_nil h
    refine Ev.step (f := fun k => spec_l20Cover.l0 k (x3 ++ [acc]) (wrap64 (c + 1)) a b rows) (fun k => ?_) (by simpa using hq)
    simp only [spec_l20Cover.l1]
    rw [if_neg (by omega), if_pos (by omega)]
  | cons y r ih =>
    intro i acc h hi ha hq
    obtain ⟨hi, hy, hd⟩ := drop_facts h
    have hb := hx y (hy ▸ List.getElem_mem hi)
    have w : wrap64 (y + 1) = y + 1 := by unfold wrap64; omega
    refine Ev.step (f := fun k => spec_l20Cover.l1 k x3 c (acc ++ [y + 1]) l ((i + 1 : Nat) : Int) a b rows) (fun k => ?_) (ih (i + 1) (acc ++ [y + 1]) hd (by omega) (by simp; omega) (by simpa [List.append_assoc] using hq))
    simp only [spec_l20Cover.l1]
    rw [if_pos (by omega), if_pos (by omega), rd_at _ _ hi, hy, w, if_pos (by omega), w_succ i (by omega)]
theorem pairRow_ev (a b : Int) (rows : List (List Int)) (hn : rows.length ≤ 400) (hr : ∀ row ∈ rows, row.length ≤ 400) (i : Nat) (r : List Int) (hir : ∃ hi : i < rows.length, rows[i] = r) (q : Int × List (List Int)) (ss : List (List Int)) : ∀ (j : Nat) (x3 : List (List Int)), rows.drop j = ss → j ≤ rows.length → x3.length + ss.length ≤ 1000000 →
    Ev (fun k => spec_l20Cover.l2 k (x3 ++ pairRow i r j ss) ((i + 1 : Nat) : Int) a b rows) q → Ev (fun k => spec_l20Cover.l3 k x3 (i : Int) (j : Int) a b rows) q := by
  obtain ⟨hi, hir⟩ := hir
  induction ss with
  | nil =>
    intro j x3 h hj hx hq
    have := drop_nil h
    refine Ev.step (f := fun k => spec_l20Cover.l2 k x3 ((i + 1 : Nat) : Int) a b rows) (fun k => ?_) (by simpa [pairRow] using hq)
    simp only [spec_l20Cover.l3]
    rw [if_neg (by omega), w_succ i (by omega)]
  | cons s ss ih =>
    intro j x3 h hj hx hq
    obtain ⟨hj, hy, hd⟩ := drop_facts h
    simp only [List.length_cons] at hx
    have hh := overlapF_ev r s (hr r (hir ▸ List.getElem_mem hi)) (hr s (hy ▸ List.getElem_mem hj))
    refine Ev.step (f := fun k => (spec_l12Overlap.f k r s).bind fun t163 => if t163 = true then spec_l20Cover.l3 k (x3 ++ [[-(i : Int) - 1, -(j : Int) - 1]]) (i : Int) ((j + 1 : Nat) : Int) a b rows else spec_l20Cover.l3 k x3 (i : Int) ((j + 1 : Nat) : Int) a b rows) (fun k => ?_) (Ev.bind hh ?_)
    · simp only [spec_l20Cover.l3]
      rw [if_pos (by omega), if_pos (by omega), if_pos (by omega), if_pos (by omega), rd3_at _ _ hi, rd3_at _ _ hj, hir, hy, neg_one i (by omega), neg_one j (by omega), w_succ j (by omega), if_pos (by omega)]
    · unfold pairRow at hq
      cases hc : r.any s.contains with
      | true =>
        rw [hc] at hq
        simpa using ih (j + 1) (x3 ++ [[-(i : Int) - 1, -(j : Int) - 1]]) hd (by omega) (by simp; omega) (by simpa [List.append_assoc] using hq)
      | false =>
        rw [hc] at hq
        simpa using ih (j + 1) x3 hd (by omega) (by omega) (by simpa using hq)
theorem pairs_ev (a b : Int) (rows : List (List Int)) (hn : rows.length ≤ 400) (hr : ∀ row ∈ rows, row.length ≤ 400) (rs : List (List Int)) : ∀ (i : Nat) (x3 : List (List Int)), rows.drop i = rs → i ≤ rows.length → x3.length + rs.length * 400 ≤ 900000 →
    Ev (fun k => spec_l20Cover.l2 k x3 (i : Int) a b rows) ((rows.length : Int), x3 ++ pairsFrom i rs) := by
  induction rs with
  | nil =>
    intro i x3 h hi hx
    have := drop_nil h
    refine Ev.step (f := fun _ => some ((rows.length : Int), x3)) (fun k => ?_) (by simpa [pairsFrom] using Ev.now ((rows.length : Int), x3))
    simp only [spec_l20Cover.l2]
    rw [if_neg (by omega)]
  | cons r rs ih =>
    intro i x3 h hi hx
    obtain ⟨hi, hy, hd⟩ := drop_facts h
    have hl : rs.length ≤ 400 := by rw [← hd, List.length_drop]; omega
    have hp := pairRow_length i r rs (i + 1)
    simp only [List.length_cons, Nat.succ_mul] at hx
    refine Ev.step (f := fun k => spec_l20Cover.l3 k x3 (i : Int) ((i + 1 : Nat) : Int) a b rows) (fun k => ?_) ?_
    · simp only [spec_l20Cover.l2]
      rw [if_pos (by omega), w_succ i (by omega)]
    · refine pairRow_ev a b rows hn hr i r ⟨hi, hy⟩ _ rs (i + 1) x3 hd (by omega) (by omega) ?_
      have := ih (i + 1) (x3 ++ pairRow i r (i + 1) rs) hd (by omega) (by rw [List.length_append]; omega)
      simpa [pairsFrom, List.append_assoc] using this
/-- The clauses of the columns from c on, n of them. -/
def colsFrom (rows : List (List Int)) : Nat → Nat → List (List Int)
  | _, 0 => []
  | c, n + 1 => clauseOf rows (c : Int) :: colsFrom rows (c + 1) n
theorem colsFrom_length (rows : List (List Int)) (n : Nat) : ∀ c, (colsFrom rows c n).length = n := by
  induction n with
  | zero => intro c; rfl
  | succ n ih => intro c; simp [colsFrom, ih]
theorem cols_ev (a b : Int) (rows : List (List Int)) (hn : rows.length ≤ 400) (hr : ∀ row ∈ rows, row.length ≤ 400) (hb : b ≤ 60) (d : Nat) : ∀ (c : Nat) (x3 : List (List Int)), b - c = d → (c : Int) ≤ b → x3.length = c →
    Ev (fun k => spec_l20Cover.l0 k x3 (c : Int) a b rows) ((rows.length : Int), x3 ++ colsFrom rows c d ++ pairsFrom 0 rows) := by
  induction d with
  | zero =>
    intro c x3 hd hc hx
    refine Ev.step (f := fun k => spec_l20Cover.l2 k x3 ((0 : Nat) : Int) a b rows) (fun k => ?_) ?_
    · simp only [spec_l20Cover.l0]
      rw [if_neg (by omega)]
      rfl
    · have := pairs_ev a b rows hn hr rows 0 x3 rfl (by omega) (by omega)
      simpa [colsFrom] using this
  | succ d ih =>
    intro c x3 hd hc hx
    have hrows := rows_ev a b (c : Int) rows hn hr rows 0 [] rfl (by omega) (by simp)
    have hlen := idxFrom_length (c : Int) rows 0
    have hmem := idxFrom_mem (c : Int) rows 0
    refine Ev.step (f := fun k => (spec_l13Rows.f k a b rows (c : Int)).bind fun t151 => spec_l20Cover.l1 k x3 (c : Int) [] t151 0 a b rows) (fun k => ?_) (Ev.bind (a := idxFrom (c : Int) 0 rows) ?_ ?_)
    · simp only [spec_l20Cover.l0]
      rw [if_pos (by omega)]
    · simpa [spec_l13Rows.f] using hrows
    · refine clause_ev a b rows (c : Int) x3 (idxFrom (c : Int) 0 rows) (by omega) (fun x hx => by have := hmem x hx; omega) _ (by omega) (idxFrom (c : Int) 0 rows) 0 [] rfl (by omega) (by simp) ?_
      rw [w_succ c (by omega)]
      have := ih (c + 1) (x3 ++ [clauseOf rows (c : Int)]) (by omega) (by omega) (by simp; omega)
      simpa [colsFrom, clauseOf, List.append_assoc] using this
theorem specFormula_ev (a b : Int) (rows : List (List Int)) (h : Cov a b rows) : Ev (fun k => spec_l20Cover.f k a b rows) ((rows.length : Int), colsFrom rows 0 b.toNat ++ pairsFrom 0 rows) := by
  have := cols_ev a b rows h.n (fun row hr => by have := (h.rows row hr).2.1; omega) (by have := h.a2; have := h.b2; omega) b.toNat 0 [] (by have := h.b1; omega) (by have := h.b1; omega) rfl
  simpa [spec_l20Cover.f] using this
end Go.Proofs.YtmchbkjjpeiedaaDoor.DFnCoverFormulas
