/- The law FnCoverFormulas in plain terms, second part: the program's formula is the reference's. -/
import Derived.Test.YtmchbkjjpeiedaaDoorPureFnCoverFormulasA
import Derived.Laws.Bits64b
namespace Go.Proofs.YtmchbkjjpeiedaaDoor.DFnCoverFormulas
open Go.RowKit Go.Proofs.YtmchbkjjpeiedaaDoorW.PrintWords Go.Proofs.YtmchbkjjpeiedaaDoorW.PrintLast Go.Proofs.YtmchbkjjpeiedaaDoorW.PrintMore Go.Proofs.YtmchbkjjpeiedaaDoorH
set_option linter.unusedVariables false
set_option linter.unusedSimpArgs false
/-! ### Masks -/
def mk (row : List Int) : Nat := row.foldl (fun m k => m ||| 2 ^ k.toNat) 0
theorem bitOf_nat (k : Int) (h0 : 0 ≤ k) (h1 : k < 60) : bitOf k = ((2 ^ k.toNat : Nat) : Int) := by
  have h2 : IntKind.u64.wrap k = k := by rw [IntKind.wrap_u64]; omega
  have h3 : (2 : Nat) ^ k.toNat < 2 ^ 60 := Nat.pow_lt_pow_right (by omega) (by omega)
  unfold bitOf
  rw [h2, Nat.min_eq_left (by omega), IntKind.wrap_u64]
  have h4 : ((2 : Int) ^ k.toNat) = ((2 ^ k.toNat : Nat) : Int) := by simp
  rw [h4]
  generalize 2 ^ k.toNat = p at h3 ⊢
  omega
theorem foldl_mk (row : List Int) (h : ∀ x ∈ row, 0 ≤ x ∧ x < 60) : ∀ m : Nat, m < 2 ^ 60 → row.foldl (fun m k => Go.bits .or .u64 m (bitOf k)) (m : Int) = ((row.foldl (fun m k => m ||| 2 ^ k.toNat) m : Nat) : Int) ∧ row.foldl (fun m k => m ||| 2 ^ k.toNat) m < 2 ^ 60 := by
  induction row with
  | nil => intro m hm; exact ⟨rfl, hm⟩
  | cons k row ih =>
    intro m hm
    have hk := h k (List.mem_cons_self ..)
    have h3 : (2 : Nat) ^ k.toNat < 2 ^ 60 := Nat.pow_lt_pow_right (by omega) (by omega)
    have h4 : m ||| 2 ^ k.toNat < 2 ^ 60 := Nat.or_lt_two_pow hm h3
    rw [List.foldl_cons, List.foldl_cons, bitOf_nat k hk.1 hk.2, bits_or_u64_nat m (2 ^ k.toNat) (by omega) (by omega)]
    exact ih (fun x hx => h x (List.mem_cons_of_mem _ hx)) _ h4
theorem mask_mk (row : List Int) (h : ∀ x ∈ row, 0 ≤ x ∧ x < 60) : maskOf row = (mk row : Int) ∧ mk row < 2 ^ 60 := foldl_mk row h 0 (by decide)
theorem foldl_bit (row : List Int) (h : ∀ x ∈ row, 0 ≤ x ∧ x < 60) (c : Nat) : ∀ m : Nat, (row.foldl (fun m k => m ||| 2 ^ k.toNat) m).testBit c = (m.testBit c || row.contains (c : Int)) := by
  induction row with
  | nil => intro m; simp
  | cons k row ih =>
    intro m
    have hk := h k (List.mem_cons_self ..)
    rw [List.foldl_cons, ih (fun x hx => h x (List.mem_cons_of_mem _ hx)), Nat.testBit_or, Nat.testBit_two_pow, List.contains_cons]
    have : (k.toNat = c) ↔ ((c : Int) = k) := by omega
    by_cases hc : (c : Int) = k
    · rw [decide_eq_true (this.2 hc), show ((c : Int) == k) = true from beq_iff_eq.2 hc]; simp
    · rw [decide_eq_false (fun e => hc (this.1 e)), show ((c : Int) == k) = false from beq_eq_false_iff_ne.2 hc]; simp
theorem mk_bit (row : List Int) (h : ∀ x ∈ row, 0 ≤ x ∧ x < 60) (c : Nat) : (mk row).testBit c = row.contains (c : Int) := by
  unfold mk
  rw [foldl_bit row h c 0]
  simp
theorem bit_test (row : List Int) (h : ∀ x ∈ row, 0 ≤ x ∧ x < 60) (c : Nat) (hc : c < 60) : (Go.bits .and .u64 (shr .u64 (maskOf row) (IntKind.u64.wrap (c : Int))) 1 = 1) ↔ row.contains (c : Int) = true := by
  obtain ⟨h1, h2⟩ := mask_mk row h
  have h3 : IntKind.u64.wrap (c : Int) = c := by rw [IntKind.wrap_u64]; omega
  rw [h1, h3]
  unfold shr
  have h4 : min (c : Int).toNat IntKind.u64.bits = c := by
    rw [Int.toNat_natCast]
    exact Nat.min_eq_left (by show c ≤ 64; omega)
  rw [h4, and_testbit (mk row) c (by omega), ← mk_bit row h c, Nat.testBit_eq_decide_div_mod_eq, Nat.shiftRight_eq_div_pow, decide_eq_true_eq]
  omega
theorem and_test (r s : List Int) (hr : ∀ x ∈ r, 0 ≤ x ∧ x < 60) (hs : ∀ x ∈ s, 0 ≤ x ∧ x < 60) : (Go.bits .and .u64 (maskOf r) (maskOf s) = 0) ↔ r.any s.contains = false := by
  obtain ⟨h1, h2⟩ := mask_mk r hr
  obtain ⟨h3, h4⟩ := mask_mk s hs
  rw [h1, h3, bits_and_u64_nat _ _ (by omega) (by omega)]
  constructor
  · intro h
    have h5 : mk r &&& mk s = 0 := by omega
    rw [List.any_eq_false]
    intro x hx hc
    have h6 := hr x hx
    have h7 : ((x.toNat : Nat) : Int) = x := by omega
    have h8 := congrArg (fun n => Nat.testBit n x.toNat) h5
    simp only [Nat.testBit_and, mk_bit r hr, mk_bit s hs, h7, Nat.zero_testBit] at h8
    rw [hc, List.contains_iff_mem.2 hx] at h8
    cases h8
  · intro h
    have h5 : mk r &&& mk s = 0 := by
      apply Nat.eq_of_testBit_eq
      intro c
      rw [Nat.testBit_and, mk_bit r hr, mk_bit s hs, Nat.zero_testBit]
      cases hc : r.contains (c : Int) with
      | false => rfl
      | true =>
        have h6 := (List.any_eq_false.1 h) (c : Int) (List.contains_iff_mem.1 hc)
        simpa using h6
    omega
/-! ### The columns' clauses -/
def updCols (i : Nat) (r : List Int) : Nat → Nat → List (List Int) → List (List Int)
  | _, 0, cs => cs
  | c, d + 1, cs => updCols i r (c + 1) d (if r.contains (c : Int) then cs.set c (cs.getD c [] ++ [(i : Int) + 1]) else cs)
theorem updCols_length (i : Nat) (r : List Int) (d : Nat) : ∀ c cs, (updCols i r c d cs).length = cs.length := by
  induction d with
  | zero => intro c cs; rfl
  | succ d ih =>
    intro c cs
    unfold updCols
    rw [ih]
    split <;> simp
theorem updCols_at (i : Nat) (r : List Int) (d : Nat) : ∀ c cs j, c + d ≤ cs.length → (updCols i r c d cs).getD j [] = if (c ≤ j ∧ j < c + d) ∧ r.contains (j : Int) = true then cs.getD j [] ++ [(i : Int) + 1] else cs.getD j [] := by
  induction d with
  | zero =>
    intro c cs j h
    rw [if_neg (by omega)]
    rfl
  | succ d ih =>
    intro c cs j h
    unfold updCols
    rw [ih _ _ _ (by split <;> (try rw [List.length_set]) <;> omega)]
    by_cases hj : j = c
    · subst hj
      rw [if_neg (by omega)]
      cases hc : r.contains (j : Int) with
      | true =>
        rw [if_pos rfl, if_pos ⟨by omega, rfl⟩]
        simp [List.getD_eq_getElem?_getD, List.getElem?_set_self (show j < cs.length by omega)]
      | false =>
        rw [if_neg (by decide), if_neg (by simp)]
    · have e : (if r.contains (c : Int) = true then cs.set c (cs.getD c [] ++ [(i : Int) + 1]) else cs).getD j [] = cs.getD j [] := by
        split
        · simp [List.getD_eq_getElem?_getD, List.getElem?_set_ne (Ne.symm hj)]
        · rfl
      rw [e]
      by_cases h2 : (c + 1 ≤ j ∧ j < c + 1 + d) ∧ r.contains (j : Int) = true
      · rw [if_pos h2, if_pos ⟨by omega, h2.2⟩]
      · rw [if_neg h2, if_neg (fun h3 => h2 ⟨by omega, h3.2⟩)]
theorem l1_ev (a b : Int) (rows : List (List Int)) (ms : List Int) (n : Int) (i : Nat) (r : List Int) (hr : ∀ x ∈ r, 0 ≤ x ∧ x < 60) (hi : i < 400) (hb : b ≤ 60) (v : Int) (q : Int × List (List Int) × Int) (d : Nat) : ∀ (c : Nat) (cs : List (List Int)), b = c + d → (cs.length : Int) = b → (∀ l ∈ cs, l.length ≤ i + 1) → (∀ j, c ≤ j → (cs.getD j []).length ≤ i) →
    Ev (fun k => impl_FormulaOfCover.l0 k ms ms n (wrap64 ((i : Int) + 1)) a b rows v (updCols i r c d cs)) q → Ev (fun k => impl_FormulaOfCover.l1 k ms (i : Int) (maskOf r) ms n (i : Int) b (c : Int) a b rows v cs) q := by
  induction d with
  | zero =>
    intro c cs hc hl hm hm2 hq
    refine Ev.step (f := fun k => impl_FormulaOfCover.l0 k ms ms n (wrap64 ((i : Int) + 1)) a b rows v cs) (fun k => ?_) (by simpa [updCols] using hq)
    simp only [impl_FormulaOfCover.l1]
    rw [if_neg (by omega)]
  | succ d ih =>
    intro c cs hc hl hm hm2 hq
    have hw : IntKind.u64.wrap (c : Int) = c := by rw [IntKind.wrap_u64]; omega
    unfold updCols at hq
    cases hcc : r.contains (c : Int) with
    | true =>
      rw [hcc, if_pos rfl] at hq
      have ht := (bit_test r hr c (by omega)).2 hcc
      have hcl := hm2 c (Nat.le_refl _)
      refine Ev.step (f := fun k => impl_FormulaOfCover.l1 k ms (i : Int) (maskOf r) ms n (i : Int) b ((c + 1 : Nat) : Int) a b rows v (cs.set c (cs.getD c [] ++ [(i : Int) + 1]))) (fun k => ?_) (ih (c + 1) _ (by omega) (by simp; omega) ?_ ?_ hq)
      · simp only [impl_FormulaOfCover.l1]
        have e3 : rd_L3 cs (c : Int) = cs.getD c [] := by simp [rd_L3]
        rw [if_pos (by omega), if_pos (by omega), if_pos ht, if_pos (by omega), if_pos (by omega), e3, if_pos (by omega), w_succ c (by omega), w_succ i (by omega), Int.toNat_natCast]
        rfl
      · intro l hl2
        rcases List.mem_or_eq_of_mem_set hl2 with h | h
        · exact hm l h
        · rw [h]; simp only [List.length_append, List.length_singleton]; omega
      · intro j hj
        have : (cs.set c (cs.getD c [] ++ [(i : Int) + 1])).getD j [] = cs.getD j [] := by
          simp [List.getD_eq_getElem?_getD, List.getElem?_set_ne (show c ≠ j by omega)]
        rw [this]
        exact hm2 j (by omega)
    | false =>
      rw [hcc, if_neg (by decide)] at hq
      have ht : ¬ (Go.bits .and .u64 (shr .u64 (maskOf r) (IntKind.u64.wrap (c : Int))) 1 = 1) := fun h => by
        have := (bit_test r hr c (by omega)).1 h
        rw [hcc] at this
        cases this
      refine Ev.step (f := fun k => impl_FormulaOfCover.l1 k ms (i : Int) (maskOf r) ms n (i : Int) b ((c + 1 : Nat) : Int) a b rows v cs) (fun k => ?_) (ih (c + 1) _ (by omega) hl hm (fun j hj => hm2 j (by omega)) hq)
      simp only [impl_FormulaOfCover.l1]
      rw [if_pos (by omega), if_pos (by omega), if_neg ht, w_succ c (by omega)]
def colsAfter (b : Nat) : Nat → List (List Int) → List (List Int) → List (List Int)
  | _, [], cs => cs
  | i, r :: rs, cs => colsAfter b (i + 1) rs (updCols i r 0 b cs)
theorem colsAfter_length (b : Nat) (rs : List (List Int)) : ∀ i cs, (colsAfter b i rs cs).length = cs.length := by
  induction rs with
  | nil => intro i cs; rfl
  | cons r rs ih =>
    intro i cs
    unfold colsAfter
    rw [ih, updCols_length]
theorem colsAfter_at (b : Nat) (rs : List (List Int)) : ∀ i cs j, cs.length = b → j < b → (colsAfter b i rs cs).getD j [] = cs.getD j [] ++ (idxFrom (j : Int) i rs).map (· + 1) := by
  induction rs with
  | nil => intro i cs j hl hj; simp [colsAfter, idxFrom]
  | cons r rs ih =>
    intro i cs j hl hj
    unfold colsAfter idxFrom
    rw [ih _ _ _ (by rw [updCols_length, hl]) hj, updCols_at i r b 0 cs j (by omega)]
    cases hc : r.contains (j : Int) with
    | true => rw [if_pos ⟨by omega, rfl⟩]; simp
    | false => rw [if_neg (by simp)]; simp
theorem colsFrom_at (rows : List (List Int)) (n : Nat) : ∀ c j, j < n → (colsFrom rows c n).getD j [] = clauseOf rows ((c + j : Nat) : Int) := by
  induction n with
  | zero => intro c j h; omega
  | succ n ih =>
    intro c j h
    unfold colsFrom
    cases j with
    | zero => simp
    | succ j =>
      rw [List.getD_cons_succ, ih _ _ (by omega)]
      congr 2
      omega
theorem cols_same (b : Nat) (rows : List (List Int)) : colsAfter b 0 rows (List.replicate b []) = colsFrom rows 0 b := by
  have h1 : (colsAfter b 0 rows (List.replicate b [])).length = b := by rw [colsAfter_length]; simp
  have h2 := colsFrom_length rows b 0
  apply List.ext_getElem
  · omega
  · intro j hj1 hj2
    have h3 := colsAfter_at b rows 0 (List.replicate b []) j (by simp) (by omega)
    have h4 := colsFrom_at rows b 0 j (by omega)
    rw [List.getD_eq_getElem?_getD, List.getElem?_eq_getElem hj1] at h3
    rw [List.getD_eq_getElem?_getD, List.getElem?_eq_getElem hj2] at h4
    simp only [Option.getD_some] at h3 h4
    rw [h3, h4]
    have h5 : (List.replicate b ([] : List Int)).getD j [] = [] := by
      rw [List.getD_eq_getElem?_getD]
      cases h : (List.replicate b ([] : List Int))[j]? with
      | none => rfl
      | some l =>
        have := List.mem_of_getElem? h
        rw [List.mem_replicate] at this
        simp [this.2]
    rw [h5]
    simp [clauseOf]
theorem l0_ev (a b : Int) (rows : List (List Int)) (hn : rows.length ≤ 400) (hr : ∀ row ∈ rows, ∀ x ∈ row, 0 ≤ x ∧ x < 60) (hb0 : 0 ≤ b) (hb : b ≤ 60) (v : Int) (q : Int × List (List Int) × Int) (rs : List (List Int)) : ∀ (i : Nat) (cs : List (List Int)), rows.drop i = rs → i ≤ rows.length → (cs.length : Int) = b → (∀ j, (cs.getD j []).length ≤ i) →
    Ev (fun k => impl_FormulaOfCover.l2 k (rows.map maskOf) (rows.map maskOf) (rows.length : Int) 0 v (colsAfter b.toNat i rs cs)) q → Ev (fun k => impl_FormulaOfCover.l0 k (rows.map maskOf) (rows.map maskOf) (rows.length : Int) (i : Int) a b rows v cs) q := by
  induction rs with
  | nil =>
    intro i cs h hi hl hm hq
    have := drop_nil h
    refine Ev.step (f := fun k => impl_FormulaOfCover.l2 k (rows.map maskOf) (rows.map maskOf) (rows.length : Int) 0 v cs) (fun k => ?_) (by simpa [colsAfter] using hq)
    simp only [impl_FormulaOfCover.l0]
    rw [if_neg (by omega), List.length_map]
  | cons r rs ih =>
    intro i cs h hi hl hm hq
    obtain ⟨hi, hy, hd⟩ := drop_facts h
    have hmi : rd (rows.map maskOf) (i : Int) = maskOf r := by
      rw [rd_at _ i (by simpa using hi)]
      simp [hy]
    refine Ev.step (f := fun k => impl_FormulaOfCover.l1 k (rows.map maskOf) (i : Int) (maskOf r) (rows.map maskOf) (rows.length : Int) (i : Int) b ((0 : Nat) : Int) a b rows v cs) (fun k => ?_) ?_
    · simp only [impl_FormulaOfCover.l0]
      rw [if_pos (by omega), if_pos (by omega), if_pos (by simp; omega), hmi]
      rfl
    · refine l1_ev a b rows (rows.map maskOf) (rows.length : Int) i r (hr r (hy ▸ List.getElem_mem hi)) (by omega) hb v q b.toNat 0 cs (by omega) hl ?_ (fun j _ => hm j) ?_
      · intro l hl2
        obtain ⟨j, hj, rfl⟩ := List.getElem_of_mem hl2
        have := hm j
        rw [List.getD_eq_getElem?_getD, List.getElem?_eq_getElem hj] at this
        simp only [Option.getD_some] at this
        omega
      · rw [w_succ i (by omega)]
        refine ih (i + 1) _ hd (by omega) (by rw [updCols_length]; exact hl) (fun j => ?_) (by simpa [colsAfter] using hq)
        rw [updCols_at i r b.toNat 0 cs j (by omega)]
        have := hm j
        split
        · simp only [List.length_append, List.length_singleton]; omega
        · omega
/-! ### The pairs' clauses -/
theorem l3_fit (rows : List (List Int)) (hn : rows.length ≤ 400) (hr : ∀ row ∈ rows, ∀ x ∈ row, 0 ≤ x ∧ x < 60) (v : Int) (i : Nat) (r : List Int) (hir : ∃ hi : i < rows.length, rows[i] = r) (q : Int × List (List Int) × Int) (ss : List (List Int)) : ∀ (j : Nat) (cs : List (List Int)), rows.drop j = ss → j ≤ rows.length → cs.length + (pairRow i r j ss).length ≤ 20000 →
    Ev (fun k => impl_FormulaOfCover.l2 k (rows.map maskOf) (rows.map maskOf) (rows.length : Int) ((i + 1 : Nat) : Int) v (cs ++ pairRow i r j ss)) q → Ev (fun k => impl_FormulaOfCover.l3 k (rows.map maskOf) (i : Int) (maskOf r) (j : Int) (rows.map maskOf) (rows.length : Int) (i : Int) v cs) q := by
  obtain ⟨hi, hir⟩ := hir
  induction ss with
  | nil =>
    intro j cs h hj hx hq
    have := drop_nil h
    refine Ev.step (f := fun k => impl_FormulaOfCover.l2 k (rows.map maskOf) (rows.map maskOf) (rows.length : Int) ((i + 1 : Nat) : Int) v cs) (fun k => ?_) (by simpa [pairRow] using hq)
    simp only [impl_FormulaOfCover.l3]
    rw [if_neg (by simp; omega), w_succ i (by omega)]
  | cons s ss ih =>
    intro j cs h hj hx hq
    obtain ⟨hj, hy, hd⟩ := drop_facts h
    have hmj : rd (rows.map maskOf) (j : Int) = maskOf s := by
      rw [rd_at _ j (by simpa using hj)]
      simp [hy]
    have ht := and_test r s (hr r (hir ▸ List.getElem_mem hi)) (hr s (hy ▸ List.getElem_mem hj))
    unfold pairRow at hq hx
    cases hc : r.any s.contains with
    | true =>
      rw [hc, if_pos rfl] at hq hx
      simp only [List.length_cons] at hx
      refine Ev.step (f := fun k => impl_FormulaOfCover.l3 k (rows.map maskOf) (i : Int) (maskOf r) ((j + 1 : Nat) : Int) (rows.map maskOf) (rows.length : Int) (i : Int) v (cs ++ [[-(i : Int) - 1, -(j : Int) - 1]])) (fun k => ?_) (ih (j + 1) _ hd (by omega) (by simp; omega) (by simpa [List.append_assoc] using hq))
      simp only [impl_FormulaOfCover.l3]
      rw [if_pos (by simp; omega), if_pos (by omega), hmj, if_neg (fun h => by rw [ht.1 h] at hc; cases hc), if_neg (by omega), if_pos (by omega), w_succ j (by omega), neg_one i (by omega), neg_one j (by omega)]
    | false =>
      rw [hc, if_neg (by decide)] at hq hx
      refine Ev.step (f := fun k => impl_FormulaOfCover.l3 k (rows.map maskOf) (i : Int) (maskOf r) ((j + 1 : Nat) : Int) (rows.map maskOf) (rows.length : Int) (i : Int) v cs) (fun k => ?_) (ih (j + 1) _ hd (by omega) hx hq)
      simp only [impl_FormulaOfCover.l3]
      rw [if_pos (by simp; omega), if_pos (by omega), hmj, if_pos (ht.2 hc), w_succ j (by omega)]
theorem l3_over (rows : List (List Int)) (hn : rows.length ≤ 400) (hr : ∀ row ∈ rows, ∀ x ∈ row, 0 ≤ x ∧ x < 60) (v : Int) (i : Nat) (r : List Int) (hir : ∃ hi : i < rows.length, rows[i] = r) (ss : List (List Int)) : ∀ (j : Nat) (cs : List (List Int)), rows.drop j = ss → j ≤ rows.length → cs.length ≤ 20000 → 20000 < cs.length + (pairRow i r j ss).length →
    Ev (fun k => impl_FormulaOfCover.l3 k (rows.map maskOf) (i : Int) (maskOf r) (j : Int) (rows.map maskOf) (rows.length : Int) (i : Int) v cs) (0, [], 3) := by
  obtain ⟨hi, hir⟩ := hir
  induction ss with
  | nil => intro j cs h hj hl hx; simp [pairRow] at hx; omega
  | cons s ss ih =>
    intro j cs h hj hl hx
    obtain ⟨hj, hy, hd⟩ := drop_facts h
    have hmj : rd (rows.map maskOf) (j : Int) = maskOf s := by
      rw [rd_at _ j (by simpa using hj)]
      simp [hy]
    have ht := and_test r s (hr r (hir ▸ List.getElem_mem hi)) (hr s (hy ▸ List.getElem_mem hj))
    unfold pairRow at hx
    cases hc : r.any s.contains with
    | true =>
      rw [hc, if_pos rfl] at hx
      simp only [List.length_cons] at hx
      by_cases h2 : cs.length = 20000
      · refine Ev.step (f := fun _ => some (0, [], 3)) (fun k => ?_) (Ev.now _)
        simp only [impl_FormulaOfCover.l3]
        rw [if_pos (by simp; omega), if_pos (by omega), hmj, if_neg (fun h => by rw [ht.1 h] at hc; cases hc), if_pos (by omega)]
      · refine Ev.step (f := fun k => impl_FormulaOfCover.l3 k (rows.map maskOf) (i : Int) (maskOf r) ((j + 1 : Nat) : Int) (rows.map maskOf) (rows.length : Int) (i : Int) v (cs ++ [[-(i : Int) - 1, -(j : Int) - 1]])) (fun k => ?_) (ih (j + 1) _ hd (by omega) (by simp; omega) (by simp; omega))
        simp only [impl_FormulaOfCover.l3]
        rw [if_pos (by simp; omega), if_pos (by omega), hmj, if_neg (fun h => by rw [ht.1 h] at hc; cases hc), if_neg (by omega), if_pos (by omega), w_succ j (by omega), neg_one i (by omega), neg_one j (by omega)]
    | false =>
      rw [hc, if_neg (by decide)] at hx
      refine Ev.step (f := fun k => impl_FormulaOfCover.l3 k (rows.map maskOf) (i : Int) (maskOf r) ((j + 1 : Nat) : Int) (rows.map maskOf) (rows.length : Int) (i : Int) v cs) (fun k => ?_) (ih (j + 1) _ hd (by omega) hl hx)
      simp only [impl_FormulaOfCover.l3]
      rw [if_pos (by simp; omega), if_pos (by omega), hmj, if_pos (ht.2 hc), w_succ j (by omega)]
/-- An instance's formula, or the code of too many clauses. -/
def limited (n : Int) (cs : List (List Int)) : Int × List (List Int) × Int := if cs.length ≤ 20000 then (n, cs, 0) else (0, [], 3)
theorem l2_ev (rows : List (List Int)) (hn : rows.length ≤ 400) (hr : ∀ row ∈ rows, ∀ x ∈ row, 0 ≤ x ∧ x < 60) (v : Int) (rs : List (List Int)) : ∀ (i : Nat) (cs : List (List Int)), rows.drop i = rs → i ≤ rows.length → cs.length ≤ 20000 →
    Ev (fun k => impl_FormulaOfCover.l2 k (rows.map maskOf) (rows.map maskOf) (rows.length : Int) (i : Int) v cs) (limited v (cs ++ pairsFrom i rs)) := by
  induction rs with
  | nil =>
    intro i cs h hi hl
    have := drop_nil h
    refine Ev.step (f := fun _ => some (v, cs, 0)) (fun k => ?_) (by simpa [pairsFrom, limited, hl] using Ev.now (v, cs, (0 : Int)))
    simp only [impl_FormulaOfCover.l2]
    rw [if_neg (by omega)]
  | cons r rs ih =>
    intro i cs h hi hl
    obtain ⟨hi, hy, hd⟩ := drop_facts h
    have hmi : rd (rows.map maskOf) (i : Int) = maskOf r := by
      rw [rd_at _ i (by simpa using hi)]
      simp [hy]
    refine Ev.step (f := fun k => impl_FormulaOfCover.l3 k (rows.map maskOf) (i : Int) (maskOf r) ((i + 1 : Nat) : Int) (rows.map maskOf) (rows.length : Int) (i : Int) v cs) (fun k => ?_) ?_
    · simp only [impl_FormulaOfCover.l2]
      rw [if_pos (by omega), if_pos (by omega), if_pos (by simp; omega), hmi, w_succ i (by omega)]
    · unfold pairsFrom
      by_cases h2 : cs.length + (pairRow i r (i + 1) rs).length ≤ 20000
      · refine l3_fit rows hn hr v i r ⟨hi, hy⟩ _ rs (i + 1) cs hd (by omega) h2 ?_
        have := ih (i + 1) (cs ++ pairRow i r (i + 1) rs) hd (by omega) (by simp; omega)
        rw [List.append_assoc] at this
        exact this
      · have e : limited v (cs ++ (pairRow i r (i + 1) rs ++ pairsFrom (i + 1) rs)) = (0, [], 3) := by
          unfold limited
          rw [if_neg (by simp; omega)]
        rw [e]
        exact l3_over rows hn hr v i r ⟨hi, hy⟩ rs (i + 1) cs hd (by omega) hl (by omega)
/-- What both return. -/
def formulaOf (a b : Int) (rows : List (List Int)) : Int × List (List Int) × Int := if isCoverB a b rows = true then limited (rows.length : Int) (colsFrom rows 0 b.toNat ++ pairsFrom 0 rows) else (0, [], 1)
theorem implF_ev (a b : Int) (rows : List (List Int)) : Ev (fun k => impl_FormulaOfCover.f k a b rows) (formulaOf a b rows) := by
  unfold formulaOf
  by_cases h : isCoverB a b rows = true
  · have hc := cov_of a b rows h
    have hb1 := hc.b1
    have hb2 := hc.b2
    have ha2 := hc.a2
    have hn := hc.n
    have hr : ∀ row ∈ rows, ∀ x ∈ row, 0 ≤ x ∧ x < 60 := fun row hrow x hx => by
      have := (hc.rows row hrow).2.2.2 x hx
      omega
    rw [if_pos h]
    refine Ev.congr (f := fun k => impl_FormulaOfCover.l0 k (rows.map maskOf) (rows.map maskOf) (rows.length : Int) ((0 : Nat) : Int) a b rows (rows.length : Int) (List.replicate b.toNat [])) (fun k => ?_) ?_
    · unfold impl_FormulaOfCover.f impl_IsCover.f
      simp only [h, Option.bind_some, if_true]
      rw [if_pos (by omega), if_pos (by omega)]
      unfold impl_newCoverSearch.f
      rw [if_pos (by omega)]
      simp only [Option.bind_some, List.length_map]
      rfl
    · refine l0_ev a b rows hn hr (by omega) (by omega) (rows.length : Int) _ rows 0 _ rfl (by omega) (by simp; omega) (fun j => ?_) ?_
      · have : (List.replicate b.toNat ([] : List Int)).getD j [] = [] := by
          rw [List.getD_eq_getElem?_getD]
          cases h : (List.replicate b.toNat ([] : List Int))[j]? with
          | none => rfl
          | some l =>
            have := List.mem_of_getElem? h
            rw [List.mem_replicate] at this
            simp [this.2]
        rw [this]
        simp
      · rw [cols_same]
        exact l2_ev rows hn hr (rows.length : Int) rows 0 _ rfl (by omega) (by rw [colsFrom_length]; omega)
  · rw [if_neg h]
    refine Ev.congr (f := fun _ => some (0, [], 1)) (fun k => ?_) (Ev.now _)
    unfold impl_FormulaOfCover.f impl_IsCover.f
    simp only [Option.bind_some]
    rw [if_neg h]
theorem specF_ev (a b : Int) (rows : List (List Int)) : Ev (fun k => spec_FormulaOfCover.f k a b rows) (formulaOf a b rows) := by
  unfold formulaOf spec_FormulaOfCover.f
  refine Ev.bind (specIsCover_ev a b rows) ?_
  by_cases h : isCoverB a b rows = true
  · rw [if_pos h]
    refine Ev.congr (fun k => if_pos h) (Ev.bind (specFormula_ev a b rows (cov_of a b rows h)) ?_)
    unfold limited
    by_cases h2 : (colsFrom rows 0 b.toNat ++ pairsFrom 0 rows).length ≤ 20000
    · rw [if_pos h2]
      exact Ev.congr (fun k => if_neg (by show ¬ (((colsFrom rows 0 b.toNat ++ pairsFrom 0 rows).length : Int) > 20000); omega)) (Ev.now _)
    · rw [if_neg h2]
      exact Ev.congr (fun k => if_pos (by show (((colsFrom rows 0 b.toNat ++ pairsFrom 0 rows).length : Int) > 20000); omega)) (Ev.now _)
  · rw [if_neg h]
    exact Ev.congr (fun k => if_neg h) (Ev.now _)
/-! ### Alike -/
theorem likeInts_ev (l : List Int) (hl : l.length ≤ 1000000) (r : List Int) : ∀ i : Nat, l.drop i = r → i ≤ l.length → Ev (fun k => laws_likeInts.l0 k l l (i : Int)) true := by
  induction r with
  | nil =>
    intro i h hi
    have := drop_nil h
    refine Ev.step (f := fun _ => some true) (fun k => ?_) (Ev.now _)
    simp only [laws_likeInts.l0]
    rw [if_neg (by omega)]
  | cons y r ih =>
    intro i h hi
    obtain ⟨hi, hy, hd⟩ := drop_facts h
    refine Ev.step (f := fun k => laws_likeInts.l0 k l l ((i + 1 : Nat) : Int)) (fun k => ?_) (ih (i + 1) hd (by omega))
    simp only [laws_likeInts.l0]
    rw [if_pos (by omega), if_pos (by omega), if_pos (by omega), if_pos trivial, w_succ i (by omega)]
theorem likeLists_ev (l : List (List Int)) (hl : l.length ≤ 1000000) (hm : ∀ x ∈ l, x.length ≤ 1000000) (r : List (List Int)) : ∀ i : Nat, l.drop i = r → i ≤ l.length → Ev (fun k => laws_likeLists.l0 k l l (i : Int)) true := by
  induction r with
  | nil =>
    intro i h hi
    have := drop_nil h
    refine Ev.step (f := fun _ => some true) (fun k => ?_) (Ev.now _)
    simp only [laws_likeLists.l0]
    rw [if_neg (by omega)]
  | cons y r ih =>
    intro i h hi
    obtain ⟨hi, hy, hd⟩ := drop_facts h
    have h1 : Ev (fun k => laws_likeInts.f k y y) true := by
      unfold laws_likeInts.f
      exact Ev.congr (fun k => if_pos rfl) (likeInts_ev y (hm y (hy ▸ List.getElem_mem hi)) y 0 rfl (by omega))
    refine Ev.step (f := fun k => (laws_likeInts.f k y y).bind fun t182 => if t182 = true then laws_likeLists.l0 k l l ((i + 1 : Nat) : Int) else some false) (fun k => ?_) (Ev.bind h1 ?_)
    · simp only [laws_likeLists.l0]
      rw [if_pos (by omega), if_pos (by omega), if_pos (by omega), rd3_at _ _ hi, hy, w_succ i (by omega)]
    · simpa using ih (i + 1) hd (by omega)
theorem like_ev (n : Int) (l : List (List Int)) (hl : l.length ≤ 1000000) (hm : ∀ x ∈ l, x.length ≤ 1000000) : Ev (fun k => laws_likeFormulas.f k n l n l) true := by
  unfold laws_likeFormulas.f laws_likeLists.f
  refine Ev.congr (fun k => if_pos rfl) (Ev.bind (a := true) (Ev.congr (fun k => if_pos rfl) (likeLists_ev l hl hm l 0 rfl (by omega))) (Ev.now _))
theorem pairRow_mem (i : Nat) (r : List Int) (ss : List (List Int)) : ∀ j, ∀ c ∈ pairRow i r j ss, ∃ m : Nat, j ≤ m ∧ m < j + ss.length ∧ c = [-(i : Int) - 1, -(m : Int) - 1] := by
  induction ss with
  | nil => intro j c h; simp [pairRow] at h
  | cons s ss ih =>
    intro j c h
    unfold pairRow at h
    simp only [List.length_cons]
    split at h
    · rcases List.mem_cons.1 h with rfl | h
      · exact ⟨j, by omega, by omega, rfl⟩
      · obtain ⟨m, h1, h2, h3⟩ := ih (j + 1) c h
        exact ⟨m, by omega, by omega, h3⟩
    · obtain ⟨m, h1, h2, h3⟩ := ih (j + 1) c h
      exact ⟨m, by omega, by omega, h3⟩
theorem pairsFrom_mem (rs : List (List Int)) : ∀ i, ∀ c ∈ pairsFrom i rs, ∃ j m : Nat, i ≤ j ∧ j < m ∧ m < i + rs.length ∧ c = [-(j : Int) - 1, -(m : Int) - 1] := by
  induction rs with
  | nil => intro i c h; simp [pairsFrom] at h
  | cons r rs ih =>
    intro i c h
    unfold pairsFrom at h
    simp only [List.length_cons]
    rcases List.mem_append.1 h with h | h
    · obtain ⟨m, h1, h2, h3⟩ := pairRow_mem i r rs (i + 1) c h
      exact ⟨i, m, by omega, by omega, by omega, h3⟩
    · obtain ⟨j, m, h1, h2, h3, h4⟩ := ih (i + 1) c h
      exact ⟨j, m, by omega, by omega, by omega, h4⟩
theorem colsFrom_mem (rows : List (List Int)) (n : Nat) : ∀ c, ∀ l ∈ colsFrom rows c n, ∃ j : Nat, c ≤ j ∧ j < c + n ∧ l = clauseOf rows (j : Int) := by
  induction n with
  | zero => intro c l h; simp [colsFrom] at h
  | succ n ih =>
    intro c l h
    unfold colsFrom at h
    rcases List.mem_cons.1 h with rfl | h
    · exact ⟨c, by omega, by omega, rfl⟩
    · obtain ⟨j, h1, h2, h3⟩ := ih (c + 1) l h
      exact ⟨j, by omega, by omega, h3⟩
theorem formulaOf_sizes (a b : Int) (rows : List (List Int)) : (formulaOf a b rows).2.1.length ≤ 1000000 ∧ ∀ x ∈ (formulaOf a b rows).2.1, x.length ≤ 1000000 := by
  unfold formulaOf
  by_cases h : isCoverB a b rows = true
  · have hc := cov_of a b rows h
    rw [if_pos h]
    unfold limited
    split
    · rename_i hle
      refine ⟨by show (colsFrom rows 0 b.toNat ++ pairsFrom 0 rows).length ≤ 1000000; omega, fun x hx => ?_⟩
      rcases List.mem_append.1 hx with hx | hx
      · obtain ⟨j, _, _, rfl⟩ := colsFrom_mem rows _ 0 x hx
        have h1 := idxFrom_length (j : Int) rows 0
        have h2 := hc.n
        simp only [clauseOf, List.length_map]
        omega
      · obtain ⟨j, m, _, _, _, rfl⟩ := pairsFrom_mem rows 0 x hx
        simp
    · simp
  · rw [if_neg h]
    simp
end Go.Proofs.YtmchbkjjpeiedaaDoor.DFnCoverFormulas
