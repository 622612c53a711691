-- Written by drive.py (wip/tool): the kit's print with texts of my own beside it.
import Derived.Test.YtmchbkjjpeiedaaDoorDFnCoverFormulasx0
import Derived.Test.YtmchbkjjpeiedaaDoorDFnCoverFormulasx1
import Derived.Test.YtmchbkjjpeiedaaDoorDFnCoverFormulasx2
import Derived.Test.YtmchbkjjpeiedaaDoorDFnCoverFormulasx7
namespace Go.Proofs.YtmchbkjjpeiedaaDoor.DFnCoverFormulas
open Go.RowKit Go.Proofs.YtmchbkjjpeiedaaDoorW.PrintWords Go.Proofs.YtmchbkjjpeiedaaDoorW.PrintLast Go.Proofs.YtmchbkjjpeiedaaDoorW.PrintMore Go.Proofs.YtmchbkjjpeiedaaDoorH
attribute [local go_sem] max2_int min2_int max_two min_two max_three min_three max_four min_four   -- for this text's walks alone
set_option linter.unusedVariables false
set_option linter.unusedSimpArgs false

/-! ### spec_DrawFormulaOfCover: function 7 -/
def spec_DrawFormulaOfCover.f (l0 : List Int) : Option (Int × Int × List (List Int)) := none
theorem from_total (l : List Int) (hl : l.length ≤ 9223372036854775807) (hb : ∀ x ∈ l, 0 ≤ x ∧ x ≤ 255) (d : Nat) : ∀ (k : Nat) (i s : Int), 0 ≤ i → i ≤ l.length → i ≤ 64 → 64 - i = d → d < k → (0 ≤ s ∧ s < 2147483647) →
    ∃ r : Int, spec_l01From.l0 k l i l 0 s = some (l, 0, r) ∧ (0 ≤ r ∧ r < 2147483647) := by
  induction d with
  | zero =>
    intro k i s h0 h1 h2 hd hk hs
    obtain ⟨k, rfl⟩ : ∃ m, k = m + 1 := ⟨k - 1, by omega⟩
    refine ⟨s, ?_, hs⟩
    simp only [spec_l01From.l0]
    by_cases c : i < (l.length : Int)
    · rw [if_pos c, if_neg (by omega)]
    · rw [if_neg c]
  | succ d ih =>
    intro k i s h0 h1 h2 hd hk hs
    obtain ⟨k, rfl⟩ : ∃ m, k = m + 1 := ⟨k - 1, by omega⟩
    by_cases c : i < (l.length : Int)
    · have hr := rd_in hb i
      have w1 : wrap64 (i + 1) = i + 1 := by unfold wrap64; omega
      have w2 : wrap64 (s * 47) = s * 47 := by unfold wrap64; omega
      have w3 : wrap64 (rd l i) = rd l i := by unfold wrap64; omega
      have w4 : wrap64 (s * 47 + rd l i) = s * 47 + rd l i := by unfold wrap64; omega
      have w5 : Int.tmod (s * 47 + rd l i) 2147483647 = (s * 47 + rd l i) % 2147483647 := Int.tmod_eq_emod_of_nonneg (by omega)
      obtain ⟨r, hr1, hr2⟩ := ih k (i + 1) ((s * 47 + rd l i) % 2147483647) (by omega) (by omega) (by omega) (by omega) (by omega) (by omega)
      refine ⟨r, ?_, hr2⟩
      simp only [spec_l01From.l0]
      rw [if_pos c, if_pos (by omega), if_pos h0, w1, w2, w3, w4, w5]
      exact hr1
    · refine ⟨s, ?_, hs⟩
      simp only [spec_l01From.l0]
      rw [if_neg c]
theorem from_src (A0 : Option Addr) (c0 : Nat) (l0 : List Int) (w0 w : World) (hB : Below w0.heap.size w0 w) (hr0 : Kd.C (Kd.int .u8) w0 A0 l0.length l0) (hc0 : l0.length ≤ c0) (hb : ∀ x ∈ l0, 0 ≤ x ∧ x ≤ 255) :
    Calls Tryd.prog 38 #[.slice A0 l0.length c0] w fun e w' => ∃ g : Nat, e = .returned (.pointer (some ⟨g, 0, none⟩)) ∧ Src w0 w' g ∧ Below w0.heap.size w0 w' ∧ Below w.heap.size w w' := by
  obtain ⟨r, h1, h2⟩ := from_total l0 hr0.2.1 hb 64 65 0 61003 (by omega) (by omega) (by omega) (by omega) (by omega) (by omega)
  exact (spec_l01From.calls 65 A0 c0 l0 l0 0 r w0 w hB hr0 hc0 h1).mono fun e w' ⟨g, he, hI, hb1, hb2⟩ => ⟨g, he, ⟨l0, 0, r, hI, Int.le_refl _, h2, hb⟩, hb1, hb2⟩
theorem src_blk {w0 w : World} {g : Nat} (h : Src w0 w g) : ∃ cs, w.heap[g]? = some (.cells cs 101 (0, 0)) := by
  obtain ⟨_, _, _, ⟨A0, c0, h1, _⟩, _⟩ := h
  exact ⟨_, h1⟩
theorem src_ge {w0 w : World} {g : Nat} (h : Src w0 w g) : w0.heap.size ≤ g := by
  obtain ⟨_, _, _, ⟨A0, c0, _, h2, _⟩, _⟩ := h
  exact h2
/-- Some instance, new, that only new memory holds. -/
def CoverOut (w : World) (e : Ending) (w' : World) : Prop := ∃ (a b : Int) (v : Value) (rows : List (List Int)), e = .returned (.agg #[.int .i64 a, .int .i64 b, v]) ∧ Kd.V (Kd.slice 2 (Kd.int .i64)) 36 w' w.heap.size (fun k => w.heap.size ≤ k) v rows ∧ Below w.heap.size w w'
set_option maxHeartbeats 2000000 in
set_option maxRecDepth 100000 in
theorem drawOf_walk (A0 : Option Addr) (c0 : Nat) (l0 : List Int) (w : World) (hr0 : Kd.C (Kd.int .u8) w A0 l0.length l0) (hc0 : l0.length ≤ c0) (hb : ∀ x ∈ l0, 0 ≤ x ∧ x ≤ 255) :
    Calls Tryd.prog 7 #[.slice A0 l0.length c0] w (CoverOut w) := by
  have hu := Tryd.underlying26
  have HR0 := Aside0.mk hr0
  have HC0 := Aside0.mk hc0
  have HB0 := Aside0.mk hb
  obtain ⟨wE, rfl⟩ : ∃ wE : World, wE = w := ⟨_, rfl⟩
  clear hr0 hc0 hb
  go_enter Tryd.func7, Tryd.ntmps7
  go_wp2_with (fail)
  have HBw := Aside0.mk (show Below wE.heap.size wE (wE.alloc (.cells #[.int .i64 0, .int .i64 0, .slice none 0 0] 26)) from below_alloc (Below.refl _ _) _)
  have HCr := Aside0.mk (heap_alloc_new wE (.cells #[.int .i64 0, .int .i64 0, .slice none 0 0] 26))
  have HSr : Aside0 ((wE.alloc (.cells #[.int .i64 0, .int .i64 0, .slice none 0 0] 26)).heap.size = wE.heap.size + 1) := ⟨by simp⟩
  generalize wE.alloc (.cells #[.int .i64 0, .int .i64 0, .slice none 0 0] 26) = w at HBw HCr HSr ⊢
  (with_reducible refine (from_src A0 c0 l0 wE w HBw.out HR0.out HC0.out HB0.out).mono ?_)
  rintro e w1 ⟨gs, rfl, hs, hb1, hb2⟩
  have HS1 := Aside0.mk hs
  have HB1 := Aside0.mk hb1
  have HCr1 := Aside0.mk (blk_below HCr.out hb2)
  have HZ1 := Aside0.mk hb2.size
  obtain ⟨cs, hcs⟩ := src_blk hs
  have hne : wE.heap.size ≠ gs := blk_ne HCr1.out hcs (by decide)
  have HGl := Aside0.mk (blk_lt hcs)
  have HGs := Aside0.mk (src_ge hs)
  clear hs hb1 hb2 hcs cs HCr HBw
  go_wp2_with (fail)
  (with_reducible refine (next_src gs 40 wE w1 HS1.out HB1.out).mono ?_)
  rintro e w2 ⟨x, rfl, ⟨hx1, hx2⟩, hs1, hb1, hk1⟩
  have HS2 := Aside0.mk hs1
  have HB2 := Aside0.mk hb1
  have HCr2 := Aside0.mk (blk_next HCr1.out hk1 hne)
  have HZ2 := Aside0.mk (Nat.le_trans HZ1.out hk1.1)
  have HGl2 := Aside0.mk (Nat.lt_of_lt_of_le HGl.out hk1.1)
  clear hs1 hb1 hk1 HS1 HB1 HCr1 HZ1 HGl
  by_cases q0 : x = 0
  · have d0 : (x == 0) = true := by rw [beq_iff_eq]; exact q0
    clear q0
    go_wp2_with (fail)
    have HI3 := Aside0.mk (inv_below (w := w2) ⟨HS2.out, HB2.out, KeepBut.refl _ _ _⟩ (below_alloc (Below.refl _ _) (.cells #[] 36)))
    have HN3 := Aside0.mk (Kd.N_mono (Kd.R_N (Kd.R_bound (R_empty (Kd.slice 2 (Kd.int .i64)) 36 w2.heap.size w2.heap.size w2 rfl (Nat.le_refl _)))) (ok' := fun k => w2.heap.size ≤ k) (fun _ hk => hk.2.1))
    clear HS2 HB2
    (with_reducible refine (next_src gs 3 wE _ (inv_src HI3.out) (inv_base HI3.out)).mono ?_)
    rintro e w3 ⟨y, rfl, ⟨hy1, hy2⟩, hs1, hb1, hk1⟩
    replace hy2 := hy2 (by omega)
    have HI4 := Aside0.mk (inv_next HI3.out hs1 hb1 hk1)
    have HN4 := Aside0.mk (Kd.N_keep HN3.out hk1 (fun k hk => by have := HGl2.out; omega))
    clear hs1 hb1 hk1 HI3 HN3
    obtain ⟨nn, hnn⟩ : ∃ nn : Nat, 199 + y = nn := ⟨(199 + y).toNat, by omega⟩
    have hn201 : nn ≤ 201 := by omega
    go_wp2_with (fail)
    clear hnn hy1 hy2
    go_loopg [4, 5] (201) (fun kq v4 v5 w' => ∃ (kk : Nat) (rows : List (List Int)), kk ≤ kq ∧ kk ≤ 201 ∧ v5 = .int .i64 kk ∧ rows.length + kk ≤ 201 ∧ Aside0 (Inv wE w2 gs w') ∧ Aside0 (Kd.N (Kd.slice 2 (Kd.int .i64)) 36 w' w2.heap.size (fun k => w2.heap.size ≤ k) v4 rows))
    case atStart => exact ⟨nn, [], by omega, by omega, rfl, by simp; omega, HI4, HN4⟩
    case round =>
      clear HI4 HN4
      obtain ⟨kk, rows, hq, hkk, rfl, hlen, HI, HN⟩ := hrel
      obtain ⟨A4, c4, rfl⟩ := Kd.N_slice HN.out
      by_cases hlt : 0 < (kk : Int)
      · have hdk : decide (0 < (kk : Int)) = true := decide_eq_true hlt
        have hdk2 : decide (0 < kk) = true := decide_eq_true (by omega)
        have HIc := Aside0.mk (inv_below HI.out (below_alloc (Below.refl _ _) (.cells #[.int .i64 0] 2)))
        have HNc := Aside0.mk (Kd.N_alloc HN.out (.cells #[.int .i64 0] 2))
        have HLc := Aside0.mk (V_ints wr 2 0 [0] (by simp))
        have HNl := Aside0.mk (Kd.N_lt HN.out)
        have HSb := Aside0.mk (inv_size HI.out)
        clear HI HN
        go_wp2_with ((with_reducible refine gate_builtin (b := .append) (xs := #[.tmp 19, .tmp 21]) rfl ?_); at_builtin; refine Kd.N_append (Kd.slice 2 (Kd.int .i64)) (w0 := wr.alloc (.cells #[.int .i64 0] 2)) w2.heap.size rfl (.tmp 19) (.tmp 21) 24 36 (.slice none 0 0) 24 rfl Tryd.underlying24 info36 rfl (by decide) (by omega) (.slice A4 rows.length c4) rows [0] [.slice (some ⟨wr.heap.size, 0, none⟩) 1 1] (fun k => w2.heap.size ≤ k) (fun k => k = wr.heap.size) rfl (by first | (go_simp; done) | (go_simp; rfl)) ?aP ?aK ?aF ?aO ?aB ?aS ?aL ?_; (case aP => exact V_FK HLc.out); (case aK => exact (fun k hk => ⟨by have h2_ := HSb.out; omega, fun e_ => by have h3_ := HNl.out k e_.symm; omega⟩)); (case aF => exact (fun k hk => by have h2_ := HSb.out; simp at hk; omega)); (case aO => exact HNc.out); (case aB => exact Below.refl _ _); (case aS => exact (inv_size HIc.out)); (case aL => omega); intro v1 w1 ho hb hg hat; have HI1 := Aside0.mk (inv_grow HIc.out hb HGl2.out (Nat.le_trans (by have h2_ := HSr.out; omega) HZ2.out)); have HN1 := Aside0.mk ho; clear ho hb hg hat)
        go_roundg (kk - 1)
        case measure => omega
        case rel => exact ⟨kk - 1, rows ++ [[0]], by omega, by omega, by congr 1; omega, by rw [List.length_append, List.length_singleton]; omega, HI1, HN1⟩
      · have hdk : decide (0 < (kk : Int)) = false := decide_eq_false hlt
        have hdk2 : decide (0 < kk) = false := decide_eq_false (by omega)
        have HCw := Aside0.mk ((HI.out.2.2.2 wE.heap.size (blk_lt HCr2.out) hne (by simp)).trans HCr2.out)
        have hr0 : wr.cell? ⟨wE.heap.size, 0, none⟩ = some (.int .i64 0) := (blk_cell HCw.out 0).trans rfl
        have hr1 : wr.cell? ⟨wE.heap.size, 1, none⟩ = some (.int .i64 0) := (blk_cell HCw.out 1).trans rfl
        have hr2 : wr.cell? ⟨wE.heap.size, 2, none⟩ = some (.slice none 0 0) := (blk_cell HCw.out 2).trans rfl
        have hf0 := blk_frozen HCw.out 0
        have hf1 := blk_frozen HCw.out 1
        have hf2 := blk_frozen HCw.out 2
        go_wp2_with (fail)
        refine bodyPost_ret (v := .agg #[.int .i64 1, .int .i64 1, .slice A4 rows.length c4]) (by simp [results, Tryd.results7, go_sem, hr0, hr1, hr2, hf0, hf1, hf2]) rfl ⟨1, 1, _, rows, rfl, ?_, ?_⟩
        · refine Kd.V_mono (Kd.V_far (Kd.V_far (Kd.V_far (Kd.N_V HN.out) (p := ⟨wE.heap.size, 0, none⟩) (fun k hk => ?_) _) (p := ⟨wE.heap.size, 1, none⟩) (fun k hk => ?_) _) (p := ⟨wE.heap.size, 2, none⟩) (fun k hk => ?_) _) (fun k hk => ?_)
          all_goals (have := HSr.out; have := HZ2.out; simp at hk ⊢; omega)
        · exact (((inv_base HI.out).setCell (Nat.le_refl _) _).setCell (Nat.le_refl _) _).setCell (Nat.le_refl _) _
  · have d0 : (x == 0) = false := by rw [beq_eq_false_iff_ne]; exact q0
    clear q0
    go_wp2_with (fail)
    (with_reducible refine (draw_walk gs wE w2 HS2.out HB2.out HGl2.out).mono ?_)
    rintro e w3 ⟨ca, cb, v, rows, rfl, hV, hI⟩
    obtain ⟨A6, c6, rfl⟩ := Kd.V_slice hV
    have HV := Aside0.mk hV
    have HI := Aside0.mk hI
    clear hV hI
    have HCw := Aside0.mk ((HI.out.2.2.2 wE.heap.size (blk_lt HCr2.out) hne (by simp)).trans HCr2.out)
    have hr0 : w3.cell? ⟨wE.heap.size, 0, none⟩ = some (.int .i64 0) := (blk_cell HCw.out 0).trans rfl
    have hr1 : w3.cell? ⟨wE.heap.size, 1, none⟩ = some (.int .i64 0) := (blk_cell HCw.out 1).trans rfl
    have hr2 : w3.cell? ⟨wE.heap.size, 2, none⟩ = some (.slice none 0 0) := (blk_cell HCw.out 2).trans rfl
    have hf0 := blk_frozen HCw.out 0
    have hf1 := blk_frozen HCw.out 1
    have hf2 := blk_frozen HCw.out 2
    go_wp2_with (fail)
    refine bodyPost_ret (v := .agg #[.int .i64 ca, .int .i64 cb, .slice A6 rows.length c6]) (by simp [results, Tryd.results7, go_sem, hr0, hr1, hr2, hf0, hf1, hf2]) rfl ⟨ca, cb, _, rows, rfl, ?_, ?_⟩
    · refine Kd.V_mono (Kd.V_far (Kd.V_far (Kd.V_far HV.out (p := ⟨wE.heap.size, 0, none⟩) (fun k hk => ?_) _) (p := ⟨wE.heap.size, 1, none⟩) (fun k hk => ?_) _) (p := ⟨wE.heap.size, 2, none⟩) (fun k hk => ?_) _) (fun k hk => ?_)
      all_goals (have := HSr.out; have := HZ2.out; simp at hk ⊢; omega)
    · exact (((inv_base HI.out).setCell (Nat.le_refl _) _).setCell (Nat.le_refl _) _).setCell (Nat.le_refl _) _

/-! ### impl_within: function 59 -/
def impl_within.f (a0 a1 a2 : Int) : Option Bool := some (decide (a1 ≤ a0 ∧ a0 ≤ a2))
theorem impl_within.calls (a0 : Int) (a1 : Int) (a2 : Int) (r : Bool) (w : World) (h : impl_within.f a0 a1 a2 = some r) :
    Calls Tryd.prog 59 #[.int .i64 a0, .int .i64 a1, .int .i64 a2] w fun e w' => e = .returned (.bool r) ∧ Drawn0 w w' := by
  obtain rfl := Option.some.inj h
  by_cases h1 : a1 ≤ a0
  · have h1d := decide_eq_true h1
    have HF : Aside0 (decide (a1 ≤ a0 ∧ a0 ≤ a2) = decide (a0 ≤ a2)) := ⟨by simp [h1]⟩
    clear h h1
    go_enter Tryd.func59, Tryd.ntmps59
    go_wp2
    go_ret
    exact ⟨by rw [HF.out]; rfl, Drawn0.refl _⟩
  · have h1d := decide_eq_false h1
    have HF : Aside0 (decide (a1 ≤ a0 ∧ a0 ≤ a2) = false) := ⟨by simp [h1]⟩
    clear h h1
    go_enter Tryd.func59, Tryd.ntmps59
    go_wp2
    go_ret
    exact ⟨by rw [HF.out]; rfl, Drawn0.refl _⟩

/-! ### impl_isIncreasing: function 52 -/
def impl_isIncreasing.f (l0 : List Int) (a1 : Int) : Option Bool := some ((List.range l0.length).all (risesAt l0 (wrap64 (a1 - 1))))
set_option maxHeartbeats 400000 in
theorem impl_isIncreasing.calls (A0 : Option Addr) (c0 : Nat) (l0 : List Int) (a1 : Int) (r : Bool) (w : World) (hr0 : Kd.C (Kd.int .i64) w A0 l0.length l0) (hc0 : l0.length ≤ c0) (h : impl_isIncreasing.f l0 a1 = some r) :
    Calls Tryd.prog 52 #[.slice A0 l0.length c0, .int .i64 a1] w fun e w' => e = .returned (.bool r) ∧ Drawn0 w w' := by
  have HR := Aside0.mk hr0
  have hm : l0.length ≤ 9223372036854775807 := hr0.2.1
  obtain rfl := Option.some.inj h
  clear h hr0 hc0
  have hcall := fun (x m : Int) (W : World) => impl_within.calls x 0 m _ W rfl
  go_enter Tryd.func52, Tryd.ntmps52
  go_wp2
  go_loopg [9] (l0.length) (fun kq v5 w' => ∃ kk : Nat, kk ≤ l0.length ∧ l0.length - kk ≤ kq ∧ v5 = .int .i64 kk ∧ Aside0 (Drawn0 w w') ∧ Aside0 ((List.range kk).all (risesAt l0 (wrap64 (a1 - 1))) = true))
  case atStart => exact ⟨0, Nat.zero_le _, by omega, rfl, ⟨Drawn0.refl _⟩, ⟨rfl⟩⟩
  case round =>
    obtain ⟨kk, hkk, hq, rfl, HD, HA⟩ := hrel
    by_cases hlt : kk < l0.length
    · have hltz : (kk : Int) < (l0.length : Int) := by omega
      obtain ⟨ad, e, hx⟩ := Kd.at_int HR.out kk (by omega) hltz
      cases e
      simp only [Int.toNat_natCast] at hx
      replace hx := pw_cell_below HD.out.below hx
      by_cases h1 : 0 ≤ rd l0 kk ∧ rd l0 kk ≤ wrap64 (a1 - 1)
      · have hc := hcall (rd l0 kk) (wrap64 (a1 - 1))
        rw [decide_eq_true h1] at hc
        by_cases h2 : 0 < kk
        · have h2z : (0 : Int) < (kk : Int) := by omega
          obtain ⟨ad2, e, hx2⟩ := Kd.at_int HR.out ((kk : Int) - 1) (by omega) (by omega)
          cases e
          replace hx2 := pw_cell_below HD.out.below hx2
          rw [show ((kk : Int) - 1).toNat = kk - 1 by omega] at hx2
          have e1 : (1 : Int) ≤ (kk : Int) := by omega
          have e2 : (kk : Int) - 1 < (l0.length : Int) := by omega
          have ew1 : (kk : Int) < 9223372036854775807 := by omega
          by_cases h3 : rd l0 kk ≤ rd l0 ((kk : Int) - 1)
          · have hd3 := decide_eq_true h3
            have HF : Aside0 (risesAt l0 (wrap64 (a1 - 1)) kk = false) := ⟨by simp [risesAt, h1, h2, h3]⟩
            clear h3 h1
            go_wp2_with (go_at_call 59; (with_reducible refine (hc _).mono ?_); rintro e w' ⟨rfl, ⟨nd, rfl⟩⟩)
            go_ret
            exact ⟨ret_bool (all_range_miss hlt HF.out).symm, HD.out.step _⟩
          · have hd3 := decide_eq_false h3
            have HT : Aside0 (risesAt l0 (wrap64 (a1 - 1)) kk = true) := ⟨by simp [risesAt, h1, h2, h3]⟩
            clear h3 h1
            go_wp2_with (go_at_call 59; (with_reducible refine (hc _).mono ?_); rintro e w' ⟨rfl, ⟨nd, rfl⟩⟩)
            go_roundg (l0.length - (kk + 1))
            case measure => omega
            case rel => exact ⟨kk + 1, by omega, by omega, by go_num, ⟨HD.out.step _⟩, ⟨by rw [all_range_snoc, HA.out, HT.out]; rfl⟩⟩
        · have hd2 : decide ((0 : Int) < (kk : Int)) = false := decide_eq_false (by omega)
          have hd2' : decide (0 < kk) = false := decide_eq_false h2
          have HT : Aside0 (risesAt l0 (wrap64 (a1 - 1)) kk = true) := ⟨by simp [risesAt, h1, h2]⟩
          clear h1 h2
          go_wp2_with (go_at_call 59; (with_reducible refine (hc _).mono ?_); rintro e w' ⟨rfl, ⟨nd, rfl⟩⟩)
          go_roundg (l0.length - (kk + 1))
          case measure => omega
          case rel => exact ⟨kk + 1, by omega, by omega, by go_num, ⟨HD.out.step _⟩, ⟨by rw [all_range_snoc, HA.out, HT.out]; rfl⟩⟩
      · have hc := hcall (rd l0 kk) (wrap64 (a1 - 1))
        rw [decide_eq_false h1] at hc
        have HF : Aside0 (risesAt l0 (wrap64 (a1 - 1)) kk = false) := ⟨by simp [risesAt, h1]⟩
        clear h1
        go_wp2_with (go_at_call 59; (with_reducible refine (hc _).mono ?_); rintro e w' ⟨rfl, ⟨nd, rfl⟩⟩)
        go_ret
        exact ⟨ret_bool (all_range_miss hlt HF.out).symm, HD.out.step _⟩
    · have hltz : ¬ (kk : Int) < (l0.length : Int) := by omega
      obtain rfl : kk = l0.length := by omega
      go_wp2
      go_ret
      exact ⟨ret_bool HA.out.symm, HD.out⟩

-- NOT PRINTED: function 114 (slices_IndexFunc_int64_int64_114)

-- NOT PRINTED: function 74 (slices_ContainsFunc_int64_int64_74)

/-! ### impl_IsCover: function 41 -/
set_option maxHeartbeats 1000000 in
/-- slices.IndexFunc, at elements of one cell: where the first element is at which the function value answers true, or -1. -/
theorem idxLL {α : Type} (d : Kd α) (hd : d.sz = 1) (z : α) (p : α → Bool) (g : Nat) (lb : Array Value) (eg : ∀ args w, (callFunc g args).run Tryd.prog w = .ok (.enter g args) w) (A : Option Addr) (c : Nat) (xs : List α) (w : World) (hr : Kd.C d w A xs.length xs)
    (hp : ∀ (W : World) (x : α) (u : Value), x ∈ xs → Below w.heap.size w W → d.K W x [u] → Calls Tryd.prog g (#[u] ++ lb) W fun e w' => e = .returned (.bool (p x)) ∧ Below W.heap.size W w') :
    Calls Tryd.prog 114 #[.slice A xs.length c, .func (.func g) #[] lb] w fun e w' => (∃ i : Int, e = .returned (.int .i64 i) ∧ decide (0 ≤ i) = xs.any p) ∧ Below w.heap.size w w' := by
  have HR := Aside0.mk hr
  have hm : xs.length ≤ 9223372036854775807 := hr.2.1
  have HP := Aside0.mk hp
  clear hr hp
  go_enter Tryd.func114, Tryd.ntmps114
  go_wp2
  go_loopg [5, 8] (xs.length) (fun gg _ s8 wr => ∃ kk : Nat, kk ≤ xs.length ∧ xs.length - kk ≤ gg ∧ s8 = .int .i64 kk ∧ Aside0 (Below w.heap.size w wr) ∧ Aside0 ((xs.take kk).any p = false))
  case atStart => exact ⟨0, Nat.zero_le _, by omega, rfl, ⟨Below.refl _ _⟩, ⟨by simp⟩⟩
  case round =>
    obtain ⟨kk, hkk, hg, rfl, HB, HA⟩ := hrel
    by_cases hlt : kk < xs.length
    · have hltz : (kk : Int) < (xs.length : Int) := by omega
      obtain ⟨ad, cs, e, hcl, hK, hcell⟩ := Kd.C_get HR.out z kk (by omega) hltz
      cases e
      rw [hd] at hcl hcell
      obtain ⟨u, rfl⟩ : ∃ u, cs = [u] := by
        match cs, hcl with
        | [u], _ => exact ⟨u, rfl⟩
      have hu := hcell 0 u rfl
      simp only [Int.toNat_natCast, Nat.mul_one, Nat.add_zero] at hu hK
      replace hu := pw_cell_below HB.out hu
      have hone := d.K_one hK u (List.mem_singleton.2 rfl)
      have hmem : xs.getD kk z ∈ xs := by
        rw [List.getD_eq_getElem?_getD, List.getElem?_eq_getElem hlt]
        exact List.getElem_mem hlt
      have hcall := HP.out wr (xs.getD kk z) u hmem HB.out (d.K_below HB.out hK)
      have htk : xs.take (kk + 1) = xs.take kk ++ [xs.getD kk z] := by
        rw [List.getD_eq_getElem?_getD, List.getElem?_eq_getElem hlt, List.take_succ_eq_append_getElem hlt]
        rfl
      have HT := Aside0.mk htk
      clear hK hcell hmem htk
      cases hq : p (xs.getD kk z) with
      | true =>
        rw [hq] at hcall
        have HQ := Aside0.mk hq
        clear hq
        have HC := Aside0.mk hcall
        clear hcall
        go_wp2_with ((with_reducible refine HC.out.mono ?_); rintro e w' ⟨rfl, hb⟩; have n0 := Aside0.mk (below_step HB.out hb); clear hb; clear HB; have HB := n0; clear n0)
        go_ret
        refine ⟨⟨kk, rfl, ?_⟩, HB.out⟩
        have h1 : (xs.take (kk + 1)).any p = true := by rw [HT.out, List.any_append, List.any_cons, HQ.out]; simp
        have h2 : xs.any p = true := by
          rw [← List.take_append_drop (kk + 1) xs, List.any_append, h1]; rfl
        rw [h2]
        exact decide_eq_true (by omega)
      | false =>
        rw [hq] at hcall
        have HQ := Aside0.mk hq
        clear hq
        have HC := Aside0.mk hcall
        clear hcall
        go_wp2_with ((with_reducible refine HC.out.mono ?_); rintro e w' ⟨rfl, hb⟩; have n0 := Aside0.mk (below_step HB.out hb); clear hb; clear HB; have HB := n0; clear n0)
        go_roundg (xs.length - (kk + 1))
        case measure => omega
        case rel => exact ⟨kk + 1, by omega, by omega, by go_num, HB, ⟨by rw [HT.out, List.any_append, HA.out, List.any_cons, HQ.out]; rfl⟩⟩
    · have hltz : ¬ (kk : Int) < (xs.length : Int) := by omega
      obtain rfl : kk = xs.length := by omega
      go_wp2
      go_ret
      refine ⟨⟨-1, rfl, ?_⟩, HB.out⟩
      have := HA.out
      rw [List.take_of_length_le (Nat.le_refl _)] at this
      rw [this]
      rfl
set_option maxHeartbeats 1000000 in
/-- slices.ContainsFunc. -/
theorem hasLL {α : Type} (d : Kd α) (hd : d.sz = 1) (z : α) (p : α → Bool) (g : Nat) (lb : Array Value) (eg : ∀ args w, (callFunc g args).run Tryd.prog w = .ok (.enter g args) w) (A : Option Addr) (c : Nat) (xs : List α) (w : World) (hr : Kd.C d w A xs.length xs)
    (hp : ∀ (W : World) (x : α) (u : Value), x ∈ xs → Below w.heap.size w W → d.K W x [u] → Calls Tryd.prog g (#[u] ++ lb) W fun e w' => e = .returned (.bool (p x)) ∧ Below W.heap.size W w') :
    Calls Tryd.prog 74 #[.slice A xs.length c, .func (.func g) #[] lb] w fun e w' => e = .returned (.bool (xs.any p)) ∧ Below w.heap.size w w' := by
  have hc := idxLL d hd z p g lb eg A c xs w hr hp
  clear hr hp
  go_enter Tryd.func74, Tryd.ntmps74
  go_wp2_with (go_at_call 114; (with_reducible refine hc.mono ?_); rintro e w' ⟨⟨i, rfl, hi⟩, hb⟩; have HI := Aside0.mk hi; have HB := Aside0.mk hb; clear hi hb)
  go_ret
  exact ⟨by rw [← HI.out]; rfl, HB.out⟩

/-- A row that no instance may have. -/
def badRow (cols : Int) (row : List Int) : Bool := decide (row.length = 0) || !((List.range row.length).all (risesAt row (wrap64 (cols - 1))))
def isCoverB (a b : Int) (rows : List (List Int)) : Bool := decide (1 ≤ a ∧ a ≤ 60) && decide (1 ≤ b ∧ b ≤ a) && decide (rows.length ≤ 400) && !(rows.any (badRow a))
def impl_IsCover.f (a0_0 a0_1 : Int) (l0_2 : List (List Int)) : Option Bool := some (isCoverB a0_0 a0_1 l0_2)
set_option maxHeartbeats 400000 in
theorem impl_IsCover1 (g : Nat) (a0 a1 : Int) (v : Value) (A1 : Option Addr) (c1 : Nat) (row : List Int) (w : World) (hb : w.heap[g]? = some (.cells #[.int .i64 a0, .int .i64 a1, v] 26 (0, 0))) (hr : Kd.C (Kd.int .i64) w A1 row.length row) (hc : row.length ≤ c1) :
    Calls Tryd.prog 75 (#[.slice A1 row.length c1] ++ #[.pointer (some ⟨g, 0, none⟩)]) w fun e w' => e = .returned (.bool (badRow a0 row)) ∧ Below w.heap.size w w' := by
  have hm : row.length ≤ 9223372036854775807 := hr.2.1
  have h0 : w.cell? ⟨g, 0, none⟩ = some (.int .i64 a0) := (blk_cell hb 0).trans rfl
  have hcall := fun (W : World) (h : Drawn0 w W) => impl_isIncreasing.calls A1 c1 row a0 _ W (Kd.C_below hr h.below) hc rfl
  have hu := Tryd.underlying26
  by_cases he : row.length = 0
  · have HF : Aside0 (badRow a0 row = true) := ⟨by simp [badRow, he]⟩
    have hz : ((row.length : Int) == 0) = true := by rw [beq_iff_eq]; omega
    have hz' : (row.length == 0) = true := by rw [beq_iff_eq]; omega
    clear he hr hcall hb
    go_enter Tryd.func75, Tryd.ntmps75
    go_wp2
    go_ret
    exact ⟨by rw [HF.out]; rfl, Below.refl _ _⟩
  · have hz : ((row.length : Int) == 0) = false := by rw [beq_eq_false_iff_ne]; omega
    have hz' : (row.length == 0) = false := by rw [beq_eq_false_iff_ne]; omega
    have hz2 : ¬ row = [] := fun h => he (by rw [h]; rfl)
    cases hq : (List.range row.length).all (risesAt row (wrap64 (a0 - 1))) with
    | true =>
      have HF : Aside0 (badRow a0 row = false) := ⟨by simp only [badRow, hq]; simp [he]⟩
      rw [hq] at hcall
      have HC := Aside0.mk hcall
      clear he hr hcall hb hq
      go_enter Tryd.func75, Tryd.ntmps75
      go_wp2_with (go_at_call 52; (with_reducible refine (HC.out _ (Drawn0.refl _)).mono ?_); rintro e w' ⟨rfl, ⟨nd, rfl⟩⟩)
      go_ret
      exact ⟨by rw [HF.out]; rfl, pw_below_drewN (Below.refl _ _) _⟩
    | false =>
      have HF : Aside0 (badRow a0 row = true) := ⟨by simp only [badRow, hq]; simp⟩
      rw [hq] at hcall
      have HC := Aside0.mk hcall
      clear he hr hcall hb hq
      go_enter Tryd.func75, Tryd.ntmps75
      go_wp2_with (go_at_call 52; (with_reducible refine (HC.out _ (Drawn0.refl _)).mono ?_); rintro e w' ⟨rfl, ⟨nd, rfl⟩⟩)
      go_ret
      exact ⟨by rw [HF.out]; rfl, pw_below_drewN (Below.refl _ _) _⟩
theorem impl_IsCover1_enters : ∀ args w, (callFunc 75 args).run Tryd.prog w = .ok (.enter 75 args) w := fun args w => enters_ Tryd.func75 (by kernel_rfl) rfl args w
set_option maxHeartbeats 1000000 in
theorem impl_IsCover.calls (a0_0 a0_1 : Int) (A0_2 : Option Addr) (c0_2 : Nat) (l0_2 : List (List Int)) (r : Bool) (w : World) (hr0_2 : Kd.C (Kd.slice 2 (Kd.int .i64)) w A0_2 l0_2.length l0_2) (hc0_2 : l0_2.length ≤ c0_2) (h : impl_IsCover.f a0_0 a0_1 l0_2 = some r) :
    Calls Tryd.prog 41 #[.agg #[.int .i64 a0_0, .int .i64 a0_1, .slice A0_2 l0_2.length c0_2]] w fun e w' => e = .returned (.bool r) ∧ Below w.heap.size w w' := by
  obtain rfl := Option.some.inj h
  clear h
  have HR := Aside0.mk hr0_2
  have hm : l0_2.length ≤ 9223372036854775807 := hr0_2.2.1
  clear hr0_2 hc0_2
  have hu := Tryd.underlying26
  have hcall := fun (x m : Int) (W : World) => impl_within.calls x 1 m _ W rfl
  have c1 := hcall a0_0 60
  have c2 := hcall a0_1 a0_0
  clear hcall
  by_cases h1 : 1 ≤ a0_0 ∧ a0_0 ≤ 60
  · rw [decide_eq_true h1] at c1
    by_cases h2 : 1 ≤ a0_1 ∧ a0_1 ≤ a0_0
    · rw [decide_eq_true h2] at c2
      by_cases h3 : l0_2.length ≤ 400
      · have h3d : decide ((400 : Int) < (l0_2.length : Int)) = false := decide_eq_false (by omega)
        have h3e : decide (400 < l0_2.length) = false := decide_eq_false (by omega)
        have HF : Aside0 (isCoverB a0_0 a0_1 l0_2 = !(l0_2.any (badRow a0_0))) := ⟨by simp [isCoverB, h1, h2, h3]⟩
        have HH := Aside0.mk (fun (W : World) (cc : Nat) (hB : Below w.heap.size w W) (hb : W.heap[w.heap.size]? = some (.cells #[.int .i64 a0_0, .int .i64 a0_1, .slice A0_2 l0_2.length cc] 26 (0, 0))) =>
          hasLL (Kd.slice 2 (Kd.int .i64)) rfl [] (badRow a0_0) 75 #[.pointer (some ⟨w.heap.size, 0, none⟩)] impl_IsCover1_enters A0_2 cc l0_2 W (Kd.C_below HR.out hB) (fun W' x u _ hb' hK => by
            obtain ⟨A, c, hu, hl, hC⟩ := hK
            obtain rfl : u = _ := by injection hu
            exact impl_IsCover1 w.heap.size a0_0 a0_1 _ A c x W' (blk_below hb hb') hC hl))
        clear h1 h2 h3
        go_enter Tryd.func41, Tryd.ntmps41
        go_wp2_with (first | ((with_reducible refine (c1 _).mono ?_); rintro e w' ⟨rfl, ⟨nd, rfl⟩⟩) | ((with_reducible refine (c2 _).mono ?_); rintro e w' ⟨rfl, ⟨nd2, rfl⟩⟩) | ((with_reducible refine (HH.out _ _ ?hB ?hb).mono ?_); (case hB => exact (by repeat (first | exact below_alloc (Below.refl _ _) _ | apply pw_below_drewN))); (case hb => exact (by repeat (first | exact heap_alloc_new w _ | refine blk_drewN ?_ _))); rintro e w' ⟨rfl, hb⟩; have HB := Aside0.mk (below_step (by repeat (first | exact below_alloc (Below.refl _ _) _ | apply pw_below_drewN)) hb); clear hb))
        go_ret
        exact ⟨by rw [HF.out]; rfl, HB.out⟩
      · have h3d : decide ((400 : Int) < (l0_2.length : Int)) = true := decide_eq_true (by omega)
        have h3e : decide (400 < l0_2.length) = true := decide_eq_true (by omega)
        have HF : Aside0 (isCoverB a0_0 a0_1 l0_2 = false) := ⟨by simp [isCoverB, h3]⟩
        clear h1 h2 h3
        go_enter Tryd.func41, Tryd.ntmps41
        go_wp2_with (first | ((with_reducible refine (c1 _).mono ?_); rintro e w' ⟨rfl, ⟨nd, rfl⟩⟩) | ((with_reducible refine (c2 _).mono ?_); rintro e w' ⟨rfl, ⟨nd2, rfl⟩⟩))
        go_ret
        exact ⟨by rw [HF.out]; rfl, by repeat (first | exact below_alloc (Below.refl _ _) _ | apply pw_below_drewN)⟩
    · rw [decide_eq_false h2] at c2
      have HF : Aside0 (isCoverB a0_0 a0_1 l0_2 = false) := ⟨by simp only [isCoverB, decide_eq_false h2]; simp⟩
      clear h1 h2
      go_enter Tryd.func41, Tryd.ntmps41
      go_wp2_with (first | ((with_reducible refine (c1 _).mono ?_); rintro e w' ⟨rfl, ⟨nd, rfl⟩⟩) | ((with_reducible refine (c2 _).mono ?_); rintro e w' ⟨rfl, ⟨nd2, rfl⟩⟩))
      go_ret
      exact ⟨by rw [HF.out]; rfl, by repeat (first | exact below_alloc (Below.refl _ _) _ | apply pw_below_drewN)⟩
  · rw [decide_eq_false h1] at c1
    have HF : Aside0 (isCoverB a0_0 a0_1 l0_2 = false) := ⟨by simp only [isCoverB, decide_eq_false h1]; simp⟩
    clear h1
    go_enter Tryd.func41, Tryd.ntmps41
    go_wp2_with (first | ((with_reducible refine (c1 _).mono ?_); rintro e w' ⟨rfl, ⟨nd, rfl⟩⟩) | ((with_reducible refine (c2 _).mono ?_); rintro e w' ⟨rfl, ⟨nd2, rfl⟩⟩))
    go_ret
    exact ⟨by rw [HF.out]; rfl, by repeat (first | exact below_alloc (Below.refl _ _) _ | apply pw_below_drewN)⟩

/-! ### impl_newCoverSearch: function 42 -/
/-- 1 << uint(k). -/
def bitOf (k : Int) : Int := IntKind.u64.wrap (2 ^ min (IntKind.u64.wrap k).toNat 64)
/-- The columns of a row, as bits. -/
def maskOf (row : List Int) : Int := row.foldl (fun m k => Go.bits .or .u64 m (bitOf k)) 0
def impl_newCoverSearch.f (a0_0 a0_1 : Int) (l0_2 : List (List Int)) (g : Nat) : Option (List Int) := if l0_2.length < 17592186044416 then some (l0_2.map maskOf) else none
set_option maxHeartbeats 1000000 in
set_option maxRecDepth 100000 in
theorem impl_newCoverSearch.walk (a0_0 a0_1 : Int) (A0_2 : Option Addr) (c0_2 : Nat) (l0_2 : List (List Int)) (r : List Int) (w : World) (hr0_2 : Kd.C (Kd.slice 2 (Kd.int .i64)) w A0_2 l0_2.length l0_2) (hlim : l0_2.length < 17592186044416) (h : l0_2.map maskOf = r) :
    Calls Tryd.prog 42 #[.agg #[.int .i64 a0_0, .int .i64 a0_1, .slice A0_2 l0_2.length c0_2], .nilFunc] w fun e w' => ∃ (v0_ : Value) (g_ : Nat), w'.cell? ⟨g_, 0, none⟩ = some v0_ ∧ e = .returned (.pointer (some ⟨g_, 0, none⟩)) ∧ Kd.R (Kd.int .u64) 35 w' w.heap.size (fun _ => True) v0_ r ∧ Below w.heap.size w w' := by
  have HR := Aside0.mk hr0_2
  have hm : l0_2.length ≤ 9223372036854775807 := hr0_2.2.1
  clear hr0_2
  subst h
  have hu1 := Tryd.underlying26
  have hu2 := Tryd.underlying67
  go_enter Tryd.func42, Tryd.ntmps42
  go_wp2
  go_loopg [22] (l0_2.length) (fun kq v22 w' => ∃ (kk : Nat) (vm : Value) (rq : Int) (cc : Nat), kk ≤ l0_2.length ∧ l0_2.length - kk ≤ kq ∧ v22 = .int .i64 kk ∧ Aside0 (w'.heap[w.heap.size]? = some (.cells #[.int .i64 a0_0, .int .i64 a0_1, .slice A0_2 l0_2.length cc] 26 (0, 0))) ∧ Aside0 (w'.heap[w.heap.size + 1]? = some (.cells #[vm, .int .u64 rq, .int .i64 0, .slice none 0 0, .nilFunc, .bool false, .bool false] 67 (0, 0))) ∧ Aside0 (Kd.R (Kd.int .u64) 35 w' w.heap.size (fun _ => True) vm ((l0_2.take kk).map maskOf)) ∧ Aside0 (Below w.heap.size w w'))
  case atStart =>
    refine ⟨0, .slice none 0 0, IntKind.u64.wrap (IntKind.u64.wrap (2 ^ min (IntKind.u64.wrap a0_1).toNat 64) - 1), c0_2, Nat.zero_le _, by omega, rfl, ⟨blk_alloc (heap_alloc_new w _) _⟩, ⟨?_⟩, ⟨Kd.R_nil _ _ _ _ _⟩, ⟨below_alloc (below_alloc (Below.refl _ _) _) _⟩⟩
    exact heap_new2 _ _ _
  case round =>
    obtain ⟨kk, vm, rq, cc, hkk, hq, rfl, BC, BS, HO, HB⟩ := hrel
    by_cases hlt : kk < l0_2.length
    · have hltz : (kk : Int) < (l0_2.length : Int) := by omega
      obtain ⟨ad, cs, e, _, ⟨A1, c1, rfl, hl1, hr1⟩, hcell⟩ := Kd.C_get HR.out ([] : List Int) kk (by omega) hltz
      cases e
      have hx := hcell 0 _ rfl
      clear hcell
      have htk : l0_2.take (kk + 1) = l0_2.take kk ++ [l0_2.getD kk []] := by
        rw [List.getD_eq_getElem?_getD, List.getElem?_eq_getElem hlt, List.take_succ_eq_append_getElem hlt]
        rfl
      rw [show (kk : Int).toNat = kk from rfl] at hx hl1 hr1
      obtain ⟨row, hrow⟩ : ∃ row, l0_2.getD kk [] = row := ⟨_, rfl⟩
      rw [hrow] at hx hl1 hr1 htk
      have HT := Aside0.mk htk
      clear hrow htk
      simp only [Nat.add_zero, show (Kd.slice 2 (Kd.int .i64)).sz = 1 from rfl, Nat.mul_one] at hx
      replace hx := pw_cell_below HB.out hx
      have hb0 : wr.cell? ⟨w.heap.size, 2, none⟩ = some (.slice (some ad) l0_2.length cc) := (blk_cell BC.out 2).trans rfl
      have HR1 := Aside0.mk hr1
      have hm1 : row.length ≤ 9223372036854775807 := hr1.2.1
      clear hr1
      go_wp2
      obtain ⟨wo, rfl⟩ : ∃ wo : World, wo = wr := ⟨_, rfl⟩
      go_loopg [8, 28] (row.length) (fun kq v8 v28 w' => ∃ jj : Nat, jj ≤ row.length ∧ row.length - jj ≤ kq ∧ v28 = .int .i64 jj ∧ v8 = .int .u64 (maskOf (row.take jj)) ∧ Aside0 (Drawn0 wo w'))
      case atStart => exact ⟨0, Nat.zero_le _, by omega, rfl, rfl, ⟨Drawn0.refl _⟩⟩
      case round =>
        obtain ⟨jj, hjj, hq2, rfl, rfl, HD⟩ := hrel
        by_cases hlt2 : jj < row.length
        · have hltz2 : (jj : Int) < (row.length : Int) := by omega
          obtain ⟨ad2, e, hx2⟩ := Kd.at_int HR1.out jj (by omega) hltz2
          cases e
          simp only [Int.toNat_natCast] at hx2
          replace hx2 := pw_cell_below HD.out.below (pw_cell_below HB.out hx2)
          have HE : Aside0 (maskOf (row.take (jj + 1)) = Go.bits .or .u64 (maskOf (row.take jj)) (bitOf (rd row jj))) := ⟨by
            rw [take_rd row jj hlt2]; simp [maskOf]⟩
          go_wp2
          go_roundg (row.length - (jj + 1))
          case measure => omega
          case rel => exact ⟨jj + 1, by omega, by omega, by go_num, by rw [HE.out]; rfl, HD⟩
        · have hltz2 : ¬ (jj : Int) < (row.length : Int) := by omega
          obtain rfl : jj = row.length := by omega
          have BSw := Aside0.mk (blk_below BS.out HD.out.below)
          have BCw := Aside0.mk (blk_below BC.out HD.out.below)
          have HOw := Aside0.mk (Kd.R_below HO.out HD.out.below)
          have HBw := Aside0.mk (below_step HB.out HD.out.below)
          clear BS BC HO HB HD hx hb0
          have hs0 : wr.cell? ⟨w.heap.size + 1, 0, none⟩ = some vm := (blk_cell BSw.out 0).trans rfl
          obtain ⟨mk, hmk⟩ : ∃ m, maskOf (row.take row.length) = m := ⟨_, rfl⟩
          rw [hmk]
          rw [List.take_length] at hmk
          have HM := Aside0.mk hmk
          clear hmk
          have hll : ((l0_2.take kk).map maskOf).length = kk := by rw [List.length_map, List.length_take]; omega
          have HL := Aside0.mk hll
          clear hll
          go_wp2_with ((with_reducible refine gate_builtin (b := .append) (xs := #[.tmp 42, .tmp 44]) rfl ?_); at_builtin; refine Kd.R_append (Kd.int .u64) (w0 := w) w.heap.size rfl (.tmp 42) (.tmp 44) 65 35 (.int .u64 0) 8 rfl Tryd.underlying65 info35 rfl (by decide) (by omega) vm ((l0_2.take kk).map maskOf) mk [.int .u64 mk] (fun _ => True) (fun _ => False) rfl rfl ?aP (fun _ hk => hk.elim) ?aF ?aO ?aB ?aS ?aL ?_; (case aP => exact rfl); (case aB => exact HBw.out); (case aF => exact (fun _ _ => trivial)); (case aO => exact HOw.out); (case aS => exact HBw.out.size); (case aL => have := HL.out; omega); intro v1 w1 ho hb hg hat; obtain ⟨Ao, co, rfl⟩ := Kd.R_slice ho; have BS1 := Aside0.mk (blk_grown BSw.out hg (Kd.R_ne HOw.out BSw.out (by decide))); have BC1 := Aside0.mk (blk_grown BCw.out hg (Kd.R_ne HOw.out BCw.out (by decide))); have HO1 := Aside0.mk ho; have HB1 := Aside0.mk hb; clear ho hb hg hat hs0; have hs1 : w1.cell? ⟨w.heap.size + 1, 0, none⟩ = some vm := (blk_cell BS1.out 0).trans rfl; have hf1 := blk_frozen BS1.out 0)
          go_roundg (l0_2.length - (kk + 1))
          case measure => omega
          case rel =>
            refine ⟨kk + 1, _, rq, cc, by omega, by omega, by go_num, ⟨blk_far BC1.out (by simp) _⟩, ⟨blk_put BS1.out 0 _ rfl⟩, ⟨?_⟩, ⟨HB1.out.setCell (by simp) _⟩⟩
            rw [HT.out, List.map_append, List.map_cons, HM.out, List.map_nil]
            have h2 := HO1.out
            rw [show ((l0_2.take kk).map maskOf ++ [mk]).length = kk + 1 by rw [List.length_append, HL.out]; rfl] at h2
            exact Kd.R_set h2 BS1.out (by decide) 0 _
    · have hltz : ¬ (kk : Int) < (l0_2.length : Int) := by omega
      obtain rfl : kk = l0_2.length := by omega
      go_wp2
      go_ret
      refine ⟨vm, w.heap.size + 1, (blk_cell BS.out 0).trans rfl, rfl, ?_, HB.out⟩
      have := HO.out
      rw [List.take_length] at this
      exact this
theorem impl_newCoverSearch.calls (a0_0 a0_1 : Int) (A0_2 : Option Addr) (c0_2 : Nat) (l0_2 : List (List Int)) (f1 : Nat) (r : List Int) (w : World) (hr0_2 : Kd.C (Kd.slice 2 (Kd.int .i64)) w A0_2 l0_2.length l0_2) (hc0_2 : l0_2.length ≤ c0_2) (h : impl_newCoverSearch.f a0_0 a0_1 l0_2 f1 = some r) :
    Calls Tryd.prog 42 #[.agg #[.int .i64 a0_0, .int .i64 a0_1, .slice A0_2 l0_2.length c0_2], .nilFunc] w fun e w' => ∃ (v0_ : Value) (g_ : Nat), w'.cell? ⟨g_, 0, none⟩ = some v0_ ∧ e = .returned (.pointer (some ⟨g_, 0, none⟩)) ∧ Kd.R (Kd.int .u64) 35 w' w.heap.size (fun _ => True) v0_ r ∧ Below w.heap.size w w' := by
  unfold impl_newCoverSearch.f at h
  by_cases hlim : l0_2.length < 17592186044416
  · rw [if_pos hlim] at h
    exact impl_newCoverSearch.walk a0_0 a0_1 A0_2 c0_2 l0_2 r w hr0_2 hlim (Option.some.inj h)
  · rw [if_neg hlim] at h
    cases h

end Go.Proofs.YtmchbkjjpeiedaaDoor.DFnCoverFormulas
