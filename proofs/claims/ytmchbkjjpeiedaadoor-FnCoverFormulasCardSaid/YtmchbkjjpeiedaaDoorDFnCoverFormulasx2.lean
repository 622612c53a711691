-- Written by drive.py (wip/tool): the kit's print with texts of my own beside it.
import Derived.Test.YtmchbkjjpeiedaaDoorDFnCoverFormulasx0
import Derived.Test.YtmchbkjjpeiedaaDoorDFnCoverFormulasx1
import Derived.Test.YtmchbkjjpeiedaaDoorDFnCoverFormulasx7
namespace Go.Proofs.YtmchbkjjpeiedaaDoor.DFnCoverFormulas
open Go.RowKit Go.Proofs.YtmchbkjjpeiedaaDoorW.PrintWords Go.Proofs.YtmchbkjjpeiedaaDoorW.PrintLast Go.Proofs.YtmchbkjjpeiedaaDoorW.PrintMore Go.Proofs.YtmchbkjjpeiedaaDoorH
attribute [local go_sem] max2_int min2_int max_two min_two max_three min_three max_four min_four   -- for this text's walks alone
set_option linter.unusedVariables false
set_option linter.unusedSimpArgs false

/-! ### spec_l13Draw: function 40 -/
def spec_l13Draw.f : Option Int := none
/-- A source of draws that is in order: its bytes are bytes, its seed is small. -/
def Src (w0 w : World) (g : Nat) : Prop := ∃ (code : List Int) (i s : Int), IsS101 w0 w g code i s ∧ 0 ≤ i ∧ (0 ≤ s ∧ s < 2147483647) ∧ ∀ x ∈ code, 0 ≤ x ∧ x ≤ 255
theorem nextSeed_in {s : Int} (h : 0 ≤ s ∧ s < 2147483647) : 0 ≤ nextSeed s ∧ nextSeed s < 2147483647 := by
  unfold nextSeed wrap64
  have h1 : (s * 48271 + 9223372036854775808) % 18446744073709551616 - 9223372036854775808 = s * 48271 := by omega
  rw [h1]
  have h2 : (s * 48271 + 29 + 9223372036854775808) % 18446744073709551616 - 9223372036854775808 = s * 48271 + 29 := by omega
  rw [h2, Int.tmod_eq_emod_of_nonneg (by omega)]
  omega
theorem rd_in {l : List Int} (h : ∀ x ∈ l, 0 ≤ x ∧ x ≤ 255) (i : Int) : 0 ≤ rd l i ∧ rd l i ≤ 255 := by
  unfold rd
  rw [List.getD_eq_getElem?_getD]
  cases hx : l[i.toNat]? with
  | none => simp
  | some x => exact h x (List.mem_of_getElem? hx)
theorem next_src (g : Nat) (n : Int) (w0 w : World) (hS : Src w0 w g) (hB : Below w0.heap.size w0 w) :
    Calls Tryd.prog 39 #[.pointer (some ⟨g, 0, none⟩), .int .i64 n] w fun e w' => ∃ x : Int, e = .returned (.int .i64 x) ∧ (0 ≤ x ∧ (1 ≤ n → x < n)) ∧ Src w0 w' g ∧ Below w0.heap.size w0 w' ∧ KeepBut w w' g none := by
  obtain ⟨code, i, s, hI, hi, hs, hc⟩ := hS
  have hn := nextSeed_in hs
  have hrd := rd_in hc i
  have hq : 0 ≤ Int.tdiv (nextSeed s) 31 ∧ Int.tdiv (nextSeed s) 31 ≤ 2147483647 := by
    rw [Int.tdiv_eq_ediv_of_nonneg hn.1]; omega
  have ht : ∀ y : Int, 0 ≤ y → 1 < n → 0 ≤ Int.tmod y n ∧ Int.tmod y n < n := fun y hy hn => by
    rw [Int.tmod_eq_emod_of_nonneg hy]
    exact ⟨Int.emod_nonneg _ (by omega), Int.emod_lt_of_pos _ (by omega)⟩
  have key : ∃ r1 r2 r3, spec_l01Next.f code i s n = some (r1, r2, r3) ∧ (0 ≤ r1 ∧ (1 ≤ n → r1 < n)) ∧ 0 ≤ r2 ∧ (0 ≤ r3 ∧ r3 < 2147483647) := by
    unfold spec_l01Next.f
    by_cases h1 : n ≤ 1
    · rw [if_pos h1]
      exact ⟨0, i, s, rfl, ⟨by omega, by omega⟩, hi, hs⟩
    · rw [if_neg h1]
      have hw1 : wrap64 (rd code i) = rd code i := by unfold wrap64; omega
      have hw2 : wrap64 (Int.tdiv (nextSeed s) 31) = Int.tdiv (nextSeed s) 31 := by unfold wrap64; omega
      have hw3 : wrap64 (Int.tdiv (nextSeed s) 31 + rd code i) = Int.tdiv (nextSeed s) 31 + rd code i := by unfold wrap64; omega
      rw [hw1, hw2, hw3]
      by_cases h2 : i < (code.length : Int)
      · rw [if_pos h2, if_pos hi]
        split
        · have := ht (rd code i) hrd.1 (by omega)
          exact ⟨_, _, _, rfl, ⟨this.1, fun _ => this.2⟩, by omega, hn⟩
        · have := ht (Int.tdiv (nextSeed s) 31 + rd code i) (by omega) (by omega)
          exact ⟨_, _, _, rfl, ⟨this.1, fun _ => this.2⟩, by omega, hn⟩
      · rw [if_neg h2]
        have := ht (Int.tdiv (nextSeed s) 31) hq.1 (by omega)
        exact ⟨_, _, _, rfl, ⟨this.1, fun _ => this.2⟩, hi, hn⟩
  obtain ⟨r1, r2, r3, hf, hr1, hr2, hr3⟩ := key
  exact (spec_l01Next.calls g code i s n r1 r2 r3 w0 w hI hB hf).mono fun e w' ⟨he, hI', hb, hk⟩ => ⟨r1, he, hr1, ⟨code, r2, r3, hI', hr2, hr3, hc⟩, hb, hk⟩
theorem R_next {α : Type} {d : Kd α} {e B gs : Nat} {W W' : World} {ok : Nat → Prop} {v : Value} {xs : List α} (h : d.R e W B ok v xs) (hk : KeepBut W W' gs none) (hg : gs < B) : d.R e W' B ok v xs :=
  Kd.R_mono (Kd.R_move (Kd.R_bound h) (fun k hk' => hk.2 k hk'.2.2.1 (by have := hk'.2.1; omega) (by simp))) (fun _ h => h.1)
theorem blk_next {gs gc t : Nat} {cs : Array Value} {W W' : World} (h : W.heap[gc]? = some (.cells cs t (0, 0))) (hk : KeepBut W W' gs none) (hg : gc ≠ gs) : W'.heap[gc]? = some (.cells cs t (0, 0)) :=
  (hk.2 gc (blk_lt h) hg (by simp)).trans h
/-- What holds of the worlds behind a draw's start w: the source is in order, and only its block and new ones were written. -/
def Inv (w0 w : World) (gs : Nat) (W : World) : Prop := Src w0 W gs ∧ Below w0.heap.size w0 W ∧ KeepBut w W gs none
theorem src_below {w0 W W' : World} {g : Nat} (h : Src w0 W g) (hb : Below W.heap.size W W') : Src w0 W' g := by
  obtain ⟨code, i, s, ⟨A0, c0, h1, h2, h3⟩, h4⟩ := h
  exact ⟨code, i, s, ⟨A0, c0, blk_below h1 hb, h2, h3⟩, h4⟩
theorem src_set {w0 W : World} {g : Nat} (h : Src w0 W g) {k : Nat} (hk : g ≠ k) (j : Nat) (v : Value) : Src w0 (W.setCell ⟨k, j, none⟩ v) g := by
  obtain ⟨code, i, s, ⟨A0, c0, h1, h2, h3⟩, h4⟩ := h
  exact ⟨code, i, s, ⟨A0, c0, blk_far h1 hk _, h2, h3⟩, h4⟩
theorem inv_below {w0 w W W' : World} {gs : Nat} (h : Inv w0 w gs W) (hb : Below W.heap.size W W') : Inv w0 w gs W' :=
  ⟨src_below h.1 hb, below_step h.2.1 hb, h.2.2.trans (KeepBut.of_below hb _ _) (.inl rfl)⟩
theorem inv_next {w0 w W W' : World} {gs : Nat} (h : Inv w0 w gs W) (hs : Src w0 W' gs) (hb : Below w0.heap.size w0 W') (hk : KeepBut W W' gs none) : Inv w0 w gs W' := ⟨hs, hb, h.2.2.trans hk (.inl rfl)⟩
theorem inv_src {w0 w W : World} {gs : Nat} (h : Inv w0 w gs W) : Src w0 W gs := h.1
theorem inv_base {w0 w W : World} {gs : Nat} (h : Inv w0 w gs W) : Below w0.heap.size w0 W := h.2.1
theorem inv_size {w0 w W : World} {gs : Nat} (h : Inv w0 w gs W) : w.heap.size ≤ W.heap.size := h.2.2.1
theorem R_empty {α : Type} (d : Kd α) (e base n : Nat) (W : World) (hn : n = W.heap.size) (hb : base ≤ W.heap.size) : d.R e (W.alloc (.cells #[] e)) base (fun _ => True) (.slice (some ⟨n, 0, none⟩) 0 0) [] := by
  subst hn
  exact ⟨fun _ _ => trivial, [], World.ownsRow_lit (base := base) (e := e) (size := d.sz) W #[] 0 hb (by decide) (by simp), Reps.none _ _⟩
theorem inv_set {w0 w W : World} {gs k : Nat} (h : Inv w0 w gs W) (hk : w.heap.size ≤ k) (h0 : w0.heap.size ≤ k) (hg : gs < w.heap.size) (j : Nat) (v : Value) : Inv w0 w gs (W.setCell ⟨k, j, none⟩ v) :=
  ⟨src_set h.1 (by omega) j v, h.2.1.setCell (p := ⟨k, j, none⟩) h0 v, ⟨by simpa [World.setCell] using h.2.2.1, fun i hi hg hr => (Below.heap_setCell W ⟨k, j, none⟩ v i (by show i ≠ k; omega)).trans (h.2.2.2 i hi hg hr)⟩⟩
theorem inv_grow {w0 w W W' : World} {gs : Nat} (h : Inv w0 w gs W) (hb : Below w.heap.size W W') (hg : gs < w.heap.size) (h0 : w0.heap.size ≤ w.heap.size) : Inv w0 w gs W' := by
  refine ⟨?_, h.2.1.trans (hb.mono h0), ⟨Nat.le_trans h.2.2.1 hb.size, fun i hi hne hr => (hb.block i hi).trans (h.2.2.2 i hi hne hr)⟩⟩
  obtain ⟨code, i, s, ⟨A0, c0, h1, h2, h3⟩, h4⟩ := h.1
  exact ⟨code, i, s, ⟨A0, c0, (hb.block gs hg).trans h1, h2, h3⟩, h4⟩
def spec_l13Draw.T27 : Bool × List (List Nat × List Nat) := (true, [([], []), ([], []), ([], []), ([1, 2], [1, 2]), ([0, 3], [0, 3]), ([], []), ([5], [5]), ([4, 6, 4], [4, 6]), ([], []), ([], []), ([8, 9], [8, 9]), ([7, 10, 7], [7, 10]), ([11, 11, 0, 1, 2, 3, 4, 5, 6, 7, 8, 9, 10, 11], [1, 8, 11])])
def spec_l13Draw.B27 : List Nat := [0, 0, 0, 6, 15, 0, 32, 127, 0, 0, 768, 2047, 4095]
theorem spec_l13Draw.tab27 : rtab .any (opsOf Tryd.f40 27) = spec_l13Draw.T27 := by kernel_rfl
theorem spec_l13Draw.bits27 : waitsOk spec_l13Draw.T27.2 spec_l13Draw.B27 = true := by kernel_rfl
def spec_l13Draw.T34 : Bool × List (List Nat × List Nat) := (true, [([], []), ([0], [0]), ([1], [1]), ([2], [2]), ([], []), ([4], [4]), ([3, 5], [3, 5]), ([6], [6]), ([0, 1, 2, 3, 4, 5, 6, 7], []), ([8, 7, 5, 0, 1, 2, 3, 4, 5, 6, 7], [7, 8])])
def spec_l13Draw.B34 : List Nat := [0, 1, 3, 7, 0, 16, 63, 127, 255, 511]
theorem spec_l13Draw.tab34 : rtab .any (opsOf Tryd.f40 34) = spec_l13Draw.T34 := by kernel_rfl
theorem spec_l13Draw.bits34 : waitsOk spec_l13Draw.T34.2 spec_l13Draw.B34 = true := by kernel_rfl
def spec_l13Draw.T36 : Bool × List (List Nat × List Nat) := (true, [([], []), ([], []), ([], []), ([2], [2]), ([3], [3]), ([], []), ([1, 4, 5], [1, 4, 5]), ([], []), ([7], [7]), ([6, 8], [6, 8]), ([9], [9]), ([10], [10]), ([0, 11, 8], [0, 11]), ([12, 12, 0, 1, 2, 3, 4, 5, 6, 7, 8, 9, 10, 11, 12], [0, 12])])
def spec_l13Draw.B36 : List Nat := [0, 0, 0, 4, 12, 0, 62, 0, 128, 510, 1022, 2046, 4095, 8191]
theorem spec_l13Draw.tab36 : rtab .any (opsOf Tryd.f40 36) = spec_l13Draw.T36 := by kernel_rfl
theorem spec_l13Draw.bits36 : waitsOk spec_l13Draw.T36.2 spec_l13Draw.B36 = true := by kernel_rfl
set_option maxHeartbeats 2000000 in
set_option maxRecDepth 100000 in
theorem draw_walk (gs : Nat) (w0 w : World) (hS : Src w0 w gs) (hB : Below w0.heap.size w0 w) (hgs : gs < w.heap.size) :
    Calls Tryd.prog 40 #[.pointer (some ⟨gs, 0, none⟩)] w fun e w' => ∃ (a b : Int) (v : Value) (rows : List (List Int)), e = .returned (.agg #[.int .i64 a, .int .i64 b, v]) ∧ Kd.V (Kd.slice 2 (Kd.int .i64)) 36 w' w.heap.size (fun k => w.heap.size ≤ k) v rows ∧ Inv w0 w gs w' := by
  have hu := Tryd.underlying26
  have HS := Aside0.mk hS
  have HBE := Aside0.mk hB
  have HGE := Aside0.mk hgs
  obtain ⟨wE, rfl⟩ : ∃ wE : World, wE = w := ⟨_, rfl⟩
  clear hS hB hgs
  go_enter Tryd.func40, Tryd.ntmps40
  go_wp2_with (fail)
  have HI0 := Aside0.mk (show Inv w0 wE gs (wE.alloc (.cells #[.int .i64 0, .int .i64 0, .slice none 0 0] 26)) from inv_below ⟨HS.out, HBE.out, KeepBut.refl _ _ _⟩ (below_alloc (Below.refl _ _) _))
  have HCr := Aside0.mk (heap_alloc_new wE (.cells #[.int .i64 0, .int .i64 0, .slice none 0 0] 26))
  have HSr : Aside0 ((wE.alloc (.cells #[.int .i64 0, .int .i64 0, .slice none 0 0] 26)).heap.size = wE.heap.size + 1) := ⟨by simp⟩
  generalize wE.alloc (.cells #[.int .i64 0, .int .i64 0, .slice none 0 0] 26) = w at HI0 HCr HSr ⊢
  have hgs : gs < w.heap.size := by have h1 := HGE.out; have h2 := HSr.out; omega
  have hB : Below w0.heap.size w0 w := HI0.out.2.1
  have HI1 := Aside0.mk (show Inv w0 w gs w from ⟨HI0.out.1, HI0.out.2.1, KeepBut.refl _ _ _⟩)
  (with_reducible refine (next_src gs 8 w0 _ (inv_src HI1.out) (inv_base HI1.out)).mono ?_)
  rintro e w1 ⟨x1, rfl, ⟨hx1, hx1'⟩, hs1, hb1, hk1⟩
  replace hx1' := hx1' (by omega)
  have HI2 := Aside0.mk (inv_next HI1.out hs1 hb1 hk1)
  clear hs1 hb1 hk1 HI1
  go_wp2_with (fail)
  obtain ⟨a, hxa⟩ : ∃ a, 1 + x1 = a := ⟨_, rfl⟩
  rw [hxa]
  have ha1 : 1 ≤ a := by omega
  have ha8 : a ≤ 8 := by omega
  have HI3 := Aside0.mk (inv_below HI2.out (below_alloc (Below.refl _ _) (.cells #[.int .i64 a, .int .i64 0, .slice none 0 0] 26)))
  have HD3 := Aside0.mk (heap_alloc_new w1 (.cells #[.int .i64 a, .int .i64 0, .slice none 0 0] 26))
  have HZ := Aside0.mk (inv_size HI2.out)
  (with_reducible refine (next_src gs a w0 _ (inv_src HI3.out) (inv_base HI3.out)).mono ?_)
  rintro e w2 ⟨x2, rfl, ⟨hx2, hx2'⟩, hs1, hb1, hk1⟩
  replace hx2' := hx2' ha1
  have HI4 := Aside0.mk (inv_next HI3.out hs1 hb1 hk1)
  have HD4 := Aside0.mk (blk_next HD3.out hk1 (by have := HZ.out; omega))
  clear hs1 hb1 hk1 HI3 HD3 HI2
  have h1 : w2.cell? ⟨w1.heap.size, 1, none⟩ = some (.int .i64 0) := (blk_cell HD4.out 1).trans rfl
  have f1 := blk_frozen HD4.out 1
  go_wp2_with (fail)
  obtain ⟨b, hxb⟩ : ∃ b, 1 + x2 = b := ⟨_, rfl⟩
  rw [hxb]
  have HW0 := Aside0.mk hB.size
  have HI5 := Aside0.mk (inv_set HI4.out HZ.out (Nat.le_trans HW0.out HZ.out) hgs 1 (.int .i64 b))
  have HD5 := Aside0.mk (blk_put HD4.out 1 (.int .i64 b) rfl)
  have HI6 := Aside0.mk (inv_below HI5.out (below_alloc (Below.refl _ _) (.cells #[] 36)))
  have HD6 := Aside0.mk (blk_alloc HD5.out (.cells #[] 36))
  have HR6 := Aside0.mk (R_empty (Kd.slice 2 (Kd.int .i64)) 36 w.heap.size w2.heap.size (w2.setCell ⟨w1.heap.size, 1, none⟩ (.int .i64 b)) (by simp [World.setCell]) (inv_size HI5.out))
  (with_reducible refine (next_src gs 4 w0 _ (inv_src HI6.out) (inv_base HI6.out)).mono ?_)
  rintro e w3 ⟨x3, rfl, ⟨hx3, hx3'⟩, hs1, hb1, hk1⟩
  replace hx3' := hx3' (by omega)
  have HI7 := Aside0.mk (inv_next HI6.out hs1 hb1 hk1)
  have HD7 := Aside0.mk (blk_next HD6.out hk1 (by have := HZ.out; omega))
  have HR7 := Aside0.mk (R_next HR6.out hk1 hgs)
  clear hs1 hb1 hk1 HI6 HD6 HR6 HI5 HD5 HI4 HD4 h1 f1
  obtain ⟨gc, hgc⟩ : ∃ gc, w1.heap.size = gc := ⟨_, rfl⟩
  rw [hgc] at HD7 HZ
  have HZg := Aside0.mk HZ.out
  go_wp2_with (fail)
  obtain ⟨parts, hxp⟩ : ∃ p, 1 + x3 = p := ⟨_, rfl⟩
  rw [hxp]
  have hp1 : 1 ≤ parts := by omega
  have hp4 : parts ≤ 4 := by omega
  clear hxp
  go_loopg [4, 6, 7, 8] (4) (fun kq v4 v6 v7 v8 w' => ∃ (kk : Nat) (rows : List (List Int)), (kk : Int) ≤ parts ∧ 4 - kk ≤ kq ∧ v6 = .int .i64 kk ∧ Aside0 (Inv w0 w gs w') ∧ Aside0 (w'.heap[gc]? = some (.cells #[.int .i64 a, .int .i64 b, .slice none 0 0] 26 (0, 0))) ∧ Aside0 (Kd.R (Kd.slice 2 (Kd.int .i64)) 36 w' w.heap.size (fun _ => True) v4 rows) ∧ Aside0 (rows.length ≤ kk))
  case atStart => exact ⟨0, [], by omega, by omega, rfl, HI7, HD7, HR7, ⟨Nat.le_refl _⟩⟩
  case round =>
    clear HI7 HD7 HR7
    obtain ⟨kk, rows, hkk, hq, rfl, HI, HD, HR, HLn⟩ := hrel
    obtain ⟨A4, c4, rfl⟩ := Kd.R_slice HR.out
    by_cases hlt : (kk : Int) < parts
    · go_wp2
      have HI2 := Aside0.mk (inv_below HI.out (below_alloc (Below.refl _ _) (.cells #[] 2)))
      have HD2 := Aside0.mk (blk_alloc HD.out (.cells #[] 2))
      have HR2 := Aside0.mk (Kd.R_mono (Kd.R_alloc (Kd.R_bound HR.out) (.cells #[] 2)) (ok' := fun k => True ∧ some k ≠ (Value.slice (some ⟨wr.heap.size, 0, none⟩) 0 0).ownBlock) (fun k hk => ⟨trivial, by simp [Value.ownBlock]; have := hk.2.2.1; omega⟩))
      have HW2 := Aside0.mk (R_empty (Kd.int .i64) 2 w.heap.size wr.heap.size wr rfl (inv_size HI.out))
      clear HI HD HR
      obtain ⟨wo, rfl⟩ : ∃ wo : World, wo = wr := ⟨_, rfl⟩
      go_loopg [7, 8] (8) (fun kq v7 v8 w' => ∃ (jj : Nat) (row : List Int), (jj : Int) ≤ a ∧ 8 - jj ≤ kq ∧ v8 = .int .i64 jj ∧ Aside0 (Inv w0 w gs w') ∧ Aside0 (w'.heap[gc]? = some (.cells #[.int .i64 a, .int .i64 b, .slice none 0 0] 26 (0, 0))) ∧ Aside0 (Kd.R (Kd.slice 2 (Kd.int .i64)) 36 w' w.heap.size (fun k => True ∧ some k ≠ v7.ownBlock) (.slice A4 rows.length c4) rows) ∧ Aside0 (Kd.R (Kd.int .i64) 2 w' w.heap.size (fun _ => True) v7 row) ∧ Aside0 (row.length ≤ jj))
      case atStart => exact ⟨0, [], by omega, by omega, rfl, HI2, HD2, HR2, HW2, ⟨Nat.le_refl _⟩⟩
      case round =>
        clear HI2 HD2 HR2 HW2
        obtain ⟨jj, row, hjj, hq2, rfl, HI, HD, HR, HW, HLr⟩ := hrel
        obtain ⟨A7, c7, rfl⟩ := Kd.R_slice HW.out
        have h0 : wr.cell? ⟨gc, 0, none⟩ = some (.int .i64 a) := (blk_cell HD.out 0).trans rfl
        by_cases hlt2 : (jj : Int) < a
        · have hmul : (jj : Int) * 7 ≤ 56 := by omega
          have hjl : row.length ≤ jj := HLr.out
          go_wp2_with ((with_reducible refine gate_builtin (b := .append) (xs := #[.tmp 49, .tmp 51]) rfl ?_); at_builtin; refine Kd.R_append (Kd.int .i64) (w0 := wr) w.heap.size rfl (.tmp 49) (.tmp 51) 36 2 (.int .i64 0) 8 rfl Tryd.underlying36 info2 rfl (by decide) (by omega) (.slice A7 row.length c7) row (jj : Int) [.int .i64 jj] (fun _ => True) (fun _ => False) rfl rfl ?aP (fun _ hk => hk.elim) ?aF ?aO ?aB ?aS ?aL ?_; (case aP => exact rfl); (case aB => exact Below.refl _ _); (case aF => exact (fun _ _ => trivial)); (case aO => exact HW.out); (case aS => exact (inv_size HI.out)); (case aL => omega); intro v1 w1 ho hb hg hat; have HI1 := Aside0.mk (inv_grow HI.out hb hgs HW0.out); have HD1 := Aside0.mk (blk_grown HD.out hg (Kd.R_ne HW.out HD.out (by decide))); have HR1 := Aside0.mk (Kd.R_after HR.out hg hat); have HW1 := Aside0.mk ho; clear ho hb hg hat)
          · go_roundg (8 - (jj + 1))
            case measure => omega
            case rel => exact ⟨jj + 1, row ++ [(jj : Int)], by omega, by omega, by go_num, HI1, HD1, HR1, HW1, ⟨by rw [List.length_append, List.length_singleton]; omega⟩⟩
          · go_roundg (8 - (jj + 1))
            case measure => omega
            case rel => exact ⟨jj + 1, row, by omega, by omega, by go_num, HI, HD, HR, HW, ⟨by omega⟩⟩
        · have hln : rows.length ≤ kk := HLn.out
          have hll : row.length ≤ 9223372036854775807 := (Kd.R_reads' HW.out).2.2.2.1
          go_wp2_with ((with_reducible refine gate_builtin (b := .append) (xs := #[.tmp 56, .tmp 58]) rfl ?_); at_builtin; refine Kd.R_append (Kd.slice 2 (Kd.int .i64)) (w0 := wr) w.heap.size rfl (.tmp 56) (.tmp 58) 24 36 (.slice none 0 0) 24 rfl Tryd.underlying24 info36 rfl (by decide) (by omega) (.slice A4 rows.length c4) rows row [.slice A7 row.length c7] (fun _ => True) (fun k => some k = (Value.slice A7 row.length c7).ownBlock) rfl rfl ?aP ?aK ?aF ?aO ?aB ?aS ?aL ?_; (case aP => exact ⟨_, rfl, Kd.R_tight rfl HW.out⟩); (case aK => exact (fun k hk => ⟨trivial, fun e => (HR.out.1 k e.symm).2 hk⟩)); (case aB => exact Below.refl _ _); (case aF => exact (fun _ _ => trivial)); (case aO => exact Kd.R_mono HR.out (fun _ _ => trivial)); (case aS => exact (inv_size HI.out)); (case aL => omega); intro v1 w1 ho hb hg hat; have HI1 := Aside0.mk (inv_grow HI.out hb hgs HW0.out); have HD1 := Aside0.mk (blk_grown HD.out hg (Kd.R_ne HR.out HD.out (by decide))); have HR1 := Aside0.mk ho; clear ho hb hg hat)
          · go_roundg (4 - (kk + 1))
            case measure => omega
            case rel => exact ⟨kk + 1, rows ++ [row], by omega, by omega, by go_num, HI1, HD1, HR1, ⟨by rw [List.length_append, List.length_singleton]; omega⟩⟩
          · go_roundg (4 - (kk + 1))
            case measure => omega
            case rel => exact ⟨kk + 1, rows, by omega, by omega, by go_num, HI, HD, ⟨Kd.R_mono HR.out (fun _ _ => trivial)⟩, ⟨by omega⟩⟩
    · have hln : rows.length ≤ 4 := by have := HLn.out; omega
      go_wp2_with (fail)
      (with_reducible refine (next_src gs 8 w0 _ (inv_src HI.out) (inv_base HI.out)).mono ?_)
      rintro e w5 ⟨n, rfl, ⟨hn1, hn2⟩, hs1, hb1, hk1⟩
      replace hn2 := hn2 (by omega)
      have HI5 := Aside0.mk (inv_next HI.out hs1 hb1 hk1)
      have HD5 := Aside0.mk (blk_next HD.out hk1 (by have := HZ.out; omega))
      have HR5 := Aside0.mk (R_next HR.out hk1 hgs)
      clear hs1 hb1 hk1 HI HD HR
      obtain ⟨nn, rfl⟩ : ∃ nn : Nat, n = nn := ⟨n.toNat, by omega⟩
      go_wp2_with (fail)
      have HN5 := Aside0.mk (Kd.N_mono (Kd.R_N (Kd.R_bound (Kd.R_types HR5.out HD5.out (by decide)))) (ok' := fun k => w.heap.size ≤ k ∧ k ≠ gc) (fun _ hk => ⟨hk.2.1, hk.1.2⟩))
      clear HR5
      go_loopg [4, 9, 10, 11, 12] (8) (fun kq v4 v9 v10 v11 v12 w' => ∃ (kk : Nat) (rows : List (List Int)), kk ≤ 8 ∧ kk ≤ kq ∧ v9 = .int .i64 kk ∧ Aside0 (Inv w0 w gs w') ∧ Aside0 (w'.heap[gc]? = some (.cells #[.int .i64 a, .int .i64 b, .slice none 0 0] 26 (0, 0))) ∧ Aside0 (Kd.N (Kd.slice 2 (Kd.int .i64)) 36 w' w.heap.size (fun k => w.heap.size ≤ k ∧ k ≠ gc) v4 rows) ∧ Aside0 (rows.length + kk ≤ 12))
      case atStart => exact ⟨nn, rows, by omega, by omega, rfl, HI5, HD5, HN5, ⟨by omega⟩⟩
      case round =>
        clear HI5 HD5 HN5
        obtain ⟨kk, rows, hkk, hq, rfl, HI, HD, HR, HLn⟩ := hrel
        obtain ⟨A4, c4, rfl⟩ := Kd.N_slice HR.out
        by_cases hlt : 0 < (kk : Int)
        · have hdk : decide (0 < (kk : Int)) = true := decide_eq_true hlt
          have hdk2 : decide (0 < kk) = true := decide_eq_true (by omega)
          go_wp2_with (fail)
          have HI2 := Aside0.mk (inv_below HI.out (below_alloc (Below.refl _ _) (.cells #[] 2)))
          have HD2 := Aside0.mk (blk_alloc HD.out (.cells #[] 2))
          have HR2 := Aside0.mk (Kd.N_mono (Kd.N_alloc (Kd.N_bound HR.out) (.cells #[] 2)) (ok' := fun k => (w.heap.size ≤ k ∧ k ≠ gc) ∧ some k ≠ (Value.slice (some ⟨wr.heap.size, 0, none⟩) 0 0).ownBlock) (fun k hk => ⟨hk.1, by simp [Value.ownBlock]; have := hk.2; omega⟩))
          have HW2 := Aside0.mk (R_empty (Kd.int .i64) 2 w.heap.size wr.heap.size wr rfl (inv_size HI.out))
          clear HI HD HR
          obtain ⟨wo, rfl⟩ : ∃ wo : World, wo = wr := ⟨_, rfl⟩
          go_loopg [10, 11] (8) (fun kq v7 v8 w' => ∃ (jj : Nat) (row : List Int), (jj : Int) ≤ a ∧ 8 - jj ≤ kq ∧ v8 = .int .i64 jj ∧ Aside0 (Inv w0 w gs w') ∧ Aside0 (w'.heap[gc]? = some (.cells #[.int .i64 a, .int .i64 b, .slice none 0 0] 26 (0, 0))) ∧ Aside0 (Kd.N (Kd.slice 2 (Kd.int .i64)) 36 w' w.heap.size (fun k => (w.heap.size ≤ k ∧ k ≠ gc) ∧ some k ≠ v7.ownBlock) (.slice A4 rows.length c4) rows) ∧ Aside0 (Kd.R (Kd.int .i64) 2 w' w.heap.size (fun _ => True) v7 row) ∧ Aside0 (row.length ≤ jj))
          case atStart => exact ⟨0, [], by omega, by omega, rfl, HI2, HD2, HR2, HW2, ⟨Nat.le_refl _⟩⟩
          case round =>
            clear HI2 HD2 HR2 HW2
            obtain ⟨jj, row, hjj, hq2, rfl, HI, HD, HR, HW, HLr⟩ := hrel
            obtain ⟨A7, c7, rfl⟩ := Kd.R_slice HW.out
            have h0 : wr.cell? ⟨gc, 0, none⟩ = some (.int .i64 a) := (blk_cell HD.out 0).trans rfl
            by_cases hlt2 : (jj : Int) < a
            · have hjl : row.length ≤ jj := HLr.out
              go_wp2_with (fail)
              (with_reducible refine (next_src gs 3 w0 _ (inv_src HI.out) (inv_base HI.out)).mono ?_)
              rintro e w6 ⟨x6, rfl, ⟨hx6, hx6'⟩, hs1, hb1, hk1⟩
              replace hx6' := hx6' (by omega)
              have HI6 := Aside0.mk (inv_next HI.out hs1 hb1 hk1)
              have HD6 := Aside0.mk (blk_next HD.out hk1 (by have := HZ.out; omega))
              have HR6 := Aside0.mk (Kd.N_keep HR.out hk1 (fun k hk => by have := hk.1; omega))
              have HW6 := Aside0.mk (R_next HW.out hk1 hgs)
              clear hs1 hb1 hk1 HI HD HR HW h0
              go_wp2_with ((with_reducible refine gate_builtin (b := .append) (xs := #[.tmp 76, .tmp 78]) rfl ?_); at_builtin; refine Kd.R_append (Kd.int .i64) (w0 := w6) w.heap.size rfl (.tmp 76) (.tmp 78) 36 2 (.int .i64 0) 8 rfl Tryd.underlying36 info2 rfl (by decide) (by omega) (.slice A7 row.length c7) row (jj : Int) [.int .i64 jj] (fun _ => True) (fun _ => False) rfl rfl ?aP (fun _ hk => hk.elim) ?aF ?aO ?aB ?aS ?aL ?_; (case aP => exact rfl); (case aB => exact Below.refl _ _); (case aF => exact (fun _ _ => trivial)); (case aO => exact HW6.out); (case aS => exact (inv_size HI6.out)); (case aL => omega); intro v1 w1 ho hb hg hat; have HI1 := Aside0.mk (inv_grow HI6.out hb hgs HW0.out); have HD1 := Aside0.mk (blk_grown HD6.out hg (Kd.R_ne HW6.out HD6.out (by decide))); have HR1 := Aside0.mk (Kd.N_after HR6.out hg hat); have HW1 := Aside0.mk ho; clear ho hb hg hat)
              · go_roundg (8 - (jj + 1))
                case measure => omega
                case rel => exact ⟨jj + 1, row ++ [(jj : Int)], by omega, by omega, by go_num, HI1, HD1, HR1, HW1, ⟨by rw [List.length_append, List.length_singleton]; omega⟩⟩
              · go_roundg (8 - (jj + 1))
                case measure => omega
                case rel => exact ⟨jj + 1, row, by omega, by omega, by go_num, HI6, HD6, HR6, HW6, ⟨by omega⟩⟩
            · have hln : rows.length + kk ≤ 12 := HLn.out
              have hll : row.length ≤ 9223372036854775807 := (Kd.R_reads' HW.out).2.2.2.1
              have hll2 : row.length ≤ 8 := by have := HLr.out; omega
              by_cases hr0 : row.length = 0
              · have hz : decide (0 < row.length) = false := decide_eq_false (by omega)
                go_wp2_with (fail)
                go_roundg (kk - 1)
                case measure => omega
                case rel => exact ⟨kk - 1, rows, by omega, by omega, by congr 1; omega, HI, HD, ⟨Kd.N_mono HR.out (fun _ hk => hk.1)⟩, ⟨by omega⟩⟩
              · have hz : decide (0 < row.length) = true := decide_eq_true (by omega)
                go_wp2_with (fail)
                (with_reducible refine (next_src gs ((rows.length : Int) + 1) w0 _ (inv_src HI.out) (inv_base HI.out)).mono ?_)
                rintro e w6 ⟨x6, rfl, ⟨hx6, hx6'⟩, hs1, hb1, hk1⟩
                replace hx6' := hx6' (by omega)
                obtain ⟨at_, rfl⟩ : ∃ n : Nat, x6 = n := ⟨x6.toNat, by omega⟩
                have HI7 := Aside0.mk (inv_below (inv_next HI.out hs1 hb1 hk1) (below_drew (Below.refl _ _)))
                have HD7 := Aside0.mk (blk_drew (blk_next HD.out hk1 (by have := HZ.out; omega)))
                have HR7 := Aside0.mk (Kd.N_drew (Kd.N_mono (Kd.N_keep HR.out hk1 (fun k hk => by have := hk.1; omega)) (ok' := fun k => w.heap.size ≤ k ∧ k ≠ gc) (fun _ hk => hk.1)))
                have HW7 := Aside0.mk (Kd.R_drew (R_next HW.out hk1 hgs))
                have K0 : Aside0 (0 < w6.drew.heap.size) := ⟨by have h1 := inv_size HI7.out; omega⟩
                have HSZ := Aside0.mk (inv_size HI7.out)
                have HGC := Aside0.mk (blk_lt HD7.out)
                clear hs1 hb1 hk1 HI HD HR HW
                go_wp2_with (fail)
                have hat0 : at_ ≤ rows.length := by omega
                have hc4 : rows.length ≤ c4 := (Kd.N_reads' HR7.out).2.1
                have HCW : Aside0 (row.length ≤ c7) := ⟨(Kd.R_reads' HW7.out).2.1⟩
                obtain ⟨i0, hi0, _, hsz0, _⟩ := info_parts info36
                have HCUT := Aside0.mk (show ∀ W : World, (Instr.slice 24 (.slice A4 rows.length c4) none (some (.int .i64 (at_ : Int))) none).run Tryd.prog W = .ok (.slice A4 at_ c4) W from cut_to (P := Tryd.prog) 24 36 .i64 Tryd.underlying24 hi0 A4 rows.length c4 (at_ : Int) (by omega) (by omega) hc4)
                obtain ⟨AC, hAC⟩ : ∃ AC, AC = (if c4 = at_ then A4 else A4.map (·.add (at_ * 1))) := ⟨_, rfl⟩
                have HCUF := Aside0.mk (show ∀ W : World, (Instr.slice 24 (.slice A4 rows.length c4) (some (.int .i64 (at_ : Int))) none none).run Tryd.prog W = .ok (.slice AC (rows.length - at_) (c4 - at_)) W by rw [hAC]; exact cut_from (P := Tryd.prog) 24 36 .i64 Tryd.underlying24 hi0 1 hsz0 A4 rows.length c4 (at_ : Int) (by omega) (by omega))
                have HNB := Kd.N_bound HR7.out
                have HT4 := Aside0.mk (Kd.N_F (Kd.N_take HNB hat0))
                have HTC := Aside0.mk (show Kd.F (Kd.slice 2 (Kd.int .i64)) w6.drew (fun k => (w.heap.size ≤ k ∧ k ≠ gc) ∧ k < w6.drew.heap.size) AC (rows.length - at_) (rows.drop at_) by rw [hAC, ← List.length_drop]; exact Kd.F_cut (Kd.N_F HNB) hat0 hc4)
                have HFW := Aside0.mk (Kd.V_F (Kd.V_mono (Kd.R_V (base' := 0) (Kd.R_bound (Kd.R_types HW7.out HD7.out (by decide)))) (ok' := fun k => (w.heap.size ≤ k ∧ k ≠ gc) ∧ k < w6.drew.heap.size) (fun k hk => ⟨⟨hk.2.1, hk.1.2⟩, hk.2.2.1⟩)))
                clear HNB hsz0 hi0 hAC
                refine start_ (n := 13) (S := fun w' => True) (ds := []) #[false, false, false, false, false, false, false, false, false, false, false, false, false] (by kernel_rfl) rfl rfl trivial (fun hHeld => ?_)
                refine with_tabW spec_l13Draw.tab27 spec_l13Draw.bits27 (fun HT_ HW_ => ?_)
                generalize hWR : w6.drew = WR at HI7 HD7 HR7 HW7 K0 HSZ HGC HT4 HTC HFW ⊢
                have HBW := Aside0.mk (Below.refl WR.heap.size WR)
                refine pure_ (i := 1) (N := some 89) (v := ?_) (a' := ?_) #[false, true, false, false, false, false, false, false, false, false, false, false, false] rfl rfl (any_of HT_.out (by kernel_rfl)) (fun _ _ _ h => h) (Or.inl ⟨by rfl, ?_⟩) ?_ ?_
                rotate_left
                · intro w'
                  go_simp
                  with_reducible rfl
                rotate_left
                · simp only [Act.put, List.setIfInBounds_toArray, List.set_cons_zero, List.set_cons_succ, i64_w, i32_w]
                  rfl
                refine pure_ (i := 2) (N := some 90) (v := ?_) (a' := ?_) #[false, true, true, false, false, false, false, false, false, false, false, false, false] rfl rfl (any_of HT_.out (by kernel_rfl)) (fun _ _ _ h => h) (Or.inl ⟨by rfl, ?_⟩) ?_ ?_
                rotate_left
                · intro w'
                  go_simp
                  with_reducible rfl
                rotate_left
                · simp only [Act.put, List.setIfInBounds_toArray, List.set_cons_zero, List.set_cons_succ, i64_w, i32_w]
                  rfl
                refine pure_ (i := 5) (N := some 93) (v := ?_) (a' := ?_) #[false, true, true, false, false, true, false, false, false, false, false, false, false] rfl rfl (any_of HT_.out (by kernel_rfl)) (fun _ _ _ h => h) (Or.inl ⟨by rfl, ?_⟩) ?_ ?_
                rotate_left
                · intro w'
                  go_simp
                  with_reducible rfl
                rotate_left
                · simp only [Act.put, List.setIfInBounds_toArray, List.set_cons_zero, List.set_cons_succ, i64_w, i32_w]
                  rfl
                refine pure_ (i := 8) (N := some 96) (v := ?_) (a' := ?_) #[false, true, true, false, false, true, false, false, true, false, false, false, false] rfl rfl (any_of HT_.out (by kernel_rfl)) (fun _ _ _ h => h) (Or.inl ⟨by rfl, ?_⟩) ?_ ?_
                rotate_left
                · intro w'
                  go_simp
                  with_reducible rfl
                rotate_left
                · simp only [Act.put, List.setIfInBounds_toArray, List.set_cons_zero, List.set_cons_succ, i64_w, i32_w]
                  rfl
                refine pure_ (i := 9) (N := some 97) (v := ?_) (a' := ?_) #[false, true, true, false, false, true, false, false, true, true, false, false, false] rfl rfl (any_of HT_.out (by kernel_rfl)) (fun _ _ _ h => h) (Or.inl ⟨by rfl, ?_⟩) ?_ ?_
                rotate_left
                · intro w'
                  go_simp
                  with_reducible rfl
                rotate_left
                · simp only [Act.put, List.setIfInBounds_toArray, List.set_cons_zero, List.set_cons_succ, i64_w, i32_w]
                  rfl
                refine inv_at [0, 3, 4, 6, 7, 10, 11, 12] (fun a0_ b a w' => ∃ (v88 : Value) (v92 : Value) (v94 : Value) (v95 : Value) (v99 : Value) (k0 : Nat) (m12_ : Value), a = putSel a0_ b [(0, 88, v88), (3, 91, .slice A4 at_ c4), (4, 92, v92), (6, 94, v94), (7, 95, v95), (10, 98, .slice AC (rows.length - at_) (c4 - at_)), (11, 99, v99), (12, 4, m12_)] ∧ (Below WR.heap.size WR w') ∧ (k0 < w'.heap.size) ∧ (b 0 = true → b 4 = false → Kd.N (Kd.slice 2 (Kd.int .i64)) 36 w' WR.heap.size (fun k => w.heap.size ≤ k ∧ k ≠ gc) v88 []) ∧ (b 0 = true → b 4 = false → some k0 ≠ v88.ownBlock) ∧ (b 6 = true → b 7 = false → Kd.N (Kd.slice 2 (Kd.int .i64)) 36 w' WR.heap.size (fun k => ((w.heap.size ≤ k ∧ k ≠ gc) ∧ k < WR.heap.size) ∨ k = k0) v94 [row] ∧ ∃ c_, v94 = .slice (some ⟨k0, 0, none⟩) 1 c_) ∧ (b 4 = true → b 7 = false → Kd.N (Kd.slice 2 (Kd.int .i64)) 36 w' WR.heap.size (fun k => w.heap.size ≤ k ∧ k ≠ gc) v92 (rows.take at_)) ∧ (b 4 = true → b 7 = false → some k0 ≠ v92.ownBlock) ∧ (b 7 = true → b 11 = false → Kd.N (Kd.slice 2 (Kd.int .i64)) 36 w' WR.heap.size (fun k => w.heap.size ≤ k ∧ k ≠ gc) v95 (rows.take at_ ++ [row])) ∧ (b 11 = true → Kd.N (Kd.slice 2 (Kd.int .i64)) 36 w' WR.heap.size (fun k => w.heap.size ≤ k ∧ k ≠ gc) v99 (rows.take at_ ++ [row] ++ rows.drop at_)) ∧ (b 12 = true → (m12_ : Value) = v99)) HT_.out HW_.out (by kernel_rfl) (by kernel_rfl) ?_ ?_ ?_
                · exact ⟨.bool false, .bool false, .bool false, .bool false, .bool false, 0, .bool false, by simp only [putSel, Bool.false_eq_true, if_false], HBW.out, K0.out, fun h_ => absurd h_ (by decide), fun h_ => absurd h_ (by decide), fun h_ => absurd h_ (by decide), fun h_ => absurd h_ (by decide), fun h_ => absurd h_ (by decide), fun h_ => absurd h_ (by decide), fun h_ => absurd h_ (by decide), fun h_ => absurd h_ (by decide)⟩
                · skip
                  clear HBW K0
                  refine steps_cons ?_ ?_
                  · rintro b a w' ⟨v88, v92, v94, v95, v99, k0, m12_, ha, Q_HBW, Q_K0, Q_F88, Q_APa, Q_F94, Q_F92, Q_APb, Q_F95, Q_F99, Q_X12_⟩ hb_ hon hoff
                    refine ⟨_, rfl, fun K hK => ?_⟩
                    replace ha := Aside0.mk ha
                    have HBW := Aside0.mk Q_HBW
                    have K0 := Aside0.mk Q_K0
                    refine Kd.N_lit_step (Kd.slice 2 (Kd.int .i64)) (w0 := WR) WR.heap.size 36 (by rfl) (N' := 88) rfl (xs := []) (inner := []) (ok := (fun k => w.heap.size ≤ k ∧ k ≠ gc)) (okp := (fun k => w.heap.size ≤ k ∧ k ≠ gc)) ?hr (Reps.none _ _) (fun _ h => h) ⟨Nat.le_trans HSZ.out HBW.out.size, by have h2_ := HBW.out.size; have h3_ := HGC.out; omega⟩ HBW.out HBW.out.size (by decide) ?_
                    (case hr => first | (go_simp; done) | (go_simp; rfl))
                    intro v88 w1 ho hb hg hat
                    have hs := hg.size
                    refine hK.out _ _ ⟨v88, v92, v94, v95, v99, k0, m12_, (by rw [ha.out]; exact putSel_upk 0 hb_ rfl rfl rfl), hb, Nat.lt_of_lt_of_le K0.out hs, fun _ _ => ho, fun _ _ => (by obtain ⟨b_, hb_, hle_⟩ := hat; rw [hb_]; intro e_; injection e_ with e_; have := K0.out; omega), fun h6_ h7_ => ⟨Kd.N_grown (Q_F94 h6_ h7_).1 hg (fun _ _ => by simp), (Q_F94 h6_ h7_).2⟩, fun h0_ _ => absurd ((hoff 4 (by kernel_rfl)).symm.trans h0_) (by decide), fun h0_ _ => absurd ((hoff 4 (by kernel_rfl)).symm.trans h0_) (by decide), fun h0_ _ => absurd ((hoff 7 (by kernel_rfl)).symm.trans h0_) (by decide), fun h0_ => absurd ((hoff 11 (by kernel_rfl)).symm.trans h0_) (by decide), fun h0_ => absurd ((hoff 12 (by kernel_rfl)).symm.trans h0_) (by decide)⟩
                  refine steps_cons ?_ ?_
                  · rintro b a w' ⟨v88, v92, v94, v95, v99, k0, m12_, ha, Q_HBW, Q_K0, Q_F88, Q_APa, Q_F94, Q_F92, Q_APb, Q_F95, Q_F99, Q_X12_⟩ hb_ hon hoff
                    refine ⟨_, rfl, fun K hK => ?_⟩
                    have e89 : a.tmps[89]? = some (.slice A4 rows.length c4) := by rw [ha]; exact (putSel_off rfl).trans rfl
                    have e90 : a.tmps[90]? = some (.int .i64 (at_ : Int)) := by rw [ha]; exact (putSel_off rfl).trans rfl
                    replace ha := Aside0.mk ha
                    have HBW := Aside0.mk Q_HBW
                    have K0 := Aside0.mk Q_K0
                    have hcut := HCUT.out
                    refine value_ (w1 := w') (v := .slice A4 at_ c4) (by rfl) rfl ?_ ?_
                    · go_simp
                      (try simp only [i64_w])
                      try rfl
                    refine hK.out _ _ ⟨v88, v92, v94, v95, v99, k0, m12_, (by rw [ha.out]; exact putSel_upk 1 hb_ rfl rfl rfl), Q_HBW, Q_K0, Q_F88, Q_APa, Q_F94, fun h0_ _ => absurd ((hoff 4 (by kernel_rfl)).symm.trans h0_) (by decide), fun h0_ _ => absurd ((hoff 4 (by kernel_rfl)).symm.trans h0_) (by decide), fun h0_ _ => absurd ((hoff 7 (by kernel_rfl)).symm.trans h0_) (by decide), fun h0_ => absurd ((hoff 11 (by kernel_rfl)).symm.trans h0_) (by decide), fun h0_ => absurd ((hoff 12 (by kernel_rfl)).symm.trans h0_) (by decide)⟩
                  refine steps_cons ?_ ?_
                  · rintro b a w' ⟨v88, v92, v94, v95, v99, k0, m12_, ha, Q_HBW, Q_K0, Q_F88, Q_APa, Q_F94, Q_F92, Q_APb, Q_F95, Q_F99, Q_X12_⟩ hb_ hon hoff
                    refine ⟨_, rfl, fun K hK => ?_⟩
                    have e88 : a.tmps[88]? = some (v88) := by rw [ha]; exact putSel_on (e := (0, 88, v88)) 0 rfl rfl (hon 0 (by kernel_rfl)) rfl
                    have e91 : a.tmps[91]? = some (.slice A4 at_ c4) := by rw [ha]; exact putSel_on (e := (3, 91, .slice A4 at_ c4)) 1 rfl rfl (hon 3 (by kernel_rfl)) rfl
                    replace ha := Aside0.mk ha
                    have HBW := Aside0.mk Q_HBW
                    have K0 := Aside0.mk Q_K0
                    have F88 := Aside0.mk (Q_F88 (hon 0 (by kernel_rfl)) hb_)
                    have APa := Aside0.mk (Q_APa (hon 0 (by kernel_rfl)) hb_)
                    refine Kd.N_append_rows_step (Kd.slice 2 (Kd.int .i64)) (w0 := WR) WR.heap.size (by rfl) (.tmp 88) (.tmp 91) 24 36 (.slice none 0 0) 24 rfl Tryd.underlying24 info36 rfl (by decide) (by omega) v88 [] (rows.take at_) A4 at_ c4 (fun k => w.heap.size ≤ k ∧ k ≠ gc) (fun k => (w.heap.size ≤ k ∧ k ≠ gc) ∧ k < WR.heap.size) (eval_of e88) (eval_of e91) F88.out (Kd.F_below (HT4.out) HBW.out) (fun k hk => ⟨hk.1, fun e_ => by have h1_ := Kd.N_base F88.out k e_.symm; have h2_ := hk.2; omega⟩) (fun k hk => by have h1_ := HSZ.out; have h2_ := HBW.out.size; have h3_ := HGC.out; omega) HBW.out HBW.out.size (by simp only [List.length_nil, List.length_append, List.length_take, List.length_singleton]; omega) ?_
                    intro v92 w1 ho hb hg hat
                    have hs := hg.size
                    rw [List.nil_append] at ho
                    refine hK.out _ _ ⟨v88, v92, v94, v95, v99, k0, m12_, (by rw [ha.out]; exact putSel_upk 2 hb_ rfl rfl rfl), hb, Nat.lt_of_lt_of_le K0.out hs, fun _ h1_ => absurd ((up_self b 4).symm.trans h1_) (by decide), fun _ h1_ => absurd ((up_self b 4).symm.trans h1_) (by decide), fun h6_ h7_ => ⟨Kd.N_grown (Q_F94 h6_ h7_).1 hg (fun k hk => by rcases hk with hk | hk; (exact fun e_ => by have := Kd.N_base F88.out k e_.symm; omega); (rw [hk]; exact APa.out)), (Q_F94 h6_ h7_).2⟩, fun _ _ => ho, fun _ _ => (by rcases hat with hat | ⟨b_, hb_, hle_⟩; (rw [hat]; exact APa.out); (rw [hb_]; intro e_; injection e_ with e_; have := K0.out; omega)), fun h0_ _ => absurd ((hoff 7 (by kernel_rfl)).symm.trans h0_) (by decide), fun h0_ => absurd ((hoff 11 (by kernel_rfl)).symm.trans h0_) (by decide), fun h0_ => absurd ((hoff 12 (by kernel_rfl)).symm.trans h0_) (by decide)⟩
                  refine steps_cons ?_ ?_
                  · rintro b a w' ⟨v88, v92, v94, v95, v99, k0, m12_, ha, Q_HBW, Q_K0, Q_F88, Q_APa, Q_F94, Q_F92, Q_APb, Q_F95, Q_F99, Q_X12_⟩ hb_ hon hoff
                    refine ⟨_, rfl, fun K hK => ?_⟩
                    have e93 : a.tmps[93]? = some (.slice A7 row.length c7) := by rw [ha]; exact (putSel_off rfl).trans rfl
                    replace ha := Aside0.mk ha
                    have HBW := Aside0.mk Q_HBW
                    have K0 := Aside0.mk Q_K0
                    refine Kd.N_lit_step (Kd.slice 2 (Kd.int .i64)) (w0 := WR) WR.heap.size 36 (by rfl) (N' := 94) rfl (xs := [row]) (inner := [.slice A7 row.length c7]) (ok := fun k => ((w.heap.size ≤ k ∧ k ≠ gc) ∧ k < WR.heap.size) ∨ k = w'.heap.size) (okp := (fun k => (w.heap.size ≤ k ∧ k ≠ gc) ∧ k < WR.heap.size)) ?hr (Reps.one (Kd.FK_slice_mk HCW.out (Kd.F_below HFW.out HBW.out)) (Reps.none _ _)) (fun _ h => .inl h) (.inr rfl) HBW.out HBW.out.size (by simp) ?_
                    (case hr => first | (go_simp; done) | (go_simp; rfl))
                    intro v94 w1 ho hb hg hat
                    have hs := hg.size
                    obtain ⟨g_, c_, hv_, hg1_, hg2_, _⟩ := Kd.N_form ho (by simp)
                    subst hv_
                    obtain rfl : g_ = w'.heap.size := by have h1_ := ho.1 g_ (by simp [Value.ownBlock]); omega
                    refine hK.out _ _ ⟨v88, v92, (.slice (some ⟨w'.heap.size, 0, none⟩) [row].length c_), v95, v99, w'.heap.size, m12_, (by rw [ha.out]; exact putSel_upk 3 hb_ rfl rfl rfl), hb, hg2_, fun h0_ h4_ => Kd.N_grown (Q_F88 h0_ h4_) hg (fun _ _ => by simp), fun h0_ h4_ => fun e_ => Nat.lt_irrefl _ (Kd.N_lt (Q_F88 h0_ h4_) _ e_.symm), fun _ _ => ⟨ho, c_, rfl⟩, fun h4_ h7_ => Kd.N_grown (Q_F92 h4_ h7_) hg (fun _ _ => by simp), fun h4_ h7_ => fun e_ => Nat.lt_irrefl _ (Kd.N_lt (Q_F92 h4_ h7_) _ e_.symm), fun h0_ _ => absurd ((hoff 7 (by kernel_rfl)).symm.trans h0_) (by decide), fun h0_ => absurd ((hoff 11 (by kernel_rfl)).symm.trans h0_) (by decide), fun h0_ => absurd ((hoff 12 (by kernel_rfl)).symm.trans h0_) (by decide)⟩
                  refine steps_cons ?_ ?_
                  · rintro b a w' ⟨v88, v92, v94, v95, v99, k0, m12_, ha, Q_HBW, Q_K0, Q_F88, Q_APa, Q_F94, Q_F92, Q_APb, Q_F95, Q_F99, Q_X12_⟩ hb_ hon hoff
                    refine ⟨_, rfl, fun K hK => ?_⟩
                    have e92 : a.tmps[92]? = some (v92) := by rw [ha]; exact putSel_on (e := (4, 92, v92)) 2 rfl rfl (hon 4 (by kernel_rfl)) rfl
                    have e94 : a.tmps[94]? = some (v94) := by rw [ha]; exact putSel_on (e := (6, 94, v94)) 3 rfl rfl (hon 6 (by kernel_rfl)) rfl
                    replace ha := Aside0.mk ha
                    have HBW := Aside0.mk Q_HBW
                    have K0 := Aside0.mk Q_K0
                    have F94 := Aside0.mk (Q_F94 (hon 6 (by kernel_rfl)) hb_)
                    have F92 := Aside0.mk (Q_F92 (hon 4 (by kernel_rfl)) hb_)
                    have APb := Aside0.mk (Q_APb (hon 4 (by kernel_rfl)) hb_)
                    obtain ⟨HF94, c_, hv94⟩ := F94.out
                    rw [hv94] at HF94 e94
                    refine Kd.N_append_rows_step (Kd.slice 2 (Kd.int .i64)) (w0 := WR) WR.heap.size (by rfl) (.tmp 92) (.tmp 94) 24 36 (.slice none 0 0) 24 rfl Tryd.underlying24 info36 rfl (by decide) (by omega) v92 (rows.take at_) [row] (some ⟨k0, 0, none⟩) 1 c_ (fun k => w.heap.size ≤ k ∧ k ≠ gc) (fun k => ((w.heap.size ≤ k ∧ k ≠ gc) ∧ k < WR.heap.size) ∨ k = k0) (eval_of e92) (eval_of e94) F92.out (Kd.N_F HF94) (fun k hk => ⟨by rcases hk with hk | hk; (exact hk.1); (have h1_ := Kd.N_base HF94 k0 (by simp [Value.ownBlock]); have h2_ := HSZ.out; have h3_ := HGC.out; omega), fun e_ => by rcases hk with hk | hk; (have := Kd.N_base F92.out k e_.symm; omega); (exact APb.out (hk ▸ e_))⟩) (fun k hk => by have h1_ := HSZ.out; have h2_ := HBW.out.size; have h3_ := HGC.out; omega) HBW.out HBW.out.size (by simp only [List.length_nil, List.length_append, List.length_take, List.length_singleton]; omega) ?_
                    intro v95 w1 ho hb hg hat
                    have hs := hg.size
                    refine hK.out _ _ ⟨v88, v92, v94, v95, v99, k0, m12_, (by rw [ha.out]; exact putSel_upk 4 hb_ rfl rfl rfl), hb, Nat.lt_of_lt_of_le K0.out hs, fun _ h1_ => absurd ((hon 4 (by kernel_rfl)).symm.trans h1_) (by decide), fun _ h1_ => absurd ((hon 4 (by kernel_rfl)).symm.trans h1_) (by decide), fun _ h1_ => absurd ((up_self b 7).symm.trans h1_) (by decide), fun _ h1_ => absurd ((up_self b 7).symm.trans h1_) (by decide), fun _ h1_ => absurd ((up_self b 7).symm.trans h1_) (by decide), fun _ _ => ho, fun h0_ => absurd ((hoff 11 (by kernel_rfl)).symm.trans h0_) (by decide), fun h0_ => absurd ((hoff 12 (by kernel_rfl)).symm.trans h0_) (by decide)⟩
                  refine steps_cons ?_ ?_
                  · rintro b a w' ⟨v88, v92, v94, v95, v99, k0, m12_, ha, Q_HBW, Q_K0, Q_F88, Q_APa, Q_F94, Q_F92, Q_APb, Q_F95, Q_F99, Q_X12_⟩ hb_ hon hoff
                    refine ⟨_, rfl, fun K hK => ?_⟩
                    have e96 : a.tmps[96]? = some (.slice A4 rows.length c4) := by rw [ha]; exact (putSel_off rfl).trans rfl
                    have e97 : a.tmps[97]? = some (.int .i64 (at_ : Int)) := by rw [ha]; exact (putSel_off rfl).trans rfl
                    replace ha := Aside0.mk ha
                    have HBW := Aside0.mk Q_HBW
                    have K0 := Aside0.mk Q_K0
                    have hcut := HCUF.out
                    refine value_ (w1 := w') (v := .slice AC (rows.length - at_) (c4 - at_)) (by rfl) rfl ?_ ?_
                    · go_simp
                      (try simp only [i64_w])
                      try rfl
                    refine hK.out _ _ ⟨v88, v92, v94, v95, v99, k0, m12_, (by rw [ha.out]; exact putSel_upk 5 hb_ rfl rfl rfl), Q_HBW, Q_K0, Q_F88, Q_APa, Q_F94, Q_F92, Q_APb, Q_F95, fun h0_ => absurd ((hoff 11 (by kernel_rfl)).symm.trans h0_) (by decide), fun h0_ => absurd ((hoff 12 (by kernel_rfl)).symm.trans h0_) (by decide)⟩
                  refine steps_cons ?_ ?_
                  · rintro b a w' ⟨v88, v92, v94, v95, v99, k0, m12_, ha, Q_HBW, Q_K0, Q_F88, Q_APa, Q_F94, Q_F92, Q_APb, Q_F95, Q_F99, Q_X12_⟩ hb_ hon hoff
                    refine ⟨_, rfl, fun K hK => ?_⟩
                    have e95 : a.tmps[95]? = some (v95) := by rw [ha]; exact putSel_on (e := (7, 95, v95)) 4 rfl rfl (hon 7 (by kernel_rfl)) rfl
                    have e98 : a.tmps[98]? = some (.slice AC (rows.length - at_) (c4 - at_)) := by rw [ha]; exact putSel_on (e := (10, 98, .slice AC (rows.length - at_) (c4 - at_))) 5 rfl rfl (hon 10 (by kernel_rfl)) rfl
                    replace ha := Aside0.mk ha
                    have HBW := Aside0.mk Q_HBW
                    have K0 := Aside0.mk Q_K0
                    have F95 := Aside0.mk (Q_F95 (hon 7 (by kernel_rfl)) hb_)
                    refine Kd.N_append_rows_step (Kd.slice 2 (Kd.int .i64)) (w0 := WR) WR.heap.size (by rfl) (.tmp 95) (.tmp 98) 24 36 (.slice none 0 0) 24 rfl Tryd.underlying24 info36 rfl (by decide) (by omega) v95 (rows.take at_ ++ [row]) (rows.drop at_) AC (rows.length - at_) (c4 - at_) (fun k => w.heap.size ≤ k ∧ k ≠ gc) (fun k => (w.heap.size ≤ k ∧ k ≠ gc) ∧ k < WR.heap.size) (eval_of e95) (eval_of e98) F95.out (Kd.F_below (HTC.out) HBW.out) (fun k hk => ⟨hk.1, fun e_ => by have h1_ := Kd.N_base F95.out k e_.symm; have h2_ := hk.2; omega⟩) (fun k hk => by have h1_ := HSZ.out; have h2_ := HBW.out.size; have h3_ := HGC.out; omega) HBW.out HBW.out.size (by simp only [List.length_nil, List.length_append, List.length_take, List.length_singleton]; omega) ?_
                    intro v99 w1 ho hb hg hat
                    have hs := hg.size
                    refine hK.out _ _ ⟨v88, v92, v94, v95, v99, k0, m12_, (by rw [ha.out]; exact putSel_upk 6 hb_ rfl rfl rfl), hb, Nat.lt_of_lt_of_le K0.out hs, fun _ h1_ => absurd ((hon 4 (by kernel_rfl)).symm.trans h1_) (by decide), fun _ h1_ => absurd ((hon 4 (by kernel_rfl)).symm.trans h1_) (by decide), fun _ h1_ => absurd ((hon 7 (by kernel_rfl)).symm.trans h1_) (by decide), fun _ h1_ => absurd ((hon 7 (by kernel_rfl)).symm.trans h1_) (by decide), fun _ h1_ => absurd ((hon 7 (by kernel_rfl)).symm.trans h1_) (by decide), fun _ h1_ => absurd ((up_self b 11).symm.trans h1_) (by decide), fun _ => ho, fun h0_ => absurd ((hoff 12 (by kernel_rfl)).symm.trans h0_) (by decide)⟩
                  refine steps_cons ?_ ?_
                  · rintro b a w' ⟨v88, v92, v94, v95, v99, k0, m12_, ha, Q_HBW, Q_K0, Q_F88, Q_APa, Q_F94, Q_F92, Q_APb, Q_F95, Q_F99, Q_X12_⟩ hb_ hon hoff
                    refine ⟨_, rfl, fun K hK => ?_⟩
                    have e99 : a.tmps[99]? = some (v99) := by rw [ha]; exact putSel_on (e := (11, 99, v99)) 6 rfl rfl (hon 11 (by kernel_rfl)) rfl
                    replace ha := Aside0.mk ha
                    have HBW := Aside0.mk Q_HBW
                    have K0 := Aside0.mk Q_K0
                    have F99 := Aside0.mk (Q_F99 (hon 11 (by kernel_rfl)))
                    refine value_ (w1 := w') (v := v99) (by rfl) rfl ?_ ?_
                    · go_simp
                      (try simp only [i64_w])
                      try rfl
                    refine hK.out _ _ ⟨v88, v92, v94, v95, v99, k0, (v99), (by rw [ha.out]; exact putSel_upk 7 hb_ rfl rfl rfl), Q_HBW, Q_K0, fun _ h1_ => absurd ((hon 4 (by kernel_rfl)).symm.trans h1_) (by decide), fun _ h1_ => absurd ((hon 4 (by kernel_rfl)).symm.trans h1_) (by decide), fun _ h1_ => absurd ((hon 7 (by kernel_rfl)).symm.trans h1_) (by decide), fun _ h1_ => absurd ((hon 7 (by kernel_rfl)).symm.trans h1_) (by decide), fun _ h1_ => absurd ((hon 7 (by kernel_rfl)).symm.trans h1_) (by decide), fun _ h1_ => absurd ((hon 11 (by kernel_rfl)).symm.trans h1_) (by decide), Q_F99, fun _ => rfl⟩
                  exact steps_nil
                · rintro b a w' hall ⟨v88, v92, v94, v95, v99, k0, m12_, ha, Q_HBW, Q_K0, Q_F88, Q_APa, Q_F94, Q_F92, Q_APb, Q_F95, Q_F99, Q_X12_⟩
                  clear HBW K0
                  have hb0_ := hall 0 (by kernel_rfl)
                  have hb3_ := hall 3 (by kernel_rfl)
                  have hb4_ := hall 4 (by kernel_rfl)
                  have hb6_ := hall 6 (by kernel_rfl)
                  have hb7_ := hall 7 (by kernel_rfl)
                  have hb10_ := hall 10 (by kernel_rfl)
                  have hb11_ := hall 11 (by kernel_rfl)
                  have hb12_ := hall 12 (by kernel_rfl)
                  subst ha
                  obtain rfl := Q_X12_ hb12_
                  simp only [putSel, hb0_, hb3_, hb4_, hb6_, hb7_, hb10_, hb11_, hb12_, if_true, Act.put, List.setIfInBounds_toArray, List.set_cons_zero, List.set_cons_succ]
                  have HBW := Aside0.mk Q_HBW
                  clear Q_HBW
                  have K0 := Aside0.mk Q_K0
                  clear Q_K0
                  clear Q_F88
                  clear Q_APa
                  clear Q_F94
                  clear Q_F92
                  clear Q_APb
                  clear Q_F95
                  have F99 := Aside0.mk (Q_F99 hb11_)
                  clear Q_F99
                  clear hall hb0_ hb3_ hb4_ hb6_ hb7_ hb10_ hb11_ hb12_
                  have HI8 := Aside0.mk (inv_below HI7.out HBW.out)
                  have HD8 := Aside0.mk (blk_below HD7.out HBW.out)
                  have HR8 := Aside0.mk (Kd.N_lower F99.out HSZ.out)
                  have HL8 : Aside0 ((rows.take at_ ++ [row] ++ rows.drop at_).length = rows.length + 1) := ⟨by simp only [List.length_append, List.length_take, List.length_drop, List.length_singleton]; omega⟩
                  clear HI7 HD7 HR7 HW7 HT4 HTC HFW HCUT HCUF F99
                  go_wp2_with (fail)
                  go_roundg (kk - 1)
                  case measure => omega
                  case rel => exact ⟨kk - 1, _, by omega, by omega, by congr 1; omega, HI8, HD8, HR8, ⟨by rw [HL8.out]; omega⟩⟩
        · have hdk : decide (0 < (kk : Int)) = false := decide_eq_false hlt
          have hdk2 : decide (0 < kk) = false := decide_eq_false (by omega)
          have HQ := Aside0.mk (N_NQ HR.out)
          clear HR
          have hln : rows.length ≤ 12 := by have := HLn.out; omega
          go_upto_region 28 with (fail)
          go_cut [107] (fun v107 wx => ∃ q : Bool, v107 = .bool q ∧ Aside0 (q = true → 0 < rows.length) ∧ Aside0 (Inv w0 w gs wx) ∧ Aside0 (wx.heap[gc]? = some (.cells #[.int .i64 a, .int .i64 b, .slice none 0 0] 26 (0, 0))) ∧ Aside0 (NQ (Kd.slice 2 (Kd.int .i64)) 36 wx w.heap.size (fun k => w.heap.size ≤ k ∧ k ≠ gc) (.slice A4 rows.length c4) rows))
          case first =>
            by_cases hr0 : rows.length = 0
            · have hz : decide (0 < rows.length) = false := decide_eq_false (by omega)
              clear hr0
              go_wp2_with (fail)
              go_meet
              case rel => exact ⟨false, rfl, ⟨fun h => by cases h⟩, HI, HD, HQ⟩
            · have hz : decide (0 < rows.length) = true := decide_eq_true (by omega)
              have HL0 : Aside0 (0 < rows.length) := ⟨by omega⟩
              clear hr0
              go_wp2_with (fail)
              (with_reducible refine (next_src gs 5 w0 _ (inv_src HI.out) (inv_base HI.out)).mono ?_)
              rintro e w6 ⟨x6, rfl, ⟨hx6, hx6'⟩, hs1, hb1, hk1⟩
              have HI7 := Aside0.mk (inv_next HI.out hs1 hb1 hk1)
              have HD7 := Aside0.mk (blk_next HD.out hk1 (by have := HZ.out; omega))
              have HQ7 := Aside0.mk (NQ_keep HQ.out hk1 (fun k hk => by omega))
              clear hs1 hb1 hk1 HI HD HQ
              go_wp2_with (fail)
              go_meet
              case rel => exact ⟨_, rfl, ⟨fun _ => HL0.out⟩, HI7, HD7, HQ7⟩
          case rest =>
            obtain ⟨q, rfl, HLq, HI, HD, HQ⟩ := hcut
            go_upto_if 107 with (fail)
            go_cut [4] (fun v4 wx => ∃ rows' : List (List Int), Aside0 (rows'.length ≤ 12) ∧ Aside0 (Inv w0 w gs wx) ∧ Aside0 (wx.heap[gc]? = some (.cells #[.int .i64 a, .int .i64 b, .slice none 0 0] 26 (0, 0))) ∧ Aside0 (NQ (Kd.slice 2 (Kd.int .i64)) 36 wx w.heap.size (fun k => w.heap.size ≤ k ∧ k ≠ gc) v4 rows'))
            case first =>
              cases q with
              | false =>
                go_wp2_with (fail)
                go_meet
                case rel => exact ⟨rows, ⟨hln⟩, HI, HD, HQ⟩
              | true =>
                have hl0 : 0 < rows.length := HLq.out rfl
                have hc4 : rows.length ≤ c4 := (NQ_reads' HQ.out).2.1
                obtain ⟨i0, hi0, _, hsz0, _⟩ := info_parts info36
                obtain ⟨AC, hAC⟩ : ∃ AC, AC = (if c4 = 1 then A4 else A4.map (·.add (1 * 1))) := ⟨_, rfl⟩
                have hcuf : ∀ W : World, (Instr.slice 24 (.slice A4 rows.length c4) (some (.int .i64 1)) none none).run Tryd.prog W = .ok (.slice AC (rows.length - 1) (c4 - 1)) W := by rw [hAC]; exact cut_from (P := Tryd.prog) 24 36 .i64 Tryd.underlying24 hi0 1 hsz0 A4 rows.length c4 1 (by omega) (by omega)
                have HQ2 := Aside0.mk (show NQ (Kd.slice 2 (Kd.int .i64)) 36 wc w.heap.size (fun k => w.heap.size ≤ k ∧ k ≠ gc) (.slice AC (rows.length - 1) (c4 - 1)) (rows.drop 1) by rw [hAC]; exact NQ_drop HQ.out (by omega))
                clear hAC hi0 hsz0
                go_wp2_with (fail)
                go_meet
                case rel => exact ⟨rows.drop 1, ⟨by rw [List.length_drop]; omega⟩, HI, HD, HQ2⟩
            case rest =>
              clear HQ HI HD HLq
              obtain ⟨rows', HLr, HI, HD, HQ⟩ := hcut
              obtain ⟨A5, c5, rfl, hc5⟩ := NQ_slice HQ.out
              have hlr : rows'.length ≤ 12 := HLr.out
              go_wp2_with (fail)
              (with_reducible refine (next_src gs 30 w0 _ (inv_src HI.out) (inv_base HI.out)).mono ?_)
              rintro e w6 ⟨x, rfl, ⟨hx1, hx2⟩, hs1, hb1, hk1⟩
              have HI7 := Aside0.mk (inv_next HI.out hs1 hb1 hk1)
              have HD7 := Aside0.mk (blk_next HD.out hk1 (by have := HZ.out; omega))
              have HQ7 := Aside0.mk (NQ_keep HQ.out hk1 (fun k hk => by omega))
              clear hs1 hb1 hk1 HI HD HQ
              go_upto_block 8 with (fail)
              go_cut [4] (fun v4 wx => ∃ (rq : List (List Int)) (aq bq : Int), Aside0 (Inv w0 w gs wx) ∧ Aside0 (wx.heap[gc]? = some (.cells #[.int .i64 aq, .int .i64 bq, .slice none 0 0] 26 (0, 0))) ∧ Aside0 (Kd.V (Kd.slice 2 (Kd.int .i64)) 36 wx w.heap.size (fun k => w.heap.size ≤ k ∧ k ≠ gc) v4 rq))
              case first =>
                by_cases q0 : x = 0
                · have d0 : (x == 0) = true := by rw [beq_iff_eq]; exact q0
                  clear q0
                  have HIa := Aside0.mk (inv_below HI7.out (below_alloc (Below.refl _ _) (.cells #[.int .i64 0, .int .i64 60, .int .i64 61] 2)))
                  have HDa := Aside0.mk (blk_alloc HD7.out (.cells #[.int .i64 0, .int .i64 60, .int .i64 61] 2))
                  have HQa := Aside0.mk (NQ_below HQ7.out (below_alloc (Below.refl _ _) (.cells #[.int .i64 0, .int .i64 60, .int .i64 61] 2)))
                  have HLa := Aside0.mk (heap_alloc_new w6 (.cells #[.int .i64 0, .int .i64 60, .int .i64 61] 2))
                  have HZa := Aside0.mk (inv_size HI7.out)
                  go_wp2_with (fail)
                  (with_reducible refine (next_src gs 3 w0 _ (inv_src HIa.out) (inv_base HIa.out)).mono ?_)
                  rintro e w7 ⟨y, rfl, ⟨hy1, hy2⟩, hs1, hb1, hk1⟩
                  replace hy2 := hy2 (by omega)
                  have HIb := Aside0.mk (inv_next HIa.out hs1 hb1 hk1)
                  have HDb := Aside0.mk (blk_next HDa.out hk1 (by have := HZ.out; omega))
                  have HQb := Aside0.mk (NQ_keep HQa.out hk1 (fun k hk => by omega))
                  have HLb := Aside0.mk (blk_next HLa.out hk1 (by have := HZa.out; omega))
                  clear hs1 hb1 hk1 HI7 HD7 HQ7 HIa HDa HQa HLa
                  have hgd0 : w7.cell? ⟨gc, 0, none⟩ = some (.int .i64 a) := (blk_cell HDb.out 0).trans rfl
                  have hgf0 := blk_frozen HDb.out 0
                  have hy : y = 0 ∨ y = 1 ∨ y = 2 := by omega
                  have HY : Aside0 (∀ z : Int, w7.cell? ⟨w6.heap.size, y.toNat, none⟩ = some (.int .i64 z) → True) := ⟨fun _ _ => trivial⟩
                  obtain ⟨z, hz⟩ : ∃ z : Int, w7.cell? ⟨w6.heap.size, y.toNat, none⟩ = some (.int .i64 z) := by
                    rcases hy with rfl | rfl | rfl
                    · exact ⟨0, (blk_cell HLb.out 0).trans rfl⟩
                    · exact ⟨60, (blk_cell HLb.out 1).trans rfl⟩
                    · exact ⟨61, (blk_cell HLb.out 2).trans rfl⟩
                  clear hy HY
                  have hlt3 : y < 3 := hy2
                  go_wp2_with (fail)
                  go_meet
                  case rel => exact ⟨rows', z, b, ⟨inv_set HIb.out HZ.out (Nat.le_trans HW0.out HZ.out) hgs 0 _⟩, ⟨blk_put HDb.out 0 _ rfl⟩, ⟨NQ_V (NQ_far HQb.out (p := ⟨gc, 0, none⟩) (fun _ hk => hk.2) _)⟩⟩
                have d0 : (x == 0) = false := by rw [beq_eq_false_iff_ne]; exact q0
                by_cases q1 : x = 1
                · have d1 : (x == 1) = true := by rw [beq_iff_eq]; exact q1
                  clear q0 q1
                  obtain ⟨ca, rfl⟩ : ∃ ca : Int, ca = a := ⟨_, rfl⟩
                  obtain ⟨cb, rfl⟩ : ∃ cb : Int, cb = b := ⟨_, rfl⟩
                  go_upto_region 34 with (fail)
                  have HI := Aside0.mk (inv_below HI7.out (below_drew (Below.refl _ _)))
                  have HD := Aside0.mk (blk_drew HD7.out)
                  have HQ := Aside0.mk (NQ_below HQ7.out (below_drew (Below.refl _ _)))
                  clear HI7 HD7 HQ7
                  refine start_ (n := 10) (S := fun w' => True) (ds := []) #[false, false, false, false, false, false, false, false, false, false] (by kernel_rfl) rfl rfl trivial (fun hHeld => ?_)
                  refine with_tabW spec_l13Draw.tab34 spec_l13Draw.bits34 (fun HT_ HW_ => ?_)
                  generalize hWR : w6.drew = WR at HI HD HQ ⊢
                  refine pure_ (i := 0) (N := some 122) (v := ?_) (a' := ?_) #[true, false, false, false, false, false, false, false, false, false] rfl rfl (any_of HT_.out (by kernel_rfl)) (fun _ _ _ h => h) (Or.inl ⟨by rfl, ?_⟩) ?_ ?_
                  rotate_left
                  · intro w'
                    go_simp
                    with_reducible rfl
                  rotate_left
                  · simp only [Act.put, List.setIfInBounds_toArray, List.set_cons_zero, List.set_cons_succ, i64_w, i32_w]
                    rfl
                  refine pure_ (i := 4) (N := some 126) (v := ?_) (a' := ?_) #[true, false, false, false, true, false, false, false, false, false] rfl rfl (any_of HT_.out (by kernel_rfl)) (fun _ _ _ h => h) (Or.inl ⟨by rfl, ?_⟩) ?_ ?_
                  rotate_left
                  · intro w'
                    go_simp
                    with_reducible rfl
                  rotate_left
                  · simp only [Act.put, List.setIfInBounds_toArray, List.set_cons_zero, List.set_cons_succ, i64_w, i32_w]
                    rfl
                  refine inv_at [1, 2, 3, 5, 6, 7, 8, 9] (fun a0_ b a w' => ∃ (k0 : Nat) (n5 : Int) (y7 : Int) (m3_ : Value) (m5_ : Value) (m6_ : Value) (m7_ : Value), a = putSel a0_ b [(1, 123, .int .i64 ca), (2, 124, .int .i64 (ca + 1)), (3, 125, m3_), (5, 127, m5_), (6, 128, m6_), (7, 129, m7_), (8, 130, .pointer (some ⟨gc, 1, none⟩))] ∧ (b 9 = false → Inv w0 w gs w') ∧ (b 9 = false → w'.heap[gc]? = some (.cells #[.int .i64 ca, .int .i64 cb, .slice none 0 0] 26 (0, 0))) ∧ (b 9 = false → NQ (Kd.slice 2 (Kd.int .i64)) 36 w' w.heap.size (fun k => w.heap.size ≤ k ∧ k ≠ gc) (.slice A5 rows'.length c5) rows') ∧ (b 3 = true → b 9 = false → w'.heap[k0]? = some (.cells #[.int .i64 0, .int .i64 (ca + 1)] 2 (0, 0)) ∧ w.heap.size ≤ k0) ∧ (b 5 = true → 0 ≤ n5 ∧ n5 < 2) ∧ (b 9 = true → Inv w0 w gs w' ∧ (∃ b', w'.heap[gc]? = some (.cells #[.int .i64 ca, .int .i64 b', .slice none 0 0] 26 (0, 0))) ∧ NQ (Kd.slice 2 (Kd.int .i64)) 36 w' w.heap.size (fun k => w.heap.size ≤ k ∧ k ≠ gc) (.slice A5 rows'.length c5) rows') ∧ (b 3 = true → (m3_ : Value) = .slice (some ⟨k0, 0, none⟩) 2 2) ∧ (b 5 = true → (m5_ : Value) = .int .i64 n5) ∧ (b 6 = true → (m6_ : Value) = .pointer (some ⟨k0, n5.toNat, none⟩)) ∧ (b 7 = true → (m7_ : Value) = .int .i64 y7)) HT_.out HW_.out (by kernel_rfl) (by kernel_rfl) ?_ ?_ ?_
                  · exact ⟨0, 0, 0, .bool false, .bool false, .bool false, .bool false, by simp only [putSel, Bool.false_eq_true, if_false], fun _ => HI.out, fun _ => HD.out, fun _ => HQ.out, fun h_ => absurd h_ (by decide), fun h_ => absurd h_ (by decide), fun h_ => absurd h_ (by decide), fun h_ => absurd h_ (by decide), fun h_ => absurd h_ (by decide), fun h_ => absurd h_ (by decide), fun h_ => absurd h_ (by decide)⟩
                  · skip
                    clear HD HI HQ
                    refine steps_cons ?_ ?_
                    · rintro b a w' ⟨k0, n5, y7, m3_, m5_, m6_, m7_, ha, Q_HI, Q_HD, Q_HQ, Q_F3, Q_F5, Q_F9, Q_X3_, Q_X5_, Q_X6_, Q_X7_⟩ hb_ hon hoff
                      refine ⟨_, rfl, fun K hK => ?_⟩
                      have e122 : a.tmps[122]? = some (.pointer (some ⟨gc, 0, none⟩)) := by rw [ha]; exact (putSel_off rfl).trans rfl
                      replace ha := Aside0.mk ha
                      have HI := Aside0.mk (Q_HI (hoff 9 (by kernel_rfl)))
                      have HD := Aside0.mk (Q_HD (hoff 9 (by kernel_rfl)))
                      have HQ := Aside0.mk (Q_HQ (hoff 9 (by kernel_rfl)))
                      have hc0 : w'.cell? ⟨gc, 0, none⟩ = some (.int .i64 ca) := (blk_cell HD.out 0).trans rfl
                      refine value_ (w1 := w') (v := .int .i64 ca) (by rfl) rfl ?_ ?_
                      · go_simp
                        (try simp only [i64_w])
                        try rfl
                      refine hK.out _ _ ⟨k0, n5, y7, m3_, m5_, m6_, m7_, (by rw [ha.out]; exact putSel_upk 0 hb_ rfl rfl rfl), Q_HI, Q_HD, Q_HQ, fun h0_ _ => absurd ((hoff 3 (by kernel_rfl)).symm.trans h0_) (by decide), Q_F5, fun h0_ => absurd ((hoff 9 (by kernel_rfl)).symm.trans h0_) (by decide), fun h0_ => absurd ((hoff 3 (by kernel_rfl)).symm.trans h0_) (by decide), Q_X5_, fun h0_ => absurd ((hoff 6 (by kernel_rfl)).symm.trans h0_) (by decide), fun h0_ => absurd ((hoff 7 (by kernel_rfl)).symm.trans h0_) (by decide)⟩
                    refine steps_cons ?_ ?_
                    · rintro b a w' ⟨k0, n5, y7, m3_, m5_, m6_, m7_, ha, Q_HI, Q_HD, Q_HQ, Q_F3, Q_F5, Q_F9, Q_X3_, Q_X5_, Q_X6_, Q_X7_⟩ hb_ hon hoff
                      refine ⟨_, rfl, fun K hK => ?_⟩
                      have e123 : a.tmps[123]? = some (.int .i64 ca) := by rw [ha]; exact putSel_on (e := (1, 123, .int .i64 ca)) 0 rfl rfl (hon 1 (by kernel_rfl)) rfl
                      replace ha := Aside0.mk ha
                      have HI := Aside0.mk (Q_HI (hoff 9 (by kernel_rfl)))
                      have HD := Aside0.mk (Q_HD (hoff 9 (by kernel_rfl)))
                      have HQ := Aside0.mk (Q_HQ (hoff 9 (by kernel_rfl)))
                      have hwa : IntKind.i64.wrap (ca + 1) = ca + 1 := IntWalk.i64_in _ (by omega)
                      refine value_ (w1 := w') (v := .int .i64 (ca + 1)) (by rfl) rfl ?_ ?_
                      · go_simp
                        (try simp only [i64_w])
                        try rfl
                      refine hK.out _ _ ⟨k0, n5, y7, m3_, m5_, m6_, m7_, (by rw [ha.out]; exact putSel_upk 1 hb_ rfl rfl rfl), Q_HI, Q_HD, Q_HQ, fun h0_ _ => absurd ((hoff 3 (by kernel_rfl)).symm.trans h0_) (by decide), Q_F5, fun h0_ => absurd ((hoff 9 (by kernel_rfl)).symm.trans h0_) (by decide), fun h0_ => absurd ((hoff 3 (by kernel_rfl)).symm.trans h0_) (by decide), Q_X5_, fun h0_ => absurd ((hoff 6 (by kernel_rfl)).symm.trans h0_) (by decide), fun h0_ => absurd ((hoff 7 (by kernel_rfl)).symm.trans h0_) (by decide)⟩
                    refine steps_cons ?_ ?_
                    · rintro b a w' ⟨k0, n5, y7, m3_, m5_, m6_, m7_, ha, Q_HI, Q_HD, Q_HQ, Q_F3, Q_F5, Q_F9, Q_X3_, Q_X5_, Q_X6_, Q_X7_⟩ hb_ hon hoff
                      refine ⟨_, rfl, fun K hK => ?_⟩
                      have e124 : a.tmps[124]? = some (.int .i64 (ca + 1)) := by rw [ha]; exact putSel_on (e := (2, 124, .int .i64 (ca + 1))) 1 rfl rfl (hon 2 (by kernel_rfl)) rfl
                      replace ha := Aside0.mk ha
                      have HI := Aside0.mk (Q_HI (hoff 9 (by kernel_rfl)))
                      have HD := Aside0.mk (Q_HD (hoff 9 (by kernel_rfl)))
                      have HQ := Aside0.mk (Q_HQ (hoff 9 (by kernel_rfl)))
                      refine value_ (w1 := w'.alloc (.cells #[.int .i64 0, .int .i64 (ca + 1)] 2)) (v := .slice (some ⟨w'.heap.size, 0, none⟩) 2 2) (by rfl) rfl ?hr ?_
                      (case hr => first | (go_simp; done) | (go_simp; rfl))
                      refine hK.out _ _ ⟨w'.heap.size, n5, y7, (.slice (some ⟨w'.heap.size, 0, none⟩) 2 2), m5_, m6_, m7_, (by rw [ha.out]; exact putSel_upk 2 hb_ rfl rfl rfl), fun _ => inv_below HI.out (below_alloc (Below.refl _ _) _), fun _ => blk_alloc HD.out _, fun _ => NQ_below HQ.out (below_alloc (Below.refl _ _) _), fun _ _ => ⟨heap_alloc_new _ _, inv_size HI.out⟩, Q_F5, fun h0_ => absurd ((hoff 9 (by kernel_rfl)).symm.trans h0_) (by decide), fun _ => rfl, Q_X5_, fun h0_ => absurd ((hoff 6 (by kernel_rfl)).symm.trans h0_) (by decide), fun h0_ => absurd ((hoff 7 (by kernel_rfl)).symm.trans h0_) (by decide)⟩
                    refine steps_cons ?_ ?_
                    · rintro b a w' ⟨k0, n5, y7, m3_, m5_, m6_, m7_, ha, Q_HI, Q_HD, Q_HQ, Q_F3, Q_F5, Q_F9, Q_X3_, Q_X5_, Q_X6_, Q_X7_⟩ hb_ hon hoff
                      refine ⟨_, rfl, fun K hK => ?_⟩
                      have e126 : a.tmps[126]? = some (.pointer (some ⟨gs, 0, none⟩)) := by rw [ha]; exact (putSel_off rfl).trans rfl
                      replace ha := Aside0.mk ha
                      have HI := Aside0.mk (Q_HI (hoff 9 (by kernel_rfl)))
                      have HD := Aside0.mk (Q_HD (hoff 9 (by kernel_rfl)))
                      have HQ := Aside0.mk (Q_HQ (hoff 9 (by kernel_rfl)))
                      refine goes_ Tryd.func39 (by kernel_rfl) rfl #[.pointer (some ⟨gs, 0, none⟩), .int .i64 2] (by rfl) rfl rfl (by first | (simp only [List.map_toArray, List.map_cons, List.map_nil, Act.eval, Array.getD_eq_getD_getElem?, Option.getD_some, e126]; done) | (simp only [List.map_toArray, List.map_cons, List.map_nil, Act.eval, Array.getD_eq_getD_getElem?, Option.getD_some, e126]; rfl)) ?_
                      refine (next_src gs 2 w0 _ (inv_src HI.out) (inv_base HI.out)).mono ?_
                      rintro e w1 ⟨n5, rfl, ⟨hn1, hn2⟩, hs1, hb1, hk1⟩
                      replace hn2 := hn2 (by omega)
                      refine ⟨_, rfl, ?_⟩
                      refine hK.out _ _ ⟨k0, n5, y7, m3_, (.int .i64 n5), m6_, m7_, (by rw [ha.out]; exact putSel_upk 3 hb_ rfl rfl rfl), fun _ => inv_next HI.out hs1 hb1 hk1, fun _ => blk_next HD.out hk1 (by have := HZ.out; omega), fun _ => NQ_keep HQ.out hk1 (fun k hk => by omega), fun h3_ h9_ => ⟨blk_next (Q_F3 h3_ h9_).1 hk1 (by have := (Q_F3 h3_ h9_).2; omega), (Q_F3 h3_ h9_).2⟩, fun _ => ⟨hn1, hn2⟩, fun h0_ => absurd ((hoff 9 (by kernel_rfl)).symm.trans h0_) (by decide), Q_X3_, fun _ => rfl, fun h0_ => absurd ((hoff 6 (by kernel_rfl)).symm.trans h0_) (by decide), fun h0_ => absurd ((hoff 7 (by kernel_rfl)).symm.trans h0_) (by decide)⟩
                    refine steps_cons ?_ ?_
                    · rintro b a w' ⟨k0, n5, y7, m3_, m5_, m6_, m7_, ha, Q_HI, Q_HD, Q_HQ, Q_F3, Q_F5, Q_F9, Q_X3_, Q_X5_, Q_X6_, Q_X7_⟩ hb_ hon hoff
                      refine ⟨_, rfl, fun K hK => ?_⟩
                      have e125 : a.tmps[125]? = some (m3_) := by rw [ha]; exact putSel_on (e := (3, 125, m3_)) 2 rfl rfl (hon 3 (by kernel_rfl)) rfl
                      rw [Q_X3_ (hon 3 (by kernel_rfl))] at e125
                      have e127 : a.tmps[127]? = some (m5_) := by rw [ha]; exact putSel_on (e := (5, 127, m5_)) 3 rfl rfl (hon 5 (by kernel_rfl)) rfl
                      rw [Q_X5_ (hon 5 (by kernel_rfl))] at e127
                      replace ha := Aside0.mk ha
                      have HI := Aside0.mk (Q_HI (hoff 9 (by kernel_rfl)))
                      have HD := Aside0.mk (Q_HD (hoff 9 (by kernel_rfl)))
                      have HQ := Aside0.mk (Q_HQ (hoff 9 (by kernel_rfl)))
                      have F3 := Aside0.mk (Q_F3 (hon 3 (by kernel_rfl)) (hoff 9 (by kernel_rfl)))
                      have F5 := Aside0.mk (Q_F5 (hon 5 (by kernel_rfl)))
                      have hn1 := F5.out.1
                      have hn2 := F5.out.2
                      refine value_ (w1 := w') (v := .pointer (some ⟨k0, n5.toNat, none⟩)) (by rfl) rfl ?_ ?_
                      · go_simp
                        (try simp only [i64_w])
                        try rfl
                      refine hK.out _ _ ⟨k0, n5, y7, m3_, m5_, (.pointer (some ⟨k0, n5.toNat, none⟩)), m7_, (by rw [ha.out]; exact putSel_upk 4 hb_ rfl rfl rfl), Q_HI, Q_HD, Q_HQ, Q_F3, Q_F5, fun h0_ => absurd ((hoff 9 (by kernel_rfl)).symm.trans h0_) (by decide), Q_X3_, Q_X5_, fun _ => rfl, fun h0_ => absurd ((hoff 7 (by kernel_rfl)).symm.trans h0_) (by decide)⟩
                    refine steps_cons ?_ ?_
                    · rintro b a w' ⟨k0, n5, y7, m3_, m5_, m6_, m7_, ha, Q_HI, Q_HD, Q_HQ, Q_F3, Q_F5, Q_F9, Q_X3_, Q_X5_, Q_X6_, Q_X7_⟩ hb_ hon hoff
                      refine ⟨_, rfl, fun K hK => ?_⟩
                      have e128 : a.tmps[128]? = some (m6_) := by rw [ha]; exact putSel_on (e := (6, 128, m6_)) 4 rfl rfl (hon 6 (by kernel_rfl)) rfl
                      rw [Q_X6_ (hon 6 (by kernel_rfl))] at e128
                      replace ha := Aside0.mk ha
                      have HI := Aside0.mk (Q_HI (hoff 9 (by kernel_rfl)))
                      have HD := Aside0.mk (Q_HD (hoff 9 (by kernel_rfl)))
                      have HQ := Aside0.mk (Q_HQ (hoff 9 (by kernel_rfl)))
                      have F3 := Aside0.mk (Q_F3 (hon 3 (by kernel_rfl)) (hoff 9 (by kernel_rfl)))
                      have F5 := Aside0.mk (Q_F5 (hon 5 (by kernel_rfl)))
                      obtain ⟨z, hz⟩ : ∃ z : Int, w'.cell? ⟨k0, n5.toNat, none⟩ = some (.int .i64 z) := by (have h1_ := F5.out; have h2_ : n5 = 0 ∨ n5 = 1 := by omega); rcases h2_ with h2_ | h2_; (rw [h2_]; exact ⟨0, (blk_cell F3.out.1 0).trans rfl⟩); (rw [h2_]; exact ⟨ca + 1, (blk_cell F3.out.1 1).trans rfl⟩)
                      refine value_ (w1 := w') (v := .int .i64 z) (by rfl) rfl ?hr ?_
                      (case hr => first | (go_simp; done) | (go_simp; rfl))
                      refine hK.out _ _ ⟨k0, n5, z, m3_, m5_, m6_, (.int .i64 z), (by rw [ha.out]; exact putSel_upk 5 hb_ rfl rfl rfl), fun _ => HI.out, fun _ => HD.out, fun _ => HQ.out, fun _ _ => F3.out, Q_F5, fun h0_ => absurd ((hoff 9 (by kernel_rfl)).symm.trans h0_) (by decide), Q_X3_, Q_X5_, Q_X6_, fun _ => rfl⟩
                    refine steps_cons ?_ ?_
                    · rintro b a w' ⟨k0, n5, y7, m3_, m5_, m6_, m7_, ha, Q_HI, Q_HD, Q_HQ, Q_F3, Q_F5, Q_F9, Q_X3_, Q_X5_, Q_X6_, Q_X7_⟩ hb_ hon hoff
                      refine ⟨_, rfl, fun K hK => ?_⟩
                      have e3 : a.tmps[3]? = some (.pointer (some ⟨gc, 0, none⟩)) := by rw [ha]; exact (putSel_off rfl).trans rfl
                      replace ha := Aside0.mk ha
                      have HI := Aside0.mk (Q_HI (hoff 9 (by kernel_rfl)))
                      have HD := Aside0.mk (Q_HD (hoff 9 (by kernel_rfl)))
                      have HQ := Aside0.mk (Q_HQ (hoff 9 (by kernel_rfl)))
                      have F3 := Aside0.mk (Q_F3 (hon 3 (by kernel_rfl)) (hoff 9 (by kernel_rfl)))
                      have F5 := Aside0.mk (Q_F5 (hon 5 (by kernel_rfl)))
                      refine value_ (w1 := w') (v := .pointer (some ⟨gc, 1, none⟩)) (by rfl) rfl ?_ ?_
                      · go_simp
                        (try simp only [i64_w])
                        try rfl
                      refine hK.out _ _ ⟨k0, n5, y7, m3_, m5_, m6_, m7_, (by rw [ha.out]; exact putSel_upk 6 hb_ rfl rfl rfl), Q_HI, Q_HD, Q_HQ, Q_F3, Q_F5, fun h0_ => absurd ((hoff 9 (by kernel_rfl)).symm.trans h0_) (by decide), Q_X3_, Q_X5_, Q_X6_, Q_X7_⟩
                    refine steps_cons ?_ ?_
                    · rintro b a w' ⟨k0, n5, y7, m3_, m5_, m6_, m7_, ha, Q_HI, Q_HD, Q_HQ, Q_F3, Q_F5, Q_F9, Q_X3_, Q_X5_, Q_X6_, Q_X7_⟩ hb_ hon hoff
                      refine ⟨_, rfl, fun K hK => ?_⟩
                      have e130 : a.tmps[130]? = some (.pointer (some ⟨gc, 1, none⟩)) := by rw [ha]; exact putSel_on (e := (8, 130, .pointer (some ⟨gc, 1, none⟩))) 6 rfl rfl (hon 8 (by kernel_rfl)) rfl
                      have e129 : a.tmps[129]? = some (m7_) := by rw [ha]; exact putSel_on (e := (7, 129, m7_)) 5 rfl rfl (hon 7 (by kernel_rfl)) rfl
                      rw [Q_X7_ (hon 7 (by kernel_rfl))] at e129
                      replace ha := Aside0.mk ha
                      have HI := Aside0.mk (Q_HI hb_)
                      have HD := Aside0.mk (Q_HD hb_)
                      have HQ := Aside0.mk (Q_HQ hb_)
                      have F3 := Aside0.mk (Q_F3 (hon 3 (by kernel_rfl)) hb_)
                      have F5 := Aside0.mk (Q_F5 (hon 5 (by kernel_rfl)))
                      have hc1 : w'.cell? ⟨gc, 1, none⟩ = some (.int .i64 cb) := (blk_cell HD.out 1).trans rfl
                      have hf1 := blk_frozen HD.out 1
                      refine skip_ (w1 := w'.setCell ⟨gc, 1, none⟩ (.int .i64 y7)) (by rfl) rfl ?hr ?_
                      (case hr => first | (go_simp; done) | (go_simp; rfl))
                      refine hK.out _ _ ⟨k0, n5, y7, m3_, m5_, m6_, m7_, (by rw [ha.out]; exact putSel_none (v := undef) rfl), fun h0_ => absurd ((up_self b 9).symm.trans h0_) (by decide), fun h0_ => absurd ((up_self b 9).symm.trans h0_) (by decide), fun h0_ => absurd ((up_self b 9).symm.trans h0_) (by decide), fun _ h1_ => absurd ((up_self b 9).symm.trans h1_) (by decide), Q_F5, fun _ => ⟨inv_set HI.out HZ.out (Nat.le_trans HW0.out HZ.out) hgs 1 _, ⟨y7, blk_put HD.out 1 _ rfl⟩, NQ_far HQ.out (p := ⟨gc, 1, none⟩) (fun _ hk => hk.2) _⟩, Q_X3_, Q_X5_, Q_X6_, Q_X7_⟩
                    exact steps_nil
                  · rintro b a w' hall ⟨k0, n5, y7, m3_, m5_, m6_, m7_, ha, Q_HI, Q_HD, Q_HQ, Q_F3, Q_F5, Q_F9, Q_X3_, Q_X5_, Q_X6_, Q_X7_⟩
                    clear HD HI HQ
                    have hb1_ := hall 1 (by kernel_rfl)
                    have hb2_ := hall 2 (by kernel_rfl)
                    have hb3_ := hall 3 (by kernel_rfl)
                    have hb5_ := hall 5 (by kernel_rfl)
                    have hb6_ := hall 6 (by kernel_rfl)
                    have hb7_ := hall 7 (by kernel_rfl)
                    have hb8_ := hall 8 (by kernel_rfl)
                    have hb9_ := hall 9 (by kernel_rfl)
                    subst ha
                    obtain rfl := Q_X3_ hb3_
                    obtain rfl := Q_X5_ hb5_
                    obtain rfl := Q_X6_ hb6_
                    obtain rfl := Q_X7_ hb7_
                    simp only [putSel, hb1_, hb2_, hb3_, hb5_, hb6_, hb7_, hb8_, hb9_, if_true, Act.put, List.setIfInBounds_toArray, List.set_cons_zero, List.set_cons_succ]
                    clear Q_HI
                    clear Q_HD
                    clear Q_HQ
                    clear Q_F3
                    have F5 := Aside0.mk (Q_F5 hb5_)
                    clear Q_F5
                    have F9 := Aside0.mk (Q_F9 hb9_)
                    clear Q_F9
                    clear hall hb1_ hb2_ hb3_ hb5_ hb6_ hb7_ hb8_ hb9_
                    obtain ⟨b', HDc⟩ := F9.out.2.1
                    go_wp2_with (fail)
                    go_meet
                    case rel => exact ⟨rows', ca, b', ⟨F9.out.1⟩, ⟨HDc⟩, ⟨NQ_V F9.out.2.2⟩⟩
                have d1 : (x == 1) = false := by rw [beq_eq_false_iff_ne]; exact q1
                by_cases q2 : x = 2
                · have d2 : (x == 2) = true := by rw [beq_iff_eq]; exact q2
                  clear q0 q1 q2
                  obtain ⟨ca, rfl⟩ : ∃ ca : Int, ca = a := ⟨_, rfl⟩
                  obtain ⟨cb, rfl⟩ : ∃ cb : Int, cb = b := ⟨_, rfl⟩
                  go_upto_region 36 with (fail)
                  have HI := Aside0.mk (inv_below HI7.out (below_drew (Below.refl _ _)))
                  have HD := Aside0.mk (blk_drew HD7.out)
                  have HQ := Aside0.mk (NQ_below HQ7.out (below_drew (Below.refl _ _)))
                  have HQ8 := HQ
                  have HSZ := Aside0.mk (inv_size HI.out)
                  have HGC := Aside0.mk (blk_lt HD.out)
                  clear HI7 HD7 HQ7
                  refine start_ (n := 14) (S := fun w' => True) (ds := []) #[false, false, false, false, false, false, false, false, false, false, false, false, false, false] (by kernel_rfl) rfl rfl trivial (fun hHeld => ?_)
                  refine with_tabW spec_l13Draw.tab36 spec_l13Draw.bits36 (fun HT_ HW_ => ?_)
                  generalize hWR : w6.drew = WR at HI HD HQ HQ8 HSZ HGC ⊢
                  have HS := Aside0.mk (Nat.le_refl WR.heap.size)
                  refine pure_ (i := 0) (N := some 133) (v := ?_) (a' := ?_) #[true, false, false, false, false, false, false, false, false, false, false, false, false, false] rfl rfl (any_of HT_.out (by kernel_rfl)) (fun _ _ _ h => h) (Or.inl ⟨by rfl, ?_⟩) ?_ ?_
                  rotate_left
                  · intro w'
                    go_simp
                    with_reducible rfl
                  rotate_left
                  · simp only [Act.put, List.setIfInBounds_toArray, List.set_cons_zero, List.set_cons_succ, i64_w, i32_w]
                    rfl
                  refine pure_ (i := 2) (N := some 135) (v := ?_) (a' := ?_) #[true, false, true, false, false, false, false, false, false, false, false, false, false, false] rfl rfl (any_of HT_.out (by kernel_rfl)) (fun _ _ _ h => h) (Or.inl ⟨by rfl, ?_⟩) ?_ ?_
                  rotate_left
                  · intro w'
                    go_simp
                    with_reducible rfl
                  rotate_left
                  · simp only [Act.put, List.setIfInBounds_toArray, List.set_cons_zero, List.set_cons_succ, i64_w, i32_w]
                    rfl
                  refine pure_ (i := 7) (N := some 140) (v := ?_) (a' := ?_) #[true, false, true, false, false, false, false, true, false, false, false, false, false, false] rfl rfl (any_of HT_.out (by kernel_rfl)) (fun _ _ _ h => h) (Or.inl ⟨by rfl, ?_⟩) ?_ ?_
                  rotate_left
                  · intro w'
                    go_simp
                    with_reducible rfl
                  rotate_left
                  · simp only [Act.put, List.setIfInBounds_toArray, List.set_cons_zero, List.set_cons_succ, i64_w, i32_w]
                    rfl
                  refine inv_at [1, 3, 4, 5, 6, 8, 9, 10, 11, 12, 13] (fun a0_ b a w' => ∃ (v134 : Value) (v137 : Value) (v138 : Value) (v143 : Value) (v145 : Value) (g6 : Nat) (c6 : Nat) (k11 : Nat) (n8 : Int) (m6_ : Value) (m8_ : Value) (m9_ : Value) (m11_ : Value) (m13_ : Value), a = putSel a0_ b [(1, 134, v134), (3, 136, .int .i64 ca), (4, 137, v137), (5, 138, v138), (6, 139, m6_), (8, 141, m8_), (9, 142, m9_), (10, 143, v143), (11, 144, m11_), (12, 145, v145), (13, 4, m13_)] ∧ (b 11 = false → Inv w0 w gs w') ∧ (b 11 = false → w'.heap[gc]? = some (.cells #[.int .i64 ca, .int .i64 cb, .slice none 0 0] 26 (0, 0))) ∧ (b 11 = false → NQ (Kd.slice 2 (Kd.int .i64)) 36 w' w.heap.size (fun k => w.heap.size ≤ k ∧ k ≠ gc) (.slice A5 rows'.length c5) rows') ∧ (b 11 = false → WR.heap.size ≤ w'.heap.size) ∧ (b 1 = true → b 6 = false → Kd.V (Kd.int .i64) 2 w' 0 (fun k => WR.heap.size ≤ k) v134 []) ∧ (b 4 = true → b 6 = false → Kd.V (Kd.int .i64) 2 w' 0 (fun k => WR.heap.size ≤ k) v137 [ca]) ∧ (b 5 = true → b 6 = false → Kd.V (Kd.int .i64) 2 w' 0 (fun k => WR.heap.size ≤ k) v138 [1, 0]) ∧ (b 6 = true → b 10 = false → Kd.V (Kd.slice 2 (Kd.int .i64)) 36 w' 0 (fun k => WR.heap.size ≤ k) (.slice (some ⟨g6, 0, none⟩) 3 c6) [[], [ca], [1, 0]]) ∧ (b 8 = true → 0 ≤ n8 ∧ n8 < 3) ∧ (b 10 = true → b 11 = false → ∃ l_ : List Int, Kd.V (Kd.int .i64) 2 w' 0 (fun k => WR.heap.size ≤ k) v143 l_) ∧ (b 11 = true → b 12 = false → ∃ W_ : World, w' = W_.alloc (.cells #[v143] 36) ∧ k11 = W_.heap.size ∧ Inv w0 w gs W_ ∧ W_.heap[gc]? = some (.cells #[.int .i64 ca, .int .i64 cb, .slice none 0 0] 26 (0, 0)) ∧ NQ (Kd.slice 2 (Kd.int .i64)) 36 W_ w.heap.size (fun k => w.heap.size ≤ k ∧ k ≠ gc) (.slice A5 rows'.length c5) rows' ∧ WR.heap.size ≤ W_.heap.size ∧ ∃ l_ : List Int, Kd.V (Kd.int .i64) 2 W_ 0 (fun k => WR.heap.size ≤ k) v143 l_) ∧ (b 12 = true → ∃ rq : List (List Int), Inv w0 w gs w' ∧ w'.heap[gc]? = some (.cells #[.int .i64 ca, .int .i64 cb, .slice none 0 0] 26 (0, 0)) ∧ NQ (Kd.slice 2 (Kd.int .i64)) 36 w' w.heap.size (fun k => w.heap.size ≤ k ∧ k ≠ gc) v145 rq) ∧ (b 6 = true → (m6_ : Value) = .slice (some ⟨g6, 0, none⟩) 3 c6) ∧ (b 8 = true → (m8_ : Value) = .int .i64 n8) ∧ (b 9 = true → (m9_ : Value) = .pointer (some ⟨g6, n8.toNat, none⟩)) ∧ (b 11 = true → (m11_ : Value) = .slice (some ⟨k11, 0, none⟩) 1 1) ∧ (b 13 = true → (m13_ : Value) = v145)) HT_.out HW_.out (by kernel_rfl) (by kernel_rfl) ?_ ?_ ?_
                  · exact ⟨.bool false, .bool false, .bool false, .bool false, .bool false, 0, 0, 0, 0, .bool false, .bool false, .bool false, .bool false, .bool false, by simp only [putSel, Bool.false_eq_true, if_false], fun _ => HI.out, fun _ => HD.out, fun _ => HQ.out, fun _ => HS.out, fun h_ => absurd h_ (by decide), fun h_ => absurd h_ (by decide), fun h_ => absurd h_ (by decide), fun h_ => absurd h_ (by decide), fun h_ => absurd h_ (by decide), fun h_ => absurd h_ (by decide), fun h_ => absurd h_ (by decide), fun h_ => absurd h_ (by decide), fun h_ => absurd h_ (by decide), fun h_ => absurd h_ (by decide), fun h_ => absurd h_ (by decide), fun h_ => absurd h_ (by decide), fun h_ => absurd h_ (by decide)⟩
                  · skip
                    clear HD HI HQ HS
                    refine steps_cons ?_ ?_
                    · rintro b a w' ⟨v134, v137, v138, v143, v145, g6, c6, k11, n8, m6_, m8_, m9_, m11_, m13_, ha, Q_HI, Q_HD, Q_HQ, Q_HS, Q_F134, Q_F137, Q_F138, Q_F139, Q_F8, Q_F10, Q_F11, Q_F12, Q_X6_, Q_X8_, Q_X9_, Q_X11_, Q_X13_⟩ hb_ hon hoff
                      refine ⟨_, rfl, fun K hK => ?_⟩
                      replace ha := Aside0.mk ha
                      have HI := Aside0.mk (Q_HI (hoff 11 (by kernel_rfl)))
                      have HD := Aside0.mk (Q_HD (hoff 11 (by kernel_rfl)))
                      have HQ := Aside0.mk (Q_HQ (hoff 11 (by kernel_rfl)))
                      have HS := Aside0.mk (Q_HS (hoff 11 (by kernel_rfl)))
                      refine value_ (w1 := w'.alloc (.cells #[] 2)) (v := .slice (some ⟨w'.heap.size, 0, none⟩) 0 0) (by rfl) rfl ?hr ?_
                      (case hr => first | (go_simp; done) | (go_simp; rfl))
                      refine hK.out _ _ ⟨(.slice (some ⟨w'.heap.size, 0, none⟩) 0 0), v137, v138, v143, v145, g6, c6, k11, n8, m6_, m8_, m9_, m11_, m13_, (by rw [ha.out]; exact putSel_upk 0 hb_ rfl rfl rfl), fun _ => inv_below HI.out (below_alloc (Below.refl _ _) _), fun _ => blk_alloc HD.out _, fun _ => NQ_below HQ.out (below_alloc (Below.refl _ _) _), fun _ => Nat.le_trans HS.out (by simp), fun _ _ => Kd.V_mono (V_ints w' 2 0 [] (by simp)) (fun k hk => by rw [hk]; exact HS.out), fun h1_ h2_ => Kd.V_below (Q_F137 h1_ h2_) (below_alloc (Below.refl _ _) _), fun h1_ h2_ => Kd.V_below (Q_F138 h1_ h2_) (below_alloc (Below.refl _ _) _), fun h0_ _ => absurd ((hoff 6 (by kernel_rfl)).symm.trans h0_) (by decide), Q_F8, fun h0_ _ => absurd ((hoff 10 (by kernel_rfl)).symm.trans h0_) (by decide), fun h0_ _ => absurd ((hoff 11 (by kernel_rfl)).symm.trans h0_) (by decide), fun h0_ => absurd ((hoff 12 (by kernel_rfl)).symm.trans h0_) (by decide), fun h0_ => absurd ((hoff 6 (by kernel_rfl)).symm.trans h0_) (by decide), Q_X8_, fun h0_ => absurd ((hoff 9 (by kernel_rfl)).symm.trans h0_) (by decide), fun h0_ => absurd ((hoff 11 (by kernel_rfl)).symm.trans h0_) (by decide), fun h0_ => absurd ((hoff 13 (by kernel_rfl)).symm.trans h0_) (by decide)⟩
                    refine steps_cons ?_ ?_
                    · rintro b a w' ⟨v134, v137, v138, v143, v145, g6, c6, k11, n8, m6_, m8_, m9_, m11_, m13_, ha, Q_HI, Q_HD, Q_HQ, Q_HS, Q_F134, Q_F137, Q_F138, Q_F139, Q_F8, Q_F10, Q_F11, Q_F12, Q_X6_, Q_X8_, Q_X9_, Q_X11_, Q_X13_⟩ hb_ hon hoff
                      refine ⟨_, rfl, fun K hK => ?_⟩
                      have e135 : a.tmps[135]? = some (.pointer (some ⟨gc, 0, none⟩)) := by rw [ha]; exact (putSel_off rfl).trans rfl
                      replace ha := Aside0.mk ha
                      have HI := Aside0.mk (Q_HI (hoff 11 (by kernel_rfl)))
                      have HD := Aside0.mk (Q_HD (hoff 11 (by kernel_rfl)))
                      have HQ := Aside0.mk (Q_HQ (hoff 11 (by kernel_rfl)))
                      have HS := Aside0.mk (Q_HS (hoff 11 (by kernel_rfl)))
                      have hc0 : w'.cell? ⟨gc, 0, none⟩ = some (.int .i64 ca) := (blk_cell HD.out 0).trans rfl
                      refine value_ (w1 := w') (v := .int .i64 ca) (by rfl) rfl ?_ ?_
                      · go_simp
                        (try simp only [i64_w])
                        try rfl
                      refine hK.out _ _ ⟨v134, v137, v138, v143, v145, g6, c6, k11, n8, m6_, m8_, m9_, m11_, m13_, (by rw [ha.out]; exact putSel_upk 1 hb_ rfl rfl rfl), Q_HI, Q_HD, Q_HQ, Q_HS, Q_F134, fun h0_ _ => absurd ((hoff 4 (by kernel_rfl)).symm.trans h0_) (by decide), Q_F138, fun h0_ _ => absurd ((hoff 6 (by kernel_rfl)).symm.trans h0_) (by decide), Q_F8, fun h0_ _ => absurd ((hoff 10 (by kernel_rfl)).symm.trans h0_) (by decide), fun h0_ _ => absurd ((hoff 11 (by kernel_rfl)).symm.trans h0_) (by decide), fun h0_ => absurd ((hoff 12 (by kernel_rfl)).symm.trans h0_) (by decide), fun h0_ => absurd ((hoff 6 (by kernel_rfl)).symm.trans h0_) (by decide), Q_X8_, fun h0_ => absurd ((hoff 9 (by kernel_rfl)).symm.trans h0_) (by decide), fun h0_ => absurd ((hoff 11 (by kernel_rfl)).symm.trans h0_) (by decide), fun h0_ => absurd ((hoff 13 (by kernel_rfl)).symm.trans h0_) (by decide)⟩
                    refine steps_cons ?_ ?_
                    · rintro b a w' ⟨v134, v137, v138, v143, v145, g6, c6, k11, n8, m6_, m8_, m9_, m11_, m13_, ha, Q_HI, Q_HD, Q_HQ, Q_HS, Q_F134, Q_F137, Q_F138, Q_F139, Q_F8, Q_F10, Q_F11, Q_F12, Q_X6_, Q_X8_, Q_X9_, Q_X11_, Q_X13_⟩ hb_ hon hoff
                      refine ⟨_, rfl, fun K hK => ?_⟩
                      have e136 : a.tmps[136]? = some (.int .i64 ca) := by rw [ha]; exact putSel_on (e := (3, 136, .int .i64 ca)) 1 rfl rfl (hon 3 (by kernel_rfl)) rfl
                      replace ha := Aside0.mk ha
                      have HI := Aside0.mk (Q_HI (hoff 11 (by kernel_rfl)))
                      have HD := Aside0.mk (Q_HD (hoff 11 (by kernel_rfl)))
                      have HQ := Aside0.mk (Q_HQ (hoff 11 (by kernel_rfl)))
                      have HS := Aside0.mk (Q_HS (hoff 11 (by kernel_rfl)))
                      refine value_ (w1 := w'.alloc (.cells #[.int .i64 ca] 2)) (v := .slice (some ⟨w'.heap.size, 0, none⟩) 1 1) (by rfl) rfl ?hr ?_
                      (case hr => first | (go_simp; done) | (go_simp; rfl))
                      refine hK.out _ _ ⟨v134, (.slice (some ⟨w'.heap.size, 0, none⟩) 1 1), v138, v143, v145, g6, c6, k11, n8, m6_, m8_, m9_, m11_, m13_, (by rw [ha.out]; exact putSel_upk 2 hb_ rfl rfl rfl), fun _ => inv_below HI.out (below_alloc (Below.refl _ _) _), fun _ => blk_alloc HD.out _, fun _ => NQ_below HQ.out (below_alloc (Below.refl _ _) _), fun _ => Nat.le_trans HS.out (by simp), fun h1_ h2_ => Kd.V_below (Q_F134 h1_ h2_) (below_alloc (Below.refl _ _) _), fun _ _ => Kd.V_mono (V_ints w' 2 0 [ca] (by simp)) (fun k hk => by rw [hk]; exact HS.out), fun h1_ h2_ => Kd.V_below (Q_F138 h1_ h2_) (below_alloc (Below.refl _ _) _), fun h0_ _ => absurd ((hoff 6 (by kernel_rfl)).symm.trans h0_) (by decide), Q_F8, fun h0_ _ => absurd ((hoff 10 (by kernel_rfl)).symm.trans h0_) (by decide), fun h0_ _ => absurd ((hoff 11 (by kernel_rfl)).symm.trans h0_) (by decide), fun h0_ => absurd ((hoff 12 (by kernel_rfl)).symm.trans h0_) (by decide), fun h0_ => absurd ((hoff 6 (by kernel_rfl)).symm.trans h0_) (by decide), Q_X8_, fun h0_ => absurd ((hoff 9 (by kernel_rfl)).symm.trans h0_) (by decide), fun h0_ => absurd ((hoff 11 (by kernel_rfl)).symm.trans h0_) (by decide), fun h0_ => absurd ((hoff 13 (by kernel_rfl)).symm.trans h0_) (by decide)⟩
                    refine steps_cons ?_ ?_
                    · rintro b a w' ⟨v134, v137, v138, v143, v145, g6, c6, k11, n8, m6_, m8_, m9_, m11_, m13_, ha, Q_HI, Q_HD, Q_HQ, Q_HS, Q_F134, Q_F137, Q_F138, Q_F139, Q_F8, Q_F10, Q_F11, Q_F12, Q_X6_, Q_X8_, Q_X9_, Q_X11_, Q_X13_⟩ hb_ hon hoff
                      refine ⟨_, rfl, fun K hK => ?_⟩
                      replace ha := Aside0.mk ha
                      have HI := Aside0.mk (Q_HI (hoff 11 (by kernel_rfl)))
                      have HD := Aside0.mk (Q_HD (hoff 11 (by kernel_rfl)))
                      have HQ := Aside0.mk (Q_HQ (hoff 11 (by kernel_rfl)))
                      have HS := Aside0.mk (Q_HS (hoff 11 (by kernel_rfl)))
                      refine value_ (w1 := w'.alloc (.cells #[.int .i64 1, .int .i64 0] 2)) (v := .slice (some ⟨w'.heap.size, 0, none⟩) 2 2) (by rfl) rfl ?hr ?_
                      (case hr => first | (go_simp; done) | (go_simp; rfl))
                      refine hK.out _ _ ⟨v134, v137, (.slice (some ⟨w'.heap.size, 0, none⟩) 2 2), v143, v145, g6, c6, k11, n8, m6_, m8_, m9_, m11_, m13_, (by rw [ha.out]; exact putSel_upk 3 hb_ rfl rfl rfl), fun _ => inv_below HI.out (below_alloc (Below.refl _ _) _), fun _ => blk_alloc HD.out _, fun _ => NQ_below HQ.out (below_alloc (Below.refl _ _) _), fun _ => Nat.le_trans HS.out (by simp), fun h1_ h2_ => Kd.V_below (Q_F134 h1_ h2_) (below_alloc (Below.refl _ _) _), fun h1_ h2_ => Kd.V_below (Q_F137 h1_ h2_) (below_alloc (Below.refl _ _) _), fun _ _ => Kd.V_mono (V_ints w' 2 0 [1, 0] (by simp)) (fun k hk => by rw [hk]; exact HS.out), fun h0_ _ => absurd ((hoff 6 (by kernel_rfl)).symm.trans h0_) (by decide), Q_F8, fun h0_ _ => absurd ((hoff 10 (by kernel_rfl)).symm.trans h0_) (by decide), fun h0_ _ => absurd ((hoff 11 (by kernel_rfl)).symm.trans h0_) (by decide), fun h0_ => absurd ((hoff 12 (by kernel_rfl)).symm.trans h0_) (by decide), fun h0_ => absurd ((hoff 6 (by kernel_rfl)).symm.trans h0_) (by decide), Q_X8_, fun h0_ => absurd ((hoff 9 (by kernel_rfl)).symm.trans h0_) (by decide), fun h0_ => absurd ((hoff 11 (by kernel_rfl)).symm.trans h0_) (by decide), fun h0_ => absurd ((hoff 13 (by kernel_rfl)).symm.trans h0_) (by decide)⟩
                    refine steps_cons ?_ ?_
                    · rintro b a w' ⟨v134, v137, v138, v143, v145, g6, c6, k11, n8, m6_, m8_, m9_, m11_, m13_, ha, Q_HI, Q_HD, Q_HQ, Q_HS, Q_F134, Q_F137, Q_F138, Q_F139, Q_F8, Q_F10, Q_F11, Q_F12, Q_X6_, Q_X8_, Q_X9_, Q_X11_, Q_X13_⟩ hb_ hon hoff
                      refine ⟨_, rfl, fun K hK => ?_⟩
                      have e134 : a.tmps[134]? = some (v134) := by rw [ha]; exact putSel_on (e := (1, 134, v134)) 0 rfl rfl (hon 1 (by kernel_rfl)) rfl
                      have e137 : a.tmps[137]? = some (v137) := by rw [ha]; exact putSel_on (e := (4, 137, v137)) 2 rfl rfl (hon 4 (by kernel_rfl)) rfl
                      have e138 : a.tmps[138]? = some (v138) := by rw [ha]; exact putSel_on (e := (5, 138, v138)) 3 rfl rfl (hon 5 (by kernel_rfl)) rfl
                      replace ha := Aside0.mk ha
                      have HI := Aside0.mk (Q_HI (hoff 11 (by kernel_rfl)))
                      have HD := Aside0.mk (Q_HD (hoff 11 (by kernel_rfl)))
                      have HQ := Aside0.mk (Q_HQ (hoff 11 (by kernel_rfl)))
                      have HS := Aside0.mk (Q_HS (hoff 11 (by kernel_rfl)))
                      have F134 := Aside0.mk (Q_F134 (hon 1 (by kernel_rfl)) hb_)
                      have F137 := Aside0.mk (Q_F137 (hon 4 (by kernel_rfl)) hb_)
                      have F138 := Aside0.mk (Q_F138 (hon 5 (by kernel_rfl)) hb_)
                      refine Kd.N_lit_step (Kd.slice 2 (Kd.int .i64)) (w0 := w') w'.heap.size 36 (by rfl) (N' := 139) rfl (xs := [[], [ca], [1, 0]]) (inner := [v134, v137, v138]) (ok := fun k => WR.heap.size ≤ k) (okp := fun k => WR.heap.size ≤ k) ?hr (Reps.one (V_FK F134.out) (Reps.one (V_FK F137.out) (Reps.one (V_FK F138.out) (Reps.none _ _)))) (fun _ h => h) HS.out (Below.refl _ _) (Nat.le_refl _) (by simp) ?_
                      (case hr => (obtain ⟨A1_, c1_, hv1_, _, _⟩ := F134.out; obtain ⟨A2_, c2_, hv2_, _, _⟩ := F137.out; obtain ⟨A3_, c3_, hv3_, _, _⟩ := F138.out; first | (go_simp; done) | (go_simp; rfl)))
                      intro v139 w1 ho hb hg hat
                      obtain ⟨g_, c_, hv_, hg1_, hg2_, _⟩ := Kd.N_form ho (by simp)
                      subst hv_
                      refine hK.out _ _ ⟨v134, v137, v138, v143, v145, g_, c_, k11, n8, (.slice (some ⟨g_, 0, none⟩) 3 c_), m8_, m9_, m11_, m13_, (by rw [ha.out]; exact putSel_upk 4 hb_ rfl rfl rfl), fun _ => inv_below HI.out hb, fun _ => blk_below HD.out hb, fun _ => NQ_below HQ.out hb, fun _ => Nat.le_trans HS.out hb.size, fun _ h1_ => absurd ((up_self b 6).symm.trans h1_) (by decide), fun _ h1_ => absurd ((up_self b 6).symm.trans h1_) (by decide), fun _ h1_ => absurd ((up_self b 6).symm.trans h1_) (by decide), fun _ _ => Kd.N_V ho, Q_F8, fun h0_ _ => absurd ((hoff 10 (by kernel_rfl)).symm.trans h0_) (by decide), fun h0_ _ => absurd ((hoff 11 (by kernel_rfl)).symm.trans h0_) (by decide), fun h0_ => absurd ((hoff 12 (by kernel_rfl)).symm.trans h0_) (by decide), fun _ => rfl, Q_X8_, fun h0_ => absurd ((hoff 9 (by kernel_rfl)).symm.trans h0_) (by decide), fun h0_ => absurd ((hoff 11 (by kernel_rfl)).symm.trans h0_) (by decide), fun h0_ => absurd ((hoff 13 (by kernel_rfl)).symm.trans h0_) (by decide)⟩
                    refine steps_cons ?_ ?_
                    · rintro b a w' ⟨v134, v137, v138, v143, v145, g6, c6, k11, n8, m6_, m8_, m9_, m11_, m13_, ha, Q_HI, Q_HD, Q_HQ, Q_HS, Q_F134, Q_F137, Q_F138, Q_F139, Q_F8, Q_F10, Q_F11, Q_F12, Q_X6_, Q_X8_, Q_X9_, Q_X11_, Q_X13_⟩ hb_ hon hoff
                      refine ⟨_, rfl, fun K hK => ?_⟩
                      have e140 : a.tmps[140]? = some (.pointer (some ⟨gs, 0, none⟩)) := by rw [ha]; exact (putSel_off rfl).trans rfl
                      replace ha := Aside0.mk ha
                      have HI := Aside0.mk (Q_HI (hoff 11 (by kernel_rfl)))
                      have HD := Aside0.mk (Q_HD (hoff 11 (by kernel_rfl)))
                      have HQ := Aside0.mk (Q_HQ (hoff 11 (by kernel_rfl)))
                      have HS := Aside0.mk (Q_HS (hoff 11 (by kernel_rfl)))
                      refine goes_ Tryd.func39 (by kernel_rfl) rfl #[.pointer (some ⟨gs, 0, none⟩), .int .i64 3] (by rfl) rfl rfl (by first | (simp only [List.map_toArray, List.map_cons, List.map_nil, Act.eval, Array.getD_eq_getD_getElem?, Option.getD_some, e140]; done) | (simp only [List.map_toArray, List.map_cons, List.map_nil, Act.eval, Array.getD_eq_getD_getElem?, Option.getD_some, e140]; rfl)) ?_
                      refine (next_src gs 3 w0 _ (inv_src HI.out) (inv_base HI.out)).mono ?_
                      rintro e w1 ⟨n8, rfl, ⟨hn1, hn2⟩, hs1, hb1, hk1⟩
                      replace hn2 := hn2 (by omega)
                      refine ⟨_, rfl, ?_⟩
                      refine hK.out _ _ ⟨v134, v137, v138, v143, v145, g6, c6, k11, n8, m6_, (.int .i64 n8), m9_, m11_, m13_, (by rw [ha.out]; exact putSel_upk 5 hb_ rfl rfl rfl), fun _ => inv_next HI.out hs1 hb1 hk1, fun _ => blk_next HD.out hk1 (by have := HZ.out; omega), fun _ => NQ_keep HQ.out hk1 (fun k hk => by omega), fun _ => Nat.le_trans HS.out hk1.1, fun h1_ h2_ => Kd.V_keep (Q_F134 h1_ h2_) hk1 (fun k hk => by have h1_ := HSZ.out; omega), fun h1_ h2_ => Kd.V_keep (Q_F137 h1_ h2_) hk1 (fun k hk => by have h1_ := HSZ.out; omega), fun h1_ h2_ => Kd.V_keep (Q_F138 h1_ h2_) hk1 (fun k hk => by have h1_ := HSZ.out; omega), fun h1_ h2_ => Kd.V_keep (Q_F139 h1_ h2_) hk1 (fun k hk => by have h1_ := HSZ.out; omega), fun _ => ⟨hn1, hn2⟩, fun h0_ _ => absurd ((hoff 10 (by kernel_rfl)).symm.trans h0_) (by decide), fun h0_ _ => absurd ((hoff 11 (by kernel_rfl)).symm.trans h0_) (by decide), fun h0_ => absurd ((hoff 12 (by kernel_rfl)).symm.trans h0_) (by decide), Q_X6_, fun _ => rfl, fun h0_ => absurd ((hoff 9 (by kernel_rfl)).symm.trans h0_) (by decide), fun h0_ => absurd ((hoff 11 (by kernel_rfl)).symm.trans h0_) (by decide), fun h0_ => absurd ((hoff 13 (by kernel_rfl)).symm.trans h0_) (by decide)⟩
                    refine steps_cons ?_ ?_
                    · rintro b a w' ⟨v134, v137, v138, v143, v145, g6, c6, k11, n8, m6_, m8_, m9_, m11_, m13_, ha, Q_HI, Q_HD, Q_HQ, Q_HS, Q_F134, Q_F137, Q_F138, Q_F139, Q_F8, Q_F10, Q_F11, Q_F12, Q_X6_, Q_X8_, Q_X9_, Q_X11_, Q_X13_⟩ hb_ hon hoff
                      refine ⟨_, rfl, fun K hK => ?_⟩
                      have e139 : a.tmps[139]? = some (m6_) := by rw [ha]; exact putSel_on (e := (6, 139, m6_)) 4 rfl rfl (hon 6 (by kernel_rfl)) rfl
                      rw [Q_X6_ (hon 6 (by kernel_rfl))] at e139
                      have e141 : a.tmps[141]? = some (m8_) := by rw [ha]; exact putSel_on (e := (8, 141, m8_)) 5 rfl rfl (hon 8 (by kernel_rfl)) rfl
                      rw [Q_X8_ (hon 8 (by kernel_rfl))] at e141
                      replace ha := Aside0.mk ha
                      have HI := Aside0.mk (Q_HI (hoff 11 (by kernel_rfl)))
                      have HD := Aside0.mk (Q_HD (hoff 11 (by kernel_rfl)))
                      have HQ := Aside0.mk (Q_HQ (hoff 11 (by kernel_rfl)))
                      have HS := Aside0.mk (Q_HS (hoff 11 (by kernel_rfl)))
                      have F139 := Aside0.mk (Q_F139 (hon 6 (by kernel_rfl)) (hoff 10 (by kernel_rfl)))
                      have F8 := Aside0.mk (Q_F8 (hon 8 (by kernel_rfl)))
                      have hn1 := F8.out.1
                      have hn2 := F8.out.2
                      refine value_ (w1 := w') (v := .pointer (some ⟨g6, n8.toNat, none⟩)) (by rfl) rfl ?_ ?_
                      · go_simp
                        (try simp only [i64_w])
                        try rfl
                      refine hK.out _ _ ⟨v134, v137, v138, v143, v145, g6, c6, k11, n8, m6_, m8_, (.pointer (some ⟨g6, n8.toNat, none⟩)), m11_, m13_, (by rw [ha.out]; exact putSel_upk 6 hb_ rfl rfl rfl), Q_HI, Q_HD, Q_HQ, Q_HS, fun _ h1_ => absurd ((hon 6 (by kernel_rfl)).symm.trans h1_) (by decide), fun _ h1_ => absurd ((hon 6 (by kernel_rfl)).symm.trans h1_) (by decide), fun _ h1_ => absurd ((hon 6 (by kernel_rfl)).symm.trans h1_) (by decide), Q_F139, Q_F8, fun h0_ _ => absurd ((hoff 10 (by kernel_rfl)).symm.trans h0_) (by decide), fun h0_ _ => absurd ((hoff 11 (by kernel_rfl)).symm.trans h0_) (by decide), fun h0_ => absurd ((hoff 12 (by kernel_rfl)).symm.trans h0_) (by decide), Q_X6_, Q_X8_, fun _ => rfl, fun h0_ => absurd ((hoff 11 (by kernel_rfl)).symm.trans h0_) (by decide), fun h0_ => absurd ((hoff 13 (by kernel_rfl)).symm.trans h0_) (by decide)⟩
                    refine steps_cons ?_ ?_
                    · rintro b a w' ⟨v134, v137, v138, v143, v145, g6, c6, k11, n8, m6_, m8_, m9_, m11_, m13_, ha, Q_HI, Q_HD, Q_HQ, Q_HS, Q_F134, Q_F137, Q_F138, Q_F139, Q_F8, Q_F10, Q_F11, Q_F12, Q_X6_, Q_X8_, Q_X9_, Q_X11_, Q_X13_⟩ hb_ hon hoff
                      refine ⟨_, rfl, fun K hK => ?_⟩
                      have e142 : a.tmps[142]? = some (m9_) := by rw [ha]; exact putSel_on (e := (9, 142, m9_)) 6 rfl rfl (hon 9 (by kernel_rfl)) rfl
                      rw [Q_X9_ (hon 9 (by kernel_rfl))] at e142
                      replace ha := Aside0.mk ha
                      have HI := Aside0.mk (Q_HI (hoff 11 (by kernel_rfl)))
                      have HD := Aside0.mk (Q_HD (hoff 11 (by kernel_rfl)))
                      have HQ := Aside0.mk (Q_HQ (hoff 11 (by kernel_rfl)))
                      have HS := Aside0.mk (Q_HS (hoff 11 (by kernel_rfl)))
                      have F139 := Aside0.mk (Q_F139 (hon 6 (by kernel_rfl)) hb_)
                      have F8 := Aside0.mk (Q_F8 (hon 8 (by kernel_rfl)))
                      obtain ⟨cs_, hcl_, hfk_, hcell_⟩ := Kd.V_get F139.out [] n8 F8.out.1 F8.out.2
                      obtain ⟨A_, c_, rfl, hl_, hf_⟩ := Kd.FK_slice_open hfk_
                      have hz := hcell_ 0 _ rfl
                      change w'.cell? ((⟨g6, 0, none⟩ : Addr).add (n8.toNat * 1 + 0)) = _ at hz
                      rw [Nat.mul_one, Nat.add_zero, add_plain] at hz
                      refine value_ (w1 := w') (v := .slice A_ (([[], [ca], [1, 0]] : List (List Int)).getD n8.toNat []).length c_) (by rfl) rfl ?hr ?_
                      (case hr => first | (go_simp; done) | (go_simp; rfl))
                      refine hK.out _ _ ⟨v134, v137, v138, (.slice A_ (([[], [ca], [1, 0]] : List (List Int)).getD n8.toNat []).length c_), v145, g6, c6, k11, n8, m6_, m8_, m9_, m11_, m13_, (by rw [ha.out]; exact putSel_upk 7 hb_ rfl rfl rfl), fun _ => HI.out, fun _ => HD.out, fun _ => HQ.out, fun _ => HS.out, fun _ h1_ => absurd ((hon 6 (by kernel_rfl)).symm.trans h1_) (by decide), fun _ h1_ => absurd ((hon 6 (by kernel_rfl)).symm.trans h1_) (by decide), fun _ h1_ => absurd ((hon 6 (by kernel_rfl)).symm.trans h1_) (by decide), fun _ h1_ => absurd ((up_self b 10).symm.trans h1_) (by decide), Q_F8, fun _ _ => ⟨_, A_, c_, rfl, hl_, hf_⟩, fun h0_ _ => absurd ((hoff 11 (by kernel_rfl)).symm.trans h0_) (by decide), fun h0_ => absurd ((hoff 12 (by kernel_rfl)).symm.trans h0_) (by decide), Q_X6_, Q_X8_, Q_X9_, fun h0_ => absurd ((hoff 11 (by kernel_rfl)).symm.trans h0_) (by decide), fun h0_ => absurd ((hoff 13 (by kernel_rfl)).symm.trans h0_) (by decide)⟩
                    refine steps_cons ?_ ?_
                    · rintro b a w' ⟨v134, v137, v138, v143, v145, g6, c6, k11, n8, m6_, m8_, m9_, m11_, m13_, ha, Q_HI, Q_HD, Q_HQ, Q_HS, Q_F134, Q_F137, Q_F138, Q_F139, Q_F8, Q_F10, Q_F11, Q_F12, Q_X6_, Q_X8_, Q_X9_, Q_X11_, Q_X13_⟩ hb_ hon hoff
                      refine ⟨_, rfl, fun K hK => ?_⟩
                      have e143 : a.tmps[143]? = some (v143) := by rw [ha]; exact putSel_on (e := (10, 143, v143)) 7 rfl rfl (hon 10 (by kernel_rfl)) rfl
                      replace ha := Aside0.mk ha
                      have HI := Aside0.mk (Q_HI hb_)
                      have HD := Aside0.mk (Q_HD hb_)
                      have HQ := Aside0.mk (Q_HQ hb_)
                      have HS := Aside0.mk (Q_HS hb_)
                      have F8 := Aside0.mk (Q_F8 (hon 8 (by kernel_rfl)))
                      have F10 := Aside0.mk (Q_F10 (hon 10 (by kernel_rfl)) hb_)
                      refine value_ (w1 := w'.alloc (.cells #[v143] 36)) (v := .slice (some ⟨w'.heap.size, 0, none⟩) 1 1) (by rfl) rfl ?hr ?_
                      (case hr => (obtain ⟨l_, A1_, c1_, hv1_, _, _⟩ := F10.out; first | (go_simp; done) | (go_simp; rfl)))
                      refine hK.out _ _ ⟨v134, v137, v138, v143, v145, g6, c6, w'.heap.size, n8, m6_, m8_, m9_, (.slice (some ⟨w'.heap.size, 0, none⟩) 1 1), m13_, (by rw [ha.out]; exact putSel_upk 8 hb_ rfl rfl rfl), fun h0_ => absurd ((up_self b 11).symm.trans h0_) (by decide), fun h0_ => absurd ((up_self b 11).symm.trans h0_) (by decide), fun h0_ => absurd ((up_self b 11).symm.trans h0_) (by decide), fun h0_ => absurd ((up_self b 11).symm.trans h0_) (by decide), fun _ h1_ => absurd ((hon 6 (by kernel_rfl)).symm.trans h1_) (by decide), fun _ h1_ => absurd ((hon 6 (by kernel_rfl)).symm.trans h1_) (by decide), fun _ h1_ => absurd ((hon 6 (by kernel_rfl)).symm.trans h1_) (by decide), fun _ h1_ => absurd ((hon 10 (by kernel_rfl)).symm.trans h1_) (by decide), Q_F8, fun _ h1_ => absurd ((up_self b 11).symm.trans h1_) (by decide), fun _ _ => ⟨w', rfl, rfl, HI.out, HD.out, HQ.out, HS.out, F10.out⟩, fun h0_ => absurd ((hoff 12 (by kernel_rfl)).symm.trans h0_) (by decide), Q_X6_, Q_X8_, Q_X9_, fun _ => rfl, fun h0_ => absurd ((hoff 13 (by kernel_rfl)).symm.trans h0_) (by decide)⟩
                    refine steps_cons ?_ ?_
                    · rintro b a w' ⟨v134, v137, v138, v143, v145, g6, c6, k11, n8, m6_, m8_, m9_, m11_, m13_, ha, Q_HI, Q_HD, Q_HQ, Q_HS, Q_F134, Q_F137, Q_F138, Q_F139, Q_F8, Q_F10, Q_F11, Q_F12, Q_X6_, Q_X8_, Q_X9_, Q_X11_, Q_X13_⟩ hb_ hon hoff
                      refine ⟨_, rfl, fun K hK => ?_⟩
                      have e133 : a.tmps[133]? = some (.slice A5 rows'.length c5) := by rw [ha]; exact (putSel_off rfl).trans rfl
                      have e144 : a.tmps[144]? = some (m11_) := by rw [ha]; exact putSel_on (e := (11, 144, m11_)) 8 rfl rfl (hon 11 (by kernel_rfl)) rfl
                      rw [Q_X11_ (hon 11 (by kernel_rfl))] at e144
                      replace ha := Aside0.mk ha
                      have F8 := Aside0.mk (Q_F8 (hon 8 (by kernel_rfl)))
                      have F11 := Aside0.mk (Q_F11 (hon 11 (by kernel_rfl)) hb_)
                      obtain ⟨W_, hw_, hk_, HI_, HD_, HQ_, HS_, l_, hV_⟩ := F11.out
                      subst hw_
                      rw [hk_] at e144
                      refine NQ_append_step (Kd.slice 2 (Kd.int .i64)) (w0 := W_) w.heap.size (by rfl) (.tmp 133) (.tmp 144) 24 36 (.slice none 0 0) 24 rfl Tryd.underlying24 info36 rfl (by decide) (by omega) (.slice A5 rows'.length c5) rows' l_ [v143] (fun k => w.heap.size ≤ k ∧ k ≠ gc) (fun k => WR.heap.size ≤ k) (eval_of e133) (eval_of e144) (V_FK hV_) (fun k hk => ⟨by have h1_ := HSZ.out; have h3_ := HGC.out; omega, fun e_ => by have h1_ := NQ_lt HQ8.out k e_.symm; omega⟩) (fun k hk => by have h1_ := HSZ.out; have h3_ := HGC.out; omega) HQ_ (Below.refl _ _) (inv_size HI_) (by omega) ?_
                      intro v145 w1 ho hb hg hat
                      refine hK.out _ _ ⟨v134, v137, v138, v143, v145, g6, c6, k11, n8, m6_, m8_, m9_, m11_, m13_, (by rw [ha.out]; exact putSel_upk 9 hb_ rfl rfl rfl), fun h0_ => absurd ((hon 11 (by kernel_rfl)).symm.trans h0_) (by decide), fun h0_ => absurd ((hon 11 (by kernel_rfl)).symm.trans h0_) (by decide), fun h0_ => absurd ((hon 11 (by kernel_rfl)).symm.trans h0_) (by decide), fun h0_ => absurd ((hon 11 (by kernel_rfl)).symm.trans h0_) (by decide), fun _ h1_ => absurd ((hon 6 (by kernel_rfl)).symm.trans h1_) (by decide), fun _ h1_ => absurd ((hon 6 (by kernel_rfl)).symm.trans h1_) (by decide), fun _ h1_ => absurd ((hon 6 (by kernel_rfl)).symm.trans h1_) (by decide), fun _ h1_ => absurd ((hon 10 (by kernel_rfl)).symm.trans h1_) (by decide), Q_F8, fun _ h1_ => absurd ((hon 11 (by kernel_rfl)).symm.trans h1_) (by decide), fun _ h1_ => absurd ((up_self b 12).symm.trans h1_) (by decide), fun _ => ⟨_, inv_grow HI_ hb hgs HW0.out, blk_grown HD_ hg (NQ_ne HQ_ HD_ (by decide)), ho⟩, Q_X6_, Q_X8_, Q_X9_, Q_X11_, fun h0_ => absurd ((hoff 13 (by kernel_rfl)).symm.trans h0_) (by decide)⟩
                    refine steps_cons ?_ ?_
                    · rintro b a w' ⟨v134, v137, v138, v143, v145, g6, c6, k11, n8, m6_, m8_, m9_, m11_, m13_, ha, Q_HI, Q_HD, Q_HQ, Q_HS, Q_F134, Q_F137, Q_F138, Q_F139, Q_F8, Q_F10, Q_F11, Q_F12, Q_X6_, Q_X8_, Q_X9_, Q_X11_, Q_X13_⟩ hb_ hon hoff
                      refine ⟨_, rfl, fun K hK => ?_⟩
                      have e145 : a.tmps[145]? = some (v145) := by rw [ha]; exact putSel_on (e := (12, 145, v145)) 9 rfl rfl (hon 12 (by kernel_rfl)) rfl
                      replace ha := Aside0.mk ha
                      have F8 := Aside0.mk (Q_F8 (hon 8 (by kernel_rfl)))
                      have F12 := Aside0.mk (Q_F12 (hon 12 (by kernel_rfl)))
                      refine value_ (w1 := w') (v := v145) (by rfl) rfl ?_ ?_
                      · go_simp
                        (try simp only [i64_w])
                        try rfl
                      refine hK.out _ _ ⟨v134, v137, v138, v143, v145, g6, c6, k11, n8, m6_, m8_, m9_, m11_, (v145), (by rw [ha.out]; exact putSel_upk 10 hb_ rfl rfl rfl), fun h0_ => absurd ((hon 11 (by kernel_rfl)).symm.trans h0_) (by decide), fun h0_ => absurd ((hon 11 (by kernel_rfl)).symm.trans h0_) (by decide), fun h0_ => absurd ((hon 11 (by kernel_rfl)).symm.trans h0_) (by decide), fun h0_ => absurd ((hon 11 (by kernel_rfl)).symm.trans h0_) (by decide), fun _ h1_ => absurd ((hon 6 (by kernel_rfl)).symm.trans h1_) (by decide), fun _ h1_ => absurd ((hon 6 (by kernel_rfl)).symm.trans h1_) (by decide), fun _ h1_ => absurd ((hon 6 (by kernel_rfl)).symm.trans h1_) (by decide), fun _ h1_ => absurd ((hon 10 (by kernel_rfl)).symm.trans h1_) (by decide), Q_F8, fun _ h1_ => absurd ((hon 11 (by kernel_rfl)).symm.trans h1_) (by decide), fun _ h1_ => absurd ((hon 12 (by kernel_rfl)).symm.trans h1_) (by decide), Q_F12, Q_X6_, Q_X8_, Q_X9_, Q_X11_, fun _ => rfl⟩
                    exact steps_nil
                  · rintro b a w' hall ⟨v134, v137, v138, v143, v145, g6, c6, k11, n8, m6_, m8_, m9_, m11_, m13_, ha, Q_HI, Q_HD, Q_HQ, Q_HS, Q_F134, Q_F137, Q_F138, Q_F139, Q_F8, Q_F10, Q_F11, Q_F12, Q_X6_, Q_X8_, Q_X9_, Q_X11_, Q_X13_⟩
                    clear HD HI HQ HS
                    have hb1_ := hall 1 (by kernel_rfl)
                    have hb3_ := hall 3 (by kernel_rfl)
                    have hb4_ := hall 4 (by kernel_rfl)
                    have hb5_ := hall 5 (by kernel_rfl)
                    have hb6_ := hall 6 (by kernel_rfl)
                    have hb8_ := hall 8 (by kernel_rfl)
                    have hb9_ := hall 9 (by kernel_rfl)
                    have hb10_ := hall 10 (by kernel_rfl)
                    have hb11_ := hall 11 (by kernel_rfl)
                    have hb12_ := hall 12 (by kernel_rfl)
                    have hb13_ := hall 13 (by kernel_rfl)
                    subst ha
                    obtain rfl := Q_X6_ hb6_
                    obtain rfl := Q_X8_ hb8_
                    obtain rfl := Q_X9_ hb9_
                    obtain rfl := Q_X11_ hb11_
                    obtain rfl := Q_X13_ hb13_
                    simp only [putSel, hb1_, hb3_, hb4_, hb5_, hb6_, hb8_, hb9_, hb10_, hb11_, hb12_, hb13_, if_true, Act.put, List.setIfInBounds_toArray, List.set_cons_zero, List.set_cons_succ]
                    clear Q_HI
                    clear Q_HD
                    clear Q_HQ
                    clear Q_HS
                    clear Q_F134
                    clear Q_F137
                    clear Q_F138
                    clear Q_F139
                    have F8 := Aside0.mk (Q_F8 hb8_)
                    clear Q_F8
                    clear Q_F10
                    clear Q_F11
                    have F12 := Aside0.mk (Q_F12 hb12_)
                    clear Q_F12
                    clear hall hb1_ hb3_ hb4_ hb5_ hb6_ hb8_ hb9_ hb10_ hb11_ hb12_ hb13_
                    obtain ⟨rq, HIc, HDc, HQc⟩ := F12.out
                    go_wp2_with (fail)
                    go_meet
                    case rel => exact ⟨rq, ca, cb, ⟨HIc⟩, ⟨HDc⟩, ⟨NQ_V HQc⟩⟩
                have d2 : (x == 2) = false := by rw [beq_eq_false_iff_ne]; exact q2
                by_cases q3 : x = 3
                · have d3 : (x == 3) = true := by rw [beq_iff_eq]; exact q3
                  clear q0 q1 q2 q3
                  go_wp2_with (fail)
                  go_loopg [4] (402) (fun kq v4 w' => ∃ rq : List (List Int), rq.length ≤ 401 ∧ 402 - rq.length ≤ kq ∧ Aside0 (Inv w0 w gs w') ∧ Aside0 (w'.heap[gc]? = some (.cells #[.int .i64 a, .int .i64 b, .slice none 0 0] 26 (0, 0))) ∧ Aside0 (NQ (Kd.slice 2 (Kd.int .i64)) 36 w' w.heap.size (fun k => w.heap.size ≤ k ∧ k ≠ gc) v4 rq))
                  case atStart => exact ⟨rows', by omega, by omega, HI7, HD7, HQ7⟩
                  case round =>
                    clear HI7 HD7 HQ7
                    obtain ⟨rq, hrq, hq9, HI, HD, HQ⟩ := hrel
                    obtain ⟨A9, c9, rfl, hc9⟩ := NQ_slice HQ.out
                    go_wp2_with (fail)
                    (with_reducible refine (next_src gs 2 w0 _ (inv_src HI.out) (inv_base HI.out)).mono ?_)
                    rintro e w7 ⟨y, rfl, ⟨hy1, hy2⟩, hs1, hb1, hk1⟩
                    replace hy2 := hy2 (by omega)
                    have HIb := Aside0.mk (inv_next HI.out hs1 hb1 hk1)
                    have HDb := Aside0.mk (blk_next HD.out hk1 (by have := HZ.out; omega))
                    have HQb := Aside0.mk (NQ_keep HQ.out hk1 (fun k hk => by omega))
                    clear hs1 hb1 hk1 HI HD HQ
                    by_cases hlt : (rq.length : Int) < 400 + y
                    · have HIc := Aside0.mk (inv_below HIb.out (below_alloc (Below.refl _ _) (.cells #[.int .i64 0] 2)))
                      have HDc := Aside0.mk (blk_alloc HDb.out (.cells #[.int .i64 0] 2))
                      have HQc := Aside0.mk (NQ_below HQb.out (below_alloc (Below.refl _ _) (.cells #[.int .i64 0] 2)))
                      have HLc := Aside0.mk (V_ints w7 2 0 [0] (by simp))
                      have HQl := Aside0.mk (NQ_lt HQb.out)
                      have HGb := Aside0.mk (blk_lt HDb.out)
                      have HSb := Aside0.mk (inv_size HIb.out)
                      clear HIb HDb HQb
                      go_wp2_with ((with_reducible refine gate_builtin (b := .append) (xs := #[.tmp 154, .tmp 156]) rfl ?_); at_builtin; refine NQ_append (Kd.slice 2 (Kd.int .i64)) (w0 := w7.alloc (.cells #[.int .i64 0] 2)) w.heap.size rfl (.tmp 154) (.tmp 156) 24 36 (.slice none 0 0) 24 rfl Tryd.underlying24 info36 rfl (by decide) (by omega) (.slice A9 rq.length c9) rq [0] [.slice (some ⟨w7.heap.size, 0, none⟩) 1 1] (fun k => w.heap.size ≤ k ∧ k ≠ gc) (fun k => k = w7.heap.size) rfl (by first | (go_simp; done) | (go_simp; rfl)) ?aP ?aK ?aF ?aO ?aB ?aS ?aL ?_; (case aP => exact V_FK HLc.out); (case aK => exact (fun k hk => ⟨by have h1_ := HGb.out; have h2_ := HSb.out; omega, fun e_ => by have h3_ := HQl.out k e_.symm; omega⟩)); (case aF => exact (fun k hk => by have h1_ := HGb.out; have h2_ := HSb.out; simp at hk; omega)); (case aO => exact HQc.out); (case aB => exact Below.refl _ _); (case aS => exact (inv_size HIc.out)); (case aL => omega); intro v1 w1 ho hb hg hat; have HI1 := Aside0.mk (inv_grow HIc.out hb hgs HW0.out); have HD1 := Aside0.mk (blk_grown HDc.out hg (NQ_ne HQc.out HDc.out (by decide))); have HQ1 := Aside0.mk ho; clear ho hb hg hat)
                      go_roundg (402 - (rq.length + 1))
                      case measure => omega
                      case rel => exact ⟨rq ++ [[0]], by rw [List.length_append, List.length_singleton]; omega, by rw [List.length_append, List.length_singleton]; omega, HI1, HD1, HQ1⟩
                    · go_wp2_with (fail)
                      go_meet
                      case rel => exact ⟨rq, a, b, HIb, HDb, ⟨NQ_V HQb.out⟩⟩
                · have d3 : (x == 3) = false := by rw [beq_eq_false_iff_ne]; exact q3
                  clear q0 q1 q2 q3
                  go_wp2_with (fail)
                  go_meet
                  case rel => exact ⟨rows', a, b, HI7, HD7, ⟨NQ_V HQ7.out⟩⟩
              case rest =>
                clear HI7 HD7 HQ7
                obtain ⟨rq, aq, bq, HI, HD, HV⟩ := hcut
                obtain ⟨A6, c6, rfl⟩ := Kd.V_slice HV.out
                have hg0 : wc.cell? ⟨gc, 0, none⟩ = some (.int .i64 aq) := (blk_cell HD.out 0).trans rfl
                have hg1 : wc.cell? ⟨gc, 1, none⟩ = some (.int .i64 bq) := (blk_cell HD.out 1).trans rfl
                have HCw := Aside0.mk ((HI.out.2.2.2 wE.heap.size (by have := HSr.out; omega) (by have := HGE.out; omega) (by simp)).trans HCr.out)
                have HIw := Aside0.mk (show Inv w0 wE gs wc from ⟨HI.out.1, HI.out.2.1, HI0.out.2.2.trans HI.out.2.2 (.inl rfl)⟩)
                have hr0 : wc.cell? ⟨wE.heap.size, 0, none⟩ = some (.int .i64 0) := (blk_cell HCw.out 0).trans rfl
                have hr1 : wc.cell? ⟨wE.heap.size, 1, none⟩ = some (.int .i64 0) := (blk_cell HCw.out 1).trans rfl
                have hr2 : wc.cell? ⟨wE.heap.size, 2, none⟩ = some (.slice none 0 0) := (blk_cell HCw.out 2).trans rfl
                have hf0 := blk_frozen HCw.out 0
                have hf1 := blk_frozen HCw.out 1
                have hf2 := blk_frozen HCw.out 2
                go_wp2_with (fail)
                refine bodyPost_ret (v := .agg #[.int .i64 aq, .int .i64 bq, .slice A6 rq.length c6]) (by simp [results, Tryd.results40, go_sem, hr0, hr1, hr2, hf0, hf1, hf2]) rfl ⟨aq, bq, _, rq, rfl, ?_, ?_⟩
                · refine Kd.V_mono (Kd.V_far (Kd.V_far (Kd.V_far (Kd.V_mono HV.out (fun k hk => hk.1)) (p := ⟨wE.heap.size, 0, none⟩) (fun k hk => ?_) _) (p := ⟨wE.heap.size, 1, none⟩) (fun k hk => ?_) _) (p := ⟨wE.heap.size, 2, none⟩) (fun k hk => ?_) _) (fun k hk => ?_)
                  all_goals (have := HSr.out; simp at hk ⊢; omega)
                · exact inv_set (inv_set (inv_set HIw.out (Nat.le_refl _) HBE.out.size HGE.out 0 _) (Nat.le_refl _) HBE.out.size HGE.out 1 _) (Nat.le_refl _) HBE.out.size HGE.out 2 _

end Go.Proofs.YtmchbkjjpeiedaaDoor.DFnCoverFormulas
