import Derived.Test.YtaefcmmjeloccaaGrE
namespace Go.Proofs.Ytaefcmmjeloccaa
open Go.RowKit

/- The graph's Do: start, stop, pop; errors; nobody's. -/
section
variable {w : World} {g : Nat} {c : Cfg} {G : Gr} {tb tcap nb ncap : Nat} {hv nv : List Value}
theorem gpop_none (h : Gx 60 72 w g c G tb tcap nb ncap hv nv) (t : Nat) (hlt : t < G.thr.length) (hg : G.Good) (h0 : (G.held (t : Int)).length = 0) :
    Calls Try.prog 29 #[.pointer (some ⟨tb, t * 2 + 1, none⟩)] w fun e w' => e = .returned (.tuple #[.agg #[.int .i64 0, .int .i64 0], .bool false]) ∧ Below w.heap.size w w' :=
  (gpop_any h t hlt hg).mono fun e w' h1 => by
    rcases h1 with ⟨_, h2⟩ | ⟨h2, _⟩
    · exact h2
    · omega
theorem gpop_one (h : Gx 60 72 w g c G tb tcap nb ncap hv nv) (t : Nat) (hlt : t < G.thr.length) (hg : G.Good) (h0 : 0 < (G.held (t : Int)).length) (u : Vl) (hu : u = Gr.at? (G.held (t : Int)) (((G.held (t : Int)).length : Int) - 1)) :
    Calls Try.prog 29 #[.pointer (some ⟨tb, t * 2 + 1, none⟩)] w fun e w' => e = .returned (.tuple #[.agg #[.int .i64 u.1, .int .i64 u.2], .bool true]) ∧ GTo 60 72 w w' g c (G.drop1 (t : Int)) (fpOf g tb nb hv nv) ∧ w'.heap[g]? = w.heap[g]? :=
  (gpop_any h t hlt hg).mono fun e w' h1 => by
    rcases h1 with ⟨h2, _⟩ | ⟨_, h2⟩
    · omega
    · rw [hu]; exact h2
set_option maxHeartbeats 8000000 in
set_option maxRecDepth 100000 in
theorem gdo_bad (h : Gx 60 72 w g c G tb tcap nb ncap hv nv) (hg : G.Good) (x : Stp) (no : Int) (hc : x.check ≠ 0) :
    Calls Try.prog 11 #[.pointer (some ⟨g, 0, none⟩), .agg x.cells, .int .i64 no] w fun e w' => DoR w w' g c (G.out c.q x no) (fpOf g tb nb hv nv) e := by
  have B2 := Lib.hid (below_new (below_alloc0 w (.cells x.cells 39)) (.cells zAns 36))
  have S2 := Lib.hid (keep_alloc (.cells zAns 36) (heap_alloc_new w (.cells x.cells 39)))
  have A2 := Lib.hid (heap_two w (.cells x.cells 39) (.cells zAns 36))
  have HG := Lib.hid h
  have HPOS := Lib.hid hg.some
  obtain ⟨-, -, q11⟩ := (h.below B2.out).head
  have HOUT : Hid (G.out c.q x no = (Gr.err x.check, G)) := Lib.hid (by unfold Gr.out; rw [if_pos hc])
  obtain ⟨k, hk⟩ : ∃ k, k = x.check := ⟨_, rfl⟩
  have HK := Lib.hid hk
  have dk : (k != 0) = true := by rw [hk]; simpa using hc
  clear h hg hc hk
  go_enter Try.func11, Try.ntmps11
  go_wp2_with (first
    | (refine gate_guard (by rfl) ?_; refine wpList_load_row rfl 39 _ rfl w.heap.size rfl 39 x.cells (0, 0) _ ?_ Try.underlying39 rfl (by kernel_rfl) ?_; exact Hid.out (by assumption))
    | (go_at_call 23; refine (gis_yes g _ _ _ HPOS.out _ q11).mono ?_; rintro e w4 ⟨rfl, rfl⟩)
    | (go_at_call 25; refine (ccheck_any x _).mono ?_; rw [← HK.out]; rintro e w5 ⟨rfl, hb5⟩; have B5 : Hid (Below w.heap.size w w5) := Lib.hid (below_next B2.out hb5); have A5 := Lib.hid (keep hb5 A2.out); clear hb5)
    | (go_at_call 24; refine (gfail_any k _).mono ?_; rintro e w8 ⟨rfl, hb8⟩; have B8 : Hid (Below w.heap.size w w8) := Lib.hid (below_next B5.out hb8); have A8 := Lib.hid (keep hb8 A5.out); clear hb8)
    | (refine wpList_store_row rfl 36 _ _ rfl (w.heap.size + 1) (Gr.err k).cells rfl rfl 36 _ A8.out (by kernel_rfl) rfl (by kernel_rfl) ?_))
  exact bodyPost_ret (v := .agg (Gr.err k).cells) (results_cell_row rfl _ _ (w.heap.size + 1) 36 (Gr.err k).cells _ _ rfl (heap_setRow_same _ A8.out) Try.underlying36 rfl (by kernel_rfl)) rfl
    (by rw [HOUT.out, ← HK.out]; exact ⟨rfl, GTo.same HG.out (below_setRow (g := w.heap.size + 1) B8.out (by omega) _)⟩)
set_option maxHeartbeats 8000000 in
set_option maxRecDepth 100000 in
theorem gdo_who (h : Gx 60 72 w g c G tb tcap nb ncap hv nv) (hg : G.Good) (x : Stp) (no : Int) (hc : x.check = 0) (hw : G.who x ≠ 0) :
    Calls Try.prog 11 #[.pointer (some ⟨g, 0, none⟩), .agg x.cells, .int .i64 no] w fun e w' => DoR w w' g c (G.out c.q x no) (fpOf g tb nb hv nv) e := by
  have B2 := Lib.hid (below_new (below_alloc0 w (.cells x.cells 39)) (.cells zAns 36))
  have S2 := Lib.hid (keep_alloc (.cells zAns 36) (heap_alloc_new w (.cells x.cells 39)))
  have A2 := Lib.hid (heap_two w (.cells x.cells 39) (.cells zAns 36))
  have HG := Lib.hid h
  have HPOS := Lib.hid hg.some
  obtain ⟨-, -, q11⟩ := (h.below B2.out).head
  have HOUT : Hid (G.out c.q x no = (Gr.err (G.who x), G)) := Lib.hid (by unfold Gr.out; rw [if_neg (by omega), if_pos hw])
  obtain ⟨-, hrn, -⟩ := Stp.check_zero hc
  obtain ⟨ht0, -, -, -⟩ := rng_of hrn
  obtain ⟨k, hk⟩ : ∃ k, k = G.who x := ⟨_, rfl⟩
  have HK := Lib.hid hk
  have HC := Lib.hid hc
  have dk : (k != 0) = true := by rw [hk]; simpa using hw
  clear h hg hc hk hw hrn
  go_enter Try.func11, Try.ntmps11
  go_wp2_with (first
    | (refine gate_guard (by rfl) ?_; refine wpList_load_row rfl 39 _ rfl w.heap.size rfl 39 x.cells (0, 0) _ ?_ Try.underlying39 rfl (by kernel_rfl) ?_; exact Hid.out (by assumption))
    | (go_at_call 23; refine (gis_yes g _ _ _ HPOS.out _ q11).mono ?_; rintro e w4 ⟨rfl, rfl⟩)
    | (go_at_call 25; refine (ccheck_any x _).mono ?_; rw [HC.out]; rintro e w5 ⟨rfl, hb5⟩; have B5 : Hid (Below w.heap.size w w5) := Lib.hid (below_next B2.out hb5); have A5 := Lib.hid (keep hb5 A2.out); have S5 := Lib.hid (keep hb5 S2.out); clear hb5 S2)
    | (go_at_call 26; refine (gwho_any (HG.out.below B5.out) x ht0).mono ?_; rw [← HK.out]; rintro e w6 ⟨rfl, hb6⟩; have B6 : Hid (Below w.heap.size w w6) := Lib.hid (below_next B5.out hb6); have A6 := Lib.hid (keep hb6 A5.out); clear hb6)
    | (go_at_call 24; refine (gfail_any k _).mono ?_; rintro e w8 ⟨rfl, hb8⟩; have B8 : Hid (Below w.heap.size w w8) := Lib.hid (below_next B6.out hb8); have A8 := Lib.hid (keep hb8 A6.out); clear hb8)
    | (refine wpList_store_row rfl 36 _ _ rfl (w.heap.size + 1) (Gr.err k).cells rfl rfl 36 _ A8.out (by kernel_rfl) rfl (by kernel_rfl) ?_))
  exact bodyPost_ret (v := .agg (Gr.err k).cells) (results_cell_row rfl _ _ (w.heap.size + 1) 36 (Gr.err k).cells _ _ rfl (heap_setRow_same _ A8.out) Try.underlying36 rfl (by kernel_rfl)) rfl
    (by rw [HOUT.out, ← HK.out]; exact ⟨rfl, GTo.same HG.out (below_setRow (g := w.heap.size + 1) B8.out (by omega) _)⟩)
end
/-- Of nobody's graph each step has one error. -/
theorem gdo_none (p : Option Addr) (hp : p = none ∨ ∃ g, p = some ⟨g, 0, none⟩ ∧ True) (x : Stp) (no : Int) (w : World) (hz : ∀ g, p = some ⟨g, 0, none⟩ → w.cell? ⟨g, 11, none⟩ = some (.slice none 0 0)) :
    Calls Try.prog 11 #[.pointer p, .agg x.cells, .int .i64 no] w fun e w' => e = .returned (.agg (Gr.err 9).cells) ∧ Below w.heap.size w w' := by
  have B2 := Lib.hid (below_new (below_alloc0 w (.cells x.cells 39)) (.cells zAns 36))
  have A2 := Lib.hid (heap_two w (.cells x.cells 39) (.cells zAns 36))
  have CT : Hid (∀ W, Below w.heap.size w W → Calls Try.prog 23 #[.pointer p] W fun e w' => e = .returned (.bool false) ∧ W = w') := Lib.hid fun W hb => by
    rcases hp with rfl | ⟨g, rfl, _⟩
    · exact gis_nil W
    · exact gis_no g W (cell_keep hb (hz g rfl))
  clear hp hz
  go_enter Try.func11, Try.ntmps11
  go_wp2_with (first
    | (go_at_call 23; refine (CT.out _ B2.out).mono ?_; rintro e w4 ⟨rfl, rfl⟩)
    | (go_at_call 24; refine (gfail_any 9 _).mono ?_; rintro e w8 ⟨rfl, hb8⟩; have B8 : Hid (Below w.heap.size w w8) := Lib.hid (below_next B2.out hb8); have A8 := Lib.hid (keep hb8 A2.out); clear hb8)
    | (refine wpList_store_row rfl 36 _ _ rfl (w.heap.size + 1) (Gr.err 9).cells rfl rfl 36 _ A8.out (by kernel_rfl) rfl (by kernel_rfl) ?_))
  exact bodyPost_ret (v := .agg (Gr.err 9).cells) (results_cell_row rfl _ _ (w.heap.size + 1) 36 (Gr.err 9).cells _ _ rfl (heap_setRow_same _ A8.out) Try.underlying36 rfl (by kernel_rfl)) rfl
    ⟨rfl, below_setRow (g := w.heap.size + 1) B8.out (by omega) _⟩
/- The graph's Do: start, stop. -/
section
variable {w : World} {g : Nat} {c : Cfg} {G : Gr} {tb tcap nb ncap : Nat} {hv nv : List Value}
set_option maxHeartbeats 8000000 in
set_option maxRecDepth 100000 in
theorem gdo_1 (h : Gx 60 72 w g c G tb tcap nb ncap hv nv) (hg : G.Good) (x : Stp) (no : Int) (hc : x.check = 0) (hw : G.who x = 0) (hk : x.k = 1) :
    Calls Try.prog 11 #[.pointer (some ⟨g, 0, none⟩), .agg x.cells, .int .i64 no] w fun e w' => DoR w w' g c (G.out c.q x no) (fpOf g tb nb hv nv) e := by
  have B2 := Lib.hid (below_new (below_alloc0 w (.cells x.cells 39)) (.cells zAns 36))
  have S2 := Lib.hid (keep_alloc (.cells zAns 36) (heap_alloc_new w (.cells x.cells 39)))
  have A2 := Lib.hid (heap_two w (.cells x.cells 39) (.cells zAns 36))
  have HG := Lib.hid h
  have HGD := Lib.hid hg
  have HFP := Lib.hid h.lt
  have HC := Lib.hid hc
  have HW := Lib.hid hw
  have HOUT := Lib.hid (out_kind (q := c.q) (no := no) hc hw)
  obtain ⟨-, hrn, -⟩ := Stp.check_zero hc
  obtain ⟨ht0, hi, hf, hj⟩ := rng_of hrn
  have HPOS := Lib.hid hg.some
  obtain ⟨-, -, q11⟩ := (h.below B2.out).head
  have hlt' := who_zero (by omega) hw
  obtain ⟨t, ht⟩ : ∃ t : Nat, x.t = (t : Int) := ⟨x.t.toNat, by omega⟩
  have hlt : t < G.thr.length := by omega
  have HT := Lib.hid ht
  clear ht hlt'
  clear h hg hc hw hrn
  have HK := Lib.hid hk
  have HR : Hid (G.out c.q x no = (Ans.zero, G.setT (t : Int) ⟨true, []⟩)) := Lib.hid (by rw [HOUT.out, show x.k.toNat = 1 by omega, ← HT.out] <;> rfl)
  have i1 : (0 : Int) ≤ (t : Int) := by omega
  have i2 : (t : Int) < (G.thr.length : Int) := by omega
  have TH := Lib.hid fun (W : World) (hb : Below w.heap.size w W) => And.intro (HG.out.below hb).head.2.1 (And.intro ((HG.out.below hb).thread hlt) (And.intro ((HG.out.below hb).thr.frozenAt (t * 2)) ((HG.out.below hb).thr.frozenAt (t * 2 + 1))))
  go_enter Try.func11, Try.ntmps11
  go_wp2_with (first
    | (refine gate_guard (by rfl) ?_; refine wpList_load_row rfl 39 _ rfl w.heap.size rfl 39 x.cells (0, 0) _ ?_ Try.underlying39 rfl (by kernel_rfl) ?_; exact Hid.out (by assumption))
    | (go_at_call 23; refine (gis_yes g _ _ _ HPOS.out _ q11).mono ?_; rintro e w4 ⟨rfl, rfl⟩)
    | (go_at_call 25; refine (ccheck_any x _).mono ?_; rw [HC.out]; rintro e w5 ⟨rfl, hb5⟩; have B5 : Hid (Below w.heap.size w w5) := Lib.hid (below_next B2.out hb5); have S5 := Lib.hid (keep hb5 S2.out); have A5 := Lib.hid (keep hb5 A2.out); clear hb5 S2)
    | (go_at_call 26; refine (gwho_any (HG.out.below B5.out) x ht0).mono ?_; rw [HW.out]; rintro e w6 ⟨rfl, hb6⟩; have B6 : Hid (Below w.heap.size w w6) := Lib.hid (below_next B5.out hb6); have S6 := Lib.hid (keep hb6 S5.out); have A6 := Lib.hid (keep hb6 A5.out); clear hb6 S5; have s0 : w6.cell? ⟨w.heap.size, 0, none⟩ = some (.int .i64 x.k) := cell_of_row _ _ _ _ _ _ S6.out; have s1 : w6.cell? ⟨w.heap.size, 1, none⟩ = some (.int .i64 x.t) := cell_of_row _ _ _ _ _ _ S6.out; have s6 : w6.cell? ⟨w.heap.size, 6, none⟩ = some (.int .i64 x.n) := cell_of_row _ _ _ _ _ _ S6.out; try rw [HK.out] at s0; obtain ⟨q10, ⟨t0, t1⟩, f0, f1⟩ := TH.out w6 B6.out; rw [HT.out] at s1))
  generalize (G.thr.getD t Th.none).live = bl at t0
  generalize hv.getD t undef = hs at t1
  refine region_tail 11 (by kernel_rfl) (by kernel_rfl) ?_
  simp only [List.take_succ_cons, List.take_zero, List.drop_succ_cons, List.drop_zero]
  repeat still_step
  refine wpStill_nil ?_
  have PT := Lib.hid ((HG.out.below B6.out).putThread kinds_g hlt true)
  have htb : tb < w.heap.size := own_blk HG.out.thr tb rfl
  have A9 : Hid (((w6.setCell ⟨tb, t * 2, none⟩ (.bool true)).setCell ⟨tb, t * 2 + 1, none⟩ (.slice none 0 0)).heap[w.heap.size + 1]? = some (.cells zAns 36 (0, 0))) := Lib.hid ((heap_setCell_other _ _ _ _ (by simp only; omega)).trans ((heap_setCell_other _ _ _ _ (by simp only; omega)).trans A6.out))
  clear htb
  go_wp2_with (refine wpList_store_row rfl 36 _ _ rfl (w.heap.size + 1) zAns rfl rfl 36 _ A9.out (by kernel_rfl) rfl (by kernel_rfl) ?_)
  exact bodyPost_ret (v := .agg zAns) (results_cell_row rfl _ _ (w.heap.size + 1) 36 zAns _ _ rfl (heap_setRow_same _ A9.out) Try.underlying36 rfl (by kernel_rfl)) rfl
    (by rw [HR.out]; exact ⟨rfl, PT.out.wrap B6.out HFP.out (K := w.heap.size + 1) (by omega) (heap_lt A6.out) ((Frm.of_below [w.heap.size + 1] (Below.refl _ _).drew).trans (Frm.setRow (fp := [w.heap.size + 1]) _ (List.mem_singleton.2 rfl) _) (fresh_sub fun _ h => h))⟩)
set_option maxHeartbeats 8000000 in
set_option maxRecDepth 100000 in
theorem gdo_2 (h : Gx 60 72 w g c G tb tcap nb ncap hv nv) (hg : G.Good) (x : Stp) (no : Int) (hc : x.check = 0) (hw : G.who x = 0) (hk : x.k = 2) :
    Calls Try.prog 11 #[.pointer (some ⟨g, 0, none⟩), .agg x.cells, .int .i64 no] w fun e w' => DoR w w' g c (G.out c.q x no) (fpOf g tb nb hv nv) e := by
  have B2 := Lib.hid (below_new (below_alloc0 w (.cells x.cells 39)) (.cells zAns 36))
  have S2 := Lib.hid (keep_alloc (.cells zAns 36) (heap_alloc_new w (.cells x.cells 39)))
  have A2 := Lib.hid (heap_two w (.cells x.cells 39) (.cells zAns 36))
  have HG := Lib.hid h
  have HGD := Lib.hid hg
  have HFP := Lib.hid h.lt
  have HC := Lib.hid hc
  have HW := Lib.hid hw
  have HOUT := Lib.hid (out_kind (q := c.q) (no := no) hc hw)
  obtain ⟨-, hrn, -⟩ := Stp.check_zero hc
  obtain ⟨ht0, hi, hf, hj⟩ := rng_of hrn
  have HPOS := Lib.hid hg.some
  obtain ⟨-, -, q11⟩ := (h.below B2.out).head
  have hlt' := who_zero (by omega) hw
  obtain ⟨t, ht⟩ : ∃ t : Nat, x.t = (t : Int) := ⟨x.t.toNat, by omega⟩
  have hlt : t < G.thr.length := by omega
  have HT := Lib.hid ht
  clear ht hlt'
  clear h hg hc hw hrn
  have HK := Lib.hid hk
  have HR : Hid (G.out c.q x no = (Ans.zero, G.setT (t : Int) ⟨false, []⟩)) := Lib.hid (by rw [HOUT.out, show x.k.toNat = 2 by omega, ← HT.out] <;> rfl)
  have i1 : (0 : Int) ≤ (t : Int) := by omega
  have i2 : (t : Int) < (G.thr.length : Int) := by omega
  have TH := Lib.hid fun (W : World) (hb : Below w.heap.size w W) => And.intro (HG.out.below hb).head.2.1 (And.intro ((HG.out.below hb).thread hlt) (And.intro ((HG.out.below hb).thr.frozenAt (t * 2)) ((HG.out.below hb).thr.frozenAt (t * 2 + 1))))
  go_enter Try.func11, Try.ntmps11
  go_wp2_with (first
    | (refine gate_guard (by rfl) ?_; refine wpList_load_row rfl 39 _ rfl w.heap.size rfl 39 x.cells (0, 0) _ ?_ Try.underlying39 rfl (by kernel_rfl) ?_; exact Hid.out (by assumption))
    | (go_at_call 23; refine (gis_yes g _ _ _ HPOS.out _ q11).mono ?_; rintro e w4 ⟨rfl, rfl⟩)
    | (go_at_call 25; refine (ccheck_any x _).mono ?_; rw [HC.out]; rintro e w5 ⟨rfl, hb5⟩; have B5 : Hid (Below w.heap.size w w5) := Lib.hid (below_next B2.out hb5); have S5 := Lib.hid (keep hb5 S2.out); have A5 := Lib.hid (keep hb5 A2.out); clear hb5 S2)
    | (go_at_call 26; refine (gwho_any (HG.out.below B5.out) x ht0).mono ?_; rw [HW.out]; rintro e w6 ⟨rfl, hb6⟩; have B6 : Hid (Below w.heap.size w w6) := Lib.hid (below_next B5.out hb6); have S6 := Lib.hid (keep hb6 S5.out); have A6 := Lib.hid (keep hb6 A5.out); clear hb6 S5; have s0 : w6.cell? ⟨w.heap.size, 0, none⟩ = some (.int .i64 x.k) := cell_of_row _ _ _ _ _ _ S6.out; have s1 : w6.cell? ⟨w.heap.size, 1, none⟩ = some (.int .i64 x.t) := cell_of_row _ _ _ _ _ _ S6.out; have s6 : w6.cell? ⟨w.heap.size, 6, none⟩ = some (.int .i64 x.n) := cell_of_row _ _ _ _ _ _ S6.out; try rw [HK.out] at s0; obtain ⟨q10, ⟨t0, t1⟩, f0, f1⟩ := TH.out w6 B6.out; rw [HT.out] at s1))
  generalize (G.thr.getD t Th.none).live = bl at t0
  generalize hv.getD t undef = hs at t1
  refine region_tail 11 (by kernel_rfl) (by kernel_rfl) ?_
  simp only [List.take_succ_cons, List.take_zero, List.drop_succ_cons, List.drop_zero]
  repeat still_step
  refine wpStill_nil ?_
  have PT := Lib.hid ((HG.out.below B6.out).putThread kinds_g hlt false)
  have htb : tb < w.heap.size := own_blk HG.out.thr tb rfl
  have A9 : Hid (((w6.setCell ⟨tb, t * 2, none⟩ (.bool false)).setCell ⟨tb, t * 2 + 1, none⟩ (.slice none 0 0)).heap[w.heap.size + 1]? = some (.cells zAns 36 (0, 0))) := Lib.hid ((heap_setCell_other _ _ _ _ (by simp only; omega)).trans ((heap_setCell_other _ _ _ _ (by simp only; omega)).trans A6.out))
  clear htb
  go_wp2_with (refine wpList_store_row rfl 36 _ _ rfl (w.heap.size + 1) zAns rfl rfl 36 _ A9.out (by kernel_rfl) rfl (by kernel_rfl) ?_)
  exact bodyPost_ret (v := .agg zAns) (results_cell_row rfl _ _ (w.heap.size + 1) 36 zAns _ _ rfl (heap_setRow_same _ A9.out) Try.underlying36 rfl (by kernel_rfl)) rfl
    (by rw [HR.out]; exact ⟨rfl, PT.out.wrap B6.out HFP.out (K := w.heap.size + 1) (by omega) (heap_lt A6.out) ((Frm.of_below [w.heap.size + 1] (Below.refl _ _).drew).trans (Frm.setRow (fp := [w.heap.size + 1]) _ (List.mem_singleton.2 rfl) _) (fresh_sub fun _ h => h))⟩)
end
/- The graph's Do: pop. -/
theorem cell_two {w : World} {p : Addr} {v : Value} {K : Nat} (h : w.cell? p = some v) (hne : p.block ≠ K) (a b : Value) : ((w.setCell ⟨K, 0, none⟩ a).setCell ⟨K, 1, none⟩ b).cell? p = some v :=
  (World.cell?_of_block ((heap_setCell_other _ _ _ _ hne).trans (heap_setCell_other _ _ _ _ hne))).trans h
theorem GTo.wrapL {GT TT : TypeId} {w wm w1 w2 : World} {g : Nat} {c : Cfg} {G' : Gr} {fp : List Nat} (hB : Below w.heap.size w wm) (h : GTo GT TT wm w1 g c G' fp) (hfp : ∀ k ∈ fp, k < w.heap.size) {Ks : List Nat} (hK : ∀ k ∈ Ks, w.heap.size ≤ k ∧ k < wm.heap.size) (hf : Frm Ks w1 w2) : GTo GT TT w w2 g c G' fp := by
  obtain ⟨tb, tcap, nb, ncap, hv, nv, gx, fr, fs⟩ := h
  have hs := hB.size
  refine ⟨tb, tcap, nb, ncap, hv, nv, gx.keep fun k hk => hf.block k (gx.lt k hk) (fun hm => ?_), ?_, ?_⟩
  · have h2 := hK k hm
    rcases fs k hk with h1 | h1
    · have := hfp k h1; omega
    · omega
  · refine ⟨hf.os.trans (fr.os.trans hB.os), hf.tape.trans (fr.tape.trans hB.tape), hf.output.trans (fr.output.trans hB.output), Nat.le_trans hs (Nat.le_trans fr.size hf.size), fun k hk hn => ?_⟩
    have h1 : k < wm.heap.size := Nat.lt_of_lt_of_le hk hs
    rw [hf.block k (Nat.lt_of_lt_of_le h1 fr.size) (fun hm => by have := hK k hm; omega), fr.block k h1 hn, hB.block k hk]
  · intro k hk
    rcases fs k hk with h1 | h1
    · exact .inl h1
    · exact .inr (by omega)
section
variable {w : World} {g : Nat} {c : Cfg} {G : Gr} {tb tcap nb ncap : Nat} {hv nv : List Value}
set_option maxHeartbeats 8000000 in
set_option maxRecDepth 100000 in
theorem gdo_8 (h : Gx 60 72 w g c G tb tcap nb ncap hv nv) (hg : G.Good) (x : Stp) (no : Int) (hc : x.check = 0) (hw : G.who x = 0) (hk : x.k = 8) :
    Calls Try.prog 11 #[.pointer (some ⟨g, 0, none⟩), .agg x.cells, .int .i64 no] w fun e w' => DoR w w' g c (G.out c.q x no) (fpOf g tb nb hv nv) e := by
  have B2 := Lib.hid (below_new (below_alloc0 w (.cells x.cells 39)) (.cells zAns 36))
  have S2 := Lib.hid (keep_alloc (.cells zAns 36) (heap_alloc_new w (.cells x.cells 39)))
  have A2 := Lib.hid (heap_two w (.cells x.cells 39) (.cells zAns 36))
  have HG := Lib.hid h
  have HGD := Lib.hid hg
  have HFP := Lib.hid h.lt
  have HC := Lib.hid hc
  have HW := Lib.hid hw
  have HOUT := Lib.hid (out_kind (q := c.q) (no := no) hc hw)
  obtain ⟨-, hrn, -⟩ := Stp.check_zero hc
  obtain ⟨ht0, hi, hf, hj⟩ := rng_of hrn
  have HPOS := Lib.hid hg.some
  obtain ⟨-, -, q11⟩ := (h.below B2.out).head
  have hlt' := who_zero (by omega) hw
  obtain ⟨t, ht⟩ : ∃ t : Nat, x.t = (t : Int) := ⟨x.t.toNat, by omega⟩
  have hlt : t < G.thr.length := by omega
  have HT := Lib.hid ht
  clear ht hlt'
  clear h hg hc hw hrn
  have HK := Lib.hid hk
  have i1 : (0 : Int) ≤ (t : Int) := by omega
  have i2 : (t : Int) < (G.thr.length : Int) := by omega
  have TH := Lib.hid fun (W : World) (hb : Below w.heap.size w W) => And.intro (HG.out.below hb).head.2.1 trivial
  have HKD : Hid (G.out c.q x no = if (G.held (t : Int)).length = 0 then (Gr.err 4, G) else (Gr.told (Gr.at? (G.held (t : Int)) (((G.held (t : Int)).length : Int) - 1)), G.drop1 (t : Int))) := Lib.hid (by rw [HOUT.out, show x.k.toNat = 8 by omega, ← HT.out] <;> rfl)
  by_cases h0 : (G.held (t : Int)).length = 0
  · have HR : Hid (G.out c.q x no = (Gr.err 4, G)) := Lib.hid (by rw [HKD.out, if_pos h0])
    have H0 := Lib.hid h0
    clear h0
    go_enter Try.func11, Try.ntmps11
    go_wp2_with (first
      | (refine gate_guard (by rfl) ?_; refine wpList_load_row rfl 39 _ rfl w.heap.size rfl 39 x.cells (0, 0) _ ?_ Try.underlying39 rfl (by kernel_rfl) ?_; exact Hid.out (by assumption))
      | (go_at_call 23; refine (gis_yes g _ _ _ HPOS.out _ q11).mono ?_; rintro e w4 ⟨rfl, rfl⟩)
      | (go_at_call 25; refine (ccheck_any x _).mono ?_; rw [HC.out]; rintro e w5 ⟨rfl, hb5⟩; have B5 : Hid (Below w.heap.size w w5) := Lib.hid (below_next B2.out hb5); have S5 := Lib.hid (keep hb5 S2.out); have A5 := Lib.hid (keep hb5 A2.out); clear hb5 S2)
      | (go_at_call 26; refine (gwho_any (HG.out.below B5.out) x ht0).mono ?_; rw [HW.out]; rintro e w6 ⟨rfl, hb6⟩; have B6 : Hid (Below w.heap.size w w6) := Lib.hid (below_next B5.out hb6); have S6 := Lib.hid (keep hb6 S5.out); have A6 := Lib.hid (keep hb6 A5.out); clear hb6 S5; have s0 : w6.cell? ⟨w.heap.size, 0, none⟩ = some (.int .i64 x.k) := cell_of_row _ _ _ _ _ _ S6.out; have s1 : w6.cell? ⟨w.heap.size, 1, none⟩ = some (.int .i64 x.t) := cell_of_row _ _ _ _ _ _ S6.out; have s6 : w6.cell? ⟨w.heap.size, 6, none⟩ = some (.int .i64 x.n) := cell_of_row _ _ _ _ _ _ S6.out; try rw [HK.out] at s0; obtain ⟨q10, hS⟩ := TH.out w6 B6.out; rw [HT.out] at s1; have ng : g ≠ w6.heap.size := Nat.ne_of_lt (World.block_lt_of_cell? w6 ⟨g, 10, none⟩ q10); have nk : w.heap.size + 1 ≠ w6.heap.size := Nat.ne_of_lt (heap_lt A6.out); have nw : w.heap.size ≠ w6.heap.size := Nat.ne_of_lt (heap_lt S6.out)))
    go_region_held3 (fun w' => w'.cell? ⟨g, 10, none⟩ = some (.slice (some ⟨tb, 0, none⟩) G.thr.length tcap) ∧ w'.cell? ⟨w.heap.size, 1, none⟩ = some (.int .i64 (t : Int)))
      (first
        | exact ⟨q10, s1⟩
        | exact ⟨k10, k1⟩
        | exact ⟨cell_two k10 ng _ _, cell_two k1 nw _ _⟩
        | exact ⟨cell_keep (below_alloc0 _ _) k10, cell_keep (below_alloc0 _ _) k1⟩
        | exact ⟨cell_keep (by (repeat (first | exact (Below.refl _ _) | exact Below.refl _ _ | refine Below.drew ?_ | refine below_new ?_ _ | refine below_drewN ?_ _ | refine Below.setCell ?_ (by first | exact Nat.le_refl _ | (simp only [World.size_alloc]; omega)) _))) q10, cell_keep (by (repeat (first | exact (Below.refl _ _) | exact Below.refl _ _ | refine Below.drew ?_ | refine below_new ?_ _ | refine below_drewN ?_ _ | refine Below.setCell ?_ (by first | exact Nat.le_refl _ | (simp only [World.size_alloc]; omega)) _))) s1⟩)
      (first
        | (go_at_call 29; (refine (gpop_none (HG.out.below (by (repeat (first | exact B6.out | exact Below.refl _ _ | refine Below.drew ?_ | refine below_new ?_ _ | refine below_drewN ?_ _ | refine Below.setCell ?_ (by first | exact Nat.le_refl _ | (simp only [World.size_alloc]; omega)) _)))) t hlt HGD.out H0.out).mono ?_; rintro e w7 ⟨rfl, hb7⟩; have k10 := cell_keep hb7 (cell_keep (by (repeat (first | exact (Below.refl _ _) | exact Below.refl _ _ | refine Below.drew ?_ | refine below_new ?_ _ | refine below_drewN ?_ _ | refine Below.setCell ?_ (by first | exact Nat.le_refl _ | (simp only [World.size_alloc]; omega)) _))) q10); have k1 := cell_keep hb7 (cell_keep (by (repeat (first | exact (Below.refl _ _) | exact Below.refl _ _ | refine Below.drew ?_ | refine below_new ?_ _ | refine below_drewN ?_ _ | refine Below.setCell ?_ (by first | exact Nat.le_refl _ | (simp only [World.size_alloc]; omega)) _))) s1); have B7 : Hid (Below w.heap.size w w7) := Lib.hid (below_next (by (repeat (first | exact B6.out | exact Below.refl _ _ | refine Below.drew ?_ | refine below_new ?_ _ | refine below_drewN ?_ _ | refine Below.setCell ?_ (by first | exact Nat.le_refl _ | (simp only [World.size_alloc]; omega)) _))) hb7); have A7 := Lib.hid (keep hb7 (keep (w := w6) (by (repeat (first | exact (Below.refl _ _) | exact Below.refl _ _ | refine Below.drew ?_ | refine below_new ?_ _ | refine below_drewN ?_ _ | refine Below.setCell ?_ (by first | exact Nat.le_refl _ | (simp only [World.size_alloc]; omega)) _))) A6.out)); try (have E7 := keep hb7 (heap_alloc_new w6 (.cells #[.int .i64 0, .int .i64 0] 57)); have z0 : w7.cell? ⟨w6.heap.size, 0, none⟩ = some (.int .i64 0) := cell_of_row _ _ _ _ _ _ E7; have z1 : w7.cell? ⟨w6.heap.size, 1, none⟩ = some (.int .i64 0) := cell_of_row _ _ _ _ _ _ E7; have y0 := Lib.frozen_of_heap E7 0; have y1 := Lib.frozen_of_heap E7 1; clear E7))))
    all_goals
      go_wp2_with (first
        | (go_at_call 24; refine (gfail_any 4 _).mono ?_; rintro e w8 ⟨rfl, hb8⟩; have B8 : Hid (Below w.heap.size w w8) := Lib.hid (below_next (by first | exact below_new B7.out _ | exact (B7.out.setCell (p := ⟨w6.heap.size, 0, none⟩) B6.out.size _).setCell (p := ⟨w6.heap.size, 1, none⟩) B6.out.size _) hb8); have A8 : Hid (w8.heap[w.heap.size + 1]? = some (.cells zAns 36 (0, 0))) := Lib.hid (keep hb8 (by first | exact keep_alloc _ A7.out | exact (heap_setCell_other _ _ _ _ nk).trans ((heap_setCell_other _ _ _ _ nk).trans A7.out))); clear hb8)
        | (refine wpList_store_row rfl 36 _ _ rfl (w.heap.size + 1) (Gr.err 4).cells rfl rfl 36 _ A8.out (by kernel_rfl) rfl (by kernel_rfl) ?_))
      exact bodyPost_ret (v := .agg (Gr.err 4).cells) (results_cell_row rfl _ _ (w.heap.size + 1) 36 (Gr.err 4).cells _ _ rfl (heap_setRow_same _ A8.out) Try.underlying36 rfl (by kernel_rfl)) rfl
        (by rw [HR.out]; exact ⟨rfl, GTo.same HG.out (below_setRow (g := w.heap.size + 1) B8.out (by omega) _)⟩)
  · have HR : Hid (G.out c.q x no = (Gr.told (Gr.at? (G.held (t : Int)) (((G.held (t : Int)).length : Int) - 1)), G.drop1 (t : Int))) := Lib.hid (by rw [HKD.out, if_neg h0])
    have H0 : Hid (0 < (G.held (t : Int)).length) := Lib.hid (by omega)
    obtain ⟨u, hu⟩ : ∃ u, u = Gr.at? (G.held (t : Int)) (((G.held (t : Int)).length : Int) - 1) := ⟨_, rfl⟩
    have HU := Lib.hid hu
    rw [← hu] at HR
    clear h0 hu
    go_enter Try.func11, Try.ntmps11
    go_wp2_with (first
      | (refine gate_guard (by rfl) ?_; refine wpList_load_row rfl 39 _ rfl w.heap.size rfl 39 x.cells (0, 0) _ ?_ Try.underlying39 rfl (by kernel_rfl) ?_; exact Hid.out (by assumption))
      | (go_at_call 23; refine (gis_yes g _ _ _ HPOS.out _ q11).mono ?_; rintro e w4 ⟨rfl, rfl⟩)
      | (go_at_call 25; refine (ccheck_any x _).mono ?_; rw [HC.out]; rintro e w5 ⟨rfl, hb5⟩; have B5 : Hid (Below w.heap.size w w5) := Lib.hid (below_next B2.out hb5); have S5 := Lib.hid (keep hb5 S2.out); have A5 := Lib.hid (keep hb5 A2.out); clear hb5 S2)
      | (go_at_call 26; refine (gwho_any (HG.out.below B5.out) x ht0).mono ?_; rw [HW.out]; rintro e w6 ⟨rfl, hb6⟩; have B6 : Hid (Below w.heap.size w w6) := Lib.hid (below_next B5.out hb6); have S6 := Lib.hid (keep hb6 S5.out); have A6 := Lib.hid (keep hb6 A5.out); clear hb6 S5; have s0 : w6.cell? ⟨w.heap.size, 0, none⟩ = some (.int .i64 x.k) := cell_of_row _ _ _ _ _ _ S6.out; have s1 : w6.cell? ⟨w.heap.size, 1, none⟩ = some (.int .i64 x.t) := cell_of_row _ _ _ _ _ _ S6.out; have s6 : w6.cell? ⟨w.heap.size, 6, none⟩ = some (.int .i64 x.n) := cell_of_row _ _ _ _ _ _ S6.out; try rw [HK.out] at s0; obtain ⟨q10, hS⟩ := TH.out w6 B6.out; rw [HT.out] at s1; have ng : g ≠ w6.heap.size := Nat.ne_of_lt (World.block_lt_of_cell? w6 ⟨g, 10, none⟩ q10); have nk : w.heap.size + 1 ≠ w6.heap.size := Nat.ne_of_lt (heap_lt A6.out); have nw : w.heap.size ≠ w6.heap.size := Nat.ne_of_lt (heap_lt S6.out)))
    go_region_held3 (fun w' => w'.cell? ⟨g, 10, none⟩ = some (.slice (some ⟨tb, 0, none⟩) G.thr.length tcap) ∧ w'.cell? ⟨w.heap.size, 1, none⟩ = some (.int .i64 (t : Int)))
      (first
        | exact ⟨q10, s1⟩
        | exact ⟨k10, k1⟩
        | exact ⟨cell_two k10 ng _ _, cell_two k1 nw _ _⟩
        | exact ⟨cell_keep (below_alloc0 _ _) k10, cell_keep (below_alloc0 _ _) k1⟩
        | exact ⟨cell_keep (by (repeat (first | exact (Below.refl _ _) | exact Below.refl _ _ | refine Below.drew ?_ | refine below_new ?_ _ | refine below_drewN ?_ _ | refine Below.setCell ?_ (by first | exact Nat.le_refl _ | (simp only [World.size_alloc]; omega)) _))) q10, cell_keep (by (repeat (first | exact (Below.refl _ _) | exact Below.refl _ _ | refine Below.drew ?_ | refine below_new ?_ _ | refine below_drewN ?_ _ | refine Below.setCell ?_ (by first | exact Nat.le_refl _ | (simp only [World.size_alloc]; omega)) _))) s1⟩)
      (first
        | (go_at_call 29; (refine (gpop_one (HG.out.below (by (repeat (first | exact B6.out | exact Below.refl _ _ | refine Below.drew ?_ | refine below_new ?_ _ | refine below_drewN ?_ _ | refine Below.setCell ?_ (by first | exact Nat.le_refl _ | (simp only [World.size_alloc]; omega)) _)))) t hlt HGD.out H0.out u HU.out).mono ?_; rintro e w7 ⟨rfl, h7, hg7⟩; have k10 := (World.cell?_of_block (a := ⟨g, 10, none⟩) hg7).trans (cell_keep (w := w6) (by (repeat (first | exact (Below.refl _ _) | exact Below.refl _ _ | refine Below.drew ?_ | refine below_new ?_ _ | refine below_drewN ?_ _ | refine Below.setCell ?_ (by first | exact Nat.le_refl _ | (simp only [World.size_alloc]; omega)) _))) q10); have S7 := h7.frm.keep HFP.out (Nat.le_refl _) (keep (w := w6) (by (repeat (first | exact (Below.refl _ _) | exact Below.refl _ _ | refine Below.drew ?_ | refine below_new ?_ _ | refine below_drewN ?_ _ | refine Below.setCell ?_ (by first | exact Nat.le_refl _ | (simp only [World.size_alloc]; omega)) _))) S6.out); have k1 : w7.cell? ⟨w.heap.size, 1, none⟩ = some (.int .i64 (t : Int)) := (cell_of_row _ _ 1 _ _ _ S7).trans (congrArg (fun n => some (Value.int .i64 n)) HT.out); clear S7; have A7 := Lib.hid (h7.frm.keep HFP.out (by omega) (keep (w := w6) (by (repeat (first | exact (Below.refl _ _) | exact Below.refl _ _ | refine Below.drew ?_ | refine below_new ?_ _ | refine below_drewN ?_ _ | refine Below.setCell ?_ (by first | exact Nat.le_refl _ | (simp only [World.size_alloc]; omega)) _))) A6.out)); have H7 := Lib.hid h7; try (have E7 := h7.frm.keep HFP.out B6.out.size (heap_alloc_new w6 (.cells #[.int .i64 0, .int .i64 0] 57)); have z0 : w7.cell? ⟨w6.heap.size, 0, none⟩ = some (.int .i64 0) := cell_of_row _ _ _ _ _ _ E7; have z1 : w7.cell? ⟨w6.heap.size, 1, none⟩ = some (.int .i64 0) := cell_of_row _ _ _ _ _ _ E7; have y0 := Lib.frozen_of_heap E7 0; have y1 := Lib.frozen_of_heap E7 1; clear E7); clear h7 hg7)))
    all_goals
      go_wp2_with (first
        | (go_at_call 30; refine (gtold_any u _).mono ?_; rintro e w8 ⟨rfl, hb8⟩; have A8 : Hid (w8.heap[w.heap.size + 1]? = some (.cells zAns 36 (0, 0))) := Lib.hid (keep hb8 (by first | exact keep_alloc _ A7.out | exact (heap_setCell_other _ _ _ _ nk).trans ((heap_setCell_other _ _ _ _ nk).trans A7.out))); have B8 := Lib.hid hb8; clear hb8)
        | (refine wpList_store_row rfl 36 _ _ rfl (w.heap.size + 1) (Gr.told u).cells rfl rfl 36 _ A8.out (by kernel_rfl) rfl (by kernel_rfl) ?_))
      exact bodyPost_ret (v := .agg (Gr.told u).cells) (results_cell_row rfl _ _ (w.heap.size + 1) 36 (Gr.told u).cells _ _ rfl (heap_setRow_same _ A8.out) Try.underlying36 rfl (by kernel_rfl)) rfl
        (by
          rw [HR.out]
          refine ⟨rfl, ?_⟩
          first
            | exact H7.out.wrapL B6.out.drew HFP.out (Ks := [w.heap.size + 1]) (fun k hk => by obtain rfl := List.mem_singleton.1 hk; exact ⟨by omega, heap_lt A6.out⟩) ((Frm.of_below _ ((below_alloc0 w7 _).trans (B8.out.mono (by simp)))).trans (Frm.setRow (fp := [w.heap.size + 1]) _ (List.mem_singleton.2 rfl) _) (fresh_sub fun _ h => h))
            | exact H7.out.wrapL (below_new B6.out _).drew HFP.out (Ks := [w.heap.size + 1, w6.heap.size]) (fun k hk => by
                  have h6 := B6.out.size
                  have h7 := heap_lt A6.out
                  have h8 : ∀ o : Obj, (w6.alloc o).drew.heap.size = w6.heap.size + 1 := fun o => (size_one w6 o).symm
                  simp only [List.mem_cons, List.not_mem_nil, or_false] at hk
                  rw [h8]
                  omega)
                ((((Frm.setCell (fp := [w.heap.size + 1, w6.heap.size]) w7 (p := ⟨w6.heap.size, 0, none⟩) (by simp) _).trans (Frm.setCell (fp := [w.heap.size + 1, w6.heap.size]) _ (p := ⟨w6.heap.size, 1, none⟩) (by simp) _) (fresh_sub fun _ h => h)).trans (Frm.of_below _ B8.out) (fresh_sub fun _ h => h)).trans (Frm.setRow (fp := [w.heap.size + 1, w6.heap.size]) _ (by simp) _) (fresh_sub fun _ h => h)))
end
/- The graph's Do, whole. -/
section
variable {w : World} {g : Nat} {c : Cfg} {G : Gr} {tb tcap nb ncap : Nat} {hv nv : List Value}
/-- Each step of a graph is as the plain one's. -/
theorem gdo_any (h : Gx 60 72 w g c G tb tcap nb ncap hv nv) (hg : G.Good) (x : Stp) (no : Int) :
    Calls Try.prog 11 #[.pointer (some ⟨g, 0, none⟩), .agg x.cells, .int .i64 no] w fun e w' => DoR w w' g c (G.out c.q x no) (fpOf g tb nb hv nv) e := by
  by_cases hc : x.check = 0
  · by_cases hw : G.who x = 0
    · obtain ⟨hk, -, -⟩ := Stp.check_zero hc
      have hcs : x.k = 1 ∨ x.k = 2 ∨ x.k = 3 ∨ x.k = 4 ∨ x.k = 5 ∨ x.k = 6 ∨ x.k = 7 ∨ x.k = 8 ∨ x.k = 9 ∨ x.k = 10 ∨ x.k = 11 ∨ x.k = 12 ∨ x.k = 13 ∨ x.k = 14 ∨ x.k = 15 ∨ x.k = 16 ∨ x.k = 17 := by omega
      rcases hcs with h1 | h1 | h1 | h1 | h1 | h1 | h1 | h1 | h1 | h1 | h1 | h1 | h1 | h1 | h1 | h1 | h1
      · exact gdo_1 h hg x no hc hw h1
      · exact gdo_2 h hg x no hc hw h1
      · exact gdo_3 h hg x no hc hw h1
      · exact gdo_4 h hg x no hc hw h1
      · exact gdo_5 h hg x no hc hw h1
      · exact gdo_6 h hg x no hc hw h1
      · exact gdo_7 h hg x no hc hw h1
      · exact gdo_8 h hg x no hc hw h1
      · exact gdo_9 h hg x no hc hw h1
      · exact gdo_10 h hg x no hc hw h1
      · exact gdo_11 h hg x no hc hw h1
      · exact gdo_12 h hg x no hc hw h1
      · exact gdo_13 h hg x no hc hw h1
      · exact gdo_14 h hg x no hc hw h1
      · exact gdo_15 h hg x no hc hw h1
      · exact gdo_16 h hg x no hc hw h1
      · exact gdo_17 h hg x no hc hw h1
    · exact gdo_who h hg x no hc hw
  · exact gdo_bad h hg x no hc
end
end Go.Proofs.Ytaefcmmjeloccaa
