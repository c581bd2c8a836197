/- The graph's Do, kind by kind. Printed by wip/gr_do.py. -/
import Derived.Test.YtaefcmmjeloccaaGrD
import Derived.Test.YtaefcmmjeloccaaStp2
namespace Go.Proofs.Ytaefcmmjeloccaa
open Go.RowKit

theorem out_kind {G : Gr} {q no : Int} {x : Stp} (hc : x.check = 0) (hw : G.who x = 0) : G.out q x no = G.kind q x no x.k.toNat := by
  unfold Gr.out; rw [if_neg (by omega), if_neg (by omega)]
theorem push_kind {G : Gr} {q no : Int} {x : Stp} (hk : pushes x.k) : pushR G x.t (G.value x x.k.toNat) = G.kind q x no x.k.toNat := by
  rcases hk with hk | hk | hk | hk | hk
  · rw [show x.k.toNat = 4 by omega]
    show pushR G x.t (if Gr.badN x (-1099511627776) 1099511627775 then _ else _) = (if Gr.badN x (-1099511627776) 1099511627775 then _ else _)
    split <;> rfl
  · rw [show x.k.toNat = 5 by omega]; rfl
  · rw [show x.k.toNat = 6 by omega]; rfl
  · rw [show x.k.toNat = 7 by omega]
    show pushR G x.t (if ((G.held x.t).length : Int) ≤ x.i then _ else _) = (if ((G.held x.t).length : Int) ≤ x.i then _ else _)
    split <;> rfl
  · rw [show x.k.toNat = 9 by omega]
    show pushR G x.t (if G.object x true ≠ 0 then _ else _) = (if G.object x true ≠ 0 then _ else _)
    split
    · rename_i h; unfold pushR; rw [if_pos h]
    · rfl
theorem rng_of {x : Stp} (h : x.rng) : 0 ≤ x.t ∧ 0 ≤ x.i ∧ 0 ≤ x.f ∧ 0 ≤ x.j := ⟨(h 0 (by omega)).1, (h 1 (by omega)).1, (h 2 (by omega)).1, (h 3 (by omega)).1⟩
theorem who_zero {G : Gr} {x : Stp} (hk : x.k < 16) (h : G.who x = 0) : x.t < (G.thr.length : Int) := by
  unfold Gr.who at h
  rw [if_neg (by omega)] at h
  split at h
  · exact absurd h (by decide)
  · omega
section
variable {w : World} {g : Nat} {c : Cfg} {G : Gr} {tb tcap nb ncap : Nat} {hv nv : List Value}
set_option maxHeartbeats 8000000 in
set_option maxRecDepth 100000 in
theorem gdo_4 (h : Gx 60 72 w g c G tb tcap nb ncap hv nv) (hg : G.Good) (x : Stp) (no : Int) (hc : x.check = 0) (hw : G.who x = 0) (hk : x.k = 4) :
    Calls Try.prog 11 #[.pointer (some ⟨g, 0, none⟩), .agg x.cells, .int .i64 no] w fun e w' => DoR w w' g c (G.out c.q x no) (fpOf g tb nb hv nv) e := by
  have B2 := Lib.hid (below_new (below_alloc0 w (.cells x.cells 39)) (.cells zAns 36))
  have S2 := Lib.hid (keep_alloc (.cells zAns 36) (heap_alloc_new w (.cells x.cells 39)))
  have A2 := Lib.hid (heap_two w (.cells x.cells 39) (.cells zAns 36))
  have HG := Lib.hid h
  have HGD := Lib.hid hg
  have HFP := Lib.hid h.lt
  have HC := Lib.hid hc
  have HW := Lib.hid hw
  have HOUT := Lib.hid (out_kind (q := c.q) (no := no) hc hw)
  obtain ⟨-, hrn, -⟩ := Stp.check_zero hc
  obtain ⟨ht0, hi, hf, hj⟩ := rng_of hrn
  have HPOS := Lib.hid hg.some
  obtain ⟨-, -, q11⟩ := (h.below B2.out).head
  have hlt' := who_zero (by omega) hw
  obtain ⟨t, ht⟩ : ∃ t : Nat, x.t = (t : Int) := ⟨x.t.toNat, by omega⟩
  have hlt : t < G.thr.length := by omega
  have HT := Lib.hid ht
  clear ht hlt'
  clear h hg hc hw hrn
  have HK := Lib.hid hk
  obtain ⟨r, hr⟩ : ∃ r, r = pushR G (t : Int) (G.value x x.k.toNat) := ⟨_, rfl⟩
  have HR : Hid (G.out c.q x no = r) := Lib.hid (by rw [hr, HOUT.out]; rw [← HT.out]; exact (push_kind (by unfold pushes; omega)).symm)
  have CT := Lib.hid fun (W : World) (hb : Below w.heap.size w W) => gpush_any (HG.out.below hb) HGD.out x (by unfold pushes; omega) t HT.out hlt hi hf
  rw [← hr] at CT
  clear hr
  go_enter Try.func11, Try.ntmps11
  go_wp2_with (first
    | (refine gate_guard (by rfl) ?_; refine wpList_load_row rfl 39 _ rfl w.heap.size rfl 39 x.cells (0, 0) _ ?_ Try.underlying39 rfl (by kernel_rfl) ?_; exact Hid.out (by assumption))
    | (go_at_call 23; refine (gis_yes g _ _ _ HPOS.out _ q11).mono ?_; rintro e w4 ⟨rfl, rfl⟩)
    | (go_at_call 25; refine (ccheck_any x _).mono ?_; rw [HC.out]; rintro e w5 ⟨rfl, hb5⟩; have B5 : Hid (Below w.heap.size w w5) := Lib.hid (below_next B2.out hb5); have S5 := Lib.hid (keep hb5 S2.out); have A5 := Lib.hid (keep hb5 A2.out); clear hb5 S2)
    | (go_at_call 26; refine (gwho_any (HG.out.below B5.out) x ht0).mono ?_; rw [HW.out]; rintro e w6 ⟨rfl, hb6⟩; have B6 : Hid (Below w.heap.size w w6) := Lib.hid (below_next B5.out hb6); have S6 := Lib.hid (keep hb6 S5.out); have A6 := Lib.hid (keep hb6 A5.out); clear hb6 S5; have s0 : w6.cell? ⟨w.heap.size, 0, none⟩ = some (.int .i64 x.k) := cell_of_row _ _ _ _ _ _ S6.out; have s1 : w6.cell? ⟨w.heap.size, 1, none⟩ = some (.int .i64 x.t) := cell_of_row _ _ _ _ _ _ S6.out; have s6 : w6.cell? ⟨w.heap.size, 6, none⟩ = some (.int .i64 x.n) := cell_of_row _ _ _ _ _ _ S6.out; try rw [HK.out] at s0)
    | (go_at_call 28; refine (CT.out _ B6.out).mono ?_; rintro e w7 ⟨rfl, h7⟩; have A7 := Lib.hid (h7.frm.keep HFP.out (by omega) A6.out); have H7 := Lib.hid h7; clear h7)
    | (refine wpList_store_row rfl 36 _ _ rfl (w.heap.size + 1) r.1.cells rfl rfl 36 _ A7.out (by kernel_rfl) rfl (by kernel_rfl) ?_))
  exact bodyPost_ret (v := .agg r.1.cells) (results_cell_row rfl _ _ (w.heap.size + 1) 36 r.1.cells _ _ rfl (heap_setRow_same _ A7.out) Try.underlying36 rfl (by kernel_rfl)) rfl
    (by rw [HR.out]; exact ⟨rfl, H7.out.wrap B6.out HFP.out (K := w.heap.size + 1) (by omega) (heap_lt A6.out) (Frm.setRow (fp := [w.heap.size + 1]) _ (List.mem_singleton.2 rfl) _)⟩)
set_option maxHeartbeats 8000000 in
set_option maxRecDepth 100000 in
theorem gdo_5 (h : Gx 60 72 w g c G tb tcap nb ncap hv nv) (hg : G.Good) (x : Stp) (no : Int) (hc : x.check = 0) (hw : G.who x = 0) (hk : x.k = 5) :
    Calls Try.prog 11 #[.pointer (some ⟨g, 0, none⟩), .agg x.cells, .int .i64 no] w fun e w' => DoR w w' g c (G.out c.q x no) (fpOf g tb nb hv nv) e := by
  have B2 := Lib.hid (below_new (below_alloc0 w (.cells x.cells 39)) (.cells zAns 36))
  have S2 := Lib.hid (keep_alloc (.cells zAns 36) (heap_alloc_new w (.cells x.cells 39)))
  have A2 := Lib.hid (heap_two w (.cells x.cells 39) (.cells zAns 36))
  have HG := Lib.hid h
  have HGD := Lib.hid hg
  have HFP := Lib.hid h.lt
  have HC := Lib.hid hc
  have HW := Lib.hid hw
  have HOUT := Lib.hid (out_kind (q := c.q) (no := no) hc hw)
  obtain ⟨-, hrn, -⟩ := Stp.check_zero hc
  obtain ⟨ht0, hi, hf, hj⟩ := rng_of hrn
  have HPOS := Lib.hid hg.some
  obtain ⟨-, -, q11⟩ := (h.below B2.out).head
  have hlt' := who_zero (by omega) hw
  obtain ⟨t, ht⟩ : ∃ t : Nat, x.t = (t : Int) := ⟨x.t.toNat, by omega⟩
  have hlt : t < G.thr.length := by omega
  have HT := Lib.hid ht
  clear ht hlt'
  clear h hg hc hw hrn
  have HK := Lib.hid hk
  obtain ⟨r, hr⟩ : ∃ r, r = pushR G (t : Int) (G.value x x.k.toNat) := ⟨_, rfl⟩
  have HR : Hid (G.out c.q x no = r) := Lib.hid (by rw [hr, HOUT.out]; rw [← HT.out]; exact (push_kind (by unfold pushes; omega)).symm)
  have CT := Lib.hid fun (W : World) (hb : Below w.heap.size w W) => gpush_any (HG.out.below hb) HGD.out x (by unfold pushes; omega) t HT.out hlt hi hf
  rw [← hr] at CT
  clear hr
  go_enter Try.func11, Try.ntmps11
  go_wp2_with (first
    | (refine gate_guard (by rfl) ?_; refine wpList_load_row rfl 39 _ rfl w.heap.size rfl 39 x.cells (0, 0) _ ?_ Try.underlying39 rfl (by kernel_rfl) ?_; exact Hid.out (by assumption))
    | (go_at_call 23; refine (gis_yes g _ _ _ HPOS.out _ q11).mono ?_; rintro e w4 ⟨rfl, rfl⟩)
    | (go_at_call 25; refine (ccheck_any x _).mono ?_; rw [HC.out]; rintro e w5 ⟨rfl, hb5⟩; have B5 : Hid (Below w.heap.size w w5) := Lib.hid (below_next B2.out hb5); have S5 := Lib.hid (keep hb5 S2.out); have A5 := Lib.hid (keep hb5 A2.out); clear hb5 S2)
    | (go_at_call 26; refine (gwho_any (HG.out.below B5.out) x ht0).mono ?_; rw [HW.out]; rintro e w6 ⟨rfl, hb6⟩; have B6 : Hid (Below w.heap.size w w6) := Lib.hid (below_next B5.out hb6); have S6 := Lib.hid (keep hb6 S5.out); have A6 := Lib.hid (keep hb6 A5.out); clear hb6 S5; have s0 : w6.cell? ⟨w.heap.size, 0, none⟩ = some (.int .i64 x.k) := cell_of_row _ _ _ _ _ _ S6.out; have s1 : w6.cell? ⟨w.heap.size, 1, none⟩ = some (.int .i64 x.t) := cell_of_row _ _ _ _ _ _ S6.out; have s6 : w6.cell? ⟨w.heap.size, 6, none⟩ = some (.int .i64 x.n) := cell_of_row _ _ _ _ _ _ S6.out; try rw [HK.out] at s0)
    | (go_at_call 28; refine (CT.out _ B6.out).mono ?_; rintro e w7 ⟨rfl, h7⟩; have A7 := Lib.hid (h7.frm.keep HFP.out (by omega) A6.out); have H7 := Lib.hid h7; clear h7)
    | (refine wpList_store_row rfl 36 _ _ rfl (w.heap.size + 1) r.1.cells rfl rfl 36 _ A7.out (by kernel_rfl) rfl (by kernel_rfl) ?_))
  exact bodyPost_ret (v := .agg r.1.cells) (results_cell_row rfl _ _ (w.heap.size + 1) 36 r.1.cells _ _ rfl (heap_setRow_same _ A7.out) Try.underlying36 rfl (by kernel_rfl)) rfl
    (by rw [HR.out]; exact ⟨rfl, H7.out.wrap B6.out HFP.out (K := w.heap.size + 1) (by omega) (heap_lt A6.out) (Frm.setRow (fp := [w.heap.size + 1]) _ (List.mem_singleton.2 rfl) _)⟩)
set_option maxHeartbeats 8000000 in
set_option maxRecDepth 100000 in
theorem gdo_6 (h : Gx 60 72 w g c G tb tcap nb ncap hv nv) (hg : G.Good) (x : Stp) (no : Int) (hc : x.check = 0) (hw : G.who x = 0) (hk : x.k = 6) :
    Calls Try.prog 11 #[.pointer (some ⟨g, 0, none⟩), .agg x.cells, .int .i64 no] w fun e w' => DoR w w' g c (G.out c.q x no) (fpOf g tb nb hv nv) e := by
  have B2 := Lib.hid (below_new (below_alloc0 w (.cells x.cells 39)) (.cells zAns 36))
  have S2 := Lib.hid (keep_alloc (.cells zAns 36) (heap_alloc_new w (.cells x.cells 39)))
  have A2 := Lib.hid (heap_two w (.cells x.cells 39) (.cells zAns 36))
  have HG := Lib.hid h
  have HGD := Lib.hid hg
  have HFP := Lib.hid h.lt
  have HC := Lib.hid hc
  have HW := Lib.hid hw
  have HOUT := Lib.hid (out_kind (q := c.q) (no := no) hc hw)
  obtain ⟨-, hrn, -⟩ := Stp.check_zero hc
  obtain ⟨ht0, hi, hf, hj⟩ := rng_of hrn
  have HPOS := Lib.hid hg.some
  obtain ⟨-, -, q11⟩ := (h.below B2.out).head
  have hlt' := who_zero (by omega) hw
  obtain ⟨t, ht⟩ : ∃ t : Nat, x.t = (t : Int) := ⟨x.t.toNat, by omega⟩
  have hlt : t < G.thr.length := by omega
  have HT := Lib.hid ht
  clear ht hlt'
  clear h hg hc hw hrn
  have HK := Lib.hid hk
  obtain ⟨r, hr⟩ : ∃ r, r = pushR G (t : Int) (G.value x x.k.toNat) := ⟨_, rfl⟩
  have HR : Hid (G.out c.q x no = r) := Lib.hid (by rw [hr, HOUT.out]; rw [← HT.out]; exact (push_kind (by unfold pushes; omega)).symm)
  have CT := Lib.hid fun (W : World) (hb : Below w.heap.size w W) => gpush_any (HG.out.below hb) HGD.out x (by unfold pushes; omega) t HT.out hlt hi hf
  rw [← hr] at CT
  clear hr
  go_enter Try.func11, Try.ntmps11
  go_wp2_with (first
    | (refine gate_guard (by rfl) ?_; refine wpList_load_row rfl 39 _ rfl w.heap.size rfl 39 x.cells (0, 0) _ ?_ Try.underlying39 rfl (by kernel_rfl) ?_; exact Hid.out (by assumption))
    | (go_at_call 23; refine (gis_yes g _ _ _ HPOS.out _ q11).mono ?_; rintro e w4 ⟨rfl, rfl⟩)
    | (go_at_call 25; refine (ccheck_any x _).mono ?_; rw [HC.out]; rintro e w5 ⟨rfl, hb5⟩; have B5 : Hid (Below w.heap.size w w5) := Lib.hid (below_next B2.out hb5); have S5 := Lib.hid (keep hb5 S2.out); have A5 := Lib.hid (keep hb5 A2.out); clear hb5 S2)
    | (go_at_call 26; refine (gwho_any (HG.out.below B5.out) x ht0).mono ?_; rw [HW.out]; rintro e w6 ⟨rfl, hb6⟩; have B6 : Hid (Below w.heap.size w w6) := Lib.hid (below_next B5.out hb6); have S6 := Lib.hid (keep hb6 S5.out); have A6 := Lib.hid (keep hb6 A5.out); clear hb6 S5; have s0 : w6.cell? ⟨w.heap.size, 0, none⟩ = some (.int .i64 x.k) := cell_of_row _ _ _ _ _ _ S6.out; have s1 : w6.cell? ⟨w.heap.size, 1, none⟩ = some (.int .i64 x.t) := cell_of_row _ _ _ _ _ _ S6.out; have s6 : w6.cell? ⟨w.heap.size, 6, none⟩ = some (.int .i64 x.n) := cell_of_row _ _ _ _ _ _ S6.out; try rw [HK.out] at s0)
    | (go_at_call 28; refine (CT.out _ B6.out).mono ?_; rintro e w7 ⟨rfl, h7⟩; have A7 := Lib.hid (h7.frm.keep HFP.out (by omega) A6.out); have H7 := Lib.hid h7; clear h7)
    | (refine wpList_store_row rfl 36 _ _ rfl (w.heap.size + 1) r.1.cells rfl rfl 36 _ A7.out (by kernel_rfl) rfl (by kernel_rfl) ?_))
  exact bodyPost_ret (v := .agg r.1.cells) (results_cell_row rfl _ _ (w.heap.size + 1) 36 r.1.cells _ _ rfl (heap_setRow_same _ A7.out) Try.underlying36 rfl (by kernel_rfl)) rfl
    (by rw [HR.out]; exact ⟨rfl, H7.out.wrap B6.out HFP.out (K := w.heap.size + 1) (by omega) (heap_lt A6.out) (Frm.setRow (fp := [w.heap.size + 1]) _ (List.mem_singleton.2 rfl) _)⟩)
set_option maxHeartbeats 8000000 in
set_option maxRecDepth 100000 in
theorem gdo_7 (h : Gx 60 72 w g c G tb tcap nb ncap hv nv) (hg : G.Good) (x : Stp) (no : Int) (hc : x.check = 0) (hw : G.who x = 0) (hk : x.k = 7) :
    Calls Try.prog 11 #[.pointer (some ⟨g, 0, none⟩), .agg x.cells, .int .i64 no] w fun e w' => DoR w w' g c (G.out c.q x no) (fpOf g tb nb hv nv) e := by
  have B2 := Lib.hid (below_new (below_alloc0 w (.cells x.cells 39)) (.cells zAns 36))
  have S2 := Lib.hid (keep_alloc (.cells zAns 36) (heap_alloc_new w (.cells x.cells 39)))
  have A2 := Lib.hid (heap_two w (.cells x.cells 39) (.cells zAns 36))
  have HG := Lib.hid h
  have HGD := Lib.hid hg
  have HFP := Lib.hid h.lt
  have HC := Lib.hid hc
  have HW := Lib.hid hw
  have HOUT := Lib.hid (out_kind (q := c.q) (no := no) hc hw)
  obtain ⟨-, hrn, -⟩ := Stp.check_zero hc
  obtain ⟨ht0, hi, hf, hj⟩ := rng_of hrn
  have HPOS := Lib.hid hg.some
  obtain ⟨-, -, q11⟩ := (h.below B2.out).head
  have hlt' := who_zero (by omega) hw
  obtain ⟨t, ht⟩ : ∃ t : Nat, x.t = (t : Int) := ⟨x.t.toNat, by omega⟩
  have hlt : t < G.thr.length := by omega
  have HT := Lib.hid ht
  clear ht hlt'
  clear h hg hc hw hrn
  have HK := Lib.hid hk
  obtain ⟨r, hr⟩ : ∃ r, r = pushR G (t : Int) (G.value x x.k.toNat) := ⟨_, rfl⟩
  have HR : Hid (G.out c.q x no = r) := Lib.hid (by rw [hr, HOUT.out]; rw [← HT.out]; exact (push_kind (by unfold pushes; omega)).symm)
  have CT := Lib.hid fun (W : World) (hb : Below w.heap.size w W) => gpush_any (HG.out.below hb) HGD.out x (by unfold pushes; omega) t HT.out hlt hi hf
  rw [← hr] at CT
  clear hr
  go_enter Try.func11, Try.ntmps11
  go_wp2_with (first
    | (refine gate_guard (by rfl) ?_; refine wpList_load_row rfl 39 _ rfl w.heap.size rfl 39 x.cells (0, 0) _ ?_ Try.underlying39 rfl (by kernel_rfl) ?_; exact Hid.out (by assumption))
    | (go_at_call 23; refine (gis_yes g _ _ _ HPOS.out _ q11).mono ?_; rintro e w4 ⟨rfl, rfl⟩)
    | (go_at_call 25; refine (ccheck_any x _).mono ?_; rw [HC.out]; rintro e w5 ⟨rfl, hb5⟩; have B5 : Hid (Below w.heap.size w w5) := Lib.hid (below_next B2.out hb5); have S5 := Lib.hid (keep hb5 S2.out); have A5 := Lib.hid (keep hb5 A2.out); clear hb5 S2)
    | (go_at_call 26; refine (gwho_any (HG.out.below B5.out) x ht0).mono ?_; rw [HW.out]; rintro e w6 ⟨rfl, hb6⟩; have B6 : Hid (Below w.heap.size w w6) := Lib.hid (below_next B5.out hb6); have S6 := Lib.hid (keep hb6 S5.out); have A6 := Lib.hid (keep hb6 A5.out); clear hb6 S5; have s0 : w6.cell? ⟨w.heap.size, 0, none⟩ = some (.int .i64 x.k) := cell_of_row _ _ _ _ _ _ S6.out; have s1 : w6.cell? ⟨w.heap.size, 1, none⟩ = some (.int .i64 x.t) := cell_of_row _ _ _ _ _ _ S6.out; have s6 : w6.cell? ⟨w.heap.size, 6, none⟩ = some (.int .i64 x.n) := cell_of_row _ _ _ _ _ _ S6.out; try rw [HK.out] at s0)
    | (go_at_call 28; refine (CT.out _ B6.out).mono ?_; rintro e w7 ⟨rfl, h7⟩; have A7 := Lib.hid (h7.frm.keep HFP.out (by omega) A6.out); have H7 := Lib.hid h7; clear h7)
    | (refine wpList_store_row rfl 36 _ _ rfl (w.heap.size + 1) r.1.cells rfl rfl 36 _ A7.out (by kernel_rfl) rfl (by kernel_rfl) ?_))
  exact bodyPost_ret (v := .agg r.1.cells) (results_cell_row rfl _ _ (w.heap.size + 1) 36 r.1.cells _ _ rfl (heap_setRow_same _ A7.out) Try.underlying36 rfl (by kernel_rfl)) rfl
    (by rw [HR.out]; exact ⟨rfl, H7.out.wrap B6.out HFP.out (K := w.heap.size + 1) (by omega) (heap_lt A6.out) (Frm.setRow (fp := [w.heap.size + 1]) _ (List.mem_singleton.2 rfl) _)⟩)
set_option maxHeartbeats 8000000 in
set_option maxRecDepth 100000 in
theorem gdo_9 (h : Gx 60 72 w g c G tb tcap nb ncap hv nv) (hg : G.Good) (x : Stp) (no : Int) (hc : x.check = 0) (hw : G.who x = 0) (hk : x.k = 9) :
    Calls Try.prog 11 #[.pointer (some ⟨g, 0, none⟩), .agg x.cells, .int .i64 no] w fun e w' => DoR w w' g c (G.out c.q x no) (fpOf g tb nb hv nv) e := by
  have B2 := Lib.hid (below_new (below_alloc0 w (.cells x.cells 39)) (.cells zAns 36))
  have S2 := Lib.hid (keep_alloc (.cells zAns 36) (heap_alloc_new w (.cells x.cells 39)))
  have A2 := Lib.hid (heap_two w (.cells x.cells 39) (.cells zAns 36))
  have HG := Lib.hid h
  have HGD := Lib.hid hg
  have HFP := Lib.hid h.lt
  have HC := Lib.hid hc
  have HW := Lib.hid hw
  have HOUT := Lib.hid (out_kind (q := c.q) (no := no) hc hw)
  obtain ⟨-, hrn, -⟩ := Stp.check_zero hc
  obtain ⟨ht0, hi, hf, hj⟩ := rng_of hrn
  have HPOS := Lib.hid hg.some
  obtain ⟨-, -, q11⟩ := (h.below B2.out).head
  have hlt' := who_zero (by omega) hw
  obtain ⟨t, ht⟩ : ∃ t : Nat, x.t = (t : Int) := ⟨x.t.toNat, by omega⟩
  have hlt : t < G.thr.length := by omega
  have HT := Lib.hid ht
  clear ht hlt'
  clear h hg hc hw hrn
  have HK := Lib.hid hk
  obtain ⟨r, hr⟩ : ∃ r, r = pushR G (t : Int) (G.value x x.k.toNat) := ⟨_, rfl⟩
  have HR : Hid (G.out c.q x no = r) := Lib.hid (by rw [hr, HOUT.out]; rw [← HT.out]; exact (push_kind (by unfold pushes; omega)).symm)
  have CT := Lib.hid fun (W : World) (hb : Below w.heap.size w W) => gpush_any (HG.out.below hb) HGD.out x (by unfold pushes; omega) t HT.out hlt hi hf
  rw [← hr] at CT
  clear hr
  go_enter Try.func11, Try.ntmps11
  go_wp2_with (first
    | (refine gate_guard (by rfl) ?_; refine wpList_load_row rfl 39 _ rfl w.heap.size rfl 39 x.cells (0, 0) _ ?_ Try.underlying39 rfl (by kernel_rfl) ?_; exact Hid.out (by assumption))
    | (go_at_call 23; refine (gis_yes g _ _ _ HPOS.out _ q11).mono ?_; rintro e w4 ⟨rfl, rfl⟩)
    | (go_at_call 25; refine (ccheck_any x _).mono ?_; rw [HC.out]; rintro e w5 ⟨rfl, hb5⟩; have B5 : Hid (Below w.heap.size w w5) := Lib.hid (below_next B2.out hb5); have S5 := Lib.hid (keep hb5 S2.out); have A5 := Lib.hid (keep hb5 A2.out); clear hb5 S2)
    | (go_at_call 26; refine (gwho_any (HG.out.below B5.out) x ht0).mono ?_; rw [HW.out]; rintro e w6 ⟨rfl, hb6⟩; have B6 : Hid (Below w.heap.size w w6) := Lib.hid (below_next B5.out hb6); have S6 := Lib.hid (keep hb6 S5.out); have A6 := Lib.hid (keep hb6 A5.out); clear hb6 S5; have s0 : w6.cell? ⟨w.heap.size, 0, none⟩ = some (.int .i64 x.k) := cell_of_row _ _ _ _ _ _ S6.out; have s1 : w6.cell? ⟨w.heap.size, 1, none⟩ = some (.int .i64 x.t) := cell_of_row _ _ _ _ _ _ S6.out; have s6 : w6.cell? ⟨w.heap.size, 6, none⟩ = some (.int .i64 x.n) := cell_of_row _ _ _ _ _ _ S6.out; try rw [HK.out] at s0)
    | (go_at_call 28; refine (CT.out _ B6.out).mono ?_; rintro e w7 ⟨rfl, h7⟩; have A7 := Lib.hid (h7.frm.keep HFP.out (by omega) A6.out); have H7 := Lib.hid h7; clear h7)
    | (refine wpList_store_row rfl 36 _ _ rfl (w.heap.size + 1) r.1.cells rfl rfl 36 _ A7.out (by kernel_rfl) rfl (by kernel_rfl) ?_))
  exact bodyPost_ret (v := .agg r.1.cells) (results_cell_row rfl _ _ (w.heap.size + 1) 36 r.1.cells _ _ rfl (heap_setRow_same _ A7.out) Try.underlying36 rfl (by kernel_rfl)) rfl
    (by rw [HR.out]; exact ⟨rfl, H7.out.wrap B6.out HFP.out (K := w.heap.size + 1) (by omega) (heap_lt A6.out) (Frm.setRow (fp := [w.heap.size + 1]) _ (List.mem_singleton.2 rfl) _)⟩)
set_option maxHeartbeats 8000000 in
set_option maxRecDepth 100000 in
theorem gdo_10 (h : Gx 60 72 w g c G tb tcap nb ncap hv nv) (hg : G.Good) (x : Stp) (no : Int) (hc : x.check = 0) (hw : G.who x = 0) (hk : x.k = 10) :
    Calls Try.prog 11 #[.pointer (some ⟨g, 0, none⟩), .agg x.cells, .int .i64 no] w fun e w' => DoR w w' g c (G.out c.q x no) (fpOf g tb nb hv nv) e := by
  have B2 := Lib.hid (below_new (below_alloc0 w (.cells x.cells 39)) (.cells zAns 36))
  have S2 := Lib.hid (keep_alloc (.cells zAns 36) (heap_alloc_new w (.cells x.cells 39)))
  have A2 := Lib.hid (heap_two w (.cells x.cells 39) (.cells zAns 36))
  have HG := Lib.hid h
  have HGD := Lib.hid hg
  have HFP := Lib.hid h.lt
  have HC := Lib.hid hc
  have HW := Lib.hid hw
  have HOUT := Lib.hid (out_kind (q := c.q) (no := no) hc hw)
  obtain ⟨-, hrn, -⟩ := Stp.check_zero hc
  obtain ⟨ht0, hi, hf, hj⟩ := rng_of hrn
  have HPOS := Lib.hid hg.some
  obtain ⟨-, -, q11⟩ := (h.below B2.out).head
  have hlt' := who_zero (by omega) hw
  obtain ⟨t, ht⟩ : ∃ t : Nat, x.t = (t : Int) := ⟨x.t.toNat, by omega⟩
  have hlt : t < G.thr.length := by omega
  have HT := Lib.hid ht
  clear ht hlt'
  clear h hg hc hw hrn
  have HK := Lib.hid hk
  obtain ⟨r, hr⟩ : ∃ r, r = G.kind c.q x no 10 := ⟨_, rfl⟩
  have HR : Hid (G.out c.q x no = r) := Lib.hid (by rw [hr, HOUT.out]; rw [show x.k.toNat = 10 by omega])
  have CT := Lib.hid fun (W : World) (hb : Below w.heap.size w W) => gwrite_any (HG.out.below hb) HGD.out x c.q no t HT.out hlt hi hf hj
  rw [← hr] at CT
  clear hr
  go_enter Try.func11, Try.ntmps11
  go_wp2_with (first
    | (refine gate_guard (by rfl) ?_; refine wpList_load_row rfl 39 _ rfl w.heap.size rfl 39 x.cells (0, 0) _ ?_ Try.underlying39 rfl (by kernel_rfl) ?_; exact Hid.out (by assumption))
    | (go_at_call 23; refine (gis_yes g _ _ _ HPOS.out _ q11).mono ?_; rintro e w4 ⟨rfl, rfl⟩)
    | (go_at_call 25; refine (ccheck_any x _).mono ?_; rw [HC.out]; rintro e w5 ⟨rfl, hb5⟩; have B5 : Hid (Below w.heap.size w w5) := Lib.hid (below_next B2.out hb5); have S5 := Lib.hid (keep hb5 S2.out); have A5 := Lib.hid (keep hb5 A2.out); clear hb5 S2)
    | (go_at_call 26; refine (gwho_any (HG.out.below B5.out) x ht0).mono ?_; rw [HW.out]; rintro e w6 ⟨rfl, hb6⟩; have B6 : Hid (Below w.heap.size w w6) := Lib.hid (below_next B5.out hb6); have S6 := Lib.hid (keep hb6 S5.out); have A6 := Lib.hid (keep hb6 A5.out); clear hb6 S5; have s0 : w6.cell? ⟨w.heap.size, 0, none⟩ = some (.int .i64 x.k) := cell_of_row _ _ _ _ _ _ S6.out; have s1 : w6.cell? ⟨w.heap.size, 1, none⟩ = some (.int .i64 x.t) := cell_of_row _ _ _ _ _ _ S6.out; have s6 : w6.cell? ⟨w.heap.size, 6, none⟩ = some (.int .i64 x.n) := cell_of_row _ _ _ _ _ _ S6.out; try rw [HK.out] at s0)
    | (go_at_call 31; refine (CT.out _ B6.out).mono ?_; rintro e w7 ⟨rfl, h7⟩; have A7 := Lib.hid (h7.frm.keep HFP.out (by omega) A6.out); have H7 := Lib.hid h7; clear h7)
    | (refine wpList_store_row rfl 36 _ _ rfl (w.heap.size + 1) r.1.cells rfl rfl 36 _ A7.out (by kernel_rfl) rfl (by kernel_rfl) ?_))
  exact bodyPost_ret (v := .agg r.1.cells) (results_cell_row rfl _ _ (w.heap.size + 1) 36 r.1.cells _ _ rfl (heap_setRow_same _ A7.out) Try.underlying36 rfl (by kernel_rfl)) rfl
    (by rw [HR.out]; exact ⟨rfl, H7.out.wrap B6.out HFP.out (K := w.heap.size + 1) (by omega) (heap_lt A6.out) (Frm.setRow (fp := [w.heap.size + 1]) _ (List.mem_singleton.2 rfl) _)⟩)
set_option maxHeartbeats 8000000 in
set_option maxRecDepth 100000 in
theorem gdo_11 (h : Gx 60 72 w g c G tb tcap nb ncap hv nv) (hg : G.Good) (x : Stp) (no : Int) (hc : x.check = 0) (hw : G.who x = 0) (hk : x.k = 11) :
    Calls Try.prog 11 #[.pointer (some ⟨g, 0, none⟩), .agg x.cells, .int .i64 no] w fun e w' => DoR w w' g c (G.out c.q x no) (fpOf g tb nb hv nv) e := by
  have B2 := Lib.hid (below_new (below_alloc0 w (.cells x.cells 39)) (.cells zAns 36))
  have S2 := Lib.hid (keep_alloc (.cells zAns 36) (heap_alloc_new w (.cells x.cells 39)))
  have A2 := Lib.hid (heap_two w (.cells x.cells 39) (.cells zAns 36))
  have HG := Lib.hid h
  have HGD := Lib.hid hg
  have HFP := Lib.hid h.lt
  have HC := Lib.hid hc
  have HW := Lib.hid hw
  have HOUT := Lib.hid (out_kind (q := c.q) (no := no) hc hw)
  obtain ⟨-, hrn, -⟩ := Stp.check_zero hc
  obtain ⟨ht0, hi, hf, hj⟩ := rng_of hrn
  have HPOS := Lib.hid hg.some
  obtain ⟨-, -, q11⟩ := (h.below B2.out).head
  have hlt' := who_zero (by omega) hw
  obtain ⟨t, ht⟩ : ∃ t : Nat, x.t = (t : Int) := ⟨x.t.toNat, by omega⟩
  have hlt : t < G.thr.length := by omega
  have HT := Lib.hid ht
  clear ht hlt'
  clear h hg hc hw hrn
  have HK := Lib.hid hk
  obtain ⟨r, hr⟩ : ∃ r, r = G.kind c.q x no x.k.toNat := ⟨_, rfl⟩
  have HR : Hid (G.out c.q x no = r) := Lib.hid (by rw [hr, HOUT.out]; skip)
  have CT := Lib.hid fun (W : World) (hb : Below w.heap.size w W) => gask_any (HG.out.below hb) HGD.out x c.q no t HT.out hlt hi hj (by omega)
  rw [← hr] at CT
  clear hr
  go_enter Try.func11, Try.ntmps11
  go_wp2_with (first
    | (refine gate_guard (by rfl) ?_; refine wpList_load_row rfl 39 _ rfl w.heap.size rfl 39 x.cells (0, 0) _ ?_ Try.underlying39 rfl (by kernel_rfl) ?_; exact Hid.out (by assumption))
    | (go_at_call 23; refine (gis_yes g _ _ _ HPOS.out _ q11).mono ?_; rintro e w4 ⟨rfl, rfl⟩)
    | (go_at_call 25; refine (ccheck_any x _).mono ?_; rw [HC.out]; rintro e w5 ⟨rfl, hb5⟩; have B5 : Hid (Below w.heap.size w w5) := Lib.hid (below_next B2.out hb5); have S5 := Lib.hid (keep hb5 S2.out); have A5 := Lib.hid (keep hb5 A2.out); clear hb5 S2)
    | (go_at_call 26; refine (gwho_any (HG.out.below B5.out) x ht0).mono ?_; rw [HW.out]; rintro e w6 ⟨rfl, hb6⟩; have B6 : Hid (Below w.heap.size w w6) := Lib.hid (below_next B5.out hb6); have S6 := Lib.hid (keep hb6 S5.out); have A6 := Lib.hid (keep hb6 A5.out); clear hb6 S5; have s0 : w6.cell? ⟨w.heap.size, 0, none⟩ = some (.int .i64 x.k) := cell_of_row _ _ _ _ _ _ S6.out; have s1 : w6.cell? ⟨w.heap.size, 1, none⟩ = some (.int .i64 x.t) := cell_of_row _ _ _ _ _ _ S6.out; have s6 : w6.cell? ⟨w.heap.size, 6, none⟩ = some (.int .i64 x.n) := cell_of_row _ _ _ _ _ _ S6.out; try rw [HK.out] at s0)
    | (go_at_call 32; refine (CT.out _ B6.out).mono ?_; rintro e w7 ⟨rfl, h7⟩; have A7 := Lib.hid (h7.frm.keep HFP.out (by omega) A6.out); have H7 := Lib.hid h7; clear h7)
    | (refine wpList_store_row rfl 36 _ _ rfl (w.heap.size + 1) r.1.cells rfl rfl 36 _ A7.out (by kernel_rfl) rfl (by kernel_rfl) ?_))
  exact bodyPost_ret (v := .agg r.1.cells) (results_cell_row rfl _ _ (w.heap.size + 1) 36 r.1.cells _ _ rfl (heap_setRow_same _ A7.out) Try.underlying36 rfl (by kernel_rfl)) rfl
    (by rw [HR.out]; exact ⟨rfl, H7.out.wrap B6.out HFP.out (K := w.heap.size + 1) (by omega) (heap_lt A6.out) (Frm.setRow (fp := [w.heap.size + 1]) _ (List.mem_singleton.2 rfl) _)⟩)
set_option maxHeartbeats 8000000 in
set_option maxRecDepth 100000 in
theorem gdo_12 (h : Gx 60 72 w g c G tb tcap nb ncap hv nv) (hg : G.Good) (x : Stp) (no : Int) (hc : x.check = 0) (hw : G.who x = 0) (hk : x.k = 12) :
    Calls Try.prog 11 #[.pointer (some ⟨g, 0, none⟩), .agg x.cells, .int .i64 no] w fun e w' => DoR w w' g c (G.out c.q x no) (fpOf g tb nb hv nv) e := by
  have B2 := Lib.hid (below_new (below_alloc0 w (.cells x.cells 39)) (.cells zAns 36))
  have S2 := Lib.hid (keep_alloc (.cells zAns 36) (heap_alloc_new w (.cells x.cells 39)))
  have A2 := Lib.hid (heap_two w (.cells x.cells 39) (.cells zAns 36))
  have HG := Lib.hid h
  have HGD := Lib.hid hg
  have HFP := Lib.hid h.lt
  have HC := Lib.hid hc
  have HW := Lib.hid hw
  have HOUT := Lib.hid (out_kind (q := c.q) (no := no) hc hw)
  obtain ⟨-, hrn, -⟩ := Stp.check_zero hc
  obtain ⟨ht0, hi, hf, hj⟩ := rng_of hrn
  have HPOS := Lib.hid hg.some
  obtain ⟨-, -, q11⟩ := (h.below B2.out).head
  have hlt' := who_zero (by omega) hw
  obtain ⟨t, ht⟩ : ∃ t : Nat, x.t = (t : Int) := ⟨x.t.toNat, by omega⟩
  have hlt : t < G.thr.length := by omega
  have HT := Lib.hid ht
  clear ht hlt'
  clear h hg hc hw hrn
  have HK := Lib.hid hk
  obtain ⟨r, hr⟩ : ∃ r, r = G.kind c.q x no x.k.toNat := ⟨_, rfl⟩
  have HR : Hid (G.out c.q x no = r) := Lib.hid (by rw [hr, HOUT.out]; skip)
  have CT := Lib.hid fun (W : World) (hb : Below w.heap.size w W) => gask_any (HG.out.below hb) HGD.out x c.q no t HT.out hlt hi hj (by omega)
  rw [← hr] at CT
  clear hr
  go_enter Try.func11, Try.ntmps11
  go_wp2_with (first
    | (refine gate_guard (by rfl) ?_; refine wpList_load_row rfl 39 _ rfl w.heap.size rfl 39 x.cells (0, 0) _ ?_ Try.underlying39 rfl (by kernel_rfl) ?_; exact Hid.out (by assumption))
    | (go_at_call 23; refine (gis_yes g _ _ _ HPOS.out _ q11).mono ?_; rintro e w4 ⟨rfl, rfl⟩)
    | (go_at_call 25; refine (ccheck_any x _).mono ?_; rw [HC.out]; rintro e w5 ⟨rfl, hb5⟩; have B5 : Hid (Below w.heap.size w w5) := Lib.hid (below_next B2.out hb5); have S5 := Lib.hid (keep hb5 S2.out); have A5 := Lib.hid (keep hb5 A2.out); clear hb5 S2)
    | (go_at_call 26; refine (gwho_any (HG.out.below B5.out) x ht0).mono ?_; rw [HW.out]; rintro e w6 ⟨rfl, hb6⟩; have B6 : Hid (Below w.heap.size w w6) := Lib.hid (below_next B5.out hb6); have S6 := Lib.hid (keep hb6 S5.out); have A6 := Lib.hid (keep hb6 A5.out); clear hb6 S5; have s0 : w6.cell? ⟨w.heap.size, 0, none⟩ = some (.int .i64 x.k) := cell_of_row _ _ _ _ _ _ S6.out; have s1 : w6.cell? ⟨w.heap.size, 1, none⟩ = some (.int .i64 x.t) := cell_of_row _ _ _ _ _ _ S6.out; have s6 : w6.cell? ⟨w.heap.size, 6, none⟩ = some (.int .i64 x.n) := cell_of_row _ _ _ _ _ _ S6.out; try rw [HK.out] at s0)
    | (go_at_call 32; refine (CT.out _ B6.out).mono ?_; rintro e w7 ⟨rfl, h7⟩; have A7 := Lib.hid (h7.frm.keep HFP.out (by omega) A6.out); have H7 := Lib.hid h7; clear h7)
    | (refine wpList_store_row rfl 36 _ _ rfl (w.heap.size + 1) r.1.cells rfl rfl 36 _ A7.out (by kernel_rfl) rfl (by kernel_rfl) ?_))
  exact bodyPost_ret (v := .agg r.1.cells) (results_cell_row rfl _ _ (w.heap.size + 1) 36 r.1.cells _ _ rfl (heap_setRow_same _ A7.out) Try.underlying36 rfl (by kernel_rfl)) rfl
    (by rw [HR.out]; exact ⟨rfl, H7.out.wrap B6.out HFP.out (K := w.heap.size + 1) (by omega) (heap_lt A6.out) (Frm.setRow (fp := [w.heap.size + 1]) _ (List.mem_singleton.2 rfl) _)⟩)
set_option maxHeartbeats 8000000 in
set_option maxRecDepth 100000 in
theorem gdo_3 (h : Gx 60 72 w g c G tb tcap nb ncap hv nv) (hg : G.Good) (x : Stp) (no : Int) (hc : x.check = 0) (hw : G.who x = 0) (hk : x.k = 3) :
    Calls Try.prog 11 #[.pointer (some ⟨g, 0, none⟩), .agg x.cells, .int .i64 no] w fun e w' => DoR w w' g c (G.out c.q x no) (fpOf g tb nb hv nv) e := by
  have B2 := Lib.hid (below_new (below_alloc0 w (.cells x.cells 39)) (.cells zAns 36))
  have S2 := Lib.hid (keep_alloc (.cells zAns 36) (heap_alloc_new w (.cells x.cells 39)))
  have A2 := Lib.hid (heap_two w (.cells x.cells 39) (.cells zAns 36))
  have HG := Lib.hid h
  have HGD := Lib.hid hg
  have HFP := Lib.hid h.lt
  have HC := Lib.hid hc
  have HW := Lib.hid hw
  have HOUT := Lib.hid (out_kind (q := c.q) (no := no) hc hw)
  obtain ⟨-, hrn, -⟩ := Stp.check_zero hc
  obtain ⟨ht0, hi, hf, hj⟩ := rng_of hrn
  have HPOS := Lib.hid hg.some
  obtain ⟨-, -, q11⟩ := (h.below B2.out).head
  have hlt' := who_zero (by omega) hw
  obtain ⟨t, ht⟩ : ∃ t : Nat, x.t = (t : Int) := ⟨x.t.toNat, by omega⟩
  have hlt : t < G.thr.length := by omega
  have HT := Lib.hid ht
  clear ht hlt'
  clear h hg hc hw hrn
  have HK := Lib.hid hk
  obtain ⟨r, hr⟩ : ∃ r, r = G.kind c.q x no 3 := ⟨_, rfl⟩
  have HR : Hid (G.out c.q x no = r) := Lib.hid (by rw [hr, HOUT.out]; rw [show x.k.toNat = 3 by omega])
  have CT := Lib.hid fun (W : World) (hb : Below w.heap.size w W) => gasked_3 (HG.out.below hb) HGD.out x no hk t HT.out hlt
  rw [← hr] at CT
  clear hr
  go_enter Try.func11, Try.ntmps11
  go_wp2_with (first
    | (refine gate_guard (by rfl) ?_; refine wpList_load_row rfl 39 _ rfl w.heap.size rfl 39 x.cells (0, 0) _ ?_ Try.underlying39 rfl (by kernel_rfl) ?_; exact Hid.out (by assumption))
    | (go_at_call 23; refine (gis_yes g _ _ _ HPOS.out _ q11).mono ?_; rintro e w4 ⟨rfl, rfl⟩)
    | (go_at_call 25; refine (ccheck_any x _).mono ?_; rw [HC.out]; rintro e w5 ⟨rfl, hb5⟩; have B5 : Hid (Below w.heap.size w w5) := Lib.hid (below_next B2.out hb5); have S5 := Lib.hid (keep hb5 S2.out); have A5 := Lib.hid (keep hb5 A2.out); clear hb5 S2)
    | (go_at_call 26; refine (gwho_any (HG.out.below B5.out) x ht0).mono ?_; rw [HW.out]; rintro e w6 ⟨rfl, hb6⟩; have B6 : Hid (Below w.heap.size w w6) := Lib.hid (below_next B5.out hb6); have S6 := Lib.hid (keep hb6 S5.out); have A6 := Lib.hid (keep hb6 A5.out); clear hb6 S5; have s0 : w6.cell? ⟨w.heap.size, 0, none⟩ = some (.int .i64 x.k) := cell_of_row _ _ _ _ _ _ S6.out; have s1 : w6.cell? ⟨w.heap.size, 1, none⟩ = some (.int .i64 x.t) := cell_of_row _ _ _ _ _ _ S6.out; have s6 : w6.cell? ⟨w.heap.size, 6, none⟩ = some (.int .i64 x.n) := cell_of_row _ _ _ _ _ _ S6.out; try rw [HK.out] at s0)
    | (go_at_call 27; refine (CT.out _ B6.out).mono ?_; rintro e w7 ⟨rfl, h7⟩; have A7 := Lib.hid (h7.frm.keep HFP.out (by omega) A6.out); have H7 := Lib.hid h7; clear h7)
    | (refine wpList_store_row rfl 36 _ _ rfl (w.heap.size + 1) r.1.cells rfl rfl 36 _ A7.out (by kernel_rfl) rfl (by kernel_rfl) ?_))
  exact bodyPost_ret (v := .agg r.1.cells) (results_cell_row rfl _ _ (w.heap.size + 1) 36 r.1.cells _ _ rfl (heap_setRow_same _ A7.out) Try.underlying36 rfl (by kernel_rfl)) rfl
    (by rw [HR.out]; exact ⟨rfl, H7.out.wrap B6.out HFP.out (K := w.heap.size + 1) (by omega) (heap_lt A6.out) (Frm.setRow (fp := [w.heap.size + 1]) _ (List.mem_singleton.2 rfl) _)⟩)
set_option maxHeartbeats 8000000 in
set_option maxRecDepth 100000 in
theorem gdo_15 (h : Gx 60 72 w g c G tb tcap nb ncap hv nv) (hg : G.Good) (x : Stp) (no : Int) (hc : x.check = 0) (hw : G.who x = 0) (hk : x.k = 15) :
    Calls Try.prog 11 #[.pointer (some ⟨g, 0, none⟩), .agg x.cells, .int .i64 no] w fun e w' => DoR w w' g c (G.out c.q x no) (fpOf g tb nb hv nv) e := by
  have B2 := Lib.hid (below_new (below_alloc0 w (.cells x.cells 39)) (.cells zAns 36))
  have S2 := Lib.hid (keep_alloc (.cells zAns 36) (heap_alloc_new w (.cells x.cells 39)))
  have A2 := Lib.hid (heap_two w (.cells x.cells 39) (.cells zAns 36))
  have HG := Lib.hid h
  have HGD := Lib.hid hg
  have HFP := Lib.hid h.lt
  have HC := Lib.hid hc
  have HW := Lib.hid hw
  have HOUT := Lib.hid (out_kind (q := c.q) (no := no) hc hw)
  obtain ⟨-, hrn, -⟩ := Stp.check_zero hc
  obtain ⟨ht0, hi, hf, hj⟩ := rng_of hrn
  have HPOS := Lib.hid hg.some
  obtain ⟨-, -, q11⟩ := (h.below B2.out).head
  have hlt' := who_zero (by omega) hw
  obtain ⟨t, ht⟩ : ∃ t : Nat, x.t = (t : Int) := ⟨x.t.toNat, by omega⟩
  have hlt : t < G.thr.length := by omega
  have HT := Lib.hid ht
  clear ht hlt'
  clear h hg hc hw hrn
  have HK := Lib.hid hk
  obtain ⟨r, hr⟩ : ∃ r, r = G.kind c.q x no 15 := ⟨_, rfl⟩
  have HR : Hid (G.out c.q x no = r) := Lib.hid (by rw [hr, HOUT.out]; rw [show x.k.toNat = 15 by omega])
  have CT := Lib.hid fun (W : World) (hb : Below w.heap.size w W) => gasked_15 (HG.out.below hb) x no hk
  rw [← hr] at CT
  clear hr
  go_enter Try.func11, Try.ntmps11
  go_wp2_with (first
    | (refine gate_guard (by rfl) ?_; refine wpList_load_row rfl 39 _ rfl w.heap.size rfl 39 x.cells (0, 0) _ ?_ Try.underlying39 rfl (by kernel_rfl) ?_; exact Hid.out (by assumption))
    | (go_at_call 23; refine (gis_yes g _ _ _ HPOS.out _ q11).mono ?_; rintro e w4 ⟨rfl, rfl⟩)
    | (go_at_call 25; refine (ccheck_any x _).mono ?_; rw [HC.out]; rintro e w5 ⟨rfl, hb5⟩; have B5 : Hid (Below w.heap.size w w5) := Lib.hid (below_next B2.out hb5); have S5 := Lib.hid (keep hb5 S2.out); have A5 := Lib.hid (keep hb5 A2.out); clear hb5 S2)
    | (go_at_call 26; refine (gwho_any (HG.out.below B5.out) x ht0).mono ?_; rw [HW.out]; rintro e w6 ⟨rfl, hb6⟩; have B6 : Hid (Below w.heap.size w w6) := Lib.hid (below_next B5.out hb6); have S6 := Lib.hid (keep hb6 S5.out); have A6 := Lib.hid (keep hb6 A5.out); clear hb6 S5; have s0 : w6.cell? ⟨w.heap.size, 0, none⟩ = some (.int .i64 x.k) := cell_of_row _ _ _ _ _ _ S6.out; have s1 : w6.cell? ⟨w.heap.size, 1, none⟩ = some (.int .i64 x.t) := cell_of_row _ _ _ _ _ _ S6.out; have s6 : w6.cell? ⟨w.heap.size, 6, none⟩ = some (.int .i64 x.n) := cell_of_row _ _ _ _ _ _ S6.out; try rw [HK.out] at s0)
    | (go_at_call 27; refine (CT.out _ B6.out).mono ?_; rintro e w7 ⟨rfl, h7⟩; have A7 := Lib.hid (h7.frm.keep HFP.out (by omega) A6.out); have H7 := Lib.hid h7; clear h7)
    | (refine wpList_store_row rfl 36 _ _ rfl (w.heap.size + 1) r.1.cells rfl rfl 36 _ A7.out (by kernel_rfl) rfl (by kernel_rfl) ?_))
  exact bodyPost_ret (v := .agg r.1.cells) (results_cell_row rfl _ _ (w.heap.size + 1) 36 r.1.cells _ _ rfl (heap_setRow_same _ A7.out) Try.underlying36 rfl (by kernel_rfl)) rfl
    (by rw [HR.out]; exact ⟨rfl, H7.out.wrap B6.out HFP.out (K := w.heap.size + 1) (by omega) (heap_lt A6.out) (Frm.setRow (fp := [w.heap.size + 1]) _ (List.mem_singleton.2 rfl) _)⟩)
set_option maxHeartbeats 8000000 in
set_option maxRecDepth 100000 in
theorem gdo_17 (h : Gx 60 72 w g c G tb tcap nb ncap hv nv) (hg : G.Good) (x : Stp) (no : Int) (hc : x.check = 0) (hw : G.who x = 0) (hk : x.k = 17) :
    Calls Try.prog 11 #[.pointer (some ⟨g, 0, none⟩), .agg x.cells, .int .i64 no] w fun e w' => DoR w w' g c (G.out c.q x no) (fpOf g tb nb hv nv) e := by
  have B2 := Lib.hid (below_new (below_alloc0 w (.cells x.cells 39)) (.cells zAns 36))
  have S2 := Lib.hid (keep_alloc (.cells zAns 36) (heap_alloc_new w (.cells x.cells 39)))
  have A2 := Lib.hid (heap_two w (.cells x.cells 39) (.cells zAns 36))
  have HG := Lib.hid h
  have HGD := Lib.hid hg
  have HFP := Lib.hid h.lt
  have HC := Lib.hid hc
  have HW := Lib.hid hw
  have HOUT := Lib.hid (out_kind (q := c.q) (no := no) hc hw)
  obtain ⟨-, hrn, -⟩ := Stp.check_zero hc
  obtain ⟨ht0, hi, hf, hj⟩ := rng_of hrn
  have HPOS := Lib.hid hg.some
  obtain ⟨-, -, q11⟩ := (h.below B2.out).head
  clear h hg hc hw hrn
  have HK := Lib.hid hk
  obtain ⟨r, hr⟩ : ∃ r, r = G.kind c.q x no 17 := ⟨_, rfl⟩
  have HR : Hid (G.out c.q x no = r) := Lib.hid (by rw [hr, HOUT.out]; rw [show x.k.toNat = 17 by omega])
  have CT := Lib.hid fun (W : World) (hb : Below w.heap.size w W) => gasked_17 (HG.out.below hb) x no hk
  rw [← hr] at CT
  clear hr
  go_enter Try.func11, Try.ntmps11
  go_wp2_with (first
    | (refine gate_guard (by rfl) ?_; refine wpList_load_row rfl 39 _ rfl w.heap.size rfl 39 x.cells (0, 0) _ ?_ Try.underlying39 rfl (by kernel_rfl) ?_; exact Hid.out (by assumption))
    | (go_at_call 23; refine (gis_yes g _ _ _ HPOS.out _ q11).mono ?_; rintro e w4 ⟨rfl, rfl⟩)
    | (go_at_call 25; refine (ccheck_any x _).mono ?_; rw [HC.out]; rintro e w5 ⟨rfl, hb5⟩; have B5 : Hid (Below w.heap.size w w5) := Lib.hid (below_next B2.out hb5); have S5 := Lib.hid (keep hb5 S2.out); have A5 := Lib.hid (keep hb5 A2.out); clear hb5 S2)
    | (go_at_call 26; refine (gwho_any (HG.out.below B5.out) x ht0).mono ?_; rw [HW.out]; rintro e w6 ⟨rfl, hb6⟩; have B6 : Hid (Below w.heap.size w w6) := Lib.hid (below_next B5.out hb6); have S6 := Lib.hid (keep hb6 S5.out); have A6 := Lib.hid (keep hb6 A5.out); clear hb6 S5; have s0 : w6.cell? ⟨w.heap.size, 0, none⟩ = some (.int .i64 x.k) := cell_of_row _ _ _ _ _ _ S6.out; have s1 : w6.cell? ⟨w.heap.size, 1, none⟩ = some (.int .i64 x.t) := cell_of_row _ _ _ _ _ _ S6.out; have s6 : w6.cell? ⟨w.heap.size, 6, none⟩ = some (.int .i64 x.n) := cell_of_row _ _ _ _ _ _ S6.out; try rw [HK.out] at s0)
    | (go_at_call 27; refine (CT.out _ B6.out).mono ?_; rintro e w7 ⟨rfl, h7⟩; have A7 := Lib.hid (h7.frm.keep HFP.out (by omega) A6.out); have H7 := Lib.hid h7; clear h7)
    | (refine wpList_store_row rfl 36 _ _ rfl (w.heap.size + 1) r.1.cells rfl rfl 36 _ A7.out (by kernel_rfl) rfl (by kernel_rfl) ?_))
  exact bodyPost_ret (v := .agg r.1.cells) (results_cell_row rfl _ _ (w.heap.size + 1) 36 r.1.cells _ _ rfl (heap_setRow_same _ A7.out) Try.underlying36 rfl (by kernel_rfl)) rfl
    (by rw [HR.out]; exact ⟨rfl, H7.out.wrap B6.out HFP.out (K := w.heap.size + 1) (by omega) (heap_lt A6.out) (Frm.setRow (fp := [w.heap.size + 1]) _ (List.mem_singleton.2 rfl) _)⟩)
set_option maxHeartbeats 8000000 in
set_option maxRecDepth 100000 in
theorem gdo_14 (h : Gx 60 72 w g c G tb tcap nb ncap hv nv) (hg : G.Good) (x : Stp) (no : Int) (hc : x.check = 0) (hw : G.who x = 0) (hk : x.k = 14) :
    Calls Try.prog 11 #[.pointer (some ⟨g, 0, none⟩), .agg x.cells, .int .i64 no] w fun e w' => DoR w w' g c (G.out c.q x no) (fpOf g tb nb hv nv) e := by
  have B2 := Lib.hid (below_new (below_alloc0 w (.cells x.cells 39)) (.cells zAns 36))
  have S2 := Lib.hid (keep_alloc (.cells zAns 36) (heap_alloc_new w (.cells x.cells 39)))
  have A2 := Lib.hid (heap_two w (.cells x.cells 39) (.cells zAns 36))
  have HG := Lib.hid h
  have HGD := Lib.hid hg
  have HFP := Lib.hid h.lt
  have HC := Lib.hid hc
  have HW := Lib.hid hw
  have HOUT := Lib.hid (out_kind (q := c.q) (no := no) hc hw)
  obtain ⟨-, hrn, -⟩ := Stp.check_zero hc
  obtain ⟨ht0, hi, hf, hj⟩ := rng_of hrn
  have HPOS := Lib.hid hg.some
  obtain ⟨-, -, q11⟩ := (h.below B2.out).head
  have hlt' := who_zero (by omega) hw
  obtain ⟨t, ht⟩ : ∃ t : Nat, x.t = (t : Int) := ⟨x.t.toNat, by omega⟩
  have hlt : t < G.thr.length := by omega
  have HT := Lib.hid ht
  clear ht hlt'
  clear h hg hc hw hrn
  have HK := Lib.hid hk
  have HR : Hid (G.out c.q x no = (Ans.zero, G)) := Lib.hid (by rw [HOUT.out, show x.k.toNat = 14 by omega] <;> rfl)
  go_enter Try.func11, Try.ntmps11
  go_wp2_with (first
    | (refine gate_guard (by rfl) ?_; refine wpList_load_row rfl 39 _ rfl w.heap.size rfl 39 x.cells (0, 0) _ ?_ Try.underlying39 rfl (by kernel_rfl) ?_; exact Hid.out (by assumption))
    | (go_at_call 23; refine (gis_yes g _ _ _ HPOS.out _ q11).mono ?_; rintro e w4 ⟨rfl, rfl⟩)
    | (go_at_call 25; refine (ccheck_any x _).mono ?_; rw [HC.out]; rintro e w5 ⟨rfl, hb5⟩; have B5 : Hid (Below w.heap.size w w5) := Lib.hid (below_next B2.out hb5); have S5 := Lib.hid (keep hb5 S2.out); have A5 := Lib.hid (keep hb5 A2.out); clear hb5 S2)
    | (go_at_call 26; refine (gwho_any (HG.out.below B5.out) x ht0).mono ?_; rw [HW.out]; rintro e w6 ⟨rfl, hb6⟩; have B6 : Hid (Below w.heap.size w w6) := Lib.hid (below_next B5.out hb6); have S6 := Lib.hid (keep hb6 S5.out); have A6 := Lib.hid (keep hb6 A5.out); clear hb6 S5; have s0 : w6.cell? ⟨w.heap.size, 0, none⟩ = some (.int .i64 x.k) := cell_of_row _ _ _ _ _ _ S6.out; have s1 : w6.cell? ⟨w.heap.size, 1, none⟩ = some (.int .i64 x.t) := cell_of_row _ _ _ _ _ _ S6.out; have s6 : w6.cell? ⟨w.heap.size, 6, none⟩ = some (.int .i64 x.n) := cell_of_row _ _ _ _ _ _ S6.out; try rw [HK.out] at s0)
    | (refine wpList_store_row rfl 36 _ _ rfl (w.heap.size + 1) zAns rfl rfl 36 _ A6.out (by kernel_rfl) rfl (by kernel_rfl) ?_))
  exact bodyPost_ret (v := .agg zAns) (results_cell_row rfl _ _ (w.heap.size + 1) 36 zAns _ _ rfl (heap_setRow_same _ A6.out) Try.underlying36 rfl (by kernel_rfl)) rfl
    (by rw [HR.out]; exact ⟨rfl, GTo.same HG.out (below_setRow (g := w.heap.size + 1) B6.out (by omega) _)⟩)
set_option maxHeartbeats 8000000 in
set_option maxRecDepth 100000 in
theorem gdo_13 (h : Gx 60 72 w g c G tb tcap nb ncap hv nv) (hg : G.Good) (x : Stp) (no : Int) (hc : x.check = 0) (hw : G.who x = 0) (hk : x.k = 13) :
    Calls Try.prog 11 #[.pointer (some ⟨g, 0, none⟩), .agg x.cells, .int .i64 no] w fun e w' => DoR w w' g c (G.out c.q x no) (fpOf g tb nb hv nv) e := by
  have B2 := Lib.hid (below_new (below_alloc0 w (.cells x.cells 39)) (.cells zAns 36))
  have S2 := Lib.hid (keep_alloc (.cells zAns 36) (heap_alloc_new w (.cells x.cells 39)))
  have A2 := Lib.hid (heap_two w (.cells x.cells 39) (.cells zAns 36))
  have HG := Lib.hid h
  have HGD := Lib.hid hg
  have HFP := Lib.hid h.lt
  have HC := Lib.hid hc
  have HW := Lib.hid hw
  have HOUT := Lib.hid (out_kind (q := c.q) (no := no) hc hw)
  obtain ⟨-, hrn, -⟩ := Stp.check_zero hc
  obtain ⟨ht0, hi, hf, hj⟩ := rng_of hrn
  have HPOS := Lib.hid hg.some
  obtain ⟨-, -, q11⟩ := (h.below B2.out).head
  have hlt' := who_zero (by omega) hw
  obtain ⟨t, ht⟩ : ∃ t : Nat, x.t = (t : Int) := ⟨x.t.toNat, by omega⟩
  have hlt : t < G.thr.length := by omega
  have HT := Lib.hid ht
  clear ht hlt'
  clear h hg hc hw hrn
  have HK := Lib.hid hk
  obtain ⟨b1, hb1⟩ : ∃ b1, b1 = (decide (x.n < 1) || decide (64 < x.n)) := ⟨_, rfl⟩
  have HB1 := Lib.hid hb1
  have HR : Hid (G.out c.q x no = if b1 then (Gr.err 4, G) else (Ans.zero, G)) := Lib.hid (by rw [HOUT.out, hb1, show x.k.toNat = 13 by omega] <;> rfl)
  clear hb1
  cases b1
  · go_enter Try.func11, Try.ntmps11
    go_wp2_with (first
      | (refine gate_guard (by rfl) ?_; refine wpList_load_row rfl 39 _ rfl w.heap.size rfl 39 x.cells (0, 0) _ ?_ Try.underlying39 rfl (by kernel_rfl) ?_; exact Hid.out (by assumption))
      | (go_at_call 23; refine (gis_yes g _ _ _ HPOS.out _ q11).mono ?_; rintro e w4 ⟨rfl, rfl⟩)
      | (go_at_call 25; refine (ccheck_any x _).mono ?_; rw [HC.out]; rintro e w5 ⟨rfl, hb5⟩; have B5 : Hid (Below w.heap.size w w5) := Lib.hid (below_next B2.out hb5); have S5 := Lib.hid (keep hb5 S2.out); have A5 := Lib.hid (keep hb5 A2.out); clear hb5 S2)
      | (go_at_call 26; refine (gwho_any (HG.out.below B5.out) x ht0).mono ?_; rw [HW.out]; rintro e w6 ⟨rfl, hb6⟩; have B6 : Hid (Below w.heap.size w w6) := Lib.hid (below_next B5.out hb6); have S6 := Lib.hid (keep hb6 S5.out); have A6 := Lib.hid (keep hb6 A5.out); clear hb6 S5; have s0 : w6.cell? ⟨w.heap.size, 0, none⟩ = some (.int .i64 x.k) := cell_of_row _ _ _ _ _ _ S6.out; have s1 : w6.cell? ⟨w.heap.size, 1, none⟩ = some (.int .i64 x.t) := cell_of_row _ _ _ _ _ _ S6.out; have s6 : w6.cell? ⟨w.heap.size, 6, none⟩ = some (.int .i64 x.n) := cell_of_row _ _ _ _ _ _ S6.out; try rw [HK.out] at s0)
      | (go_at_call 33; refine (goutside_b HB1.out _).mono ?_; rintro e w7 ⟨rfl, rfl⟩)
      | (refine wpList_store_row rfl 36 _ _ rfl (w.heap.size + 1) zAns rfl rfl 36 _ A6.out (by kernel_rfl) rfl (by kernel_rfl) ?_))
    exact bodyPost_ret (v := .agg zAns) (results_cell_row rfl _ _ (w.heap.size + 1) 36 zAns _ _ rfl (heap_setRow_same _ A6.out) Try.underlying36 rfl (by kernel_rfl)) rfl
      (by rw [HR.out]; exact ⟨rfl, GTo.same HG.out (below_setRow (g := w.heap.size + 1) B6.out (by omega) _)⟩)
  · go_enter Try.func11, Try.ntmps11
    go_wp2_with (first
      | (refine gate_guard (by rfl) ?_; refine wpList_load_row rfl 39 _ rfl w.heap.size rfl 39 x.cells (0, 0) _ ?_ Try.underlying39 rfl (by kernel_rfl) ?_; exact Hid.out (by assumption))
      | (go_at_call 23; refine (gis_yes g _ _ _ HPOS.out _ q11).mono ?_; rintro e w4 ⟨rfl, rfl⟩)
      | (go_at_call 25; refine (ccheck_any x _).mono ?_; rw [HC.out]; rintro e w5 ⟨rfl, hb5⟩; have B5 : Hid (Below w.heap.size w w5) := Lib.hid (below_next B2.out hb5); have S5 := Lib.hid (keep hb5 S2.out); have A5 := Lib.hid (keep hb5 A2.out); clear hb5 S2)
      | (go_at_call 26; refine (gwho_any (HG.out.below B5.out) x ht0).mono ?_; rw [HW.out]; rintro e w6 ⟨rfl, hb6⟩; have B6 : Hid (Below w.heap.size w w6) := Lib.hid (below_next B5.out hb6); have S6 := Lib.hid (keep hb6 S5.out); have A6 := Lib.hid (keep hb6 A5.out); clear hb6 S5; have s0 : w6.cell? ⟨w.heap.size, 0, none⟩ = some (.int .i64 x.k) := cell_of_row _ _ _ _ _ _ S6.out; have s1 : w6.cell? ⟨w.heap.size, 1, none⟩ = some (.int .i64 x.t) := cell_of_row _ _ _ _ _ _ S6.out; have s6 : w6.cell? ⟨w.heap.size, 6, none⟩ = some (.int .i64 x.n) := cell_of_row _ _ _ _ _ _ S6.out; try rw [HK.out] at s0)
      | (go_at_call 33; refine (goutside_b HB1.out _).mono ?_; rintro e w7 ⟨rfl, rfl⟩)
      | (go_at_call 24; refine (gfail_any 4 _).mono ?_; rintro e w8 ⟨rfl, hb8⟩; have B8 : Hid (Below w.heap.size w w8) := Lib.hid (below_next B6.out hb8); have A8 := Lib.hid (keep hb8 A6.out); clear hb8)
      | (refine wpList_store_row rfl 36 _ _ rfl (w.heap.size + 1) (Gr.err 4).cells rfl rfl 36 _ A8.out (by kernel_rfl) rfl (by kernel_rfl) ?_))
    exact bodyPost_ret (v := .agg (Gr.err 4).cells) (results_cell_row rfl _ _ (w.heap.size + 1) 36 (Gr.err 4).cells _ _ rfl (heap_setRow_same _ A8.out) Try.underlying36 rfl (by kernel_rfl)) rfl
      (by rw [HR.out]; exact ⟨rfl, GTo.same HG.out (below_setRow (g := w.heap.size + 1) B8.out (by omega) _)⟩)
set_option maxHeartbeats 8000000 in
set_option maxRecDepth 100000 in
theorem gdo_16 (h : Gx 60 72 w g c G tb tcap nb ncap hv nv) (hg : G.Good) (x : Stp) (no : Int) (hc : x.check = 0) (hw : G.who x = 0) (hk : x.k = 16) :
    Calls Try.prog 11 #[.pointer (some ⟨g, 0, none⟩), .agg x.cells, .int .i64 no] w fun e w' => DoR w w' g c (G.out c.q x no) (fpOf g tb nb hv nv) e := by
  have B2 := Lib.hid (below_new (below_alloc0 w (.cells x.cells 39)) (.cells zAns 36))
  have S2 := Lib.hid (keep_alloc (.cells zAns 36) (heap_alloc_new w (.cells x.cells 39)))
  have A2 := Lib.hid (heap_two w (.cells x.cells 39) (.cells zAns 36))
  have HG := Lib.hid h
  have HGD := Lib.hid hg
  have HFP := Lib.hid h.lt
  have HC := Lib.hid hc
  have HW := Lib.hid hw
  have HOUT := Lib.hid (out_kind (q := c.q) (no := no) hc hw)
  obtain ⟨-, hrn, -⟩ := Stp.check_zero hc
  obtain ⟨ht0, hi, hf, hj⟩ := rng_of hrn
  have HPOS := Lib.hid hg.some
  obtain ⟨-, -, q11⟩ := (h.below B2.out).head
  clear h hg hc hw hrn
  have HK := Lib.hid hk
  obtain ⟨b1, hb1⟩ : ∃ b1, b1 = (decide (x.n < 1) || decide (64 < x.n)) := ⟨_, rfl⟩
  have HB1 := Lib.hid hb1
  have HR : Hid (G.out c.q x no = if b1 then (Gr.err 4, G) else (Ans.zero, G)) := Lib.hid (by rw [HOUT.out, hb1, show x.k.toNat = 16 by omega] <;> rfl)
  clear hb1
  cases b1
  · go_enter Try.func11, Try.ntmps11
    go_wp2_with (first
      | (refine gate_guard (by rfl) ?_; refine wpList_load_row rfl 39 _ rfl w.heap.size rfl 39 x.cells (0, 0) _ ?_ Try.underlying39 rfl (by kernel_rfl) ?_; exact Hid.out (by assumption))
      | (go_at_call 23; refine (gis_yes g _ _ _ HPOS.out _ q11).mono ?_; rintro e w4 ⟨rfl, rfl⟩)
      | (go_at_call 25; refine (ccheck_any x _).mono ?_; rw [HC.out]; rintro e w5 ⟨rfl, hb5⟩; have B5 : Hid (Below w.heap.size w w5) := Lib.hid (below_next B2.out hb5); have S5 := Lib.hid (keep hb5 S2.out); have A5 := Lib.hid (keep hb5 A2.out); clear hb5 S2)
      | (go_at_call 26; refine (gwho_any (HG.out.below B5.out) x ht0).mono ?_; rw [HW.out]; rintro e w6 ⟨rfl, hb6⟩; have B6 : Hid (Below w.heap.size w w6) := Lib.hid (below_next B5.out hb6); have S6 := Lib.hid (keep hb6 S5.out); have A6 := Lib.hid (keep hb6 A5.out); clear hb6 S5; have s0 : w6.cell? ⟨w.heap.size, 0, none⟩ = some (.int .i64 x.k) := cell_of_row _ _ _ _ _ _ S6.out; have s1 : w6.cell? ⟨w.heap.size, 1, none⟩ = some (.int .i64 x.t) := cell_of_row _ _ _ _ _ _ S6.out; have s6 : w6.cell? ⟨w.heap.size, 6, none⟩ = some (.int .i64 x.n) := cell_of_row _ _ _ _ _ _ S6.out; try rw [HK.out] at s0)
      | (go_at_call 33; refine (goutside_b HB1.out _).mono ?_; rintro e w7 ⟨rfl, rfl⟩)
      | (refine wpList_store_row rfl 36 _ _ rfl (w.heap.size + 1) zAns rfl rfl 36 _ A6.out (by kernel_rfl) rfl (by kernel_rfl) ?_))
    exact bodyPost_ret (v := .agg zAns) (results_cell_row rfl _ _ (w.heap.size + 1) 36 zAns _ _ rfl (heap_setRow_same _ A6.out) Try.underlying36 rfl (by kernel_rfl)) rfl
      (by rw [HR.out]; exact ⟨rfl, GTo.same HG.out (below_setRow (g := w.heap.size + 1) B6.out (by omega) _)⟩)
  · go_enter Try.func11, Try.ntmps11
    go_wp2_with (first
      | (refine gate_guard (by rfl) ?_; refine wpList_load_row rfl 39 _ rfl w.heap.size rfl 39 x.cells (0, 0) _ ?_ Try.underlying39 rfl (by kernel_rfl) ?_; exact Hid.out (by assumption))
      | (go_at_call 23; refine (gis_yes g _ _ _ HPOS.out _ q11).mono ?_; rintro e w4 ⟨rfl, rfl⟩)
      | (go_at_call 25; refine (ccheck_any x _).mono ?_; rw [HC.out]; rintro e w5 ⟨rfl, hb5⟩; have B5 : Hid (Below w.heap.size w w5) := Lib.hid (below_next B2.out hb5); have S5 := Lib.hid (keep hb5 S2.out); have A5 := Lib.hid (keep hb5 A2.out); clear hb5 S2)
      | (go_at_call 26; refine (gwho_any (HG.out.below B5.out) x ht0).mono ?_; rw [HW.out]; rintro e w6 ⟨rfl, hb6⟩; have B6 : Hid (Below w.heap.size w w6) := Lib.hid (below_next B5.out hb6); have S6 := Lib.hid (keep hb6 S5.out); have A6 := Lib.hid (keep hb6 A5.out); clear hb6 S5; have s0 : w6.cell? ⟨w.heap.size, 0, none⟩ = some (.int .i64 x.k) := cell_of_row _ _ _ _ _ _ S6.out; have s1 : w6.cell? ⟨w.heap.size, 1, none⟩ = some (.int .i64 x.t) := cell_of_row _ _ _ _ _ _ S6.out; have s6 : w6.cell? ⟨w.heap.size, 6, none⟩ = some (.int .i64 x.n) := cell_of_row _ _ _ _ _ _ S6.out; try rw [HK.out] at s0)
      | (go_at_call 33; refine (goutside_b HB1.out _).mono ?_; rintro e w7 ⟨rfl, rfl⟩)
      | (go_at_call 24; refine (gfail_any 4 _).mono ?_; rintro e w8 ⟨rfl, hb8⟩; have B8 : Hid (Below w.heap.size w w8) := Lib.hid (below_next B6.out hb8); have A8 := Lib.hid (keep hb8 A6.out); clear hb8)
      | (refine wpList_store_row rfl 36 _ _ rfl (w.heap.size + 1) (Gr.err 4).cells rfl rfl 36 _ A8.out (by kernel_rfl) rfl (by kernel_rfl) ?_))
    exact bodyPost_ret (v := .agg (Gr.err 4).cells) (results_cell_row rfl _ _ (w.heap.size + 1) 36 (Gr.err 4).cells _ _ rfl (heap_setRow_same _ A8.out) Try.underlying36 rfl (by kernel_rfl)) rfl
      (by rw [HR.out]; exact ⟨rfl, GTo.same HG.out (below_setRow (g := w.heap.size + 1) B8.out (by omega) _)⟩)
end
end Go.Proofs.Ytaefcmmjeloccaa
