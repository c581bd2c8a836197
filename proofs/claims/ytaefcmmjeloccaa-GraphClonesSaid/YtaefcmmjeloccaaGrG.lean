/- The graph's Do: start, stop. -/
import Derived.Test.YtaefcmmjeloccaaGrF
namespace Go.Proofs.Ytaefcmmjeloccaa
open Go.RowKit

section
variable {w : World} {g : Nat} {c : Cfg} {G : Gr} {tb tcap nb ncap : Nat} {hv nv : List Value}
set_option maxHeartbeats 8000000 in
set_option maxRecDepth 100000 in
theorem gdo_1 (h : Gx 60 72 w g c G tb tcap nb ncap hv nv) (hg : G.Good) (x : Stp) (no : Int) (hc : x.check = 0) (hw : G.who x = 0) (hk : x.k = 1) :
    Calls Try.prog 11 #[.pointer (some ⟨g, 0, none⟩), .agg x.cells, .int .i64 no] w fun e w' => DoR w w' g c (G.out c.q x no) (fpOf g tb nb hv nv) e := by
  have B2 := Lib.hid (below_new (below_alloc0 w (.cells x.cells 39)) (.cells zAns 36))
  have S2 := Lib.hid (keep_alloc (.cells zAns 36) (heap_alloc_new w (.cells x.cells 39)))
  have A2 := Lib.hid (heap_two w (.cells x.cells 39) (.cells zAns 36))
  have HG := Lib.hid h
  have HGD := Lib.hid hg
  have HFP := Lib.hid h.lt
  have HC := Lib.hid hc
  have HW := Lib.hid hw
  have HOUT := Lib.hid (out_kind (q := c.q) (no := no) hc hw)
  obtain ⟨-, hrn, -⟩ := Stp.check_zero hc
  obtain ⟨ht0, hi, hf, hj⟩ := rng_of hrn
  have HPOS := Lib.hid hg.some
  obtain ⟨-, -, q11⟩ := (h.below B2.out).head
  have hlt' := who_zero (by omega) hw
  obtain ⟨t, ht⟩ : ∃ t : Nat, x.t = (t : Int) := ⟨x.t.toNat, by omega⟩
  have hlt : t < G.thr.length := by omega
  have HT := Lib.hid ht
  clear ht hlt'
  clear h hg hc hw hrn
  have HK := Lib.hid hk
  have HR : Hid (G.out c.q x no = (Ans.zero, G.setT (t : Int) ⟨true, []⟩)) := Lib.hid (by rw [HOUT.out, show x.k.toNat = 1 by omega, ← HT.out] <;> rfl)
  have i1 : (0 : Int) ≤ (t : Int) := by omega
  have i2 : (t : Int) < (G.thr.length : Int) := by omega
  have TH := Lib.hid fun (W : World) (hb : Below w.heap.size w W) => And.intro (HG.out.below hb).head.2.1 (And.intro ((HG.out.below hb).thread hlt) (And.intro ((HG.out.below hb).thr.frozenAt (t * 2)) ((HG.out.below hb).thr.frozenAt (t * 2 + 1))))
  go_enter Try.func11, Try.ntmps11
  go_wp2_with (first
    | (refine gate_guard (by rfl) ?_; refine wpList_load_row rfl 39 _ rfl w.heap.size rfl 39 x.cells (0, 0) _ ?_ Try.underlying39 rfl (by kernel_rfl) ?_; exact Hid.out (by assumption))
    | (go_at_call 23; refine (gis_yes g _ _ _ HPOS.out _ q11).mono ?_; rintro e w4 ⟨rfl, rfl⟩)
    | (go_at_call 25; refine (ccheck_any x _).mono ?_; rw [HC.out]; rintro e w5 ⟨rfl, hb5⟩; have B5 : Hid (Below w.heap.size w w5) := Lib.hid (below_next B2.out hb5); have S5 := Lib.hid (keep hb5 S2.out); have A5 := Lib.hid (keep hb5 A2.out); clear hb5 S2)
    | (go_at_call 26; refine (gwho_any (HG.out.below B5.out) x ht0).mono ?_; rw [HW.out]; rintro e w6 ⟨rfl, hb6⟩; have B6 : Hid (Below w.heap.size w w6) := Lib.hid (below_next B5.out hb6); have S6 := Lib.hid (keep hb6 S5.out); have A6 := Lib.hid (keep hb6 A5.out); clear hb6 S5; have s0 : w6.cell? ⟨w.heap.size, 0, none⟩ = some (.int .i64 x.k) := cell_of_row _ _ _ _ _ _ S6.out; have s1 : w6.cell? ⟨w.heap.size, 1, none⟩ = some (.int .i64 x.t) := cell_of_row _ _ _ _ _ _ S6.out; have s6 : w6.cell? ⟨w.heap.size, 6, none⟩ = some (.int .i64 x.n) := cell_of_row _ _ _ _ _ _ S6.out; try rw [HK.out] at s0; obtain ⟨q10, ⟨t0, t1⟩, f0, f1⟩ := TH.out w6 B6.out; rw [HT.out] at s1))
  generalize (G.thr.getD t Th.none).live = bl at t0
  generalize hv.getD t undef = hs at t1
  refine region_tail 11 (by kernel_rfl) (by kernel_rfl) ?_
  simp only [List.take_succ_cons, List.take_zero, List.drop_succ_cons, List.drop_zero]
  repeat still_step
  refine wpStill_nil ?_
  have PT := Lib.hid ((HG.out.below B6.out).putThread kinds_g hlt true)
  have htb : tb < w.heap.size := own_blk HG.out.thr tb rfl
  have A9 : Hid (((w6.setCell ⟨tb, t * 2, none⟩ (.bool true)).setCell ⟨tb, t * 2 + 1, none⟩ (.slice none 0 0)).heap[w.heap.size + 1]? = some (.cells zAns 36 (0, 0))) := Lib.hid ((heap_setCell_other _ _ _ _ (by simp only; omega)).trans ((heap_setCell_other _ _ _ _ (by simp only; omega)).trans A6.out))
  clear htb
  go_wp2_with (refine wpList_store_row rfl 36 _ _ rfl (w.heap.size + 1) zAns rfl rfl 36 _ A9.out (by kernel_rfl) rfl (by kernel_rfl) ?_)
  exact bodyPost_ret (v := .agg zAns) (results_cell_row rfl _ _ (w.heap.size + 1) 36 zAns _ _ rfl (heap_setRow_same _ A9.out) Try.underlying36 rfl (by kernel_rfl)) rfl
    (by rw [HR.out]; exact ⟨rfl, PT.out.wrap B6.out HFP.out (K := w.heap.size + 1) (by omega) (heap_lt A6.out) ((Frm.of_below [w.heap.size + 1] (Below.refl _ _).drew).trans (Frm.setRow (fp := [w.heap.size + 1]) _ (List.mem_singleton.2 rfl) _) (fresh_sub fun _ h => h))⟩)
set_option maxHeartbeats 8000000 in
set_option maxRecDepth 100000 in
theorem gdo_2 (h : Gx 60 72 w g c G tb tcap nb ncap hv nv) (hg : G.Good) (x : Stp) (no : Int) (hc : x.check = 0) (hw : G.who x = 0) (hk : x.k = 2) :
    Calls Try.prog 11 #[.pointer (some ⟨g, 0, none⟩), .agg x.cells, .int .i64 no] w fun e w' => DoR w w' g c (G.out c.q x no) (fpOf g tb nb hv nv) e := by
  have B2 := Lib.hid (below_new (below_alloc0 w (.cells x.cells 39)) (.cells zAns 36))
  have S2 := Lib.hid (keep_alloc (.cells zAns 36) (heap_alloc_new w (.cells x.cells 39)))
  have A2 := Lib.hid (heap_two w (.cells x.cells 39) (.cells zAns 36))
  have HG := Lib.hid h
  have HGD := Lib.hid hg
  have HFP := Lib.hid h.lt
  have HC := Lib.hid hc
  have HW := Lib.hid hw
  have HOUT := Lib.hid (out_kind (q := c.q) (no := no) hc hw)
  obtain ⟨-, hrn, -⟩ := Stp.check_zero hc
  obtain ⟨ht0, hi, hf, hj⟩ := rng_of hrn
  have HPOS := Lib.hid hg.some
  obtain ⟨-, -, q11⟩ := (h.below B2.out).head
  have hlt' := who_zero (by omega) hw
  obtain ⟨t, ht⟩ : ∃ t : Nat, x.t = (t : Int) := ⟨x.t.toNat, by omega⟩
  have hlt : t < G.thr.length := by omega
  have HT := Lib.hid ht
  clear ht hlt'
  clear h hg hc hw hrn
  have HK := Lib.hid hk
  have HR : Hid (G.out c.q x no = (Ans.zero, G.setT (t : Int) ⟨false, []⟩)) := Lib.hid (by rw [HOUT.out, show x.k.toNat = 2 by omega, ← HT.out] <;> rfl)
  have i1 : (0 : Int) ≤ (t : Int) := by omega
  have i2 : (t : Int) < (G.thr.length : Int) := by omega
  have TH := Lib.hid fun (W : World) (hb : Below w.heap.size w W) => And.intro (HG.out.below hb).head.2.1 (And.intro ((HG.out.below hb).thread hlt) (And.intro ((HG.out.below hb).thr.frozenAt (t * 2)) ((HG.out.below hb).thr.frozenAt (t * 2 + 1))))
  go_enter Try.func11, Try.ntmps11
  go_wp2_with (first
    | (refine gate_guard (by rfl) ?_; refine wpList_load_row rfl 39 _ rfl w.heap.size rfl 39 x.cells (0, 0) _ ?_ Try.underlying39 rfl (by kernel_rfl) ?_; exact Hid.out (by assumption))
    | (go_at_call 23; refine (gis_yes g _ _ _ HPOS.out _ q11).mono ?_; rintro e w4 ⟨rfl, rfl⟩)
    | (go_at_call 25; refine (ccheck_any x _).mono ?_; rw [HC.out]; rintro e w5 ⟨rfl, hb5⟩; have B5 : Hid (Below w.heap.size w w5) := Lib.hid (below_next B2.out hb5); have S5 := Lib.hid (keep hb5 S2.out); have A5 := Lib.hid (keep hb5 A2.out); clear hb5 S2)
    | (go_at_call 26; refine (gwho_any (HG.out.below B5.out) x ht0).mono ?_; rw [HW.out]; rintro e w6 ⟨rfl, hb6⟩; have B6 : Hid (Below w.heap.size w w6) := Lib.hid (below_next B5.out hb6); have S6 := Lib.hid (keep hb6 S5.out); have A6 := Lib.hid (keep hb6 A5.out); clear hb6 S5; have s0 : w6.cell? ⟨w.heap.size, 0, none⟩ = some (.int .i64 x.k) := cell_of_row _ _ _ _ _ _ S6.out; have s1 : w6.cell? ⟨w.heap.size, 1, none⟩ = some (.int .i64 x.t) := cell_of_row _ _ _ _ _ _ S6.out; have s6 : w6.cell? ⟨w.heap.size, 6, none⟩ = some (.int .i64 x.n) := cell_of_row _ _ _ _ _ _ S6.out; try rw [HK.out] at s0; obtain ⟨q10, ⟨t0, t1⟩, f0, f1⟩ := TH.out w6 B6.out; rw [HT.out] at s1))
  generalize (G.thr.getD t Th.none).live = bl at t0
  generalize hv.getD t undef = hs at t1
  refine region_tail 11 (by kernel_rfl) (by kernel_rfl) ?_
  simp only [List.take_succ_cons, List.take_zero, List.drop_succ_cons, List.drop_zero]
  repeat still_step
  refine wpStill_nil ?_
  have PT := Lib.hid ((HG.out.below B6.out).putThread kinds_g hlt false)
  have htb : tb < w.heap.size := own_blk HG.out.thr tb rfl
  have A9 : Hid (((w6.setCell ⟨tb, t * 2, none⟩ (.bool false)).setCell ⟨tb, t * 2 + 1, none⟩ (.slice none 0 0)).heap[w.heap.size + 1]? = some (.cells zAns 36 (0, 0))) := Lib.hid ((heap_setCell_other _ _ _ _ (by simp only; omega)).trans ((heap_setCell_other _ _ _ _ (by simp only; omega)).trans A6.out))
  clear htb
  go_wp2_with (refine wpList_store_row rfl 36 _ _ rfl (w.heap.size + 1) zAns rfl rfl 36 _ A9.out (by kernel_rfl) rfl (by kernel_rfl) ?_)
  exact bodyPost_ret (v := .agg zAns) (results_cell_row rfl _ _ (w.heap.size + 1) 36 zAns _ _ rfl (heap_setRow_same _ A9.out) Try.underlying36 rfl (by kernel_rfl)) rfl
    (by rw [HR.out]; exact ⟨rfl, PT.out.wrap B6.out HFP.out (K := w.heap.size + 1) (by omega) (heap_lt A6.out) ((Frm.of_below [w.heap.size + 1] (Below.refl _ _).drew).trans (Frm.setRow (fp := [w.heap.size + 1]) _ (List.mem_singleton.2 rfl) _) (fresh_sub fun _ h => h))⟩)
end
end Go.Proofs.Ytaefcmmjeloccaa
