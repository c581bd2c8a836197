/- The reference graph: Do, of kinds that turn a thread or a node, or ask. -/
import Derived.Test.YtaefcmmjeloccaaGsD
namespace Go.Proofs.Ytaefcmmjeloccaa
open Go.RowKit

/-- A field's cells may be written. -/
theorem Gx.fieldThereR {GT TT : TypeId} {w : World} {g : Nat} {c : Cfg} {G : Gr} {tb tcap nb ncap : Nat} {hv nv : List Value} (h : Gx GT TT w g c G tb tcap nb ncap hv nv) {s f d cap : Nat} (hs : s < G.nod.length) (hf : f < (G.nod.getD s []).length) (hd : nv.getD s undef = .slice (some ⟨d, 0, none⟩) (G.nod.getD s []).length cap) :
    (w.cell? ⟨d, f * 2, none⟩ = some (.int .i64 ((G.nod.getD s []).getD f (0, 0)).1) ∧ w.cell? ⟨d, f * 2 + 1, none⟩ = some (.int .i64 ((G.nod.getD s []).getD f (0, 0)).2)) ∧ w.frozen? ⟨d, f * 2, none⟩ = false ∧ w.frozen? ⟨d, f * 2 + 1, none⟩ = false := by
  have hr := (h.nodeRow hs).2
  rw [hd] at hr
  exact ⟨own_val hr hf, hr.frozenAt _, hr.frozenAt _⟩
section
variable {w : World} {g : Nat} {c : Cfg} {G : Gr} {tb tcap nb ncap : Nat} {hv nv : List Value}
set_option maxHeartbeats 8000000 in
set_option maxRecDepth 100000 in
theorem rdo_1 (h : Gx 50 85 w g c G tb tcap nb ncap hv nv) (hg : G.Good) (x : Stp) (hc : x.check = 0) (hw : G.who x = 0) (_hn : Gr.numBad c.q x = false) (_ha : G.after x = 0) (hk : x.k = 1) :
    Calls Try.prog 35 #[.pointer (some ⟨g, 0, none⟩), .agg x.cells] w fun e w' => DoS w w' g c (G.out c.q x 0) (fpOf g tb nb hv nv) e := by
  have B2 := Lib.hid (below_new (below_alloc0 w (.cells x.cells 39)) (.cells zAns 36))
  have S2 := Lib.hid (keep_alloc (.cells zAns 36) (heap_alloc_new w (.cells x.cells 39)))
  have A2 := Lib.hid (heap_two w (.cells x.cells 39) (.cells zAns 36))
  have HG := Lib.hid h
  have HGD := Lib.hid hg
  have HFP := Lib.hid h.lt
  have HK := Lib.hid hk
  have s0 : ((w.alloc (.cells x.cells 39)).alloc (.cells zAns 36)).cell? ⟨w.heap.size, 0, none⟩ = some (.int .i64 x.k) := cell_of_row _ _ _ _ _ _ S2.out
  rw [hk] at s0
  obtain ⟨-, hrn, -⟩ := Stp.check_zero hc
  obtain ⟨ht0, hi0, hf0, hj0⟩ := rng_of hrn
  have hlt' := who_zero (by omega) hw
  obtain ⟨t, ht⟩ : ∃ t : Nat, x.t = (t : Int) := ⟨x.t.toNat, by omega⟩
  have hlt : t < G.thr.length := by omega
  have HT := Lib.hid ht
  have i1 : (0 : Int) ≤ (t : Int) := by omega
  have i2 : (t : Int) < (G.thr.length : Int) := by omega
  have s1 : ((w.alloc (.cells x.cells 39)).alloc (.cells zAns 36)).cell? ⟨w.heap.size, 1, none⟩ = some (.int .i64 x.t) := cell_of_row _ _ _ _ _ _ S2.out
  rw [ht] at s1
  have hG2 := h.below B2.out
  obtain ⟨-, q10, q11⟩ := hG2.head
  have HR : Hid (G.out c.q x 0 = (Ans.zero, G.setT (t : Int) ⟨true, []⟩)) := Lib.hid (by rw [out_kind hc hw, show x.k.toNat = 1 by omega, ← ht] <;> rfl)
  obtain ⟨t0, t1⟩ := hG2.thread hlt
  have f0 := hG2.thr.frozenAt (t * 2)
  have f1 := hG2.thr.frozenAt (t * 2 + 1)
  have PT := Lib.hid (hG2.putThread kinds_r hlt true)
  have htb : tb < w.heap.size := own_blk h.thr tb rfl
  generalize (G.thr.getD t Th.none).live = bl at t0
  generalize hv.getD t undef = hs at t1
  go_enter Try.func35, Try.ntmps35
  generalize hW2 : (w.alloc (.cells x.cells 39)).alloc (.cells zAns 36) = W2 at *
  have A9 : Hid (((W2.setCell ⟨tb, t * 2, none⟩ (.bool true)).setCell ⟨tb, t * 2 + 1, none⟩ (.slice none 0 0)).heap[w.heap.size + 1]? = some (.cells zAns 36 (0, 0))) := Lib.hid ((heap_setCell_other _ _ _ _ (by simp only; omega)).trans ((heap_setCell_other _ _ _ _ (by simp only; omega)).trans A2.out))
  have S9 : ((W2.setCell ⟨tb, t * 2, none⟩ (.bool true)).setCell ⟨tb, t * 2 + 1, none⟩ (.slice none 0 0)).heap[w.heap.size]? = some (.cells x.cells 39 (0, 0)) := (heap_setCell_other _ _ _ _ (by simp only; omega)).trans ((heap_setCell_other _ _ _ _ (by simp only; omega)).trans S2.out)
  have c9 : ((W2.setCell ⟨tb, t * 2, none⟩ (.bool true)).setCell ⟨tb, t * 2 + 1, none⟩ (.slice none 0 0)).cell? ⟨w.heap.size, 0, none⟩ = some (.int .i64 x.k) := cell_of_row _ _ _ _ _ _ S9
  rw [hk] at c9
  clear h hg hc hw _hn _ha hk hrn hlt' ht hG2 htb S9
  go_wp2_with fail
  refine region_tail 8 (by kernel_rfl) (by kernel_rfl) ?_
  simp only [List.take_succ_cons, List.take_zero, List.drop_succ_cons, List.drop_zero]
  repeat still_step
  refine wpStill_nil ?_
  go_wp2_with (refine wpList_store_row rfl 36 _ _ rfl (w.heap.size + 1) zAns rfl rfl 36 _ A9.out (by kernel_rfl) rfl (by kernel_rfl) ?_)
  exact bodyPost_ret (v := .agg zAns) (results_cell_row rfl _ _ (w.heap.size + 1) 36 zAns _ _ rfl (heap_setRow_same _ A9.out) Try.underlying36 rfl (by kernel_rfl)) rfl
    (by rw [HR.out]; exact ⟨rfl, PT.out.wrap B2.out HFP.out (K := w.heap.size + 1) (by omega) (heap_lt A2.out) ((Frm.of_below [w.heap.size + 1] (Below.refl _ _).drew).trans (Frm.setRow (fp := [w.heap.size + 1]) _ (List.mem_singleton.2 rfl) _) (fresh_sub fun _ h => h))⟩)
set_option maxHeartbeats 8000000 in
set_option maxRecDepth 100000 in
theorem rdo_2 (h : Gx 50 85 w g c G tb tcap nb ncap hv nv) (hg : G.Good) (x : Stp) (hc : x.check = 0) (hw : G.who x = 0) (_hn : Gr.numBad c.q x = false) (_ha : G.after x = 0) (hk : x.k = 2) :
    Calls Try.prog 35 #[.pointer (some ⟨g, 0, none⟩), .agg x.cells] w fun e w' => DoS w w' g c (G.out c.q x 0) (fpOf g tb nb hv nv) e := by
  have B2 := Lib.hid (below_new (below_alloc0 w (.cells x.cells 39)) (.cells zAns 36))
  have S2 := Lib.hid (keep_alloc (.cells zAns 36) (heap_alloc_new w (.cells x.cells 39)))
  have A2 := Lib.hid (heap_two w (.cells x.cells 39) (.cells zAns 36))
  have HG := Lib.hid h
  have HGD := Lib.hid hg
  have HFP := Lib.hid h.lt
  have HK := Lib.hid hk
  have s0 : ((w.alloc (.cells x.cells 39)).alloc (.cells zAns 36)).cell? ⟨w.heap.size, 0, none⟩ = some (.int .i64 x.k) := cell_of_row _ _ _ _ _ _ S2.out
  rw [hk] at s0
  obtain ⟨-, hrn, -⟩ := Stp.check_zero hc
  obtain ⟨ht0, hi0, hf0, hj0⟩ := rng_of hrn
  have hlt' := who_zero (by omega) hw
  obtain ⟨t, ht⟩ : ∃ t : Nat, x.t = (t : Int) := ⟨x.t.toNat, by omega⟩
  have hlt : t < G.thr.length := by omega
  have HT := Lib.hid ht
  have i1 : (0 : Int) ≤ (t : Int) := by omega
  have i2 : (t : Int) < (G.thr.length : Int) := by omega
  have s1 : ((w.alloc (.cells x.cells 39)).alloc (.cells zAns 36)).cell? ⟨w.heap.size, 1, none⟩ = some (.int .i64 x.t) := cell_of_row _ _ _ _ _ _ S2.out
  rw [ht] at s1
  have hG2 := h.below B2.out
  obtain ⟨-, q10, q11⟩ := hG2.head
  have HR : Hid (G.out c.q x 0 = (Ans.zero, G.setT (t : Int) ⟨false, []⟩)) := Lib.hid (by rw [out_kind hc hw, show x.k.toNat = 2 by omega, ← ht] <;> rfl)
  obtain ⟨t0, t1⟩ := hG2.thread hlt
  have f0 := hG2.thr.frozenAt (t * 2)
  have f1 := hG2.thr.frozenAt (t * 2 + 1)
  have PT := Lib.hid (hG2.putThread kinds_r hlt false)
  have htb : tb < w.heap.size := own_blk h.thr tb rfl
  generalize (G.thr.getD t Th.none).live = bl at t0
  generalize hv.getD t undef = hs at t1
  go_enter Try.func35, Try.ntmps35
  generalize hW2 : (w.alloc (.cells x.cells 39)).alloc (.cells zAns 36) = W2 at *
  have A9 : Hid (((W2.setCell ⟨tb, t * 2, none⟩ (.bool false)).setCell ⟨tb, t * 2 + 1, none⟩ (.slice none 0 0)).heap[w.heap.size + 1]? = some (.cells zAns 36 (0, 0))) := Lib.hid ((heap_setCell_other _ _ _ _ (by simp only; omega)).trans ((heap_setCell_other _ _ _ _ (by simp only; omega)).trans A2.out))
  have S9 : ((W2.setCell ⟨tb, t * 2, none⟩ (.bool false)).setCell ⟨tb, t * 2 + 1, none⟩ (.slice none 0 0)).heap[w.heap.size]? = some (.cells x.cells 39 (0, 0)) := (heap_setCell_other _ _ _ _ (by simp only; omega)).trans ((heap_setCell_other _ _ _ _ (by simp only; omega)).trans S2.out)
  have c9 : ((W2.setCell ⟨tb, t * 2, none⟩ (.bool false)).setCell ⟨tb, t * 2 + 1, none⟩ (.slice none 0 0)).cell? ⟨w.heap.size, 0, none⟩ = some (.int .i64 x.k) := cell_of_row _ _ _ _ _ _ S9
  rw [hk] at c9
  clear h hg hc hw _hn _ha hk hrn hlt' ht hG2 htb S9
  go_wp2_with fail
  refine region_tail 8 (by kernel_rfl) (by kernel_rfl) ?_
  simp only [List.take_succ_cons, List.take_zero, List.drop_succ_cons, List.drop_zero]
  repeat still_step
  refine wpStill_nil ?_
  go_wp2_with (refine wpList_store_row rfl 36 _ _ rfl (w.heap.size + 1) zAns rfl rfl 36 _ A9.out (by kernel_rfl) rfl (by kernel_rfl) ?_)
  exact bodyPost_ret (v := .agg zAns) (results_cell_row rfl _ _ (w.heap.size + 1) 36 zAns _ _ rfl (heap_setRow_same _ A9.out) Try.underlying36 rfl (by kernel_rfl)) rfl
    (by rw [HR.out]; exact ⟨rfl, PT.out.wrap B2.out HFP.out (K := w.heap.size + 1) (by omega) (heap_lt A2.out) ((Frm.of_below [w.heap.size + 1] (Below.refl _ _).drew).trans (Frm.setRow (fp := [w.heap.size + 1]) _ (List.mem_singleton.2 rfl) _) (fresh_sub fun _ h => h))⟩)
theorem rkind_12 {G : Gr} {q : Int} {x : Stp} (hk : x.k = 12) (ha : G.after x = 0) : x.i < ((G.held x.t).length : Int) ∧ (Gr.at? (G.held x.t) x.i).1 = 2 ∧ G.kind q x 0 12 = (⟨0, 1, ((G.node (Gr.at? (G.held x.t) x.i).2).length : Int), 0, 0⟩, G) := by
  have h2 : (if G.object x false ≠ 0 then G.object x false else 0) = 0 := by unfold Gr.after at ha; rw [show x.k.toNat = 12 by omega] at ha; exact ha
  have h3 : G.object x false = 0 := by
    by_cases h : G.object x false = 0
    · exact h
    · rw [if_pos h] at h2; exact h2
  have h4 : ¬ ((G.held x.t).length : Int) ≤ x.i := fun h => by unfold Gr.object at h3; rw [if_pos h] at h3; exact absurd h3 (by decide)
  have h5 : ¬ (Gr.at? (G.held x.t) x.i).1 ≠ 2 := fun h => by unfold Gr.object at h3; rw [if_neg h4, if_pos h] at h3; exact absurd h3 (by decide)
  refine ⟨by omega, by omega, ?_⟩
  show (if G.object x false ≠ 0 then _ else _) = _
  rw [if_neg (by rw [h3]; simp)]
set_option maxHeartbeats 8000000 in
set_option maxRecDepth 100000 in
theorem rdo_12 (h : Gx 50 85 w g c G tb tcap nb ncap hv nv) (hg : G.Good) (x : Stp) (hc : x.check = 0) (hw : G.who x = 0) (_hn : Gr.numBad c.q x = false) (ha : G.after x = 0) (hk : x.k = 12) :
    Calls Try.prog 35 #[.pointer (some ⟨g, 0, none⟩), .agg x.cells] w fun e w' => DoS w w' g c (G.out c.q x 0) (fpOf g tb nb hv nv) e := by
  have B2 := Lib.hid (below_new (below_alloc0 w (.cells x.cells 39)) (.cells zAns 36))
  have S2 := Lib.hid (keep_alloc (.cells zAns 36) (heap_alloc_new w (.cells x.cells 39)))
  have A2 := Lib.hid (heap_two w (.cells x.cells 39) (.cells zAns 36))
  have HG := Lib.hid h
  have HGD := Lib.hid hg
  have HFP := Lib.hid h.lt
  have HK := Lib.hid hk
  have s0 : ((w.alloc (.cells x.cells 39)).alloc (.cells zAns 36)).cell? ⟨w.heap.size, 0, none⟩ = some (.int .i64 x.k) := cell_of_row _ _ _ _ _ _ S2.out
  rw [hk] at s0
  obtain ⟨-, hrn, -⟩ := Stp.check_zero hc
  obtain ⟨ht0, hi0, hf0, hj0⟩ := rng_of hrn
  have hlt' := who_zero (by omega) hw
  obtain ⟨t, ht⟩ : ∃ t : Nat, x.t = (t : Int) := ⟨x.t.toNat, by omega⟩
  have hlt : t < G.thr.length := by omega
  have HT := Lib.hid ht
  have i1 : (0 : Int) ≤ (t : Int) := by omega
  have i2 : (t : Int) < (G.thr.length : Int) := by omega
  have s1 : ((w.alloc (.cells x.cells 39)).alloc (.cells zAns 36)).cell? ⟨w.heap.size, 1, none⟩ = some (.int .i64 x.t) := cell_of_row _ _ _ _ _ _ S2.out
  rw [ht] at s1
  have hG2 := h.below B2.out
  obtain ⟨-, q10, q11⟩ := hG2.head
  obtain ⟨p, cap, hp, -, hpb⟩ := own_slice (hG2.heldRow hlt)
  obtain ⟨-, t1⟩ := hG2.thread hlt
  have hh : G.held x.t = (G.thr.getD t Th.none).held := by rw [ht]; rfl
  have hok' := fun (k : Int) (h0 : 0 ≤ k) h1 => hg.held_ok hlt (i := k) h0 h1
  obtain ⟨vs, hvs⟩ : ∃ vs, vs = (G.thr.getD t Th.none).held := ⟨_, rfl⟩
  rw [← hvs] at hp hpb hh hok'
  rw [hp] at t1
  have HVS := Lib.hid hvs
  clear hvs
  have hR := rkind_12 (q := c.q) hk ha
  obtain ⟨o1, o2, o3⟩ := hR
  have hR : Hid (G.out c.q x 0 = (⟨0, 1, ((G.node (Gr.at? (G.held x.t) x.i).2).length : Int), 0, 0⟩, G)) := Lib.hid (by rw [out_kind hc hw, show x.k.toNat = 12 by omega]; exact o3)
  have hok := (hok' x.i hi0 (by rw [← hh]; exact o1)).2 (by rw [← hh]; exact o2)
  rw [← hh] at hok
  clear hok'
  obtain ⟨i, hii⟩ : ∃ i : Nat, x.i = (i : Int) := ⟨x.i.toNat, by omega⟩
  have HII := Lib.hid hii
  rw [hii] at hR o1
  have HO1 := Lib.hid (show i < vs.length by rw [← hh]; omega)
  obtain ⟨b, rfl⟩ := hpb (by rw [← hh]; omega)
  have HP := Lib.hid hp
  obtain ⟨y, hy⟩ : ∃ y, y = Gr.at? (G.held x.t) x.i := ⟨_, rfl⟩
  rw [hii] at hy hok
  rw [← hy] at hR hok
  obtain ⟨s, hs⟩ : ∃ s : Nat, y.2 = (s : Int) := ⟨y.2.toNat, by omega⟩
  rw [hs] at hR
  have HSL := Lib.hid (show s < G.nod.length by omega)
  have HY : Hid (vs.getD i (0, 0) = y) := Lib.hid (by rw [hy, hh]; rfl)
  have HS := Lib.hid hs
  have HLT := Lib.hid hlt
  clear h hg hc hw _hn ha hk hrn hlt' ht hG2 hh o1 o2 o3 hok hii hy hs hpb hp hi0
  go_enter Try.func35, Try.ntmps35
  go_wp2_with fail
  go_quiet (fail)
  generalize hw3 : World.drewN _ _ = w3
  have B3 : Hid (Below w.heap.size w w3) := Lib.hid (by rw [← hw3]; (repeat (first | exact B2.out | exact Below.refl _ _ | refine Below.drew ?_ | refine below_new ?_ _ | refine below_drewN ?_ _ | refine Below.setCell ?_ (by first | exact Nat.le_refl _ | (simp only [World.size_alloc]; omega)) _)))
  have A3 : Hid (w3.heap[w.heap.size + 1]? = some (.cells zAns 36 (0, 0))) := Lib.hid (by rw [← hw3]; exact A2.out)
  have S3 : Hid (w3.heap[w.heap.size]? = some (.cells x.cells 39 (0, 0))) := Lib.hid (by rw [← hw3]; exact S2.out)
  clear hw3 s0 s1 q10 q11 t1
  have hG3 := HG.out.below B3.out
  obtain ⟨-, q10, q11⟩ := hG3.head
  obtain ⟨-, t1⟩ := hG3.thread HLT.out
  have r0 : w3.cell? ⟨w.heap.size, 0, none⟩ = some (.int .i64 x.k) := cell_of_row _ _ _ _ _ _ S3.out
  have r1 : w3.cell? ⟨w.heap.size, 1, none⟩ = some (.int .i64 x.t) := cell_of_row _ _ _ _ _ _ S3.out
  have r2 : w3.cell? ⟨w.heap.size, 2, none⟩ = some (.int .i64 x.i) := cell_of_row _ _ _ _ _ _ S3.out
  have r3 : w3.cell? ⟨w.heap.size, 3, none⟩ = some (.int .i64 x.f) := cell_of_row _ _ _ _ _ _ S3.out
  have r4 : w3.cell? ⟨w.heap.size, 4, none⟩ = some (.int .i64 x.j) := cell_of_row _ _ _ _ _ _ S3.out
  rw [HK.out] at r0
  rw [HT.out] at r1
  rw [HII.out] at r2
  have ho := hG3.heldRow HLT.out
  rw [← HVS.out] at ho
  rw [HP.out] at t1 ho
  obtain ⟨v0, v1⟩ := own_val ho HO1.out
  rw [HY.out, HS.out] at v1
  obtain ⟨n0, n1⟩ := hG3.nodeRow HSL.out
  obtain ⟨p2, cap2, hq, -, -⟩ := own_slice n1
  rw [hq] at n0
  have hR2 : Hid (G.out c.q x 0 = (⟨0, 1, ((G.nod.getD s []).length : Int), 0, 0⟩, G)) := Lib.hid hR.out
  have i3 : (0 : Int) ≤ (i : Int) := by omega
  have i4 : (i : Int) < (vs.length : Int) := by have := HO1.out; omega
  have i5 : (0 : Int) ≤ (s : Int) := by omega
  have i6 : (s : Int) < (G.nod.length : Int) := by have := HSL.out; omega
  clear hR v0 ho n1 hq hG3 HO1 HSL HP HY HS
  generalize (G.nod.getD s []).length = l at *
  have A9 := A3
  go_wp2_with fail
  refine region_tail 14 (by kernel_rfl) (by kernel_rfl) ?_
  simp only [List.take_succ_cons, List.take_zero, List.drop_succ_cons, List.drop_zero]
  repeat still_step
  refine wpStill_nil ?_
  go_wp2_with (refine wpList_store_row rfl 36 _ _ rfl (w.heap.size + 1) (Ans.cells ⟨0, 1, (l : Int), 0, 0⟩) rfl rfl 36 _ A9.out (by kernel_rfl) rfl (by kernel_rfl) ?_)
  exact bodyPost_ret (v := .agg (Ans.cells ⟨0, 1, (l : Int), 0, 0⟩)) (results_cell_row rfl _ _ (w.heap.size + 1) 36 (Ans.cells ⟨0, 1, (l : Int), 0, 0⟩) _ _ rfl (heap_setRow_same _ A9.out) Try.underlying36 rfl (by kernel_rfl)) rfl
    (by rw [hR2.out]; exact ⟨rfl, gto_below HG.out (below_setRow (by (repeat (first | exact B3.out | exact Below.refl _ _ | refine Below.drew ?_ | refine below_new ?_ _ | refine below_drewN ?_ _ | refine Below.setCell ?_ (by first | exact Nat.le_refl _ | (simp only [World.size_alloc]; omega)) _))) (by omega) _)⟩)
theorem rkind_11 {G : Gr} {q : Int} {x : Stp} (hk : x.k = 11) (ha : G.after x = 0) : x.i < ((G.held x.t).length : Int) ∧ x.j < ((G.held x.t).length : Int) ∧ G.kind q x 0 11 = (⟨0, 1, if Gr.at? (G.held x.t) x.i = Gr.at? (G.held x.t) x.j then 1 else 0, 0, 0⟩, G) := by
  have h2 : (if ((G.held x.t).length : Int) ≤ x.i ∨ ((G.held x.t).length : Int) ≤ x.j then (4 : Int) else 0) = 0 := by unfold Gr.after at ha; rw [show x.k.toNat = 11 by omega] at ha; exact ha
  have h3 : ¬ (((G.held x.t).length : Int) ≤ x.i ∨ ((G.held x.t).length : Int) ≤ x.j) := fun h => by rw [if_pos h] at h2; exact absurd h2 (by decide)
  refine ⟨by omega, by omega, ?_⟩
  show (if ((G.held x.t).length : Int) ≤ x.i ∨ ((G.held x.t).length : Int) ≤ x.j then _ else _) = _
  rw [if_neg h3]
set_option maxHeartbeats 8000000 in
set_option maxRecDepth 100000 in
theorem rdo_11 (h : Gx 50 85 w g c G tb tcap nb ncap hv nv) (hg : G.Good) (x : Stp) (hc : x.check = 0) (hw : G.who x = 0) (_hn : Gr.numBad c.q x = false) (ha : G.after x = 0) (hk : x.k = 11) :
    Calls Try.prog 35 #[.pointer (some ⟨g, 0, none⟩), .agg x.cells] w fun e w' => DoS w w' g c (G.out c.q x 0) (fpOf g tb nb hv nv) e := by
  have B2 := Lib.hid (below_new (below_alloc0 w (.cells x.cells 39)) (.cells zAns 36))
  have S2 := Lib.hid (keep_alloc (.cells zAns 36) (heap_alloc_new w (.cells x.cells 39)))
  have A2 := Lib.hid (heap_two w (.cells x.cells 39) (.cells zAns 36))
  have HG := Lib.hid h
  have HGD := Lib.hid hg
  have HFP := Lib.hid h.lt
  have HK := Lib.hid hk
  have s0 : ((w.alloc (.cells x.cells 39)).alloc (.cells zAns 36)).cell? ⟨w.heap.size, 0, none⟩ = some (.int .i64 x.k) := cell_of_row _ _ _ _ _ _ S2.out
  rw [hk] at s0
  obtain ⟨-, hrn, -⟩ := Stp.check_zero hc
  obtain ⟨ht0, hi0, hf0, hj0⟩ := rng_of hrn
  have hlt' := who_zero (by omega) hw
  obtain ⟨t, ht⟩ : ∃ t : Nat, x.t = (t : Int) := ⟨x.t.toNat, by omega⟩
  have hlt : t < G.thr.length := by omega
  have HT := Lib.hid ht
  have i1 : (0 : Int) ≤ (t : Int) := by omega
  have i2 : (t : Int) < (G.thr.length : Int) := by omega
  have s1 : ((w.alloc (.cells x.cells 39)).alloc (.cells zAns 36)).cell? ⟨w.heap.size, 1, none⟩ = some (.int .i64 x.t) := cell_of_row _ _ _ _ _ _ S2.out
  rw [ht] at s1
  have hG2 := h.below B2.out
  obtain ⟨-, q10, q11⟩ := hG2.head
  obtain ⟨p, cap, hp, -, hpb⟩ := own_slice (hG2.heldRow hlt)
  obtain ⟨-, t1⟩ := hG2.thread hlt
  have hh : G.held x.t = (G.thr.getD t Th.none).held := by rw [ht]; rfl
  have hok' := fun (k : Int) (h0 : 0 ≤ k) h1 => hg.held_ok hlt (i := k) h0 h1
  obtain ⟨vs, hvs⟩ : ∃ vs, vs = (G.thr.getD t Th.none).held := ⟨_, rfl⟩
  rw [← hvs] at hp hpb hh hok'
  rw [hp] at t1
  have HVS := Lib.hid hvs
  clear hvs
  have hR := rkind_11 (q := c.q) hk ha
  obtain ⟨o1, oj, o3⟩ := hR
  have hR : Hid (G.out c.q x 0 = (⟨0, 1, if Gr.at? (G.held x.t) x.i = Gr.at? (G.held x.t) x.j then 1 else 0, 0, 0⟩, G)) := Lib.hid (by rw [out_kind hc hw, show x.k.toNat = 11 by omega]; exact o3)
  obtain ⟨i, hii⟩ : ∃ i : Nat, x.i = (i : Int) := ⟨x.i.toNat, by omega⟩
  have HII := Lib.hid hii
  rw [hii] at hR o1
  have HO1 := Lib.hid (show i < vs.length by rw [← hh]; omega)
  obtain ⟨j, hjj⟩ : ∃ j : Nat, x.j = (j : Int) := ⟨x.j.toNat, by omega⟩
  have HJJ := Lib.hid hjj
  rw [hjj] at hR oj
  have HO2 := Lib.hid (show j < vs.length by rw [← hh]; omega)
  obtain ⟨b, rfl⟩ := hpb (by rw [← hh]; omega)
  have HP := Lib.hid hp
  obtain ⟨y, hy⟩ : ∃ y, y = Gr.at? (G.held x.t) (i : Int) := ⟨_, rfl⟩
  obtain ⟨z, hz⟩ : ∃ z, z = Gr.at? (G.held x.t) (j : Int) := ⟨_, rfl⟩
  rw [← hy, ← hz] at hR
  have HY : Hid (vs.getD i (0, 0) = y) := Lib.hid (by rw [hy, hh]; rfl)
  have HZ : Hid (vs.getD j (0, 0) = z) := Lib.hid (by rw [hz, hh]; rfl)
  have HLT := Lib.hid hlt
  have i3 : (0 : Int) ≤ (i : Int) := by omega
  have i4 : (i : Int) < (vs.length : Int) := by have := HO1.out; omega
  have i5 : (0 : Int) ≤ (j : Int) := by omega
  have i6 : (j : Int) < (vs.length : Int) := by have := HO2.out; omega
  clear h hg hc hw _hn ha hk hrn hlt' ht hG2 hh o1 oj o3 hok' hii hjj hy hz hpb hp hi0
  obtain ⟨b1, e1⟩ : ∃ b, (y.1 == z.1) = b := ⟨_, rfl⟩
  obtain ⟨b2, e2⟩ : ∃ b, (y.2 == z.2) = b := ⟨_, rfl⟩
  have hR2 : Hid (G.out c.q x 0 = (⟨0, 1, if b1 && b2 then 1 else 0, 0, 0⟩, G)) := Lib.hid (by
    rw [hR.out, ← e1, ← e2]
    have : (y = z) ↔ ((y.1 == z.1 && y.2 == z.2) = true) := by
      simp only [Bool.and_eq_true, beq_iff_eq]
      exact ⟨fun h => by rw [h]; exact ⟨rfl, rfl⟩, fun h => Prod.ext h.1 h.2⟩
    by_cases hyz : y = z
    · rw [if_pos hyz, if_pos (this.1 hyz)]
    · rw [if_neg hyz, if_neg (fun h => hyz (this.2 h))])
  clear hR
  go_enter Try.func35, Try.ntmps35
  go_wp2_with fail
  go_quiet (fail)
  generalize hw3 : World.drewN _ _ = w3
  have B3 : Hid (Below w.heap.size w w3) := Lib.hid (by rw [← hw3]; (repeat (first | exact B2.out | exact Below.refl _ _ | refine Below.drew ?_ | refine below_new ?_ _ | refine below_drewN ?_ _ | refine Below.setCell ?_ (by first | exact Nat.le_refl _ | (simp only [World.size_alloc]; omega)) _)))
  have A3 : Hid (w3.heap[w.heap.size + 1]? = some (.cells zAns 36 (0, 0))) := Lib.hid (by rw [← hw3]; exact A2.out)
  have S3 : Hid (w3.heap[w.heap.size]? = some (.cells x.cells 39 (0, 0))) := Lib.hid (by rw [← hw3]; exact S2.out)
  clear hw3 s0 s1 q10 q11 t1
  have hG3 := HG.out.below B3.out
  obtain ⟨-, q10, q11⟩ := hG3.head
  obtain ⟨-, t1⟩ := hG3.thread HLT.out
  have r0 : w3.cell? ⟨w.heap.size, 0, none⟩ = some (.int .i64 x.k) := cell_of_row _ _ _ _ _ _ S3.out
  have r1 : w3.cell? ⟨w.heap.size, 1, none⟩ = some (.int .i64 x.t) := cell_of_row _ _ _ _ _ _ S3.out
  have r2 : w3.cell? ⟨w.heap.size, 2, none⟩ = some (.int .i64 x.i) := cell_of_row _ _ _ _ _ _ S3.out
  have r3 : w3.cell? ⟨w.heap.size, 3, none⟩ = some (.int .i64 x.f) := cell_of_row _ _ _ _ _ _ S3.out
  have r4 : w3.cell? ⟨w.heap.size, 4, none⟩ = some (.int .i64 x.j) := cell_of_row _ _ _ _ _ _ S3.out
  rw [HK.out] at r0
  rw [HT.out] at r1
  rw [HII.out] at r2
  rw [HJJ.out] at r4
  have ho := hG3.heldRow HLT.out
  rw [← HVS.out] at ho
  rw [HP.out] at t1 ho
  obtain ⟨v0, v1⟩ := own_val ho HO1.out
  obtain ⟨w0, w1⟩ := own_val ho HO2.out
  rw [HY.out] at v0 v1
  rw [HZ.out] at w0 w1
  clear ho hG3 HO1 HO2 HP HY HZ HVS
  have A9 := A3
  go_wp2_with fail
  cases b1 <;> cases b2
  all_goals
    go_quiet (fail)
    generalize hw4 : World.drewN _ _ = w4
    have B4 : Hid (Below w.heap.size w w4) := Lib.hid (by rw [← hw4]; (repeat (first | exact B3.out | exact Below.refl _ _ | refine Below.drew ?_ | refine below_new ?_ _ | refine below_drewN ?_ _ | refine Below.setCell ?_ (by first | exact Nat.le_refl _ | (simp only [World.size_alloc]; omega)) _)))
    replace A9 : Hid (w4.heap[w.heap.size + 1]? = some (.cells zAns 36 (0, 0))) := Lib.hid (by rw [← hw4]; exact A9.out)
    clear hw4
    go_wp2_with (first | (refine wpList_store_row rfl 36 _ _ rfl (w.heap.size + 1) (Ans.cells ⟨0, 1, 1, 0, 0⟩) rfl rfl 36 _ A9.out (by kernel_rfl) rfl (by kernel_rfl) ?_) | (refine wpList_store_row rfl 36 _ _ rfl (w.heap.size + 1) (Ans.cells ⟨0, 1, 0, 0, 0⟩) rfl rfl 36 _ A9.out (by kernel_rfl) rfl (by kernel_rfl) ?_))
    first
    | exact bodyPost_ret (v := .agg (Ans.cells ⟨0, 1, 1, 0, 0⟩)) (results_cell_row rfl _ _ (w.heap.size + 1) 36 (Ans.cells ⟨0, 1, 1, 0, 0⟩) _ _ rfl (heap_setRow_same _ A9.out) Try.underlying36 rfl (by kernel_rfl)) rfl
        (by rw [hR2.out]; exact ⟨rfl, gto_below HG.out (below_setRow (by (repeat (first | exact B4.out | exact Below.refl _ _ | refine Below.drew ?_ | refine below_new ?_ _ | refine below_drewN ?_ _ | refine Below.setCell ?_ (by first | exact Nat.le_refl _ | (simp only [World.size_alloc]; omega)) _))) (by omega) _)⟩)
    | exact bodyPost_ret (v := .agg (Ans.cells ⟨0, 1, 0, 0, 0⟩)) (results_cell_row rfl _ _ (w.heap.size + 1) 36 (Ans.cells ⟨0, 1, 0, 0, 0⟩) _ _ rfl (heap_setRow_same _ A9.out) Try.underlying36 rfl (by kernel_rfl)) rfl
        (by rw [hR2.out]; exact ⟨rfl, gto_below HG.out (below_setRow (by (repeat (first | exact B4.out | exact Below.refl _ _ | refine Below.drew ?_ | refine below_new ?_ _ | refine below_drewN ?_ _ | refine Below.setCell ?_ (by first | exact Nat.le_refl _ | (simp only [World.size_alloc]; omega)) _))) (by omega) _)⟩)
theorem rkind_10 {G : Gr} {q : Int} {x : Stp} (hk : x.k = 10) (ha : G.after x = 0) : G.object x true = 0 ∧ x.j < ((G.held x.t).length : Int) ∧ G.kind q x 0 10 = (Ans.zero, G.setF (Gr.at? (G.held x.t) x.i).2 x.f (Gr.at? (G.held x.t) x.j)) := by
  have h2 : (if G.object x true ≠ 0 then G.object x true else if ((G.held x.t).length : Int) ≤ x.j then (4 : Int) else 0) = 0 := by unfold Gr.after at ha; rw [show x.k.toNat = 10 by omega] at ha; exact ha
  have h3 : G.object x true = 0 := by
    by_cases h : G.object x true = 0
    · exact h
    · rw [if_pos h] at h2; exact h2
  have h4 : ¬ ((G.held x.t).length : Int) ≤ x.j := fun h => by rw [if_neg (by rw [h3]; simp), if_pos h] at h2; exact absurd h2 (by decide)
  refine ⟨h3, by omega, ?_⟩
  show (if G.object x true ≠ 0 then _ else if ((G.held x.t).length : Int) ≤ x.j then _ else _) = _
  rw [if_neg (by rw [h3]; simp), if_neg h4]
set_option maxHeartbeats 8000000 in
set_option maxRecDepth 100000 in
theorem rdo_10 (h : Gx 50 85 w g c G tb tcap nb ncap hv nv) (hg : G.Good) (x : Stp) (hc : x.check = 0) (hw : G.who x = 0) (_hn : Gr.numBad c.q x = false) (ha : G.after x = 0) (hk : x.k = 10) :
    Calls Try.prog 35 #[.pointer (some ⟨g, 0, none⟩), .agg x.cells] w fun e w' => DoS w w' g c (G.out c.q x 0) (fpOf g tb nb hv nv) e := by
  have B2 := Lib.hid (below_new (below_alloc0 w (.cells x.cells 39)) (.cells zAns 36))
  have S2 := Lib.hid (keep_alloc (.cells zAns 36) (heap_alloc_new w (.cells x.cells 39)))
  have A2 := Lib.hid (heap_two w (.cells x.cells 39) (.cells zAns 36))
  have HG := Lib.hid h
  have HGD := Lib.hid hg
  have HFP := Lib.hid h.lt
  have HK := Lib.hid hk
  have s0 : ((w.alloc (.cells x.cells 39)).alloc (.cells zAns 36)).cell? ⟨w.heap.size, 0, none⟩ = some (.int .i64 x.k) := cell_of_row _ _ _ _ _ _ S2.out
  rw [hk] at s0
  obtain ⟨-, hrn, -⟩ := Stp.check_zero hc
  obtain ⟨ht0, hi0, hf0, hj0⟩ := rng_of hrn
  have hlt' := who_zero (by omega) hw
  obtain ⟨t, ht⟩ : ∃ t : Nat, x.t = (t : Int) := ⟨x.t.toNat, by omega⟩
  have hlt : t < G.thr.length := by omega
  have HT := Lib.hid ht
  have i1 : (0 : Int) ≤ (t : Int) := by omega
  have i2 : (t : Int) < (G.thr.length : Int) := by omega
  have s1 : ((w.alloc (.cells x.cells 39)).alloc (.cells zAns 36)).cell? ⟨w.heap.size, 1, none⟩ = some (.int .i64 x.t) := cell_of_row _ _ _ _ _ _ S2.out
  rw [ht] at s1
  have hG2 := h.below B2.out
  obtain ⟨-, q10, q11⟩ := hG2.head
  obtain ⟨p, cap, hp, -, hpb⟩ := own_slice (hG2.heldRow hlt)
  obtain ⟨-, t1⟩ := hG2.thread hlt
  have hh : G.held x.t = (G.thr.getD t Th.none).held := by rw [ht]; rfl
  have hok' := fun (k : Int) (h0 : 0 ≤ k) h1 => hg.held_ok hlt (i := k) h0 h1
  obtain ⟨vs, hvs⟩ : ∃ vs, vs = (G.thr.getD t Th.none).held := ⟨_, rfl⟩
  rw [← hvs] at hp hpb hh hok'
  rw [hp] at t1
  have HVS := Lib.hid hvs
  clear hvs
  have hR := rkind_10 (q := c.q) hk ha
  obtain ⟨ob, oj, o3⟩ := hR
  have hR : Hid (G.out c.q x 0 = (Ans.zero, G.setF (Gr.at? (G.held x.t) x.i).2 x.f (Gr.at? (G.held x.t) x.j))) := Lib.hid (by rw [out_kind hc hw, show x.k.toNat = 10 by omega]; exact o3)
  obtain ⟨o1, o2, ⟨o4, o5⟩, o6⟩ := object_zero ht hlt hg hi0 ob
  obtain ⟨i, hii⟩ : ∃ i : Nat, x.i = (i : Int) := ⟨x.i.toNat, by omega⟩
  have HII := Lib.hid hii
  rw [hii] at hR o1
  have HO1 := Lib.hid (show i < vs.length by rw [← hh]; omega)
  obtain ⟨j, hjj⟩ : ∃ j : Nat, x.j = (j : Int) := ⟨x.j.toNat, by omega⟩
  have HJJ := Lib.hid hjj
  obtain ⟨f, hff⟩ : ∃ f : Nat, x.f = (f : Int) := ⟨x.f.toNat, by omega⟩
  have HFF := Lib.hid hff
  rw [hjj, hff] at hR
  rw [hjj] at oj
  rw [hff] at o6
  rw [hii] at o4 o5 o6
  have HO2 := Lib.hid (show j < vs.length by rw [← hh]; omega)
  obtain ⟨b, rfl⟩ := hpb (by rw [← hh]; omega)
  have HP := Lib.hid hp
  obtain ⟨y, hy⟩ : ∃ y, y = Gr.at? (G.held x.t) (i : Int) := ⟨_, rfl⟩
  obtain ⟨z, hz⟩ : ∃ z, z = Gr.at? (G.held x.t) (j : Int) := ⟨_, rfl⟩
  rw [← hy] at hR o4 o5 o6
  rw [← hz] at hR
  obtain ⟨s, hs⟩ : ∃ s : Nat, y.2 = (s : Int) := ⟨y.2.toNat, by omega⟩
  rw [hs] at hR o5 o6
  have HSL := Lib.hid (show s < G.nod.length by omega)
  have HFL := Lib.hid (show f < (G.nod.getD s []).length by have : (f : Int) < ((G.nod.getD s []).length : Int) := o6; omega)
  have HY : Hid (vs.getD i (0, 0) = y) := Lib.hid (by rw [hy, hh]; rfl)
  have HZ : Hid (vs.getD j (0, 0) = z) := Lib.hid (by rw [hz, hh]; rfl)
  have HS := Lib.hid hs
  have HLT := Lib.hid hlt
  have i3 : (0 : Int) ≤ (i : Int) := by omega
  have i4 : (i : Int) < (vs.length : Int) := by have := HO1.out; omega
  have i5 : (0 : Int) ≤ (j : Int) := by omega
  have i6 : (j : Int) < (vs.length : Int) := by have := HO2.out; omega
  have i7 : (0 : Int) ≤ (s : Int) := by omega
  have i8 : (s : Int) < (G.nod.length : Int) := by have := HSL.out; omega
  have i9 : (0 : Int) ≤ (f : Int) := by omega
  obtain ⟨d, dcap, hd⟩ := own_pos (h.nodeRow HSL.out).2 (by have := HFL.out; omega)
  have HD := Lib.hid hd
  have HDL : Hid (d < w.heap.size) := Lib.hid (own_blk (h.nodeRow HSL.out).2 d (by rw [hd]; rfl))
  clear h hg hc hw _hn ha hk hrn hlt' ht hG2 hh o1 o2 ob oj o3 o4 o5 o6 hok' hii hjj hff hy hz hs hpb hp hi0 hd
  go_enter Try.func35, Try.ntmps35
  go_wp2_with fail
  go_quiet (fail)
  generalize hw3 : World.drewN _ _ = w3
  have B3 : Hid (Below w.heap.size w w3) := Lib.hid (by rw [← hw3]; (repeat (first | exact B2.out | exact Below.refl _ _ | refine Below.drew ?_ | refine below_new ?_ _ | refine below_drewN ?_ _ | refine Below.setCell ?_ (by first | exact Nat.le_refl _ | (simp only [World.size_alloc]; omega)) _)))
  have A3 : Hid (w3.heap[w.heap.size + 1]? = some (.cells zAns 36 (0, 0))) := Lib.hid (by rw [← hw3]; exact A2.out)
  have S3 : Hid (w3.heap[w.heap.size]? = some (.cells x.cells 39 (0, 0))) := Lib.hid (by rw [← hw3]; exact S2.out)
  clear hw3 s0 s1 q10 q11 t1
  have hG3 := HG.out.below B3.out
  obtain ⟨-, q10, q11⟩ := hG3.head
  obtain ⟨-, t1⟩ := hG3.thread HLT.out
  have r0 : w3.cell? ⟨w.heap.size, 0, none⟩ = some (.int .i64 x.k) := cell_of_row _ _ _ _ _ _ S3.out
  have r1 : w3.cell? ⟨w.heap.size, 1, none⟩ = some (.int .i64 x.t) := cell_of_row _ _ _ _ _ _ S3.out
  have r2 : w3.cell? ⟨w.heap.size, 2, none⟩ = some (.int .i64 x.i) := cell_of_row _ _ _ _ _ _ S3.out
  have r3 : w3.cell? ⟨w.heap.size, 3, none⟩ = some (.int .i64 x.f) := cell_of_row _ _ _ _ _ _ S3.out
  have r4 : w3.cell? ⟨w.heap.size, 4, none⟩ = some (.int .i64 x.j) := cell_of_row _ _ _ _ _ _ S3.out
  rw [HK.out] at r0
  rw [HT.out] at r1
  rw [HII.out] at r2
  rw [HFF.out] at r3
  rw [HJJ.out] at r4
  have ho := hG3.heldRow HLT.out
  rw [← HVS.out] at ho
  rw [HP.out] at t1 ho
  obtain ⟨v0, v1⟩ := own_val ho HO1.out
  obtain ⟨w0, w1⟩ := own_val ho HO2.out
  rw [HY.out] at v0 v1
  rw [HS.out] at v1
  rw [HZ.out] at w0 w1
  obtain ⟨n0, n1⟩ := hG3.nodeRow HSL.out
  rw [HD.out] at n0
  obtain ⟨⟨y0, y1⟩, f0, f1⟩ := hG3.fieldThereR HSL.out HFL.out HD.out
  have PF := Lib.hid (hG3.putField kinds_r HSL.out HFL.out HD.out z)
  have i10 : (f : Int) < ((G.nod.getD s []).length : Int) := by have := HFL.out; omega
  have A9 : Hid (((w3.setCell ⟨d, f * 2, none⟩ (.int .i64 z.1)).setCell ⟨d, f * 2 + 1, none⟩ (.int .i64 z.2)).heap[w.heap.size + 1]? = some (.cells zAns 36 (0, 0))) := Lib.hid ((heap_setCell_other _ _ _ _ (by have := HDL.out; simp only; omega)).trans ((heap_setCell_other _ _ _ _ (by have := HDL.out; simp only; omega)).trans A3.out))
  have S9 : ((w3.setCell ⟨d, f * 2, none⟩ (.int .i64 z.1)).setCell ⟨d, f * 2 + 1, none⟩ (.int .i64 z.2)).heap[w.heap.size]? = some (.cells x.cells 39 (0, 0)) := (heap_setCell_other _ _ _ _ (by have := HDL.out; simp only; omega)).trans ((heap_setCell_other _ _ _ _ (by have := HDL.out; simp only; omega)).trans S3.out)
  have c9 : ((w3.setCell ⟨d, f * 2, none⟩ (.int .i64 z.1)).setCell ⟨d, f * 2 + 1, none⟩ (.int .i64 z.2)).cell? ⟨w.heap.size, 0, none⟩ = some (.int .i64 x.k) := cell_of_row _ _ _ _ _ _ S9
  rw [HK.out] at c9
  clear ho hG3 HO1 HO2 HP HY HZ HVS n1 S9 HD HFL
  generalize (G.nod.getD s []).getD f (0, 0) = yy at *
  generalize (G.nod.getD s []).length = l at *
  go_wp2_with fail
  refine region_tail 20 (by kernel_rfl) (by kernel_rfl) ?_
  simp only [List.take_succ_cons, List.take_zero, List.drop_succ_cons, List.drop_zero]
  repeat still_step
  refine wpStill_nil ?_
  go_wp2_with (refine wpList_store_row rfl 36 _ _ rfl (w.heap.size + 1) zAns rfl rfl 36 _ A9.out (by kernel_rfl) rfl (by kernel_rfl) ?_)
  exact bodyPost_ret (v := .agg zAns) (results_cell_row rfl _ _ (w.heap.size + 1) 36 zAns _ _ rfl (heap_setRow_same _ A9.out) Try.underlying36 rfl (by kernel_rfl)) rfl
    (by rw [hR.out]; exact ⟨rfl, PF.out.wrap B3.out HFP.out (K := w.heap.size + 1) (by omega) (heap_lt A3.out) ((Frm.of_below [w.heap.size + 1] (Below.refl _ _).drew).trans (Frm.setRow (fp := [w.heap.size + 1]) _ (List.mem_singleton.2 rfl) _) (fresh_sub fun _ h => h))⟩)
theorem rkind_8 {G : Gr} {q : Int} {x : Stp} (hk : x.k = 8) (ha : G.after x = 0) : (G.held x.t).length ≠ 0 ∧ G.kind q x 0 8 = (Gr.told (Gr.at? (G.held x.t) ((G.held x.t).length - 1)), G.drop1 x.t) := by
  have h2 : (if (G.held x.t).length = 0 then (4 : Int) else 0) = 0 := by unfold Gr.after at ha; rw [show x.k.toNat = 8 by omega] at ha; exact ha
  have h3 : ¬ (G.held x.t).length = 0 := fun h => by rw [if_pos h] at h2; exact absurd h2 (by decide)
  refine ⟨h3, ?_⟩
  show (if (G.held x.t).length = 0 then _ else _) = _
  rw [if_neg h3]
set_option maxHeartbeats 8000000 in
set_option maxRecDepth 100000 in
theorem rdo_8 (h : Gx 50 85 w g c G tb tcap nb ncap hv nv) (hg : G.Good) (x : Stp) (hc : x.check = 0) (hw : G.who x = 0) (_hn : Gr.numBad c.q x = false) (ha : G.after x = 0) (hk : x.k = 8) :
    Calls Try.prog 35 #[.pointer (some ⟨g, 0, none⟩), .agg x.cells] w fun e w' => DoS w w' g c (G.out c.q x 0) (fpOf g tb nb hv nv) e := by
  have B2 := Lib.hid (below_new (below_alloc0 w (.cells x.cells 39)) (.cells zAns 36))
  have S2 := Lib.hid (keep_alloc (.cells zAns 36) (heap_alloc_new w (.cells x.cells 39)))
  have A2 := Lib.hid (heap_two w (.cells x.cells 39) (.cells zAns 36))
  have HG := Lib.hid h
  have HGD := Lib.hid hg
  have HFP := Lib.hid h.lt
  have HK := Lib.hid hk
  have s0 : ((w.alloc (.cells x.cells 39)).alloc (.cells zAns 36)).cell? ⟨w.heap.size, 0, none⟩ = some (.int .i64 x.k) := cell_of_row _ _ _ _ _ _ S2.out
  rw [hk] at s0
  obtain ⟨-, hrn, -⟩ := Stp.check_zero hc
  obtain ⟨ht0, hi0, hf0, hj0⟩ := rng_of hrn
  have hlt' := who_zero (by omega) hw
  obtain ⟨t, ht⟩ : ∃ t : Nat, x.t = (t : Int) := ⟨x.t.toNat, by omega⟩
  have hlt : t < G.thr.length := by omega
  have HT := Lib.hid ht
  have i1 : (0 : Int) ≤ (t : Int) := by omega
  have i2 : (t : Int) < (G.thr.length : Int) := by omega
  have s1 : ((w.alloc (.cells x.cells 39)).alloc (.cells zAns 36)).cell? ⟨w.heap.size, 1, none⟩ = some (.int .i64 x.t) := cell_of_row _ _ _ _ _ _ S2.out
  rw [ht] at s1
  have hG2 := h.below B2.out
  obtain ⟨-, q10, q11⟩ := hG2.head
  obtain ⟨p, cap, hp, -, hpb⟩ := own_slice (hG2.heldRow hlt)
  obtain ⟨-, t1⟩ := hG2.thread hlt
  have hh : G.held x.t = (G.thr.getD t Th.none).held := by rw [ht]; rfl
  have hok' := fun (k : Int) (h0 : 0 ≤ k) h1 => hg.held_ok hlt (i := k) h0 h1
  obtain ⟨vs, hvs⟩ : ∃ vs, vs = (G.thr.getD t Th.none).held := ⟨_, rfl⟩
  rw [← hvs] at hp hpb hh hok'
  rw [hp] at t1
  have HVS := Lib.hid hvs
  clear hvs
  have hcap : vs.length ≤ cap := by
    obtain ⟨p', cap', hp', hc', -⟩ := own_slice (hG2.heldRow hlt)
    rw [hp] at hp'
    simp only [Value.slice.injEq] at hp'
    have h1 := HVS.out
    rw [← h1] at hc'
    omega
  obtain ⟨o1, o3⟩ := rkind_8 (q := c.q) hk ha
  have hR : Hid (G.out c.q x 0 = (Gr.told (Gr.at? (G.held x.t) ((G.held x.t).length - 1)), G.drop1 x.t)) := Lib.hid (by rw [out_kind hc hw, show x.k.toNat = 8 by omega]; exact o3)
  rw [hh] at hR o1
  obtain ⟨m, hm⟩ : ∃ m, vs.length = m + 1 := ⟨vs.length - 1, by omega⟩
  obtain ⟨n, hn'⟩ : ∃ n, n = vs.length := ⟨_, rfl⟩
  have hnm : n = m + 1 := by omega
  have HNM := Lib.hid hnm
  have HM := Lib.hid hm
  have HNL := Lib.hid hn'
  obtain ⟨u, hu⟩ : ∃ u, u = vs.getD m (0, 0) := ⟨_, rfl⟩
  have HU := Lib.hid hu
  have hR2 : Hid (G.out c.q x 0 = (Gr.told u, G.setT (t : Int) ⟨(G.th (t : Int)).live, vs.dropLast⟩)) := Lib.hid (by
    rw [hR.out, ht]
    have e1 : Gr.at? vs ((vs.length : Int) - 1) = u := by
      rw [hu]; show vs.getD ((vs.length : Int) - 1).toNat (0, 0) = _
      rw [show ((vs.length : Int) - 1).toNat = m by omega]
    rw [e1]
    have e2 : G.held (t : Int) = vs := by rw [← ht]; exact hh
    show (Gr.told u, G.setT (t : Int) ⟨(G.th (t : Int)).live, (G.held (t : Int)).dropLast⟩) = _
    rw [e2])
  obtain ⟨b, rfl⟩ := hpb (by omega)
  rw [← hn'] at hp t1
  have HP := Lib.hid hp
  have HLT := Lib.hid hlt
  have h16 : n ≤ 16 := by rw [hn', ← hh, ht]; exact held_few hg hlt
  have e1 : IntKind.i64.wrap ((n : Int) - 1) = (m : Int) := by rw [IntWalk.i64_in _ (by omega)]; omega
  have i3 : (0 : Int) ≤ (m : Int) := by omega
  have i4 : (m : Int) < (n : Int) := by omega
  have i5 : (m : Int) ≤ (cap : Int) := by omega
  have HTB : Hid (tb < w.heap.size) := Lib.hid (own_blk h.thr tb rfl)
  clear h hg hc hw _hn ha hk hrn hlt' hlt ht hG2 hh o1 o3 hok' hm hn' hnm hu hpb hp hR h16 hcap
  go_enter Try.func35, Try.ntmps35
  go_wp2_with fail
  go_quiet (fail)
  generalize hw3 : World.drewN _ _ = w3
  have B3 : Hid (Below w.heap.size w w3) := Lib.hid (by rw [← hw3]; (repeat (first | exact B2.out | exact Below.refl _ _ | refine Below.drew ?_ | refine below_new ?_ _ | refine below_drewN ?_ _ | refine Below.setCell ?_ (by first | exact Nat.le_refl _ | (simp only [World.size_alloc]; omega)) _)))
  have A3 : Hid (w3.heap[w.heap.size + 1]? = some (.cells zAns 36 (0, 0))) := Lib.hid (by rw [← hw3]; exact A2.out)
  have S3 : Hid (w3.heap[w.heap.size]? = some (.cells x.cells 39 (0, 0))) := Lib.hid (by rw [← hw3]; exact S2.out)
  clear hw3 s0 s1 q10 q11 t1
  have hG3 := HG.out.below B3.out
  obtain ⟨-, q10, q11⟩ := hG3.head
  obtain ⟨-, t1⟩ := hG3.thread HLT.out
  have r0 : w3.cell? ⟨w.heap.size, 0, none⟩ = some (.int .i64 x.k) := cell_of_row _ _ _ _ _ _ S3.out
  have r1 : w3.cell? ⟨w.heap.size, 1, none⟩ = some (.int .i64 x.t) := cell_of_row _ _ _ _ _ _ S3.out
  have r2 : w3.cell? ⟨w.heap.size, 2, none⟩ = some (.int .i64 x.i) := cell_of_row _ _ _ _ _ _ S3.out
  have r3 : w3.cell? ⟨w.heap.size, 3, none⟩ = some (.int .i64 x.f) := cell_of_row _ _ _ _ _ _ S3.out
  have r4 : w3.cell? ⟨w.heap.size, 4, none⟩ = some (.int .i64 x.j) := cell_of_row _ _ _ _ _ _ S3.out
  rw [HK.out] at r0
  rw [HT.out] at r1
  have ho := hG3.heldRow HLT.out
  rw [← HVS.out, HP.out, ← HNL.out] at ho
  rw [HP.out] at t1
  obtain ⟨v0, v1⟩ := own_val ho (j := m) (by have := HNM.out; omega)
  rw [← HU.out] at v0 v1
  have HO := Lib.hid ho
  have BZ := Lib.hid (below_alloc0 w3 (.cells #[.int .i64 0, .int .i64 0] 57))
  clear ho hG3
  go_wp2_with (refine wpList_store_row rfl 57 _ _ rfl w3.heap.size #[.int .i64 u.1, .int .i64 u.2] rfl rfl 57 _ (heap_alloc_new w3 _) (by kernel_rfl) rfl (by kernel_rfl) ?_)
  generalize hw5 : World.setRow (w3.alloc _) _ _ = w5
  have B35 : Hid (Below w3.heap.size w3 w5) := Lib.hid (by rw [← hw5]; exact below_setRow BZ.out (Nat.le_refl _) _)
  have U5 : Hid (w5.heap[w3.heap.size]? = some (.cells #[.int .i64 u.1, .int .i64 u.2] 57 (0, 0))) := Lib.hid (by rw [← hw5]; exact heap_setRow_same _ (heap_alloc_new w3 _))
  have HK3 : Hid (w3.heap.size = w3.heap.size) := Lib.hid rfl
  clear hw5
  have HSZ : Hid (w.heap.size + 1 < w3.heap.size) := Lib.hid (heap_lt A3.out)
  have B5 := Lib.hid (below_next B3.out B35.out)
  have A5 := Lib.hid (Go.Proofs.Ytaefcmmjeloccaa.keep B35.out A3.out)
  have S5 := Lib.hid (Go.Proofs.Ytaefcmmjeloccaa.keep B35.out S3.out)
  have hG5 := HG.out.below B5.out
  obtain ⟨-, q10', -⟩ := hG5.head
  obtain ⟨-, t1'⟩ := hG5.thread HLT.out
  rw [HP.out] at t1'
  have f1' := hG5.thr.frozenAt (t * 2 + 1)
  have r1' : w5.cell? ⟨w.heap.size, 1, none⟩ = some (.int .i64 x.t) := cell_of_row _ _ _ _ _ _ S5.out
  rw [HT.out] at r1'
  have A9 : Hid ((w5.setCell ⟨tb, t * 2 + 1, none⟩ (.slice (some ⟨b, 0, none⟩) m cap)).heap[w.heap.size + 1]? = some (.cells zAns 36 (0, 0))) := Lib.hid ((heap_setCell_other _ _ _ _ (by have := HTB.out; simp only; omega)).trans A5.out)
  have U9 : (w5.setCell ⟨tb, t * 2 + 1, none⟩ (.slice (some ⟨b, 0, none⟩) m cap)).heap[w3.heap.size]? = some (.cells #[.int .i64 u.1, .int .i64 u.2] 57 (0, 0)) := (heap_setCell_other _ _ _ _ (by have := HTB.out; have := HSZ.out; simp only; omega)).trans U5.out
  have u0 : (w5.setCell ⟨tb, t * 2 + 1, none⟩ (.slice (some ⟨b, 0, none⟩) m cap)).cell? ⟨w3.heap.size, 0, none⟩ = some (.int .i64 u.1) := cell_of_row _ _ _ _ _ _ U9
  have u1 : (w5.setCell ⟨tb, t * 2 + 1, none⟩ (.slice (some ⟨b, 0, none⟩) m cap)).cell? ⟨w3.heap.size, 1, none⟩ = some (.int .i64 u.2) := cell_of_row _ _ _ _ _ _ U9
  have HG5 := Lib.hid hG5
  clear hG5 U9 q10 q11 t1 r0 r1 r2 r3 r4 v0 v1
  refine region_tail 13 (by kernel_rfl) (by kernel_rfl) ?_
  simp only [List.take_succ_cons, List.take_zero, List.drop_succ_cons, List.drop_zero]
  repeat still_step
  refine wpStill_nil ?_
  go_wp2_with (refine wpList_store_row rfl 36 _ _ rfl (w.heap.size + 1) (#[.int .i64 0, .int .i64 u.1, .int .i64 u.2, .int .i64 0, .int .i64 0]) rfl rfl 36 _ A9.out (by kernel_rfl) rfl (by kernel_rfl) ?_)
  refine bodyPost_ret (v := .agg (#[.int .i64 0, .int .i64 u.1, .int .i64 u.2, .int .i64 0, .int .i64 0])) (results_cell_row rfl _ _ (w.heap.size + 1) 36 (#[.int .i64 0, .int .i64 u.1, .int .i64 u.2, .int .i64 0, .int .i64 0]) _ _ rfl (heap_setRow_same _ A9.out) Try.underlying36 rfl (by kernel_rfl)) rfl ?_
  rw [hR2.out]
  have O3 := pw_own_keep HO.out B35.out
  have O4 : Own w5 57 2 m (.slice (some ⟨b, 0, none⟩) m cap) (vls vs.dropLast) := by
    have hn := HNM.out
    subst hn
    rw [vls_pop HM.out] at O3
    exact ownsRow_pop (by rw [vls_len, List.length_dropLast, HM.out]; rfl) O3
  have PF := HG5.out.putHeld kinds_r HLT.out (w1 := w5) (vs := vs.dropLast) (grown_refl _ _) O4 (fun k hk => .inl (by rw [HP.out]; exact hk))
  exact ⟨rfl, PF.wrap B5.out HFP.out (K := w.heap.size + 1) (by omega) (heap_lt A5.out) ((Frm.of_below [w.heap.size + 1] (Below.refl _ _).drew).trans (Frm.setRow (fp := [w.heap.size + 1]) _ (List.mem_singleton.2 rfl) _) (fresh_sub fun _ h => h))⟩
end
end Go.Proofs.Ytaefcmmjeloccaa
