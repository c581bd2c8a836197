/- The reference graph: Do, of kinds that push. -/
import Derived.Test.YtaefcmmjeloccaaGsD
namespace Go.Proofs.Ytaefcmmjeloccaa
open Go.RowKit

section
variable {w : World} {g : Nat} {c : Cfg} {G : Gr} {tb tcap nb ncap : Nat} {hv nv : List Value}
set_option maxHeartbeats 8000000 in
set_option maxRecDepth 100000 in
theorem rdo_4 (h : Gx 50 85 w g c G tb tcap nb ncap hv nv) (hg : G.Good) (x : Stp) (hc : x.check = 0) (hw : G.who x = 0) (hn : Gr.numBad c.q x = false) (ha : G.after x = 0) (hk : x.k = 4) :
    Calls Try.prog 35 #[.pointer (some ⟨g, 0, none⟩), .agg x.cells] w fun e w' => DoS w w' g c (G.out c.q x 0) (fpOf g tb nb hv nv) e := by
  have B2 := Lib.hid (below_new (below_alloc0 w (.cells x.cells 39)) (.cells zAns 36))
  have S2 := Lib.hid (keep_alloc (.cells zAns 36) (heap_alloc_new w (.cells x.cells 39)))
  have A2 := Lib.hid (heap_two w (.cells x.cells 39) (.cells zAns 36))
  have HG := Lib.hid h
  have HGD := Lib.hid hg
  have HFP := Lib.hid h.lt
  have HK := Lib.hid hk
  have s0 : ((w.alloc (.cells x.cells 39)).alloc (.cells zAns 36)).cell? ⟨w.heap.size, 0, none⟩ = some (.int .i64 x.k) := cell_of_row _ _ _ _ _ _ S2.out
  rw [hk] at s0
  obtain ⟨-, hrn, -⟩ := Stp.check_zero hc
  obtain ⟨ht0, hi0, hf0, hj0⟩ := rng_of hrn
  have hlt' := who_zero (by omega) hw
  obtain ⟨t, ht⟩ : ∃ t : Nat, x.t = (t : Int) := ⟨x.t.toNat, by omega⟩
  have hlt : t < G.thr.length := by omega
  have HT := Lib.hid ht
  have HLT := Lib.hid hlt
  have H16 := Lib.hid (held_few hg hlt)
  obtain ⟨u, hu⟩ : ∃ u, G.pushV x = u := ⟨_, rfl⟩
  have HU := Lib.hid hu
  have HR : Hid (G.out c.q x 0 = (Gr.told u, G.hold (t : Int) u)) := Lib.hid (by
    rw [out_kind hc hw, ← hu, ← ht]
    have e : G.pushV x = (1, x.n) := by unfold Gr.pushV; rw [show x.k.toNat = 4 by omega]; rfl
    rw [e, show x.k.toNat = 4 by omega]
    exact rkind_4 hk hn ha)
  have HS : Hid (∀ W : World, W.heap[w.heap.size]? = some (.cells x.cells 39 (0, 0)) → W.cell? ⟨w.heap.size, 0, none⟩ = some (.int .i64 x.k) ∧ W.cell? ⟨w.heap.size, 1, none⟩ = some (.int .i64 x.t) ∧ W.cell? ⟨w.heap.size, 2, none⟩ = some (.int .i64 x.i) ∧ W.cell? ⟨w.heap.size, 3, none⟩ = some (.int .i64 x.f) ∧ W.cell? ⟨w.heap.size, 4, none⟩ = some (.int .i64 x.j) ∧ W.cell? ⟨w.heap.size, 5, none⟩ = some (.int .i64 x.c) ∧ W.cell? ⟨w.heap.size, 6, none⟩ = some (.int .i64 x.n)) := Lib.hid fun W hb => by
    exact ⟨cell_of_row _ _ _ _ _ _ hb, cell_of_row _ _ _ _ _ _ hb, cell_of_row _ _ _ _ _ _ hb, cell_of_row _ _ _ _ _ _ hb, cell_of_row _ _ _ _ _ _ hb, cell_of_row _ _ _ _ _ _ hb, cell_of_row _ _ _ _ _ _ hb⟩
  have HZ : Hid (∀ W : World, W.heap[w.heap.size + 1]? = some (.cells zAns 36 (0, 0)) → (W.cell? ⟨w.heap.size + 1, 0, none⟩ = some (.int .i64 0) ∧ W.cell? ⟨w.heap.size + 1, 1, none⟩ = some (.int .i64 0) ∧ W.cell? ⟨w.heap.size + 1, 2, none⟩ = some (.int .i64 0) ∧ W.cell? ⟨w.heap.size + 1, 3, none⟩ = some (.int .i64 0) ∧ W.cell? ⟨w.heap.size + 1, 4, none⟩ = some (.int .i64 0)) ∧ ∀ i, W.frozen? ⟨w.heap.size + 1, i, none⟩ = false) := Lib.hid fun W hb => ⟨⟨cell_of_row _ _ _ _ _ _ hb, cell_of_row _ _ _ _ _ _ hb, cell_of_row _ _ _ _ _ _ hb, cell_of_row _ _ _ _ _ _ hb, cell_of_row _ _ _ _ _ _ hb⟩, fun i => frozen_of_row _ _ _ _ _ hb⟩
  have SD : Hid (((w.alloc (.cells x.cells 39)).alloc (.cells zAns 36)).drew.heap[w.heap.size]? = some (.cells x.cells 39 (0, 0))) := Lib.hid S2.out
  have AD : Hid (((w.alloc (.cells x.cells 39)).alloc (.cells zAns 36)).drew.heap[w.heap.size + 1]? = some (.cells zAns 36 (0, 0))) := Lib.hid A2.out
  have GD : Hid (Gx 50 85 ((w.alloc (.cells x.cells 39)).alloc (.cells zAns 36)).drew g c G tb tcap nb ncap hv nv) := Lib.hid (HG.out.below B2.out.drew)
  clear h hg hc hw hn ha hk hrn hlt' hlt ht hu
  go_enter Try.func35, Try.ntmps35
  go_wp2_with fail
  go_region_held3 (fun W => W.cell? ⟨w.heap.size, 0, none⟩ = some (.int .i64 x.k) ∧ W.cell? ⟨w.heap.size, 1, none⟩ = some (.int .i64 x.t) ∧ W.cell? ⟨w.heap.size, 2, none⟩ = some (.int .i64 x.i) ∧ W.cell? ⟨w.heap.size, 3, none⟩ = some (.int .i64 x.f) ∧ W.cell? ⟨w.heap.size, 4, none⟩ = some (.int .i64 x.j) ∧ W.cell? ⟨w.heap.size, 5, none⟩ = some (.int .i64 x.c) ∧ W.cell? ⟨w.heap.size, 6, none⟩ = some (.int .i64 x.n))
    (first | with_reducible assumption | with_reducible exact HS.out _ SD.out | with_reducible exact HS.out _ S5.out | with_reducible exact HS.out _ S7.out | with_reducible exact HS.out _ (store5_other S7.out (Nat.ne_of_lt (Nat.lt_succ_self _))))
    (first
      | (go_at_call 54; refine (rpushed_4 GD.out HGD.out x HK.out t HT.out HLT.out).mono ?_; rw [HU.out]; rintro e w5 ⟨rfl, hb5⟩; have B5 : Hid (Below w.heap.size w w5) := Lib.hid (below_next B2.out.drew hb5); have S5 := Lib.hid (keep hb5 SD.out); have A5 := Lib.hid (keep hb5 AD.out); clear hb5)
      | (go_at_call 53; rw [HT.out]; refine (rhold_any (HG.out.below B5.out) t HLT.out u (by have := H16.out; omega)).mono ?_; rintro e w7 ⟨rfl, h7⟩; have H7 := Lib.hid h7; have S7 := Lib.hid ((h7.frm.block _ (heap_lt S5.out) (fun hm => by have := HFP.out _ hm; omega)).trans S5.out); have A7 := Lib.hid ((h7.frm.block _ (heap_lt A5.out) (fun hm => by have := HFP.out _ hm; omega)).trans A5.out); clear h7; obtain ⟨⟨z0, z1, z2, z3, z4⟩, fz⟩ := HZ.out _ A7.out))
  all_goals
    go_split_ands
    go_wp2_with fail
    exact bodyPost_ret (v := .agg (Gr.told u).cells) (results_cell_row rfl _ _ (w.heap.size + 1) 36 (Gr.told u).cells _ _ rfl (store5 A7.out) Try.underlying36 rfl (by kernel_rfl)) rfl
      (by rw [HR.out]; exact ⟨rfl, H7.out.wrap B5.out HFP.out (K := w.heap.size + 1) (by omega) (heap_lt A5.out) store5_frm⟩)
set_option maxHeartbeats 8000000 in
set_option maxRecDepth 100000 in
theorem rdo_5 (h : Gx 50 85 w g c G tb tcap nb ncap hv nv) (hg : G.Good) (x : Stp) (hc : x.check = 0) (hw : G.who x = 0) (_hn : Gr.numBad c.q x = false) (ha : G.after x = 0) (hk : x.k = 5) :
    Calls Try.prog 35 #[.pointer (some ⟨g, 0, none⟩), .agg x.cells] w fun e w' => DoS w w' g c (G.out c.q x 0) (fpOf g tb nb hv nv) e := by
  have B2 := Lib.hid (below_new (below_alloc0 w (.cells x.cells 39)) (.cells zAns 36))
  have S2 := Lib.hid (keep_alloc (.cells zAns 36) (heap_alloc_new w (.cells x.cells 39)))
  have A2 := Lib.hid (heap_two w (.cells x.cells 39) (.cells zAns 36))
  have HG := Lib.hid h
  have HGD := Lib.hid hg
  have HFP := Lib.hid h.lt
  have HK := Lib.hid hk
  have s0 : ((w.alloc (.cells x.cells 39)).alloc (.cells zAns 36)).cell? ⟨w.heap.size, 0, none⟩ = some (.int .i64 x.k) := cell_of_row _ _ _ _ _ _ S2.out
  rw [hk] at s0
  obtain ⟨-, hrn, -⟩ := Stp.check_zero hc
  obtain ⟨ht0, hi0, hf0, hj0⟩ := rng_of hrn
  have hlt' := who_zero (by omega) hw
  obtain ⟨t, ht⟩ : ∃ t : Nat, x.t = (t : Int) := ⟨x.t.toNat, by omega⟩
  have hlt : t < G.thr.length := by omega
  have HT := Lib.hid ht
  have HLT := Lib.hid hlt
  have H16 := Lib.hid (held_few hg hlt)
  obtain ⟨u, hu⟩ : ∃ u, G.pushV x = u := ⟨_, rfl⟩
  have HU := Lib.hid hu
  have HR : Hid (G.out c.q x 0 = (Gr.told u, G.hold (t : Int) u)) := Lib.hid (by
    rw [out_kind hc hw, ← hu, ← ht]
    have e : G.pushV x = (0, 0) := by unfold Gr.pushV; rw [show x.k.toNat = 5 by omega]; rfl
    rw [e, show x.k.toNat = 5 by omega]
    exact rkind_5 hk ha)
  have HS : Hid (∀ W : World, W.heap[w.heap.size]? = some (.cells x.cells 39 (0, 0)) → W.cell? ⟨w.heap.size, 0, none⟩ = some (.int .i64 x.k) ∧ W.cell? ⟨w.heap.size, 1, none⟩ = some (.int .i64 x.t) ∧ W.cell? ⟨w.heap.size, 2, none⟩ = some (.int .i64 x.i) ∧ W.cell? ⟨w.heap.size, 3, none⟩ = some (.int .i64 x.f) ∧ W.cell? ⟨w.heap.size, 4, none⟩ = some (.int .i64 x.j) ∧ W.cell? ⟨w.heap.size, 5, none⟩ = some (.int .i64 x.c) ∧ W.cell? ⟨w.heap.size, 6, none⟩ = some (.int .i64 x.n)) := Lib.hid fun W hb => by
    exact ⟨cell_of_row _ _ _ _ _ _ hb, cell_of_row _ _ _ _ _ _ hb, cell_of_row _ _ _ _ _ _ hb, cell_of_row _ _ _ _ _ _ hb, cell_of_row _ _ _ _ _ _ hb, cell_of_row _ _ _ _ _ _ hb, cell_of_row _ _ _ _ _ _ hb⟩
  have HZ : Hid (∀ W : World, W.heap[w.heap.size + 1]? = some (.cells zAns 36 (0, 0)) → (W.cell? ⟨w.heap.size + 1, 0, none⟩ = some (.int .i64 0) ∧ W.cell? ⟨w.heap.size + 1, 1, none⟩ = some (.int .i64 0) ∧ W.cell? ⟨w.heap.size + 1, 2, none⟩ = some (.int .i64 0) ∧ W.cell? ⟨w.heap.size + 1, 3, none⟩ = some (.int .i64 0) ∧ W.cell? ⟨w.heap.size + 1, 4, none⟩ = some (.int .i64 0)) ∧ ∀ i, W.frozen? ⟨w.heap.size + 1, i, none⟩ = false) := Lib.hid fun W hb => ⟨⟨cell_of_row _ _ _ _ _ _ hb, cell_of_row _ _ _ _ _ _ hb, cell_of_row _ _ _ _ _ _ hb, cell_of_row _ _ _ _ _ _ hb, cell_of_row _ _ _ _ _ _ hb⟩, fun i => frozen_of_row _ _ _ _ _ hb⟩
  have SD : Hid (((w.alloc (.cells x.cells 39)).alloc (.cells zAns 36)).drew.heap[w.heap.size]? = some (.cells x.cells 39 (0, 0))) := Lib.hid S2.out
  have AD : Hid (((w.alloc (.cells x.cells 39)).alloc (.cells zAns 36)).drew.heap[w.heap.size + 1]? = some (.cells zAns 36 (0, 0))) := Lib.hid A2.out
  have GD : Hid (Gx 50 85 ((w.alloc (.cells x.cells 39)).alloc (.cells zAns 36)).drew g c G tb tcap nb ncap hv nv) := Lib.hid (HG.out.below B2.out.drew)
  clear h hg hc hw _hn ha hk hrn hlt' hlt ht hu
  go_enter Try.func35, Try.ntmps35
  go_wp2_with fail
  go_region_held3 (fun W => W.cell? ⟨w.heap.size, 0, none⟩ = some (.int .i64 x.k) ∧ W.cell? ⟨w.heap.size, 1, none⟩ = some (.int .i64 x.t) ∧ W.cell? ⟨w.heap.size, 2, none⟩ = some (.int .i64 x.i) ∧ W.cell? ⟨w.heap.size, 3, none⟩ = some (.int .i64 x.f) ∧ W.cell? ⟨w.heap.size, 4, none⟩ = some (.int .i64 x.j) ∧ W.cell? ⟨w.heap.size, 5, none⟩ = some (.int .i64 x.c) ∧ W.cell? ⟨w.heap.size, 6, none⟩ = some (.int .i64 x.n))
    (first | with_reducible assumption | with_reducible exact HS.out _ SD.out | with_reducible exact HS.out _ S5.out | with_reducible exact HS.out _ S7.out | with_reducible exact HS.out _ (store5_other S7.out (Nat.ne_of_lt (Nat.lt_succ_self _))))
    (first
      | (go_at_call 54; refine (rpushed_5 GD.out HGD.out x HK.out t HT.out HLT.out).mono ?_; rw [HU.out]; rintro e w5 ⟨rfl, hb5⟩; have B5 : Hid (Below w.heap.size w w5) := Lib.hid (below_next B2.out.drew hb5); have S5 := Lib.hid (keep hb5 SD.out); have A5 := Lib.hid (keep hb5 AD.out); clear hb5)
      | (go_at_call 53; rw [HT.out]; refine (rhold_any (HG.out.below B5.out) t HLT.out u (by have := H16.out; omega)).mono ?_; rintro e w7 ⟨rfl, h7⟩; have H7 := Lib.hid h7; have S7 := Lib.hid ((h7.frm.block _ (heap_lt S5.out) (fun hm => by have := HFP.out _ hm; omega)).trans S5.out); have A7 := Lib.hid ((h7.frm.block _ (heap_lt A5.out) (fun hm => by have := HFP.out _ hm; omega)).trans A5.out); clear h7; obtain ⟨⟨z0, z1, z2, z3, z4⟩, fz⟩ := HZ.out _ A7.out))
  all_goals
    go_split_ands
    go_wp2_with fail
    exact bodyPost_ret (v := .agg (Gr.told u).cells) (results_cell_row rfl _ _ (w.heap.size + 1) 36 (Gr.told u).cells _ _ rfl (store5 A7.out) Try.underlying36 rfl (by kernel_rfl)) rfl
      (by rw [HR.out]; exact ⟨rfl, H7.out.wrap B5.out HFP.out (K := w.heap.size + 1) (by omega) (heap_lt A5.out) store5_frm⟩)
set_option maxHeartbeats 8000000 in
set_option maxRecDepth 100000 in
theorem rdo_6 (h : Gx 50 85 w g c G tb tcap nb ncap hv nv) (hg : G.Good) (x : Stp) (hc : x.check = 0) (hw : G.who x = 0) (_hn : Gr.numBad c.q x = false) (ha : G.after x = 0) (hk : x.k = 6) :
    Calls Try.prog 35 #[.pointer (some ⟨g, 0, none⟩), .agg x.cells] w fun e w' => DoS w w' g c (G.out c.q x 0) (fpOf g tb nb hv nv) e := by
  have B2 := Lib.hid (below_new (below_alloc0 w (.cells x.cells 39)) (.cells zAns 36))
  have S2 := Lib.hid (keep_alloc (.cells zAns 36) (heap_alloc_new w (.cells x.cells 39)))
  have A2 := Lib.hid (heap_two w (.cells x.cells 39) (.cells zAns 36))
  have HG := Lib.hid h
  have HGD := Lib.hid hg
  have HFP := Lib.hid h.lt
  have HK := Lib.hid hk
  have s0 : ((w.alloc (.cells x.cells 39)).alloc (.cells zAns 36)).cell? ⟨w.heap.size, 0, none⟩ = some (.int .i64 x.k) := cell_of_row _ _ _ _ _ _ S2.out
  rw [hk] at s0
  obtain ⟨-, hrn, -⟩ := Stp.check_zero hc
  obtain ⟨ht0, hi0, hf0, hj0⟩ := rng_of hrn
  have hlt' := who_zero (by omega) hw
  obtain ⟨t, ht⟩ : ∃ t : Nat, x.t = (t : Int) := ⟨x.t.toNat, by omega⟩
  have hlt : t < G.thr.length := by omega
  have HT := Lib.hid ht
  have HLT := Lib.hid hlt
  have H16 := Lib.hid (held_few hg hlt)
  obtain ⟨u, hu⟩ : ∃ u, G.pushV x = u := ⟨_, rfl⟩
  have HU := Lib.hid hu
  have HR : Hid (G.out c.q x 0 = (Gr.told u, G.hold (t : Int) u)) := Lib.hid (by
    rw [out_kind hc hw, ← hu, ← ht]
    have e : G.pushV x = (2, 0) := by unfold Gr.pushV; rw [show x.k.toNat = 6 by omega]; rfl
    rw [e, show x.k.toNat = 6 by omega]
    exact rkind_6 hk ha)
  have HS : Hid (∀ W : World, W.heap[w.heap.size]? = some (.cells x.cells 39 (0, 0)) → W.cell? ⟨w.heap.size, 0, none⟩ = some (.int .i64 x.k) ∧ W.cell? ⟨w.heap.size, 1, none⟩ = some (.int .i64 x.t) ∧ W.cell? ⟨w.heap.size, 2, none⟩ = some (.int .i64 x.i) ∧ W.cell? ⟨w.heap.size, 3, none⟩ = some (.int .i64 x.f) ∧ W.cell? ⟨w.heap.size, 4, none⟩ = some (.int .i64 x.j) ∧ W.cell? ⟨w.heap.size, 5, none⟩ = some (.int .i64 x.c) ∧ W.cell? ⟨w.heap.size, 6, none⟩ = some (.int .i64 x.n)) := Lib.hid fun W hb => by
    exact ⟨cell_of_row _ _ _ _ _ _ hb, cell_of_row _ _ _ _ _ _ hb, cell_of_row _ _ _ _ _ _ hb, cell_of_row _ _ _ _ _ _ hb, cell_of_row _ _ _ _ _ _ hb, cell_of_row _ _ _ _ _ _ hb, cell_of_row _ _ _ _ _ _ hb⟩
  have HZ : Hid (∀ W : World, W.heap[w.heap.size + 1]? = some (.cells zAns 36 (0, 0)) → (W.cell? ⟨w.heap.size + 1, 0, none⟩ = some (.int .i64 0) ∧ W.cell? ⟨w.heap.size + 1, 1, none⟩ = some (.int .i64 0) ∧ W.cell? ⟨w.heap.size + 1, 2, none⟩ = some (.int .i64 0) ∧ W.cell? ⟨w.heap.size + 1, 3, none⟩ = some (.int .i64 0) ∧ W.cell? ⟨w.heap.size + 1, 4, none⟩ = some (.int .i64 0)) ∧ ∀ i, W.frozen? ⟨w.heap.size + 1, i, none⟩ = false) := Lib.hid fun W hb => ⟨⟨cell_of_row _ _ _ _ _ _ hb, cell_of_row _ _ _ _ _ _ hb, cell_of_row _ _ _ _ _ _ hb, cell_of_row _ _ _ _ _ _ hb, cell_of_row _ _ _ _ _ _ hb⟩, fun i => frozen_of_row _ _ _ _ _ hb⟩
  have SD : Hid (((w.alloc (.cells x.cells 39)).alloc (.cells zAns 36)).drew.heap[w.heap.size]? = some (.cells x.cells 39 (0, 0))) := Lib.hid S2.out
  have AD : Hid (((w.alloc (.cells x.cells 39)).alloc (.cells zAns 36)).drew.heap[w.heap.size + 1]? = some (.cells zAns 36 (0, 0))) := Lib.hid A2.out
  have GD : Hid (Gx 50 85 ((w.alloc (.cells x.cells 39)).alloc (.cells zAns 36)).drew g c G tb tcap nb ncap hv nv) := Lib.hid (HG.out.below B2.out.drew)
  clear h hg hc hw _hn ha hk hrn hlt' hlt ht hu
  go_enter Try.func35, Try.ntmps35
  go_wp2_with fail
  go_region_held3 (fun W => W.cell? ⟨w.heap.size, 0, none⟩ = some (.int .i64 x.k) ∧ W.cell? ⟨w.heap.size, 1, none⟩ = some (.int .i64 x.t) ∧ W.cell? ⟨w.heap.size, 2, none⟩ = some (.int .i64 x.i) ∧ W.cell? ⟨w.heap.size, 3, none⟩ = some (.int .i64 x.f) ∧ W.cell? ⟨w.heap.size, 4, none⟩ = some (.int .i64 x.j) ∧ W.cell? ⟨w.heap.size, 5, none⟩ = some (.int .i64 x.c) ∧ W.cell? ⟨w.heap.size, 6, none⟩ = some (.int .i64 x.n))
    (first | with_reducible assumption | with_reducible exact HS.out _ SD.out | with_reducible exact HS.out _ S5.out | with_reducible exact HS.out _ S7.out | with_reducible exact HS.out _ (store5_other S7.out (Nat.ne_of_lt (Nat.lt_succ_self _))))
    (first
      | (go_at_call 54; refine (rpushed_6 GD.out HGD.out x HK.out t HT.out HLT.out).mono ?_; rw [HU.out]; rintro e w5 ⟨rfl, hb5⟩; have B5 : Hid (Below w.heap.size w w5) := Lib.hid (below_next B2.out.drew hb5); have S5 := Lib.hid (keep hb5 SD.out); have A5 := Lib.hid (keep hb5 AD.out); clear hb5)
      | (go_at_call 53; rw [HT.out]; refine (rhold_any (HG.out.below B5.out) t HLT.out u (by have := H16.out; omega)).mono ?_; rintro e w7 ⟨rfl, h7⟩; have H7 := Lib.hid h7; have S7 := Lib.hid ((h7.frm.block _ (heap_lt S5.out) (fun hm => by have := HFP.out _ hm; omega)).trans S5.out); have A7 := Lib.hid ((h7.frm.block _ (heap_lt A5.out) (fun hm => by have := HFP.out _ hm; omega)).trans A5.out); clear h7; obtain ⟨⟨z0, z1, z2, z3, z4⟩, fz⟩ := HZ.out _ A7.out))
  all_goals
    go_split_ands
    go_wp2_with fail
    exact bodyPost_ret (v := .agg (Gr.told u).cells) (results_cell_row rfl _ _ (w.heap.size + 1) 36 (Gr.told u).cells _ _ rfl (store5 A7.out) Try.underlying36 rfl (by kernel_rfl)) rfl
      (by rw [HR.out]; exact ⟨rfl, H7.out.wrap B5.out HFP.out (K := w.heap.size + 1) (by omega) (heap_lt A5.out) store5_frm⟩)
set_option maxHeartbeats 8000000 in
set_option maxRecDepth 100000 in
theorem rdo_7 (h : Gx 50 85 w g c G tb tcap nb ncap hv nv) (hg : G.Good) (x : Stp) (hc : x.check = 0) (hw : G.who x = 0) (_hn : Gr.numBad c.q x = false) (ha : G.after x = 0) (hk : x.k = 7) :
    Calls Try.prog 35 #[.pointer (some ⟨g, 0, none⟩), .agg x.cells] w fun e w' => DoS w w' g c (G.out c.q x 0) (fpOf g tb nb hv nv) e := by
  have B2 := Lib.hid (below_new (below_alloc0 w (.cells x.cells 39)) (.cells zAns 36))
  have S2 := Lib.hid (keep_alloc (.cells zAns 36) (heap_alloc_new w (.cells x.cells 39)))
  have A2 := Lib.hid (heap_two w (.cells x.cells 39) (.cells zAns 36))
  have HG := Lib.hid h
  have HGD := Lib.hid hg
  have HFP := Lib.hid h.lt
  have HK := Lib.hid hk
  have s0 : ((w.alloc (.cells x.cells 39)).alloc (.cells zAns 36)).cell? ⟨w.heap.size, 0, none⟩ = some (.int .i64 x.k) := cell_of_row _ _ _ _ _ _ S2.out
  rw [hk] at s0
  obtain ⟨-, hrn, -⟩ := Stp.check_zero hc
  obtain ⟨ht0, hi0, hf0, hj0⟩ := rng_of hrn
  have hlt' := who_zero (by omega) hw
  obtain ⟨t, ht⟩ : ∃ t : Nat, x.t = (t : Int) := ⟨x.t.toNat, by omega⟩
  have hlt : t < G.thr.length := by omega
  have HT := Lib.hid ht
  have HLT := Lib.hid hlt
  have HIL := Lib.hid (rkind_7 (q := c.q) hk ha).1
  have H16 := Lib.hid (held_few hg hlt)
  obtain ⟨u, hu⟩ : ∃ u, G.pushV x = u := ⟨_, rfl⟩
  have HU := Lib.hid hu
  have HR : Hid (G.out c.q x 0 = (Gr.told u, G.hold (t : Int) u)) := Lib.hid (by
    rw [out_kind hc hw, ← hu, ← ht]
    have e : G.pushV x = (Gr.at? (G.held x.t) x.i) := by unfold Gr.pushV; rw [show x.k.toNat = 7 by omega]; rfl
    rw [e, show x.k.toNat = 7 by omega]
    exact (rkind_7 hk ha).2)
  have HS : Hid (∀ W : World, W.heap[w.heap.size]? = some (.cells x.cells 39 (0, 0)) → W.cell? ⟨w.heap.size, 0, none⟩ = some (.int .i64 x.k) ∧ W.cell? ⟨w.heap.size, 1, none⟩ = some (.int .i64 x.t) ∧ W.cell? ⟨w.heap.size, 2, none⟩ = some (.int .i64 x.i) ∧ W.cell? ⟨w.heap.size, 3, none⟩ = some (.int .i64 x.f) ∧ W.cell? ⟨w.heap.size, 4, none⟩ = some (.int .i64 x.j) ∧ W.cell? ⟨w.heap.size, 5, none⟩ = some (.int .i64 x.c) ∧ W.cell? ⟨w.heap.size, 6, none⟩ = some (.int .i64 x.n)) := Lib.hid fun W hb => by
    exact ⟨cell_of_row _ _ _ _ _ _ hb, cell_of_row _ _ _ _ _ _ hb, cell_of_row _ _ _ _ _ _ hb, cell_of_row _ _ _ _ _ _ hb, cell_of_row _ _ _ _ _ _ hb, cell_of_row _ _ _ _ _ _ hb, cell_of_row _ _ _ _ _ _ hb⟩
  have HZ : Hid (∀ W : World, W.heap[w.heap.size + 1]? = some (.cells zAns 36 (0, 0)) → (W.cell? ⟨w.heap.size + 1, 0, none⟩ = some (.int .i64 0) ∧ W.cell? ⟨w.heap.size + 1, 1, none⟩ = some (.int .i64 0) ∧ W.cell? ⟨w.heap.size + 1, 2, none⟩ = some (.int .i64 0) ∧ W.cell? ⟨w.heap.size + 1, 3, none⟩ = some (.int .i64 0) ∧ W.cell? ⟨w.heap.size + 1, 4, none⟩ = some (.int .i64 0)) ∧ ∀ i, W.frozen? ⟨w.heap.size + 1, i, none⟩ = false) := Lib.hid fun W hb => ⟨⟨cell_of_row _ _ _ _ _ _ hb, cell_of_row _ _ _ _ _ _ hb, cell_of_row _ _ _ _ _ _ hb, cell_of_row _ _ _ _ _ _ hb, cell_of_row _ _ _ _ _ _ hb⟩, fun i => frozen_of_row _ _ _ _ _ hb⟩
  have SD : Hid (((w.alloc (.cells x.cells 39)).alloc (.cells zAns 36)).drew.heap[w.heap.size]? = some (.cells x.cells 39 (0, 0))) := Lib.hid S2.out
  have AD : Hid (((w.alloc (.cells x.cells 39)).alloc (.cells zAns 36)).drew.heap[w.heap.size + 1]? = some (.cells zAns 36 (0, 0))) := Lib.hid A2.out
  have GD : Hid (Gx 50 85 ((w.alloc (.cells x.cells 39)).alloc (.cells zAns 36)).drew g c G tb tcap nb ncap hv nv) := Lib.hid (HG.out.below B2.out.drew)
  clear h hg hc hw _hn ha hk hrn hlt' hlt ht hu
  go_enter Try.func35, Try.ntmps35
  go_wp2_with fail
  go_region_held3 (fun W => W.cell? ⟨w.heap.size, 0, none⟩ = some (.int .i64 x.k) ∧ W.cell? ⟨w.heap.size, 1, none⟩ = some (.int .i64 x.t) ∧ W.cell? ⟨w.heap.size, 2, none⟩ = some (.int .i64 x.i) ∧ W.cell? ⟨w.heap.size, 3, none⟩ = some (.int .i64 x.f) ∧ W.cell? ⟨w.heap.size, 4, none⟩ = some (.int .i64 x.j) ∧ W.cell? ⟨w.heap.size, 5, none⟩ = some (.int .i64 x.c) ∧ W.cell? ⟨w.heap.size, 6, none⟩ = some (.int .i64 x.n))
    (first | with_reducible assumption | with_reducible exact HS.out _ SD.out | with_reducible exact HS.out _ S5.out | with_reducible exact HS.out _ S7.out | with_reducible exact HS.out _ (store5_other S7.out (Nat.ne_of_lt (Nat.lt_succ_self _))))
    (first
      | (go_at_call 54; refine (rpushed_7 GD.out HGD.out x HK.out t HT.out HLT.out hi0 HIL.out).mono ?_; rw [HU.out]; rintro e w5 ⟨rfl, hb5⟩; have B5 : Hid (Below w.heap.size w w5) := Lib.hid (below_next B2.out.drew hb5); have S5 := Lib.hid (keep hb5 SD.out); have A5 := Lib.hid (keep hb5 AD.out); clear hb5)
      | (go_at_call 53; rw [HT.out]; refine (rhold_any (HG.out.below B5.out) t HLT.out u (by have := H16.out; omega)).mono ?_; rintro e w7 ⟨rfl, h7⟩; have H7 := Lib.hid h7; have S7 := Lib.hid ((h7.frm.block _ (heap_lt S5.out) (fun hm => by have := HFP.out _ hm; omega)).trans S5.out); have A7 := Lib.hid ((h7.frm.block _ (heap_lt A5.out) (fun hm => by have := HFP.out _ hm; omega)).trans A5.out); clear h7; obtain ⟨⟨z0, z1, z2, z3, z4⟩, fz⟩ := HZ.out _ A7.out))
  all_goals
    go_split_ands
    go_wp2_with fail
    exact bodyPost_ret (v := .agg (Gr.told u).cells) (results_cell_row rfl _ _ (w.heap.size + 1) 36 (Gr.told u).cells _ _ rfl (store5 A7.out) Try.underlying36 rfl (by kernel_rfl)) rfl
      (by rw [HR.out]; exact ⟨rfl, H7.out.wrap B5.out HFP.out (K := w.heap.size + 1) (by omega) (heap_lt A5.out) store5_frm⟩)
set_option maxHeartbeats 8000000 in
set_option maxRecDepth 100000 in
theorem rdo_9 (h : Gx 50 85 w g c G tb tcap nb ncap hv nv) (hg : G.Good) (x : Stp) (hc : x.check = 0) (hw : G.who x = 0) (_hn : Gr.numBad c.q x = false) (ha : G.after x = 0) (hk : x.k = 9) :
    Calls Try.prog 35 #[.pointer (some ⟨g, 0, none⟩), .agg x.cells] w fun e w' => DoS w w' g c (G.out c.q x 0) (fpOf g tb nb hv nv) e := by
  have B2 := Lib.hid (below_new (below_alloc0 w (.cells x.cells 39)) (.cells zAns 36))
  have S2 := Lib.hid (keep_alloc (.cells zAns 36) (heap_alloc_new w (.cells x.cells 39)))
  have A2 := Lib.hid (heap_two w (.cells x.cells 39) (.cells zAns 36))
  have HG := Lib.hid h
  have HGD := Lib.hid hg
  have HFP := Lib.hid h.lt
  have HK := Lib.hid hk
  have s0 : ((w.alloc (.cells x.cells 39)).alloc (.cells zAns 36)).cell? ⟨w.heap.size, 0, none⟩ = some (.int .i64 x.k) := cell_of_row _ _ _ _ _ _ S2.out
  rw [hk] at s0
  obtain ⟨-, hrn, -⟩ := Stp.check_zero hc
  obtain ⟨ht0, hi0, hf0, hj0⟩ := rng_of hrn
  have hlt' := who_zero (by omega) hw
  obtain ⟨t, ht⟩ : ∃ t : Nat, x.t = (t : Int) := ⟨x.t.toNat, by omega⟩
  have hlt : t < G.thr.length := by omega
  have HT := Lib.hid ht
  have HLT := Lib.hid hlt
  have HOB := Lib.hid (rkind_9 (q := c.q) hk ha).1
  have H16 := Lib.hid (held_few hg hlt)
  obtain ⟨u, hu⟩ : ∃ u, G.pushV x = u := ⟨_, rfl⟩
  have HU := Lib.hid hu
  have HR : Hid (G.out c.q x 0 = (Gr.told u, G.hold (t : Int) u)) := Lib.hid (by
    rw [out_kind hc hw, ← hu, ← ht]
    have e : G.pushV x = (Gr.at? (G.node (Gr.at? (G.held x.t) x.i).2) x.f) := by unfold Gr.pushV; rw [show x.k.toNat = 9 by omega]; rfl
    rw [e, show x.k.toNat = 9 by omega]
    exact (rkind_9 hk ha).2)
  have HS : Hid (∀ W : World, W.heap[w.heap.size]? = some (.cells x.cells 39 (0, 0)) → W.cell? ⟨w.heap.size, 0, none⟩ = some (.int .i64 x.k) ∧ W.cell? ⟨w.heap.size, 1, none⟩ = some (.int .i64 x.t) ∧ W.cell? ⟨w.heap.size, 2, none⟩ = some (.int .i64 x.i) ∧ W.cell? ⟨w.heap.size, 3, none⟩ = some (.int .i64 x.f) ∧ W.cell? ⟨w.heap.size, 4, none⟩ = some (.int .i64 x.j) ∧ W.cell? ⟨w.heap.size, 5, none⟩ = some (.int .i64 x.c) ∧ W.cell? ⟨w.heap.size, 6, none⟩ = some (.int .i64 x.n)) := Lib.hid fun W hb => by
    exact ⟨cell_of_row _ _ _ _ _ _ hb, cell_of_row _ _ _ _ _ _ hb, cell_of_row _ _ _ _ _ _ hb, cell_of_row _ _ _ _ _ _ hb, cell_of_row _ _ _ _ _ _ hb, cell_of_row _ _ _ _ _ _ hb, cell_of_row _ _ _ _ _ _ hb⟩
  have HZ : Hid (∀ W : World, W.heap[w.heap.size + 1]? = some (.cells zAns 36 (0, 0)) → (W.cell? ⟨w.heap.size + 1, 0, none⟩ = some (.int .i64 0) ∧ W.cell? ⟨w.heap.size + 1, 1, none⟩ = some (.int .i64 0) ∧ W.cell? ⟨w.heap.size + 1, 2, none⟩ = some (.int .i64 0) ∧ W.cell? ⟨w.heap.size + 1, 3, none⟩ = some (.int .i64 0) ∧ W.cell? ⟨w.heap.size + 1, 4, none⟩ = some (.int .i64 0)) ∧ ∀ i, W.frozen? ⟨w.heap.size + 1, i, none⟩ = false) := Lib.hid fun W hb => ⟨⟨cell_of_row _ _ _ _ _ _ hb, cell_of_row _ _ _ _ _ _ hb, cell_of_row _ _ _ _ _ _ hb, cell_of_row _ _ _ _ _ _ hb, cell_of_row _ _ _ _ _ _ hb⟩, fun i => frozen_of_row _ _ _ _ _ hb⟩
  have SD : Hid (((w.alloc (.cells x.cells 39)).alloc (.cells zAns 36)).drew.heap[w.heap.size]? = some (.cells x.cells 39 (0, 0))) := Lib.hid S2.out
  have AD : Hid (((w.alloc (.cells x.cells 39)).alloc (.cells zAns 36)).drew.heap[w.heap.size + 1]? = some (.cells zAns 36 (0, 0))) := Lib.hid A2.out
  have GD : Hid (Gx 50 85 ((w.alloc (.cells x.cells 39)).alloc (.cells zAns 36)).drew g c G tb tcap nb ncap hv nv) := Lib.hid (HG.out.below B2.out.drew)
  clear h hg hc hw _hn ha hk hrn hlt' hlt ht hu
  go_enter Try.func35, Try.ntmps35
  go_wp2_with fail
  go_region_held3 (fun W => W.cell? ⟨w.heap.size, 0, none⟩ = some (.int .i64 x.k) ∧ W.cell? ⟨w.heap.size, 1, none⟩ = some (.int .i64 x.t) ∧ W.cell? ⟨w.heap.size, 2, none⟩ = some (.int .i64 x.i) ∧ W.cell? ⟨w.heap.size, 3, none⟩ = some (.int .i64 x.f) ∧ W.cell? ⟨w.heap.size, 4, none⟩ = some (.int .i64 x.j) ∧ W.cell? ⟨w.heap.size, 5, none⟩ = some (.int .i64 x.c) ∧ W.cell? ⟨w.heap.size, 6, none⟩ = some (.int .i64 x.n))
    (first | with_reducible assumption | with_reducible exact HS.out _ SD.out | with_reducible exact HS.out _ S5.out | with_reducible exact HS.out _ S7.out | with_reducible exact HS.out _ (store5_other S7.out (Nat.ne_of_lt (Nat.lt_succ_self _))))
    (first
      | (go_at_call 54; refine (rpushed_9 GD.out HGD.out x HK.out t HT.out HLT.out hi0 hf0 HOB.out).mono ?_; rw [HU.out]; rintro e w5 ⟨rfl, hb5⟩; have B5 : Hid (Below w.heap.size w w5) := Lib.hid (below_next B2.out.drew hb5); have S5 := Lib.hid (keep hb5 SD.out); have A5 := Lib.hid (keep hb5 AD.out); clear hb5)
      | (go_at_call 53; rw [HT.out]; refine (rhold_any (HG.out.below B5.out) t HLT.out u (by have := H16.out; omega)).mono ?_; rintro e w7 ⟨rfl, h7⟩; have H7 := Lib.hid h7; have S7 := Lib.hid ((h7.frm.block _ (heap_lt S5.out) (fun hm => by have := HFP.out _ hm; omega)).trans S5.out); have A7 := Lib.hid ((h7.frm.block _ (heap_lt A5.out) (fun hm => by have := HFP.out _ hm; omega)).trans A5.out); clear h7; obtain ⟨⟨z0, z1, z2, z3, z4⟩, fz⟩ := HZ.out _ A7.out))
  all_goals
    go_split_ands
    go_wp2_with fail
    exact bodyPost_ret (v := .agg (Gr.told u).cells) (results_cell_row rfl _ _ (w.heap.size + 1) 36 (Gr.told u).cells _ _ rfl (store5 A7.out) Try.underlying36 rfl (by kernel_rfl)) rfl
      (by rw [HR.out]; exact ⟨rfl, H7.out.wrap B5.out HFP.out (K := w.heap.size + 1) (by omega) (heap_lt A5.out) store5_frm⟩)
end
end Go.Proofs.Ytaefcmmjeloccaa
