/- The reference graph: Do, of kinds that turn nothing, and of kinds that push. -/
import Derived.Test.YtaefcmmjeloccaaGsP
namespace Go.Proofs.Ytaefcmmjeloccaa
open Go.RowKit

/-- What the reference's Do comes to. -/
def DoS (w w' : World) (g : Nat) (c : Cfg) (r : Ans × Gr) (fp : List Nat) (e : Ending) : Prop :=
  e = .returned (.agg r.1.cells) ∧ GTo 50 85 w w' g c r.2 fp
theorem gto_below {GT TT : TypeId} {w w' : World} {g : Nat} {c : Cfg} {G : Gr} {tb tcap nb ncap : Nat} {hv nv : List Value} (h : Gx GT TT w g c G tb tcap nb ncap hv nv) (hb : Below w.heap.size w w') : GTo GT TT w w' g c G (fpOf g tb nb hv nv) :=
  ⟨tb, tcap, nb, ncap, hv, nv, h.below hb, Frm.of_below _ hb, fresh_sub fun _ h => h⟩
theorem push_ok {G : Gr} {t : Int} {v : Vl} (h : ¬ 16 ≤ (G.held t).length) : G.push t v = (Gr.told v, G.hold t v) := by unfold Gr.push; rw [if_neg h]
theorem store5 {w : World} {K : Nat} {T : TypeId} {a0 a1 a2 a3 a4 : Value} (h : w.heap[K]? = some (.cells zAns T (0, 0))) :
    (((((w.setCell ⟨K, 0, none⟩ a0).setCell ⟨K, 1, none⟩ a1).setCell ⟨K, 2, none⟩ a2).setCell ⟨K, 3, none⟩ a3).setCell ⟨K, 4, none⟩ a4).heap[K]? = some (.cells #[a0, a1, a2, a3, a4] T (0, 0)) := by
  have h1 := heap_setCell_same w K 0 _ _ a0 h
  have h2 := heap_setCell_same _ K 1 _ _ a1 h1
  have h3 := heap_setCell_same _ K 2 _ _ a2 h2
  have h4 := heap_setCell_same _ K 3 _ _ a3 h3
  exact heap_setCell_same _ K 4 _ _ a4 h4
theorem store5_other {w : World} {K B : Nat} {o : Obj} {a0 a1 a2 a3 a4 : Value} (h : w.heap[B]? = some o) (hne : B ≠ K) :
    (((((w.setCell ⟨K, 0, none⟩ a0).setCell ⟨K, 1, none⟩ a1).setCell ⟨K, 2, none⟩ a2).setCell ⟨K, 3, none⟩ a3).setCell ⟨K, 4, none⟩ a4).heap[B]? = some o := by
  rw [heap_setCell_other _ _ _ _ hne, heap_setCell_other _ _ _ _ hne, heap_setCell_other _ _ _ _ hne, heap_setCell_other _ _ _ _ hne, heap_setCell_other _ _ _ _ hne]; exact h
theorem store5_frm {w : World} {K : Nat} {a0 a1 a2 a3 a4 : Value} : Frm [K] w (((((w.setCell ⟨K, 0, none⟩ a0).setCell ⟨K, 1, none⟩ a1).setCell ⟨K, 2, none⟩ a2).setCell ⟨K, 3, none⟩ a3).setCell ⟨K, 4, none⟩ a4) :=
  ((((Frm.setCell w (p := ⟨K, 0, none⟩) (by simp) a0).trans (Frm.setCell _ (p := ⟨K, 1, none⟩) (by simp) a1) (fresh_sub fun _ h => h)).trans (Frm.setCell _ (p := ⟨K, 2, none⟩) (by simp) a2) (fresh_sub fun _ h => h)).trans (Frm.setCell _ (p := ⟨K, 3, none⟩) (by simp) a3) (fresh_sub fun _ h => h)).trans (Frm.setCell _ (p := ⟨K, 4, none⟩) (by simp) a4) (fresh_sub fun _ h => h)
section
variable {G : Gr} {q : Int} {x : Stp}
theorem rkind_14 : G.kind q x 0 14 = (Ans.zero, G) := rfl
theorem rkind_17 : G.kind q x 0 17 = (Ans.zero, G) := rfl
theorem rkind_13 (hk : x.k = 13) (hn : Gr.numBad q x = false) : G.kind q x 0 13 = (Ans.zero, G) := by
  have h1 : Gr.badN x 1 64 = false := by unfold Gr.numBad at hn; rw [hk] at hn; simpa using hn
  show (if Gr.badN x 1 64 then _ else _) = _
  rw [h1]; rfl
theorem rkind_16 (hk : x.k = 16) (hn : Gr.numBad q x = false) : G.kind q x 0 16 = (Ans.zero, G) := by
  have h1 : Gr.badN x 1 64 = false := by unfold Gr.numBad at hn; rw [hk] at hn; simpa using hn
  show (if Gr.badN x 1 64 then _ else _) = _
  rw [h1]; rfl
theorem rkind_15 (hk : x.k = 15) (hn : Gr.numBad q x = false) : G.kind q x 0 15 = (Ans.zero, G) := by
  have h1 : Gr.badN x 1 64 = false ∧ Gr.badCost q x = false := by unfold Gr.numBad at hn; rw [hk] at hn; simpa using hn
  show (if Gr.badCost q x || Gr.badN x 1 64 then _ else if (0 : Int) ≠ 0 then _ else _) = _
  rw [h1.1, h1.2]; rfl
theorem rkind_4 (hk : x.k = 4) (hn : Gr.numBad q x = false) (ha : G.after x = 0) : G.kind q x 0 4 = (Gr.told (1, x.n), G.hold x.t (1, x.n)) := by
  have h1 : Gr.badN x (-1099511627776) 1099511627775 = false := by unfold Gr.numBad at hn; rw [hk] at hn; simpa using hn
  have h2 : (if 16 ≤ (G.held x.t).length then (3 : Int) else 0) = 0 := by unfold Gr.after at ha; rw [show x.k.toNat = 4 by omega] at ha; exact ha
  have h3 : ¬ 16 ≤ (G.held x.t).length := fun h => by rw [if_pos h] at h2; exact absurd h2 (by decide)
  show (if Gr.badN x (-1099511627776) 1099511627775 then _ else G.push x.t (1, x.n)) = _
  rw [h1, if_neg (by decide), push_ok h3]
theorem rkind_5 (hk : x.k = 5) (ha : G.after x = 0) : G.kind q x 0 5 = (Gr.told (0, 0), G.hold x.t (0, 0)) := by
  have h2 : (if 16 ≤ (G.held x.t).length then (3 : Int) else 0) = 0 := by unfold Gr.after at ha; rw [show x.k.toNat = 5 by omega] at ha; exact ha
  have h3 : ¬ 16 ≤ (G.held x.t).length := fun h => by rw [if_pos h] at h2; exact absurd h2 (by decide)
  exact push_ok h3
theorem rkind_6 (hk : x.k = 6) (ha : G.after x = 0) : G.kind q x 0 6 = (Gr.told (2, 0), G.hold x.t (2, 0)) := by
  have h2 : (if 16 ≤ (G.held x.t).length then (3 : Int) else 0) = 0 := by unfold Gr.after at ha; rw [show x.k.toNat = 6 by omega] at ha; exact ha
  have h3 : ¬ 16 ≤ (G.held x.t).length := fun h => by rw [if_pos h] at h2; exact absurd h2 (by decide)
  exact push_ok h3
theorem rkind_7 (hk : x.k = 7) (ha : G.after x = 0) : x.i < ((G.held x.t).length : Int) ∧ G.kind q x 0 7 = (Gr.told (Gr.at? (G.held x.t) x.i), G.hold x.t (Gr.at? (G.held x.t) x.i)) := by
  have h2 : (if ((G.held x.t).length : Int) ≤ x.i then (4 : Int) else if 16 ≤ (G.held x.t).length then 3 else 0) = 0 := by unfold Gr.after at ha; rw [show x.k.toNat = 7 by omega] at ha; exact ha
  have h3 : ¬ ((G.held x.t).length : Int) ≤ x.i := fun h => by rw [if_pos h] at h2; exact absurd h2 (by decide)
  have h4 : ¬ 16 ≤ (G.held x.t).length := fun h => by rw [if_neg h3, if_pos h] at h2; exact absurd h2 (by decide)
  refine ⟨by omega, ?_⟩
  show (if ((G.held x.t).length : Int) ≤ x.i then _ else G.push x.t _) = _
  rw [if_neg h3, push_ok h4]
theorem rkind_9 (hk : x.k = 9) (ha : G.after x = 0) : G.object x true = 0 ∧ G.kind q x 0 9 = (Gr.told (Gr.at? (G.node (Gr.at? (G.held x.t) x.i).2) x.f), G.hold x.t (Gr.at? (G.node (Gr.at? (G.held x.t) x.i).2) x.f)) := by
  have h2 : (if G.object x true ≠ 0 then G.object x true else if 16 ≤ (G.held x.t).length then 3 else 0) = 0 := by unfold Gr.after at ha; rw [show x.k.toNat = 9 by omega] at ha; exact ha
  have h3 : G.object x true = 0 := by
    by_cases h : G.object x true = 0
    · exact h
    · rw [if_pos h] at h2; exact h2
  have h4 : ¬ 16 ≤ (G.held x.t).length := fun h => by rw [if_neg (by rw [h3]; simp), if_pos h] at h2; exact absurd h2 (by decide)
  refine ⟨h3, ?_⟩
  show (if G.object x true ≠ 0 then _ else G.push x.t _) = _
  rw [if_neg (by rw [h3]; simp), push_ok h4]
theorem held_few (hg : G.Good) {t : Nat} (hlt : t < G.thr.length) : (G.held (t : Int)).length ≤ 16 := by
  refine hg.roots (G.thr.getD t Th.none) ?_
  rw [List.getD_eq_getElem?_getD, List.getElem?_eq_getElem hlt]
  exact List.getElem_mem _
end
section
variable {w : World} {g : Nat} {c : Cfg} {G : Gr} {tb tcap nb ncap : Nat} {hv nv : List Value}
set_option maxHeartbeats 8000000 in
set_option maxRecDepth 100000 in
theorem rdo_13 (h : Gx 50 85 w g c G tb tcap nb ncap hv nv) (hg : G.Good) (x : Stp) (hc : x.check = 0) (hw : G.who x = 0) (hn : Gr.numBad c.q x = false) (_ha : G.after x = 0) (hk : x.k = 13) :
    Calls Try.prog 35 #[.pointer (some ⟨g, 0, none⟩), .agg x.cells] w fun e w' => DoS w w' g c (G.out c.q x 0) (fpOf g tb nb hv nv) e := by
  have B2 := Lib.hid (below_new (below_alloc0 w (.cells x.cells 39)) (.cells zAns 36))
  have S2 := Lib.hid (keep_alloc (.cells zAns 36) (heap_alloc_new w (.cells x.cells 39)))
  have A2 := Lib.hid (heap_two w (.cells x.cells 39) (.cells zAns 36))
  have HG := Lib.hid h
  have HGD := Lib.hid hg
  have HFP := Lib.hid h.lt
  have HK := Lib.hid hk
  have s0 : ((w.alloc (.cells x.cells 39)).alloc (.cells zAns 36)).cell? ⟨w.heap.size, 0, none⟩ = some (.int .i64 x.k) := cell_of_row _ _ _ _ _ _ S2.out
  rw [hk] at s0
  have HR : Hid (G.out c.q x 0 = (Ans.zero, G)) := Lib.hid (by rw [out_kind hc hw, show x.k.toNat = 13 by omega]; exact rkind_13 hk hn)
  clear h hg hc hw hn _ha hk
  go_enter Try.func35, Try.ntmps35
  go_wp2_with (refine wpList_store_row rfl 36 _ _ rfl (w.heap.size + 1) zAns rfl rfl 36 _ A2.out (by kernel_rfl) rfl (by kernel_rfl) ?_)
  exact bodyPost_ret (v := .agg zAns) (results_cell_row rfl _ _ (w.heap.size + 1) 36 zAns _ _ rfl (heap_setRow_same _ A2.out) Try.underlying36 rfl (by kernel_rfl)) rfl
    (by rw [HR.out]; exact ⟨rfl, gto_below HG.out (below_setRow B2.out (by omega) _)⟩)
set_option maxHeartbeats 8000000 in
set_option maxRecDepth 100000 in
theorem rdo_14 (h : Gx 50 85 w g c G tb tcap nb ncap hv nv) (hg : G.Good) (x : Stp) (hc : x.check = 0) (hw : G.who x = 0) (_hn : Gr.numBad c.q x = false) (_ha : G.after x = 0) (hk : x.k = 14) :
    Calls Try.prog 35 #[.pointer (some ⟨g, 0, none⟩), .agg x.cells] w fun e w' => DoS w w' g c (G.out c.q x 0) (fpOf g tb nb hv nv) e := by
  have B2 := Lib.hid (below_new (below_alloc0 w (.cells x.cells 39)) (.cells zAns 36))
  have S2 := Lib.hid (keep_alloc (.cells zAns 36) (heap_alloc_new w (.cells x.cells 39)))
  have A2 := Lib.hid (heap_two w (.cells x.cells 39) (.cells zAns 36))
  have HG := Lib.hid h
  have HGD := Lib.hid hg
  have HFP := Lib.hid h.lt
  have HK := Lib.hid hk
  have s0 : ((w.alloc (.cells x.cells 39)).alloc (.cells zAns 36)).cell? ⟨w.heap.size, 0, none⟩ = some (.int .i64 x.k) := cell_of_row _ _ _ _ _ _ S2.out
  rw [hk] at s0
  have HR : Hid (G.out c.q x 0 = (Ans.zero, G)) := Lib.hid (by rw [out_kind hc hw, show x.k.toNat = 14 by omega]; exact rkind_14)
  clear h hg hc hw _hn _ha hk
  go_enter Try.func35, Try.ntmps35
  go_wp2_with (refine wpList_store_row rfl 36 _ _ rfl (w.heap.size + 1) zAns rfl rfl 36 _ A2.out (by kernel_rfl) rfl (by kernel_rfl) ?_)
  exact bodyPost_ret (v := .agg zAns) (results_cell_row rfl _ _ (w.heap.size + 1) 36 zAns _ _ rfl (heap_setRow_same _ A2.out) Try.underlying36 rfl (by kernel_rfl)) rfl
    (by rw [HR.out]; exact ⟨rfl, gto_below HG.out (below_setRow B2.out (by omega) _)⟩)
set_option maxHeartbeats 8000000 in
set_option maxRecDepth 100000 in
theorem rdo_15 (h : Gx 50 85 w g c G tb tcap nb ncap hv nv) (hg : G.Good) (x : Stp) (hc : x.check = 0) (hw : G.who x = 0) (hn : Gr.numBad c.q x = false) (_ha : G.after x = 0) (hk : x.k = 15) :
    Calls Try.prog 35 #[.pointer (some ⟨g, 0, none⟩), .agg x.cells] w fun e w' => DoS w w' g c (G.out c.q x 0) (fpOf g tb nb hv nv) e := by
  have B2 := Lib.hid (below_new (below_alloc0 w (.cells x.cells 39)) (.cells zAns 36))
  have S2 := Lib.hid (keep_alloc (.cells zAns 36) (heap_alloc_new w (.cells x.cells 39)))
  have A2 := Lib.hid (heap_two w (.cells x.cells 39) (.cells zAns 36))
  have HG := Lib.hid h
  have HGD := Lib.hid hg
  have HFP := Lib.hid h.lt
  have HK := Lib.hid hk
  have s0 : ((w.alloc (.cells x.cells 39)).alloc (.cells zAns 36)).cell? ⟨w.heap.size, 0, none⟩ = some (.int .i64 x.k) := cell_of_row _ _ _ _ _ _ S2.out
  rw [hk] at s0
  have HR : Hid (G.out c.q x 0 = (Ans.zero, G)) := Lib.hid (by rw [out_kind hc hw, show x.k.toNat = 15 by omega]; exact rkind_15 hk hn)
  clear h hg hc hw hn _ha hk
  go_enter Try.func35, Try.ntmps35
  go_wp2_with (refine wpList_store_row rfl 36 _ _ rfl (w.heap.size + 1) zAns rfl rfl 36 _ A2.out (by kernel_rfl) rfl (by kernel_rfl) ?_)
  exact bodyPost_ret (v := .agg zAns) (results_cell_row rfl _ _ (w.heap.size + 1) 36 zAns _ _ rfl (heap_setRow_same _ A2.out) Try.underlying36 rfl (by kernel_rfl)) rfl
    (by rw [HR.out]; exact ⟨rfl, gto_below HG.out (below_setRow B2.out (by omega) _)⟩)
set_option maxHeartbeats 8000000 in
set_option maxRecDepth 100000 in
theorem rdo_16 (h : Gx 50 85 w g c G tb tcap nb ncap hv nv) (hg : G.Good) (x : Stp) (hc : x.check = 0) (hw : G.who x = 0) (hn : Gr.numBad c.q x = false) (_ha : G.after x = 0) (hk : x.k = 16) :
    Calls Try.prog 35 #[.pointer (some ⟨g, 0, none⟩), .agg x.cells] w fun e w' => DoS w w' g c (G.out c.q x 0) (fpOf g tb nb hv nv) e := by
  have B2 := Lib.hid (below_new (below_alloc0 w (.cells x.cells 39)) (.cells zAns 36))
  have S2 := Lib.hid (keep_alloc (.cells zAns 36) (heap_alloc_new w (.cells x.cells 39)))
  have A2 := Lib.hid (heap_two w (.cells x.cells 39) (.cells zAns 36))
  have HG := Lib.hid h
  have HGD := Lib.hid hg
  have HFP := Lib.hid h.lt
  have HK := Lib.hid hk
  have s0 : ((w.alloc (.cells x.cells 39)).alloc (.cells zAns 36)).cell? ⟨w.heap.size, 0, none⟩ = some (.int .i64 x.k) := cell_of_row _ _ _ _ _ _ S2.out
  rw [hk] at s0
  have HR : Hid (G.out c.q x 0 = (Ans.zero, G)) := Lib.hid (by rw [out_kind hc hw, show x.k.toNat = 16 by omega]; exact rkind_16 hk hn)
  clear h hg hc hw hn _ha hk
  go_enter Try.func35, Try.ntmps35
  go_wp2_with (refine wpList_store_row rfl 36 _ _ rfl (w.heap.size + 1) zAns rfl rfl 36 _ A2.out (by kernel_rfl) rfl (by kernel_rfl) ?_)
  exact bodyPost_ret (v := .agg zAns) (results_cell_row rfl _ _ (w.heap.size + 1) 36 zAns _ _ rfl (heap_setRow_same _ A2.out) Try.underlying36 rfl (by kernel_rfl)) rfl
    (by rw [HR.out]; exact ⟨rfl, gto_below HG.out (below_setRow B2.out (by omega) _)⟩)
set_option maxHeartbeats 8000000 in
set_option maxRecDepth 100000 in
theorem rdo_17 (h : Gx 50 85 w g c G tb tcap nb ncap hv nv) (hg : G.Good) (x : Stp) (hc : x.check = 0) (hw : G.who x = 0) (_hn : Gr.numBad c.q x = false) (_ha : G.after x = 0) (hk : x.k = 17) :
    Calls Try.prog 35 #[.pointer (some ⟨g, 0, none⟩), .agg x.cells] w fun e w' => DoS w w' g c (G.out c.q x 0) (fpOf g tb nb hv nv) e := by
  have B2 := Lib.hid (below_new (below_alloc0 w (.cells x.cells 39)) (.cells zAns 36))
  have S2 := Lib.hid (keep_alloc (.cells zAns 36) (heap_alloc_new w (.cells x.cells 39)))
  have A2 := Lib.hid (heap_two w (.cells x.cells 39) (.cells zAns 36))
  have HG := Lib.hid h
  have HGD := Lib.hid hg
  have HFP := Lib.hid h.lt
  have HK := Lib.hid hk
  have s0 : ((w.alloc (.cells x.cells 39)).alloc (.cells zAns 36)).cell? ⟨w.heap.size, 0, none⟩ = some (.int .i64 x.k) := cell_of_row _ _ _ _ _ _ S2.out
  rw [hk] at s0
  have HR : Hid (G.out c.q x 0 = (Ans.zero, G)) := Lib.hid (by rw [out_kind hc hw, show x.k.toNat = 17 by omega]; exact rkind_17)
  clear h hg hc hw _hn _ha hk
  go_enter Try.func35, Try.ntmps35
  go_wp2_with (refine wpList_store_row rfl 36 _ _ rfl (w.heap.size + 1) zAns rfl rfl 36 _ A2.out (by kernel_rfl) rfl (by kernel_rfl) ?_)
  exact bodyPost_ret (v := .agg zAns) (results_cell_row rfl _ _ (w.heap.size + 1) 36 zAns _ _ rfl (heap_setRow_same _ A2.out) Try.underlying36 rfl (by kernel_rfl)) rfl
    (by rw [HR.out]; exact ⟨rfl, gto_below HG.out (below_setRow B2.out (by omega) _)⟩)
end
end Go.Proofs.Ytaefcmmjeloccaa
