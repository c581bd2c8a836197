/- The reference graph: pushed. -/
import Derived.Test.YtaefcmmjeloccaaGsC
namespace Go.Proofs.Ytaefcmmjeloccaa
open Go.RowKit

/-- The value that a step pushes. -/
def Gr.pushV (G : Gr) (x : Stp) : Vl := match x.k.toNat with
  | 4 => (1, x.n)
  | 5 => (0, 0)
  | 6 => (2, 0)
  | 7 => at? (G.held x.t) x.i
  | 9 => at? (G.node (at? (G.held x.t) x.i).2) x.f
  | _ => (0, 0)
section
variable {w : World} {g : Nat} {c : Cfg} {G : Gr} {tb tcap nb ncap : Nat} {hv nv : List Value}
set_option maxHeartbeats 4000000 in
set_option maxRecDepth 100000 in
theorem rpushed_4 (h : Gx 50 85 w g c G tb tcap nb ncap hv nv) (_hg : G.Good) (x : Stp) (hk : x.k = 4) (t : Nat) (ht : x.t = (t : Int)) (hlt : t < G.thr.length) :
    Calls Try.prog 54 #[.pointer (some ⟨g, 0, none⟩), .agg x.cells] w fun e w' => e = .returned (.agg #[.int .i64 (G.pushV x).1, .int .i64 (G.pushV x).2]) ∧ Below w.heap.size w w' := by
  have B2 := Lib.hid (below_new (below_alloc0 w (.cells x.cells 39)) (.cells #[.int .i64 0, .int .i64 0] 57))
  have A2 := Lib.hid (heap_two w (.cells x.cells 39) (.cells #[.int .i64 0, .int .i64 0] 57))
  obtain ⟨a0, a1, a2, a3, a4, a5, a6⟩ := stp_box w x
  rw [hk] at a0
  rw [ht] at a1
  have HB := Lib.hid (below_alloc0 (w.alloc (.cells x.cells 39)) (.cells #[.int .i64 0, .int .i64 0] 57))
  have g0 := cell_keep HB.out a0
  have g1 := cell_keep HB.out a1
  have g2 := cell_keep HB.out a2
  have g3 := cell_keep HB.out a3
  have g6 := cell_keep HB.out a6
  have hG := h.below B2.out
  obtain ⟨-, q10, q11⟩ := hG.head
  obtain ⟨-, t1⟩ := hG.thread hlt
  have hown := hG.heldRow hlt
  have i1 : (0 : Int) ≤ (t : Int) := by omega
  have i2 : (t : Int) < (G.thr.length : Int) := by omega
  have e : G.pushV x = (1, x.n) := by unfold Gr.pushV; rw [show x.k.toNat = 4 by omega]; rfl
  rw [e]
  obtain ⟨p, cap, hp, -, -⟩ := own_slice hown
  rw [hp] at t1
  clear h _hg hG hown hp hk ht hlt a0 a1 a2 a3 a4 a5 a6 q11 e
  go_enter Try.func54, Try.ntmps54
  go_wp2_with fail
  go_quiet (fail)
  go_wp2_with (refine wpList_store_row rfl 57 _ _ rfl (w.heap.size + 1) #[.int .i64 1, .int .i64 x.n] rfl rfl 57 _ A2.out (by kernel_rfl) rfl (by kernel_rfl) ?_)
  exact bodyPost_ret (v := .agg #[.int .i64 1, .int .i64 x.n]) (results_cell_row rfl _ _ (w.heap.size + 1) 57 #[.int .i64 1, .int .i64 x.n] _ _ rfl (heap_setRow_same _ A2.out) Try.underlying57 rfl (by kernel_rfl)) rfl
    ⟨rfl, below_setRow (by (repeat (first | exact B2.out | exact Below.refl _ _ | refine Below.drew ?_ | refine below_new ?_ _ | refine below_drewN ?_ _ | refine Below.setCell ?_ (by first | exact Nat.le_refl _ | (simp only [World.size_alloc]; omega)) _))) (by omega) _⟩
set_option maxHeartbeats 4000000 in
set_option maxRecDepth 100000 in
theorem rpushed_5 (h : Gx 50 85 w g c G tb tcap nb ncap hv nv) (_hg : G.Good) (x : Stp) (hk : x.k = 5) (t : Nat) (ht : x.t = (t : Int)) (hlt : t < G.thr.length) :
    Calls Try.prog 54 #[.pointer (some ⟨g, 0, none⟩), .agg x.cells] w fun e w' => e = .returned (.agg #[.int .i64 (G.pushV x).1, .int .i64 (G.pushV x).2]) ∧ Below w.heap.size w w' := by
  have B2 := Lib.hid (below_new (below_alloc0 w (.cells x.cells 39)) (.cells #[.int .i64 0, .int .i64 0] 57))
  have A2 := Lib.hid (heap_two w (.cells x.cells 39) (.cells #[.int .i64 0, .int .i64 0] 57))
  obtain ⟨a0, a1, a2, a3, a4, a5, a6⟩ := stp_box w x
  rw [hk] at a0
  rw [ht] at a1
  have HB := Lib.hid (below_alloc0 (w.alloc (.cells x.cells 39)) (.cells #[.int .i64 0, .int .i64 0] 57))
  have g0 := cell_keep HB.out a0
  have g1 := cell_keep HB.out a1
  have g2 := cell_keep HB.out a2
  have g3 := cell_keep HB.out a3
  have g6 := cell_keep HB.out a6
  have hG := h.below B2.out
  obtain ⟨-, q10, q11⟩ := hG.head
  obtain ⟨-, t1⟩ := hG.thread hlt
  have hown := hG.heldRow hlt
  have i1 : (0 : Int) ≤ (t : Int) := by omega
  have i2 : (t : Int) < (G.thr.length : Int) := by omega
  have e : G.pushV x = (0, 0) := by unfold Gr.pushV; rw [show x.k.toNat = 5 by omega]; rfl
  rw [e]
  obtain ⟨p, cap, hp, -, -⟩ := own_slice hown
  rw [hp] at t1
  clear h _hg hG hown hp hk ht hlt a0 a1 a2 a3 a4 a5 a6 q11 e
  go_enter Try.func54, Try.ntmps54
  go_wp2_with fail
  go_quiet (fail)
  go_wp2_with (refine wpList_store_row rfl 57 _ _ rfl (w.heap.size + 1) #[.int .i64 0, .int .i64 0] rfl rfl 57 _ A2.out (by kernel_rfl) rfl (by kernel_rfl) ?_)
  exact bodyPost_ret (v := .agg #[.int .i64 0, .int .i64 0]) (results_cell_row rfl _ _ (w.heap.size + 1) 57 #[.int .i64 0, .int .i64 0] _ _ rfl (heap_setRow_same _ A2.out) Try.underlying57 rfl (by kernel_rfl)) rfl
    ⟨rfl, below_setRow (by (repeat (first | exact B2.out | exact Below.refl _ _ | refine Below.drew ?_ | refine below_new ?_ _ | refine below_drewN ?_ _ | refine Below.setCell ?_ (by first | exact Nat.le_refl _ | (simp only [World.size_alloc]; omega)) _))) (by omega) _⟩
set_option maxHeartbeats 4000000 in
set_option maxRecDepth 100000 in
theorem rpushed_6 (h : Gx 50 85 w g c G tb tcap nb ncap hv nv) (_hg : G.Good) (x : Stp) (hk : x.k = 6) (t : Nat) (ht : x.t = (t : Int)) (hlt : t < G.thr.length) :
    Calls Try.prog 54 #[.pointer (some ⟨g, 0, none⟩), .agg x.cells] w fun e w' => e = .returned (.agg #[.int .i64 (G.pushV x).1, .int .i64 (G.pushV x).2]) ∧ Below w.heap.size w w' := by
  have B2 := Lib.hid (below_new (below_alloc0 w (.cells x.cells 39)) (.cells #[.int .i64 0, .int .i64 0] 57))
  have A2 := Lib.hid (heap_two w (.cells x.cells 39) (.cells #[.int .i64 0, .int .i64 0] 57))
  obtain ⟨a0, a1, a2, a3, a4, a5, a6⟩ := stp_box w x
  rw [hk] at a0
  rw [ht] at a1
  have HB := Lib.hid (below_alloc0 (w.alloc (.cells x.cells 39)) (.cells #[.int .i64 0, .int .i64 0] 57))
  have g0 := cell_keep HB.out a0
  have g1 := cell_keep HB.out a1
  have g2 := cell_keep HB.out a2
  have g3 := cell_keep HB.out a3
  have g6 := cell_keep HB.out a6
  have hG := h.below B2.out
  obtain ⟨-, q10, q11⟩ := hG.head
  obtain ⟨-, t1⟩ := hG.thread hlt
  have hown := hG.heldRow hlt
  have i1 : (0 : Int) ≤ (t : Int) := by omega
  have i2 : (t : Int) < (G.thr.length : Int) := by omega
  have e : G.pushV x = (2, 0) := by unfold Gr.pushV; rw [show x.k.toNat = 6 by omega]; rfl
  rw [e]
  obtain ⟨p, cap, hp, -, -⟩ := own_slice hown
  rw [hp] at t1
  clear h _hg hG hown hp hk ht hlt a0 a1 a2 a3 a4 a5 a6 q11 e
  go_enter Try.func54, Try.ntmps54
  go_wp2_with fail
  go_quiet (fail)
  go_wp2_with (refine wpList_store_row rfl 57 _ _ rfl (w.heap.size + 1) #[.int .i64 2, .int .i64 0] rfl rfl 57 _ A2.out (by kernel_rfl) rfl (by kernel_rfl) ?_)
  exact bodyPost_ret (v := .agg #[.int .i64 2, .int .i64 0]) (results_cell_row rfl _ _ (w.heap.size + 1) 57 #[.int .i64 2, .int .i64 0] _ _ rfl (heap_setRow_same _ A2.out) Try.underlying57 rfl (by kernel_rfl)) rfl
    ⟨rfl, below_setRow (by (repeat (first | exact B2.out | exact Below.refl _ _ | refine Below.drew ?_ | refine below_new ?_ _ | refine below_drewN ?_ _ | refine Below.setCell ?_ (by first | exact Nat.le_refl _ | (simp only [World.size_alloc]; omega)) _))) (by omega) _⟩
set_option maxHeartbeats 4000000 in
set_option maxRecDepth 100000 in
theorem rpushed_7 (h : Gx 50 85 w g c G tb tcap nb ncap hv nv) (_hg : G.Good) (x : Stp) (hk : x.k = 7) (t : Nat) (ht : x.t = (t : Int)) (hlt : t < G.thr.length) (hi : 0 ≤ x.i) (hil : x.i < ((G.held x.t).length : Int)) :
    Calls Try.prog 54 #[.pointer (some ⟨g, 0, none⟩), .agg x.cells] w fun e w' => e = .returned (.agg #[.int .i64 (G.pushV x).1, .int .i64 (G.pushV x).2]) ∧ Below w.heap.size w w' := by
  have B2 := Lib.hid (below_new (below_alloc0 w (.cells x.cells 39)) (.cells #[.int .i64 0, .int .i64 0] 57))
  have A2 := Lib.hid (heap_two w (.cells x.cells 39) (.cells #[.int .i64 0, .int .i64 0] 57))
  obtain ⟨a0, a1, a2, a3, a4, a5, a6⟩ := stp_box w x
  rw [hk] at a0
  rw [ht] at a1
  have HB := Lib.hid (below_alloc0 (w.alloc (.cells x.cells 39)) (.cells #[.int .i64 0, .int .i64 0] 57))
  have g0 := cell_keep HB.out a0
  have g1 := cell_keep HB.out a1
  have g2 := cell_keep HB.out a2
  have g3 := cell_keep HB.out a3
  have g6 := cell_keep HB.out a6
  have hG := h.below B2.out
  obtain ⟨-, q10, q11⟩ := hG.head
  obtain ⟨-, t1⟩ := hG.thread hlt
  have hown := hG.heldRow hlt
  have i1 : (0 : Int) ≤ (t : Int) := by omega
  have i2 : (t : Int) < (G.thr.length : Int) := by omega
  have e : G.pushV x = Gr.at? (G.held x.t) x.i := by unfold Gr.pushV; rw [show x.k.toNat = 7 by omega]; rfl
  rw [e]
  have hh : G.held x.t = (G.thr.getD t Th.none).held := by rw [ht]; rfl
  rw [hh] at hil ⊢
  obtain ⟨i, hii⟩ : ∃ i : Nat, x.i = (i : Int) := ⟨x.i.toNat, by omega⟩
  rw [hii] at g2 hil ⊢
  obtain ⟨u, hu⟩ : ∃ u, u = Gr.at? (G.thr.getD t Th.none).held (i : Int) := ⟨_, rfl⟩
  rw [← hu]
  obtain ⟨b, cap, hp⟩ := own_pos hown (by omega)
  rw [hp] at t1 hown
  obtain ⟨v0, v1⟩ := own_val hown (j := i) (by omega)
  rw [show (G.thr.getD t Th.none).held.getD i (0, 0) = u from hu.symm] at v0 v1
  have i3 : (0 : Int) ≤ (i : Int) := by omega
  have i4 : (i : Int) < ((G.thr.getD t Th.none).held.length : Int) := hil
  generalize (G.thr.getD t Th.none).held.length = m at t1 i4
  clear h _hg hG hown hp hk ht hlt a0 a1 a2 a3 a4 a5 a6 q11 e hh hil hi hii hu
  go_enter Try.func54, Try.ntmps54
  go_wp2_with fail
  go_quiet (fail)
  go_wp2_with (refine wpList_store_row rfl 57 _ _ rfl (w.heap.size + 1) #[.int .i64 u.1, .int .i64 u.2] rfl rfl 57 _ A2.out (by kernel_rfl) rfl (by kernel_rfl) ?_)
  exact bodyPost_ret (v := .agg #[.int .i64 u.1, .int .i64 u.2]) (results_cell_row rfl _ _ (w.heap.size + 1) 57 #[.int .i64 u.1, .int .i64 u.2] _ _ rfl (heap_setRow_same _ A2.out) Try.underlying57 rfl (by kernel_rfl)) rfl
    ⟨rfl, below_setRow (by (repeat (first | exact B2.out | exact Below.refl _ _ | refine Below.drew ?_ | refine below_new ?_ _ | refine below_drewN ?_ _ | refine Below.setCell ?_ (by first | exact Nat.le_refl _ | (simp only [World.size_alloc]; omega)) _))) (by omega) _⟩
set_option maxHeartbeats 4000000 in
set_option maxRecDepth 100000 in
theorem rpushed_9 (h : Gx 50 85 w g c G tb tcap nb ncap hv nv) (hg : G.Good) (x : Stp) (hk : x.k = 9) (t : Nat) (ht : x.t = (t : Int)) (hlt : t < G.thr.length) (hi : 0 ≤ x.i) (hf : 0 ≤ x.f) (ho : G.object x true = 0) :
    Calls Try.prog 54 #[.pointer (some ⟨g, 0, none⟩), .agg x.cells] w fun e w' => e = .returned (.agg #[.int .i64 (G.pushV x).1, .int .i64 (G.pushV x).2]) ∧ Below w.heap.size w w' := by
  have B2 := Lib.hid (below_new (below_alloc0 w (.cells x.cells 39)) (.cells #[.int .i64 0, .int .i64 0] 57))
  have A2 := Lib.hid (heap_two w (.cells x.cells 39) (.cells #[.int .i64 0, .int .i64 0] 57))
  obtain ⟨a0, a1, a2, a3, a4, a5, a6⟩ := stp_box w x
  rw [hk] at a0
  rw [ht] at a1
  have HB := Lib.hid (below_alloc0 (w.alloc (.cells x.cells 39)) (.cells #[.int .i64 0, .int .i64 0] 57))
  have g0 := cell_keep HB.out a0
  have g1 := cell_keep HB.out a1
  have g2 := cell_keep HB.out a2
  have g3 := cell_keep HB.out a3
  have g6 := cell_keep HB.out a6
  have hG := h.below B2.out
  obtain ⟨-, q10, q11⟩ := hG.head
  obtain ⟨-, t1⟩ := hG.thread hlt
  have hown := hG.heldRow hlt
  have i1 : (0 : Int) ≤ (t : Int) := by omega
  have i2 : (t : Int) < (G.thr.length : Int) := by omega
  have e : G.pushV x = Gr.at? (G.node (Gr.at? (G.held x.t) x.i).2) x.f := by unfold Gr.pushV; rw [show x.k.toNat = 9 by omega]; rfl
  rw [e]
  obtain ⟨o1, o2, ⟨o3, o4⟩, o5⟩ := object_zero ht hlt hg hi ho
  have hh : G.held x.t = (G.thr.getD t Th.none).held := by rw [ht]; rfl
  rw [hh] at o1 o2 o3 o4 o5 ⊢
  obtain ⟨i, hii⟩ : ∃ i : Nat, x.i = (i : Int) := ⟨x.i.toNat, by omega⟩
  obtain ⟨f, hff⟩ : ∃ f : Nat, x.f = (f : Int) := ⟨x.f.toNat, by omega⟩
  rw [hii] at g2 o1 o2 o3 o4 o5 ⊢
  rw [hff] at g3 o5 ⊢
  obtain ⟨y, hy⟩ : ∃ y, y = Gr.at? (G.thr.getD t Th.none).held (i : Int) := ⟨_, rfl⟩
  rw [← hy] at o2 o3 o4 o5 ⊢
  obtain ⟨s, hs⟩ : ∃ s : Nat, y.2 = (s : Int) := ⟨y.2.toNat, by omega⟩
  obtain ⟨b, cap, hp⟩ := own_pos hown (by omega)
  rw [hp] at t1 hown
  obtain ⟨v0, v1⟩ := own_val hown (j := i) (by omega)
  rw [show (G.thr.getD t Th.none).held.getD i (0, 0) = y from hy.symm, hs] at v1
  rw [hs] at o4 o5 ⊢
  have en : G.node (s : Int) = G.nod.getD s [] := rfl
  rw [en] at o5 ⊢
  obtain ⟨n0, n1⟩ := hG.nodeRow (s := s) (by omega)
  obtain ⟨d, dcap, hd⟩ := own_pos n1 (by omega)
  rw [hd] at n0 n1
  obtain ⟨w0, w1⟩ := own_val n1 (j := f) (by omega)
  obtain ⟨u, hu⟩ : ∃ u, u = Gr.at? (G.nod.getD s []) (f : Int) := ⟨_, rfl⟩
  rw [← hu]
  rw [show (G.nod.getD s []).getD f (0, 0) = u from hu.symm] at w0 w1
  have i3 : (0 : Int) ≤ (i : Int) := by omega
  have i4 : (i : Int) < ((G.thr.getD t Th.none).held.length : Int) := o1
  have i5 : (0 : Int) ≤ (s : Int) := by omega
  have i6 : (s : Int) < (G.nod.length : Int) := o4
  have i7 : (0 : Int) ≤ (f : Int) := by omega
  have i8 : (f : Int) < ((G.nod.getD s []).length : Int) := o5
  generalize (G.thr.getD t Th.none).held.length = m at t1 i4
  generalize (G.nod.getD s []).length = l at n0 i8
  clear h hg hG hown hp hk ht hlt a0 a1 a2 a3 a4 a5 a6 e hh hi hii hu o1 o2 o3 o4 o5 en hd n1 hs hy hff hf ho
  go_enter Try.func54, Try.ntmps54
  go_wp2_with fail
  go_quiet (fail)
  go_wp2_with (refine wpList_store_row rfl 57 _ _ rfl (w.heap.size + 1) #[.int .i64 u.1, .int .i64 u.2] rfl rfl 57 _ A2.out (by kernel_rfl) rfl (by kernel_rfl) ?_)
  refine region_tail 16 (by kernel_rfl) (by kernel_rfl) ?_
  simp only [List.take_succ_cons, List.take_zero, List.drop_succ_cons, List.drop_zero]
  repeat still_step
  refine wpStill_nil ?_
  go_wp2_with (refine wpList_store_row rfl 57 _ _ rfl (w.heap.size + 1) #[.int .i64 u.1, .int .i64 u.2] rfl rfl 57 _ A2.out (by kernel_rfl) rfl (by kernel_rfl) ?_)
  exact bodyPost_ret (v := .agg #[.int .i64 u.1, .int .i64 u.2]) (results_cell_row rfl _ _ (w.heap.size + 1) 57 #[.int .i64 u.1, .int .i64 u.2] _ _ rfl (heap_setRow_same _ A2.out) Try.underlying57 rfl (by kernel_rfl)) rfl
    ⟨rfl, below_setRow (by (repeat (first | exact B2.out | exact Below.refl _ _ | refine Below.drew ?_ | refine below_new ?_ _ | refine below_drewN ?_ _ | refine Below.setCell ?_ (by first | exact Nat.le_refl _ | (simp only [World.size_alloc]; omega)) _))) (by omega) _⟩
end
end Go.Proofs.Ytaefcmmjeloccaa
