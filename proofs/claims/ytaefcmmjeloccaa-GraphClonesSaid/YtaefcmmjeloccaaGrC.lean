/- The graph's asked: kinds that make no object. -/
import Derived.Test.YtaefcmmjeloccaaGrB
namespace Go.Proofs.Ytaefcmmjeloccaa
open Go.RowKit

theorem goutside_b {n lo hi : Int} {b : Bool} (hb : b = (decide (n < lo) || decide (hi < n))) (w : World) :
    Calls Try.prog 33 #[.int .i64 n, .int .i64 lo, .int .i64 hi] w fun e w' => e = .returned (.bool b) ∧ w = w' := by
  rw [hb]; exact goutside_any n lo hi w
section
variable {w : World} {g : Nat} {c : Cfg} {G : Gr} {tb tcap nb ncap : Nat} {hv nv : List Value}
set_option maxHeartbeats 4000000 in
set_option maxRecDepth 100000 in
theorem gasked_17 (h : Gx 60 72 w g c G tb tcap nb ncap hv nv) (x : Stp) (no : Int) (hk : x.k = 17) :
    Calls Try.prog 27 #[.pointer (some ⟨g, 0, none⟩), .agg x.cells, .int .i64 no] w fun e w' => DoR w w' g c (G.kind c.q x no 17) (fpOf g tb nb hv nv) e := by
  have B2 := Lib.hid (below_new (below_alloc0 w (.cells x.cells 39)) (.cells zAns 36))
  have A2 := Lib.hid (heap_two w (.cells x.cells 39) (.cells zAns 36))
  have HG := Lib.hid h
  obtain ⟨g0, g1, g2, g3, g4, g5, g6⟩ := stp_box w x
  rw [hk] at g0
  have s0 := cell_keep (below_alloc0 _ (.cells zAns 36)) g0
  clear h g0 g1 g2 g3 g4 g5 g6
  by_cases hn : no = 0
  · subst hn
    have hr : G.kind c.q x 0 17 = (Ans.zero, G) := rfl
    rw [hr]
    go_enter Try.func27, Try.ntmps27
    go_wp2_with fail
    go_quiet (fail)
    go_wp2_with fail
    go_quiet (fail)
    generalize hw3 : World.drewN _ _ = w3
    have B3 : Hid (Below w.heap.size w w3) := Lib.hid (by rw [← hw3]; (repeat (first | exact B2.out | exact Below.refl _ _ | refine Below.drew ?_ | refine below_new ?_ _ | refine below_drewN ?_ _ | refine Below.setCell ?_ (by first | exact Nat.le_refl _ | (simp only [World.size_alloc]; omega)) _)))
    have A3 : Hid (w3.heap[w.heap.size + 1]? = some (.cells zAns 36 (0, 0))) := Lib.hid (by rw [← hw3]; exact A2.out)
    replace s0 : w3.cell? ⟨w.heap.size, 0, none⟩ = some (.int .i64 17) := by rw [← hw3]; exact s0
    clear hw3
    go_wp2_with (refine wpList_store_row rfl 36 _ _ rfl (w.heap.size + 1) zAns rfl rfl 36 _ A3.out (by kernel_rfl) rfl (by kernel_rfl) ?_)
    exact bodyPost_ret (v := .agg zAns) (results_cell_row rfl _ _ (w.heap.size + 1) 36 zAns _ _ rfl (heap_setRow_same _ A3.out) Try.underlying36 rfl (by kernel_rfl)) rfl
      ⟨rfl, GTo.same HG.out (below_setRow (g := w.heap.size + 1) B3.out (by omega) _)⟩
  · have hr : G.kind c.q x no 17 = (Gr.err no, G) := by
      show (if no ≠ 0 then _ else _) = _
      rw [if_pos hn]
    have dn : (no != 0) = true := by simpa using hn
    rw [hr]
    clear hr hn
    go_enter Try.func27, Try.ntmps27
    go_wp2_with fail
    go_quiet (fail)
    go_wp2_with fail
    go_quiet (fail)
    generalize hw3 : World.drewN _ _ = w3
    have B3 : Hid (Below w.heap.size w w3) := Lib.hid (by rw [← hw3]; (repeat (first | exact B2.out | exact Below.refl _ _ | refine Below.drew ?_ | refine below_new ?_ _ | refine below_drewN ?_ _ | refine Below.setCell ?_ (by first | exact Nat.le_refl _ | (simp only [World.size_alloc]; omega)) _)))
    have A3 : Hid (w3.heap[w.heap.size + 1]? = some (.cells zAns 36 (0, 0))) := Lib.hid (by rw [← hw3]; exact A2.out)
    clear hw3
    go_wp2_with (first
      | (go_at_call 24; refine (gfail_any no _).mono ?_; rintro e w6 ⟨rfl, hb6⟩; have B6 : Hid (Below w.heap.size w w6) := Lib.hid (below_next B3.out hb6); have A6 := Lib.hid (keep hb6 A3.out); clear hb6)
      | (refine wpList_store_row rfl 36 _ _ rfl (w.heap.size + 1) (Gr.err no).cells rfl rfl 36 _ A6.out (by kernel_rfl) rfl (by kernel_rfl) ?_))
    exact bodyPost_ret (v := .agg (Gr.err no).cells) (results_cell_row rfl _ _ (w.heap.size + 1) 36 (Gr.err no).cells _ _ rfl (heap_setRow_same _ A6.out) Try.underlying36 rfl (by kernel_rfl)) rfl
      ⟨rfl, GTo.same HG.out (below_setRow (g := w.heap.size + 1) B6.out (by omega) _)⟩
set_option maxHeartbeats 4000000 in
set_option maxRecDepth 100000 in
theorem gasked_15 (h : Gx 60 72 w g c G tb tcap nb ncap hv nv) (x : Stp) (no : Int) (hk : x.k = 15) :
    Calls Try.prog 27 #[.pointer (some ⟨g, 0, none⟩), .agg x.cells, .int .i64 no] w fun e w' => DoR w w' g c (G.kind c.q x no 15) (fpOf g tb nb hv nv) e := by
  have B2 := Lib.hid (below_new (below_alloc0 w (.cells x.cells 39)) (.cells zAns 36))
  have A2 := Lib.hid (heap_two w (.cells x.cells 39) (.cells zAns 36))
  have HG := Lib.hid h
  obtain ⟨g0, g1, g2, g3, g4, g5, g6⟩ := stp_box w x
  rw [hk] at g0
  have s0 := cell_keep (below_alloc0 _ (.cells zAns 36)) g0
  have s5 := cell_keep (below_alloc0 _ (.cells zAns 36)) g5
  have s6 := cell_keep (below_alloc0 _ (.cells zAns 36)) g6
  obtain ⟨q3, -, -⟩ := (h.below B2.out).head
  clear h g0 g1 g2 g3 g4 g5 g6
  obtain ⟨b1, hb1⟩ : ∃ b1, b1 = (decide (x.c < 1) || decide (c.q < x.c)) := ⟨_, rfl⟩
  obtain ⟨b2, hb2⟩ : ∃ b2, b2 = (decide (x.n < 1) || decide (64 < x.n)) := ⟨_, rfl⟩
  have HB1 := Lib.hid hb1
  have HB2 := Lib.hid hb2
  have hkd : G.kind c.q x no 15 = if b1 || b2 then (Gr.err 4, G) else if no ≠ 0 then (Gr.err no, G) else (Ans.zero, G) := by rw [hb1, hb2]; rfl
  rw [hkd]
  clear hb1 hb2 hkd
  cases b1
  · cases b2
    · by_cases hn : no = 0
      · subst hn
        show Calls _ _ _ _ fun e w' => DoR w w' g c (Ans.zero, G) _ e
        go_enter Try.func27, Try.ntmps27
        go_wp2_with fail
        go_quiet ((go_at_call 33; refine quiet_eq (goutside_b HB1.out _)))
        generalize hw3 : World.drewN _ _ = w3
        have B3 : Hid (Below w.heap.size w w3) := Lib.hid (by rw [← hw3]; (repeat (first | exact B2.out | exact Below.refl _ _ | refine Below.drew ?_ | refine below_new ?_ _ | refine below_drewN ?_ _ | refine Below.setCell ?_ (by first | exact Nat.le_refl _ | (simp only [World.size_alloc]; omega)) _)))
        have A3 : Hid (w3.heap[w.heap.size + 1]? = some (.cells zAns 36 (0, 0))) := Lib.hid (by rw [← hw3]; exact A2.out)
        have s0 : w3.cell? ⟨w.heap.size, 0, none⟩ = some (.int .i64 15) := by rw [← hw3]; exact s0
        have s6 : w3.cell? ⟨w.heap.size, 6, none⟩ = some (.int .i64 x.n) := by rw [← hw3]; exact s6
        clear hw3
        go_wp2_with (go_at_call 33; refine (goutside_b HB2.out _).mono ?_; rintro e w5 ⟨rfl, rfl⟩)
        go_quiet (fail)
        generalize hw4 : World.drewN _ _ = w4
        replace B3 : Hid (Below w.heap.size w w4) := Lib.hid (by rw [← hw4]; exact below_drewN B3.out _)
        replace A3 : Hid (w4.heap[w.heap.size + 1]? = some (.cells zAns 36 (0, 0))) := Lib.hid (by rw [← hw4]; exact A3.out)
        replace s0 : w4.cell? ⟨w.heap.size, 0, none⟩ = some (.int .i64 15) := by rw [← hw4]; exact s0
        clear hw4 s6
        go_wp2_with (refine wpList_store_row rfl 36 _ _ rfl (w.heap.size + 1) zAns rfl rfl 36 _ A3.out (by kernel_rfl) rfl (by kernel_rfl) ?_)
        exact bodyPost_ret (v := .agg zAns) (results_cell_row rfl _ _ (w.heap.size + 1) 36 zAns _ _ rfl (heap_setRow_same _ A3.out) Try.underlying36 rfl (by kernel_rfl)) rfl
          ⟨rfl, GTo.same HG.out (below_setRow (g := w.heap.size + 1) B3.out (by omega) _)⟩
      · have dn : (no != 0) = true := by simpa using hn
        rw [show (if (false || false) = true then (Gr.err 4, G) else if no ≠ 0 then (Gr.err no, G) else (Ans.zero, G)) = (Gr.err no, G) by simp [hn]]
        clear hn
        go_enter Try.func27, Try.ntmps27
        go_wp2_with fail
        go_quiet ((go_at_call 33; refine quiet_eq (goutside_b HB1.out _)))
        generalize hw3 : World.drewN _ _ = w3
        have B3 : Hid (Below w.heap.size w w3) := Lib.hid (by rw [← hw3]; (repeat (first | exact B2.out | exact Below.refl _ _ | refine Below.drew ?_ | refine below_new ?_ _ | refine below_drewN ?_ _ | refine Below.setCell ?_ (by first | exact Nat.le_refl _ | (simp only [World.size_alloc]; omega)) _)))
        have A3 : Hid (w3.heap[w.heap.size + 1]? = some (.cells zAns 36 (0, 0))) := Lib.hid (by rw [← hw3]; exact A2.out)
        have s0 : w3.cell? ⟨w.heap.size, 0, none⟩ = some (.int .i64 15) := by rw [← hw3]; exact s0
        have s6 : w3.cell? ⟨w.heap.size, 6, none⟩ = some (.int .i64 x.n) := by rw [← hw3]; exact s6
        clear hw3
        go_wp2_with (go_at_call 33; refine (goutside_b HB2.out _).mono ?_; rintro e w5 ⟨rfl, rfl⟩)
        go_quiet (fail)
        generalize hw4 : World.drewN _ _ = w4
        replace B3 : Hid (Below w.heap.size w w4) := Lib.hid (by rw [← hw4]; exact below_drewN B3.out _)
        replace A3 : Hid (w4.heap[w.heap.size + 1]? = some (.cells zAns 36 (0, 0))) := Lib.hid (by rw [← hw4]; exact A3.out)
        replace s0 : w4.cell? ⟨w.heap.size, 0, none⟩ = some (.int .i64 15) := by rw [← hw4]; exact s0
        clear hw4 s6
        go_wp2_with (first
          | (go_at_call 24; refine (gfail_any no _).mono ?_; rintro e w6 ⟨rfl, hb6⟩; have B6 : Hid (Below w.heap.size w w6) := Lib.hid (below_next B3.out hb6); have A6 := Lib.hid (keep hb6 A3.out); clear hb6)
          | (refine wpList_store_row rfl 36 _ _ rfl (w.heap.size + 1) (Gr.err no).cells rfl rfl 36 _ A6.out (by kernel_rfl) rfl (by kernel_rfl) ?_))
        exact bodyPost_ret (v := .agg (Gr.err no).cells) (results_cell_row rfl _ _ (w.heap.size + 1) 36 (Gr.err no).cells _ _ rfl (heap_setRow_same _ A6.out) Try.underlying36 rfl (by kernel_rfl)) rfl
          ⟨rfl, GTo.same HG.out (below_setRow (g := w.heap.size + 1) B6.out (by omega) _)⟩
    · show Calls _ _ _ _ fun e w' => DoR w w' g c (Gr.err 4, G) _ e
      go_enter Try.func27, Try.ntmps27
      go_wp2_with fail
      go_quiet ((go_at_call 33; refine quiet_eq (goutside_b HB1.out _)))
      generalize hw3 : World.drewN _ _ = w3
      have B3 : Hid (Below w.heap.size w w3) := Lib.hid (by rw [← hw3]; (repeat (first | exact B2.out | exact Below.refl _ _ | refine Below.drew ?_ | refine below_new ?_ _ | refine below_drewN ?_ _ | refine Below.setCell ?_ (by first | exact Nat.le_refl _ | (simp only [World.size_alloc]; omega)) _)))
      have A3 : Hid (w3.heap[w.heap.size + 1]? = some (.cells zAns 36 (0, 0))) := Lib.hid (by rw [← hw3]; exact A2.out)
      have s0 : w3.cell? ⟨w.heap.size, 0, none⟩ = some (.int .i64 15) := by rw [← hw3]; exact s0
      have s6 : w3.cell? ⟨w.heap.size, 6, none⟩ = some (.int .i64 x.n) := by rw [← hw3]; exact s6
      clear hw3
      go_wp2_with (first
        | (go_at_call 24; refine (gfail_any 4 _).mono ?_; rintro e w6 ⟨rfl, hb6⟩; have B6 : Hid (Below w.heap.size w w6) := Lib.hid (below_next B3.out hb6); have A6 := Lib.hid (keep hb6 A3.out); clear hb6)
        | (refine wpList_store_row rfl 36 _ _ rfl (w.heap.size + 1) (Gr.err 4).cells rfl rfl 36 _ A6.out (by kernel_rfl) rfl (by kernel_rfl) ?_)
        | (go_at_call 33; refine (goutside_b HB2.out _).mono ?_; rintro e w5 ⟨rfl, rfl⟩))
      exact bodyPost_ret (v := .agg (Gr.err 4).cells) (results_cell_row rfl _ _ (w.heap.size + 1) 36 (Gr.err 4).cells _ _ rfl (heap_setRow_same _ A6.out) Try.underlying36 rfl (by kernel_rfl)) rfl
        ⟨rfl, GTo.same HG.out (below_setRow (g := w.heap.size + 1) B6.out (by omega) _)⟩
  · rw [show (if (true || b2) = true then (Gr.err 4, G) else if no ≠ 0 then (Gr.err no, G) else (Ans.zero, G)) = (Gr.err 4, G) by simp]
    go_enter Try.func27, Try.ntmps27
    go_wp2_with fail
    go_quiet ((go_at_call 33; refine quiet_eq (goutside_b HB1.out _)))
    generalize hw3 : World.drewN _ _ = w3
    have B3 : Hid (Below w.heap.size w w3) := Lib.hid (by rw [← hw3]; (repeat (first | exact B2.out | exact Below.refl _ _ | refine Below.drew ?_ | refine below_new ?_ _ | refine below_drewN ?_ _ | refine Below.setCell ?_ (by first | exact Nat.le_refl _ | (simp only [World.size_alloc]; omega)) _)))
    have A3 : Hid (w3.heap[w.heap.size + 1]? = some (.cells zAns 36 (0, 0))) := Lib.hid (by rw [← hw3]; exact A2.out)
    have s0 : w3.cell? ⟨w.heap.size, 0, none⟩ = some (.int .i64 15) := by rw [← hw3]; exact s0
    have s6 : w3.cell? ⟨w.heap.size, 6, none⟩ = some (.int .i64 x.n) := by rw [← hw3]; exact s6
    clear hw3
    go_wp2_with (first
      | (go_at_call 24; refine (gfail_any 4 _).mono ?_; rintro e w6 ⟨rfl, hb6⟩; have B6 : Hid (Below w.heap.size w w6) := Lib.hid (below_next B3.out hb6); have A6 := Lib.hid (keep hb6 A3.out); clear hb6)
      | (refine wpList_store_row rfl 36 _ _ rfl (w.heap.size + 1) (Gr.err 4).cells rfl rfl 36 _ A6.out (by kernel_rfl) rfl (by kernel_rfl) ?_))
    exact bodyPost_ret (v := .agg (Gr.err 4).cells) (results_cell_row rfl _ _ (w.heap.size + 1) 36 (Gr.err 4).cells _ _ rfl (heap_setRow_same _ A6.out) Try.underlying36 rfl (by kernel_rfl)) rfl
      ⟨rfl, GTo.same HG.out (below_setRow (g := w.heap.size + 1) B6.out (by omega) _)⟩
end
end Go.Proofs.Ytaefcmmjeloccaa
