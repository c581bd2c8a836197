/- The graph's who and field. -/
import Derived.Test.YtaefcmmjeloccaaGr2
namespace Go.Proofs.Ytaefcmmjeloccaa
open Go.RowKit

-- A walk whose regions only read, in whatever order.
/-- The boxed step's cells. -/
theorem stp_box (w : World) (x : Stp) : let W := w.alloc (.cells x.cells 39)
    W.cell? ⟨w.heap.size, 0, none⟩ = some (.int .i64 x.k) ∧ W.cell? ⟨w.heap.size, 1, none⟩ = some (.int .i64 x.t) ∧ W.cell? ⟨w.heap.size, 2, none⟩ = some (.int .i64 x.i) ∧ W.cell? ⟨w.heap.size, 3, none⟩ = some (.int .i64 x.f) ∧ W.cell? ⟨w.heap.size, 4, none⟩ = some (.int .i64 x.j) ∧ W.cell? ⟨w.heap.size, 5, none⟩ = some (.int .i64 x.c) ∧ W.cell? ⟨w.heap.size, 6, none⟩ = some (.int .i64 x.n) :=
  ⟨cell_of_row _ _ _ _ _ _ (heap_alloc_new w _), cell_of_row _ _ _ _ _ _ (heap_alloc_new w _), cell_of_row _ _ _ _ _ _ (heap_alloc_new w _), cell_of_row _ _ _ _ _ _ (heap_alloc_new w _), cell_of_row _ _ _ _ _ _ (heap_alloc_new w _), cell_of_row _ _ _ _ _ _ (heap_alloc_new w _), cell_of_row _ _ _ _ _ _ (heap_alloc_new w _)⟩

section
variable {w : World} {g : Nat} {c : Cfg} {G : Gr} {tb tcap nb ncap : Nat} {hv nv : List Value}
set_option maxHeartbeats 1000000 in
theorem gwho_any (h : Gx 60 72 w g c G tb tcap nb ncap hv nv) (x : Stp) (ht : 0 ≤ x.t) :
    Calls Try.prog 26 #[.pointer (some ⟨g, 0, none⟩), .agg x.cells] w fun e w' => e = .returned (.int .i64 (G.who x)) ∧ Below w.heap.size w w' := by
  have B0 := Lib.hid (below_alloc0 w (.cells x.cells 39))
  obtain ⟨g0, g1, g2, g3, g4, g5, g6⟩ := stp_box w x
  by_cases hk : 16 ≤ x.k
  · have hr : G.who x = 0 := by unfold Gr.who; rw [if_pos hk]
    rw [hr]
    go_enter Try.func26, Try.ntmps26
    go_wp2_with fail
    go_ret
    exact ⟨rfl, B0.out⟩
  have hG := h.below B0.out
  obtain ⟨q3, q10, q11⟩ := hG.head
  by_cases hl : (G.thr.length : Int) ≤ x.t
  · have hr : G.who x = 4 := by unfold Gr.who; rw [if_neg hk, if_pos hl]
    rw [hr]
    have d1 : decide ((G.thr.length : Int) ≤ x.t) = true := by simpa using hl
    clear hG h
    go_enter Try.func26, Try.ntmps26
    (go_wp2_with fail; repeat (go_quiet (fail); go_wp2_with fail))
    go_ret
    exact ⟨rfl, by (repeat (first | exact B0.out | refine below_drewN ?_ _))⟩
  obtain ⟨t, htt⟩ : ∃ t : Nat, x.t = (t : Int) := ⟨x.t.toNat, by omega⟩
  rw [htt] at g1 hl
  have hlt : t < G.thr.length := by omega
  obtain ⟨t0, t1⟩ := hG.thread hlt
  have hth : G.th x.t = G.thr.getD t Th.none := by rw [htt]; rfl
  have d1 : decide ((G.thr.length : Int) ≤ (t : Int)) = false := by simp; omega
  have i1 : (0 : Int) ≤ (t : Int) := by omega
  have i2 : (t : Int) < (G.thr.length : Int) := by omega
  obtain ⟨b, hb⟩ : ∃ b, b = (G.thr.getD t Th.none).live := ⟨_, rfl⟩
  have hr : G.who x = if x.k = 1 ∧ b = true then 9 else if x.k ≠ 1 ∧ b = false then 14 else 0 := by unfold Gr.who; rw [if_neg hk, if_neg (by omega), hth, ← hb]
  rw [← hb] at t0
  clear hG h hb hth t1 q3 q11 g2 g3 g4 g5 g6
  by_cases h1 : x.k = 1
  · have dk1 : decide (x.k = 1) = true := by simpa using h1
    cases b
    · have e : G.who x = 0 := by rw [hr]; simp [h1]
      rw [e]
      clear hr e
      go_enter Try.func26, Try.ntmps26
      (go_wp2_with fail; repeat (go_quiet (fail); go_wp2_with fail))
      go_ret
      exact ⟨rfl, by (repeat (first | exact B0.out | refine below_drewN ?_ _))⟩
    · have e : G.who x = 9 := by rw [hr]; simp [h1]
      rw [e]
      clear hr e
      go_enter Try.func26, Try.ntmps26
      (go_wp2_with fail; repeat (go_quiet (fail); go_wp2_with fail))
      go_ret
      exact ⟨rfl, by (repeat (first | exact B0.out | refine below_drewN ?_ _))⟩
  · have dk1 : decide (x.k = 1) = false := by simpa using h1
    have dk2 : (x.k != 1) = true := by simpa using h1
    cases b
    · have e : G.who x = 14 := by rw [hr]; simp [h1]
      rw [e]
      clear hr e
      go_enter Try.func26, Try.ntmps26
      (go_wp2_with fail; repeat (go_quiet (fail); go_wp2_with fail))
      go_ret
      exact ⟨rfl, by (repeat (first | exact B0.out | refine below_drewN ?_ _))⟩
    · have e : G.who x = 0 := by rw [hr]; simp [h1]
      rw [e]
      clear hr e
      go_enter Try.func26, Try.ntmps26
      (go_wp2_with fail; repeat (go_quiet (fail); go_wp2_with fail))
      go_ret
      exact ⟨rfl, by (repeat (first | exact B0.out | refine below_drewN ?_ _))⟩
end
end Go.Proofs.Ytaefcmmjeloccaa
