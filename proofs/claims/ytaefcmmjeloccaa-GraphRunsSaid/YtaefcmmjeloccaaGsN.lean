/- The reference graph: numbers. -/
import Derived.Test.YtaefcmmjeloccaaGr4
namespace Go.Proofs.Ytaefcmmjeloccaa
open Go.RowKit

/-- A step's numbers may not be. -/
def Gr.numBad (q : Int) (x : Stp) : Bool :=
  (x.k == 3 && (badN x 0 127 || badCost q x)) || (x.k == 4 && badN x (-1099511627776) 1099511627775) || ((x.k == 13 || x.k == 16) && badN x 1 64) || (x.k == 15 && (badN x 1 64 || badCost q x))
section
variable {w : World} {g : Nat} {c : Cfg} {G : Gr} {tb tcap nb ncap : Nat} {hv nv : List Value}
set_option maxHeartbeats 2000000 in
theorem rnumbers_3 (h : Gx 50 85 w g c G tb tcap nb ncap hv nv) (x : Stp) (hk : x.k = 3) :
    Calls Try.prog 51 #[.pointer (some ⟨g, 0, none⟩), .agg x.cells] w fun e w' => e = .returned (.int .i64 (if Gr.numBad c.q x = true then 4 else 0)) ∧ Below w.heap.size w w' := by
  have B0 := Lib.hid (below_alloc0 w (.cells x.cells 39))
  obtain ⟨g0, g1, g2, g3, g4, g5, g6⟩ := stp_box w x
  obtain ⟨q3, -, -⟩ := (h.below B0.out).head
  obtain ⟨b1, h1⟩ : ∃ b, decide (x.c < 1) = b := ⟨_, rfl⟩
  obtain ⟨b2, h2⟩ : ∃ b, decide (c.q < x.c) = b := ⟨_, rfl⟩
  obtain ⟨b3, h3⟩ : ∃ b, decide (x.n < 0) = b := ⟨_, rfl⟩
  obtain ⟨b4, h4⟩ : ∃ b, decide (127 < x.n) = b := ⟨_, rfl⟩
  obtain ⟨r, hr⟩ : ∃ r : Int, r = if Gr.numBad c.q x = true then 4 else 0 := ⟨_, rfl⟩
  have HR : Hid (r = if ((b3 || b4) || (b1 || b2)) = true then 4 else 0) := Lib.hid (by rw [hr]; unfold Gr.numBad Gr.badN Gr.badCost; rw [hk, h1, h2, h3, h4]; cases b1 <;> cases b2 <;> cases b3 <;> cases b4 <;> rfl)
  rw [← hr]
  rw [hk] at g0
  clear h hk hr g1 g2 g3 g4
  cases b1 <;> cases b2 <;> cases b3 <;> cases b4
  all_goals
    go_enter Try.func51, Try.ntmps51
    (go_wp2_with fail; repeat (go_quiet (fail); go_wp2_with fail))
    go_ret
    exact ⟨by rw [HR.out]; rfl, by (repeat (first | exact B0.out | refine below_drewN ?_ _))⟩
set_option maxHeartbeats 2000000 in
theorem rnumbers_4 (h : Gx 50 85 w g c G tb tcap nb ncap hv nv) (x : Stp) (hk : x.k = 4) :
    Calls Try.prog 51 #[.pointer (some ⟨g, 0, none⟩), .agg x.cells] w fun e w' => e = .returned (.int .i64 (if Gr.numBad c.q x = true then 4 else 0)) ∧ Below w.heap.size w w' := by
  have B0 := Lib.hid (below_alloc0 w (.cells x.cells 39))
  obtain ⟨g0, g1, g2, g3, g4, g5, g6⟩ := stp_box w x
  obtain ⟨q3, -, -⟩ := (h.below B0.out).head
  obtain ⟨b1, h1⟩ : ∃ b, decide (x.c < 1) = b := ⟨_, rfl⟩
  obtain ⟨b2, h2⟩ : ∃ b, decide (c.q < x.c) = b := ⟨_, rfl⟩
  obtain ⟨b3, h3⟩ : ∃ b, decide (x.n < -1099511627776) = b := ⟨_, rfl⟩
  obtain ⟨b4, h4⟩ : ∃ b, decide (1099511627775 < x.n) = b := ⟨_, rfl⟩
  obtain ⟨r, hr⟩ : ∃ r : Int, r = if Gr.numBad c.q x = true then 4 else 0 := ⟨_, rfl⟩
  have HR : Hid (r = if (b3 || b4) = true then 4 else 0) := Lib.hid (by rw [hr]; unfold Gr.numBad Gr.badN Gr.badCost; rw [hk, h1, h2, h3, h4]; cases b1 <;> cases b2 <;> cases b3 <;> cases b4 <;> rfl)
  rw [← hr]
  rw [hk] at g0
  clear h hk hr g1 g2 g3 g4
  cases b1 <;> cases b2 <;> cases b3 <;> cases b4
  all_goals
    go_enter Try.func51, Try.ntmps51
    (go_wp2_with fail; repeat (go_quiet (fail); go_wp2_with fail))
    go_ret
    exact ⟨by rw [HR.out]; rfl, by (repeat (first | exact B0.out | refine below_drewN ?_ _))⟩
set_option maxHeartbeats 2000000 in
theorem rnumbers_13 (h : Gx 50 85 w g c G tb tcap nb ncap hv nv) (x : Stp) (hk : x.k = 13) :
    Calls Try.prog 51 #[.pointer (some ⟨g, 0, none⟩), .agg x.cells] w fun e w' => e = .returned (.int .i64 (if Gr.numBad c.q x = true then 4 else 0)) ∧ Below w.heap.size w w' := by
  have B0 := Lib.hid (below_alloc0 w (.cells x.cells 39))
  obtain ⟨g0, g1, g2, g3, g4, g5, g6⟩ := stp_box w x
  obtain ⟨q3, -, -⟩ := (h.below B0.out).head
  obtain ⟨b1, h1⟩ : ∃ b, decide (x.c < 1) = b := ⟨_, rfl⟩
  obtain ⟨b2, h2⟩ : ∃ b, decide (c.q < x.c) = b := ⟨_, rfl⟩
  obtain ⟨b3, h3⟩ : ∃ b, decide (x.n < 1) = b := ⟨_, rfl⟩
  obtain ⟨b4, h4⟩ : ∃ b, decide (64 < x.n) = b := ⟨_, rfl⟩
  obtain ⟨r, hr⟩ : ∃ r : Int, r = if Gr.numBad c.q x = true then 4 else 0 := ⟨_, rfl⟩
  have HR : Hid (r = if (b3 || b4) = true then 4 else 0) := Lib.hid (by rw [hr]; unfold Gr.numBad Gr.badN Gr.badCost; rw [hk, h1, h2, h3, h4]; cases b1 <;> cases b2 <;> cases b3 <;> cases b4 <;> rfl)
  rw [← hr]
  rw [hk] at g0
  clear h hk hr g1 g2 g3 g4
  cases b1 <;> cases b2 <;> cases b3 <;> cases b4
  all_goals
    go_enter Try.func51, Try.ntmps51
    (go_wp2_with fail; repeat (go_quiet (fail); go_wp2_with fail))
    go_ret
    exact ⟨by rw [HR.out]; rfl, by (repeat (first | exact B0.out | refine below_drewN ?_ _))⟩
set_option maxHeartbeats 2000000 in
theorem rnumbers_16 (h : Gx 50 85 w g c G tb tcap nb ncap hv nv) (x : Stp) (hk : x.k = 16) :
    Calls Try.prog 51 #[.pointer (some ⟨g, 0, none⟩), .agg x.cells] w fun e w' => e = .returned (.int .i64 (if Gr.numBad c.q x = true then 4 else 0)) ∧ Below w.heap.size w w' := by
  have B0 := Lib.hid (below_alloc0 w (.cells x.cells 39))
  obtain ⟨g0, g1, g2, g3, g4, g5, g6⟩ := stp_box w x
  obtain ⟨q3, -, -⟩ := (h.below B0.out).head
  obtain ⟨b1, h1⟩ : ∃ b, decide (x.c < 1) = b := ⟨_, rfl⟩
  obtain ⟨b2, h2⟩ : ∃ b, decide (c.q < x.c) = b := ⟨_, rfl⟩
  obtain ⟨b3, h3⟩ : ∃ b, decide (x.n < 1) = b := ⟨_, rfl⟩
  obtain ⟨b4, h4⟩ : ∃ b, decide (64 < x.n) = b := ⟨_, rfl⟩
  obtain ⟨r, hr⟩ : ∃ r : Int, r = if Gr.numBad c.q x = true then 4 else 0 := ⟨_, rfl⟩
  have HR : Hid (r = if (b3 || b4) = true then 4 else 0) := Lib.hid (by rw [hr]; unfold Gr.numBad Gr.badN Gr.badCost; rw [hk, h1, h2, h3, h4]; cases b1 <;> cases b2 <;> cases b3 <;> cases b4 <;> rfl)
  rw [← hr]
  rw [hk] at g0
  clear h hk hr g1 g2 g3 g4
  cases b1 <;> cases b2 <;> cases b3 <;> cases b4
  all_goals
    go_enter Try.func51, Try.ntmps51
    (go_wp2_with fail; repeat (go_quiet (fail); go_wp2_with fail))
    go_ret
    exact ⟨by rw [HR.out]; rfl, by (repeat (first | exact B0.out | refine below_drewN ?_ _))⟩
set_option maxHeartbeats 2000000 in
theorem rnumbers_15 (h : Gx 50 85 w g c G tb tcap nb ncap hv nv) (x : Stp) (hk : x.k = 15) :
    Calls Try.prog 51 #[.pointer (some ⟨g, 0, none⟩), .agg x.cells] w fun e w' => e = .returned (.int .i64 (if Gr.numBad c.q x = true then 4 else 0)) ∧ Below w.heap.size w w' := by
  have B0 := Lib.hid (below_alloc0 w (.cells x.cells 39))
  obtain ⟨g0, g1, g2, g3, g4, g5, g6⟩ := stp_box w x
  obtain ⟨q3, -, -⟩ := (h.below B0.out).head
  obtain ⟨b1, h1⟩ : ∃ b, decide (x.c < 1) = b := ⟨_, rfl⟩
  obtain ⟨b2, h2⟩ : ∃ b, decide (c.q < x.c) = b := ⟨_, rfl⟩
  obtain ⟨b3, h3⟩ : ∃ b, decide (x.n < 1) = b := ⟨_, rfl⟩
  obtain ⟨b4, h4⟩ : ∃ b, decide (64 < x.n) = b := ⟨_, rfl⟩
  obtain ⟨r, hr⟩ : ∃ r : Int, r = if Gr.numBad c.q x = true then 4 else 0 := ⟨_, rfl⟩
  have HR : Hid (r = if ((b3 || b4) || (b1 || b2)) = true then 4 else 0) := Lib.hid (by rw [hr]; unfold Gr.numBad Gr.badN Gr.badCost; rw [hk, h1, h2, h3, h4]; cases b1 <;> cases b2 <;> cases b3 <;> cases b4 <;> rfl)
  rw [← hr]
  rw [hk] at g0
  clear h hk hr g1 g2 g3 g4
  cases b1 <;> cases b2 <;> cases b3 <;> cases b4
  all_goals
    go_enter Try.func51, Try.ntmps51
    (go_wp2_with fail; repeat (go_quiet (fail); go_wp2_with fail))
    go_ret
    exact ⟨by rw [HR.out]; rfl, by (repeat (first | exact B0.out | refine below_drewN ?_ _))⟩
set_option maxHeartbeats 2000000 in
theorem rnumbers_any (h : Gx 50 85 w g c G tb tcap nb ncap hv nv) (x : Stp) :
    Calls Try.prog 51 #[.pointer (some ⟨g, 0, none⟩), .agg x.cells] w fun e w' => e = .returned (.int .i64 (if Gr.numBad c.q x = true then 4 else 0)) ∧ Below w.heap.size w w' := by
  by_cases k3 : x.k = 3
  · exact rnumbers_3 h x k3
  by_cases k4 : x.k = 4
  · exact rnumbers_4 h x k4
  by_cases k13 : x.k = 13
  · exact rnumbers_13 h x k13
  by_cases k16 : x.k = 16
  · exact rnumbers_16 h x k16
  by_cases k15 : x.k = 15
  · exact rnumbers_15 h x k15
  have B0 := Lib.hid (below_alloc0 w (.cells x.cells 39))
  obtain ⟨g0, g1, g2, g3, g4, g5, g6⟩ := stp_box w x
  obtain ⟨q3, -, -⟩ := (h.below B0.out).head
  obtain ⟨b1, h1⟩ : ∃ b, decide (x.c < 1) = b := ⟨_, rfl⟩
  obtain ⟨b2, h2⟩ : ∃ b, decide (c.q < x.c) = b := ⟨_, rfl⟩
  obtain ⟨r, hr⟩ : ∃ r : Int, r = if Gr.numBad c.q x = true then 4 else 0 := ⟨_, rfl⟩
  have HR : Hid (r = 0) := Lib.hid (by rw [hr, if_neg]; unfold Gr.numBad; simp [k3, k4, k13, k15, k16])
  rw [← hr]
  have d3 : decide (x.k = 3) = false := by simpa using k3
  have d4 : decide (x.k = 4) = false := by simpa using k4
  have d13 : decide (x.k = 13) = false := by simpa using k13
  have d15 : decide (x.k = 15) = false := by simpa using k15
  have d16 : decide (x.k = 16) = false := by simpa using k16
  clear h hr g1 g2 g3 g4
  cases b1 <;> cases b2
  all_goals
    go_enter Try.func51, Try.ntmps51
    (go_wp2_with fail; repeat (go_quiet (fail); go_wp2_with fail))
    go_ret
    exact ⟨by rw [HR.out]; rfl, by (repeat (first | exact B0.out | refine below_drewN ?_ _))⟩
end
end Go.Proofs.Ytaefcmmjeloccaa
