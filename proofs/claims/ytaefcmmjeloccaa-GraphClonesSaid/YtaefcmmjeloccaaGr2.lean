/- The graph's small functions. -/
import Derived.Test.YtaefcmmjeloccaaGr1
import Derived.Test.YtaefcmmjeloccaaRows
import Derived.BigQuiet
namespace Go.Proofs.Ytaefcmmjeloccaa
open Go.RowKit

theorem goutside_any (n lo hi : Int) (w : World) :
    Calls Try.prog 33 #[.int .i64 n, .int .i64 lo, .int .i64 hi] w fun e w' => e = .returned (.bool (decide (n < lo) || decide (hi < n))) ∧ w = w' := by
  by_cases h1 : n < lo
  · have d1 : decide (n < lo) = true := by simpa using h1
    go_enter Try.func33, Try.ntmps33
    go_wp2_with fail
    go_ret
    exact ⟨ret_bool (by simp [h1]), rfl⟩
  · have d1 : decide (n < lo) = false := by simpa using h1
    go_enter Try.func33, Try.ntmps33
    go_wp2_with fail
    go_ret
    exact ⟨ret_bool (by simp), rfl⟩

theorem heap_two (w : World) (o1 o2 : Obj) : ((w.alloc o1).alloc o2).heap[w.heap.size + 1]? = some o2 := by
  have h := (heap_alloc_new (w.alloc o1) o2)
  have e : (w.alloc o1).heap.size = w.heap.size + 1 := by show (w.heap.push o1).size = _; simp
  rwa [e] at h
theorem gfail_any (c : Int) (w : World) :
    Calls Try.prog 24 #[.int .i64 c] w fun e w' => e = .returned (.agg (Gr.err c).cells) ∧ Below w.heap.size w w' := by
  go_enter Try.func24, Try.ntmps24
  go_wp2_with (refine wpList_store_row rfl 36 _ _ rfl w.heap.size (Gr.err c).cells rfl rfl 36 _ (heap_alloc_new w _) (by kernel_rfl) rfl (by kernel_rfl) ?_)
  exact bodyPost_ret (v := .agg (Gr.err c).cells) (results_cell_row rfl _ _ w.heap.size 36 (Gr.err c).cells _ _ rfl (heap_setRow_same _ (heap_alloc_new w _)) Try.underlying36 rfl (by kernel_rfl)) rfl
    ⟨rfl, below_setRow (below_alloc0 w _) (Nat.le_refl _) _⟩

theorem gtold_any (v : Vl) (w : World) :
    Calls Try.prog 30 #[.agg #[.int .i64 v.1, .int .i64 v.2]] w fun e w' => e = .returned (.agg (Gr.told v).cells) ∧ Below w.heap.size w w' := by
  have c0 : (w.alloc (.cells #[.int .i64 v.1, .int .i64 v.2] 57)).cell? ⟨w.heap.size, 0, none⟩ = some (.int .i64 v.1) := cell_of_row _ _ _ _ _ _ (heap_alloc_new w _)
  have c1 : (w.alloc (.cells #[.int .i64 v.1, .int .i64 v.2] 57)).cell? ⟨w.heap.size, 1, none⟩ = some (.int .i64 v.2) := cell_of_row _ _ _ _ _ _ (heap_alloc_new w _)
  go_enter Try.func30, Try.ntmps30
  go_wp2_with fail
  exact bodyPost_ret (v := .agg (Gr.told v).cells) (results_cell_row rfl _ _ (w.heap.size + 1) 36 (Gr.told v).cells _ _ rfl (heap_two w _ _) Try.underlying36 rfl (by kernel_rfl)) rfl
    ⟨rfl, below_next (below_alloc0 w _) (below_alloc0 _ _)⟩

theorem gis_yes (g : Nat) (p : Option Addr) (n cap : Nat) (hn : 0 < n) (w : World) (h : w.cell? ⟨g, 11, none⟩ = some (.slice p n cap)) :
    Calls Try.prog 23 #[.pointer (some ⟨g, 0, none⟩)] w fun e w' => e = .returned (.bool true) ∧ w = w' := by
  have d1 : decide ((0 : Int) < (n : Int)) = true := by simp; omega
  go_enter Try.func23, Try.ntmps23
  go_wp2_with fail
  go_ret
  exact ⟨rfl, rfl⟩
theorem gis_no (g : Nat) (w : World) (h : w.cell? ⟨g, 11, none⟩ = some (.slice none 0 0)) :
    Calls Try.prog 23 #[.pointer (some ⟨g, 0, none⟩)] w fun e w' => e = .returned (.bool false) ∧ w = w' := by
  go_enter Try.func23, Try.ntmps23
  go_wp2_with fail
  go_ret
  exact ⟨rfl, rfl⟩
theorem gis_nil (w : World) :
    Calls Try.prog 23 #[.pointer none] w fun e w' => e = .returned (.bool false) ∧ w = w' := by
  go_enter Try.func23, Try.ntmps23
  go_wp2_with fail
  go_ret
  exact ⟨rfl, rfl⟩
theorem gfull_any (b o : Nat) (p : Option Addr) (n cap : Nat) (w : World) (h : w.cell? ⟨b, o, none⟩ = some (.slice p n cap)) :
    Calls Try.prog 44 #[.pointer (some ⟨b, o, none⟩)] w fun e w' => e = .returned (.bool (decide (16 ≤ n))) ∧ w = w' := by
  go_enter Try.func44, Try.ntmps44
  go_wp2_with fail
  go_ret
  exact ⟨ret_bool (by rw [decide_eq_decide]; omega), rfl⟩

/-- A place of some values, if it is one. -/
def getv (vs : List Vl) (i : Int) : Vl × Bool := if 0 ≤ i ∧ i < (vs.length : Int) then (vs.getD i.toNat (0, 0), true) else ((0, 0), false)
def vcs (v : Vl) : Array Value := #[.int .i64 v.1, .int .i64 v.2]
theorem gget_any (b o n : Nat) (s : Value) (vs : List Vl) (i : Int) (w : World) (h : w.cell? ⟨b, o, none⟩ = some s) (hown : Own w 57 2 n s (vls vs)) :
    Calls Try.prog 47 #[.pointer (some ⟨b, o, none⟩), .int .i64 i] w fun e w' => e = .returned (.tuple #[.agg #[.int .i64 (getv vs i).1.1, .int .i64 (getv vs i).1.2], .bool (getv vs i).2]) ∧ w' = w.alloc (.cells #[.int .i64 (getv vs i).1.1, .int .i64 (getv vs i).1.2] 57) := by
  have hl := hown.1
  rw [vls_len] at hl
  obtain ⟨p, cap, rfl, hcap, hb⟩ := own_slice hown
  by_cases h0 : i < 0
  · have hg : getv vs i = ((0, 0), false) := by unfold getv; rw [if_neg (by omega)]
    rw [hg]
    go_enter Try.func47, Try.ntmps47
    go_wp2_with fail
    exact bodyPost_ret (results_row_tmp rfl _ _ w.heap.size 57 (vcs (0, 0)) _ _ rfl (heap_alloc_new w _) Try.underlying57 rfl (by kernel_rfl)) rfl ⟨rfl, rfl⟩
  have d0 : decide (i < 0) = false := by simpa using h0
  have hA : (w.alloc (.cells #[.int .i64 0, .int .i64 0] 57)).cell? ⟨b, o, none⟩ = some (.slice p n cap) := cell_keep (below_alloc0 w _) h
  by_cases h1 : (n : Int) ≤ i
  · have d1 : decide ((n : Int) ≤ i) = true := by simpa using h1
    have hg : getv vs i = ((0, 0), false) := by unfold getv; rw [if_neg (by omega)]
    rw [hg]
    go_enter Try.func47, Try.ntmps47
    go_wp2_with fail
    exact bodyPost_ret (results_row_tmp rfl _ _ w.heap.size 57 (vcs (0, 0)) _ _ rfl (heap_alloc_new w _) Try.underlying57 rfl (by kernel_rfl)) rfl ⟨rfl, rfl⟩
  have d1 : decide ((n : Int) ≤ i) = false := by simpa using h1
  obtain ⟨j, rfl⟩ : ∃ j : Nat, i = (j : Int) := ⟨i.toNat, by omega⟩
  have hj : j < n := by omega
  obtain ⟨d, rfl⟩ := hb (by omega)
  have hg : getv vs j = (vs.getD j (0, 0), true) := by unfold getv; rw [if_pos (by omega)]; rfl
  rw [hg]
  obtain ⟨g1, g2⟩ := own_val hown hj
  generalize vs.getD j (0, 0) = v at *
  have k1 := cell_keep (below_alloc0 w (.cells #[.int .i64 0, .int .i64 0] 57)) g1
  have k2 := cell_keep (below_alloc0 w (.cells #[.int .i64 0, .int .i64 0] 57)) g2
  have i1 : (0 : Int) ≤ (j : Int) := by omega
  have i2 : (j : Int) < (n : Int) := by omega
  go_enter Try.func47, Try.ntmps47
  go_wp2_with fail
  exact bodyPost_ret (results_row_tmp rfl _ _ w.heap.size 57 (vcs v) _ _ rfl (heap_alloc_new w _) Try.underlying57 rfl (by kernel_rfl)) rfl ⟨rfl, rfl⟩
end Go.Proofs.Ytaefcmmjeloccaa
