/- A value's and an answer's text: the program's and the law's. -/
import Derived.Test.YtbbdjfbhidpeiaaDoorOut0
import Derived.Deep.RegionHeld3
namespace Go.Proofs.YtbbdjfbhidpeiaaDoor
open Go.RowKit

theorem cat_le {a b : ByteArray} (ha : a.size ≤ 1000000) (hb : b.size ≤ 1000000) : ¬ 9223372036854775807 < a.size + b.size := by omega
def Rng (n : Int) : Prop := -9223372036854775808 ≤ n ∧ n ≤ 9223372036854775807
theorem itoa_len {n : Int} (h : Rng n) : (Lib.itoa n).length ≤ 21 := Lib.itoa_length_le n h.1 h.2
def valText (k n : Int) : List UInt8 := if k = 0 then [45] else if k = 1 then Lib.itoa n else if k = 2 then 35 :: Lib.itoa n else [63]
theorem val_len {k n : Int} (h : Rng n) : (valText k n).length ≤ 22 := by
  have := itoa_len h
  unfold valText
  repeat' split
  all_goals simp <;> omega
theorem num_any (n : Int) (h : Rng n) (w : World) (ht : Tab w) :
    Calls Tryd.prog 16 #[.int .i64 n] w fun e w' => e = .returned (.string (S (Lib.itoa n))) ∧ Below w.heap.size w w' := number_any n h.1 h.2 w ht
theorem dec_any (n : Int) (h : Rng n) (w : World) :
    Calls Tryd.prog 7 #[.int .i64 n] w fun e w' => e = .returned (.string (S (Lib.itoa n))) ∧ Below w.heap.size w w' := decimal_any n h.1 h.2 w
theorem val_cells (w : World) (k n : Int) : (w.alloc (.cells #[.int .i64 k, .int .i64 n] 26)).cell? ⟨w.heap.size, 0, none⟩ = some (.int .i64 k) ∧ (w.alloc (.cells #[.int .i64 k, .int .i64 n] 26)).cell? ⟨w.heap.size, 1, none⟩ = some (.int .i64 n) :=
  ⟨cell_of_row _ _ _ _ _ _ (heap_alloc_new w _), cell_of_row _ _ _ _ _ _ (heap_alloc_new w _)⟩

set_option maxHeartbeats 1000000 in
theorem value_any (k n : Int) (h : Rng n) (w : World) (ht : Tab w) :
    Calls Tryd.prog 10 #[.agg #[.int .i64 k, .int .i64 n]] w fun e w' => e = .returned (.string (S (valText k n))) ∧ Below w.heap.size w w' := by
  have B0 := Lib.hid (below_alloc0 w (.cells #[.int .i64 k, .int .i64 n] 26))
  obtain ⟨c0, c1⟩ := val_cells w k n
  have hw : wrap64 n = n := by have := h.1; have := h.2; unfold wrap64; omega
  have hl := itoa_len h
  have hz : S (Lib.itoa n) = S (Lib.itoa n) := rfl
  have hcat : ¬ 9223372036854775807 < (⟨#[35]⟩ : ByteArray).size + (S (Lib.itoa n)).size := cat_le (by decide) (by rw [S_size]; omega)
  have H := Lib.hid h
  clear h hl hz
  have HT := Lib.hid (ht.keep (below_alloc0 w (.cells #[.int .i64 k, .int .i64 n] 26)))
  clear ht
  by_cases h0 : k = 0
  · have f0 : (k == 0) = true := by simpa using h0
    have hv : Hid (valText k n = [45]) := Lib.hid (by unfold valText; rw [if_pos h0])
    clear h0
    go_enter Tryd.func10, Tryd.ntmps10
    go_wp2_with fail
    go_ret
    exact ⟨ret_str (by rw [hv.out]; try rfl), B0.out⟩
  by_cases h1 : k = 1
  · have f0 : (k == 0) = false := by simpa using h0
    have f1 : (k == 1) = true := by simpa using h1
    have hv : Hid (valText k n = Lib.itoa n) := Lib.hid (by unfold valText; rw [if_neg h0, if_pos h1])
    clear h0 h1
    go_enter Tryd.func10, Tryd.ntmps10
    go_wp2_with (go_at_call 16; refine (num_any n H.out _ HT.out).mono ?_; rintro e w1 ⟨rfl, hb1⟩)
    go_ret
    exact ⟨ret_str (by rw [hv.out]; try rfl), below_next B0.out hb1⟩
  by_cases h2 : k = 2
  · have f0 : (k == 0) = false := by simpa using h0
    have f1 : (k == 1) = false := by simpa using h1
    have f2 : (k == 2) = true := by simpa using h2
    have hv : Hid (valText k n = 35 :: Lib.itoa n) := Lib.hid (by unfold valText; rw [if_neg h0, if_neg h1, if_pos h2])
    clear h0 h1 h2
    go_enter Tryd.func10, Tryd.ntmps10
    go_wp2_with (go_at_call 16; refine (num_any n H.out _ HT.out).mono ?_; rintro e w1 ⟨rfl, hb1⟩)
    go_ret
    exact ⟨ret_str (by rw [hv.out, show (⟨#[35]⟩ : ByteArray) = S [35] from rfl, S_app]; rfl), below_next B0.out hb1⟩
  have f0 : (k == 0) = false := by simpa using h0
  have f1 : (k == 1) = false := by simpa using h1
  have f2 : (k == 2) = false := by simpa using h2
  have hv : Hid (valText k n = [63]) := Lib.hid (by unfold valText; rw [if_neg h0, if_neg h1, if_neg h2])
  clear h0 h1 h2
  go_enter Tryd.func10, Tryd.ntmps10
  go_wp2_with fail
  go_ret
  exact ⟨ret_str (by rw [hv.out]; try rfl), B0.out⟩

set_option maxHeartbeats 1000000 in
theorem lvalue_any (k n : Int) (h : Rng n) (w : World) :
    Calls Tryd.prog 8 #[.agg #[.int .i64 k, .int .i64 n]] w fun e w' => e = .returned (.string (S (valText k n))) ∧ Below w.heap.size w w' := by
  have B0 := Lib.hid (below_alloc0 w (.cells #[.int .i64 k, .int .i64 n] 26))
  obtain ⟨c0, c1⟩ := val_cells w k n
  have hw : wrap64 n = n := by have := h.1; have := h.2; unfold wrap64; omega
  have hl := itoa_len h
  have hz : S (Lib.itoa n) = S (Lib.itoa n) := rfl
  have hcat : ¬ 9223372036854775807 < (⟨#[35]⟩ : ByteArray).size + (S (Lib.itoa n)).size := cat_le (by decide) (by rw [S_size]; omega)
  have H := Lib.hid h
  clear h hl hz
  by_cases h0 : k = 0
  · have f0 : (k == 0) = true := by simpa using h0
    have hv : Hid (valText k n = [45]) := Lib.hid (by unfold valText; rw [if_pos h0])
    clear h0
    go_enter Tryd.func8, Tryd.ntmps8
    go_wp2_with fail
    go_ret
    exact ⟨ret_str (by rw [hv.out]; try rfl), B0.out⟩
  by_cases h1 : k = 1
  · have f0 : (k == 0) = false := by simpa using h0
    have f1 : (k == 1) = true := by simpa using h1
    have hv : Hid (valText k n = Lib.itoa n) := Lib.hid (by unfold valText; rw [if_neg h0, if_pos h1])
    clear h0 h1
    go_enter Tryd.func8, Tryd.ntmps8
    go_wp2_with (go_at_call 7; refine (dec_any n H.out _).mono ?_; rintro e w1 ⟨rfl, hb1⟩)
    go_ret
    exact ⟨ret_str (by rw [hv.out]; try rfl), below_next B0.out hb1⟩
  by_cases h2 : k = 2
  · have f0 : (k == 0) = false := by simpa using h0
    have f1 : (k == 1) = false := by simpa using h1
    have f2 : (k == 2) = true := by simpa using h2
    have hv : Hid (valText k n = 35 :: Lib.itoa n) := Lib.hid (by unfold valText; rw [if_neg h0, if_neg h1, if_pos h2])
    clear h0 h1 h2
    go_enter Tryd.func8, Tryd.ntmps8
    go_wp2_with (go_at_call 7; refine (dec_any n H.out _).mono ?_; rintro e w1 ⟨rfl, hb1⟩)
    go_ret
    exact ⟨ret_str (by rw [hv.out, show (⟨#[35]⟩ : ByteArray) = S [35] from rfl, S_app]; rfl), below_next B0.out hb1⟩
  have f0 : (k == 0) = false := by simpa using h0
  have f1 : (k == 1) = false := by simpa using h1
  have f2 : (k == 2) = false := by simpa using h2
  have hv : Hid (valText k n = [63]) := Lib.hid (by unfold valText; rw [if_neg h0, if_neg h1, if_neg h2])
  clear h0 h1 h2
  go_enter Tryd.func8, Tryd.ntmps8
  go_wp2_with fail
  go_ret
  exact ⟨ret_str (by rw [hv.out]; try rfl), B0.out⟩

end Go.Proofs.YtbbdjfbhidpeiaaDoor
