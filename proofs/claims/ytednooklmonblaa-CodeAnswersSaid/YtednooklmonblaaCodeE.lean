/- CodeAnswers: of an answer out of range. -/
import Derived.Test.YtednooklmonblaaCodeD0
namespace Go.Proofs.Ytednooklmonblaa
open Go.RowKit

set_option maxHeartbeats 8000000 in
set_option maxRecDepth 100000 in
theorem answers_bad_short (a : Ans) (A : Option Addr) (n cap : Nat) (xs : List Int) (w : World) (h : RdB w A n xs) (hg : ¬ a.good) (hn : n ≠ 14) :
    Calls Try.prog 9 #[.agg a.cells, .slice A n cap] w fun e w' => e = .returned (.bool true) ∧ Below w.heap.size w w' := by
  have h1 : ((n : Int) != 14) = true := by rw [bne_iff_ne]; omega
  have HN := Lib.hid hn
  clear hn
  have hz := fun wx => ans_zero_eql wx
  have hq := fun wx => ans_neq a wx
  have A0 := Lib.hid (heap_alloc_new w (.cells a.cells 49))
  have B0 := Lib.hid (below_alloc0 w (.cells a.cells 49))
  have R0 : Hid (RdB _ A n xs) := h.alloc (.cells a.cells 49)
  clear h
  have HNG := Lib.hid hg
  unfold Ans.good at hg
  go_enter Try.func9, Try.ntmps9
  go_wp2_with (first
      | (go_at_call 22; refine (calive_any _).mono ?_; rintro e w4 ⟨rfl, hb4⟩; have A4 := Lib.hid (keep hb4 (k := w.heap.size) (o := .cells a.cells 49 (0, 0)) (Hid.out (by assumption))); have B4 := Lib.hid (below_next (w := w) (Hid.out (by assumption)) hb4); have R4 : Hid (RdB _ A n xs) := RdB.below (Hid.out (by assumption)) hb4; clear hb4)
      | (go_at_call 29; (with_reducible refine (tell_bad a _ HNG.out).mono ?_); rintro e w4 ⟨rfl, hb4⟩; have A4 := Lib.hid (keep hb4 (k := w.heap.size) (o := .cells a.cells 49 (0, 0)) (Hid.out (by assumption))); have B4 := Lib.hid (below_next (w := w) (Hid.out (by assumption)) hb4); have R4 : Hid (RdB _ A n xs) := RdB.below (Hid.out (by assumption)) hb4; have k0 := (ans_cell A4.out).1; have k1 := (ans_cell A4.out).2.1; have k2 := (ans_cell A4.out).2.2.1; have k3 := (ans_cell A4.out).2.2.2.1; have k4 := (ans_cell A4.out).2.2.2.2; clear hb4)
      | (go_at_call 30; (with_reducible refine (told_short A n cap _ HN.out).mono ?_); rintro e w5 ⟨rfl, hb4⟩; have R5 := Lib.hid (RdB.alloc (RdB.below (A := A) (n := n) (xs := xs) (Hid.out (by assumption)) hb4) (.cells Ans.zero.cells 49)); have B5 := Lib.hid (below_new (below_next (w := w) (Hid.out (by assumption)) hb4) (.cells Ans.zero.cells 49)); have X5 := Lib.hid (heap_alloc_new w5 (.cells Ans.zero.cells 49)); clear hb4)
      | (refine wpList_store_new rfl 49 _ _ rfl Ans.zero.cells rfl rfl 49 _ (by kernel_rfl) rfl (by kernel_rfl) ?_)
      | (refine gate_guard (by rfl) ?_; refine wpList_load_row rfl 49 _ rfl w.heap.size rfl 49 a.cells (0, 0) _ ?_ Try.underlying49 rfl (by kernel_rfl) ?_; exact Hid.out (by assumption))
      | (refine gate_guard (by rfl) ?_; refine wpList_load_row rfl 49 _ rfl w5.heap.size rfl 49 Ans.zero.cells (0, 0) _ ?_ Try.underlying49 rfl (by kernel_rfl) ?_; exact Hid.out (by assumption)))
  all_goals go_ret
  all_goals exact ⟨rfl, Hid.out (by assumption)⟩

end Go.Proofs.Ytednooklmonblaa
