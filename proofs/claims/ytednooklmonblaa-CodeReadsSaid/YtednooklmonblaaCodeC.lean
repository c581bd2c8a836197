/- CodeReads: the walk. -/
import Derived.Test.YtednooklmonblaaCodeA
namespace Go.Proofs.Ytednooklmonblaa
open Go.RowKit

theorem stp_eql (c : Stp) (w : World) : (binOp .eql 39 (.agg c.cells) (.agg c.cells)).run Try.prog w = .ok (.bool true) w := by
  unfold Stp.cells
  go_simp
theorem stp_zero_eql (w : World) : (binOp .eql 39 (.agg Stp.zero.cells) (.agg #[.int .i64 0, .int .i64 0, .int .i64 0, .int .i64 0, .int .i64 0, .int .i64 0, .int .i64 0])).run Try.prog w = .ok (.bool true) w := by kernel_rfl
theorem cread_g (A : Option Addr) (cap : Nat) (xs : List Int) (w : World) (h : RdB w A 14 xs) (hcap : 14 ≤ cap) (hx : (Stp.ofB xs).check = 0) :
    Calls Try.prog 27 #[.slice A 14 cap] w fun e w' => e = .returned (.tuple #[.agg (Stp.ofB xs).cells, .int .i64 0]) ∧ Below w.heap.size w w' :=
  (cread_full A cap xs w h hcap).mono fun e w' ⟨he, hb⟩ => ⟨by rw [he, Stp.readR_ok hx], hb⟩
theorem cread_b (A : Option Addr) (cap : Nat) (xs : List Int) (w : World) (h : RdB w A 14 xs) (hcap : 14 ≤ cap) (hx : (Stp.ofB xs).check ≠ 0) :
    Calls Try.prog 27 #[.slice A 14 cap] w fun e w' => e = .returned (.tuple #[.agg Stp.zero.cells, .int .i64 (Stp.ofB xs).check]) ∧ Below w.heap.size w w' :=
  (cread_full A cap xs w h hcap).mono fun e w' ⟨he, hb⟩ => ⟨by rw [he, Stp.readR_bad hx], hb⟩

set_option maxHeartbeats 4000000 in
theorem creads_short (A : Option Addr) (n cap : Nat) (xs : List Int) (w : World) (h : RdB w A n xs) (hn : n ≠ 14) :
    Calls Try.prog 8 #[.slice A n cap] w fun e w' => e = .returned (.bool true) ∧ Below w.heap.size w w' := by
  have h1 : ((n : Int) != 14) = true := by rw [bne_iff_ne]; omega
  have HN := Lib.hid hn
  clear hn
  have hz := fun wx => stp_zero_eql wx
  have hq := fun wx => stp_eql (Stp.ofB xs) wx
  have R0 := Lib.hid h
  have B0 : Hid (Below w.heap.size w w) := Below.refl _ _
  clear h
  go_enter Try.func8, Try.ntmps8
  go_wp2_with (first
    | (go_at_call 22; refine (calive_any _).mono ?_; rintro e w4 ⟨rfl, hb4⟩; have R4 : Hid (RdB _ A n xs) := RdB.below (Hid.out (by assumption)) hb4; have B4 := Lib.hid (below_next (w := w) (Hid.out (by assumption)) hb4); clear hb4)
    | (go_at_call 27; refine (cread_short A n cap _ HN.out).mono ?_; rintro e w5 ⟨rfl, hb4⟩; have R5 := Lib.hid (RdB.alloc (RdB.below (A := A) (n := n) (xs := xs) (Hid.out (by assumption)) hb4) (.cells Stp.zero.cells 39)); have B5 := Lib.hid (below_new (below_next (w := w) (Hid.out (by assumption)) hb4) (.cells Stp.zero.cells 39)); have X5 := Lib.hid (heap_alloc_new w5 (.cells Stp.zero.cells 39)); clear hb4)
    | (refine wpList_store_new rfl 39 _ _ rfl Stp.zero.cells rfl rfl 39 _ (by kernel_rfl) rfl (by kernel_rfl) ?_)
    | (refine gate_guard (by rfl) ?_; refine wpList_load_row rfl 39 _ rfl w5.heap.size rfl 39 Stp.zero.cells (0, 0) _ ?_ Try.underlying39 rfl (by kernel_rfl) ?_; exact Hid.out (by assumption)))
  go_ret
  exact ⟨rfl, Hid.out (by assumption)⟩

set_option maxHeartbeats 4000000 in
theorem creads_bad (A : Option Addr) (_n cap : Nat) (xs : List Int) (w : World) (h : RdB w A 14 xs) (hx : (Stp.ofB xs).check ≠ 0) (hcap : 14 ≤ cap) :
    Calls Try.prog 8 #[.slice A 14 cap] w fun e w' => e = .returned (.bool true) ∧ Below w.heap.size w w' := by
  have h1 : ((Stp.ofB xs).check != 0) = true := by simp [hx]
  have HX := Lib.hid hx
  clear hx
  have hz := fun wx => stp_zero_eql wx
  have hq := fun wx => stp_eql (Stp.ofB xs) wx
  have R0 := Lib.hid h
  have B0 : Hid (Below w.heap.size w w) := Below.refl _ _
  clear h
  go_enter Try.func8, Try.ntmps8
  go_wp2_with (first
    | (go_at_call 22; refine (calive_any _).mono ?_; rintro e w4 ⟨rfl, hb4⟩; have R4 : Hid (RdB _ A 14 xs) := RdB.below (Hid.out (by assumption)) hb4; have B4 := Lib.hid (below_next (w := w) (Hid.out (by assumption)) hb4); clear hb4)
    | (go_at_call 27; refine (cread_b A cap xs _ (Hid.out (by assumption)) hcap HX.out).mono ?_; rintro e w5 ⟨rfl, hb4⟩; have R5 := Lib.hid (RdB.alloc (RdB.below (A := A) (n := 14) (xs := xs) (Hid.out (by assumption)) hb4) (.cells Stp.zero.cells 39)); have B5 := Lib.hid (below_new (below_next (w := w) (Hid.out (by assumption)) hb4) (.cells Stp.zero.cells 39)); have X5 := Lib.hid (heap_alloc_new w5 (.cells Stp.zero.cells 39)); clear hb4)
    | (refine wpList_store_new rfl 39 _ _ rfl Stp.zero.cells rfl rfl 39 _ (by kernel_rfl) rfl (by kernel_rfl) ?_)
    | (go_at_call 28; refine (lstep_any A cap xs _ R5.out).mono ?_; rintro e w6 ⟨rfl, hb4⟩; have R6 := Lib.hid (RdB.alloc (R5.out.below hb4) (.cells (Stp.ofB xs).cells 39)); have B6 := Lib.hid (below_new (below_next B5.out hb4) (.cells (Stp.ofB xs).cells 39)); have X6 := Lib.hid (keep_alloc (.cells (Stp.ofB xs).cells 39) (keep hb4 X5.out)); have Y6 := Lib.hid (heap_alloc_new w6 (.cells (Stp.ofB xs).cells 39)); clear hb4)
    | (refine wpList_store_new rfl 39 _ _ rfl (Stp.ofB xs).cells rfl rfl 39 _ (by kernel_rfl) rfl (by kernel_rfl) ?_)
    | (go_at_call 23; refine (rcheck_any (Stp.ofB xs) _).mono ?_; rintro e w7 ⟨rfl, hb4⟩; have R7 := Lib.hid (R6.out.below hb4); have B7 := Lib.hid (below_next B6.out hb4); have X7 := Lib.hid (keep hb4 X6.out); have Y7 := Lib.hid (keep hb4 Y6.out); clear hb4)
    | (refine gate_guard (by rfl) ?_; refine wpList_load_row rfl 39 _ rfl w5.heap.size rfl 39 Stp.zero.cells (0, 0) _ ?_ Try.underlying39 rfl (by kernel_rfl) ?_; exact Hid.out (by assumption))
    | (refine gate_guard (by rfl) ?_; refine wpList_load_row rfl 39 _ rfl w6.heap.size rfl 39 (Stp.ofB xs).cells (0, 0) _ ?_ Try.underlying39 rfl (by kernel_rfl) ?_; exact Hid.out (by assumption)))
  go_ret
  exact ⟨rfl, Hid.out (by assumption)⟩

set_option maxHeartbeats 4000000 in
theorem creads_good (A : Option Addr) (_n cap : Nat) (xs : List Int) (w : World) (h : RdB w A 14 xs) (hx : (Stp.ofB xs).check = 0) (hcap : 14 ≤ cap) :
    Calls Try.prog 8 #[.slice A 14 cap] w fun e w' => e = .returned (.bool true) ∧ Below w.heap.size w w' := by
  have h1 : ((Stp.ofB xs).check != 0) = false := by simp [hx]
  have HX := Lib.hid hx
  have HFB := Lib.hid (Stp.forth h.len h.byte)
  have hz := fun wx => stp_zero_eql wx
  have hq := fun wx => stp_eql (Stp.ofB xs) wx
  have R0 := Lib.hid h
  have B0 : Hid (Below w.heap.size w w) := Below.refl _ _
  clear h
  go_enter Try.func8, Try.ntmps8
  go_wp2_with (first
    | (go_at_call 22; refine (calive_any _).mono ?_; rintro e w4 ⟨rfl, hb4⟩; have R4 : Hid (RdB _ A 14 xs) := RdB.below (Hid.out (by assumption)) hb4; have B4 := Lib.hid (below_next (w := w) (Hid.out (by assumption)) hb4); clear hb4)
    | (go_at_call 27; refine (cread_g A cap xs _ (Hid.out (by assumption)) hcap HX.out).mono ?_; rintro e w5 ⟨rfl, hb4⟩; have R5 := Lib.hid (RdB.alloc (RdB.below (A := A) (n := 14) (xs := xs) (Hid.out (by assumption)) hb4) (.cells (Stp.ofB xs).cells 39)); have B5 := Lib.hid (below_new (below_next (w := w) (Hid.out (by assumption)) hb4) (.cells (Stp.ofB xs).cells 39)); have X5 := Lib.hid (heap_alloc_new w5 (.cells (Stp.ofB xs).cells 39)); clear hb4)
    | (refine wpList_store_new rfl 39 _ _ rfl (Stp.ofB xs).cells rfl rfl 39 _ (by kernel_rfl) rfl (by kernel_rfl) ?_)
    | (go_at_call 28; refine (lstep_any A cap xs _ R5.out).mono ?_; rintro e w6 ⟨rfl, hb4⟩; have R6 := Lib.hid (RdB.alloc (R5.out.below hb4) (.cells (Stp.ofB xs).cells 39)); have B6 := Lib.hid (below_new (below_next B5.out hb4) (.cells (Stp.ofB xs).cells 39)); have X6 := Lib.hid (keep_alloc (.cells (Stp.ofB xs).cells 39) (keep hb4 X5.out)); have Y6 := Lib.hid (heap_alloc_new w6 (.cells (Stp.ofB xs).cells 39)); clear hb4)
    | (refine wpList_store_new rfl 39 _ _ rfl (Stp.ofB xs).cells rfl rfl 39 _ (by kernel_rfl) rfl (by kernel_rfl) ?_)
    | (go_at_call 23; refine (rcheck_any (Stp.ofB xs) _).mono ?_; rintro e w7 ⟨rfl, hb4⟩; have R7 := Lib.hid (R6.out.below hb4); have B7 := Lib.hid (below_next B6.out hb4); have X7 := Lib.hid (keep hb4 X6.out); have Y7 := Lib.hid (keep hb4 Y6.out); clear hb4)
    | (go_at_call 24; refine (cput_c (Stp.ofB xs) _ HX.out).mono ?_; rintro e w8 ⟨b8, o8, cap8, rfl, hc8, hr8, hb4⟩; have hr9 := R7.out.below hb4; have B8 := Lib.hid (below_next B7.out hb4); have X8 := Lib.hid (keep hb4 X7.out); have Y8 := Lib.hid (keep hb4 Y7.out); have v1 := hr8.conv (P := Try.prog) 29 9 5 Try.underlying29 Try.underlying5 Try.underlying9 cap8; rw [HFB.out] at v1; have v2 := hr9.conv (P := Try.prog) 29 9 5 Try.underlying29 Try.underlying5 Try.underlying9 cap; clear hb4 hr8 hr9)
    | (refine gate_guard (by rfl) ?_; refine wpList_load_row rfl 39 _ rfl w5.heap.size rfl 39 (Stp.ofB xs).cells (0, 0) _ ?_ Try.underlying39 rfl (by kernel_rfl) ?_; exact Hid.out (by assumption))
    | (refine gate_guard (by rfl) ?_; refine wpList_load_row rfl 39 _ rfl w6.heap.size rfl 39 (Stp.ofB xs).cells (0, 0) _ ?_ Try.underlying39 rfl (by kernel_rfl) ?_; exact Hid.out (by assumption)))
  go_ret
  exact ⟨rfl, Hid.out (by assumption)⟩

theorem creads_any (A : Option Addr) (n cap : Nat) (xs : List Int) (w : World) (h : RdB w A n xs) (hc : n ≤ cap) :
    Calls Try.prog 8 #[.slice A n cap] w fun e w' => e = .returned (.bool true) ∧ Below w.heap.size w w' := by
  by_cases hn : n = 14
  · subst hn
    by_cases hx : (Stp.ofB xs).check = 0
    · exact creads_good A 14 cap xs w h hx hc
    · exact creads_bad A 14 cap xs w h hx hc
  · exact creads_short A n cap xs w h hn
end Go.Proofs.Ytednooklmonblaa
