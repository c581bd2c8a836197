/- ConfigBack: the walk, way by way. -/
import Derived.Test.YtednooklmonblaaLawF
namespace Go.Proofs.Ytednooklmonblaa
open Go.RowKit

theorem read_own (c : Cfg) (hc : c.wrong = 0) (A : Option Addr) (cap : Nat) (w : World) (h : RdB w A 20 (c.bytes 10)) :
    Calls Try.prog 20 #[.slice A 20 cap] w fun e w' => e = .returned (.tuple #[.agg c.cells, .int .i64 0]) ∧ Below w.heap.size w w' :=
  (read_full A cap _ w h).mono fun e w' ⟨he, hb⟩ => ⟨by rw [he, Cfg.back (Cfg.wrong_zero hc).1, if_pos hc], hb⟩
theorem read_good (A : Option Addr) (cap : Nat) (xs : List Int) (w : World) (h : RdB w A 20 xs) (hw : (Cfg.part xs 10).wrong = 0) :
    Calls Try.prog 20 #[.slice A 20 cap] w fun e w' => e = .returned (.tuple #[.agg (Cfg.part xs 10).cells, .int .i64 0]) ∧ Below w.heap.size w w' :=
  (read_full A cap xs w h).mono fun e w' ⟨he, hb⟩ => ⟨by rw [he, if_pos hw], hb⟩
theorem read_bad (A : Option Addr) (cap : Nat) (xs : List Int) (w : World) (h : RdB w A 20 xs) (hw : (Cfg.part xs 10).wrong ≠ 0) :
    Calls Try.prog 20 #[.slice A 20 cap] w fun e w' => e = .returned (.tuple #[.agg Cfg.zero.cells, .int .i64 16]) ∧ Below w.heap.size w w' :=
  (read_full A cap xs w h).mono fun e w' ⟨he, hb⟩ => ⟨by rw [he, if_neg hw], hb⟩
theorem zero_eql (w : World) : (binOp .eql 23 (.agg Cfg.zero.cells) (.agg #[.int .i64 0, .int .i64 0, .int .i64 0, .int .i64 0, .int .i64 0, .int .i64 0, .int .i64 0, .int .i64 0, .int .i64 0, .int .i64 0])).run Try.prog w = .ok (.bool true) w := by kernel_rfl

set_option maxHeartbeats 4000000 in
theorem back_fine_short (c : Cfg) (A : Option Addr) (n cap : Nat) (xs : List Int) (w : World) (h : RdB w A n xs) (hc : c.wrong = 0) (hn : n ≠ 20) :
    Calls Try.prog 6 #[.agg c.cells, .slice A n cap] w fun e w' => e = .returned (.bool true) ∧ Below w.heap.size w w' := by
  have h0 : (c.wrong == 0) = true := by simp [hc]
  have HH := Lib.hid hc
  clear hc
  have h1 : ((n : Int) != 20) = true := by rw [bne_iff_ne]; omega
  have HN := Lib.hid hn
  clear hn
  have he := fun wx => cfg_neq c wx
  have hz := fun wx => zero_eql wx
  have A0 := Lib.hid (heap_alloc_new w (.cells c.cells 23))
  have B0 := Lib.hid (below_alloc0 w (.cells c.cells 23))
  have R0 := Lib.hid (h.below B0.out)
  clear h
  go_enter Try.func6, Try.ntmps6
  go_wp2_with (first
    | (go_at_call 12; refine (alive_any _).mono ?_; rintro e w4 ⟨rfl, hb4⟩; have A4 := Lib.hid (keep hb4 (k := w.heap.size) (o := .cells c.cells 23 (0, 0)) (Hid.out (by assumption))); have B4 := Lib.hid (below_next (w := w) (Hid.out (by assumption)) hb4); have R4 : Hid (RdB _ A n xs) := RdB.below (Hid.out (by assumption)) hb4; clear hb4)
    | (go_at_call 13; (with_reducible refine (lwrong_any c _).mono ?_); rintro e w4 ⟨rfl, hb4⟩; have A4 := Lib.hid (keep hb4 (k := w.heap.size) (o := .cells c.cells 23 (0, 0)) (Hid.out (by assumption))); have B4 := Lib.hid (below_next (w := w) (Hid.out (by assumption)) hb4); have R4 : Hid (RdB _ A n xs) := RdB.below (Hid.out (by assumption)) hb4; clear hb4)
    | (go_at_call 18; (with_reducible refine (octets_yes c _ HH.out).mono ?_); rintro e w4 ⟨A2, cap2, rfl, hr, hb4⟩; have A4 := Lib.hid (keep hb4 (k := w.heap.size) (o := .cells c.cells 23 (0, 0)) (Hid.out (by assumption))); have B4 := Lib.hid (below_next (w := w) (Hid.out (by assumption)) hb4); have R4 : Hid (RdB _ A n xs) := RdB.below (Hid.out (by assumption)) hb4; have R2 := Lib.hid hr; clear hb4 hr)
    | (go_at_call 20; (with_reducible refine (read_own c HH.out _ _ _ R2.out).mono ?_); rintro e w4 ⟨rfl, hb4⟩; have A4 := Lib.hid (keep_alloc (.cells c.cells 23) (keep hb4 (k := w.heap.size) (o := .cells c.cells 23 (0, 0)) (Hid.out (by assumption)))); have B4 := Lib.hid (below_new (below_next (w := w) (Hid.out (by assumption)) hb4) (.cells c.cells 23)); have R4 : Hid (RdB _ A n xs) := RdB.below (RdB.below (Hid.out (by assumption)) hb4) (below_alloc0 w4 (.cells c.cells 23)); have N4 := Lib.hid (heap_alloc_new w4 (.cells c.cells 23)); clear R2 hb4)
    | (refine wpList_store_new rfl 23 _ _ rfl c.cells rfl rfl 23 _ (by kernel_rfl) rfl (by kernel_rfl) ?_)
    | (go_at_call 20; (with_reducible refine (read_short A n cap _ HN.out).mono ?_); rintro e w5 ⟨rfl, hb4⟩; have B4 := Lib.hid (below_new (below_next (w := w) (Hid.out (by assumption)) hb4) (.cells Cfg.zero.cells 23)); have R4 : Hid (RdB _ A n xs) := RdB.below (RdB.below (Hid.out (by assumption)) hb4) (below_alloc0 w5 (.cells Cfg.zero.cells 23)); have X4 := Lib.hid (heap_alloc_new w5 (.cells Cfg.zero.cells 23)); clear hb4)
    | (refine wpList_store_new rfl 23 _ _ rfl Cfg.zero.cells rfl rfl 23 _ (by kernel_rfl) rfl (by kernel_rfl) ?_)
    | (refine gate_guard (by rfl) ?_; refine wpList_load_row rfl 23 _ rfl w.heap.size rfl 23 c.cells (0, 0) _ ?_ Try.underlying23 rfl (by kernel_rfl) ?_; exact Hid.out (by assumption))
    | (refine gate_guard (by rfl) ?_; refine wpList_load_row rfl 23 _ rfl _ rfl 23 c.cells (0, 0) _ ?_ Try.underlying23 rfl (by kernel_rfl) ?_; exact Hid.out (by assumption))
    | (refine gate_guard (by rfl) ?_; refine wpList_load_row rfl 23 _ rfl _ rfl 23 Cfg.zero.cells (0, 0) _ ?_ Try.underlying23 rfl (by kernel_rfl) ?_; exact Hid.out (by assumption)))
  go_ret
  exact ⟨rfl, Hid.out (by assumption)⟩

set_option maxHeartbeats 4000000 in
theorem back_fine_good (c : Cfg) (A : Option Addr) (_n cap : Nat) (xs : List Int) (w : World) (h : RdB w A 20 xs) (hc : c.wrong = 0) (hx : (Cfg.part xs 10).wrong = 0) :
    Calls Try.prog 6 #[.agg c.cells, .slice A 20 cap] w fun e w' => e = .returned (.bool true) ∧ Below w.heap.size w w' := by
  have h0 : (c.wrong == 0) = true := by simp [hc]
  have HH := Lib.hid hc
  clear hc
  have h1 : ((Cfg.part xs 10).wrong == 0) = true := by simp [hx]
  have h2 : ((Cfg.part xs 10).wrong != 0) = false := by simp [hx]
  have HX := Lib.hid hx
  have HFB := Lib.hid (Cfg.forth h.len h.byte)
  clear hx
  have he := fun wx => cfg_neq c wx
  have hz := fun wx => zero_eql wx
  have A0 := Lib.hid (heap_alloc_new w (.cells c.cells 23))
  have B0 := Lib.hid (below_alloc0 w (.cells c.cells 23))
  have R0 := Lib.hid (h.below B0.out)
  clear h
  go_enter Try.func6, Try.ntmps6
  go_wp2_with (first
    | (go_at_call 12; refine (alive_any _).mono ?_; rintro e w4 ⟨rfl, hb4⟩; have A4 := Lib.hid (keep hb4 (k := w.heap.size) (o := .cells c.cells 23 (0, 0)) (Hid.out (by assumption))); have B4 := Lib.hid (below_next (w := w) (Hid.out (by assumption)) hb4); have R4 : Hid (RdB _ A 20 xs) := RdB.below (Hid.out (by assumption)) hb4; clear hb4)
    | (go_at_call 13; (with_reducible refine (lwrong_any c _).mono ?_); rintro e w4 ⟨rfl, hb4⟩; have A4 := Lib.hid (keep hb4 (k := w.heap.size) (o := .cells c.cells 23 (0, 0)) (Hid.out (by assumption))); have B4 := Lib.hid (below_next (w := w) (Hid.out (by assumption)) hb4); have R4 : Hid (RdB _ A 20 xs) := RdB.below (Hid.out (by assumption)) hb4; clear hb4)
    | (go_at_call 18; (with_reducible refine (octets_yes c _ HH.out).mono ?_); rintro e w4 ⟨A2, cap2, rfl, hr, hb4⟩; have A4 := Lib.hid (keep hb4 (k := w.heap.size) (o := .cells c.cells 23 (0, 0)) (Hid.out (by assumption))); have B4 := Lib.hid (below_next (w := w) (Hid.out (by assumption)) hb4); have R4 : Hid (RdB _ A 20 xs) := RdB.below (Hid.out (by assumption)) hb4; have R2 := Lib.hid hr; clear hb4 hr)
    | (go_at_call 20; (with_reducible refine (read_own c HH.out _ _ _ R2.out).mono ?_); rintro e w4 ⟨rfl, hb4⟩; have A4 := Lib.hid (keep_alloc (.cells c.cells 23) (keep hb4 (k := w.heap.size) (o := .cells c.cells 23 (0, 0)) (Hid.out (by assumption)))); have B4 := Lib.hid (below_new (below_next (w := w) (Hid.out (by assumption)) hb4) (.cells c.cells 23)); have R4 : Hid (RdB _ A 20 xs) := RdB.below (RdB.below (Hid.out (by assumption)) hb4) (below_alloc0 w4 (.cells c.cells 23)); have N4 := Lib.hid (heap_alloc_new w4 (.cells c.cells 23)); clear R2 hb4)
    | (refine wpList_store_new rfl 23 _ _ rfl c.cells rfl rfl 23 _ (by kernel_rfl) rfl (by kernel_rfl) ?_)
    | (go_at_call 20; (with_reducible refine (read_good A cap xs _ (Hid.out (by assumption)) HX.out).mono ?_); rintro e w5 ⟨rfl, hb4⟩; have B4 := Lib.hid (below_new (below_next (w := w) (Hid.out (by assumption)) hb4) (.cells (Cfg.part xs 10).cells 23)); have R4 : Hid (RdB _ A 20 xs) := RdB.below (RdB.below (Hid.out (by assumption)) hb4) (below_alloc0 w5 (.cells (Cfg.part xs 10).cells 23)); have X4 := Lib.hid (heap_alloc_new w5 (.cells (Cfg.part xs 10).cells 23)); clear hb4)
    | (refine wpList_store_new rfl 23 _ _ rfl (Cfg.part xs 10).cells rfl rfl 23 _ (by kernel_rfl) rfl (by kernel_rfl) ?_)
    | (go_at_call 18; (with_reducible refine (octets_yes (Cfg.part xs 10) _ HX.out).mono ?_); rintro e w6 ⟨A3, cap3, rfl, hr, hb4⟩; have X6 := Lib.hid (keep hb4 (k := w5.heap.size) (o := .cells (Cfg.part xs 10).cells 23 (0, 0)) (Hid.out (by assumption))); have B4 := Lib.hid (below_next (w := w) (Hid.out (by assumption)) hb4); have R4 : Hid (RdB _ A 20 xs) := RdB.below (Hid.out (by assumption)) hb4; have R6 := Lib.hid hr; clear hb4 hr)
    | (go_at_call 13; (with_reducible refine (lwrong_any (Cfg.part xs 10) _).mono ?_); rintro e w7 ⟨rfl, hb4⟩; have B4 := Lib.hid (below_next (w := w) (Hid.out (by assumption)) hb4); have R7 : Hid (RdB w7 A 20 xs) := RdB.below (Hid.out (by assumption)) hb4; have hc1 := (R6.out.below hb4).conv (P := Try.prog) 29 9 5 Try.underlying29 Try.underlying5 Try.underlying9 cap3; rw [HFB.out] at hc1; have hc2 := R7.out.conv (P := Try.prog) 29 9 5 Try.underlying29 Try.underlying5 Try.underlying9 cap; clear hb4)
    | (refine gate_guard (by rfl) ?_; refine wpList_load_row rfl 23 _ rfl w.heap.size rfl 23 c.cells (0, 0) _ ?_ Try.underlying23 rfl (by kernel_rfl) ?_; exact Hid.out (by assumption))
    | (refine gate_guard (by rfl) ?_; refine wpList_load_row rfl 23 _ rfl _ rfl 23 c.cells (0, 0) _ ?_ Try.underlying23 rfl (by kernel_rfl) ?_; exact Hid.out (by assumption))
    | (refine gate_guard (by rfl) ?_; refine wpList_load_row rfl 23 _ rfl _ rfl 23 (Cfg.part xs 10).cells (0, 0) _ ?_ Try.underlying23 rfl (by kernel_rfl) ?_; exact Hid.out (by assumption)))
  go_ret
  exact ⟨rfl, Hid.out (by assumption)⟩

set_option maxHeartbeats 4000000 in
theorem back_fine_bad (c : Cfg) (A : Option Addr) (_n cap : Nat) (xs : List Int) (w : World) (h : RdB w A 20 xs) (hc : c.wrong = 0) (hx : (Cfg.part xs 10).wrong ≠ 0) :
    Calls Try.prog 6 #[.agg c.cells, .slice A 20 cap] w fun e w' => e = .returned (.bool true) ∧ Below w.heap.size w w' := by
  have h0 : (c.wrong == 0) = true := by simp [hc]
  have HH := Lib.hid hc
  clear hc
  have h1 : ((Cfg.part xs 10).wrong == 0) = false := by simp [hx]
  have h2 : ((Cfg.part xs 10).wrong != 0) = true := by simp [hx]
  have HX := Lib.hid hx
  clear hx
  have he := fun wx => cfg_neq c wx
  have hz := fun wx => zero_eql wx
  have A0 := Lib.hid (heap_alloc_new w (.cells c.cells 23))
  have B0 := Lib.hid (below_alloc0 w (.cells c.cells 23))
  have R0 := Lib.hid (h.below B0.out)
  clear h
  go_enter Try.func6, Try.ntmps6
  go_wp2_with (first
    | (go_at_call 12; refine (alive_any _).mono ?_; rintro e w4 ⟨rfl, hb4⟩; have A4 := Lib.hid (keep hb4 (k := w.heap.size) (o := .cells c.cells 23 (0, 0)) (Hid.out (by assumption))); have B4 := Lib.hid (below_next (w := w) (Hid.out (by assumption)) hb4); have R4 : Hid (RdB _ A 20 xs) := RdB.below (Hid.out (by assumption)) hb4; clear hb4)
    | (go_at_call 13; (with_reducible refine (lwrong_any c _).mono ?_); rintro e w4 ⟨rfl, hb4⟩; have A4 := Lib.hid (keep hb4 (k := w.heap.size) (o := .cells c.cells 23 (0, 0)) (Hid.out (by assumption))); have B4 := Lib.hid (below_next (w := w) (Hid.out (by assumption)) hb4); have R4 : Hid (RdB _ A 20 xs) := RdB.below (Hid.out (by assumption)) hb4; clear hb4)
    | (go_at_call 18; (with_reducible refine (octets_yes c _ HH.out).mono ?_); rintro e w4 ⟨A2, cap2, rfl, hr, hb4⟩; have A4 := Lib.hid (keep hb4 (k := w.heap.size) (o := .cells c.cells 23 (0, 0)) (Hid.out (by assumption))); have B4 := Lib.hid (below_next (w := w) (Hid.out (by assumption)) hb4); have R4 : Hid (RdB _ A 20 xs) := RdB.below (Hid.out (by assumption)) hb4; have R2 := Lib.hid hr; clear hb4 hr)
    | (go_at_call 20; (with_reducible refine (read_own c HH.out _ _ _ R2.out).mono ?_); rintro e w4 ⟨rfl, hb4⟩; have A4 := Lib.hid (keep_alloc (.cells c.cells 23) (keep hb4 (k := w.heap.size) (o := .cells c.cells 23 (0, 0)) (Hid.out (by assumption)))); have B4 := Lib.hid (below_new (below_next (w := w) (Hid.out (by assumption)) hb4) (.cells c.cells 23)); have R4 : Hid (RdB _ A 20 xs) := RdB.below (RdB.below (Hid.out (by assumption)) hb4) (below_alloc0 w4 (.cells c.cells 23)); have N4 := Lib.hid (heap_alloc_new w4 (.cells c.cells 23)); clear R2 hb4)
    | (refine wpList_store_new rfl 23 _ _ rfl c.cells rfl rfl 23 _ (by kernel_rfl) rfl (by kernel_rfl) ?_)
    | (go_at_call 20; (with_reducible refine (read_bad A cap xs _ (Hid.out (by assumption)) HX.out).mono ?_); rintro e w5 ⟨rfl, hb4⟩; have B4 := Lib.hid (below_new (below_next (w := w) (Hid.out (by assumption)) hb4) (.cells Cfg.zero.cells 23)); have R4 : Hid (RdB _ A 20 xs) := RdB.below (RdB.below (Hid.out (by assumption)) hb4) (below_alloc0 w5 (.cells Cfg.zero.cells 23)); have X4 := Lib.hid (heap_alloc_new w5 (.cells Cfg.zero.cells 23)); clear hb4)
    | (refine wpList_store_new rfl 23 _ _ rfl Cfg.zero.cells rfl rfl 23 _ (by kernel_rfl) rfl (by kernel_rfl) ?_)
    | (go_at_call 21; refine (odd_any A cap xs _ (Hid.out (by assumption))).mono ?_; rintro e w4 ⟨rfl, hb4⟩; have B4 := Lib.hid (below_next (w := w) (Hid.out (by assumption)) hb4); clear hb4)
    | (refine gate_guard (by rfl) ?_; refine wpList_load_row rfl 23 _ rfl w.heap.size rfl 23 c.cells (0, 0) _ ?_ Try.underlying23 rfl (by kernel_rfl) ?_; exact Hid.out (by assumption))
    | (refine gate_guard (by rfl) ?_; refine wpList_load_row rfl 23 _ rfl _ rfl 23 c.cells (0, 0) _ ?_ Try.underlying23 rfl (by kernel_rfl) ?_; exact Hid.out (by assumption))
    | (refine gate_guard (by rfl) ?_; refine wpList_load_row rfl 23 _ rfl _ rfl 23 Cfg.zero.cells (0, 0) _ ?_ Try.underlying23 rfl (by kernel_rfl) ?_; exact Hid.out (by assumption)))
  go_ret
  exact ⟨rfl, Hid.out (by assumption)⟩

set_option maxHeartbeats 4000000 in
theorem back_wrong_short (c : Cfg) (A : Option Addr) (n cap : Nat) (xs : List Int) (w : World) (h : RdB w A n xs) (hc : c.wrong ≠ 0) (hn : n ≠ 20) :
    Calls Try.prog 6 #[.agg c.cells, .slice A n cap] w fun e w' => e = .returned (.bool true) ∧ Below w.heap.size w w' := by
  have h0 : (c.wrong == 0) = false := by simp [hc]
  have HH := Lib.hid hc
  clear hc
  have h1 : ((n : Int) != 20) = true := by rw [bne_iff_ne]; omega
  have HN := Lib.hid hn
  clear hn
  have he := fun wx => cfg_neq c wx
  have hz := fun wx => zero_eql wx
  have A0 := Lib.hid (heap_alloc_new w (.cells c.cells 23))
  have B0 := Lib.hid (below_alloc0 w (.cells c.cells 23))
  have R0 := Lib.hid (h.below B0.out)
  clear h
  go_enter Try.func6, Try.ntmps6
  go_wp2_with (first
    | (go_at_call 12; refine (alive_any _).mono ?_; rintro e w4 ⟨rfl, hb4⟩; have A4 := Lib.hid (keep hb4 (k := w.heap.size) (o := .cells c.cells 23 (0, 0)) (Hid.out (by assumption))); have B4 := Lib.hid (below_next (w := w) (Hid.out (by assumption)) hb4); have R4 : Hid (RdB _ A n xs) := RdB.below (Hid.out (by assumption)) hb4; clear hb4)
    | (go_at_call 13; (with_reducible refine (lwrong_any c _).mono ?_); rintro e w4 ⟨rfl, hb4⟩; have A4 := Lib.hid (keep hb4 (k := w.heap.size) (o := .cells c.cells 23 (0, 0)) (Hid.out (by assumption))); have B4 := Lib.hid (below_next (w := w) (Hid.out (by assumption)) hb4); have R4 : Hid (RdB _ A n xs) := RdB.below (Hid.out (by assumption)) hb4; clear hb4)
    | (go_at_call 20; (with_reducible refine (read_short A n cap _ HN.out).mono ?_); rintro e w5 ⟨rfl, hb4⟩; have B4 := Lib.hid (below_new (below_next (w := w) (Hid.out (by assumption)) hb4) (.cells Cfg.zero.cells 23)); have R4 : Hid (RdB _ A n xs) := RdB.below (RdB.below (Hid.out (by assumption)) hb4) (below_alloc0 w5 (.cells Cfg.zero.cells 23)); have X4 := Lib.hid (heap_alloc_new w5 (.cells Cfg.zero.cells 23)); clear hb4)
    | (refine wpList_store_new rfl 23 _ _ rfl Cfg.zero.cells rfl rfl 23 _ (by kernel_rfl) rfl (by kernel_rfl) ?_)
    | (refine gate_guard (by rfl) ?_; refine wpList_load_row rfl 23 _ rfl w.heap.size rfl 23 c.cells (0, 0) _ ?_ Try.underlying23 rfl (by kernel_rfl) ?_; exact Hid.out (by assumption))
    | (refine gate_guard (by rfl) ?_; refine wpList_load_row rfl 23 _ rfl _ rfl 23 Cfg.zero.cells (0, 0) _ ?_ Try.underlying23 rfl (by kernel_rfl) ?_; exact Hid.out (by assumption)))
  go_ret
  exact ⟨rfl, Hid.out (by assumption)⟩

set_option maxHeartbeats 4000000 in
theorem back_wrong_good (c : Cfg) (A : Option Addr) (_n cap : Nat) (xs : List Int) (w : World) (h : RdB w A 20 xs) (hc : c.wrong ≠ 0) (hx : (Cfg.part xs 10).wrong = 0) :
    Calls Try.prog 6 #[.agg c.cells, .slice A 20 cap] w fun e w' => e = .returned (.bool true) ∧ Below w.heap.size w w' := by
  have h0 : (c.wrong == 0) = false := by simp [hc]
  have HH := Lib.hid hc
  clear hc
  have h1 : ((Cfg.part xs 10).wrong == 0) = true := by simp [hx]
  have h2 : ((Cfg.part xs 10).wrong != 0) = false := by simp [hx]
  have HX := Lib.hid hx
  have HFB := Lib.hid (Cfg.forth h.len h.byte)
  clear hx
  have he := fun wx => cfg_neq c wx
  have hz := fun wx => zero_eql wx
  have A0 := Lib.hid (heap_alloc_new w (.cells c.cells 23))
  have B0 := Lib.hid (below_alloc0 w (.cells c.cells 23))
  have R0 := Lib.hid (h.below B0.out)
  clear h
  go_enter Try.func6, Try.ntmps6
  go_wp2_with (first
    | (go_at_call 12; refine (alive_any _).mono ?_; rintro e w4 ⟨rfl, hb4⟩; have A4 := Lib.hid (keep hb4 (k := w.heap.size) (o := .cells c.cells 23 (0, 0)) (Hid.out (by assumption))); have B4 := Lib.hid (below_next (w := w) (Hid.out (by assumption)) hb4); have R4 : Hid (RdB _ A 20 xs) := RdB.below (Hid.out (by assumption)) hb4; clear hb4)
    | (go_at_call 13; (with_reducible refine (lwrong_any c _).mono ?_); rintro e w4 ⟨rfl, hb4⟩; have A4 := Lib.hid (keep hb4 (k := w.heap.size) (o := .cells c.cells 23 (0, 0)) (Hid.out (by assumption))); have B4 := Lib.hid (below_next (w := w) (Hid.out (by assumption)) hb4); have R4 : Hid (RdB _ A 20 xs) := RdB.below (Hid.out (by assumption)) hb4; clear hb4)
    | (go_at_call 20; (with_reducible refine (read_good A cap xs _ (Hid.out (by assumption)) HX.out).mono ?_); rintro e w5 ⟨rfl, hb4⟩; have B4 := Lib.hid (below_new (below_next (w := w) (Hid.out (by assumption)) hb4) (.cells (Cfg.part xs 10).cells 23)); have R4 : Hid (RdB _ A 20 xs) := RdB.below (RdB.below (Hid.out (by assumption)) hb4) (below_alloc0 w5 (.cells (Cfg.part xs 10).cells 23)); have X4 := Lib.hid (heap_alloc_new w5 (.cells (Cfg.part xs 10).cells 23)); clear hb4)
    | (refine wpList_store_new rfl 23 _ _ rfl (Cfg.part xs 10).cells rfl rfl 23 _ (by kernel_rfl) rfl (by kernel_rfl) ?_)
    | (go_at_call 18; (with_reducible refine (octets_yes (Cfg.part xs 10) _ HX.out).mono ?_); rintro e w6 ⟨A3, cap3, rfl, hr, hb4⟩; have X6 := Lib.hid (keep hb4 (k := w5.heap.size) (o := .cells (Cfg.part xs 10).cells 23 (0, 0)) (Hid.out (by assumption))); have B4 := Lib.hid (below_next (w := w) (Hid.out (by assumption)) hb4); have R4 : Hid (RdB _ A 20 xs) := RdB.below (Hid.out (by assumption)) hb4; have R6 := Lib.hid hr; clear hb4 hr)
    | (go_at_call 13; (with_reducible refine (lwrong_any (Cfg.part xs 10) _).mono ?_); rintro e w7 ⟨rfl, hb4⟩; have B4 := Lib.hid (below_next (w := w) (Hid.out (by assumption)) hb4); have R7 : Hid (RdB w7 A 20 xs) := RdB.below (Hid.out (by assumption)) hb4; have hc1 := (R6.out.below hb4).conv (P := Try.prog) 29 9 5 Try.underlying29 Try.underlying5 Try.underlying9 cap3; rw [HFB.out] at hc1; have hc2 := R7.out.conv (P := Try.prog) 29 9 5 Try.underlying29 Try.underlying5 Try.underlying9 cap; clear hb4)
    | (refine gate_guard (by rfl) ?_; refine wpList_load_row rfl 23 _ rfl w.heap.size rfl 23 c.cells (0, 0) _ ?_ Try.underlying23 rfl (by kernel_rfl) ?_; exact Hid.out (by assumption))
    | (refine gate_guard (by rfl) ?_; refine wpList_load_row rfl 23 _ rfl _ rfl 23 (Cfg.part xs 10).cells (0, 0) _ ?_ Try.underlying23 rfl (by kernel_rfl) ?_; exact Hid.out (by assumption)))
  go_ret
  exact ⟨rfl, Hid.out (by assumption)⟩

set_option maxHeartbeats 4000000 in
theorem back_wrong_bad (c : Cfg) (A : Option Addr) (_n cap : Nat) (xs : List Int) (w : World) (h : RdB w A 20 xs) (hc : c.wrong ≠ 0) (hx : (Cfg.part xs 10).wrong ≠ 0) :
    Calls Try.prog 6 #[.agg c.cells, .slice A 20 cap] w fun e w' => e = .returned (.bool true) ∧ Below w.heap.size w w' := by
  have h0 : (c.wrong == 0) = false := by simp [hc]
  have HH := Lib.hid hc
  clear hc
  have h1 : ((Cfg.part xs 10).wrong == 0) = false := by simp [hx]
  have h2 : ((Cfg.part xs 10).wrong != 0) = true := by simp [hx]
  have HX := Lib.hid hx
  clear hx
  have he := fun wx => cfg_neq c wx
  have hz := fun wx => zero_eql wx
  have A0 := Lib.hid (heap_alloc_new w (.cells c.cells 23))
  have B0 := Lib.hid (below_alloc0 w (.cells c.cells 23))
  have R0 := Lib.hid (h.below B0.out)
  clear h
  go_enter Try.func6, Try.ntmps6
  go_wp2_with (first
    | (go_at_call 12; refine (alive_any _).mono ?_; rintro e w4 ⟨rfl, hb4⟩; have A4 := Lib.hid (keep hb4 (k := w.heap.size) (o := .cells c.cells 23 (0, 0)) (Hid.out (by assumption))); have B4 := Lib.hid (below_next (w := w) (Hid.out (by assumption)) hb4); have R4 : Hid (RdB _ A 20 xs) := RdB.below (Hid.out (by assumption)) hb4; clear hb4)
    | (go_at_call 13; (with_reducible refine (lwrong_any c _).mono ?_); rintro e w4 ⟨rfl, hb4⟩; have A4 := Lib.hid (keep hb4 (k := w.heap.size) (o := .cells c.cells 23 (0, 0)) (Hid.out (by assumption))); have B4 := Lib.hid (below_next (w := w) (Hid.out (by assumption)) hb4); have R4 : Hid (RdB _ A 20 xs) := RdB.below (Hid.out (by assumption)) hb4; clear hb4)
    | (go_at_call 20; (with_reducible refine (read_bad A cap xs _ (Hid.out (by assumption)) HX.out).mono ?_); rintro e w5 ⟨rfl, hb4⟩; have B4 := Lib.hid (below_new (below_next (w := w) (Hid.out (by assumption)) hb4) (.cells Cfg.zero.cells 23)); have R4 : Hid (RdB _ A 20 xs) := RdB.below (RdB.below (Hid.out (by assumption)) hb4) (below_alloc0 w5 (.cells Cfg.zero.cells 23)); have X4 := Lib.hid (heap_alloc_new w5 (.cells Cfg.zero.cells 23)); clear hb4)
    | (refine wpList_store_new rfl 23 _ _ rfl Cfg.zero.cells rfl rfl 23 _ (by kernel_rfl) rfl (by kernel_rfl) ?_)
    | (go_at_call 21; refine (odd_any A cap xs _ (Hid.out (by assumption))).mono ?_; rintro e w4 ⟨rfl, hb4⟩; have B4 := Lib.hid (below_next (w := w) (Hid.out (by assumption)) hb4); clear hb4)
    | (refine gate_guard (by rfl) ?_; refine wpList_load_row rfl 23 _ rfl w.heap.size rfl 23 c.cells (0, 0) _ ?_ Try.underlying23 rfl (by kernel_rfl) ?_; exact Hid.out (by assumption))
    | (refine gate_guard (by rfl) ?_; refine wpList_load_row rfl 23 _ rfl _ rfl 23 Cfg.zero.cells (0, 0) _ ?_ Try.underlying23 rfl (by kernel_rfl) ?_; exact Hid.out (by assumption)))
  go_ret
  exact ⟨rfl, Hid.out (by assumption)⟩

theorem back_any (c : Cfg) (A : Option Addr) (n cap : Nat) (xs : List Int) (w : World) (h : RdB w A n xs) :
    Calls Try.prog 6 #[.agg c.cells, .slice A n cap] w fun e w' => e = .returned (.bool true) ∧ Below w.heap.size w w' := by
  by_cases hn : n = 20
  · subst hn
    by_cases hx : (Cfg.part xs 10).wrong = 0
    · by_cases hc : c.wrong = 0
      · exact back_fine_good c A 20 cap xs w h hc hx
      · exact back_wrong_good c A 20 cap xs w h hc hx
    · by_cases hc : c.wrong = 0
      · exact back_fine_bad c A 20 cap xs w h hc hx
      · exact back_wrong_bad c A 20 cap xs w h hc hx
  · by_cases hc : c.wrong = 0
    · exact back_fine_short c A n cap xs w h hc hn
    · exact back_wrong_short c A n cap xs w h hc hn
end Go.Proofs.Ytednooklmonblaa
