/- CodeAnswers: the walk, of an answer that has octets. -/
import Derived.Test.YtednooklmonblaaCodeD0
namespace Go.Proofs.Ytednooklmonblaa
open Go.RowKit

set_option maxHeartbeats 8000000 in
set_option maxRecDepth 100000 in
theorem answers_good_short (a : Ans) (A : Option Addr) (n cap : Nat) (xs : List Int) (w : World) (h : RdB w A n xs) (hg : a.good) (lo : -9223372036854775808 ≤ a.n) (hi : a.n ≤ 9223372036854775807) (hn : n ≠ 14) :
    Calls Try.prog 9 #[.agg a.cells, .slice A n cap] w fun e w' => e = .returned (.bool true) ∧ Below w.heap.size w w' := by
  have h1 : ((n : Int) != 14) = true := by rw [bne_iff_ne]; omega
  have HN := Lib.hid hn
  clear hn
  have hz := fun wx => ans_zero_eql wx
  have hq := fun wx => ans_neq a wx
  have A0 := Lib.hid (heap_alloc_new w (.cells a.cells 49))
  have B0 := Lib.hid (below_alloc0 w (.cells a.cells 49))
  have R0 : Hid (RdB _ A n xs) := h.alloc (.cells a.cells 49)
  clear h
  have HOL := Lib.hid (Ans.octs_law hg)
  have HGA := Lib.hid hg
  obtain ⟨i0, hi', hz0, hz1, hz2⟩ := info_parts Try.info5'
  have hi' := Lib.hid hi'
  have hz0 := Lib.hid hz0
  have hz1 := Lib.hid hz1
  have hz2 := Lib.hid hz2
  obtain ⟨g1, g2, g3, g4⟩ := hg
  go_enter Try.func9, Try.ntmps9
  go_wp2_with (first
    | (go_at_call 22; refine (calive_any _).mono ?_; rintro e w4 ⟨rfl, hb4⟩; have A4 := Lib.hid (keep hb4 (k := w.heap.size) (o := .cells a.cells 49 (0, 0)) (Hid.out (by assumption))); have B4 := Lib.hid (below_next (w := w) (Hid.out (by assumption)) hb4); have R4 : Hid (RdB _ A n xs) := RdB.below (Hid.out (by assumption)) hb4; clear hb4)
    | (go_at_call 29; (with_reducible refine (tell_c a _ HGA.out).mono ?_); rintro e w4 ⟨b1, o1, cap1, rfl, hc1, hr1, hb4⟩; have A4 := Lib.hid (keep hb4 (k := w.heap.size) (o := .cells a.cells 49 (0, 0)) (Hid.out (by assumption))); have B4 := Lib.hid (below_next (w := w) (Hid.out (by assumption)) hb4); have R4 : Hid (RdB _ A n xs) := RdB.below (Hid.out (by assumption)) hb4; have P4 := Lib.hid hr1; have k0 := (ans_cell A4.out).1; have k1 := (ans_cell A4.out).2.1; have k2 := (ans_cell A4.out).2.2.1; have k3 := (ans_cell A4.out).2.2.2.1; have k4 := (ans_cell A4.out).2.2.2.2; clear hb4 hr1)
    | (go_at_call 26; refine (loct_own ⟨a.e, a.k, 0, 0, 0, 0, a.n⟩ _).mono ?_; rintro e w6 ⟨g6, cap6, rfl, hc6, ho6, hb4⟩; have A6 := Lib.hid (keep hb4 (k := w.heap.size) (o := .cells a.cells 49 (0, 0)) (Hid.out (by assumption))); have B6 := Lib.hid (below_next (w := w) (Hid.out (by assumption)) hb4); have R6 : Hid (RdB _ A n xs) := RdB.below (Hid.out (by assumption)) hb4; have P6 := Lib.hid (P4.out.below hb4); have O6 := Lib.hid ho6; have hs6 := hb4.size; have H6 := Lib.hid hb4; clear hb4 ho6)
    | (refine gate_guard (by rfl) ?_; refine wpList_load_row rfl 49 _ rfl w.heap.size rfl 49 a.cells (0, 0) _ ?_ Try.underlying49 rfl (by kernel_rfl) ?_; exact Hid.out (by assumption)))
  have O2 := Lib.hid (own_take O6.out (m := 2) (by omega))
  have i2 : (2 : Int) ≤ (cap6 : Int) := by omega
  have i14 : (14 : Int) ≤ (cap6 : Int) := by omega
  have hne6 : ¬ cap6 = 6 := by omega
  refine region_tail 4 (by kernel_rfl) (by kernel_rfl) ?_
  simp only [List.take_succ_cons, List.take_zero, List.drop_succ_cons, List.drop_zero]
  still_step
  still_step
  still_step
  still_step
  refine wpStill_nil ?_
  have hlt := A4.out
  have hlt : w.heap.size < w4.heap.size := by
    rcases Nat.lt_or_ge w.heap.size w4.heap.size with h | h
    · exact h
    · rw [Array.getElem?_eq_none (by omega)] at hlt; cases hlt
  go_wp2_with (at_builtin; refine wpList_append_own _ rfl _ _ 29 rfl w4.heap.size 5 i0 (.int .u8 0) 1 1 Try.underlying29 hi'.out hz0.out hz1.out hz2.out rfl (by decide) _ 2 (Stp.octV ⟨a.e, a.k, 0, 0, 0, 0, a.n⟩ |>.take 2) rfl O2.out.drew ⟨g6, 6, none⟩ 8 (cap6 - 6) (Stp.octV ⟨a.e, a.k, 0, 0, 0, 0, a.n⟩ |>.drop 6) rfl rfl ?c1 ?c2 ?c3 ?c4 ?c5 ?_)
  case c1 => exact own_cells O6.out.drew 6
  case c2 =>
    intro u hu
    obtain ⟨y, _, rfl⟩ := List.mem_map.1 (List.mem_of_mem_drop hu)
    rfl
  case c3 => unfold maxLen; omega
  case c4 => omega
  case c5 => simp; omega
  intro v' w7 hown hgrow _
  have H7 := Lib.hid (H6.out.drew.grown hgrow (by simpa using hs6) (own_base O2.out))
  have O7 := Lib.hid hown
  have A7 := Lib.hid (keep H7.out A4.out)
  have hs7 := H7.out.size
  clear hown hgrow O2 O6 A6 B6 R6 P6 H6 k0 k1 k2 k3 k4
  have k3 := (ans_cell A7.out).2.2.2.1
  have k4 := (ans_cell A7.out).2.2.2.2
  obtain ⟨g3a, g3b⟩ := g3
  obtain ⟨g4a, g4b⟩ := g4
  go_wp2_with (at_builtin; refine wpList_append_own _ rfl _ _ 29 rfl w4.heap.size 5 i0 (.int .u8 0) 1 1 Try.underlying29 hi'.out hz0.out hz1.out hz2.out rfl (by decide) _ 10 (List.take 2 (Stp.octV ⟨a.e, a.k, 0, 0, 0, 0, a.n⟩) ++ List.drop 6 (Stp.octV ⟨a.e, a.k, 0, 0, 0, 0, a.n⟩)) rfl (O7.out.alloc _) ⟨w7.heap.size, 0, none⟩ 4 4 [.int .u8 (a.d / 256), .int .u8 (a.d % 256), .int .u8 (a.c / 256), .int .u8 (a.c % 256)] rfl rfl ?c1 ?c2 ?c3 ?c4 ?c5 ?_)
  case c1 => exact cell_new _ _ _ _
  case c2 => simp [Value.oneCell']
  case c3 => unfold maxLen; omega
  case c4 => omega
  case c5 => simp; omega
  intro v9 w9 hown hgrow _
  have H9 := Lib.hid ((H7.out.alloc hs7 _).grown hgrow (by simp; omega) (own_base O7.out))
  have A9 := Lib.hid (keep H9.out A4.out)
  have B9 := Lib.hid (below_next B4.out H9.out)
  have R9 : Hid (RdB _ A n xs) := R4.out.below H9.out
  have P9 := Lib.hid (P4.out.below H9.out)
  obtain ⟨g9, cap9, rfl, hc9, hr9⟩ := own_ans HGA.out hown
  have Q9 := Lib.hid hr9
  clear hown hgrow hr9 H7 O7 A7 H9 k3 k4
  go_wp2_with (first
    | (go_at_call 30; (with_reducible refine (told_back HGA.out lo hi _ _ _ P9.out hc1).mono ?_); rintro e w10 ⟨rfl, hb4⟩; have A10 := Lib.hid (keep_alloc (.cells a.cells 49) (keep hb4 A9.out)); have B10 := Lib.hid (below_new (below_next B9.out hb4) (.cells a.cells 49)); have R10 : Hid (RdB _ A n xs) := (R9.out.below hb4).alloc (.cells a.cells 49); have hp := (P9.out.below hb4).alloc (.cells a.cells 49); have hw := (Q9.out.below hb4).alloc (.cells a.cells 49); have X10 := Lib.hid (heap_alloc_new w10 (.cells a.cells 49)); have v1 := hp.conv (P := Try.prog) 29 9 5 Try.underlying29 Try.underlying5 Try.underlying9 cap1; have v2 := hw.conv (P := Try.prog) 29 9 5 Try.underlying29 Try.underlying5 Try.underlying9 cap9; clear hb4 hp hw)
    | (refine wpList_store_new rfl 49 _ _ rfl a.cells rfl rfl 49 _ (by kernel_rfl) rfl (by kernel_rfl) ?_)
    | (refine gate_guard (by rfl) ?_; refine wpList_load_row rfl 49 _ rfl w10.heap.size rfl 49 a.cells (0, 0) _ ?_ Try.underlying49 rfl (by kernel_rfl) ?_; exact Hid.out (by assumption))
    | (go_at_call 30; (with_reducible refine (told_short A n cap _ HN.out).mono ?_); rintro e w5 ⟨rfl, hb4⟩; have R5 := Lib.hid (RdB.alloc (RdB.below (A := A) (n := n) (xs := xs) (Hid.out (by assumption)) hb4) (.cells Ans.zero.cells 49)); have B5 := Lib.hid (below_new (below_next (w := w) (Hid.out (by assumption)) hb4) (.cells Ans.zero.cells 49)); have X5 := Lib.hid (heap_alloc_new w5 (.cells Ans.zero.cells 49)); clear hb4)
    | (refine wpList_store_new rfl 49 _ _ rfl Ans.zero.cells rfl rfl 49 _ (by kernel_rfl) rfl (by kernel_rfl) ?_)
    | (refine gate_guard (by rfl) ?_; refine wpList_load_row rfl 49 _ rfl w.heap.size rfl 49 a.cells (0, 0) _ ?_ Try.underlying49 rfl (by kernel_rfl) ?_; exact Hid.out (by assumption))
    | (refine gate_guard (by rfl) ?_; refine wpList_load_row rfl 49 _ rfl w5.heap.size rfl 49 Ans.zero.cells (0, 0) _ ?_ Try.underlying49 rfl (by kernel_rfl) ?_; exact Hid.out (by assumption)))
  go_ret
  exact ⟨rfl, Hid.out (by assumption)⟩

end Go.Proofs.Ytednooklmonblaa
