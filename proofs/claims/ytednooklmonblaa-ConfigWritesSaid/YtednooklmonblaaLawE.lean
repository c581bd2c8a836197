/- ConfigWrites: the walk. -/
import Derived.Test.YtednooklmonblaaLawC
namespace Go.Proofs.Ytednooklmonblaa
open Go.RowKit

set_option maxHeartbeats 1000000 in
theorem writes_bad (c : Cfg) (w : World) (h : c.wrong ≠ 0) :
    Calls Try.prog 5 #[.agg c.cells] w fun e w' => e = .returned (.bool true) ∧ Below w.heap.size w w' := by
  have h0 : (c.wrong != 0) = true := by simp [h]
  have HH := Lib.hid h
  clear h
  have A0 := Lib.hid (heap_alloc_new w (.cells c.cells 23))
  have B0 := Lib.hid (below_alloc0 w (.cells c.cells 23))
  go_enter Try.func5, Try.ntmps5
  go_wp2_with (first
    | (go_at_call 12; refine (alive_any _).mono ?_; rintro e w4 ⟨rfl, hb4⟩; have A4 := Lib.hid (keep hb4 (k := w.heap.size) (o := .cells c.cells 23 (0, 0)) (Hid.out (by assumption))); have B4 := Lib.hid (below_next (w := w) (Hid.out (by assumption)) hb4); clear hb4)
    | (go_at_call 18; refine (octets_bad c _ HH.out).mono ?_; rintro e w4 ⟨rfl, hb4⟩; have A4 := Lib.hid (keep hb4 (k := w.heap.size) (o := .cells c.cells 23 (0, 0)) (Hid.out (by assumption))); have B4 := Lib.hid (below_next (w := w) (Hid.out (by assumption)) hb4); clear hb4)
    | (go_at_call 13; refine (lwrong_any _ _).mono ?_; rintro e w4 ⟨rfl, hb4⟩; have A4 := Lib.hid (keep hb4 (k := w.heap.size) (o := .cells c.cells 23 (0, 0)) (Hid.out (by assumption))); have B4 := Lib.hid (below_next (w := w) (Hid.out (by assumption)) hb4); clear hb4)
    | (refine gate_guard (by rfl) ?_; refine wpList_load_row rfl 23 _ rfl w.heap.size rfl 23 c.cells (0, 0) _ ?_ Try.underlying23 rfl (by kernel_rfl) ?_; exact Hid.out (by assumption)))
  go_ret
  exact ⟨rfl, Hid.out (by assumption)⟩

set_option maxHeartbeats 2000000 in
theorem writes_fine (c : Cfg) (w : World) (h : c.wrong = 0) :
    Calls Try.prog 5 #[.agg c.cells] w fun e w' => e = .returned (.bool true) ∧ Below w.heap.size w w' := by
  have h0 : (c.wrong != 0) = false := by simp [h]
  have HF := Lib.hid (Cfg.wrong_zero h).1
  have HH := Lib.hid h
  clear h
  obtain ⟨i0, hi, hz0, hz1, hz2⟩ := info_parts Try.info5
  have hi := Lib.hid hi
  have hz0 := Lib.hid hz0
  have hz1 := Lib.hid hz1
  have hz2 := Lib.hid hz2
  have A0 := Lib.hid (heap_alloc_new w (.cells c.cells 23))
  have B0 := Lib.hid (below_alloc0 w (.cells c.cells 23))
  go_enter Try.func5, Try.ntmps5
  go_wp2_with (first
    | (go_at_call 12; refine (alive_any _).mono ?_; rintro e w4 ⟨rfl, hb4⟩; have A4 := Lib.hid (keep hb4 (k := w.heap.size) (o := .cells c.cells 23 (0, 0)) (Hid.out (by assumption))); have B4 := Lib.hid (below_next (w := w) (Hid.out (by assumption)) hb4); clear hb4)
    | (go_at_call 18; refine (octets_yes c _ HH.out).mono ?_; rintro e w4 ⟨A, cap, rfl, hr, hb4⟩; have A4 := Lib.hid (keep hb4 (k := w.heap.size) (o := .cells c.cells 23 (0, 0)) (Hid.out (by assumption))); have B4 := Lib.hid (below_next (w := w) (Hid.out (by assumption)) hb4); have R4 := Lib.hid hr; clear hb4 hr)
    | (go_at_call 13; refine (lwrong_any _ _).mono ?_; rintro e w5 ⟨rfl, hb4⟩; have A5 := Lib.hid (keep hb4 (k := w.heap.size) (o := .cells c.cells 23 (0, 0)) (Hid.out (by assumption))); have B5 := Lib.hid (below_next (w := w) (Hid.out (by assumption)) hb4); have R5 := Lib.hid (R4.out.below hb4); clear hb4)
    | (refine gate_guard (by rfl) ?_; refine wpList_load_row rfl 23 _ rfl w.heap.size rfl 23 c.cells (0, 0) _ ?_ Try.underlying23 rfl (by kernel_rfl) ?_; exact Hid.out (by assumption)))
  clear A0 B0
  have H0 : Hid (w5.ownsRow w5.heap.size 5 1 (.slice none 0 0) (2 * 0) (c.octs 0)) := ⟨rfl, .inl ⟨rfl, rfl⟩⟩
  have H1 : Hid (Below w5.heap.size w5 w5) := Below.refl _ _
  go_loopw [5, 6] (fun v i wr => ∃ k : Nat, k ≤ 10 ∧ i = .int .i64 ((k : Int) + 1) ∧ Hid (wr.ownsRow w5.heap.size 5 1 v (2 * k) (c.octs k)) ∧ Hid (Below w5.heap.size w5 wr)) (fun _ i _ => 11 - (intOf i).toNat)
  case atStart => exact ⟨0, by omega, rfl, H0, H1⟩
  case round =>
    clear H0 H1
    obtain ⟨k, hk, rfl, HO, HB⟩ := hrel
    have G := Lib.hid (keep HB.out A5.out)
    by_cases hlt : k < 10
    · have hfb := HF.out.fld k hlt
      go_wp2_with (first
        | (go_at_call 19; refine (field_any c k hlt _).mono ?_; rintro e w6 ⟨rfl, hb6⟩; have HO6 := Lib.hid (pw_own_keep HO.out hb6); have HB6 := Lib.hid (below_next HB.out hb6); have hs6 := HB6.out.size)
        | (refine wpList_load_row rfl 23 _ rfl w.heap.size rfl 23 c.cells (0, 0) _ G.out Try.underlying23 rfl (by kernel_rfl) ?_)
        | (at_builtin; refine wpList_append_own _ rfl _ _ 29 rfl w5.heap.size 5 i0 (.int .u8 0) 1 1 Try.underlying29 hi.out hz0.out hz1.out hz2.out rfl (by decide) _ (2 * k) (c.octs k) rfl (HO6.out.alloc _) ⟨w6.heap.size, 0, none⟩ 2 2 [.int .u8 (c.fld k / 256), .int .u8 (c.fld k % 256)] rfl rfl ?c1 ?c2 ?c3 ?c4 ?c5 ?_))
      case c1 => exact cell_new _ _ _ _
      case c2 => simp [Value.oneCell']
      case c3 => unfold maxLen; omega
      case c4 => omega
      case c5 => simp; omega
      intro v' w7 hown hgrow _
      have HO7 : Hid (w7.ownsRow w5.heap.size 5 1 v' (2 * (k + 1)) (c.octs (k + 1))) := by
        have e : c.fld k / 256 % 256 = c.fld k / 256 := by omega
        rw [Cfg.octs_step, e]; exact hown
      have HB7 : Hid (Below w5.heap.size w5 w7) := (HB6.out.alloc hs6 _).grown hgrow (by simp; omega) (own_base HO.out)
      clear hown hgrow
      go_wp2_with fail
      go_roundw
      case rel => exact ⟨k + 1, by omega, by go_num, HO7, HB7⟩
      case measure => simp [intOf]; omega
    · obtain rfl : k = 10 := by omega
      have R6 := R5.out.below HB.out
      have hc1 := R6.conv (P := Try.prog) 29 9 5 Try.underlying29 Try.underlying5 Try.underlying9 cap
      have hc2 : (convert 29 9 u5).run Try.prog wr = .ok (.string (strOfNums (c.bytes 10))) wr := by
        obtain ⟨A', cap', hv, hr⟩ := RdB.of_own HO.out (c.bytes_byte 10) (by omega)
        rw [hv]
        exact hr.conv 29 9 5 Try.underlying29 Try.underlying5 Try.underlying9 cap'
      clear R6
      go_wp2_with fail
      go_ret
      exact ⟨rfl, below_next B5.out HB.out⟩

theorem writes_any (c : Cfg) (w : World) :
    Calls Try.prog 5 #[.agg c.cells] w fun e w' => e = .returned (.bool true) ∧ Below w.heap.size w w' := by
  by_cases h : c.wrong = 0
  · exact writes_fine c w h
  · exact writes_bad c w h
end Go.Proofs.Ytednooklmonblaa
