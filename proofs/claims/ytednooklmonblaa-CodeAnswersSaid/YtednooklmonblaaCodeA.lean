/- The law's own example of steps' and answers' octets. -/
import Derived.Test.YtednooklmonblaaAns1
import Derived.Test.YtednooklmonblaaStp3
namespace Go.Proofs.Ytednooklmonblaa
open Go.RowKit

def stp17 : Stp := ⟨17, 0, 0, 0, 0, 0, 0⟩
def stp4 : Stp := ⟨4, 2, 0, 0, 0, 0, -2⟩
def ans10 : Ans := ⟨10, 0, 0, 258, 0⟩
def byt4 : List Int := [4, 2, 0, 0, 0, 0, 255, 255, 255, 255, 255, 255, 255, 254]
theorem stp17_check : stp17.check = 0 := by decide +kernel
theorem stp4_check : stp4.check = 0 := by decide +kernel
theorem zero_stp_check : Stp.zero.check = 12 := by decide +kernel
theorem byt4_of : Stp.ofB byt4 = stp4 := by
  have : valI [255, 255, 255, 255, 255, 255, 255, 254] = 18446744073709551614 := by decide +kernel
  show (⟨4, 2, 0, 0, 0, 0, wrap64 (valI [255, 255, 255, 255, 255, 255, 255, 254])⟩ : Stp) = stp4
  rw [this]
  have : wrap64 18446744073709551614 = -2 := by unfold wrap64; omega
  rw [this]; rfl
theorem byt4_byte : ∀ x ∈ byt4, 0 ≤ x ∧ x ≤ 255 := by decide
theorem ans10_good : ans10.good := by unfold Ans.good; decide
theorem ans10_back : Ans.ofB ans10.octs = ans10 := Ans.back ans10_good (by decide) (by decide)
theorem oct17 : stp17.octs.getD 0 0 = 17 := by decide +kernel
theorem oct10 : ans10.octs.getD 10 0 = 1 := by decide +kernel
theorem oct11 : ans10.octs.getD 11 0 = 2 := by decide +kernel

theorem cput_c (x : Stp) (w : World) (h : x.check = 0) :
    Calls Try.prog 24 #[.agg x.cells] w fun e w' => ∃ b o cap, e = .returned (.tuple #[.slice (some ⟨b, o, none⟩) 14 cap, .int .i64 0]) ∧ 14 ≤ cap ∧ RdB w' (some ⟨b, o, none⟩) 14 x.octs ∧ Below w.heap.size w w' :=
  (cput_fine x w h).mono fun e w' ⟨v, he, ho, hb⟩ => by
    obtain ⟨A, cap, rfl, hc, hr⟩ := RdB.of_ownc ho x.octs_byte (by omega)
    obtain ⟨b, o, rfl, _⟩ := hr.cell (by omega)
    exact ⟨b, o, cap, he, hc, hr, hb⟩
theorem tell_c (x : Ans) (w : World) (h : x.good) :
    Calls Try.prog 29 #[.agg x.cells] w fun e w' => ∃ b o cap, e = .returned (.tuple #[.slice (some ⟨b, o, none⟩) 14 cap, .int .i64 0]) ∧ 14 ≤ cap ∧ RdB w' (some ⟨b, o, none⟩) 14 x.octs ∧ Below w.heap.size w w' :=
  (tell_yes x w h).mono fun e w' ⟨A, cap, he, hc, hr, hb⟩ => by
    obtain ⟨b, o, rfl, _⟩ := hr.cell (by omega)
    exact ⟨b, o, cap, he, hc, hr, hb⟩

theorem stp_eql4 (w : World) : (binOp .eql 39 (.agg stp4.cells) (.agg #[.int .i64 4, .int .i64 2, .int .i64 0, .int .i64 0, .int .i64 0, .int .i64 0, .int .i64 (-2)])).run Try.prog w = .ok (.bool true) w := by kernel_rfl
theorem ans_eql10 (w : World) : (binOp .eql 49 (.agg ans10.cells) (.agg #[.int .i64 10, .int .i64 0, .int .i64 0, .int .i64 258, .int .i64 0])).run Try.prog w = .ok (.bool true) w := by kernel_rfl

theorem rd4 (w : World) : RdB (w.alloc (.cells #[.int .u8 4, .int .u8 2, .int .u8 0, .int .u8 0, .int .u8 0, .int .u8 0, .int .u8 255, .int .u8 255, .int .u8 255, .int .u8 255, .int .u8 255, .int .u8 255, .int .u8 255, .int .u8 254] 5)) (some ⟨w.heap.size, 0, none⟩) 14 byt4 := by
  obtain ⟨A, cap, hv, hr⟩ := RdB.of_own (own_new (w := w) (base := w.heap.size) (e := 5) (size := 1) (byt4.map (Value.int .u8)) w.heap.size 14 rfl (Nat.le_refl _) rfl (by decide)) byt4_byte (by omega)
  cases hv
  exact hr

theorem cread_4 (cap : Nat) (A : Option Addr) (w : World) (h : RdB w A 14 byt4) (hc : 14 ≤ cap) :
    Calls Try.prog 27 #[.slice A 14 cap] w fun e w' => e = .returned (.tuple #[.agg stp4.cells, .int .i64 0]) ∧ Below w.heap.size w w' :=
  (cread_full A cap _ w h hc).mono fun e w' ⟨he, hb⟩ => ⟨by rw [he, byt4_of, Stp.readR_ok stp4_check], hb⟩

set_option maxHeartbeats 2000000 in
set_option maxRecDepth 100000 in
theorem calive_any (w : World) :
    Calls Try.prog 22 #[] w fun e w' => e = .returned (.bool true) ∧ Below w.heap.size w w' := by
  have he4 := stp_eql4
  have he10 := ans_eql10
  have hz := zero_stp_check
  go_enter Try.func22, Try.ntmps22
  go_wp2_with (first
    | (go_at_call 24; refine (cput_c stp17 _ stp17_check).mono ?_; rintro e w1 ⟨b1, o1, cap1, rfl, hc1, hr1, hb1⟩; have R1 := Lib.hid hr1; have B1 := Lib.hid hb1; have S1 := Lib.hid (rd4 w1); clear hr1 hb1)
    | (go_at_call 27; refine (cread_4 14 _ _ S1.out (by omega)).mono ?_; rintro e w2 ⟨rfl, hb2⟩; have R2 := Lib.hid (((R1.out.alloc _).below hb2).alloc (.cells stp4.cells 39)); have B2 := Lib.hid (below_new (below_next (below_new B1.out _) hb2) (.cells stp4.cells 39)); have X2 := Lib.hid (heap_alloc_new w2 (.cells stp4.cells 39)); clear hb2)
    | (refine wpList_store_new rfl 39 _ _ rfl stp4.cells rfl rfl 39 _ (by kernel_rfl) rfl (by kernel_rfl) ?_)
    | (go_at_call 29; refine (tell_c ans10 _ ans10_good).mono ?_; rintro e w3 ⟨b3, o3, cap3, rfl, hc3, hr3, hb3⟩; have R3 := Lib.hid (R2.out.below hb3); have B3 := Lib.hid (below_next B2.out hb3); have X3 := Lib.hid (keep hb3 X2.out); have T3 := Lib.hid hr3; clear hb3 hr3)
    | (go_at_call 30; refine (told_full _ _ _ _ T3.out hc3).mono ?_; rw [ans10_back]; rintro e w4 ⟨rfl, hb4⟩; have R4 := (R3.out.below hb4).alloc (.cells ans10.cells 49); have B4 := Lib.hid (below_new (below_next B3.out hb4) (.cells ans10.cells 49)); have X4 := Lib.hid (keep_alloc (.cells ans10.cells 49) (keep hb4 X3.out)); have Y4 := Lib.hid (heap_alloc_new w4 (.cells ans10.cells 49)); have T4 := (T3.out.below hb4).alloc (.cells ans10.cells 49); have v0 := byte_cells R4 0 (by omega); have v10 := byte_cells T4 10 (by omega); have v11 := byte_cells T4 11 (by omega); rw [Nat.add_zero, oct17] at v0; rw [oct10] at v10; rw [oct11] at v11; clear hb4 R4 T4)
    | (refine wpList_store_new rfl 49 _ _ rfl ans10.cells rfl rfl 49 _ (by kernel_rfl) rfl (by kernel_rfl) ?_)
    | (go_at_call 25; refine (ccheck_any Stp.zero _).mono ?_; rintro e w6 ⟨rfl, hb6⟩)
    | (refine gate_guard (by rfl) ?_; refine wpList_load_row rfl 39 _ rfl w2.heap.size rfl 39 stp4.cells (0, 0) _ X4.out Try.underlying39 rfl (by kernel_rfl) ?_)
    | (refine gate_guard (by rfl) ?_; refine wpList_load_row rfl 49 _ rfl w4.heap.size rfl 49 ans10.cells (0, 0) _ Y4.out Try.underlying49 rfl (by kernel_rfl) ?_))
  go_ret
  exact ⟨rfl, below_next B4.out hb6⟩
end Go.Proofs.Ytednooklmonblaa
