/- The laws ScriptLines, ScriptParses, as walks. -/
import Derived.Test.YtffdekgkhiffkaaDoorScrD
namespace Go.Proofs.YtffdekgkhiffkaaDoor
open Go.RowKit

theorem rline_ok2 (x : Stp) (h : Ok x) (w : World) :
    Calls Tryd.prog 9 #[.agg #[.int .i64 x.k, .int .i64 x.t, .int .i64 x.i, .int .i64 x.f, .int .i64 x.j, .int .i64 x.c, .int .i64 x.n]] w fun e w' => e = .returned (.tuple #[.string (S x.line), .int .i64 0]) ∧ Below w.heap.size w w' :=
  rline_ok x h.1 (Stp.check_rngs h.1 h.2) w
theorem rline_bad2 (x : Stp) (h : x.check ≠ 0) (w : World) :
    Calls Tryd.prog 9 #[.agg #[.int .i64 x.k, .int .i64 x.t, .int .i64 x.i, .int .i64 x.f, .int .i64 x.j, .int .i64 x.c, .int .i64 x.n]] w fun e w' => e = .returned (.tuple #[.string (S []), .int .i64 x.check]) ∧ Below w.heap.size w w' := rline_bad x h w
theorem rparse_yes (l : List UInt8) (hl : l.length ≤ 1073741824) {x : Stp} (h : Lin l x) (w : World) :
    Calls Tryd.prog 11 #[.string (S l)] w fun e w' => e = .returned (.tuple #[.agg #[.int .i64 x.k, .int .i64 x.t, .int .i64 x.i, .int .i64 x.f, .int .i64 x.j, .int .i64 x.c, .int .i64 x.n], .bool true]) ∧ Below w.heap.size w w' :=
  (rparse_any l hl w).mono fun e w' ⟨y, ok, he, hp, hb⟩ => by
    obtain ⟨rfl, rfl⟩ := parsed_unique hp (parsed_yes h)
    exact ⟨he, hb⟩
theorem rparse_no (l : List UInt8) (hl : l.length ≤ 1073741824) (h : ∀ x, ¬ Lin l x) (w : World) :
    Calls Tryd.prog 11 #[.string (S l)] w fun e w' => e = .returned (.tuple #[.agg #[.int .i64 0, .int .i64 0, .int .i64 0, .int .i64 0, .int .i64 0, .int .i64 0, .int .i64 0], .bool false]) ∧ Below w.heap.size w w' :=
  (rparse_any l hl w).mono fun e w' ⟨y, ok, he, hp, hb⟩ => by
    obtain ⟨rfl, rfl⟩ := parsed_unique hp (parsed_no h)
    exact ⟨he, hb⟩

set_option maxHeartbeats 4000000 in
set_option maxRecDepth 100000 in
theorem lines_law (x : Stp) (hr : Rng x.n) (w : World) (he : Env w) :
    Calls Tryd.prog 3 #[.agg x.cells] w fun e w' => e = .returned (.bool true) ∧ Below w.heap.size w w' := by
  have EW := Lib.hid he
  have HR := Lib.hid hr
  clear he hr
  unfold Stp.cells
  have A0 : Hid ((w.alloc (.cells #[.int .i64 x.k, .int .i64 x.t, .int .i64 x.i, .int .i64 x.f, .int .i64 x.j, .int .i64 x.c, .int .i64 x.n] 23)).heap[w.heap.size]? = some (.cells x.cells 23 (0, 0))) := Lib.hid (heap_alloc_new w _)
  by_cases hc : x.check = 0
  · have HO : Hid (Ok x) := Lib.hid ⟨hc, HR.out⟩
    clear hc
    go_enter Tryd.func3, Tryd.ntmps3
    go_wp2_with (first
      | (go_at_call 7; refine (salive _ (EW.out.keep (below_alloc0 w _))).mono ?_; rintro e w1 ⟨rfl, hb1⟩; have B1 := Lib.hid (below_next (below_alloc0 w _) hb1); have hrow := keep hb1 A0.out; have A1 := Lib.hid hrow; obtain ⟨c0, c1, c2, c3, c4, c5, c6⟩ := stp_cell hrow; clear hb1 hrow)
      | (go_at_call 8; refine (line_ok2 x HO.out _ (EW.out.keep B1.out).tab).mono ?_; rintro e w5 ⟨rfl, hb5⟩; have B5 := Lib.hid (below_next B1.out hb5); obtain ⟨k0, k1, k2, k3, k4, k5, k6⟩ := stp_cell (keep hb5 A1.out); clear hb5)
      | (go_at_call 9; refine (rline_ok2 x HO.out _).mono ?_; rintro e w6 ⟨rfl, hb6⟩; have B6 := Lib.hid (below_next B5.out hb6); clear hb6))
    go_ret
    exact ⟨rfl, B6.out⟩
  · have HC := Lib.hid hc
    clear hc
    go_enter Tryd.func3, Tryd.ntmps3
    go_wp2_with (first
      | (go_at_call 7; refine (salive _ (EW.out.keep (below_alloc0 w _))).mono ?_; rintro e w1 ⟨rfl, hb1⟩; have B1 := Lib.hid (below_next (below_alloc0 w _) hb1); have hrow := keep hb1 A0.out; have A1 := Lib.hid hrow; obtain ⟨c0, c1, c2, c3, c4, c5, c6⟩ := stp_cell hrow; clear hb1 hrow)
      | (go_at_call 8; refine (line_bad2 x HC.out _).mono ?_; rintro e w5 ⟨rfl, hb5⟩; have B5 := Lib.hid (below_next B1.out hb5); obtain ⟨k0, k1, k2, k3, k4, k5, k6⟩ := stp_cell (keep hb5 A1.out); clear hb5)
      | (go_at_call 9; refine (rline_bad2 x HC.out _).mono ?_; rintro e w6 ⟨rfl, hb6⟩; have B6 := Lib.hid (below_next B5.out hb6); clear hb6))
    go_ret
    exact ⟨rfl, B6.out⟩

set_option maxHeartbeats 4000000 in
set_option maxRecDepth 100000 in
theorem parses_law (l : List UInt8) (hl : l.length ≤ 1073741824) (w : World) (he : Env w) :
    Calls Tryd.prog 4 #[.string (S l)] w fun e w' => e = .returned (.bool true) ∧ Below w.heap.size w w' := by
  have EW := Lib.hid he
  have HL := Lib.hid hl
  clear he hl
  by_cases hp : ∃ x, Lin l x
  · obtain ⟨x, hp⟩ := hp
    have HP := Lib.hid hp
    have HO : Hid (Ok x) := Lib.hid ⟨hp.1, hp.2.1⟩
    have HLN : Hid (x.line = l) := Lib.hid hp.2.2
    have hq := stp_eqlX x
    clear hp
    go_enter Tryd.func4, Tryd.ntmps4
    go_wp2_with (first
      | (go_at_call 7; refine (salive _ EW.out).mono ?_; rintro e w1 ⟨rfl, hb1⟩; have B1 := Lib.hid hb1; clear hb1)
      | (go_at_call 10; refine (parse_yes l HL.out HP.out _ (EW.out.keep B1.out)).mono ?_; rintro e w2 ⟨rfl, hb2⟩; have B2 := Lib.hid (below_next B1.out hb2); clear hb2)
      | (go_at_call 11; refine (rparse_yes l HL.out HP.out _).mono ?_; rintro e w3 ⟨rfl, hb3⟩; have B3 := Lib.hid (below_next (below_new B2.out _) hb3); have hrow := keep hb3 (heap_alloc_new w2 _); have A3 := Lib.hid (keep_alloc (.cells #[.int .i64 x.k, .int .i64 x.t, .int .i64 x.i, .int .i64 x.f, .int .i64 x.j, .int .i64 x.c, .int .i64 x.n] 23) hrow); obtain ⟨c0, c1, c2, c3, c4, c5, c6⟩ := stp_cell (x := x) A3.out; clear hb3 hrow)
      | (go_at_call 8; refine (line_ok2 x HO.out _ (EW.out.keep (below_new B3.out _)).tab).mono ?_; rintro e w5 ⟨rfl, hb5⟩; rw [HLN.out]; have B5 := Lib.hid (below_next (below_new B3.out _) hb5); obtain ⟨k0, k1, k2, k3, k4, k5, k6⟩ := stp_cell (x := x) (keep hb5 A3.out); obtain ⟨z0, z1, z2, z3, z4, z5, z6⟩ := stp_cell (x := x) (keep hb5 (heap_alloc_new w3 _)); clear hb5))
    go_ret
    exact ⟨rfl, B5.out⟩
  · have HP : Hid (∀ x, ¬ Lin l x) := Lib.hid (fun x h => hp ⟨x, h⟩)
    have hq : ∀ wx, (binOp .eql 23 (.agg #[.int .i64 0, .int .i64 0, .int .i64 0, .int .i64 0, .int .i64 0, .int .i64 0, .int .i64 0]) (.agg #[.int .i64 0, .int .i64 0, .int .i64 0, .int .i64 0, .int .i64 0, .int .i64 0, .int .i64 0])).run Tryd.prog wx = .ok (.bool true) wx := stp_eqlX Stp.zero
    clear hp
    go_enter Tryd.func4, Tryd.ntmps4
    go_wp2_with (first
      | (go_at_call 7; refine (salive _ EW.out).mono ?_; rintro e w1 ⟨rfl, hb1⟩; have B1 := Lib.hid hb1; clear hb1)
      | (go_at_call 10; refine (parse_no l HL.out HP.out _ (EW.out.keep B1.out)).mono ?_; rintro e w2 ⟨rfl, hb2⟩; have B2 := Lib.hid (below_next B1.out hb2); clear hb2)
      | (go_at_call 11; refine (rparse_no l HL.out HP.out _).mono ?_; rintro e w3 ⟨rfl, hb3⟩; have B3 := Lib.hid (below_next (below_new B2.out _) hb3); have hrow := keep hb3 (heap_alloc_new w2 _); have A3 := Lib.hid (keep_alloc (.cells #[.int .i64 0, .int .i64 0, .int .i64 0, .int .i64 0, .int .i64 0, .int .i64 0, .int .i64 0] 23) hrow); obtain ⟨c0, c1, c2, c3, c4, c5, c6⟩ := stp_cell (x := Stp.zero) A3.out; simp only [Stp.zero] at c0 c1 c2 c3 c4 c5 c6; clear hb3 hrow))
    go_ret
    exact ⟨rfl, (below_new B3.out _)⟩
end Go.Proofs.YtffdekgkhiffkaaDoor
