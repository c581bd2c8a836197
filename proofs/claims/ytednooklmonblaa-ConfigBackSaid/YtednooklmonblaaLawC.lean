/- The law's own example, and equality of configs. -/
import Derived.Test.YtednooklmonblaaLawB
import Derived.Test.YtednooklmonblaaKit2
namespace Go.Proofs.Ytednooklmonblaa
open Go.RowKit

theorem cfg_eql (c : Cfg) (w : World) : (binOp .eql 23 (.agg c.cells) (.agg c.cells)).run Try.prog w = .ok (.bool true) w := by
  unfold Cfg.cells
  go_simp
theorem cfg_neq (c : Cfg) (w : World) : (binOp .neq 23 (.agg c.cells) (.agg c.cells)).run Try.prog w = .ok (.bool false) w := by
  unfold Cfg.cells
  go_simp

theorem usual_wrong : usual.wrong = 0 := by decide +kernel
theorem usual_most : usual.most = 6 := by decide +kernel
theorem usual_words : usual.words = 512 := by decide +kernel
theorem zero_check : Cfg.zero.check = 6 := by decide +kernel
theorem usual_back : Cfg.part (usual.bytes 10) 10 = usual := by rw [Cfg.back (Cfg.wrong_zero usual_wrong).1]

theorem read_usual (A : Option Addr) (cap : Nat) (w : World) (h : RdB w A 20 (usual.bytes 10)) :
    Calls Try.prog 20 #[.slice A 20 cap] w fun e w' => e = .returned (.tuple #[.agg usual.cells, .int .i64 0]) ∧ Below w.heap.size w w' :=
  (read_full A cap _ w h).mono fun e w' ⟨he, hb⟩ => ⟨by rw [he, usual_back, if_pos usual_wrong], hb⟩

theorem octets_yes (c : Cfg) (w : World) (h : c.wrong = 0) :
    Calls Try.prog 18 #[.agg c.cells] w fun e w' => ∃ A cap, e = .returned (.tuple #[.slice A 20 cap, .int .i64 0]) ∧ RdB w' A 20 (c.bytes 10) ∧ Below w.heap.size w w' :=
  (octets_fine c w h).mono fun e w' ⟨⟨v, he, ho⟩, hb⟩ => by
    obtain ⟨A, cap, rfl, hr⟩ := RdB.of_own ho (c.bytes_byte 10) (by omega)
    exact ⟨A, cap, he, hr, hb⟩

set_option maxHeartbeats 1000000 in
theorem alive_any (w : World) :
    Calls Try.prog 12 #[] w fun e w' => e = .returned (.bool true) ∧ Below w.heap.size w w' := by
  have heq := fun wx => cfg_eql usual wx
  have heq2 : ∀ wx, (binOp .eql 23 (.agg usual.cells) (.agg #[.int .i64 16, .int .i64 4, .int .i64 20, .int .i64 4, .int .i64 700, .int .i64 100, .int .i64 4, .int .i64 4, .int .i64 16, .int .i64 4])).run Try.prog wx = .ok (.bool true) wx := heq
  have h6 := usual_most
  have h512 := usual_words
  have hz := zero_check
  go_enter Try.func12, Try.ntmps12
  go_wp2_with (first
    | (go_at_call 38; refine (usual_any _).mono ?_; rintro e w1 ⟨rfl, hb1⟩)
    | (refine wpList_store_new rfl 23 _ _ rfl usual.cells rfl rfl 23 _ (by kernel_rfl) rfl (by kernel_rfl) ?_)
    | (go_at_call 18; refine (octets_yes usual _ usual_wrong).mono ?_; rintro e w2 ⟨A, cap, rfl, hr, hb2⟩; have A2 := Lib.hid (keep hb2 (heap_alloc_new w1 _)))
    | (go_at_call 20; refine (read_usual _ _ _ hr).mono ?_; rintro e w3 ⟨rfl, hb3⟩; have A3 := Lib.hid (keep_alloc (.cells usual.cells 23) (keep hb3 A2.out)))
    | (go_at_call 16; refine (most_any _ _).mono ?_; rintro e w4 ⟨rfl, hb4⟩; have A4 := Lib.hid (keep hb4 A3.out); have B4 := Lib.hid (keep hb4 (heap_alloc_new w3 _)))
    | (go_at_call 17; refine (words_any _ _).mono ?_; rintro e w5 ⟨rfl, hb5⟩; have A5 := Lib.hid (keep hb5 A4.out); have B5 := Lib.hid (keep hb5 B4.out))
    | (go_at_call 15; refine (check_any Cfg.zero _).mono ?_; rintro e w6 ⟨rfl, hb6⟩)
    | (refine wpList_load_row rfl 23 _ rfl _ rfl 23 usual.cells (0, 0) _ ?_ Try.underlying23 rfl (by kernel_rfl) ?_; first | exact heap_alloc_new w1 _ | exact A3.out | exact A4.out | exact A5.out | exact B5.out)
    | (refine gate_guard (by rfl) ?_; refine wpList_load_row rfl 23 _ rfl _ rfl 23 usual.cells (0, 0) _ ?_ Try.underlying23 rfl (by kernel_rfl) ?_; first | exact heap_alloc_new w1 _ | exact A3.out | exact A4.out | exact A5.out | exact B5.out))
  go_ret
  exact ⟨rfl, below_next (below_next (below_next (below_new (below_next (below_next (below_new hb1 _) hb2) hb3) _) hb4) hb5) hb6⟩
end Go.Proofs.Ytednooklmonblaa
