/- The law's own first wrong field is the plain function's. -/
import Derived.Test.YtednooklmonblaaLawA
namespace Go.Proofs.Ytednooklmonblaa
open Go.RowKit

set_option maxHeartbeats 1000000 in
theorem lwrong_any (c : Cfg) (w : World) :
    Calls Try.prog 13 #[.agg c.cells] w fun e w' => e = .returned (.int .i64 c.wrong) ∧ Below w.heap.size w w' := by
  go_enter Try.func13, Try.ntmps13
  go_wp2_with fail
  have HB : Hid (Below (w.heap.size + 1) (w.alloc (.cells c.cells 23)) (w.alloc (.cells c.cells 23))) := Below.refl _ _
  have HN : Hid (∀ j, j < 0 → ¬ c.bad j) := fun j hj => absurd hj (by omega)
  go_loopw [3] (fun i wr => ∃ k : Nat, k ≤ 10 ∧ i = .int .i64 ((k : Int) + 1) ∧ Hid (∀ j, j < k → ¬ c.bad j) ∧ Hid (Below (w.heap.size + 1) (w.alloc (.cells c.cells 23)) wr)) (fun i _ => 11 - (intOf i).toNat)
  case atStart => exact ⟨0, by omega, rfl, HN, HB⟩
  case round =>
    clear HN HB
    obtain ⟨k, hk, rfl, HN, HB⟩ := hrel
    have hs : w.heap.size < wr.heap.size := by have := HB.out.size; simp at this; omega
    have G := Lib.hid (heap_below HB.out (by omega) (heap_alloc_new w (.cells c.cells 23)))
    by_cases hlt : k < 10
    · by_cases hb : c.bad k
      · have HBd := Lib.hid hb
        unfold Cfg.bad at hb
        by_cases hl : c.fld k < Cfg.lo k
        · clear hb
          go_wp2_with (first | (go_at_call 19; refine (field_any c k hlt _).mono ?_; rintro e w3 ⟨rfl, hb3⟩) | (refine wpList_load_row rfl 23 _ rfl w.heap.size rfl 23 c.cells (0, 0) _ G.out Try.underlying23 rfl (by kernel_rfl) ?_))
          go_ret
          exact ⟨ret_int (Cfg.wrong_bad hlt HN.out HBd.out).symm, (below_alloc0 w _).trans ((below_up HB.out (by omega) hb3).mono (by omega))⟩
        · have hh : Cfg.hi k < c.fld k := by omega
          clear hb
          go_wp2_with (first | (go_at_call 19; refine (field_any c k hlt _).mono ?_; rintro e w3 ⟨rfl, hb3⟩) | (refine wpList_load_row rfl 23 _ rfl w.heap.size rfl 23 c.cells (0, 0) _ G.out Try.underlying23 rfl (by kernel_rfl) ?_))
          go_ret
          exact ⟨ret_int (Cfg.wrong_bad hlt HN.out HBd.out).symm, (below_alloc0 w _).trans ((below_up HB.out (by omega) hb3).mono (by omega))⟩
      · have HN' : Hid (∀ j, j < k + 1 → ¬ c.bad j) := fun j hj => by
          by_cases e : j < k
          · exact HN.out j e
          · obtain rfl : j = k := by omega
            exact hb
        unfold Cfg.bad at hb
        have hl : ¬ c.fld k < Cfg.lo k := by omega
        have hh : ¬ Cfg.hi k < c.fld k := by omega
        clear hb
        go_wp2_with (first | (go_at_call 19; refine (field_any c k hlt _).mono ?_; rintro e w3 ⟨rfl, hb3⟩) | (refine wpList_load_row rfl 23 _ rfl w.heap.size rfl 23 c.cells (0, 0) _ G.out Try.underlying23 rfl (by kernel_rfl) ?_))
        go_roundw
        case rel => exact ⟨k + 1, by omega, by go_num, HN', below_up HB.out (by omega) hb3⟩
        case measure => simp [intOf]; omega
    · obtain rfl : k = 10 := by omega
      have hf := Cfg.fine_of HN.out
      have hw := hf.w
      have hq := hf.q
      have hg := hf.g
      have hl := hf.left
      have h2 := cfg_cell HB.out (k := 2) (by omega)
      have h3 := cfg_cell HB.out (k := 3) (by omega)
      have h4 := cfg_cell HB.out (k := 4) (by omega)
      have HF := Lib.hid hf
      clear hf
      simp only [Cfg.fld] at h2 h3 h4
      by_cases hc : c.w * (1000 - c.g) < 1000 * c.q
      · go_wp2_with fail
        go_ret
        exact ⟨ret_int (by rw [Cfg.wrong_fine HN.out, if_pos (by omega)]), (below_alloc0 w _).trans (HB.out.mono (by omega))⟩
      · go_wp2_with fail
        go_ret
        exact ⟨ret_int (by rw [Cfg.wrong_fine HN.out, if_neg (by omega)]), (below_alloc0 w _).trans (HB.out.mono (by omega))⟩
end Go.Proofs.Ytednooklmonblaa
