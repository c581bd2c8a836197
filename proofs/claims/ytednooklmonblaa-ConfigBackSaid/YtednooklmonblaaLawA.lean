/- The law's own field and first wrong field come to the same plain function. -/
import Derived.Test.YtednooklmonblaaCfg5
namespace Go.Proofs.Ytednooklmonblaa
open Go.RowKit

set_option maxHeartbeats 4000000 in
theorem field_any (c : Cfg) (k : Nat) (hk : k < 10) (w : World) :
    Calls Try.prog 19 #[.agg c.cells, .int .i64 ((k : Int) + 1)] w fun e w' => e = .returned (.tuple #[.int .i64 (c.fld k), .int .i64 (Cfg.lo k), .int .i64 (Cfg.hi k)]) ∧ Below w.heap.size w w' := by
  have h0 := cfg_cell0 c w (k := 0) (by omega)
  have h1 := cfg_cell0 c w (k := 1) (by omega)
  have h2 := cfg_cell0 c w (k := 2) (by omega)
  have h3 := cfg_cell0 c w (k := 3) (by omega)
  have h4 := cfg_cell0 c w (k := 4) (by omega)
  have h5 := cfg_cell0 c w (k := 5) (by omega)
  have h6 := cfg_cell0 c w (k := 6) (by omega)
  have h7 := cfg_cell0 c w (k := 7) (by omega)
  have h8 := cfg_cell0 c w (k := 8) (by omega)
  have h9 := cfg_cell0 c w (k := 9) (by omega)
  simp only [Cfg.fld] at h0 h1 h2 h3 h4 h5 h6 h7 h8 h9
  have hc : k = 0 ∨ k = 1 ∨ k = 2 ∨ k = 3 ∨ k = 4 ∨ k = 5 ∨ k = 6 ∨ k = 7 ∨ k = 8 ∨ k = 9 := by omega
  clear hk
  rcases hc with rfl | rfl | rfl | rfl | rfl | rfl | rfl | rfl | rfl | rfl
  all_goals
    go_enter Try.func19, Try.ntmps19
    go_wp2_with fail
    go_quiet (fail)
    go_wp2_with fail
    go_ret3
    exact ⟨rfl, below_drewN (((((Below.refl _ _).alloc (Nat.le_refl _) _).alloc (by simp) _).alloc (by simp; omega) _).alloc (by simp; omega) _) _⟩
end Go.Proofs.Ytednooklmonblaa
