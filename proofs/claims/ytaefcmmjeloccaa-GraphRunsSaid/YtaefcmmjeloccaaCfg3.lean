import Derived.Test.YtaefcmmjeloccaaRows
import Derived.Test.YtaefcmmjeloccaaKit
import Derived.Test.YtaefcmmjeloccaaCfg0
namespace Go.Proofs.Ytaefcmmjeloccaa
open Go.RowKit

/- What config.spans and calc.Clamp come to. -/
set_option maxHeartbeats 400000 in
theorem clamp_any (a b c : Int) (w : World) :
    Calls Try.prog 41 #[.int .i64 a, .int .i64 b, .int .i64 c] w fun e w' => e = .returned (.int .i64 (clampI a b c)) ∧ w = w' := by
  by_cases h1 : a < b
  · go_enter Try.func41, Try.ntmps41
    go_wp2
    go_ret
    exact ⟨ret_int (by unfold clampI; rw [if_pos h1]), rfl⟩
  · by_cases h2 : c < a
    · go_enter Try.func41, Try.ntmps41
      go_wp2
      go_ret
      exact ⟨ret_int (by unfold clampI; rw [if_neg (by omega), if_pos h2]), rfl⟩
    · go_enter Try.func41, Try.ntmps41
      go_wp2
      go_ret
      exact ⟨ret_int (by unfold clampI; rw [if_neg (by omega), if_neg (by omega)]), rfl⟩

def spansC (b : Nat) : Array Value := #[.pointer (some ⟨b, 0, none⟩), .int .i64 2, .int .i64 64, .pointer (some ⟨b, 1, none⟩), .int .i64 1, .int .i64 8, .pointer (some ⟨b, 2, none⟩), .int .i64 1, .int .i64 64, .pointer (some ⟨b, 3, none⟩), .int .i64 1, .int .i64 16, .pointer (some ⟨b, 4, none⟩), .int .i64 0, .int .i64 1000, .pointer (some ⟨b, 5, none⟩), .int .i64 0, .int .i64 65535, .pointer (some ⟨b, 6, none⟩), .int .i64 0, .int .i64 64, .pointer (some ⟨b, 7, none⟩), .int .i64 1, .int .i64 16, .pointer (some ⟨b, 8, none⟩), .int .i64 1, .int .i64 256, .pointer (some ⟨b, 9, none⟩), .int .i64 0, .int .i64 64]

set_option maxHeartbeats 1000000 in
set_option maxRecDepth 100000 in
theorem spans_any (b : Nat) (w : World) :
    Calls Try.prog 40 #[.pointer (some ⟨b, 0, none⟩)] w fun e w' => e = .returned (.agg (spansC b)) ∧ Below w.heap.size w w' := by
  go_enter Try.func40, Try.ntmps40
  go_wp2
  go_still_tail 41, (by kernel_rfl)
  change wpList _ _ _ _ _ (World.drew _)
  refine wpList_store_row rfl 90 _ _ rfl w.heap.size (spansC b) rfl rfl 90 _ (heap_alloc_new w _) (by kernel_rfl) rfl (by kernel_rfl) ?_
  go_wp2_with fail
  exact bodyPost_ret (v := .agg (spansC b)) (results_cell_row rfl _ _ w.heap.size 90 (spansC b) _ _ rfl (heap_setRow_same _ (heap_alloc_new w _)) Try.underlying90 rfl (by kernel_rfl)) rfl
    ⟨rfl, below_setRow ((below_alloc0 w _).drew) (Nat.le_refl _) _⟩
/- What config.Wrong comes to: the first wrong field, by the plain function. -/
theorem spans_index (b : Nat) (w : World) : ∀ k : Nat, k < 10 → (Instr.index 90 (.agg (spansC b)) (.int .i64 k)).run Try.prog w = .ok (.agg #[.pointer (some ⟨b, k, none⟩), .int .i64 (Cfg.lo k), .int .i64 (Cfg.hi k)]) w
  | 0, _ => by kernel_rfl
  | 1, _ => by kernel_rfl
  | 2, _ => by kernel_rfl
  | 3, _ => by kernel_rfl
  | 4, _ => by kernel_rfl
  | 5, _ => by kernel_rfl
  | 6, _ => by kernel_rfl
  | 7, _ => by kernel_rfl
  | 8, _ => by kernel_rfl
  | 9, _ => by kernel_rfl
  | _ + 10, h => absurd h (by omega)

theorem cfg_cell {c : Cfg} {w w1 : World} (hb : Below (w.heap.size + 1) (w.alloc (.cells c.cells 23)) w1) {k : Nat} (hk : k < 10) :
    w1.cell? ⟨w.heap.size, k, none⟩ = some (.int .i64 (c.fld k)) := by
  rw [hb.cell (p := ⟨w.heap.size, k, none⟩) (Nat.lt_succ_self _), cell_of_row _ _ _ _ _ _ (heap_alloc_new w _)]
  match k, hk with
  | 0, _ => rfl
  | 1, _ => rfl
  | 2, _ => rfl
  | 3, _ => rfl
  | 4, _ => rfl
  | 5, _ => rfl
  | 6, _ => rfl
  | 7, _ => rfl
  | 8, _ => rfl
  | 9, _ => rfl

set_option maxHeartbeats 1000000 in
theorem wrong_any (c : Cfg) (w : World) :
    Calls Try.prog 22 #[.agg c.cells] w fun e w' => e = .returned (.int .i64 c.wrong) ∧ Below w.heap.size w w' := by
  go_enter Try.func22, Try.ntmps22
  go_wp2_with (go_at_call 40; refine (spans_any _ _).mono ?_; rintro e w1 ⟨rfl, hb1⟩)
  have hb1 : Below (w.heap.size + 1) (w.alloc (.cells c.cells 23)) w1 := by simpa using hb1
  have HB := Lib.hid hb1
  have HN : Hid (∀ j, j < 0 → ¬ c.bad j) := fun j hj => absurd hj (by omega)
  clear hb1
  go_loopw [6] (fun i wr => ∃ k : Nat, k ≤ 10 ∧ i = .int .i64 k ∧ Hid (∀ j, j < k → ¬ c.bad j) ∧ Hid (Below (w.heap.size + 1) (w.alloc (.cells c.cells 23)) wr)) (fun i _ => 10 - (intOf i).toNat)
  case atStart => exact ⟨0, by omega, rfl, HN, HB⟩
  case round =>
    obtain ⟨k, hk, rfl, HN, HB⟩ := hrel
    by_cases hlt : k < 10
    · have hc := cfg_cell HB.out hlt
      have hs : w.heap.size < wr.heap.size := by have := HB.out.size; simp at this; omega
      have hix := fun wx => spans_index w.heap.size wx k hlt
      by_cases hb : c.bad k
      · have hcl := Cfg.clamp_bad hb
        have HBd := Lib.hid hb
        clear hb
        go_wp2_with fail
        go_quiet ((go_at_call 41; refine quiet_eq (clamp_any _ _ _ _)))
        go_wp2_with fail
        go_ret
        exact ⟨ret_int (Cfg.wrong_bad hlt HN.out HBd.out).symm, below_drewN ((((below_alloc0 w _).trans (HB.out.mono (by omega)))).alloc (by omega) _) _⟩
      · have hcl := Cfg.clamp_fine hb
        have HN' : Hid (∀ j, j < k + 1 → ¬ c.bad j) := fun j hj => by
          by_cases e : j < k
          · exact HN.out j e
          · obtain rfl : j = k := by omega
            exact hb
        clear hb
        go_wp2_with fail
        go_quiet ((go_at_call 41; refine quiet_eq (clamp_any _ _ _ _)))
        go_wp2_with fail
        go_roundw
        case rel => exact ⟨k + 1, by omega, by go_num, HN', below_drewN (HB.out.alloc (by omega) _) _⟩
        case measure => simp [intOf]; omega
    · obtain rfl : k = 10 := by omega
      have hf := Cfg.fine_of HN.out
      have hw := hf.w
      have hq := hf.q
      have hg := hf.g
      have hl := hf.left
      have h2 := cfg_cell HB.out (k := 2) (by omega)
      have h3 := cfg_cell HB.out (k := 3) (by omega)
      have h4 := cfg_cell HB.out (k := 4) (by omega)
      have HF := Lib.hid hf
      clear hf
      simp only [Cfg.fld] at h2 h3 h4
      by_cases hc : c.w * (1000 - c.g) < 1000 * c.q
      · go_wp2_with fail
        go_ret
        exact ⟨ret_int (by rw [Cfg.wrong_fine HN.out, if_pos (by omega)]), (below_alloc0 w _).trans (HB.out.mono (by omega))⟩
      · go_wp2_with fail
        go_ret
        exact ⟨ret_int (by rw [Cfg.wrong_fine HN.out, if_neg (by omega)]), (below_alloc0 w _).trans (HB.out.mono (by omega))⟩
/- What config.Check, Words and Usual come to. -/
theorem cfg_cell0 (c : Cfg) (w : World) {k : Nat} (hk : k < 10) : (w.alloc (.cells c.cells 23)).cell? ⟨w.heap.size, k, none⟩ = some (.int .i64 (c.fld k)) :=
  cfg_cell (Below.refl _ _) hk

def Cfg.check (c : Cfg) : Int := if c.wrong = 0 then 0 else 6
def Cfg.most (c : Cfg) : Int := if c.wrong = 0 then c.w * (1000 - c.g) / 1000 else 0
def Cfg.words (c : Cfg) : Int := if c.wrong = 0 then c.p * 32 else 0

set_option maxHeartbeats 400000 in
theorem check_any (c : Cfg) (w : World) :
    Calls Try.prog 8 #[.agg c.cells] w fun e w' => e = .returned (.int .i64 c.check) ∧ Below w.heap.size w w' := by
  by_cases h : c.wrong = 0
  · have HH := Lib.hid h
    have h1 : (c.wrong != 0) = false := by simp [h]
    clear h
    go_enter Try.func8, Try.ntmps8
    go_wp2_with (first | (go_at_call 22; refine (wrong_any _ _).mono ?_; rintro e w1 ⟨rfl, hb1⟩) | (refine wpList_load_row rfl 23 _ rfl w.heap.size rfl 23 c.cells (0, 0) _ (heap_alloc_new w _) Try.underlying23 rfl (by kernel_rfl) ?_))
    go_ret
    exact ⟨ret_int (by unfold Cfg.check; rw [if_pos HH.out]), below_up (below_alloc0 w _) (by simp) hb1⟩
  · have HH := Lib.hid h
    have h1 : (c.wrong != 0) = true := by simp [h]
    clear h
    go_enter Try.func8, Try.ntmps8
    go_wp2_with (first | (go_at_call 22; refine (wrong_any _ _).mono ?_; rintro e w1 ⟨rfl, hb1⟩) | (refine wpList_load_row rfl 23 _ rfl w.heap.size rfl 23 c.cells (0, 0) _ (heap_alloc_new w _) Try.underlying23 rfl (by kernel_rfl) ?_))
    go_ret
    exact ⟨ret_int (by unfold Cfg.check; rw [if_neg HH.out]), below_up (below_alloc0 w _) (by simp) hb1⟩

def usual : Cfg := ⟨16, 4, 20, 4, 700, 100, 4, 4, 16, 4⟩

set_option maxHeartbeats 400000 in
theorem usual_any (w : World) :
    Calls Try.prog 20 #[] w fun e w' => e = .returned (.agg usual.cells) ∧ Below w.heap.size w w' := by
  go_enter Try.func20, Try.ntmps20
  go_wp2_with (refine wpList_store_row rfl 23 _ _ rfl w.heap.size usual.cells rfl rfl 23 _ (heap_alloc_new w _) (by kernel_rfl) rfl (by kernel_rfl) ?_)
  exact bodyPost_ret (v := .agg usual.cells) (results_cell_row rfl _ _ w.heap.size 23 usual.cells _ _ rfl (heap_setRow_same _ (heap_alloc_new w _)) Try.underlying23 rfl (by kernel_rfl)) rfl
    ⟨rfl, below_setRow (below_alloc0 w _) (Nat.le_refl _) _⟩
end Go.Proofs.Ytaefcmmjeloccaa
