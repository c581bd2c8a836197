/- What bound.Need comes to. -/
import Derived.Test.YtbbdjfbhidpeiaaBnd0
import Derived.Test.YtbbdjfbhidpeiaaCls1
import Derived.Test.YtbbdjfbhidpeiaaCfg3
namespace Go.Proofs.Ytbbdjfbhidpeiaa
open Go.RowKit Go.Maps

theorem law_int : Keyed Try.prog 3 := int_keyed Try.underlying3
theorem zero_int (w : World) : (zeroValue 3).run Try.prog w = .ok (.int .i64 0) w := by kernel_rfl

set_option maxHeartbeats 4000000 in
set_option maxRecDepth 100000 in
theorem need_ok (c : Cfg) (hw : c.wrong = 0) (A : Option Addr) (n cap : Nat) (xs : List Int) (w : World) (h : RdI w A n xs) :
    Calls Try.prog 12 #[.agg c.cells, .slice A n cap] w fun e w' => e = .returned (.int .i64 (needI xs c.t n)) ∧ Below w.heap.size w w' := by
  have hmm := @run_makeMap Try.prog
  have hf := (Cfg.wrong_zero hw).1
  have ht := hf.t
  have hwd : (c.words == 0) = false := by have := hf.p; simp [Cfg.words, hw]; omega
  have hmax := h.max
  have A0 := Lib.hid (heap_alloc_new w (.cells c.cells 23))
  have B0 := Lib.hid (below_alloc0 w (.cells c.cells 23))
  have R0 := Lib.hid (h.alloc (.cells c.cells 23))
  clear h hf hw
  go_enter Try.func12, Try.ntmps12
  go_wp2_with (first
    | (go_at_call 31; refine (words_any c _).mono ?_; rintro e w1 ⟨rfl, hb1⟩; have A1 := Lib.hid (keep hb1 A0.out); have B1 := Lib.hid (below_next B0.out hb1); have R1 := Lib.hid (R0.out.below hb1); clear hb1)
    | (refine wpList_load_row rfl 23 _ rfl w.heap.size rfl 23 c.cells (0, 0) _ (heap_alloc_new w _) Try.underlying23 rfl (by kernel_rfl) ?_))
  clear A0 B0 R0
  have O1 : Hid (World.ownsMap (H := Unit) _ Try.prog 3 (plainElem Try.prog 3) w1.heap.size 0 (.map [])) := World.ownsMap_made w1 _ _ _
  have H1 : Hid (Below w1.heap.size w1 (w1.alloc (.map #[] 0))) := (Below.refl _ _).alloc (Nat.le_refl _) _
  go_loopw [5, 16] (fun v i wr => ∃ (k : Nat) (D : DataW Unit), k ≤ n ∧ i = .int .i64 k ∧ v = .int .i64 (1 + pgI xs k) ∧ Hid (CntD D xs k) ∧ Hid (wr.ownsMap Try.prog 3 (plainElem Try.prog 3) w1.heap.size k D) ∧ Hid (Below w1.heap.size w1 wr)) (fun _ i _ => n - (intOf i).toNat)
  case atStart => exact ⟨0, .map [], by omega, rfl, rfl, Lib.hid (CntD.start xs), O1, H1⟩
  case round =>
    clear O1 H1
    obtain ⟨k, D, hk, rfl, rfl, HC, HO, HB⟩ := hrel
    have hpg := pgI_bd xs k
    by_cases hlt : k < n
    · obtain ⟨b, o, rfl, _, hcell⟩ := (R1.out.below HB.out).cell (by omega)
      have hcx := hcell k hlt
      obtain ⟨x, hx⟩ : ∃ x, x = xs.getD k 0 := ⟨_, rfl⟩
      rw [← hx] at hcx
      replace hx := Lib.hid hx
      clear hcell
      have hof := ofI_bd x
      have hpx := pagesI_bd x
      have hcn := cntI_bd xs (ofI x) k
      have hkey := keyOf_int_mk Try.underlying3 (WalkArith.wf_i64 (n := ofI x) (by omega))
      clear hmm
      go_wp2_with (first
        | (go_at_call 32; refine (of_any x _).mono ?_; rintro e w2 ⟨rfl, rfl⟩)
        | (go_at_call 33; refine (pages_any x _).mono ?_; rintro e w3 ⟨rfl, rfl⟩)
        | (at_lookup; refine wpList_lookup_own_int _ rfl _ _ 70 rfl 3 3 .i64 law_int Try.underlying70 Try.underlying3 (zero_int _) w1.heap.size k _ rfl HO.out _ _ rfl hkey ?_; intro cc hat _; obtain rfl : cc = cntI xs (ofI x) k := by simpa using hat.symm.trans (HC.out (ofI x)))
        | (at_mapUpdate; refine wpList_mapUpdate_own _ rfl _ _ _ 70 rfl 3 3 law_int Try.underlying70 _ w1.heap.size k _ rfl HO.out (by unfold maxLen; omega) _ _ _ rfl rfl hkey _ [] (plainElem_int Try.underlying3 (WalkArith.wf_i64 (by omega))) ?_; intro w4 hown4 hgrow4))
      refine ⟨⟨k + 1, _, by omega, by go_num, ?_, Lib.hid (HC.out.step HO.out.isMap), Lib.hid (by rw [← hx.out]; exact hown4), Lib.hid (HB.out.grown hgrow4 HB.out.size (fun j hj => by cases hj; exact Nat.le_refl _))⟩, ?_⟩
      · simp only [pgI, ← hx.out]; go_num
      · simp [intOf]; omega
    · have : k = n := by omega
      subst this
      clear hk hlt
      clear hmm
      go_wp2_with fail
      have hmm : Try.prog.follows .mixedOrders = true := by kernel_rfl
      go_loopw [5, 9] (fun v i wr => ∃ (j : Nat), j ≤ 4 ∧ i = .int .i64 ((j : Int) + 1) ∧ v = .int .i64 (1 + pgI xs k + sumI xs c.t k j) ∧ Hid (wr.ownsMap Try.prog 3 (plainElem Try.prog 3) w1.heap.size k D) ∧ Hid (Below w1.heap.size w1 wr)) (fun _ i _ => 5 - (intOf i).toNat)
      case atStart => exact ⟨0, by omega, rfl, by simp [sumI], HO, HB⟩
      case round =>
        clear HO HB
        obtain ⟨j, hj, rfl, rfl, HO, HB⟩ := hrel
        obtain ⟨c1, hr1, hat1, -⟩ := World.ownsMap.lookup_int (q := .i64) (e := 3) HO.out law_int Try.underlying70 Try.underlying3 (zero_int _) (kl := .int .i64 ((j : Int) + 1)) (key := .int .i64 ((j : Int) + 1)) (keyOf_int_mk Try.underlying3 (WalkArith.wf_i64 (by omega)))
        obtain ⟨c2, hr2, hat2, -⟩ := World.ownsMap.lookup_int (q := .i64) (e := 3) HO.out.drew law_int Try.underlying70 Try.underlying3 (zero_int _) (kl := .int .i64 ((j : Int) + 1)) (key := .int .i64 ((j : Int) + 1)) (keyOf_int_mk Try.underlying3 (WalkArith.wf_i64 (by omega)))
        obtain rfl : c1 = cntI xs ((j : Int) + 1) k := by simpa using hat1.symm.trans (HC.out _)
        obtain rfl : c2 = cntI xs ((j : Int) + 1) k := by simpa using hat2.symm.trans (HC.out _)
        clear hat1 hat2
        have hcn := cntI_bd xs ((j : Int) + 1) k
        have hcp := cellsI_pos (k := (j : Int) + 1)
        have hsm := sumI_bd xs (t := c.t) k (by omega) j hj
        have hjm : (j : Int) * (k + c.t) ≤ 4 * (k + c.t) := Int.mul_le_mul_of_nonneg_right (by omega) (by omega)
        by_cases hlt : j < 4
        · have hs : decide (0 < sizeI ((j : Int) + 1)) = true := by
            obtain rfl | rfl | rfl | rfl : j = 0 ∨ j = 1 ∨ j = 2 ∨ j = 3 := by omega
            all_goals rfl
          replace hcp := hcp (by omega)
          by_cases hc0 : 0 < cntI xs ((j : Int) + 1) k
          · have hd0 : decide (0 < cntI xs ((j : Int) + 1) k) = true := by simpa using hc0
            go_wp2_with (first
              | (go_at_call 34; refine (size_any _ _).mono ?_; rintro e w2 ⟨rfl, rfl⟩))
            have hcell := cell_of_row _ _ 1 _ _ _ (keep HB.out.drew A1.out)
            have hct : wr.drew.cell? ⟨w.heap.size, 1, none⟩ = some (.int .i64 c.t) := hcell
            clear hcell
            have hq0 : cellsI ((j : Int) + 1) ≠ 0 := by omega
            have hq1 : 0 ≤ cntI xs ((j : Int) + 1) k / cellsI ((j : Int) + 1) := Int.ediv_nonneg hcn.1 (by omega)
            have hq2 : cntI xs ((j : Int) + 1) k / cellsI ((j : Int) + 1) ≤ k := Int.le_trans (Int.ediv_le_self _ hcn.1) hcn.2
            have hst : sumI xs c.t k (j + 1) = sumI xs c.t k j + (cntI xs ((j : Int) + 1) k / cellsI ((j : Int) + 1) + c.t) := by simp only [sumI, termI]; rw [if_pos hc0]
            refine wp_region_still_lit hmm (by kernel_rfl) ?_
            repeat still_step
            still_call ((cells_any _ _).mono fun e w' ⟨h1, h2⟩ => ⟨h1, h2.symm⟩)
            repeat still_step
            refine wpStill_nil ?_
            go_wp2_with fail
            have q1 : IntKind.i64.wrap ((cntI xs ((j : Int) + 1) k).tdiv (cellsI ((j : Int) + 1))) = cntI xs ((j : Int) + 1) k / cellsI ((j : Int) + 1) := IntWalk.i64_quo _ _ (by omega)
            rw [q1, IntWalk.i64_in (_ + c.t) (by omega), IntWalk.i64_in _ (by omega)]
            refine ⟨⟨j + 1, by omega, by go_num, by rw [hst, Int.add_assoc], Lib.hid HO.out.drew, Lib.hid HB.out.drew⟩, ?_⟩
            simp [intOf]; omega
          · have hd0 : decide (0 < cntI xs ((j : Int) + 1) k) = false := by simpa using hc0
            have hst : sumI xs c.t k (j + 1) = sumI xs c.t k j := by simp only [sumI, termI]; rw [if_neg hc0, Int.add_zero]
            go_wp2_with (first
              | (go_at_call 34; refine (size_any _ _).mono ?_; rintro e w2 ⟨rfl, rfl⟩))
            refine ⟨⟨j + 1, by omega, by go_num, by rw [hst], HO, HB⟩, ?_⟩
            simp [intOf]; omega
        · obtain rfl : j = 4 := by omega
          have hs : decide (0 < sizeI ((4 : Nat) + 1)) = false := rfl
          clear hr1 hr2 hcp
          go_wp2_with (first
            | (go_at_call 34; refine (size_any _ _).mono ?_; rintro e w2 ⟨rfl, rfl⟩))
          go_ret
          exact ⟨rfl, below_next B1.out HB.out⟩

theorem need_bad (c : Cfg) (hw : c.wrong ≠ 0) (A : Option Addr) (n cap : Nat) (w : World) :
    Calls Try.prog 12 #[.agg c.cells, .slice A n cap] w fun e w' => e = .returned (.int .i64 0) ∧ Below w.heap.size w w' := by
  have hwd : (c.words == 0) = true := by simp [Cfg.words, hw]
  have B0 := Lib.hid (below_alloc0 w (.cells c.cells 23))
  clear hw
  go_enter Try.func12, Try.ntmps12
  go_wp2_with (first
    | (go_at_call 31; refine (words_any c _).mono ?_; rintro e w1 ⟨rfl, hb1⟩; have B1 := Lib.hid (below_next B0.out hb1); clear hb1)
    | (refine wpList_load_row rfl 23 _ rfl w.heap.size rfl 23 c.cells (0, 0) _ (heap_alloc_new w _) Try.underlying23 rfl (by kernel_rfl) ?_))
  go_ret
  exact ⟨rfl, B1.out⟩

def Cfg.need (c : Cfg) (xs : List Int) (n : Nat) : Int := if c.wrong = 0 then needI xs c.t n else 0
theorem need_any (c : Cfg) (A : Option Addr) (n cap : Nat) (xs : List Int) (w : World) (h : RdI w A n xs) :
    Calls Try.prog 12 #[.agg c.cells, .slice A n cap] w fun e w' => e = .returned (.int .i64 (c.need xs n)) ∧ Below w.heap.size w w' := by
  unfold Cfg.need
  by_cases hw : c.wrong = 0
  · rw [if_pos hw]; exact need_ok c hw A n cap xs w h
  · rw [if_neg hw]; exact need_bad c hw A n cap w
end Go.Proofs.Ytbbdjfbhidpeiaa
