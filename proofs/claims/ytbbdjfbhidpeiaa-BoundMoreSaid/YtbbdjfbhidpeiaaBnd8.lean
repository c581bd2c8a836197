/- What BoundMore answers. -/
import Derived.Test.YtbbdjfbhidpeiaaBnd5
import Derived.Test.YtbbdjfbhidpeiaaBnd7
import Derived.Test.YtbbdjfbhidpeiaaCls2
namespace Go.Proofs.Ytbbdjfbhidpeiaa
open Go.RowKit

theorem info_int : (Try.prog.info? 3).map (fun i => (i.zero, i.size, i.bytes)) = some (some (.int .i64 0), 1, 8) := by kernel_rfl

theorem bmore_bad (c : Cfg) (hw : c.wrong ≠ 0) (A : Option Addr) (n cap : Nat) (xs : List Int) (x : Int) (w : World) (h : RdI w A n xs) :
    Calls Try.prog 4 #[.agg c.cells, .slice A n cap, .int .i64 x] w fun e w' => e = .returned (.bool true) ∧ Below w.heap.size w w' := by
  have A0 := Lib.hid (heap_alloc_new w (.cells c.cells 23))
  have B0 := Lib.hid (below_alloc0 w (.cells c.cells 23))
  have R0 := Lib.hid (h.alloc (.cells c.cells 23))
  have hck : c.check = 6 := by unfold Cfg.check; rw [if_neg hw]
  clear h hw
  go_enter Try.func4, Try.ntmps4
  go_wp2_with (first
    | (go_at_call 8; refine (balive_any _).mono ?_; rintro e w4 ⟨rfl, hb4⟩; have A4 := Lib.hid (keep hb4 (k := w.heap.size) (o := .cells c.cells 23 (0, 0)) (Hid.out (by assumption))); have B4 := Lib.hid (below_next (w := w) (Hid.out (by assumption)) hb4); have R4 := Lib.hid (RdI.below (A := A) (n := n) (xs := xs) (Hid.out (by assumption)) hb4); clear hb4)
    | (go_at_call 9; refine (check_any c _).mono ?_; rintro e w4 ⟨rfl, hb4⟩; have A4 := Lib.hid (keep hb4 (k := w.heap.size) (o := .cells c.cells 23 (0, 0)) (Hid.out (by assumption))); have B4 := Lib.hid (below_next (w := w) (Hid.out (by assumption)) hb4); have R4 := Lib.hid (RdI.below (A := A) (n := n) (xs := xs) (Hid.out (by assumption)) hb4); clear hb4)
    | (refine wpList_load_row rfl 23 _ rfl w.heap.size rfl 23 c.cells (0, 0) _ ?_ Try.underlying23 rfl (by kernel_rfl) ?_; exact Hid.out (by assumption))
    | (refine gate_guard (by rfl) ?_; refine wpList_load_row rfl 23 _ rfl w.heap.size rfl 23 c.cells (0, 0) _ ?_ Try.underlying23 rfl (by kernel_rfl) ?_; exact Hid.out (by assumption)))
  go_ret
  exact ⟨rfl, Hid.out (by assumption)⟩

set_option maxHeartbeats 8000000 in
set_option maxRecDepth 100000 in
theorem bmore_some (c : Cfg) (hw : c.wrong = 0) (ad : Addr) (n cap : Nat) (xs : List Int) (x : Int) (w : World) (h : RdI w (some ad) n xs) (hn : n * 8 ≤ 140737488351232) :
    Calls Try.prog 4 #[.agg c.cells, .slice (some ad) n cap, .int .i64 x] w fun e w' => e = .returned (.bool true) ∧ Below w.heap.size w w' := by
  have A0 := Lib.hid (heap_alloc_new w (.cells c.cells 23))
  have B0 := Lib.hid (below_alloc0 w (.cells c.cells 23))
  obtain ⟨A, hA⟩ : ∃ A, A = some ad := ⟨_, rfl⟩
  have R0 := Lib.hid (h.alloc (.cells c.cells 23))
  rw [← hA] at R0
  replace hA := Lib.hid hA
  have hlen := h.len
  have hmr := need_more c hw xs x
  rw [hlen] at hmr
  have ht := (Cfg.wrong_zero hw).1.t
  have hpx := pagesI_bd x
  have hck : c.check = 0 := by unfold Cfg.check; rw [if_pos hw]
  clear h hw
  obtain ⟨i0, hi, hz0, hz1, hz2⟩ := info_parts info_int
  have hi := Lib.hid hi
  have hz0 := Lib.hid hz0
  have hz1 := Lib.hid hz1
  have hz2 := Lib.hid hz2
  go_enter Try.func4, Try.ntmps4
  go_wp2_with (first
    | (go_at_call 8; refine (balive_any _).mono ?_; rintro e w4 ⟨rfl, hb4⟩; have A4 := Lib.hid (keep hb4 (k := w.heap.size) (o := .cells c.cells 23 (0, 0)) (Hid.out (by assumption))); have B4 := Lib.hid (below_next (w := w) (Hid.out (by assumption)) hb4); have R4 := Lib.hid (RdI.below (A := A) (n := n) (xs := xs) (Hid.out (by assumption)) hb4); clear hb4)
    | (go_at_call 9; refine (check_any c _).mono ?_; rintro e w4 ⟨rfl, hb4⟩; have A4 := Lib.hid (keep hb4 (k := w.heap.size) (o := .cells c.cells 23 (0, 0)) (Hid.out (by assumption))); have B4 := Lib.hid (below_next (w := w) (Hid.out (by assumption)) hb4); have R4 := Lib.hid (RdI.below (A := A) (n := n) (xs := xs) (Hid.out (by assumption)) hb4); clear hb4)
    | (refine wpList_load_row rfl 23 _ rfl w.heap.size rfl 23 c.cells (0, 0) _ ?_ Try.underlying23 rfl (by kernel_rfl) ?_; exact Hid.out (by assumption))
    | (refine gate_guard (by rfl) ?_; refine wpList_load_row rfl 23 _ rfl w.heap.size rfl 23 c.cells (0, 0) _ ?_ Try.underlying23 rfl (by kernel_rfl) ?_; exact Hid.out (by assumption))
    | (at_builtin; refine wpList_append_own _ rfl _ _ 24 rfl w4.heap.size 3 i0 (.int .i64 0) 1 8 Try.underlying24 hi.out hz0.out hz1.out hz2.out rfl (by decide) _ 0 [] rfl ⟨rfl, .inl ⟨rfl, rfl⟩⟩ ad n cap (xs.map (Value.int .i64)) rfl ?c0 ?c1 ?c2 ?c3 ?c4 ?c5 ?_))
  case c0 => simp [hlen]
  case c1 => exact RdI.cells (hA.out ▸ R4.out)
  case c2 => simp [Value.oneCell']
  case c3 => unfold maxLen; omega
  case c4 => omega
  case c5 => omega
  intro v1 w5 hown hgrow _
  have HO5 : Hid (w5.ownsRow w4.heap.size 3 1 v1 n (xs.map (Value.int .i64))) := Lib.hid (by simpa using hown)
  have HB5 := Lib.hid ((Below.refl w4.heap.size w4).grown hgrow (Nat.le_refl _) (own_base (xs := []) (n := 0) (w := w4) (e := 3) (size := 1) (v := .slice none 0 0) ⟨rfl, .inl ⟨rfl, rfl⟩⟩))
  have hs5 := HB5.out.size
  clear hown hgrow
  go_wp2_with (first
    | (at_builtin; refine wpList_append_own _ rfl _ _ 24 rfl w4.heap.size 3 i0 (.int .i64 0) 1 8 Try.underlying24 hi.out hz0.out hz1.out hz2.out rfl (by decide) _ n (xs.map (Value.int .i64)) rfl (HO5.out.alloc _) ⟨w5.heap.size, 0, none⟩ 1 1 [.int .i64 x] rfl rfl ?c1 ?c2 ?c3 ?c4 ?c5 ?_))
  case c1 => exact cell_new _ _ _ _
  case c2 => simp [Value.oneCell']
  case c3 => unfold maxLen; omega
  case c4 => omega
  case c5 => simp; omega
  intro v2 w7 hown hgrow _
  have HB7 := (HB5.out.alloc hs5 _).grown hgrow (by simp; omega) (own_base HO5.out)
  obtain ⟨A2, cap2, rfl, R2⟩ := RdI.of_own (xs := xs ++ [x]) (by simpa using hown) (by omega)
  have A7 := keep HB7 A4.out
  have R7 := R4.out.below HB7
  have B7 := below_next B4.out HB7
  have hnb := c.need_bd xs n
  clear hown hgrow
  go_wp2_with fail
  have c0 : w7.cell? ⟨w.heap.size, 0, none⟩ = some (.int .i64 c.p) := cell_of_row _ _ _ _ _ _ A7
  have c1 : w7.cell? ⟨w.heap.size, 1, none⟩ = some (.int .i64 c.t) := cell_of_row _ _ _ _ _ _ A7
  have c2 : w7.cell? ⟨w.heap.size, 2, none⟩ = some (.int .i64 c.w) := cell_of_row _ _ _ _ _ _ A7
  have c3 : w7.cell? ⟨w.heap.size, 3, none⟩ = some (.int .i64 c.q) := cell_of_row _ _ _ _ _ _ A7
  have c4 : w7.cell? ⟨w.heap.size, 4, none⟩ = some (.int .i64 c.g) := cell_of_row _ _ _ _ _ _ A7
  have c5 : w7.cell? ⟨w.heap.size, 5, none⟩ = some (.int .i64 c.cap) := cell_of_row _ _ _ _ _ _ A7
  have c6 : w7.cell? ⟨w.heap.size, 6, none⟩ = some (.int .i64 c.tax) := cell_of_row _ _ _ _ _ _ A7
  have c7 : w7.cell? ⟨w.heap.size, 7, none⟩ = some (.int .i64 c.ch) := cell_of_row _ _ _ _ _ _ A7
  have c8 : w7.cell? ⟨w.heap.size, 8, none⟩ = some (.int .i64 c.st) := cell_of_row _ _ _ _ _ _ A7
  have c9 : w7.cell? ⟨w.heap.size, 9, none⟩ = some (.int .i64 c.tr) := cell_of_row _ _ _ _ _ _ A7
  have nA : ∀ W, RdI W A n xs → Calls Try.prog 12 #[.agg #[.int .i64 c.p, .int .i64 c.t, .int .i64 c.w, .int .i64 c.q, .int .i64 c.g, .int .i64 c.cap, .int .i64 c.tax, .int .i64 c.ch, .int .i64 c.st, .int .i64 c.tr], .slice (some ad) n cap] W fun e w' => e = .returned (.int .i64 (c.need xs n)) ∧ Below W.heap.size W w' := fun W h => by
    have := need_any c A n cap xs W h
    rw [hA.out] at this
    exact this
  have nB : ∀ W, RdI W A2 (n + 1) (xs ++ [x]) → Calls Try.prog 12 #[.agg #[.int .i64 c.p, .int .i64 c.t, .int .i64 c.w, .int .i64 c.q, .int .i64 c.g, .int .i64 c.cap, .int .i64 c.tax, .int .i64 c.ch, .int .i64 c.st, .int .i64 c.tr], .slice A2 (n + 1) cap2] W fun e w' => e = .returned (.int .i64 (c.need (xs ++ [x]) (n + 1))) ∧ Below W.heap.size W w' := fun W h => need_any c A2 (n + 1) cap2 (xs ++ [x]) W h
  go_region_held3 (fun w' => w'.cell? ⟨w.heap.size, 0, none⟩ = some (.int .i64 c.p) ∧ w'.cell? ⟨w.heap.size, 1, none⟩ = some (.int .i64 c.t) ∧ w'.cell? ⟨w.heap.size, 2, none⟩ = some (.int .i64 c.w) ∧ w'.cell? ⟨w.heap.size, 3, none⟩ = some (.int .i64 c.q) ∧ w'.cell? ⟨w.heap.size, 4, none⟩ = some (.int .i64 c.g) ∧ w'.cell? ⟨w.heap.size, 5, none⟩ = some (.int .i64 c.cap) ∧ w'.cell? ⟨w.heap.size, 6, none⟩ = some (.int .i64 c.tax) ∧ w'.cell? ⟨w.heap.size, 7, none⟩ = some (.int .i64 c.ch) ∧ w'.cell? ⟨w.heap.size, 8, none⟩ = some (.int .i64 c.st) ∧ w'.cell? ⟨w.heap.size, 9, none⟩ = some (.int .i64 c.tr) ∧ RdI w' A n xs ∧ RdI w' A2 (n + 1) (xs ++ [x]) ∧ Below w.heap.size w w')
    (first
      | exact ⟨c0, c1, c2, c3, c4, c5, c6, c7, c8, c9, R7.drew, R2.drew, B7.drew⟩
      | (go_split_ands; exact ⟨cell_keep hb5 (by assumption), cell_keep hb5 (by assumption), cell_keep hb5 (by assumption), cell_keep hb5 (by assumption), cell_keep hb5 (by assumption), cell_keep hb5 (by assumption), cell_keep hb5 (by assumption), cell_keep hb5 (by assumption), cell_keep hb5 (by assumption), cell_keep hb5 (by assumption), RdI.below (A := A) (n := n) (xs := xs) (by assumption) hb5, RdI.below (A := A2) (n := n + 1) (xs := xs ++ [x]) (by assumption) hb5, below_next (by assumption) hb5⟩))
    (first
      | (go_split_ands; go_at_call 12; (first
          | ((with_reducible refine (nA _ (by assumption)).mono ?_); rintro e w5 ⟨rfl, hb5⟩)
          | ((with_reducible refine (nB _ (by assumption)).mono ?_); rintro e w5 ⟨rfl, hb5⟩))))
  go_wp2_with fail
  go_split_ands
  have hd : decide (c.need xs n ≤ c.need (xs ++ [x]) (n + 1)) = true := by simp; omega
  have e1 : IntKind.i64.wrap (c.need xs n + pagesI x) = c.need xs n + pagesI x := IntWalk.i64_in _ (by omega)
  have e2 : IntKind.i64.wrap (c.need xs n + pagesI x + c.t) = c.need xs n + pagesI x + c.t := IntWalk.i64_in _ (by omega)
  have e3 : IntKind.i64.wrap (c.need xs n + pagesI x + c.t + 1) = c.need xs n + pagesI x + c.t + 1 := IntWalk.i64_in _ (by omega)
  have hd2 : decide (c.need (xs ++ [x]) (n + 1) ≤ c.need xs n + pagesI x + c.t + 1) = true := by simp; omega
  have g1 : w5.cell? ⟨w.heap.size, 1, none⟩ = some (.int .i64 c.t) := by assumption
  have g2 : Below w.heap.size w w5 := by assumption
  go_region_held3 (fun w' => w'.cell? ⟨w.heap.size, 1, none⟩ = some (.int .i64 c.t) ∧ Below w.heap.size w w')
    (first
      | exact ⟨g1, g2.drew⟩
      | (go_split_ands; exact ⟨cell_keep hb6 (by assumption), below_next (by assumption) hb6⟩))
    (first
      | (go_at_call 15; refine (rpages_any x _).mono ?_; rintro e w6 ⟨rfl, hb6⟩))
  go_wp2_with fail
  go_split_ands
  go_ret
  exact ⟨rfl, by assumption⟩


set_option maxHeartbeats 8000000 in
set_option maxRecDepth 100000 in
theorem bmore_nil (c : Cfg) (hw : c.wrong = 0) (cap : Nat) (x : Int) (w : World) :
    Calls Try.prog 4 #[.agg c.cells, .slice none 0 cap, .int .i64 x] w fun e w' => e = .returned (.bool true) ∧ Below w.heap.size w w' := by
  have A0 := Lib.hid (heap_alloc_new w (.cells c.cells 23))
  have B0 := Lib.hid (below_alloc0 w (.cells c.cells 23))
  obtain ⟨A, hA⟩ : ∃ A : Option Addr, A = none := ⟨_, rfl⟩
  obtain ⟨n, hn0⟩ : ∃ n : Nat, n = 0 := ⟨_, rfl⟩
  obtain ⟨xs, hxs⟩ : ∃ xs : List Int, xs = [] := ⟨_, rfl⟩
  have R0 : Hid (RdI (w.alloc (.cells c.cells 23)) A n xs) := by rw [hn0, hxs]; exact RdI.nil _ _
  replace hA := Lib.hid hA
  have hlen : xs.length = n := by rw [hxs, hn0]; rfl
  have hmr := need_more c hw xs x
  rw [hlen] at hmr
  have ht := (Cfg.wrong_zero hw).1.t
  have hpx := pagesI_bd x
  have hck : c.check = 0 := by unfold Cfg.check; rw [if_pos hw]
  clear hw
  have HN := Lib.hid hn0
  have HX := Lib.hid hxs
  clear hn0 hxs
  obtain ⟨i0, hi, hz0, hz1, hz2⟩ := info_parts info_int
  have hi := Lib.hid hi
  have hz0 := Lib.hid hz0
  have hz1 := Lib.hid hz1
  have hz2 := Lib.hid hz2
  go_enter Try.func4, Try.ntmps4
  go_wp2_with (first
    | (go_at_call 8; refine (balive_any _).mono ?_; rintro e w4 ⟨rfl, hb4⟩; have A4 := Lib.hid (keep hb4 (k := w.heap.size) (o := .cells c.cells 23 (0, 0)) (Hid.out (by assumption))); have B4 := Lib.hid (below_next (w := w) (Hid.out (by assumption)) hb4); have R4 := Lib.hid (RdI.below (A := A) (n := n) (xs := xs) (Hid.out (by assumption)) hb4); clear hb4)
    | (go_at_call 9; refine (check_any c _).mono ?_; rintro e w4 ⟨rfl, hb4⟩; have A4 := Lib.hid (keep hb4 (k := w.heap.size) (o := .cells c.cells 23 (0, 0)) (Hid.out (by assumption))); have B4 := Lib.hid (below_next (w := w) (Hid.out (by assumption)) hb4); have R4 := Lib.hid (RdI.below (A := A) (n := n) (xs := xs) (Hid.out (by assumption)) hb4); clear hb4)
    | (refine wpList_load_row rfl 23 _ rfl w.heap.size rfl 23 c.cells (0, 0) _ ?_ Try.underlying23 rfl (by kernel_rfl) ?_; exact Hid.out (by assumption))
    | (refine gate_guard (by rfl) ?_; refine wpList_load_row rfl 23 _ rfl w.heap.size rfl 23 c.cells (0, 0) _ ?_ Try.underlying23 rfl (by kernel_rfl) ?_; exact Hid.out (by assumption))
    | (at_builtin; refine wpList_append_own _ rfl _ _ 24 rfl w4.heap.size 3 i0 (.int .i64 0) 1 8 Try.underlying24 hi.out hz0.out hz1.out hz2.out rfl (by decide) _ 0 [] rfl ⟨rfl, .inl ⟨rfl, rfl⟩⟩ ⟨w4.heap.size, 0, none⟩ 1 1 [.int .i64 x] rfl rfl ?c1 ?c2 ?c3 ?c4 ?c5 ?_))
  case c1 => exact cell_new _ _ _ _
  case c2 => simp [Value.oneCell']
  case c3 => unfold maxLen; omega
  case c4 => omega
  case c5 => show w4.heap.size ≤ (w4.heap.push _).size; simp
  intro v2 w7 hown hgrow _
  have hn : n * 8 ≤ 140737488351232 := by have := HN.out; omega
  have HB7 := ((Below.refl w4.heap.size w4).alloc (Nat.le_refl _) _).grown hgrow (by show w4.heap.size ≤ (w4.heap.push _).size; simp) (own_base (xs := []) (n := 0) (w := w4) (e := 3) (size := 1) (v := .slice none 0 0) ⟨rfl, .inl ⟨rfl, rfl⟩⟩)
  obtain ⟨A2, cap2, rfl, R2⟩ := RdI.of_own (n := n + 1) (xs := xs ++ [x]) (by rw [HN.out, HX.out]; simpa using hown) (by omega)
  have A7 := keep HB7 A4.out
  have R7 := R4.out.below HB7
  have B7 := below_next B4.out HB7
  have hnb := c.need_bd xs n
  clear hown hgrow
  go_wp2_with fail
  have c0 : w7.cell? ⟨w.heap.size, 0, none⟩ = some (.int .i64 c.p) := cell_of_row _ _ _ _ _ _ A7
  have c1 : w7.cell? ⟨w.heap.size, 1, none⟩ = some (.int .i64 c.t) := cell_of_row _ _ _ _ _ _ A7
  have c2 : w7.cell? ⟨w.heap.size, 2, none⟩ = some (.int .i64 c.w) := cell_of_row _ _ _ _ _ _ A7
  have c3 : w7.cell? ⟨w.heap.size, 3, none⟩ = some (.int .i64 c.q) := cell_of_row _ _ _ _ _ _ A7
  have c4 : w7.cell? ⟨w.heap.size, 4, none⟩ = some (.int .i64 c.g) := cell_of_row _ _ _ _ _ _ A7
  have c5 : w7.cell? ⟨w.heap.size, 5, none⟩ = some (.int .i64 c.cap) := cell_of_row _ _ _ _ _ _ A7
  have c6 : w7.cell? ⟨w.heap.size, 6, none⟩ = some (.int .i64 c.tax) := cell_of_row _ _ _ _ _ _ A7
  have c7 : w7.cell? ⟨w.heap.size, 7, none⟩ = some (.int .i64 c.ch) := cell_of_row _ _ _ _ _ _ A7
  have c8 : w7.cell? ⟨w.heap.size, 8, none⟩ = some (.int .i64 c.st) := cell_of_row _ _ _ _ _ _ A7
  have c9 : w7.cell? ⟨w.heap.size, 9, none⟩ = some (.int .i64 c.tr) := cell_of_row _ _ _ _ _ _ A7
  have nA : ∀ W, RdI W A n xs → Calls Try.prog 12 #[.agg #[.int .i64 c.p, .int .i64 c.t, .int .i64 c.w, .int .i64 c.q, .int .i64 c.g, .int .i64 c.cap, .int .i64 c.tax, .int .i64 c.ch, .int .i64 c.st, .int .i64 c.tr], .slice none 0 cap] W fun e w' => e = .returned (.int .i64 (c.need xs n)) ∧ Below W.heap.size W w' := fun W h => by
    have := need_any c A n cap xs W h
    rw [hA.out, HN.out] at this; simp only [HN.out] at this ⊢
    exact this
  have nB : ∀ W, RdI W A2 (n + 1) (xs ++ [x]) → Calls Try.prog 12 #[.agg #[.int .i64 c.p, .int .i64 c.t, .int .i64 c.w, .int .i64 c.q, .int .i64 c.g, .int .i64 c.cap, .int .i64 c.tax, .int .i64 c.ch, .int .i64 c.st, .int .i64 c.tr], .slice A2 (n + 1) cap2] W fun e w' => e = .returned (.int .i64 (c.need (xs ++ [x]) (n + 1))) ∧ Below W.heap.size W w' := fun W h => need_any c A2 (n + 1) cap2 (xs ++ [x]) W h
  go_region_held3 (fun w' => w'.cell? ⟨w.heap.size, 0, none⟩ = some (.int .i64 c.p) ∧ w'.cell? ⟨w.heap.size, 1, none⟩ = some (.int .i64 c.t) ∧ w'.cell? ⟨w.heap.size, 2, none⟩ = some (.int .i64 c.w) ∧ w'.cell? ⟨w.heap.size, 3, none⟩ = some (.int .i64 c.q) ∧ w'.cell? ⟨w.heap.size, 4, none⟩ = some (.int .i64 c.g) ∧ w'.cell? ⟨w.heap.size, 5, none⟩ = some (.int .i64 c.cap) ∧ w'.cell? ⟨w.heap.size, 6, none⟩ = some (.int .i64 c.tax) ∧ w'.cell? ⟨w.heap.size, 7, none⟩ = some (.int .i64 c.ch) ∧ w'.cell? ⟨w.heap.size, 8, none⟩ = some (.int .i64 c.st) ∧ w'.cell? ⟨w.heap.size, 9, none⟩ = some (.int .i64 c.tr) ∧ RdI w' A n xs ∧ RdI w' A2 (n + 1) (xs ++ [x]) ∧ Below w.heap.size w w')
    (first
      | exact ⟨c0, c1, c2, c3, c4, c5, c6, c7, c8, c9, R7.drew, R2.drew, B7.drew⟩
      | (go_split_ands; exact ⟨cell_keep hb5 (by assumption), cell_keep hb5 (by assumption), cell_keep hb5 (by assumption), cell_keep hb5 (by assumption), cell_keep hb5 (by assumption), cell_keep hb5 (by assumption), cell_keep hb5 (by assumption), cell_keep hb5 (by assumption), cell_keep hb5 (by assumption), cell_keep hb5 (by assumption), RdI.below (A := A) (n := n) (xs := xs) (by assumption) hb5, RdI.below (A := A2) (n := n + 1) (xs := xs ++ [x]) (by assumption) hb5, below_next (by assumption) hb5⟩))
    (first
      | (go_split_ands; go_at_call 12; (first
          | ((with_reducible refine (nA _ (by assumption)).mono ?_); rintro e w5 ⟨rfl, hb5⟩)
          | ((with_reducible refine (nB _ (by assumption)).mono ?_); rintro e w5 ⟨rfl, hb5⟩))))
  go_wp2_with fail
  go_split_ands
  have hd : decide (c.need xs n ≤ c.need (xs ++ [x]) (n + 1)) = true := by simp; omega
  have e1 : IntKind.i64.wrap (c.need xs n + pagesI x) = c.need xs n + pagesI x := IntWalk.i64_in _ (by omega)
  have e2 : IntKind.i64.wrap (c.need xs n + pagesI x + c.t) = c.need xs n + pagesI x + c.t := IntWalk.i64_in _ (by omega)
  have e3 : IntKind.i64.wrap (c.need xs n + pagesI x + c.t + 1) = c.need xs n + pagesI x + c.t + 1 := IntWalk.i64_in _ (by omega)
  have hd2 : decide (c.need (xs ++ [x]) (n + 1) ≤ c.need xs n + pagesI x + c.t + 1) = true := by simp; omega
  have g1 : w5.cell? ⟨w.heap.size, 1, none⟩ = some (.int .i64 c.t) := by assumption
  have g2 : Below w.heap.size w w5 := by assumption
  go_region_held3 (fun w' => w'.cell? ⟨w.heap.size, 1, none⟩ = some (.int .i64 c.t) ∧ Below w.heap.size w w')
    (first
      | exact ⟨g1, g2.drew⟩
      | (go_split_ands; exact ⟨cell_keep hb6 (by assumption), below_next (by assumption) hb6⟩))
    (first
      | (go_at_call 15; refine (rpages_any x _).mono ?_; rintro e w6 ⟨rfl, hb6⟩))
  go_wp2_with fail
  go_split_ands
  go_ret
  exact ⟨rfl, by assumption⟩

theorem bmore_any (c : Cfg) (A : Option Addr) (n cap : Nat) (xs : List Int) (x : Int) (w : World) (h : RdI w A n xs) (hn : n * 8 ≤ 140737488351232) :
    Calls Try.prog 4 #[.agg c.cells, .slice A n cap, .int .i64 x] w fun e w' => e = .returned (.bool true) ∧ Below w.heap.size w w' := by
  by_cases hw : c.wrong = 0
  · cases A with
    | some ad => exact bmore_some c hw ad n cap xs x w h hn
    | none =>
      have : n = 0 := by
        rcases Nat.eq_zero_or_pos n with h0 | h0
        · exact h0
        · obtain ⟨b, o, e, _⟩ := h.cell h0
          cases e
      subst this
      exact bmore_nil c hw cap x w
  · exact bmore_bad c hw A n cap xs x w h
end Go.Proofs.Ytbbdjfbhidpeiaa
