/- What code.Tell and code.Told come to. -/
import Derived.Test.YtednooklmonblaaStp7
import Derived.Test.YtednooklmonblaaAns0
namespace Go.Proofs.Ytednooklmonblaa
open Go.RowKit

theorem outside_no (n to : Int) (h0 : 0 ≤ n) (h1 : n ≤ to) (w : World) :
    Calls Try.prog 46 #[.int .i64 n, .int .i64 to] w fun e w' => e = .returned (.bool false) ∧ w = w' := by
  have d1 : decide (n < 0) = false := by simp; omega
  have d2 : decide (to < n) = false := by simp; omega
  go_enter Try.func46, Try.ntmps46
  go_wp2_with fail
  go_ret
  exact ⟨rfl, rfl⟩
theorem outside_yes (n to : Int) (h : n < 0 ∨ to < n) (w : World) :
    Calls Try.prog 46 #[.int .i64 n, .int .i64 to] w fun e w' => e = .returned (.bool true) ∧ w = w' := by
  by_cases h0 : n < 0
  · clear h
    go_enter Try.func46, Try.ntmps46
    go_wp2_with fail
    go_ret
    exact ⟨rfl, rfl⟩
  · have h1 : to < n := by omega
    clear h
    go_enter Try.func46, Try.ntmps46
    go_wp2_with fail
    go_ret
    exact ⟨rfl, rfl⟩

theorem ans_cell {x : Ans} {w1 : World} {g : Nat} (h : w1.heap[g]? = some (.cells x.cells 49 (0, 0))) :
    w1.cell? ⟨g, 0, none⟩ = some (.int .i64 x.e) ∧ w1.cell? ⟨g, 1, none⟩ = some (.int .i64 x.k) ∧ w1.cell? ⟨g, 2, none⟩ = some (.int .i64 x.n) ∧ w1.cell? ⟨g, 3, none⟩ = some (.int .i64 x.d) ∧ w1.cell? ⟨g, 4, none⟩ = some (.int .i64 x.c) :=
  ⟨cell_of_row _ _ _ _ _ _ h, cell_of_row _ _ _ _ _ _ h, cell_of_row _ _ _ _ _ _ h, cell_of_row _ _ _ _ _ _ h, cell_of_row _ _ _ _ _ _ h⟩

set_option maxHeartbeats 1000000 in
theorem tell_bad (x : Ans) (w : World) (h : ¬ x.good) :
    Calls Try.prog 29 #[.agg x.cells] w fun e w' => e = .returned (.tuple #[.slice none 0 0, .int .i64 4]) ∧ Below w.heap.size w w' := by
  have A0 := Lib.hid (heap_alloc_new w (.cells x.cells 49))
  have B0 := Lib.hid (below_alloc0 w (.cells x.cells 49))
  obtain ⟨g0, g1, g2, g3, g4⟩ := ans_cell A0.out
  unfold Ans.good at h
  by_cases h1 : 0 ≤ x.e ∧ x.e ≤ 255
  · by_cases h2 : 0 ≤ x.k ∧ x.k ≤ 255
    · by_cases h3 : 0 ≤ x.d ∧ x.d ≤ 65535
      · have h4 : x.c < 0 ∨ 65535 < x.c := by omega
        have H4 := Lib.hid h4
        clear h h4
        go_enter Try.func29, Try.ntmps29
        go_wp2_with (first
          | (go_at_call 46; (with_reducible refine (outside_no x.e 255 (by omega) (by omega) _).mono ?_); rintro e w' ⟨rfl, rfl⟩)
          | (go_at_call 46; (with_reducible refine (outside_no x.k 255 (by omega) (by omega) _).mono ?_); rintro e w' ⟨rfl, rfl⟩)
          | (go_at_call 46; (with_reducible refine (outside_no x.d 65535 (by omega) (by omega) _).mono ?_); rintro e w' ⟨rfl, rfl⟩)
          | (go_at_call 46; (with_reducible refine (outside_yes x.c 65535 H4.out _).mono ?_); rintro e w' ⟨rfl, rfl⟩))
        go_ret2
        exact ⟨rfl, B0.out⟩
      · have h4 : x.d < 0 ∨ 65535 < x.d := by omega
        have H4 := Lib.hid h4
        clear h h3 h4
        go_enter Try.func29, Try.ntmps29
        go_wp2_with (first
          | (go_at_call 46; (with_reducible refine (outside_no x.e 255 (by omega) (by omega) _).mono ?_); rintro e w' ⟨rfl, rfl⟩)
          | (go_at_call 46; (with_reducible refine (outside_no x.k 255 (by omega) (by omega) _).mono ?_); rintro e w' ⟨rfl, rfl⟩)
          | (go_at_call 46; (with_reducible refine (outside_yes x.d 65535 H4.out _).mono ?_); rintro e w' ⟨rfl, rfl⟩))
        go_ret2
        exact ⟨rfl, B0.out⟩
    · have h4 : x.k < 0 ∨ 255 < x.k := by omega
      have H4 := Lib.hid h4
      clear h h2 h4
      go_enter Try.func29, Try.ntmps29
      go_wp2_with (first
        | (go_at_call 46; (with_reducible refine (outside_no x.e 255 (by omega) (by omega) _).mono ?_); rintro e w' ⟨rfl, rfl⟩)
        | (go_at_call 46; (with_reducible refine (outside_yes x.k 255 H4.out _).mono ?_); rintro e w' ⟨rfl, rfl⟩))
      go_ret2
      exact ⟨rfl, B0.out⟩
  · have h4 : x.e < 0 ∨ 255 < x.e := by omega
    have H4 := Lib.hid h4
    clear h h1 h4
    go_enter Try.func29, Try.ntmps29
    go_wp2_with (go_at_call 46; (with_reducible refine (outside_yes x.e 255 H4.out _).mono ?_); rintro e w' ⟨rfl, rfl⟩)
    go_ret2
    exact ⟨rfl, B0.out⟩

set_option maxHeartbeats 1000000 in
theorem tell_fine (x : Ans) (w : World) (h : x.good) :
    Calls Try.prog 29 #[.agg x.cells] w fun e w' => ∃ v, e = .returned (.tuple #[v, .int .i64 0]) ∧ w'.ownsRow w.heap.size 5 1 v 14 x.octV ∧ Below w.heap.size w w' := by
  have A0 := Lib.hid (heap_alloc_new w (.cells x.cells 49))
  have B0 := Lib.hid (below_alloc0 w (.cells x.cells 49))
  obtain ⟨g0, g1, g2, g3, g4⟩ := ans_cell A0.out
  have HE := Lib.hid x.octV_eq
  obtain ⟨h1, h2, h3, h4⟩ := h
  have O1 : Hid (((w.alloc (.cells x.cells 49)).alloc (.cells #[.int .u8 x.e, .int .u8 x.k] 5)).ownsRow (w.heap.size + 1) 5 1 (.slice (some ⟨w.heap.size + 1, 0, none⟩) 2 2) 2 [.int .u8 x.e, .int .u8 x.k]) :=
    own_new (w := w.alloc _) [.int .u8 x.e, .int .u8 x.k] (w.heap.size + 1) 2 (by simp) (Nat.le_refl _) rfl (by decide)
  have B1 := Lib.hid (below_new B0.out (.cells #[.int .u8 x.e, .int .u8 x.k] 5))
  have A1 := Lib.hid (keep_alloc (.cells #[.int .u8 x.e, .int .u8 x.k] 5) A0.out)
  have g2' := (ans_cell A1.out).2.2.1
  go_enter Try.func29, Try.ntmps29
  go_wp2_with (first
    | (go_at_call 46; (with_reducible refine (outside_no x.e 255 (by omega) (by omega) _).mono ?_); rintro e w' ⟨rfl, rfl⟩)
    | (go_at_call 46; (with_reducible refine (outside_no x.k 255 (by omega) (by omega) _).mono ?_); rintro e w' ⟨rfl, rfl⟩)
    | (go_at_call 46; (with_reducible refine (outside_no x.d 65535 (by omega) (by omega) _).mono ?_); rintro e w' ⟨rfl, rfl⟩)
    | (go_at_call 46; (with_reducible refine (outside_no x.c 65535 (by omega) (by omega) _).mono ?_); rintro e w' ⟨rfl, rfl⟩)
    | (go_at_call 43; refine (put_any _ 2 8 _ x.n (w.heap.size + 1) _ (by omega) (by omega) (by simp) O1.out).mono ?_; rintro e w3 ⟨v3, rfl, ho3, hb3⟩))
  have A3 := Lib.hid (keep_at hb3 A1.out (Nat.lt_succ_self _))
  have B3 := Lib.hid (B1.out.trans (hb3.mono (Nat.le_succ _)))
  have hs3 : w.heap.size + 1 ≤ w3.heap.size := by have := hb3.size; simp at this; omega
  have k3 := (ans_cell A3.out).2.2.2.1
  have k4 := (ans_cell A3.out).2.2.2.2
  have O3 := Lib.hid ho3
  clear g0 g1 g2 g3 g4 g2' A0 B0 A1 B1 O1 hb3 ho3
  go_region_held3 (fun w' => w'.cell? ⟨w.heap.size, 3, none⟩ = some (.int .i64 x.d) ∧ w'.cell? ⟨w.heap.size, 4, none⟩ = some (.int .i64 x.c))
    (first
      | exact ⟨k3, k4⟩
      | (go_split_ands
         exact ⟨(hb5.cell (Nat.lt_succ_self _)).trans (by assumption), (hb5.cell (Nat.lt_succ_self _)).trans (by assumption)⟩)
      | (go_split_ands
         exact ⟨(hb4.cell (Nat.lt_succ_self _)).trans (by assumption), (hb4.cell (Nat.lt_succ_self _)).trans (by assumption)⟩))
    ((first
      | (go_at_call_of 43 (v3); refine (put_any v3 10 2 _ x.d (w.heap.size + 1) _ (by omega) (by omega) (by simpa using hs3) O3.out.drew).mono ?_; rintro e w4 ⟨v4, rfl, ho4, hb4⟩)
      | (go_at_call 43; refine (put_any v4 12 2 _ x.c (w.heap.size + 1) _ (by omega) (by omega) (by have := hb4.size; simp at this; omega) ho4).mono ?_; rintro e w5 ⟨v5, rfl, ho5, hb5⟩)))
  go_wp2_with fail
  go_ret2
  exact ⟨v5, rfl, own_mono (by rw [HE.out]; exact ho5) (by omega), B3.out.drew.trans ((hb4.trans hb5).mono (by omega))⟩

theorem tell_yes (x : Ans) (w : World) (h : x.good) :
    Calls Try.prog 29 #[.agg x.cells] w fun e w' => ∃ A cap, e = .returned (.tuple #[.slice A 14 cap, .int .i64 0]) ∧ 14 ≤ cap ∧ RdB w' A 14 x.octs ∧ Below w.heap.size w w' :=
  (tell_fine x w h).mono fun e w' ⟨v, he, ho, hb⟩ => by
    obtain ⟨A, cap, rfl, hc, hr⟩ := RdB.of_ownc ho (Ans.octs_byte h) (by omega)
    exact ⟨A, cap, he, hc, hr, hb⟩

set_option maxHeartbeats 400000 in
theorem told_short (A : Option Addr) (n cap : Nat) (w : World) (h : n ≠ 14) :
    Calls Try.prog 30 #[.slice A n cap] w fun e w' => e = .returned (.tuple #[.agg Ans.zero.cells, .int .i64 16]) ∧ Below w.heap.size w w' := by
  have h1 : ((n : Int) != 14) = true := by rw [bne_iff_ne]; omega
  clear h
  go_enter Try.func30, Try.ntmps30
  go_wp2_with fail
  exact bodyPost_ret (v := .tuple #[.agg Ans.zero.cells, .int .i64 16]) (results_row_tmp (p := 2) (u := 3) rfl _ _ w.heap.size 49 Ans.zero.cells _ _ rfl (heap_alloc_new w _) Try.underlying49 rfl (by kernel_rfl)) rfl
    ⟨rfl, below_alloc0 w _⟩

set_option maxHeartbeats 2000000 in
theorem told_full (A : Option Addr) (cap : Nat) (xs : List Int) (w : World) (h : RdB w A 14 xs) (hcap : 14 ≤ cap) :
    Calls Try.prog 30 #[.slice A 14 cap] w fun e w' => e = .returned (.tuple #[.agg (Ans.ofB xs).cells, .int .i64 0]) ∧ Below w.heap.size w w' := by
  obtain ⟨b, o, rfl, hcell⟩ := h.cell (by omega)
  have d0 := byte_cells h 0 (by omega)
  have d1 := byte_cells h 1 (by omega)
  rw [Nat.add_zero] at d0
  have b0 := getD_byte h.byte 0
  have b1 := getD_byte h.byte 1
  have p1 := h.part 2 8 (by omega)
  have p2 := h.part 10 2 (by omega)
  have p3 := h.part 12 2 (by omega)
  have hd : (xs.drop 12).take 2 = xs.drop 12 := List.take_of_length_le (by simp [h.len])
  rw [hd] at p3
  clear hd hcell h
  generalize hy0 : xs.getD 0 0 = y0 at *
  generalize hy1 : xs.getD 1 0 = y1 at *
  generalize hz1 : (xs.drop 2).take 8 = z1 at *
  generalize hz2 : (xs.drop 10).take 2 = z2 at *
  generalize hz3 : xs.drop 12 = z3 at *
  have HS := Lib.hid (show Ans.ofB xs = ⟨y0, y1, wrap64 (valI z1), wrap64 (valI z2), wrap64 (valI z3)⟩ from by subst hy0 hy1 hz1 hz2 hz3; rfl)
  clear hy0 hy1 hz1 hz2 hz3
  have q1 := p1.alloc (.cells Ans.zero.cells 49)
  have q2 := p2.alloc (.cells Ans.zero.cells 49)
  have q3 := p3.alloc (.cells Ans.zero.cells 49)
  have c0 := cell_keep (below_alloc0 w (.cells Ans.zero.cells 49)) d0
  have c1 := cell_keep (below_alloc0 w (.cells Ans.zero.cells 49)) d1
  unfold Ans.zero Ans.cells at q1 q2 q3 c0 c1
  have e0 : IntKind.i64.wrap y0 = y0 := IntWalk.i64_in _ (by omega)
  have e1 : IntKind.i64.wrap y1 = y1 := IntWalk.i64_in _ (by omega)
  have f1 : ¬ cap = 2 := by omega
  have f2 : ¬ cap = 10 := by omega
  have f3 : ¬ cap = 12 := by omega
  have f4 : 12 ≤ cap := by omega
  have f5 : 10 ≤ cap := by omega
  have f6 : (10 : Int) ≤ (cap : Int) := by omega
  have f7 : (12 : Int) ≤ (cap : Int) := by omega
  have g2 : IntKind.i64.wrap (wrap64 (valI z2)) = wrap64 (valI z2) := by rw [wrap_eq]; unfold wrap64; omega
  have g3 : IntKind.i64.wrap (wrap64 (valI z3)) = wrap64 (valI z3) := by rw [wrap_eq]; unfold wrap64; omega
  go_enter Try.func30, Try.ntmps30
  go_wp2_with fail
  go_region_held3 (fun w' => w'.cell? ⟨b, o, none⟩ = some (.int .u8 y0) ∧ w'.cell? ⟨b, o + 1, none⟩ = some (.int .u8 y1) ∧ RdB w' (some ⟨b, o + 2, none⟩) 8 z1 ∧ RdB w' (some ⟨b, o + 10, none⟩) 2 z2 ∧ RdB w' (some ⟨b, o + 12, none⟩) 2 z3)
    (first
      | exact ⟨c0, c1, q1.drew, q2.drew, q3.drew⟩
      | exact ⟨cell_keep (below_alloc0 w _).drew d0, cell_keep (below_alloc0 w _).drew d1, p1.below (below_alloc0 w _).drew, p2.below (below_alloc0 w _).drew, p3.below (below_alloc0 w _).drew⟩)
    ((go_split_ands; go_at_call 45; (first
      | ((with_reducible refine (get_any _ 8 _ z1 _ (by omega) (by assumption)).mono ?_); rintro e w' ⟨rfl, rfl⟩)
      | ((with_reducible refine (get_any (some ⟨b, o + 10, none⟩) 2 _ z2 _ (by omega) (by assumption)).mono ?_); rintro e w' ⟨rfl, rfl⟩)
      | ((with_reducible refine (get_any (some ⟨b, o + 12, none⟩) 2 _ z3 _ (by omega) (by assumption)).mono ?_); rintro e w' ⟨rfl, rfl⟩))))
  all_goals
    go_wp2_with fail
    exact bodyPost_ret (v := .tuple #[.agg #[.int .i64 y0, .int .i64 y1, .int .i64 (wrap64 (valI z1)), .int .i64 (wrap64 (valI z2)), .int .i64 (wrap64 (valI z3))], .int .i64 0]) (results_row_tmp (p := 2) (u := 3) rfl _ _ w.heap.size 49 #[.int .i64 y0, .int .i64 y1, .int .i64 (wrap64 (valI z1)), .int .i64 (wrap64 (valI z2)), .int .i64 (wrap64 (valI z3))] _ _ rfl (heap_alloc_new w _) Try.underlying49 rfl (by kernel_rfl)) rfl
      ⟨by rw [HS.out]; rfl, (below_alloc0 w _).drew⟩
end Go.Proofs.Ytednooklmonblaa
