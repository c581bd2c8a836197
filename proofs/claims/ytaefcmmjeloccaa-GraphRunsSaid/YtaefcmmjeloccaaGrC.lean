import Derived.Test.YtaefcmmjeloccaaGr7
import Derived.Deep.MidRow
namespace Go.Proofs.Ytaefcmmjeloccaa
open Go.RowKit

/- The graph's value, and push. -/
def boolI (b : Bool) : Int := if b then 4 else 0
set_option maxHeartbeats 1000000 in
theorem gword_any (n : Int) (w : World) :
    Calls Try.prog 55 #[.agg #[.int .i64 1, .int .i64 n]] w fun e w' => e = .returned (.int .i64 (boolI (decide (n < -1099511627776) || decide (1099511627775 < n)))) ∧ Below w.heap.size w w' := by
  have B0 := Lib.hid (below_alloc0 w (.cells #[.int .i64 1, .int .i64 n] 57))
  have c0 : (w.alloc (.cells #[.int .i64 1, .int .i64 n] 57)).cell? ⟨w.heap.size, 0, none⟩ = some (.int .i64 1) := cell_of_row _ _ _ _ _ _ (heap_alloc_new w _)
  have c1 : (w.alloc (.cells #[.int .i64 1, .int .i64 n] 57)).cell? ⟨w.heap.size, 1, none⟩ = some (.int .i64 n) := cell_of_row _ _ _ _ _ _ (heap_alloc_new w _)
  by_cases h1 : n < -1099511627776
  · have hr : boolI (decide (n < -1099511627776) || decide (1099511627775 < n)) = 4 := by rw [decide_eq_true h1]; rfl
    rw [hr]
    have d1 : decide (-1099511627776 ≤ n) = false := by simp; omega
    go_enter Try.func55, Try.ntmps55
    go_wp2_with fail
    go_ret
    exact ⟨rfl, B0.out⟩
  have d1 : decide (-1099511627776 ≤ n) = true := by simp; omega
  by_cases h2 : 1099511627775 < n
  · have hr : boolI (decide (n < -1099511627776) || decide (1099511627775 < n)) = 4 := by rw [decide_eq_true h2, Bool.or_true]; rfl
    rw [hr]
    have d2 : decide (n < 1099511627776) = false := by simp; omega
    go_enter Try.func55, Try.ntmps55
    go_wp2_with fail
    go_ret
    exact ⟨rfl, B0.out⟩
  · have hr : boolI (decide (n < -1099511627776) || decide (1099511627775 < n)) = 0 := by rw [decide_eq_false h1, decide_eq_false h2]; rfl
    rw [hr]
    have d2 : decide (n < 1099511627776) = true := by simp; omega
    go_enter Try.func55, Try.ntmps55
    go_wp2_with fail
    go_ret
    exact ⟨rfl, B0.out⟩
namespace Gr
/-- What a step pushes; an error. -/
def value (G : Gr) (x : Stp) : Nat → Vl × Int
  | 4 => if badN x (-1099511627776) 1099511627775 then ((0, 0), 4) else ((1, x.n), 0)
  | 5 => ((0, 0), 0)
  | 6 => ((2, 0), 0)
  | 7 => if ((G.held x.t).length : Int) ≤ x.i then ((0, 0), 4) else (at? (G.held x.t) x.i, 0)
  | _ => if G.object x true ≠ 0 then ((0, 0), G.object x true) else (at? (G.node (at? (G.held x.t) x.i).2) x.f, 0)
end Gr
def ValR (v : Vl × Int) (e : Ending) : Prop := e = .returned (.tuple #[.agg #[.int .i64 v.1.1, .int .i64 v.1.2], .int .i64 v.2])
section
variable {w : World} {g : Nat} {c : Cfg} {G : Gr} {tb tcap nb ncap : Nat} {hv nv : List Value}
set_option maxHeartbeats 1000000 in
theorem gvalue_4 (x : Stp) (hk : x.k = 4) (w : World) :
    Calls Try.prog 46 #[.pointer (some ⟨g, 0, none⟩), .agg x.cells] w fun e w' => ValR (G.value x 4) e ∧ Below w.heap.size w w' := by
  have B0 := Lib.hid (below_alloc0 w (.cells x.cells 39))
  obtain ⟨g0, g1, g2, g3, g4, g5, g6⟩ := stp_box w x
  rw [hk] at g0
  have g6A := fun o => cell_keep (below_alloc0 _ o) g6
  have g0A := fun o => cell_keep (below_alloc0 _ o) g0
  obtain ⟨b, hb⟩ : ∃ b, b = (decide (x.n < -1099511627776) || decide (1099511627775 < x.n)) := ⟨_, rfl⟩
  have HB := Lib.hid hb
  clear hb
  have hv : G.value x 4 = if b = true then ((0, 0), 4) else ((1, x.n), 0) := by rw [HB.out]; rfl
  rw [hv]
  clear hv g1 g2 g3 g4 g5
  cases b
  · go_enter Try.func46, Try.ntmps46
    go_wp2_with (first
      | (go_at_call 55; refine (gword_any x.n _).mono ?_; rw [← HB.out, show boolI false = 0 from rfl]; rintro e w5 ⟨rfl, hb5⟩; have A5 := Lib.hid (keep hb5 (th_at1 w _ _ _)); have C5 := Lib.hid (keep hb5 (th_at2 w _ _ _)); have B5 : Hid (Below w.heap.size w w5) := Lib.hid (below_next (by (repeat (first | exact B0.out | exact Below.refl _ _ | refine Below.drew ?_ | refine below_new ?_ _ | refine below_drewN ?_ _ | refine Below.setCell ?_ (by first | exact Nat.le_refl _ | (simp only [World.size_alloc]; omega)) _))) hb5); clear hb5; have c50 : w5.cell? ⟨w.heap.size + 1 + 1, 0, none⟩ = some (.int .i64 1) := cell_of_row _ _ _ _ _ _ C5.out; have c51 : w5.cell? ⟨w.heap.size + 1 + 1, 1, none⟩ = some (.int .i64 x.n) := cell_of_row _ _ _ _ _ _ C5.out)
      | (refine wpList_store_row rfl 57 _ _ rfl (w.heap.size + 1) (vcs (1, x.n)) rfl rfl 57 _ A5.out (by kernel_rfl) rfl (by kernel_rfl) ?_))
    exact bodyPost_ret (results_row_tmp (p := 4) (u := 5) rfl _ _ (w.heap.size + 1) 57 (vcs (1, x.n)) _ _ rfl (heap_setRow_same _ A5.out) Try.underlying57 rfl (by kernel_rfl)) rfl
      ⟨rfl, below_setRow B5.out (by omega) _⟩
  · go_enter Try.func46, Try.ntmps46
    go_wp2_with (first
      | (go_at_call 55; refine (gword_any x.n _).mono ?_; rw [← HB.out, show boolI true = 4 from rfl]; rintro e w5 ⟨rfl, hb5⟩; have A5 := Lib.hid (keep hb5 (th_at1 w _ _ _)); have C5 := Lib.hid (keep hb5 (th_at2 w _ _ _)); have B5 : Hid (Below w.heap.size w w5) := Lib.hid (below_next (by (repeat (first | exact B0.out | exact Below.refl _ _ | refine Below.drew ?_ | refine below_new ?_ _ | refine below_drewN ?_ _ | refine Below.setCell ?_ (by first | exact Nat.le_refl _ | (simp only [World.size_alloc]; omega)) _))) hb5); clear hb5; have c50 : w5.cell? ⟨w.heap.size + 1 + 1, 0, none⟩ = some (.int .i64 1) := cell_of_row _ _ _ _ _ _ C5.out; have c51 : w5.cell? ⟨w.heap.size + 1 + 1, 1, none⟩ = some (.int .i64 x.n) := cell_of_row _ _ _ _ _ _ C5.out)
      | (refine wpList_store_row rfl 57 _ _ rfl (w.heap.size + 1) (vcs (0, 0)) rfl rfl 57 _ A5.out (by kernel_rfl) rfl (by kernel_rfl) ?_))
    exact bodyPost_ret (results_row_tmp (p := 4) (u := 5) rfl _ _ (w.heap.size + 1) 57 (vcs (0, 0)) _ _ rfl (heap_setRow_same _ A5.out) Try.underlying57 rfl (by kernel_rfl)) rfl
      ⟨rfl, below_setRow B5.out (by omega) _⟩
set_option maxHeartbeats 1000000 in
theorem gvalue_5 (x : Stp) (hk : x.k = 5) (w : World) :
    Calls Try.prog 46 #[.pointer (some ⟨g, 0, none⟩), .agg x.cells] w fun e w' => ValR (G.value x 5) e ∧ Below w.heap.size w w' := by
  have B0 := Lib.hid (below_alloc0 w (.cells x.cells 39))
  obtain ⟨g0, g1, g2, g3, g4, g5, g6⟩ := stp_box w x
  rw [hk] at g0
  have g0A := fun o => cell_keep (below_alloc0 _ o) g0
  have g0B := fun o o' => cell_keep (below_alloc0 _ o') (g0A o)
  clear g1 g2 g3 g4 g5 g6
  rw [show G.value x 5 = ((0, 0), 0) from rfl]
  have A5 := fun a b c => Lib.hid (th_at1 w a b c)
  have B5 := fun a b c => Lib.hid (below_new (below_new (below_alloc0 w a) b) c)
  go_enter Try.func46, Try.ntmps46
  go_wp2_with (refine wpList_store_row rfl 57 _ _ rfl (w.heap.size + 1) (vcs (0, 0)) rfl rfl 57 _ (A5 _ _ _).out (by kernel_rfl) rfl (by kernel_rfl) ?_)
  exact bodyPost_ret (results_row_tmp (p := 4) (u := 5) rfl _ _ (w.heap.size + 1) 57 (vcs (0, 0)) _ _ rfl (heap_setRow_same _ (A5 _ _ _).out) Try.underlying57 rfl (by kernel_rfl)) rfl
    ⟨rfl, below_setRow (g := w.heap.size + 1) (B5 _ _ _).out (by omega) _⟩
set_option maxHeartbeats 1000000 in
theorem gvalue_6 (x : Stp) (hk : x.k = 6) (w : World) :
    Calls Try.prog 46 #[.pointer (some ⟨g, 0, none⟩), .agg x.cells] w fun e w' => ValR (G.value x 6) e ∧ Below w.heap.size w w' := by
  have B0 := Lib.hid (below_alloc0 w (.cells x.cells 39))
  obtain ⟨g0, g1, g2, g3, g4, g5, g6⟩ := stp_box w x
  rw [hk] at g0
  have g0A := fun o => cell_keep (below_alloc0 _ o) g0
  have g0B := fun o o' => cell_keep (below_alloc0 _ o') (g0A o)
  clear g1 g2 g3 g4 g5 g6
  rw [show G.value x 6 = ((2, 0), 0) from rfl]
  have A5 := fun a b c => Lib.hid (th_at1 w a b c)
  have B5 := fun a b c => Lib.hid (below_new (below_new (below_alloc0 w a) b) c)
  go_enter Try.func46, Try.ntmps46
  go_wp2_with (refine wpList_store_row rfl 57 _ _ rfl (w.heap.size + 1) (vcs (2, 0)) rfl rfl 57 _ (A5 _ _ _).out (by kernel_rfl) rfl (by kernel_rfl) ?_)
  exact bodyPost_ret (results_row_tmp (p := 4) (u := 5) rfl _ _ (w.heap.size + 1) 57 (vcs (2, 0)) _ _ rfl (heap_setRow_same _ (A5 _ _ _).out) Try.underlying57 rfl (by kernel_rfl)) rfl
    ⟨rfl, below_setRow (g := w.heap.size + 1) (B5 _ _ _).out (by omega) _⟩
/-- A variable at hand is written. -/
theorem afterSet {w w5 : World} (u : Vl) (A5 : w5.heap[w.heap.size + 1]? = some (.cells #[.int .i64 0, .int .i64 0] 57 (0, 0))) (C5 : w5.heap[w.heap.size + 1 + 1]? = some (.cells #[.int .i64 0, .int .i64 0] 57 (0, 0))) (B5 : Below w.heap.size w w5) :
    (w5.setRow (w.heap.size + 1 + 1) (vcs u)).cell? ⟨w.heap.size + 1 + 1, 0, none⟩ = some (.int .i64 u.1) ∧ (w5.setRow (w.heap.size + 1 + 1) (vcs u)).cell? ⟨w.heap.size + 1 + 1, 1, none⟩ = some (.int .i64 u.2) ∧
    Hid ((w5.setRow (w.heap.size + 1 + 1) (vcs u)).heap[w.heap.size + 1]? = some (.cells #[.int .i64 0, .int .i64 0] 57 (0, 0))) ∧ Hid (Below w.heap.size w (w5.setRow (w.heap.size + 1 + 1) (vcs u))) := by
  have C6 := heap_setRow_same (vcs u) C5
  exact ⟨cell_of_row _ _ _ _ _ _ C6, cell_of_row _ _ _ _ _ _ C6, Lib.hid ((heap_setRow_other _ _ _ _ (by omega)).trans A5), Lib.hid (below_setRow (g := w.heap.size + 1 + 1) B5 (by omega) _)⟩
set_option maxHeartbeats 2000000 in
set_option maxRecDepth 100000 in
theorem gvalue_7 (h : Gx 60 72 w g c G tb tcap nb ncap hv nv) (x : Stp) (hk : x.k = 7) (t : Nat) (ht : x.t = (t : Int)) (hlt : t < G.thr.length) (hi : 0 ≤ x.i) :
    Calls Try.prog 46 #[.pointer (some ⟨g, 0, none⟩), .agg x.cells] w fun e w' => ValR (G.value x 7) e ∧ Below w.heap.size w w' := by
  have B0 := Lib.hid (below_alloc0 w (.cells x.cells 39))
  obtain ⟨g0, g1, g2, g3, g4, g5, g6⟩ := stp_box w x
  rw [hk] at g0
  rw [ht] at g1
  have g0A := fun o => cell_keep (below_alloc0 _ o) g0
  have g0B := fun o o' => cell_keep (below_alloc0 _ o') (g0A o)
  have i1 : (0 : Int) ≤ (t : Int) := by omega
  have i2 : (t : Int) < (G.thr.length : Int) := by omega
  obtain ⟨u, hu⟩ : ∃ u, u = getv (G.thr.getD t Th.none).held x.i := ⟨_, rfl⟩
  have hth : G.held x.t = (G.thr.getD t Th.none).held := by rw [ht]; rfl
  have hv : G.value x 7 = (u.1, if u.2 then 0 else 4) := by
    show (if ((G.held x.t).length : Int) ≤ x.i then ((0, 0), 4) else (Gr.at? (G.held x.t) x.i, 0)) = _
    rw [hth]
    by_cases ho : ((G.thr.getD t Th.none).held.length : Int) ≤ x.i
    · rw [if_pos ho, hu, getv_out ho]; rfl
    · rw [if_neg ho, hu, getv_in hi (by omega)]; rfl
  rw [hv]
  have HZ : Hid (u.2 = false → u.1 = (0, 0)) := Lib.hid fun h2 => by
    by_cases ho : ((G.thr.getD t Th.none).held.length : Int) ≤ x.i
    · rw [hu, getv_out ho]
    · rw [hu, getv_in hi (by omega)] at h2; cases h2
  have HG := Lib.hid h
  have HU := Lib.hid hu
  clear hu hth hv g3 g4 g5 g6 h ht
  have W2 : Hid (∀ a b, Below w.heap.size w (((w.alloc (.cells x.cells 39)).alloc a).alloc b)) := Lib.hid fun a b => below_new (below_new B0.out a) b
  obtain ⟨-, q10, -⟩ := (HG.out.below (W2.out (.cells #[.int .i64 0, .int .i64 0] 57) (.cells #[.int .i64 0, .int .i64 0] 57))).head
  have q10A := (HG.out.below B0.out).head.2.1
  have g1B := cell_keep (below_alloc0 _ (.cells #[.int .i64 0, .int .i64 0] 57)) (cell_keep (below_alloc0 _ (.cells #[.int .i64 0, .int .i64 0] 57)) g1)
  have g2B := cell_keep (below_alloc0 _ (.cells #[.int .i64 0, .int .i64 0] 57)) (cell_keep (below_alloc0 _ (.cells #[.int .i64 0, .int .i64 0] 57)) g2)
  have B3 := Lib.hid (W2.out (.cells #[.int .i64 0, .int .i64 0] 57) (.cells #[.int .i64 0, .int .i64 0] 57))
  have A3 := Lib.hid (th_at1 w (.cells x.cells 39) (.cells #[.int .i64 0, .int .i64 0] 57) (.cells #[.int .i64 0, .int .i64 0] 57))
  have C3 := Lib.hid (th_at2 w (.cells x.cells 39) (.cells #[.int .i64 0, .int .i64 0] 57) (.cells #[.int .i64 0, .int .i64 0] 57))
  go_enter Try.func46, Try.ntmps46
  go_wp2_with fail
  go_region_held3 (fun w' => w'.cell? ⟨g, 10, none⟩ = some (.slice (some ⟨tb, 0, none⟩) G.thr.length tcap) ∧ w'.cell? ⟨w.heap.size, 1, none⟩ = some (.int .i64 (t : Int)) ∧ w'.cell? ⟨w.heap.size, 2, none⟩ = some (.int .i64 x.i))
    (first
      | exact ⟨q10, g1B, g2B⟩
      | exact ⟨cell_keep (by (repeat (first | exact (Below.refl _ _) | exact Below.refl _ _ | refine Below.drew ?_ | refine below_new ?_ _ | refine below_drewN ?_ _ | refine Below.setCell ?_ (by first | exact Nat.le_refl _ | (simp only [World.size_alloc]; omega)) _))) q10A, cell_keep (by (repeat (first | exact (Below.refl _ _) | exact Below.refl _ _ | refine Below.drew ?_ | refine below_new ?_ _ | refine below_drewN ?_ _ | refine Below.setCell ?_ (by first | exact Nat.le_refl _ | (simp only [World.size_alloc]; omega)) _))) g1, cell_keep (by (repeat (first | exact (Below.refl _ _) | exact Below.refl _ _ | refine Below.drew ?_ | refine below_new ?_ _ | refine below_drewN ?_ _ | refine Below.setCell ?_ (by first | exact Nat.le_refl _ | (simp only [World.size_alloc]; omega)) _))) g2⟩
      | (trace_state; fail))
    (first
      | (go_at_call 47; refine (gget_any _ _ _ _ (G.thr.getD t Th.none).held x.i _ (HG.out.hold hlt (by (repeat (first | exact B3.out | exact Below.refl _ _ | refine Below.drew ?_ | refine below_new ?_ _ | refine below_drewN ?_ _ | refine Below.setCell ?_ (by first | exact Nat.le_refl _ | (simp only [World.size_alloc]; omega)) _)))).1 (HG.out.hold hlt (by (repeat (first | exact B3.out | exact Below.refl _ _ | refine Below.drew ?_ | refine below_new ?_ _ | refine below_drewN ?_ _ | refine Below.setCell ?_ (by first | exact Nat.le_refl _ | (simp only [World.size_alloc]; omega)) _)))).2).mono ?_; rintro e w5 ⟨rfl, rfl⟩; rw [← HU.out]))
  all_goals
    obtain ⟨v, b⟩ := u
    cases b
    · have hz : v = (0, 0) := HZ.out rfl
      subst hz
      go_wp2_with fail
      exact bodyPost_ret (results_row_tmp (p := 4) (u := 5) rfl _ _ (w.heap.size + 1) 57 (vcs (0, 0)) _ _ rfl (keep_alloc _ (th_at1 w _ _ _)) Try.underlying57 rfl (by kernel_rfl)) rfl
        ⟨rfl, by (repeat (first | exact B0.out | exact Below.refl _ _ | refine Below.drew ?_ | refine below_new ?_ _ | refine below_drewN ?_ _ | refine Below.setCell ?_ (by first | exact Nat.le_refl _ | (simp only [World.size_alloc]; omega)) _))⟩
    · go_wp2_with fail
      exact bodyPost_ret (results_row_tmp (p := 4) (u := 5) rfl _ _ (w.heap.size + 1) 57 (vcs v) _ _ rfl (keep_alloc _ (th_at1 w _ _ _)) Try.underlying57 rfl (by kernel_rfl)) rfl
        ⟨rfl, by (repeat (first | exact B0.out | exact Below.refl _ _ | refine Below.drew ?_ | refine below_new ?_ _ | refine below_drewN ?_ _ | refine Below.setCell ?_ (by first | exact Nat.le_refl _ | (simp only [World.size_alloc]; omega)) _))⟩
theorem gfield_no (h : Gx 60 72 w g c G tb tcap nb ncap hv nv) (hg : G.Good) (x : Stp) (t : Nat) (ht : x.t = (t : Int)) (hlt : t < G.thr.length) (hi : 0 ≤ x.i) (hf : 0 ≤ x.f) (hc : G.object x true ≠ 0) :
    Calls Try.prog 48 #[.pointer (some ⟨g, 0, none⟩), .agg x.cells] w fun e w' => e = .returned (.tuple #[.pointer none, .int .i64 (G.object x true)]) ∧ Below w.heap.size w w' :=
  (gfield_any h hg x t ht hlt hi hf).mono fun e w' ⟨h1, h2⟩ => by
    rcases h1 with ⟨_, h1⟩ | ⟨h0, _⟩
    · exact ⟨h1, h2⟩
    · exact absurd h0 hc
theorem gfield_yes (h : Gx 60 72 w g c G tb tcap nb ncap hv nv) (hg : G.Good) (x : Stp) (t : Nat) (ht : x.t = (t : Int)) (hlt : t < G.thr.length) (hi : 0 ≤ x.i) (hf : 0 ≤ x.f) (hc : G.object x true = 0) :
    Calls Try.prog 48 #[.pointer (some ⟨g, 0, none⟩), .agg x.cells] w fun e w' => ∃ d, (∃ cap, nv.getD (Gr.at? (G.held x.t) x.i).2.toNat undef = .slice (some ⟨d, 0, none⟩) (G.node (Gr.at? (G.held x.t) x.i).2).length cap) ∧ e = .returned (.tuple #[.pointer (some ⟨d, x.f.toNat * 2, none⟩), .int .i64 0]) ∧ Below w.heap.size w w' :=
  (gfield_any h hg x t ht hlt hi hf).mono fun e w' ⟨h1, h2⟩ => by
    rcases h1 with ⟨h0, _⟩ | ⟨_, d, cap, hn, h1⟩
    · exact absurd hc h0
    · exact ⟨d, ⟨cap, hn⟩, h1, h2⟩
/-- What no error of an object says. -/
theorem object_zero {x : Stp} {t : Nat} (ht : x.t = (t : Int)) (hlt : t < G.thr.length) (hg : G.Good) (hi : 0 ≤ x.i) (h0 : G.object x true = 0) :
    x.i < ((G.held x.t).length : Int) ∧ (Gr.at? (G.held x.t) x.i).1 = 2 ∧ (0 ≤ (Gr.at? (G.held x.t) x.i).2 ∧ (Gr.at? (G.held x.t) x.i).2 < (G.nod.length : Int)) ∧ x.f < ((G.node (Gr.at? (G.held x.t) x.i).2).length : Int) := by
  unfold Gr.object at h0
  split at h0
  · exact absurd h0 (by decide)
  · split at h0
    · exact absurd h0 (by decide)
    · split at h0
      · exact absurd h0 (by decide)
      · rename_i h1 h2 h3
        have hk : (Gr.at? (G.held x.t) x.i).1 = 2 := by omega
        have hth : G.held x.t = (G.thr.getD t Th.none).held := by rw [ht]; rfl
        refine ⟨by omega, hk, ?_, ?_⟩
        · have := hg.held_ok hlt hi (by rw [← hth]; omega : x.i < ((G.thr.getD t Th.none).held.length : Int))
          rw [← hth] at this
          exact this.2 hk
        · rcases Int.lt_or_le x.f ((G.node (Gr.at? (G.held x.t) x.i).2).length : Int) with h' | h'
          · exact h'
          · exact absurd ⟨rfl, h'⟩ h3
theorem Gx.fieldCell (h : Gx 60 72 w g c G tb tcap nb ncap hv nv) (hg : G.Good) {x : Stp} {t : Nat} (ht : x.t = (t : Int)) (hlt : t < G.thr.length) (hi : 0 ≤ x.i) (hf : 0 ≤ x.f) (h0 : G.object x true = 0)
    {d : Nat} (hn : ∃ cap, nv.getD (Gr.at? (G.held x.t) x.i).2.toNat undef = .slice (some ⟨d, 0, none⟩) (G.node (Gr.at? (G.held x.t) x.i).2).length cap) {W' : World} (hb : Below w.heap.size w W') :
    W'.cell? ⟨d, x.f.toNat * 2, none⟩ = some (.int .i64 (Gr.at? (G.node (Gr.at? (G.held x.t) x.i).2) x.f).1) ∧ W'.cell? ⟨d, x.f.toNat * 2 + 1, none⟩ = some (.int .i64 (Gr.at? (G.node (Gr.at? (G.held x.t) x.i).2) x.f).2) := by
  obtain ⟨h1, h2, h3, h4⟩ := object_zero ht hlt hg hi h0
  obtain ⟨cap, hn⟩ := hn
  have hr := ((h.below hb).nodeRow (s := (Gr.at? (G.held x.t) x.i).2.toNat) (by omega)).2
  rw [hn] at hr
  exact own_val hr (j := x.f.toNat) (by
    have : G.node (Gr.at? (G.held x.t) x.i).2 = G.nod.getD (Gr.at? (G.held x.t) x.i).2.toNat [] := rfl
    rw [← this]; omega)
set_option maxHeartbeats 2000000 in
set_option maxRecDepth 100000 in
theorem gvalue_9 (h : Gx 60 72 w g c G tb tcap nb ncap hv nv) (hg : G.Good) (x : Stp) (hk : x.k = 9) (t : Nat) (ht : x.t = (t : Int)) (hlt : t < G.thr.length) (hi : 0 ≤ x.i) (hf : 0 ≤ x.f) :
    Calls Try.prog 46 #[.pointer (some ⟨g, 0, none⟩), .agg x.cells] w fun e w' => ValR (G.value x 9) e ∧ Below w.heap.size w w' := by
  have B0 := Lib.hid (below_alloc0 w (.cells x.cells 39))
  obtain ⟨g0, g1, g2, g3, g4, g5, g6⟩ := stp_box w x
  rw [hk] at g0
  have g0A := fun o => cell_keep (below_alloc0 _ o) g0
  have g0B := fun o o' => cell_keep (below_alloc0 _ o') (g0A o)
  have B3 : Hid (∀ a b, Below w.heap.size w (((w.alloc (.cells x.cells 39)).alloc a).alloc b)) := Lib.hid fun a b => below_new (below_new B0.out a) b
  have A3 : Hid (∀ b, (((w.alloc (.cells x.cells 39)).alloc (.cells #[.int .i64 0, .int .i64 0] 57)).alloc b).heap[w.heap.size + 1]? = some (.cells #[.int .i64 0, .int .i64 0] 57 (0, 0))) := Lib.hid fun b => th_at1 w _ _ b
  have C3 : Hid (∀ a, (((w.alloc (.cells x.cells 39)).alloc a).alloc (.cells #[.int .i64 0, .int .i64 0] 57)).heap[w.heap.size + 1 + 1]? = some (.cells #[.int .i64 0, .int .i64 0] 57 (0, 0))) := Lib.hid fun a => th_at2 w _ a _
  have S3 : Hid (∀ a b, (((w.alloc (.cells x.cells 39)).alloc a).alloc b).heap[w.heap.size]? = some (.cells x.cells 39 (0, 0))) := Lib.hid fun a b => keep_alloc b (keep_alloc a (heap_alloc_new w _))
  have HG := Lib.hid h
  have HGD := Lib.hid hg
  have HT := Lib.hid ht
  clear h hg ht g1 g2 g3 g4 g5 g6
  by_cases ho : G.object x true = 0
  · have hv : G.value x 9 = (Gr.at? (G.node (Gr.at? (G.held x.t) x.i).2) x.f, 0) := by
      show (if G.object x true ≠ 0 then _ else _) = _
      rw [if_neg (by omega)]
    rw [hv]
    have FC := Lib.hid fun (d : Nat) hn (W' : World) hb => HG.out.fieldCell HGD.out HT.out hlt hi hf ho (d := d) hn (W' := W') hb
    have HO := Lib.hid ho
    clear ho hv
    obtain ⟨u, hu⟩ : ∃ u, u = Gr.at? (G.node (Gr.at? (G.held x.t) x.i).2) x.f := ⟨_, rfl⟩
    rw [← hu] at FC ⊢
    clear hu
    go_enter Try.func46, Try.ntmps46
    go_wp2_with (first
      | (refine wpList_load_row rfl 39 _ rfl w.heap.size rfl 39 x.cells (0, 0) _ (S3.out _ _) Try.underlying39 rfl (by kernel_rfl) ?_)
      | (go_at_call 48; refine (gfield_yes (HG.out.below (B3.out _ _)) HGD.out x t HT.out hlt hi hf HO.out).mono ?_; rintro e w5 ⟨d, hn, rfl, hb5⟩; have B5 : Hid (Below w.heap.size w w5) := Lib.hid (below_next (B3.out _ _) hb5); have A5 := Lib.hid (keep hb5 (A3.out _)); have C5 := Lib.hid (keep hb5 (C3.out _)); clear hb5; obtain ⟨f0, f1⟩ := FC.out d hn w5 B5.out; obtain ⟨c60, c61, A6, B6⟩ := afterSet u A5.out C5.out B5.out)
      | (refine wpList_store_row rfl 57 _ _ rfl (w.heap.size + 1 + 1) (vcs u) rfl rfl 57 _ C5.out (by kernel_rfl) rfl (by kernel_rfl) ?_)
      | (refine wpList_store_row rfl 57 _ _ rfl (w.heap.size + 1) (vcs u) rfl rfl 57 _ A6.out (by kernel_rfl) rfl (by kernel_rfl) ?_))
    exact bodyPost_ret (results_row_tmp (p := 4) (u := 5) rfl _ _ (w.heap.size + 1) 57 (vcs u) _ _ rfl (heap_setRow_same _ A6.out) Try.underlying57 rfl (by kernel_rfl)) rfl
      ⟨rfl, below_setRow (g := w.heap.size + 1) B6.out (by omega) _⟩
  · have hv : G.value x 9 = ((0, 0), G.object x true) := by
      show (if G.object x true ≠ 0 then _ else _) = _
      rw [if_pos ho]
    rw [hv]
    have HO := Lib.hid ho
    obtain ⟨q, hq⟩ : ∃ q, q = G.object x true := ⟨_, rfl⟩
    have HQ := Lib.hid hq
    have dq : (q != 0) = true := by rw [hq]; simpa using ho
    rw [← hq]
    clear ho hv hq
    go_enter Try.func46, Try.ntmps46
    go_wp2_with (first
      | (refine wpList_load_row rfl 39 _ rfl w.heap.size rfl 39 x.cells (0, 0) _ (S3.out _ _) Try.underlying39 rfl (by kernel_rfl) ?_)
      | (go_at_call 48; refine (gfield_no (HG.out.below (B3.out _ _)) HGD.out x t HT.out hlt hi hf HO.out).mono ?_; rw [← HQ.out]; rintro e w5 ⟨rfl, hb5⟩; have B5 : Hid (Below w.heap.size w w5) := Lib.hid (below_next (B3.out _ _) hb5); have A5 := Lib.hid (keep hb5 (A3.out _)); clear hb5)
      | (refine wpList_store_row rfl 57 _ _ rfl (w.heap.size + 1) (vcs (0, 0)) rfl rfl 57 _ A5.out (by kernel_rfl) rfl (by kernel_rfl) ?_))
    exact bodyPost_ret (results_row_tmp (p := 4) (u := 5) rfl _ _ (w.heap.size + 1) 57 (vcs (0, 0)) _ _ rfl (heap_setRow_same _ A5.out) Try.underlying57 rfl (by kernel_rfl)) rfl
      ⟨rfl, below_setRow (g := w.heap.size + 1) B5.out (by omega) _⟩
end
/- The graph's push, write. -/
/-- What a step comes to. -/
def DoR (w w' : World) (g : Nat) (c : Cfg) (r : Ans × Gr) (fp : List Nat) (e : Ending) : Prop :=
  e = .returned (.agg r.1.cells) ∧ GTo 60 72 w w' g c r.2 fp
theorem GTo.frm {GT TT : TypeId} {w w' : World} {g : Nat} {c : Cfg} {G' : Gr} {fp : List Nat} (h : GTo GT TT w w' g c G' fp) : Frm fp w w' := by
  obtain ⟨_, _, _, _, _, _, _, fr, _⟩ := h
  exact fr
theorem GTo.same {GT TT : TypeId} {w w' : World} {g : Nat} {c : Cfg} {G : Gr} {tb tcap nb ncap : Nat} {hv nv : List Value} (h : Gx GT TT w g c G tb tcap nb ncap hv nv) (hb : Below w.heap.size w w') : GTo GT TT w w' g c G (fpOf g tb nb hv nv) :=
  ⟨tb, tcap, nb, ncap, hv, nv, h.below hb, Frm.of_below _ hb, fresh_sub fun _ h => h⟩
/-- A block that is not the structure's stands. -/
theorem Frm.keep {fp : List Nat} {w wm w6 : World} (h : Frm fp wm w6) (hfp : ∀ k ∈ fp, k < w.heap.size) {K : Nat} (hK : w.heap.size ≤ K) {o : Obj} (ho : wm.heap[K]? = some o) : w6.heap[K]? = some o :=
  (h.block K (heap_lt ho) (fun hm => by have := hfp K hm; omega)).trans ho
section
variable {w : World} {g : Nat} {c : Cfg} {G : Gr} {tb tcap nb ncap : Nat} {hv nv : List Value}
def pushes (k : Int) : Prop := k = 4 ∨ k = 5 ∨ k = 6 ∨ k = 7 ∨ k = 9
theorem gvalue_any (h : Gx 60 72 w g c G tb tcap nb ncap hv nv) (hg : G.Good) (x : Stp) (hk : pushes x.k) (t : Nat) (ht : x.t = (t : Int)) (hlt : t < G.thr.length) (hi : 0 ≤ x.i) (hf : 0 ≤ x.f) :
    Calls Try.prog 46 #[.pointer (some ⟨g, 0, none⟩), .agg x.cells] w fun e w' => ValR (G.value x x.k.toNat) e ∧ Below w.heap.size w w' := by
  rcases hk with hk | hk | hk | hk | hk
  · rw [show x.k.toNat = 4 by omega]; exact gvalue_4 x hk w
  · rw [show x.k.toNat = 5 by omega]; exact gvalue_5 x hk w
  · rw [show x.k.toNat = 6 by omega]; exact gvalue_6 x hk w
  · rw [show x.k.toNat = 7 by omega]; exact gvalue_7 h x hk t ht hlt hi
  · rw [show x.k.toNat = 9 by omega]; exact gvalue_9 h hg x hk t ht hlt hi hf
theorem ghold_full (h : Gx 60 72 w g c G tb tcap nb ncap hv nv) (t : Nat) (hlt : t < G.thr.length) (v : Vl) (hf : 16 ≤ (G.held (t : Int)).length) :
    Calls Try.prog 45 #[.pointer (some ⟨tb, t * 2 + 1, none⟩), .agg #[.int .i64 v.1, .int .i64 v.2]] w fun e w' => e = .returned (.bool false) ∧ Below w.heap.size w w' :=
  (ghold_any h t hlt v).mono fun e w' h1 => by
    rcases h1 with ⟨_, h2⟩ | ⟨h2, _⟩
    · exact h2
    · omega
theorem ghold_room (h : Gx 60 72 w g c G tb tcap nb ncap hv nv) (t : Nat) (hlt : t < G.thr.length) (v : Vl) (hf : (G.held (t : Int)).length < 16) :
    Calls Try.prog 45 #[.pointer (some ⟨tb, t * 2 + 1, none⟩), .agg #[.int .i64 v.1, .int .i64 v.2]] w fun e w' => e = .returned (.bool true) ∧ GTo 60 72 w w' g c (G.hold (t : Int) v) (fpOf g tb nb hv nv) :=
  (ghold_any h t hlt v).mono fun e w' h1 => by
    rcases h1 with ⟨h2, _⟩ | ⟨_, h2⟩
    · omega
    · exact h2
def pushR (G : Gr) (t : Int) (v : Vl × Int) : Ans × Gr := if v.2 ≠ 0 then (Gr.err v.2, G) else G.push t v.1
set_option maxHeartbeats 4000000 in
set_option maxRecDepth 100000 in
theorem gpush_any (h : Gx 60 72 w g c G tb tcap nb ncap hv nv) (hg : G.Good) (x : Stp) (hk : pushes x.k) (t : Nat) (ht : x.t = (t : Int)) (hlt : t < G.thr.length) (hi : 0 ≤ x.i) (hf : 0 ≤ x.f) :
    Calls Try.prog 28 #[.pointer (some ⟨g, 0, none⟩), .agg x.cells] w fun e w' => DoR w w' g c (pushR G (t : Int) (G.value x x.k.toNat)) (fpOf g tb nb hv nv) e := by
  have B2 : Hid (∀ a, Below w.heap.size w ((w.alloc (.cells x.cells 39)).alloc a)) := Lib.hid fun a => below_new (below_alloc0 w _) a
  have S2 : Hid (∀ a, ((w.alloc (.cells x.cells 39)).alloc a).heap[w.heap.size]? = some (.cells x.cells 39 (0, 0))) := Lib.hid fun a => keep_alloc a (heap_alloc_new w _)
  have A2 : Hid (((w.alloc (.cells x.cells 39)).alloc (.cells #[.int .i64 0, .int .i64 0, .int .i64 0, .int .i64 0, .int .i64 0] 36)).heap[w.heap.size + 1]? = some (.cells #[.int .i64 0, .int .i64 0, .int .i64 0, .int .i64 0, .int .i64 0] 36 (0, 0))) := Lib.hid (heap_two w _ _)
  have HV := Lib.hid fun (W : World) (hb : Below w.heap.size w W) => gvalue_any (h.below hb) hg x hk t ht hlt hi hf
  obtain ⟨v, hv'⟩ : ∃ v, v = G.value x x.k.toNat := ⟨_, rfl⟩
  rw [← hv'] at HV ⊢
  have HG := Lib.hid h
  have HT := Lib.hid ht
  clear h hg hk ht hi hf hv'
  obtain ⟨u, q⟩ := v
  by_cases hq : q = 0
  · subst hq
    have i1 : (0 : Int) ≤ (t : Int) := by omega
    have i2 : (t : Int) < (G.thr.length : Int) := by omega
    go_enter Try.func28, Try.ntmps28
    go_wp2_with (first
      | (refine wpList_load_row rfl 39 _ rfl w.heap.size rfl 39 x.cells (0, 0) _ (S2.out _) Try.underlying39 rfl (by kernel_rfl) ?_)
      | (go_at_call 46; refine (HV.out _ (B2.out _)).mono ?_; rintro e w5 ⟨rfl, hb5⟩; have B5 : Hid (Below w.heap.size w w5) := Lib.hid (below_next (B2.out _) hb5); have A5 := Lib.hid (keep hb5 A2.out); have S5 := Lib.hid (keep hb5 (S2.out _)); clear hb5))
    have e0 : (w5.alloc (.cells #[.int .i64 u.1, .int .i64 u.2] 57)).heap[w5.heap.size]? = some (.cells #[.int .i64 u.1, .int .i64 u.2] 57 (0, 0)) := heap_alloc_new _ _
    have HK5 : Hid (w.heap.size + 1 < w5.heap.size) := Lib.hid (heap_lt A5.out)
    have A6 := Lib.hid (keep_alloc (.cells #[.int .i64 u.1, .int .i64 u.2] 57) A5.out)
    have S6 := Lib.hid (keep_alloc (.cells #[.int .i64 u.1, .int .i64 u.2] 57) S5.out)
    have B6 := Lib.hid (below_new B5.out (.cells #[.int .i64 u.1, .int .i64 u.2] 57))
    have E6 := Lib.hid e0
    clear e0
    generalize hw6 : w5.alloc (.cells #[.int .i64 u.1, .int .i64 u.2] 57) = W6 at *
    clear hw6
    have hG6 := HG.out.below B6.out
    obtain ⟨-, q10, -⟩ := hG6.head
    have s1 : W6.cell? ⟨w.heap.size, 1, none⟩ = some (.int .i64 x.t) := cell_of_row _ _ _ _ _ _ S6.out
    rw [HT.out] at s1
    have u0 : W6.cell? ⟨w5.heap.size, 0, none⟩ = some (.int .i64 u.1) := cell_of_row _ _ _ _ _ _ E6.out
    have u1 : W6.cell? ⟨w5.heap.size, 1, none⟩ = some (.int .i64 u.2) := cell_of_row _ _ _ _ _ _ E6.out
    have HG6 := Lib.hid hG6
    clear hG6
    refine region_tail 9 (by kernel_rfl) (by kernel_rfl) ?_
    simp only [List.take_succ_cons, List.take_zero, List.drop_succ_cons, List.drop_zero]
    repeat still_step
    refine wpStill_nil ?_
    by_cases hf : 16 ≤ (G.held (t : Int)).length
    · have hr : pushR G (t : Int) (u, 0) = (Gr.err 3, G) := by unfold pushR; rw [if_neg (by simp)]; unfold Gr.push; rw [if_pos hf]
      have HR := Lib.hid hr
      have HF := Lib.hid hf
      clear hf hr
      go_wp2_with (first
        | (go_at_call 45; refine (ghold_full (HG6.out.below (Below.refl _ _).drew) t hlt u HF.out).mono ?_; rintro e w7 ⟨rfl, hb7⟩; have B7 : Hid (Below w.heap.size w w7) := Lib.hid (below_next B6.out.drew hb7); have A7 := Lib.hid (keep hb7 A6.out); clear hb7)
        | (go_at_call 24; refine (gfail_any 3 _).mono ?_; rintro e w8 ⟨rfl, hb8⟩; have B8 : Hid (Below w.heap.size w w8) := Lib.hid (below_next B7.out hb8); have A8 := Lib.hid (keep hb8 A7.out); clear hb8)
        | (refine wpList_store_row rfl 36 _ _ rfl (w.heap.size + 1) (Gr.err 3).cells rfl rfl 36 _ A8.out (by kernel_rfl) rfl (by kernel_rfl) ?_))
      exact bodyPost_ret (v := .agg (Gr.err 3).cells) (results_cell_row rfl _ _ (w.heap.size + 1) 36 (Gr.err 3).cells _ _ rfl (heap_setRow_same _ A8.out) Try.underlying36 rfl (by kernel_rfl)) rfl
        (by rw [HR.out]; exact ⟨rfl, GTo.same HG.out (below_setRow (g := w.heap.size + 1) B8.out (by omega) _)⟩)
    · have hr : pushR G (t : Int) (u, 0) = (Gr.told u, G.hold (t : Int) u) := by unfold pushR; rw [if_neg (by simp)]; unfold Gr.push; rw [if_neg hf]
      have HR := Lib.hid hr
      have HF : Hid ((G.held (t : Int)).length < 16) := Lib.hid (by omega)
      have HFP := Lib.hid HG.out.lt
      clear hf hr
      go_wp2_with (first
        | (go_at_call 45; refine (ghold_room (HG6.out.below (Below.refl _ _).drew) t hlt u HF.out).mono ?_; rintro e w7 ⟨rfl, h7⟩; have A7 := Lib.hid (h7.frm.keep HFP.out (by omega) A6.out); have E7 := Lib.hid (h7.frm.keep HFP.out (by have := HK5.out; omega) E6.out); have H7 := Lib.hid h7; clear h7; have z0 : w7.cell? ⟨w5.heap.size, 0, none⟩ = some (.int .i64 u.1) := cell_of_row _ _ _ _ _ _ E7.out; have z1 : w7.cell? ⟨w5.heap.size, 1, none⟩ = some (.int .i64 u.2) := cell_of_row _ _ _ _ _ _ E7.out)
        | (go_at_call 30; refine (gtold_any u _).mono ?_; rintro e w8 ⟨rfl, hb8⟩; have A8 := Lib.hid (keep hb8 A7.out); have B8 := Lib.hid hb8; clear hb8)
        | (refine wpList_store_row rfl 36 _ _ rfl (w.heap.size + 1) (Gr.told u).cells rfl rfl 36 _ A8.out (by kernel_rfl) rfl (by kernel_rfl) ?_))
      exact bodyPost_ret (v := .agg (Gr.told u).cells) (results_cell_row rfl _ _ (w.heap.size + 1) 36 (Gr.told u).cells _ _ rfl (heap_setRow_same _ A8.out) Try.underlying36 rfl (by kernel_rfl)) rfl
        (by rw [HR.out]; exact ⟨rfl, H7.out.wrap B6.out.drew HFP.out (K := w.heap.size + 1) (by omega) (heap_lt A6.out) ((Frm.of_below [w.heap.size + 1] B8.out).trans (Frm.setRow (fp := [w.heap.size + 1]) _ (List.mem_singleton.2 rfl) _) (fresh_sub fun _ h => h))⟩)
  · have dq : (q != 0) = true := by simpa using hq
    have hr : pushR G (t : Int) (u, q) = (Gr.err q, G) := by unfold pushR; rw [if_pos hq]
    rw [hr]
    clear hr hq
    go_enter Try.func28, Try.ntmps28
    go_wp2_with (first
      | (refine wpList_load_row rfl 39 _ rfl w.heap.size rfl 39 x.cells (0, 0) _ (S2.out _) Try.underlying39 rfl (by kernel_rfl) ?_)
      | (go_at_call 46; refine (HV.out _ (B2.out _)).mono ?_; rintro e w5 ⟨rfl, hb5⟩; have B5 : Hid (Below w.heap.size w w5) := Lib.hid (below_next (B2.out _) hb5); have A5 := Lib.hid (keep hb5 A2.out); clear hb5)
      | (go_at_call 24; refine (gfail_any q _).mono ?_; rintro e w6 ⟨rfl, hb6⟩; have B6 : Hid (Below w.heap.size w w6) := Lib.hid (below_next (below_new B5.out _) hb6); have A6 := Lib.hid (keep hb6 (keep_alloc _ A5.out)); clear hb6)
      | (refine wpList_store_row rfl 36 _ _ rfl (w.heap.size + 1) (Gr.err q).cells rfl rfl 36 _ A6.out (by kernel_rfl) rfl (by kernel_rfl) ?_))
    exact bodyPost_ret (v := .agg (Gr.err q).cells) (results_cell_row rfl _ _ (w.heap.size + 1) 36 (Gr.err q).cells _ _ rfl (heap_setRow_same _ A6.out) Try.underlying36 rfl (by kernel_rfl)) rfl
      ⟨rfl, GTo.same HG.out (below_setRow (g := w.heap.size + 1) B6.out (by omega) _)⟩
end
/- The graph's write. -/
abbrev zAns : Array Value := #[.int .i64 0, .int .i64 0, .int .i64 0, .int .i64 0, .int .i64 0]
section
variable {w : World} {g : Nat} {c : Cfg} {G : Gr} {tb tcap nb ncap : Nat} {hv nv : List Value}
/-- A field's cells may be written. -/
theorem Gx.fieldThere (h : Gx 60 72 w g c G tb tcap nb ncap hv nv) {s f d cap : Nat} (hs : s < G.nod.length) (hf : f < (G.nod.getD s []).length) (hd : nv.getD s undef = .slice (some ⟨d, 0, none⟩) (G.nod.getD s []).length cap) :
    (w.cell? ⟨d, f * 2, none⟩ = some (.int .i64 ((G.nod.getD s []).getD f (0, 0)).1) ∧ w.cell? ⟨d, f * 2 + 1, none⟩ = some (.int .i64 ((G.nod.getD s []).getD f (0, 0)).2)) ∧ w.frozen? ⟨d, f * 2, none⟩ = false ∧ w.frozen? ⟨d, f * 2 + 1, none⟩ = false := by
  have hr := (h.nodeRow hs).2
  rw [hd] at hr
  exact ⟨own_val hr hf, hr.frozenAt _, hr.frozenAt _⟩
set_option maxHeartbeats 4000000 in
set_option maxRecDepth 100000 in
theorem gwrite_any (h : Gx 60 72 w g c G tb tcap nb ncap hv nv) (hg : G.Good) (x : Stp) (q no : Int) (t : Nat) (ht : x.t = (t : Int)) (hlt : t < G.thr.length) (hi : 0 ≤ x.i) (hf : 0 ≤ x.f) (hj : 0 ≤ x.j) :
    Calls Try.prog 31 #[.pointer (some ⟨g, 0, none⟩), .agg x.cells] w fun e w' => DoR w w' g c (G.kind q x no 10) (fpOf g tb nb hv nv) e := by
  have B2 := Lib.hid (below_new (below_alloc0 w (.cells x.cells 39)) (.cells zAns 36))
  have S2 := Lib.hid (keep_alloc (.cells zAns 36) (heap_alloc_new w (.cells x.cells 39)))
  have A2 := Lib.hid (heap_two w (.cells x.cells 39) (.cells zAns 36))
  have HG := Lib.hid h
  have HGD := Lib.hid hg
  have HT := Lib.hid ht
  have HFP := Lib.hid h.lt
  by_cases ho : G.object x true = 0
  · obtain ⟨o1, o2, ⟨o3, o4⟩, o5⟩ := object_zero ht hlt hg hi ho
    have HO := Lib.hid ho
    have i1 : (0 : Int) ≤ (t : Int) := by omega
    have i2 : (t : Int) < (G.thr.length : Int) := by omega
    have HTH : Hid (G.held x.t = (G.thr.getD t Th.none).held) := Lib.hid (by rw [ht]; rfl)
    obtain ⟨u, hu⟩ : ∃ u, u = getv (G.thr.getD t Th.none).held x.j := ⟨_, rfl⟩
    have HU := Lib.hid hu
    have O5 := Lib.hid (And.intro o3 (And.intro o4 o5))
    clear h hg ht ho o1 o2 o3 o4 o5 hu
    go_enter Try.func31, Try.ntmps31
    go_wp2_with (first
      | (refine wpList_load_row rfl 39 _ rfl w.heap.size rfl 39 x.cells (0, 0) _ S2.out Try.underlying39 rfl (by kernel_rfl) ?_)
      | (go_at_call 48; refine (gfield_yes (HG.out.below B2.out) HGD.out x t HT.out hlt hi hf HO.out).mono ?_; rintro e w5 ⟨d, hn, rfl, hb5⟩; have B5 : Hid (Below w.heap.size w w5) := Lib.hid (below_next B2.out hb5); have A5 := Lib.hid (keep hb5 A2.out); have S5 := Lib.hid (keep hb5 S2.out); clear hb5; have HN := Lib.hid hn; clear hn))
    have S6 := S5.out
    have s1 : w5.cell? ⟨w.heap.size, 1, none⟩ = some (.int .i64 x.t) := cell_of_row _ _ _ _ _ _ S6
    have s4 : w5.cell? ⟨w.heap.size, 4, none⟩ = some (.int .i64 x.j) := cell_of_row _ _ _ _ _ _ S6
    rw [HT.out] at s1
    obtain ⟨-, q10, -⟩ := (HG.out.below B5.out).head
    clear S6
    go_cut [7, 8] from 9 (fun p v wc => ∃ Q, p = .pointer (some ⟨Q, 0, none⟩) ∧ v = .bool u.2 ∧ Hid (wc.heap[Q]? = some (.cells #[.int .i64 u.1.1, .int .i64 u.1.2] 57 (0, 0))) ∧ Hid (Below w5.heap.size w5 wc))
    case first =>
      go_region_held3 (fun w' => w'.cell? ⟨g, 10, none⟩ = some (.slice (some ⟨tb, 0, none⟩) G.thr.length tcap) ∧ w'.cell? ⟨w.heap.size, 1, none⟩ = some (.int .i64 (t : Int)) ∧ w'.cell? ⟨w.heap.size, 4, none⟩ = some (.int .i64 x.j))
        (first
          | exact ⟨q10, s1, s4⟩
          | exact ⟨cell_keep (by (repeat (first | exact (Below.refl _ _) | exact Below.refl _ _ | refine Below.drew ?_ | refine below_new ?_ _ | refine below_drewN ?_ _ | refine Below.setCell ?_ (by first | exact Nat.le_refl _ | (simp only [World.size_alloc]; omega)) _))) q10, cell_keep (by (repeat (first | exact (Below.refl _ _) | exact Below.refl _ _ | refine Below.drew ?_ | refine below_new ?_ _ | refine below_drewN ?_ _ | refine Below.setCell ?_ (by first | exact Nat.le_refl _ | (simp only [World.size_alloc]; omega)) _))) s1, cell_keep (by (repeat (first | exact (Below.refl _ _) | exact Below.refl _ _ | refine Below.drew ?_ | refine below_new ?_ _ | refine below_drewN ?_ _ | refine Below.setCell ?_ (by first | exact Nat.le_refl _ | (simp only [World.size_alloc]; omega)) _))) s4⟩)
        (first
          | (go_at_call 47; refine (gget_any _ _ _ _ (G.thr.getD t Th.none).held x.j _ (HG.out.hold hlt (by (repeat (first | exact B5.out | exact Below.refl _ _ | refine Below.drew ?_ | refine below_new ?_ _ | refine below_drewN ?_ _ | refine Below.setCell ?_ (by first | exact Nat.le_refl _ | (simp only [World.size_alloc]; omega)) _)))).1 (HG.out.hold hlt (by (repeat (first | exact B5.out | exact Below.refl _ _ | refine Below.drew ?_ | refine below_new ?_ _ | refine below_drewN ?_ _ | refine Below.setCell ?_ (by first | exact Nat.le_refl _ | (simp only [World.size_alloc]; omega)) _)))).2).mono ?_; rintro e w5 ⟨rfl, rfl⟩; rw [← HU.out]))
      all_goals
        go_wp2_with fail
        go_meet
        first
          | exact ⟨_, rfl, rfl, Lib.hid (heap_two _ _ _), Lib.hid (by (repeat (first | exact (Below.refl _ _) | exact Below.refl _ _ | refine Below.drew ?_ | refine below_new ?_ _ | refine below_drewN ?_ _ | refine Below.setCell ?_ (by first | exact Nat.le_refl _ | (simp only [World.size_alloc]; omega)) _)))⟩
          | exact ⟨_, rfl, rfl, Lib.hid (keep_alloc _ (heap_alloc_new _ _)), Lib.hid (by (repeat (first | exact (Below.refl _ _) | exact Below.refl _ _ | refine Below.drew ?_ | refine below_new ?_ _ | refine below_drewN ?_ _ | refine Below.setCell ?_ (by first | exact Nat.le_refl _ | (simp only [World.size_alloc]; omega)) _)))⟩
    case rest =>
      obtain ⟨Q, rfl, rfl, HQ, HB⟩ := hcut
      have B6 := Lib.hid (below_next B5.out HB.out)
      have A6 := Lib.hid (keep HB.out A5.out)
      have hQ := HQ.out
      clear s1 s4 q10
      by_cases ho : ((G.held x.t).length : Int) ≤ x.j
      · have hr : G.kind q x no 10 = (Gr.err 4, G) := by
          show (if G.object x true ≠ 0 then _ else if ((G.held x.t).length : Int) ≤ x.j then _ else _) = _
          rw [if_neg (by have := HO.out; omega), if_pos ho]
        have hu := HU.out
        rw [HTH.out] at ho
        rw [getv_out ho] at hu
        subst hu
        have HR := Lib.hid hr
        clear hr ho hQ
        go_wp2_with (first
          | (go_at_call 24; refine (gfail_any 4 _).mono ?_; rintro e w8 ⟨rfl, hb8⟩; have B8 : Hid (Below w.heap.size w w8) := Lib.hid (below_next B6.out hb8); have A8 := Lib.hid (keep hb8 A6.out); clear hb8)
          | (refine wpList_store_row rfl 36 _ _ rfl (w.heap.size + 1) (Gr.err 4).cells rfl rfl 36 _ A8.out (by kernel_rfl) rfl (by kernel_rfl) ?_))
        exact bodyPost_ret (v := .agg (Gr.err 4).cells) (results_cell_row rfl _ _ (w.heap.size + 1) 36 (Gr.err 4).cells _ _ rfl (heap_setRow_same _ A8.out) Try.underlying36 rfl (by kernel_rfl)) rfl
          (by rw [HR.out]; exact ⟨rfl, GTo.same HG.out (below_setRow (g := w.heap.size + 1) B8.out (by omega) _)⟩)
      · have hr : G.kind q x no 10 = (Ans.zero, G.setF (Gr.at? (G.held x.t) x.i).2 x.f (Gr.at? (G.held x.t) x.j)) := by
          show (if G.object x true ≠ 0 then _ else if ((G.held x.t).length : Int) ≤ x.j then _ else _) = _
          rw [if_neg (by have := HO.out; omega), if_neg ho]
        have hu := HU.out
        have HJ : Hid (Gr.at? (G.held x.t) x.j = Gr.at? (G.thr.getD t Th.none).held x.j) := Lib.hid (by rw [HTH.out])
        rw [HTH.out] at ho
        rw [getv_in hj (by omega)] at hu
        obtain ⟨v, hv'⟩ : ∃ v, v = Gr.at? (G.thr.getD t Th.none).held x.j := ⟨_, rfl⟩
        rw [← hv'] at hu HJ
        subst hu
        have HR := Lib.hid hr
        clear hr ho hv'
        have q0 : wc.cell? ⟨Q, 0, none⟩ = some (.int .i64 v.1) := cell_of_row _ _ _ _ _ _ hQ
        have q1 : wc.cell? ⟨Q, 1, none⟩ = some (.int .i64 v.2) := cell_of_row _ _ _ _ _ _ hQ
        obtain ⟨o3, o4, o5⟩ := O5.out
        obtain ⟨cap, hn⟩ := HN.out
        obtain ⟨s, hs⟩ : ∃ s : Nat, (Gr.at? (G.held x.t) x.i).2 = (s : Int) := ⟨_, (Int.toNat_of_nonneg o3).symm⟩
        obtain ⟨f, hff⟩ : ∃ f : Nat, x.f = (f : Int) := ⟨_, (Int.toNat_of_nonneg hf).symm⟩
        have hnd : G.node (Gr.at? (G.held x.t) x.i).2 = G.nod.getD s [] := by rw [hs]; rfl
        have hn2 : nv.getD s undef = .slice (some ⟨d, 0, none⟩) (G.nod.getD s []).length cap := by
          rw [hnd, hs] at hn; exact hn
        have hsl : s < G.nod.length := by rw [hs] at o4; omega
        have hfl : f < (G.nod.getD s []).length := by rw [hnd, hff] at o5; omega
        have hG6 := HG.out.below B6.out
        obtain ⟨⟨t0, t1⟩, t2, t3⟩ := hG6.fieldThere hsl hfl hn2
        have PF := Lib.hid (hG6.putField kinds_g hsl hfl hn2 v)
        have hdw : d < w.heap.size := by
          have := own_blk (HG.out.nodeRow hsl).2 d (by rw [hn2]; rfl)
          exact this
        have A9 : Hid (((wc.setCell ⟨d, f * 2, none⟩ (.int .i64 v.1)).setCell ⟨d, f * 2 + 1, none⟩ (.int .i64 v.2)).heap[w.heap.size + 1]? = some (.cells zAns 36 (0, 0))) :=
          Lib.hid ((heap_setCell_other _ _ _ _ (by simp only; omega)).trans ((heap_setCell_other _ _ _ _ (by simp only; omega)).trans A6.out))
        have HR2 : Hid (G.kind q x no 10 = (Ans.zero, G.setF (s : Int) (f : Int) v)) := Lib.hid (by rw [HR.out, HJ.out, hs, hff])
        have hft : x.f.toNat = f := by omega
        rw [hft]
        generalize (G.nod.getD s []).getD f (0, 0) = y at t0 t1
        clear o3 o4 o5 hn hs hnd hn2 hsl hfl hG6 hdw hff hft HN HR
        go_wp2_with (first
          | (refine wpList_store_row rfl 36 _ _ rfl (w.heap.size + 1) zAns rfl rfl 36 _ A9.out (by kernel_rfl) rfl (by kernel_rfl) ?_))
        exact bodyPost_ret (v := .agg zAns) (results_cell_row rfl _ _ (w.heap.size + 1) 36 zAns _ _ rfl (heap_setRow_same _ A9.out) Try.underlying36 rfl (by kernel_rfl)) rfl
          (by rw [HR2.out]; exact ⟨rfl, PF.out.wrap B6.out HFP.out (K := w.heap.size + 1) (by omega) (heap_lt A6.out) (Frm.setRow (fp := [w.heap.size + 1]) _ (List.mem_singleton.2 rfl) _)⟩)
  · have hr : G.kind q x no 10 = (Gr.err (G.object x true), G) := by
      show (if G.object x true ≠ 0 then _ else _) = _
      rw [if_pos ho]
    rw [hr]
    have HO := Lib.hid ho
    obtain ⟨k, hk⟩ : ∃ k, k = G.object x true := ⟨_, rfl⟩
    have HK := Lib.hid hk
    have dk : (k != 0) = true := by rw [hk]; simpa using ho
    rw [← hk]
    clear h hg ht ho hr hk
    go_enter Try.func31, Try.ntmps31
    go_wp2_with (first
      | (refine wpList_load_row rfl 39 _ rfl w.heap.size rfl 39 x.cells (0, 0) _ S2.out Try.underlying39 rfl (by kernel_rfl) ?_)
      | (go_at_call 48; refine (gfield_no (HG.out.below B2.out) HGD.out x t HT.out hlt hi hf HO.out).mono ?_; rw [← HK.out]; rintro e w5 ⟨rfl, hb5⟩; have B5 : Hid (Below w.heap.size w w5) := Lib.hid (below_next B2.out hb5); have A5 := Lib.hid (keep hb5 A2.out); clear hb5)
      | (go_at_call 24; refine (gfail_any k _).mono ?_; rintro e w6 ⟨rfl, hb6⟩; have B6 : Hid (Below w.heap.size w w6) := Lib.hid (below_next B5.out hb6); have A6 := Lib.hid (keep hb6 A5.out); clear hb6)
      | (refine wpList_store_row rfl 36 _ _ rfl (w.heap.size + 1) (Gr.err k).cells rfl rfl 36 _ A6.out (by kernel_rfl) rfl (by kernel_rfl) ?_))
    exact bodyPost_ret (v := .agg (Gr.err k).cells) (results_cell_row rfl _ _ (w.heap.size + 1) 36 (Gr.err k).cells _ _ rfl (heap_setRow_same _ A6.out) Try.underlying36 rfl (by kernel_rfl)) rfl
      ⟨rfl, GTo.same HG.out (below_setRow (g := w.heap.size + 1) B6.out (by omega) _)⟩
end
/- The graph's ask. -/
section
variable {w : World} {g : Nat} {c : Cfg} {G : Gr} {tb tcap nb ncap : Nat} {hv nv : List Value}
set_option maxHeartbeats 4000000 in
set_option maxRecDepth 100000 in
theorem gask_any (h : Gx 60 72 w g c G tb tcap nb ncap hv nv) (hg : G.Good) (x : Stp) (q no : Int) (t : Nat) (ht : x.t = (t : Int)) (hlt : t < G.thr.length) (hi : 0 ≤ x.i) (hj : 0 ≤ x.j) (hk : x.k = 11 ∨ x.k = 12) :
    Calls Try.prog 32 #[.pointer (some ⟨g, 0, none⟩), .agg x.cells] w fun e w' => DoR w w' g c (G.kind q x no x.k.toNat) (fpOf g tb nb hv nv) e := by
  have B2 := Lib.hid (below_new (below_alloc0 w (.cells x.cells 39)) (.cells zAns 36))
  have S2 := Lib.hid (keep_alloc (.cells zAns 36) (heap_alloc_new w (.cells x.cells 39)))
  have A2 := Lib.hid (heap_two w (.cells x.cells 39) (.cells zAns 36))
  have HG := Lib.hid h
  have HGD := Lib.hid hg
  have i1 : (0 : Int) ≤ (t : Int) := by omega
  have i2 : (t : Int) < (G.thr.length : Int) := by omega
  have HTH : Hid (G.held x.t = (G.thr.getD t Th.none).held) := Lib.hid (by rw [ht]; rfl)
  obtain ⟨u, hu⟩ : ∃ u, u = getv (G.thr.getD t Th.none).held x.i := ⟨_, rfl⟩
  obtain ⟨v, hv'⟩ : ∃ v, v = getv (G.thr.getD t Th.none).held x.j := ⟨_, rfl⟩
  have HU := Lib.hid hu
  have HV := Lib.hid hv'
  have HT := Lib.hid ht
  clear h hg hu hv' ht
  go_enter Try.func32, Try.ntmps32
  go_wp2_with fail
  change Code.wp _ _ _ _ ((w.alloc (.cells x.cells 39)).alloc (.cells zAns 36))
  generalize (w.alloc (.cells x.cells 39)).alloc (.cells zAns 36) = w2 at *
  have s1 : w2.cell? ⟨w.heap.size, 1, none⟩ = some (.int .i64 x.t) := cell_of_row _ _ _ _ _ _ S2.out
  have s2 : w2.cell? ⟨w.heap.size, 2, none⟩ = some (.int .i64 x.i) := cell_of_row _ _ _ _ _ _ S2.out
  rw [HT.out] at s1
  obtain ⟨-, q10, -⟩ := (HG.out.below B2.out).head
  go_cut [5, 6] from 7 (fun p b wc => ∃ Q, p = .pointer (some ⟨Q, 0, none⟩) ∧ b = .bool u.2 ∧ Hid (wc.heap[Q]? = some (.cells #[.int .i64 u.1.1, .int .i64 u.1.2] 57 (0, 0))) ∧ Hid (Below w2.heap.size w2 wc))
  case first =>
    go_region_held3 (fun w' => w'.cell? ⟨g, 10, none⟩ = some (.slice (some ⟨tb, 0, none⟩) G.thr.length tcap) ∧ w'.cell? ⟨w.heap.size, 1, none⟩ = some (.int .i64 (t : Int)) ∧ w'.cell? ⟨w.heap.size, 2, none⟩ = some (.int .i64 x.i))
      (first
        | exact ⟨q10, s1, s2⟩
        | exact ⟨cell_keep (by (repeat (first | exact (Below.refl _ _) | exact Below.refl _ _ | refine Below.drew ?_ | refine below_new ?_ _ | refine below_drewN ?_ _ | refine Below.setCell ?_ (by first | exact Nat.le_refl _ | (simp only [World.size_alloc]; omega)) _))) q10, cell_keep (by (repeat (first | exact (Below.refl _ _) | exact Below.refl _ _ | refine Below.drew ?_ | refine below_new ?_ _ | refine below_drewN ?_ _ | refine Below.setCell ?_ (by first | exact Nat.le_refl _ | (simp only [World.size_alloc]; omega)) _))) s1, cell_keep (by (repeat (first | exact (Below.refl _ _) | exact Below.refl _ _ | refine Below.drew ?_ | refine below_new ?_ _ | refine below_drewN ?_ _ | refine Below.setCell ?_ (by first | exact Nat.le_refl _ | (simp only [World.size_alloc]; omega)) _))) s2⟩)
      (first
        | (go_at_call 47; refine (gget_any _ _ _ _ (G.thr.getD t Th.none).held x.i _ (HG.out.hold hlt (by (repeat (first | exact B2.out | exact Below.refl _ _ | refine Below.drew ?_ | refine below_new ?_ _ | refine below_drewN ?_ _ | refine Below.setCell ?_ (by first | exact Nat.le_refl _ | (simp only [World.size_alloc]; omega)) _)))).1 (HG.out.hold hlt (by (repeat (first | exact B2.out | exact Below.refl _ _ | refine Below.drew ?_ | refine below_new ?_ _ | refine below_drewN ?_ _ | refine Below.setCell ?_ (by first | exact Nat.le_refl _ | (simp only [World.size_alloc]; omega)) _)))).2).mono ?_; rintro e w5 ⟨rfl, rfl⟩; rw [← HU.out]))
    all_goals
      go_wp2_with fail
      go_meet
      first
        | exact ⟨_, rfl, rfl, Lib.hid (heap_two _ _ _), Lib.hid (by (repeat (first | exact (Below.refl _ _) | exact Below.refl _ _ | refine Below.drew ?_ | refine below_new ?_ _ | refine below_drewN ?_ _ | refine Below.setCell ?_ (by first | exact Nat.le_refl _ | (simp only [World.size_alloc]; omega)) _)))⟩
        | exact ⟨_, rfl, rfl, Lib.hid (keep_alloc _ (heap_alloc_new _ _)), Lib.hid (by (repeat (first | exact (Below.refl _ _) | exact Below.refl _ _ | refine Below.drew ?_ | refine below_new ?_ _ | refine below_drewN ?_ _ | refine Below.setCell ?_ (by first | exact Nat.le_refl _ | (simp only [World.size_alloc]; omega)) _)))⟩
  case rest =>
    obtain ⟨Q, rfl, rfl, HQ, HB⟩ := hcut
    have B3 := Lib.hid (below_next B2.out HB.out)
    have A3 := Lib.hid (keep HB.out A2.out)
    have S3 := Lib.hid (keep HB.out S2.out)
    clear s1 s2 q10
    have s1 : wc.cell? ⟨w.heap.size, 1, none⟩ = some (.int .i64 x.t) := cell_of_row _ _ _ _ _ _ S3.out
    have s4 : wc.cell? ⟨w.heap.size, 4, none⟩ = some (.int .i64 x.j) := cell_of_row _ _ _ _ _ _ S3.out
    rw [HT.out] at s1
    obtain ⟨-, q10, -⟩ := (HG.out.below B3.out).head
    go_wp2_with fail
    generalize wc = w3 at *
    go_cut [7, 8] from 9 (fun p b wc => ∃ R, p = .pointer (some ⟨R, 0, none⟩) ∧ b = .bool v.2 ∧ Hid (wc.heap[R]? = some (.cells #[.int .i64 v.1.1, .int .i64 v.1.2] 57 (0, 0))) ∧ Hid (Below w3.heap.size w3 wc))
    case first =>
      go_region_held3 (fun w' => w'.cell? ⟨g, 10, none⟩ = some (.slice (some ⟨tb, 0, none⟩) G.thr.length tcap) ∧ w'.cell? ⟨w.heap.size, 1, none⟩ = some (.int .i64 (t : Int)) ∧ w'.cell? ⟨w.heap.size, 4, none⟩ = some (.int .i64 x.j))
        (first
          | exact ⟨q10, s1, s4⟩
          | exact ⟨cell_keep (by (repeat (first | exact (Below.refl _ _) | exact Below.refl _ _ | refine Below.drew ?_ | refine below_new ?_ _ | refine below_drewN ?_ _ | refine Below.setCell ?_ (by first | exact Nat.le_refl _ | (simp only [World.size_alloc]; omega)) _))) q10, cell_keep (by (repeat (first | exact (Below.refl _ _) | exact Below.refl _ _ | refine Below.drew ?_ | refine below_new ?_ _ | refine below_drewN ?_ _ | refine Below.setCell ?_ (by first | exact Nat.le_refl _ | (simp only [World.size_alloc]; omega)) _))) s1, cell_keep (by (repeat (first | exact (Below.refl _ _) | exact Below.refl _ _ | refine Below.drew ?_ | refine below_new ?_ _ | refine below_drewN ?_ _ | refine Below.setCell ?_ (by first | exact Nat.le_refl _ | (simp only [World.size_alloc]; omega)) _))) s4⟩)
        (first
          | (go_at_call 47; refine (gget_any _ _ _ _ (G.thr.getD t Th.none).held x.j _ (HG.out.hold hlt (by (repeat (first | exact B3.out | exact Below.refl _ _ | refine Below.drew ?_ | refine below_new ?_ _ | refine below_drewN ?_ _ | refine Below.setCell ?_ (by first | exact Nat.le_refl _ | (simp only [World.size_alloc]; omega)) _)))).1 (HG.out.hold hlt (by (repeat (first | exact B3.out | exact Below.refl _ _ | refine Below.drew ?_ | refine below_new ?_ _ | refine below_drewN ?_ _ | refine Below.setCell ?_ (by first | exact Nat.le_refl _ | (simp only [World.size_alloc]; omega)) _)))).2).mono ?_; rintro e w5 ⟨rfl, rfl⟩; rw [← HV.out]))
      all_goals
        go_wp2_with fail
        go_meet
        first
          | exact ⟨_, rfl, rfl, Lib.hid (heap_two _ _ _), Lib.hid (by (repeat (first | exact (Below.refl _ _) | exact Below.refl _ _ | refine Below.drew ?_ | refine below_new ?_ _ | refine below_drewN ?_ _ | refine Below.setCell ?_ (by first | exact Nat.le_refl _ | (simp only [World.size_alloc]; omega)) _)))⟩
          | exact ⟨_, rfl, rfl, Lib.hid (keep_alloc _ (heap_alloc_new _ _)), Lib.hid (by (repeat (first | exact (Below.refl _ _) | exact Below.refl _ _ | refine Below.drew ?_ | refine below_new ?_ _ | refine below_drewN ?_ _ | refine Below.setCell ?_ (by first | exact Nat.le_refl _ | (simp only [World.size_alloc]; omega)) _)))⟩
    case rest =>
      obtain ⟨R, rfl, rfl, HR, HB2⟩ := hcut
      have B4 := Lib.hid (below_next B3.out HB2.out)
      have A4 := Lib.hid (keep HB2.out A3.out)
      have S4 := Lib.hid (keep HB2.out S3.out)
      have Q4 := Lib.hid (keep HB2.out HQ.out)
      clear s1 s4 q10
      have s0 : wc.cell? ⟨w.heap.size, 0, none⟩ = some (.int .i64 x.k) := cell_of_row _ _ _ _ _ _ S4.out
      have q0 : wc.cell? ⟨Q, 0, none⟩ = some (.int .i64 u.1.1) := cell_of_row _ _ _ _ _ _ Q4.out
      have q1 : wc.cell? ⟨Q, 1, none⟩ = some (.int .i64 u.1.2) := cell_of_row _ _ _ _ _ _ Q4.out
      have r0 : wc.cell? ⟨R, 0, none⟩ = some (.int .i64 v.1.1) := cell_of_row _ _ _ _ _ _ HR.out
      have r1 : wc.cell? ⟨R, 1, none⟩ = some (.int .i64 v.1.2) := cell_of_row _ _ _ _ _ _ HR.out
      rcases hk with hk | hk
      · rw [hk] at s0
        have HK := Lib.hid hk
        clear hk
        have HKD : Hid (G.kind q x no x.k.toNat = (if ((G.held x.t).length : Int) ≤ x.i ∨ ((G.held x.t).length : Int) ≤ x.j then (Gr.err 4, G) else (⟨0, 1, if Gr.at? (G.held x.t) x.i = Gr.at? (G.held x.t) x.j then 1 else 0, 0, 0⟩, G))) := Lib.hid (by rw [show x.k.toNat = 11 by rw [HK.out]; rfl]; rfl)
        by_cases ho : ((G.thr.getD t Th.none).held.length : Int) ≤ x.i
        · have hu := HU.out
          rw [getv_out ho] at hu
          subst hu
          have HRR : Hid (G.kind q x no x.k.toNat = (Gr.err 4, G)) := Lib.hid (by
            rw [HKD.out, HTH.out, if_pos (.inl ho)])
          clear ho
          go_wp2_with (first
            | (go_at_call 24; refine (gfail_any 4 _).mono ?_; rintro e w8 ⟨rfl, hb8⟩; have B8 : Hid (Below w.heap.size w w8) := Lib.hid (below_next B4.out hb8); have A8 := Lib.hid (keep hb8 A4.out); clear hb8)
            | (refine wpList_store_row rfl 36 _ _ rfl (w.heap.size + 1) (Gr.err 4).cells rfl rfl 36 _ A8.out (by kernel_rfl) rfl (by kernel_rfl) ?_))
          exact bodyPost_ret (v := .agg (Gr.err 4).cells) (results_cell_row rfl _ _ (w.heap.size + 1) 36 (Gr.err 4).cells _ _ rfl (heap_setRow_same _ A8.out) Try.underlying36 rfl (by kernel_rfl)) rfl
            (by rw [HRR.out]; exact ⟨rfl, GTo.same HG.out (below_setRow (g := w.heap.size + 1) B8.out (by omega) _)⟩)
        by_cases ho2 : ((G.thr.getD t Th.none).held.length : Int) ≤ x.j
        · have hu := HU.out
          rw [getv_in hi (by omega)] at hu
          obtain ⟨y, hy⟩ : ∃ y, y = Gr.at? (G.thr.getD t Th.none).held x.i := ⟨_, rfl⟩
          rw [← hy] at hu
          subst hu
          have hv2 := HV.out
          rw [getv_out ho2] at hv2
          subst hv2
          clear hy
          have HRR : Hid (G.kind q x no x.k.toNat = (Gr.err 4, G)) := Lib.hid (by
            rw [HKD.out, HTH.out, if_pos (.inr ho2)])
          clear ho ho2
          go_wp2_with (first
            | (go_at_call 24; refine (gfail_any 4 _).mono ?_; rintro e w8 ⟨rfl, hb8⟩; have B8 : Hid (Below w.heap.size w w8) := Lib.hid (below_next B4.out hb8); have A8 := Lib.hid (keep hb8 A4.out); clear hb8)
            | (refine wpList_store_row rfl 36 _ _ rfl (w.heap.size + 1) (Gr.err 4).cells rfl rfl 36 _ A8.out (by kernel_rfl) rfl (by kernel_rfl) ?_))
          exact bodyPost_ret (v := .agg (Gr.err 4).cells) (results_cell_row rfl _ _ (w.heap.size + 1) 36 (Gr.err 4).cells _ _ rfl (heap_setRow_same _ A8.out) Try.underlying36 rfl (by kernel_rfl)) rfl
            (by rw [HRR.out]; exact ⟨rfl, GTo.same HG.out (below_setRow (g := w.heap.size + 1) B8.out (by omega) _)⟩)
        have hu := HU.out
        rw [getv_in hi (by omega)] at hu
        obtain ⟨y, hy⟩ : ∃ y, y = Gr.at? (G.thr.getD t Th.none).held x.i := ⟨_, rfl⟩
        rw [← hy] at hu
        subst hu
        have hv2 := HV.out
        rw [getv_in hj (by omega)] at hv2
        obtain ⟨z, hz⟩ : ∃ z, z = Gr.at? (G.thr.getD t Th.none).held x.j := ⟨_, rfl⟩
        rw [← hz] at hv2
        subst hv2
        by_cases hyz : y = z
        · subst hyz
          have HRR : Hid (G.kind q x no x.k.toNat = (⟨0, 1, 1, 0, 0⟩, G)) := Lib.hid (by
            rw [HKD.out, HTH.out, if_neg (by omega), ← hy, ← hz, if_pos rfl])
          clear ho ho2 hy hz
          go_wp2_with (refine wpList_store_row rfl 36 _ _ rfl (w.heap.size + 1) (Ans.cells ⟨0, 1, 1, 0, 0⟩) rfl rfl 36 _ A4.out (by kernel_rfl) rfl (by kernel_rfl) ?_)
          exact bodyPost_ret (v := .agg (Ans.cells ⟨0, 1, 1, 0, 0⟩)) (results_cell_row rfl _ _ (w.heap.size + 1) 36 (Ans.cells ⟨0, 1, 1, 0, 0⟩) _ _ rfl (heap_setRow_same _ A4.out) Try.underlying36 rfl (by kernel_rfl)) rfl
            (by rw [HRR.out]; exact ⟨rfl, GTo.same HG.out (below_setRow (g := w.heap.size + 1) B4.out (by omega) _)⟩)
        · by_cases h1 : y.1 = z.1
          · have h2 : ¬ y.2 = z.2 := fun h2 => hyz (Prod.ext h1 h2)
            have e1 : (y.1 == z.1) = true := by simpa using h1
            have e2 : (y.2 == z.2) = false := by simpa using h2
            have HRR : Hid (G.kind q x no x.k.toNat = (⟨0, 1, 0, 0, 0⟩, G)) := Lib.hid (by
              rw [HKD.out, HTH.out, if_neg (by omega), ← hy, ← hz, if_neg hyz])
            clear ho ho2 hy hz hyz
            go_wp2_with (refine wpList_store_row rfl 36 _ _ rfl (w.heap.size + 1) (Ans.cells ⟨0, 1, 0, 0, 0⟩) rfl rfl 36 _ A4.out (by kernel_rfl) rfl (by kernel_rfl) ?_)
            exact bodyPost_ret (v := .agg (Ans.cells ⟨0, 1, 0, 0, 0⟩)) (results_cell_row rfl _ _ (w.heap.size + 1) 36 (Ans.cells ⟨0, 1, 0, 0, 0⟩) _ _ rfl (heap_setRow_same _ A4.out) Try.underlying36 rfl (by kernel_rfl)) rfl
              (by rw [HRR.out]; exact ⟨rfl, GTo.same HG.out (below_setRow (g := w.heap.size + 1) B4.out (by omega) _)⟩)
          · have e1 : (y.1 == z.1) = false := by simpa using h1
            have HRR : Hid (G.kind q x no x.k.toNat = (⟨0, 1, 0, 0, 0⟩, G)) := Lib.hid (by
              rw [HKD.out, HTH.out, if_neg (by omega), ← hy, ← hz, if_neg hyz])
            clear ho ho2 hy hz hyz
            go_wp2_with (refine wpList_store_row rfl 36 _ _ rfl (w.heap.size + 1) (Ans.cells ⟨0, 1, 0, 0, 0⟩) rfl rfl 36 _ A4.out (by kernel_rfl) rfl (by kernel_rfl) ?_)
            exact bodyPost_ret (v := .agg (Ans.cells ⟨0, 1, 0, 0, 0⟩)) (results_cell_row rfl _ _ (w.heap.size + 1) 36 (Ans.cells ⟨0, 1, 0, 0, 0⟩) _ _ rfl (heap_setRow_same _ A4.out) Try.underlying36 rfl (by kernel_rfl)) rfl
              (by rw [HRR.out]; exact ⟨rfl, GTo.same HG.out (below_setRow (g := w.heap.size + 1) B4.out (by omega) _)⟩)
      · rw [hk] at s0
        have HK := Lib.hid hk
        clear hk
        have HKD : Hid (G.kind q x no x.k.toNat = (if G.object x false ≠ 0 then (Gr.err (G.object x false), G) else (⟨0, 1, ((G.node (Gr.at? (G.held x.t) x.i).2).length : Int), 0, 0⟩, G))) := Lib.hid (by rw [show x.k.toNat = 12 by rw [HK.out]; rfl]; rfl)
        by_cases ho : ((G.thr.getD t Th.none).held.length : Int) ≤ x.i
        · have hu := HU.out
          rw [getv_out ho] at hu
          subst hu
          have HRR : Hid (G.kind q x no x.k.toNat = (Gr.err 4, G)) := Lib.hid (by
            have e : G.object x false = 4 := by unfold Gr.object; rw [HTH.out, if_pos ho]
            rw [HKD.out, e, if_pos (by decide)])
          clear ho
          go_wp2_with (first
            | (go_at_call 24; refine (gfail_any 4 _).mono ?_; rintro e w8 ⟨rfl, hb8⟩; have B8 : Hid (Below w.heap.size w w8) := Lib.hid (below_next B4.out hb8); have A8 := Lib.hid (keep hb8 A4.out); clear hb8)
            | (refine wpList_store_row rfl 36 _ _ rfl (w.heap.size + 1) (Gr.err 4).cells rfl rfl 36 _ A8.out (by kernel_rfl) rfl (by kernel_rfl) ?_))
          exact bodyPost_ret (v := .agg (Gr.err 4).cells) (results_cell_row rfl _ _ (w.heap.size + 1) 36 (Gr.err 4).cells _ _ rfl (heap_setRow_same _ A8.out) Try.underlying36 rfl (by kernel_rfl)) rfl
            (by rw [HRR.out]; exact ⟨rfl, GTo.same HG.out (below_setRow (g := w.heap.size + 1) B8.out (by omega) _)⟩)
        have hu := HU.out
        rw [getv_in hi (by omega)] at hu
        obtain ⟨y, hy⟩ : ∃ y, y = Gr.at? (G.thr.getD t Th.none).held x.i := ⟨_, rfl⟩
        rw [← hy] at hu
        subst hu
        have hok := HGD.out.held_ok hlt hi (by omega : x.i < ((G.thr.getD t Th.none).held.length : Int))
        rw [← hy] at hok
        by_cases h2 : y.1 ≠ 2
        · have d2 : (y.1 != 2) = true := by simpa using h2
          have HRR : Hid (G.kind q x no x.k.toNat = (Gr.err 12, G)) := Lib.hid (by
            have e : G.object x false = 12 := by unfold Gr.object; rw [HTH.out, if_neg ho, ← hy, if_pos h2]
            rw [HKD.out, e, if_pos (by decide)])
          clear ho hy hok h2
          go_wp2_with (first
            | (go_at_call 24; refine (gfail_any 12 _).mono ?_; rintro e w8 ⟨rfl, hb8⟩; have B8 : Hid (Below w.heap.size w w8) := Lib.hid (below_next B4.out hb8); have A8 := Lib.hid (keep hb8 A4.out); clear hb8)
            | (refine wpList_store_row rfl 36 _ _ rfl (w.heap.size + 1) (Gr.err 12).cells rfl rfl 36 _ A8.out (by kernel_rfl) rfl (by kernel_rfl) ?_))
          exact bodyPost_ret (v := .agg (Gr.err 12).cells) (results_cell_row rfl _ _ (w.heap.size + 1) 36 (Gr.err 12).cells _ _ rfl (heap_setRow_same _ A8.out) Try.underlying36 rfl (by kernel_rfl)) rfl
            (by rw [HRR.out]; exact ⟨rfl, GTo.same HG.out (below_setRow (g := w.heap.size + 1) B8.out (by omega) _)⟩)
        have d2 : (y.1 != 2) = false := by simpa using h2
        have h2 : y.1 = 2 := by omega
        obtain ⟨hs0, hs1⟩ := hok.2 h2
        obtain ⟨s, hs⟩ : ∃ s : Nat, y.2 = (s : Int) := ⟨y.2.toNat, by omega⟩
        have hsl : s < G.nod.length := by omega
        have hG := HG.out.below B4.out
        obtain ⟨-, -, q11⟩ := hG.head
        obtain ⟨n0, n1⟩ := hG.nodeRow hsl
        have i3 : (0 : Int) ≤ (s : Int) := by omega
        have i4 : (s : Int) < (G.nod.length : Int) := by omega
        replace q1 : wc.cell? ⟨Q, 1, none⟩ = some (.int .i64 (s : Int)) := by rw [← hs]; exact q1
        have hnode : G.node (Gr.at? (G.held x.t) x.i).2 = G.nod.getD s [] := by rw [HTH.out, ← hy, hs]; rfl
        obtain ⟨p, cap, hp, hcap, hpb⟩ := own_slice n1
        rw [hp] at n0
        have HN := Lib.hid hnode
        have HOB : Hid (G.object x false = 0) := Lib.hid (by unfold Gr.object; rw [HTH.out, if_neg ho, ← hy, if_neg (by omega), if_neg (by simp)])
        clear hG n1 hp hcap hpb hnode hok hs0 hs1 hs hsl
        generalize G.nod.getD s [] = L at *
        have HRR : Hid (G.kind q x no x.k.toNat = (⟨0, 1, (L.length : Int), 0, 0⟩, G)) := Lib.hid (by
          rw [HKD.out, HOB.out, if_neg (by simp), HN.out])
        clear ho hy h2
        go_wp2_with fail
        go_quiet (fail)
        go_wp2_with (refine wpList_store_row rfl 36 _ _ rfl (w.heap.size + 1) (Ans.cells ⟨0, 1, (L.length : Int), 0, 0⟩) rfl rfl 36 _ A4.out (by kernel_rfl) rfl (by kernel_rfl) ?_)
        exact bodyPost_ret (v := .agg (Ans.cells ⟨0, 1, (L.length : Int), 0, 0⟩)) (results_cell_row rfl _ _ (w.heap.size + 1) 36 (Ans.cells ⟨0, 1, (L.length : Int), 0, 0⟩) _ _ rfl (heap_setRow_same _ A4.out) Try.underlying36 rfl (by kernel_rfl)) rfl
          (by rw [HRR.out]; exact ⟨rfl, GTo.same HG.out (below_setRow (g := w.heap.size + 1) (below_drewN B4.out _) (by omega) _)⟩)
end
/- The graph's asked: kinds that make no object. -/
theorem goutside_b {n lo hi : Int} {b : Bool} (hb : b = (decide (n < lo) || decide (hi < n))) (w : World) :
    Calls Try.prog 33 #[.int .i64 n, .int .i64 lo, .int .i64 hi] w fun e w' => e = .returned (.bool b) ∧ w = w' := by
  rw [hb]; exact goutside_any n lo hi w
section
variable {w : World} {g : Nat} {c : Cfg} {G : Gr} {tb tcap nb ncap : Nat} {hv nv : List Value}
set_option maxHeartbeats 4000000 in
set_option maxRecDepth 100000 in
theorem gasked_17 (h : Gx 60 72 w g c G tb tcap nb ncap hv nv) (x : Stp) (no : Int) (hk : x.k = 17) :
    Calls Try.prog 27 #[.pointer (some ⟨g, 0, none⟩), .agg x.cells, .int .i64 no] w fun e w' => DoR w w' g c (G.kind c.q x no 17) (fpOf g tb nb hv nv) e := by
  have B2 := Lib.hid (below_new (below_alloc0 w (.cells x.cells 39)) (.cells zAns 36))
  have A2 := Lib.hid (heap_two w (.cells x.cells 39) (.cells zAns 36))
  have HG := Lib.hid h
  obtain ⟨g0, g1, g2, g3, g4, g5, g6⟩ := stp_box w x
  rw [hk] at g0
  have s0 := cell_keep (below_alloc0 _ (.cells zAns 36)) g0
  clear h g0 g1 g2 g3 g4 g5 g6
  by_cases hn : no = 0
  · subst hn
    have hr : G.kind c.q x 0 17 = (Ans.zero, G) := rfl
    rw [hr]
    go_enter Try.func27, Try.ntmps27
    go_wp2_with fail
    go_quiet (fail)
    go_wp2_with fail
    go_quiet (fail)
    generalize hw3 : World.drewN _ _ = w3
    have B3 : Hid (Below w.heap.size w w3) := Lib.hid (by rw [← hw3]; (repeat (first | exact B2.out | exact Below.refl _ _ | refine Below.drew ?_ | refine below_new ?_ _ | refine below_drewN ?_ _ | refine Below.setCell ?_ (by first | exact Nat.le_refl _ | (simp only [World.size_alloc]; omega)) _)))
    have A3 : Hid (w3.heap[w.heap.size + 1]? = some (.cells zAns 36 (0, 0))) := Lib.hid (by rw [← hw3]; exact A2.out)
    replace s0 : w3.cell? ⟨w.heap.size, 0, none⟩ = some (.int .i64 17) := by rw [← hw3]; exact s0
    clear hw3
    go_wp2_with (refine wpList_store_row rfl 36 _ _ rfl (w.heap.size + 1) zAns rfl rfl 36 _ A3.out (by kernel_rfl) rfl (by kernel_rfl) ?_)
    exact bodyPost_ret (v := .agg zAns) (results_cell_row rfl _ _ (w.heap.size + 1) 36 zAns _ _ rfl (heap_setRow_same _ A3.out) Try.underlying36 rfl (by kernel_rfl)) rfl
      ⟨rfl, GTo.same HG.out (below_setRow (g := w.heap.size + 1) B3.out (by omega) _)⟩
  · have hr : G.kind c.q x no 17 = (Gr.err no, G) := by
      show (if no ≠ 0 then _ else _) = _
      rw [if_pos hn]
    have dn : (no != 0) = true := by simpa using hn
    rw [hr]
    clear hr hn
    go_enter Try.func27, Try.ntmps27
    go_wp2_with fail
    go_quiet (fail)
    go_wp2_with fail
    go_quiet (fail)
    generalize hw3 : World.drewN _ _ = w3
    have B3 : Hid (Below w.heap.size w w3) := Lib.hid (by rw [← hw3]; (repeat (first | exact B2.out | exact Below.refl _ _ | refine Below.drew ?_ | refine below_new ?_ _ | refine below_drewN ?_ _ | refine Below.setCell ?_ (by first | exact Nat.le_refl _ | (simp only [World.size_alloc]; omega)) _)))
    have A3 : Hid (w3.heap[w.heap.size + 1]? = some (.cells zAns 36 (0, 0))) := Lib.hid (by rw [← hw3]; exact A2.out)
    clear hw3
    go_wp2_with (first
      | (go_at_call 24; refine (gfail_any no _).mono ?_; rintro e w6 ⟨rfl, hb6⟩; have B6 : Hid (Below w.heap.size w w6) := Lib.hid (below_next B3.out hb6); have A6 := Lib.hid (keep hb6 A3.out); clear hb6)
      | (refine wpList_store_row rfl 36 _ _ rfl (w.heap.size + 1) (Gr.err no).cells rfl rfl 36 _ A6.out (by kernel_rfl) rfl (by kernel_rfl) ?_))
    exact bodyPost_ret (v := .agg (Gr.err no).cells) (results_cell_row rfl _ _ (w.heap.size + 1) 36 (Gr.err no).cells _ _ rfl (heap_setRow_same _ A6.out) Try.underlying36 rfl (by kernel_rfl)) rfl
      ⟨rfl, GTo.same HG.out (below_setRow (g := w.heap.size + 1) B6.out (by omega) _)⟩
set_option maxHeartbeats 4000000 in
set_option maxRecDepth 100000 in
theorem gasked_15 (h : Gx 60 72 w g c G tb tcap nb ncap hv nv) (x : Stp) (no : Int) (hk : x.k = 15) :
    Calls Try.prog 27 #[.pointer (some ⟨g, 0, none⟩), .agg x.cells, .int .i64 no] w fun e w' => DoR w w' g c (G.kind c.q x no 15) (fpOf g tb nb hv nv) e := by
  have B2 := Lib.hid (below_new (below_alloc0 w (.cells x.cells 39)) (.cells zAns 36))
  have A2 := Lib.hid (heap_two w (.cells x.cells 39) (.cells zAns 36))
  have HG := Lib.hid h
  obtain ⟨g0, g1, g2, g3, g4, g5, g6⟩ := stp_box w x
  rw [hk] at g0
  have s0 := cell_keep (below_alloc0 _ (.cells zAns 36)) g0
  have s5 := cell_keep (below_alloc0 _ (.cells zAns 36)) g5
  have s6 := cell_keep (below_alloc0 _ (.cells zAns 36)) g6
  obtain ⟨q3, -, -⟩ := (h.below B2.out).head
  clear h g0 g1 g2 g3 g4 g5 g6
  obtain ⟨b1, hb1⟩ : ∃ b1, b1 = (decide (x.c < 1) || decide (c.q < x.c)) := ⟨_, rfl⟩
  obtain ⟨b2, hb2⟩ : ∃ b2, b2 = (decide (x.n < 1) || decide (64 < x.n)) := ⟨_, rfl⟩
  have HB1 := Lib.hid hb1
  have HB2 := Lib.hid hb2
  have hkd : G.kind c.q x no 15 = if b1 || b2 then (Gr.err 4, G) else if no ≠ 0 then (Gr.err no, G) else (Ans.zero, G) := by rw [hb1, hb2]; rfl
  rw [hkd]
  clear hb1 hb2 hkd
  cases b1
  · cases b2
    · by_cases hn : no = 0
      · subst hn
        show Calls _ _ _ _ fun e w' => DoR w w' g c (Ans.zero, G) _ e
        go_enter Try.func27, Try.ntmps27
        go_wp2_with fail
        go_quiet ((go_at_call 33; refine quiet_eq (goutside_b HB1.out _)))
        generalize hw3 : World.drewN _ _ = w3
        have B3 : Hid (Below w.heap.size w w3) := Lib.hid (by rw [← hw3]; (repeat (first | exact B2.out | exact Below.refl _ _ | refine Below.drew ?_ | refine below_new ?_ _ | refine below_drewN ?_ _ | refine Below.setCell ?_ (by first | exact Nat.le_refl _ | (simp only [World.size_alloc]; omega)) _)))
        have A3 : Hid (w3.heap[w.heap.size + 1]? = some (.cells zAns 36 (0, 0))) := Lib.hid (by rw [← hw3]; exact A2.out)
        have s0 : w3.cell? ⟨w.heap.size, 0, none⟩ = some (.int .i64 15) := by rw [← hw3]; exact s0
        have s6 : w3.cell? ⟨w.heap.size, 6, none⟩ = some (.int .i64 x.n) := by rw [← hw3]; exact s6
        clear hw3
        go_wp2_with (go_at_call 33; refine (goutside_b HB2.out _).mono ?_; rintro e w5 ⟨rfl, rfl⟩)
        go_quiet (fail)
        generalize hw4 : World.drewN _ _ = w4
        replace B3 : Hid (Below w.heap.size w w4) := Lib.hid (by rw [← hw4]; exact below_drewN B3.out _)
        replace A3 : Hid (w4.heap[w.heap.size + 1]? = some (.cells zAns 36 (0, 0))) := Lib.hid (by rw [← hw4]; exact A3.out)
        replace s0 : w4.cell? ⟨w.heap.size, 0, none⟩ = some (.int .i64 15) := by rw [← hw4]; exact s0
        clear hw4 s6
        go_wp2_with (refine wpList_store_row rfl 36 _ _ rfl (w.heap.size + 1) zAns rfl rfl 36 _ A3.out (by kernel_rfl) rfl (by kernel_rfl) ?_)
        exact bodyPost_ret (v := .agg zAns) (results_cell_row rfl _ _ (w.heap.size + 1) 36 zAns _ _ rfl (heap_setRow_same _ A3.out) Try.underlying36 rfl (by kernel_rfl)) rfl
          ⟨rfl, GTo.same HG.out (below_setRow (g := w.heap.size + 1) B3.out (by omega) _)⟩
      · have dn : (no != 0) = true := by simpa using hn
        rw [show (if (false || false) = true then (Gr.err 4, G) else if no ≠ 0 then (Gr.err no, G) else (Ans.zero, G)) = (Gr.err no, G) by simp [hn]]
        clear hn
        go_enter Try.func27, Try.ntmps27
        go_wp2_with fail
        go_quiet ((go_at_call 33; refine quiet_eq (goutside_b HB1.out _)))
        generalize hw3 : World.drewN _ _ = w3
        have B3 : Hid (Below w.heap.size w w3) := Lib.hid (by rw [← hw3]; (repeat (first | exact B2.out | exact Below.refl _ _ | refine Below.drew ?_ | refine below_new ?_ _ | refine below_drewN ?_ _ | refine Below.setCell ?_ (by first | exact Nat.le_refl _ | (simp only [World.size_alloc]; omega)) _)))
        have A3 : Hid (w3.heap[w.heap.size + 1]? = some (.cells zAns 36 (0, 0))) := Lib.hid (by rw [← hw3]; exact A2.out)
        have s0 : w3.cell? ⟨w.heap.size, 0, none⟩ = some (.int .i64 15) := by rw [← hw3]; exact s0
        have s6 : w3.cell? ⟨w.heap.size, 6, none⟩ = some (.int .i64 x.n) := by rw [← hw3]; exact s6
        clear hw3
        go_wp2_with (go_at_call 33; refine (goutside_b HB2.out _).mono ?_; rintro e w5 ⟨rfl, rfl⟩)
        go_quiet (fail)
        generalize hw4 : World.drewN _ _ = w4
        replace B3 : Hid (Below w.heap.size w w4) := Lib.hid (by rw [← hw4]; exact below_drewN B3.out _)
        replace A3 : Hid (w4.heap[w.heap.size + 1]? = some (.cells zAns 36 (0, 0))) := Lib.hid (by rw [← hw4]; exact A3.out)
        replace s0 : w4.cell? ⟨w.heap.size, 0, none⟩ = some (.int .i64 15) := by rw [← hw4]; exact s0
        clear hw4 s6
        go_wp2_with (first
          | (go_at_call 24; refine (gfail_any no _).mono ?_; rintro e w6 ⟨rfl, hb6⟩; have B6 : Hid (Below w.heap.size w w6) := Lib.hid (below_next B3.out hb6); have A6 := Lib.hid (keep hb6 A3.out); clear hb6)
          | (refine wpList_store_row rfl 36 _ _ rfl (w.heap.size + 1) (Gr.err no).cells rfl rfl 36 _ A6.out (by kernel_rfl) rfl (by kernel_rfl) ?_))
        exact bodyPost_ret (v := .agg (Gr.err no).cells) (results_cell_row rfl _ _ (w.heap.size + 1) 36 (Gr.err no).cells _ _ rfl (heap_setRow_same _ A6.out) Try.underlying36 rfl (by kernel_rfl)) rfl
          ⟨rfl, GTo.same HG.out (below_setRow (g := w.heap.size + 1) B6.out (by omega) _)⟩
    · show Calls _ _ _ _ fun e w' => DoR w w' g c (Gr.err 4, G) _ e
      go_enter Try.func27, Try.ntmps27
      go_wp2_with fail
      go_quiet ((go_at_call 33; refine quiet_eq (goutside_b HB1.out _)))
      generalize hw3 : World.drewN _ _ = w3
      have B3 : Hid (Below w.heap.size w w3) := Lib.hid (by rw [← hw3]; (repeat (first | exact B2.out | exact Below.refl _ _ | refine Below.drew ?_ | refine below_new ?_ _ | refine below_drewN ?_ _ | refine Below.setCell ?_ (by first | exact Nat.le_refl _ | (simp only [World.size_alloc]; omega)) _)))
      have A3 : Hid (w3.heap[w.heap.size + 1]? = some (.cells zAns 36 (0, 0))) := Lib.hid (by rw [← hw3]; exact A2.out)
      have s0 : w3.cell? ⟨w.heap.size, 0, none⟩ = some (.int .i64 15) := by rw [← hw3]; exact s0
      have s6 : w3.cell? ⟨w.heap.size, 6, none⟩ = some (.int .i64 x.n) := by rw [← hw3]; exact s6
      clear hw3
      go_wp2_with (first
        | (go_at_call 24; refine (gfail_any 4 _).mono ?_; rintro e w6 ⟨rfl, hb6⟩; have B6 : Hid (Below w.heap.size w w6) := Lib.hid (below_next B3.out hb6); have A6 := Lib.hid (keep hb6 A3.out); clear hb6)
        | (refine wpList_store_row rfl 36 _ _ rfl (w.heap.size + 1) (Gr.err 4).cells rfl rfl 36 _ A6.out (by kernel_rfl) rfl (by kernel_rfl) ?_)
        | (go_at_call 33; refine (goutside_b HB2.out _).mono ?_; rintro e w5 ⟨rfl, rfl⟩))
      exact bodyPost_ret (v := .agg (Gr.err 4).cells) (results_cell_row rfl _ _ (w.heap.size + 1) 36 (Gr.err 4).cells _ _ rfl (heap_setRow_same _ A6.out) Try.underlying36 rfl (by kernel_rfl)) rfl
        ⟨rfl, GTo.same HG.out (below_setRow (g := w.heap.size + 1) B6.out (by omega) _)⟩
  · rw [show (if (true || b2) = true then (Gr.err 4, G) else if no ≠ 0 then (Gr.err no, G) else (Ans.zero, G)) = (Gr.err 4, G) by simp]
    go_enter Try.func27, Try.ntmps27
    go_wp2_with fail
    go_quiet ((go_at_call 33; refine quiet_eq (goutside_b HB1.out _)))
    generalize hw3 : World.drewN _ _ = w3
    have B3 : Hid (Below w.heap.size w w3) := Lib.hid (by rw [← hw3]; (repeat (first | exact B2.out | exact Below.refl _ _ | refine Below.drew ?_ | refine below_new ?_ _ | refine below_drewN ?_ _ | refine Below.setCell ?_ (by first | exact Nat.le_refl _ | (simp only [World.size_alloc]; omega)) _)))
    have A3 : Hid (w3.heap[w.heap.size + 1]? = some (.cells zAns 36 (0, 0))) := Lib.hid (by rw [← hw3]; exact A2.out)
    have s0 : w3.cell? ⟨w.heap.size, 0, none⟩ = some (.int .i64 15) := by rw [← hw3]; exact s0
    have s6 : w3.cell? ⟨w.heap.size, 6, none⟩ = some (.int .i64 x.n) := by rw [← hw3]; exact s6
    clear hw3
    go_wp2_with (first
      | (go_at_call 24; refine (gfail_any 4 _).mono ?_; rintro e w6 ⟨rfl, hb6⟩; have B6 : Hid (Below w.heap.size w w6) := Lib.hid (below_next B3.out hb6); have A6 := Lib.hid (keep hb6 A3.out); clear hb6)
      | (refine wpList_store_row rfl 36 _ _ rfl (w.heap.size + 1) (Gr.err 4).cells rfl rfl 36 _ A6.out (by kernel_rfl) rfl (by kernel_rfl) ?_))
    exact bodyPost_ret (v := .agg (Gr.err 4).cells) (results_cell_row rfl _ _ (w.heap.size + 1) 36 (Gr.err 4).cells _ _ rfl (heap_setRow_same _ A6.out) Try.underlying36 rfl (by kernel_rfl)) rfl
      ⟨rfl, GTo.same HG.out (below_setRow (g := w.heap.size + 1) B6.out (by omega) _)⟩
end
end Go.Proofs.Ytaefcmmjeloccaa
