/- The graph's value, and push. -/
import Derived.Test.YtaefcmmjeloccaaGr7
namespace Go.Proofs.Ytaefcmmjeloccaa
open Go.RowKit

def boolI (b : Bool) : Int := if b then 4 else 0
set_option maxHeartbeats 1000000 in
theorem gword_any (n : Int) (w : World) :
    Calls Try.prog 55 #[.agg #[.int .i64 1, .int .i64 n]] w fun e w' => e = .returned (.int .i64 (boolI (decide (n < -1099511627776) || decide (1099511627775 < n)))) ∧ Below w.heap.size w w' := by
  have B0 := Lib.hid (below_alloc0 w (.cells #[.int .i64 1, .int .i64 n] 57))
  have c0 : (w.alloc (.cells #[.int .i64 1, .int .i64 n] 57)).cell? ⟨w.heap.size, 0, none⟩ = some (.int .i64 1) := cell_of_row _ _ _ _ _ _ (heap_alloc_new w _)
  have c1 : (w.alloc (.cells #[.int .i64 1, .int .i64 n] 57)).cell? ⟨w.heap.size, 1, none⟩ = some (.int .i64 n) := cell_of_row _ _ _ _ _ _ (heap_alloc_new w _)
  by_cases h1 : n < -1099511627776
  · have hr : boolI (decide (n < -1099511627776) || decide (1099511627775 < n)) = 4 := by rw [decide_eq_true h1]; rfl
    rw [hr]
    have d1 : decide (-1099511627776 ≤ n) = false := by simp; omega
    go_enter Try.func55, Try.ntmps55
    go_wp2_with fail
    go_ret
    exact ⟨rfl, B0.out⟩
  have d1 : decide (-1099511627776 ≤ n) = true := by simp; omega
  by_cases h2 : 1099511627775 < n
  · have hr : boolI (decide (n < -1099511627776) || decide (1099511627775 < n)) = 4 := by rw [decide_eq_true h2, Bool.or_true]; rfl
    rw [hr]
    have d2 : decide (n < 1099511627776) = false := by simp; omega
    go_enter Try.func55, Try.ntmps55
    go_wp2_with fail
    go_ret
    exact ⟨rfl, B0.out⟩
  · have hr : boolI (decide (n < -1099511627776) || decide (1099511627775 < n)) = 0 := by rw [decide_eq_false h1, decide_eq_false h2]; rfl
    rw [hr]
    have d2 : decide (n < 1099511627776) = true := by simp; omega
    go_enter Try.func55, Try.ntmps55
    go_wp2_with fail
    go_ret
    exact ⟨rfl, B0.out⟩
namespace Gr
/-- What a step pushes; an error. -/
def value (G : Gr) (x : Stp) : Nat → Vl × Int
  | 4 => if badN x (-1099511627776) 1099511627775 then ((0, 0), 4) else ((1, x.n), 0)
  | 5 => ((0, 0), 0)
  | 6 => ((2, 0), 0)
  | 7 => if ((G.held x.t).length : Int) ≤ x.i then ((0, 0), 4) else (at? (G.held x.t) x.i, 0)
  | _ => if G.object x true ≠ 0 then ((0, 0), G.object x true) else (at? (G.node (at? (G.held x.t) x.i).2) x.f, 0)
end Gr
def ValR (v : Vl × Int) (e : Ending) : Prop := e = .returned (.tuple #[.agg #[.int .i64 v.1.1, .int .i64 v.1.2], .int .i64 v.2])
section
variable {w : World} {g : Nat} {c : Cfg} {G : Gr} {tb tcap nb ncap : Nat} {hv nv : List Value}
set_option maxHeartbeats 1000000 in
theorem gvalue_4 (x : Stp) (hk : x.k = 4) (w : World) :
    Calls Try.prog 46 #[.pointer (some ⟨g, 0, none⟩), .agg x.cells] w fun e w' => ValR (G.value x 4) e ∧ Below w.heap.size w w' := by
  have B0 := Lib.hid (below_alloc0 w (.cells x.cells 39))
  obtain ⟨g0, g1, g2, g3, g4, g5, g6⟩ := stp_box w x
  rw [hk] at g0
  have g6A := fun o => cell_keep (below_alloc0 _ o) g6
  have g0A := fun o => cell_keep (below_alloc0 _ o) g0
  obtain ⟨b, hb⟩ : ∃ b, b = (decide (x.n < -1099511627776) || decide (1099511627775 < x.n)) := ⟨_, rfl⟩
  have HB := Lib.hid hb
  clear hb
  have hv : G.value x 4 = if b = true then ((0, 0), 4) else ((1, x.n), 0) := by rw [HB.out]; rfl
  rw [hv]
  clear hv g1 g2 g3 g4 g5
  cases b
  · go_enter Try.func46, Try.ntmps46
    go_wp2_with (first
      | (go_at_call 55; refine (gword_any x.n _).mono ?_; rw [← HB.out, show boolI false = 0 from rfl]; rintro e w5 ⟨rfl, hb5⟩; have A5 := Lib.hid (keep hb5 (th_at1 w _ _ _)); have C5 := Lib.hid (keep hb5 (th_at2 w _ _ _)); have B5 : Hid (Below w.heap.size w w5) := Lib.hid (below_next (by (repeat (first | exact B0.out | exact Below.refl _ _ | refine Below.drew ?_ | refine below_new ?_ _ | refine below_drewN ?_ _ | refine Below.setCell ?_ (by first | exact Nat.le_refl _ | (simp only [World.size_alloc]; omega)) _))) hb5); clear hb5; have c50 : w5.cell? ⟨w.heap.size + 1 + 1, 0, none⟩ = some (.int .i64 1) := cell_of_row _ _ _ _ _ _ C5.out; have c51 : w5.cell? ⟨w.heap.size + 1 + 1, 1, none⟩ = some (.int .i64 x.n) := cell_of_row _ _ _ _ _ _ C5.out)
      | (refine wpList_store_row rfl 57 _ _ rfl (w.heap.size + 1) (vcs (1, x.n)) rfl rfl 57 _ A5.out (by kernel_rfl) rfl (by kernel_rfl) ?_))
    exact bodyPost_ret (results_row_tmp (p := 4) (u := 5) rfl _ _ (w.heap.size + 1) 57 (vcs (1, x.n)) _ _ rfl (heap_setRow_same _ A5.out) Try.underlying57 rfl (by kernel_rfl)) rfl
      ⟨rfl, below_setRow B5.out (by omega) _⟩
  · go_enter Try.func46, Try.ntmps46
    go_wp2_with (first
      | (go_at_call 55; refine (gword_any x.n _).mono ?_; rw [← HB.out, show boolI true = 4 from rfl]; rintro e w5 ⟨rfl, hb5⟩; have A5 := Lib.hid (keep hb5 (th_at1 w _ _ _)); have C5 := Lib.hid (keep hb5 (th_at2 w _ _ _)); have B5 : Hid (Below w.heap.size w w5) := Lib.hid (below_next (by (repeat (first | exact B0.out | exact Below.refl _ _ | refine Below.drew ?_ | refine below_new ?_ _ | refine below_drewN ?_ _ | refine Below.setCell ?_ (by first | exact Nat.le_refl _ | (simp only [World.size_alloc]; omega)) _))) hb5); clear hb5; have c50 : w5.cell? ⟨w.heap.size + 1 + 1, 0, none⟩ = some (.int .i64 1) := cell_of_row _ _ _ _ _ _ C5.out; have c51 : w5.cell? ⟨w.heap.size + 1 + 1, 1, none⟩ = some (.int .i64 x.n) := cell_of_row _ _ _ _ _ _ C5.out)
      | (refine wpList_store_row rfl 57 _ _ rfl (w.heap.size + 1) (vcs (0, 0)) rfl rfl 57 _ A5.out (by kernel_rfl) rfl (by kernel_rfl) ?_))
    exact bodyPost_ret (results_row_tmp (p := 4) (u := 5) rfl _ _ (w.heap.size + 1) 57 (vcs (0, 0)) _ _ rfl (heap_setRow_same _ A5.out) Try.underlying57 rfl (by kernel_rfl)) rfl
      ⟨rfl, below_setRow B5.out (by omega) _⟩
set_option maxHeartbeats 1000000 in
theorem gvalue_5 (x : Stp) (hk : x.k = 5) (w : World) :
    Calls Try.prog 46 #[.pointer (some ⟨g, 0, none⟩), .agg x.cells] w fun e w' => ValR (G.value x 5) e ∧ Below w.heap.size w w' := by
  have B0 := Lib.hid (below_alloc0 w (.cells x.cells 39))
  obtain ⟨g0, g1, g2, g3, g4, g5, g6⟩ := stp_box w x
  rw [hk] at g0
  have g0A := fun o => cell_keep (below_alloc0 _ o) g0
  have g0B := fun o o' => cell_keep (below_alloc0 _ o') (g0A o)
  clear g1 g2 g3 g4 g5 g6
  rw [show G.value x 5 = ((0, 0), 0) from rfl]
  have A5 := fun a b c => Lib.hid (th_at1 w a b c)
  have B5 := fun a b c => Lib.hid (below_new (below_new (below_alloc0 w a) b) c)
  go_enter Try.func46, Try.ntmps46
  go_wp2_with (refine wpList_store_row rfl 57 _ _ rfl (w.heap.size + 1) (vcs (0, 0)) rfl rfl 57 _ (A5 _ _ _).out (by kernel_rfl) rfl (by kernel_rfl) ?_)
  exact bodyPost_ret (results_row_tmp (p := 4) (u := 5) rfl _ _ (w.heap.size + 1) 57 (vcs (0, 0)) _ _ rfl (heap_setRow_same _ (A5 _ _ _).out) Try.underlying57 rfl (by kernel_rfl)) rfl
    ⟨rfl, below_setRow (g := w.heap.size + 1) (B5 _ _ _).out (by omega) _⟩
set_option maxHeartbeats 1000000 in
theorem gvalue_6 (x : Stp) (hk : x.k = 6) (w : World) :
    Calls Try.prog 46 #[.pointer (some ⟨g, 0, none⟩), .agg x.cells] w fun e w' => ValR (G.value x 6) e ∧ Below w.heap.size w w' := by
  have B0 := Lib.hid (below_alloc0 w (.cells x.cells 39))
  obtain ⟨g0, g1, g2, g3, g4, g5, g6⟩ := stp_box w x
  rw [hk] at g0
  have g0A := fun o => cell_keep (below_alloc0 _ o) g0
  have g0B := fun o o' => cell_keep (below_alloc0 _ o') (g0A o)
  clear g1 g2 g3 g4 g5 g6
  rw [show G.value x 6 = ((2, 0), 0) from rfl]
  have A5 := fun a b c => Lib.hid (th_at1 w a b c)
  have B5 := fun a b c => Lib.hid (below_new (below_new (below_alloc0 w a) b) c)
  go_enter Try.func46, Try.ntmps46
  go_wp2_with (refine wpList_store_row rfl 57 _ _ rfl (w.heap.size + 1) (vcs (2, 0)) rfl rfl 57 _ (A5 _ _ _).out (by kernel_rfl) rfl (by kernel_rfl) ?_)
  exact bodyPost_ret (results_row_tmp (p := 4) (u := 5) rfl _ _ (w.heap.size + 1) 57 (vcs (2, 0)) _ _ rfl (heap_setRow_same _ (A5 _ _ _).out) Try.underlying57 rfl (by kernel_rfl)) rfl
    ⟨rfl, below_setRow (g := w.heap.size + 1) (B5 _ _ _).out (by omega) _⟩
/-- A variable at hand is written. -/
theorem afterSet {w w5 : World} (u : Vl) (A5 : w5.heap[w.heap.size + 1]? = some (.cells #[.int .i64 0, .int .i64 0] 57 (0, 0))) (C5 : w5.heap[w.heap.size + 1 + 1]? = some (.cells #[.int .i64 0, .int .i64 0] 57 (0, 0))) (B5 : Below w.heap.size w w5) :
    (w5.setRow (w.heap.size + 1 + 1) (vcs u)).cell? ⟨w.heap.size + 1 + 1, 0, none⟩ = some (.int .i64 u.1) ∧ (w5.setRow (w.heap.size + 1 + 1) (vcs u)).cell? ⟨w.heap.size + 1 + 1, 1, none⟩ = some (.int .i64 u.2) ∧
    Hid ((w5.setRow (w.heap.size + 1 + 1) (vcs u)).heap[w.heap.size + 1]? = some (.cells #[.int .i64 0, .int .i64 0] 57 (0, 0))) ∧ Hid (Below w.heap.size w (w5.setRow (w.heap.size + 1 + 1) (vcs u))) := by
  have C6 := heap_setRow_same (vcs u) C5
  exact ⟨cell_of_row _ _ _ _ _ _ C6, cell_of_row _ _ _ _ _ _ C6, Lib.hid ((heap_setRow_other _ _ _ _ (by omega)).trans A5), Lib.hid (below_setRow (g := w.heap.size + 1 + 1) B5 (by omega) _)⟩
set_option maxHeartbeats 2000000 in
set_option maxRecDepth 100000 in
theorem gvalue_7 (h : Gx 60 72 w g c G tb tcap nb ncap hv nv) (x : Stp) (hk : x.k = 7) (t : Nat) (ht : x.t = (t : Int)) (hlt : t < G.thr.length) (hi : 0 ≤ x.i) :
    Calls Try.prog 46 #[.pointer (some ⟨g, 0, none⟩), .agg x.cells] w fun e w' => ValR (G.value x 7) e ∧ Below w.heap.size w w' := by
  have B0 := Lib.hid (below_alloc0 w (.cells x.cells 39))
  obtain ⟨g0, g1, g2, g3, g4, g5, g6⟩ := stp_box w x
  rw [hk] at g0
  rw [ht] at g1
  have g0A := fun o => cell_keep (below_alloc0 _ o) g0
  have g0B := fun o o' => cell_keep (below_alloc0 _ o') (g0A o)
  have i1 : (0 : Int) ≤ (t : Int) := by omega
  have i2 : (t : Int) < (G.thr.length : Int) := by omega
  obtain ⟨u, hu⟩ : ∃ u, u = getv (G.thr.getD t Th.none).held x.i := ⟨_, rfl⟩
  have hth : G.held x.t = (G.thr.getD t Th.none).held := by rw [ht]; rfl
  have hv : G.value x 7 = (u.1, if u.2 then 0 else 4) := by
    show (if ((G.held x.t).length : Int) ≤ x.i then ((0, 0), 4) else (Gr.at? (G.held x.t) x.i, 0)) = _
    rw [hth]
    by_cases ho : ((G.thr.getD t Th.none).held.length : Int) ≤ x.i
    · rw [if_pos ho, hu, getv_out ho]; rfl
    · rw [if_neg ho, hu, getv_in hi (by omega)]; rfl
  rw [hv]
  have HZ : Hid (u.2 = false → u.1 = (0, 0)) := Lib.hid fun h2 => by
    by_cases ho : ((G.thr.getD t Th.none).held.length : Int) ≤ x.i
    · rw [hu, getv_out ho]
    · rw [hu, getv_in hi (by omega)] at h2; cases h2
  have HG := Lib.hid h
  have HU := Lib.hid hu
  clear hu hth hv g3 g4 g5 g6 h ht
  have W2 : Hid (∀ a b, Below w.heap.size w (((w.alloc (.cells x.cells 39)).alloc a).alloc b)) := Lib.hid fun a b => below_new (below_new B0.out a) b
  obtain ⟨-, q10, -⟩ := (HG.out.below (W2.out (.cells #[.int .i64 0, .int .i64 0] 57) (.cells #[.int .i64 0, .int .i64 0] 57))).head
  have q10A := (HG.out.below B0.out).head.2.1
  have g1B := cell_keep (below_alloc0 _ (.cells #[.int .i64 0, .int .i64 0] 57)) (cell_keep (below_alloc0 _ (.cells #[.int .i64 0, .int .i64 0] 57)) g1)
  have g2B := cell_keep (below_alloc0 _ (.cells #[.int .i64 0, .int .i64 0] 57)) (cell_keep (below_alloc0 _ (.cells #[.int .i64 0, .int .i64 0] 57)) g2)
  have B3 := Lib.hid (W2.out (.cells #[.int .i64 0, .int .i64 0] 57) (.cells #[.int .i64 0, .int .i64 0] 57))
  have A3 := Lib.hid (th_at1 w (.cells x.cells 39) (.cells #[.int .i64 0, .int .i64 0] 57) (.cells #[.int .i64 0, .int .i64 0] 57))
  have C3 := Lib.hid (th_at2 w (.cells x.cells 39) (.cells #[.int .i64 0, .int .i64 0] 57) (.cells #[.int .i64 0, .int .i64 0] 57))
  go_enter Try.func46, Try.ntmps46
  go_wp2_with fail
  go_region_held3 (fun w' => w'.cell? ⟨g, 10, none⟩ = some (.slice (some ⟨tb, 0, none⟩) G.thr.length tcap) ∧ w'.cell? ⟨w.heap.size, 1, none⟩ = some (.int .i64 (t : Int)) ∧ w'.cell? ⟨w.heap.size, 2, none⟩ = some (.int .i64 x.i))
    (first
      | exact ⟨q10, g1B, g2B⟩
      | exact ⟨cell_keep (by (repeat (first | exact (Below.refl _ _) | exact Below.refl _ _ | refine Below.drew ?_ | refine below_new ?_ _ | refine below_drewN ?_ _ | refine Below.setCell ?_ (by first | exact Nat.le_refl _ | (simp only [World.size_alloc]; omega)) _))) q10A, cell_keep (by (repeat (first | exact (Below.refl _ _) | exact Below.refl _ _ | refine Below.drew ?_ | refine below_new ?_ _ | refine below_drewN ?_ _ | refine Below.setCell ?_ (by first | exact Nat.le_refl _ | (simp only [World.size_alloc]; omega)) _))) g1, cell_keep (by (repeat (first | exact (Below.refl _ _) | exact Below.refl _ _ | refine Below.drew ?_ | refine below_new ?_ _ | refine below_drewN ?_ _ | refine Below.setCell ?_ (by first | exact Nat.le_refl _ | (simp only [World.size_alloc]; omega)) _))) g2⟩
      | (trace_state; fail))
    (first
      | (go_at_call 47; refine (gget_any _ _ _ _ (G.thr.getD t Th.none).held x.i _ (HG.out.hold hlt (by (repeat (first | exact B3.out | exact Below.refl _ _ | refine Below.drew ?_ | refine below_new ?_ _ | refine below_drewN ?_ _ | refine Below.setCell ?_ (by first | exact Nat.le_refl _ | (simp only [World.size_alloc]; omega)) _)))).1 (HG.out.hold hlt (by (repeat (first | exact B3.out | exact Below.refl _ _ | refine Below.drew ?_ | refine below_new ?_ _ | refine below_drewN ?_ _ | refine Below.setCell ?_ (by first | exact Nat.le_refl _ | (simp only [World.size_alloc]; omega)) _)))).2).mono ?_; rintro e w5 ⟨rfl, rfl⟩; rw [← HU.out]))
  all_goals
    obtain ⟨v, b⟩ := u
    cases b
    · have hz : v = (0, 0) := HZ.out rfl
      subst hz
      go_wp2_with fail
      exact bodyPost_ret (results_row_tmp (p := 4) (u := 5) rfl _ _ (w.heap.size + 1) 57 (vcs (0, 0)) _ _ rfl (keep_alloc _ (th_at1 w _ _ _)) Try.underlying57 rfl (by kernel_rfl)) rfl
        ⟨rfl, by (repeat (first | exact B0.out | exact Below.refl _ _ | refine Below.drew ?_ | refine below_new ?_ _ | refine below_drewN ?_ _ | refine Below.setCell ?_ (by first | exact Nat.le_refl _ | (simp only [World.size_alloc]; omega)) _))⟩
    · go_wp2_with fail
      exact bodyPost_ret (results_row_tmp (p := 4) (u := 5) rfl _ _ (w.heap.size + 1) 57 (vcs v) _ _ rfl (keep_alloc _ (th_at1 w _ _ _)) Try.underlying57 rfl (by kernel_rfl)) rfl
        ⟨rfl, by (repeat (first | exact B0.out | exact Below.refl _ _ | refine Below.drew ?_ | refine below_new ?_ _ | refine below_drewN ?_ _ | refine Below.setCell ?_ (by first | exact Nat.le_refl _ | (simp only [World.size_alloc]; omega)) _))⟩
theorem gfield_no (h : Gx 60 72 w g c G tb tcap nb ncap hv nv) (hg : G.Good) (x : Stp) (t : Nat) (ht : x.t = (t : Int)) (hlt : t < G.thr.length) (hi : 0 ≤ x.i) (hf : 0 ≤ x.f) (hc : G.object x true ≠ 0) :
    Calls Try.prog 48 #[.pointer (some ⟨g, 0, none⟩), .agg x.cells] w fun e w' => e = .returned (.tuple #[.pointer none, .int .i64 (G.object x true)]) ∧ Below w.heap.size w w' :=
  (gfield_any h hg x t ht hlt hi hf).mono fun e w' ⟨h1, h2⟩ => by
    rcases h1 with ⟨_, h1⟩ | ⟨h0, _⟩
    · exact ⟨h1, h2⟩
    · exact absurd h0 hc
theorem gfield_yes (h : Gx 60 72 w g c G tb tcap nb ncap hv nv) (hg : G.Good) (x : Stp) (t : Nat) (ht : x.t = (t : Int)) (hlt : t < G.thr.length) (hi : 0 ≤ x.i) (hf : 0 ≤ x.f) (hc : G.object x true = 0) :
    Calls Try.prog 48 #[.pointer (some ⟨g, 0, none⟩), .agg x.cells] w fun e w' => ∃ d, (∃ cap, nv.getD (Gr.at? (G.held x.t) x.i).2.toNat undef = .slice (some ⟨d, 0, none⟩) (G.node (Gr.at? (G.held x.t) x.i).2).length cap) ∧ e = .returned (.tuple #[.pointer (some ⟨d, x.f.toNat * 2, none⟩), .int .i64 0]) ∧ Below w.heap.size w w' :=
  (gfield_any h hg x t ht hlt hi hf).mono fun e w' ⟨h1, h2⟩ => by
    rcases h1 with ⟨h0, _⟩ | ⟨_, d, cap, hn, h1⟩
    · exact absurd hc h0
    · exact ⟨d, ⟨cap, hn⟩, h1, h2⟩
/-- What no error of an object says. -/
theorem object_zero {x : Stp} {t : Nat} (ht : x.t = (t : Int)) (hlt : t < G.thr.length) (hg : G.Good) (hi : 0 ≤ x.i) (h0 : G.object x true = 0) :
    x.i < ((G.held x.t).length : Int) ∧ (Gr.at? (G.held x.t) x.i).1 = 2 ∧ (0 ≤ (Gr.at? (G.held x.t) x.i).2 ∧ (Gr.at? (G.held x.t) x.i).2 < (G.nod.length : Int)) ∧ x.f < ((G.node (Gr.at? (G.held x.t) x.i).2).length : Int) := by
  unfold Gr.object at h0
  split at h0
  · exact absurd h0 (by decide)
  · split at h0
    · exact absurd h0 (by decide)
    · split at h0
      · exact absurd h0 (by decide)
      · rename_i h1 h2 h3
        have hk : (Gr.at? (G.held x.t) x.i).1 = 2 := by omega
        have hth : G.held x.t = (G.thr.getD t Th.none).held := by rw [ht]; rfl
        refine ⟨by omega, hk, ?_, ?_⟩
        · have := hg.held_ok hlt hi (by rw [← hth]; omega : x.i < ((G.thr.getD t Th.none).held.length : Int))
          rw [← hth] at this
          exact this.2 hk
        · rcases Int.lt_or_le x.f ((G.node (Gr.at? (G.held x.t) x.i).2).length : Int) with h' | h'
          · exact h'
          · exact absurd ⟨rfl, h'⟩ h3
theorem Gx.fieldCell (h : Gx 60 72 w g c G tb tcap nb ncap hv nv) (hg : G.Good) {x : Stp} {t : Nat} (ht : x.t = (t : Int)) (hlt : t < G.thr.length) (hi : 0 ≤ x.i) (hf : 0 ≤ x.f) (h0 : G.object x true = 0)
    {d : Nat} (hn : ∃ cap, nv.getD (Gr.at? (G.held x.t) x.i).2.toNat undef = .slice (some ⟨d, 0, none⟩) (G.node (Gr.at? (G.held x.t) x.i).2).length cap) {W' : World} (hb : Below w.heap.size w W') :
    W'.cell? ⟨d, x.f.toNat * 2, none⟩ = some (.int .i64 (Gr.at? (G.node (Gr.at? (G.held x.t) x.i).2) x.f).1) ∧ W'.cell? ⟨d, x.f.toNat * 2 + 1, none⟩ = some (.int .i64 (Gr.at? (G.node (Gr.at? (G.held x.t) x.i).2) x.f).2) := by
  obtain ⟨h1, h2, h3, h4⟩ := object_zero ht hlt hg hi h0
  obtain ⟨cap, hn⟩ := hn
  have hr := ((h.below hb).nodeRow (s := (Gr.at? (G.held x.t) x.i).2.toNat) (by omega)).2
  rw [hn] at hr
  exact own_val hr (j := x.f.toNat) (by
    have : G.node (Gr.at? (G.held x.t) x.i).2 = G.nod.getD (Gr.at? (G.held x.t) x.i).2.toNat [] := rfl
    rw [← this]; omega)
set_option maxHeartbeats 2000000 in
set_option maxRecDepth 100000 in
theorem gvalue_9 (h : Gx 60 72 w g c G tb tcap nb ncap hv nv) (hg : G.Good) (x : Stp) (hk : x.k = 9) (t : Nat) (ht : x.t = (t : Int)) (hlt : t < G.thr.length) (hi : 0 ≤ x.i) (hf : 0 ≤ x.f) :
    Calls Try.prog 46 #[.pointer (some ⟨g, 0, none⟩), .agg x.cells] w fun e w' => ValR (G.value x 9) e ∧ Below w.heap.size w w' := by
  have B0 := Lib.hid (below_alloc0 w (.cells x.cells 39))
  obtain ⟨g0, g1, g2, g3, g4, g5, g6⟩ := stp_box w x
  rw [hk] at g0
  have g0A := fun o => cell_keep (below_alloc0 _ o) g0
  have g0B := fun o o' => cell_keep (below_alloc0 _ o') (g0A o)
  have B3 : Hid (∀ a b, Below w.heap.size w (((w.alloc (.cells x.cells 39)).alloc a).alloc b)) := Lib.hid fun a b => below_new (below_new B0.out a) b
  have A3 : Hid (∀ b, (((w.alloc (.cells x.cells 39)).alloc (.cells #[.int .i64 0, .int .i64 0] 57)).alloc b).heap[w.heap.size + 1]? = some (.cells #[.int .i64 0, .int .i64 0] 57 (0, 0))) := Lib.hid fun b => th_at1 w _ _ b
  have C3 : Hid (∀ a, (((w.alloc (.cells x.cells 39)).alloc a).alloc (.cells #[.int .i64 0, .int .i64 0] 57)).heap[w.heap.size + 1 + 1]? = some (.cells #[.int .i64 0, .int .i64 0] 57 (0, 0))) := Lib.hid fun a => th_at2 w _ a _
  have S3 : Hid (∀ a b, (((w.alloc (.cells x.cells 39)).alloc a).alloc b).heap[w.heap.size]? = some (.cells x.cells 39 (0, 0))) := Lib.hid fun a b => keep_alloc b (keep_alloc a (heap_alloc_new w _))
  have HG := Lib.hid h
  have HGD := Lib.hid hg
  have HT := Lib.hid ht
  clear h hg ht g1 g2 g3 g4 g5 g6
  by_cases ho : G.object x true = 0
  · have hv : G.value x 9 = (Gr.at? (G.node (Gr.at? (G.held x.t) x.i).2) x.f, 0) := by
      show (if G.object x true ≠ 0 then _ else _) = _
      rw [if_neg (by omega)]
    rw [hv]
    have FC := Lib.hid fun (d : Nat) hn (W' : World) hb => HG.out.fieldCell HGD.out HT.out hlt hi hf ho (d := d) hn (W' := W') hb
    have HO := Lib.hid ho
    clear ho hv
    obtain ⟨u, hu⟩ : ∃ u, u = Gr.at? (G.node (Gr.at? (G.held x.t) x.i).2) x.f := ⟨_, rfl⟩
    rw [← hu] at FC ⊢
    clear hu
    go_enter Try.func46, Try.ntmps46
    go_wp2_with (first
      | (refine wpList_load_row rfl 39 _ rfl w.heap.size rfl 39 x.cells (0, 0) _ (S3.out _ _) Try.underlying39 rfl (by kernel_rfl) ?_)
      | (go_at_call 48; refine (gfield_yes (HG.out.below (B3.out _ _)) HGD.out x t HT.out hlt hi hf HO.out).mono ?_; rintro e w5 ⟨d, hn, rfl, hb5⟩; have B5 : Hid (Below w.heap.size w w5) := Lib.hid (below_next (B3.out _ _) hb5); have A5 := Lib.hid (keep hb5 (A3.out _)); have C5 := Lib.hid (keep hb5 (C3.out _)); clear hb5; obtain ⟨f0, f1⟩ := FC.out d hn w5 B5.out; obtain ⟨c60, c61, A6, B6⟩ := afterSet u A5.out C5.out B5.out)
      | (refine wpList_store_row rfl 57 _ _ rfl (w.heap.size + 1 + 1) (vcs u) rfl rfl 57 _ C5.out (by kernel_rfl) rfl (by kernel_rfl) ?_)
      | (refine wpList_store_row rfl 57 _ _ rfl (w.heap.size + 1) (vcs u) rfl rfl 57 _ A6.out (by kernel_rfl) rfl (by kernel_rfl) ?_))
    exact bodyPost_ret (results_row_tmp (p := 4) (u := 5) rfl _ _ (w.heap.size + 1) 57 (vcs u) _ _ rfl (heap_setRow_same _ A6.out) Try.underlying57 rfl (by kernel_rfl)) rfl
      ⟨rfl, below_setRow (g := w.heap.size + 1) B6.out (by omega) _⟩
  · have hv : G.value x 9 = ((0, 0), G.object x true) := by
      show (if G.object x true ≠ 0 then _ else _) = _
      rw [if_pos ho]
    rw [hv]
    have HO := Lib.hid ho
    obtain ⟨q, hq⟩ : ∃ q, q = G.object x true := ⟨_, rfl⟩
    have HQ := Lib.hid hq
    have dq : (q != 0) = true := by rw [hq]; simpa using ho
    rw [← hq]
    clear ho hv hq
    go_enter Try.func46, Try.ntmps46
    go_wp2_with (first
      | (refine wpList_load_row rfl 39 _ rfl w.heap.size rfl 39 x.cells (0, 0) _ (S3.out _ _) Try.underlying39 rfl (by kernel_rfl) ?_)
      | (go_at_call 48; refine (gfield_no (HG.out.below (B3.out _ _)) HGD.out x t HT.out hlt hi hf HO.out).mono ?_; rw [← HQ.out]; rintro e w5 ⟨rfl, hb5⟩; have B5 : Hid (Below w.heap.size w w5) := Lib.hid (below_next (B3.out _ _) hb5); have A5 := Lib.hid (keep hb5 (A3.out _)); clear hb5)
      | (refine wpList_store_row rfl 57 _ _ rfl (w.heap.size + 1) (vcs (0, 0)) rfl rfl 57 _ A5.out (by kernel_rfl) rfl (by kernel_rfl) ?_))
    exact bodyPost_ret (results_row_tmp (p := 4) (u := 5) rfl _ _ (w.heap.size + 1) 57 (vcs (0, 0)) _ _ rfl (heap_setRow_same _ A5.out) Try.underlying57 rfl (by kernel_rfl)) rfl
      ⟨rfl, below_setRow (g := w.heap.size + 1) B5.out (by omega) _⟩
end
end Go.Proofs.Ytaefcmmjeloccaa
