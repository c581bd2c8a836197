import Derived.Test.YtaefcmmjeloccaaGr1
import Derived.Test.YtaefcmmjeloccaaRows
import Derived.BigQuiet
import Derived.Deep.CutRange
import Derived.Deep.RegionWith
namespace Go.Proofs.Ytaefcmmjeloccaa
open Go.RowKit

/- The graph's small functions. -/
theorem goutside_any (n lo hi : Int) (w : World) :
    Calls Try.prog 33 #[.int .i64 n, .int .i64 lo, .int .i64 hi] w fun e w' => e = .returned (.bool (decide (n < lo) || decide (hi < n))) ∧ w = w' := by
  by_cases h1 : n < lo
  · have d1 : decide (n < lo) = true := by simpa using h1
    go_enter Try.func33, Try.ntmps33
    go_wp2_with fail
    go_ret
    exact ⟨ret_bool (by simp [h1]), rfl⟩
  · have d1 : decide (n < lo) = false := by simpa using h1
    go_enter Try.func33, Try.ntmps33
    go_wp2_with fail
    go_ret
    exact ⟨ret_bool (by simp), rfl⟩

theorem heap_two (w : World) (o1 o2 : Obj) : ((w.alloc o1).alloc o2).heap[w.heap.size + 1]? = some o2 := by
  have h := (heap_alloc_new (w.alloc o1) o2)
  have e : (w.alloc o1).heap.size = w.heap.size + 1 := by show (w.heap.push o1).size = _; simp
  rwa [e] at h
theorem gfail_any (c : Int) (w : World) :
    Calls Try.prog 24 #[.int .i64 c] w fun e w' => e = .returned (.agg (Gr.err c).cells) ∧ Below w.heap.size w w' := by
  go_enter Try.func24, Try.ntmps24
  go_wp2_with (refine wpList_store_row rfl 36 _ _ rfl w.heap.size (Gr.err c).cells rfl rfl 36 _ (heap_alloc_new w _) (by kernel_rfl) rfl (by kernel_rfl) ?_)
  exact bodyPost_ret (v := .agg (Gr.err c).cells) (results_cell_row rfl _ _ w.heap.size 36 (Gr.err c).cells _ _ rfl (heap_setRow_same _ (heap_alloc_new w _)) Try.underlying36 rfl (by kernel_rfl)) rfl
    ⟨rfl, below_setRow (below_alloc0 w _) (Nat.le_refl _) _⟩

theorem gtold_any (v : Vl) (w : World) :
    Calls Try.prog 30 #[.agg #[.int .i64 v.1, .int .i64 v.2]] w fun e w' => e = .returned (.agg (Gr.told v).cells) ∧ Below w.heap.size w w' := by
  have c0 : (w.alloc (.cells #[.int .i64 v.1, .int .i64 v.2] 57)).cell? ⟨w.heap.size, 0, none⟩ = some (.int .i64 v.1) := cell_of_row _ _ _ _ _ _ (heap_alloc_new w _)
  have c1 : (w.alloc (.cells #[.int .i64 v.1, .int .i64 v.2] 57)).cell? ⟨w.heap.size, 1, none⟩ = some (.int .i64 v.2) := cell_of_row _ _ _ _ _ _ (heap_alloc_new w _)
  go_enter Try.func30, Try.ntmps30
  go_wp2_with fail
  exact bodyPost_ret (v := .agg (Gr.told v).cells) (results_cell_row rfl _ _ (w.heap.size + 1) 36 (Gr.told v).cells _ _ rfl (heap_two w _ _) Try.underlying36 rfl (by kernel_rfl)) rfl
    ⟨rfl, below_next (below_alloc0 w _) (below_alloc0 _ _)⟩

theorem gis_yes (g : Nat) (p : Option Addr) (n cap : Nat) (hn : 0 < n) (w : World) (h : w.cell? ⟨g, 11, none⟩ = some (.slice p n cap)) :
    Calls Try.prog 23 #[.pointer (some ⟨g, 0, none⟩)] w fun e w' => e = .returned (.bool true) ∧ w = w' := by
  have d1 : decide ((0 : Int) < (n : Int)) = true := by simp; omega
  go_enter Try.func23, Try.ntmps23
  go_wp2_with fail
  go_ret
  exact ⟨rfl, rfl⟩
theorem gis_no (g : Nat) (w : World) (h : w.cell? ⟨g, 11, none⟩ = some (.slice none 0 0)) :
    Calls Try.prog 23 #[.pointer (some ⟨g, 0, none⟩)] w fun e w' => e = .returned (.bool false) ∧ w = w' := by
  go_enter Try.func23, Try.ntmps23
  go_wp2_with fail
  go_ret
  exact ⟨rfl, rfl⟩
theorem gis_nil (w : World) :
    Calls Try.prog 23 #[.pointer none] w fun e w' => e = .returned (.bool false) ∧ w = w' := by
  go_enter Try.func23, Try.ntmps23
  go_wp2_with fail
  go_ret
  exact ⟨rfl, rfl⟩
theorem gfull_any (b o : Nat) (p : Option Addr) (n cap : Nat) (w : World) (h : w.cell? ⟨b, o, none⟩ = some (.slice p n cap)) :
    Calls Try.prog 44 #[.pointer (some ⟨b, o, none⟩)] w fun e w' => e = .returned (.bool (decide (16 ≤ n))) ∧ w = w' := by
  go_enter Try.func44, Try.ntmps44
  go_wp2_with fail
  go_ret
  exact ⟨ret_bool (by rw [decide_eq_decide]; omega), rfl⟩

/-- A place of some values, if it is one. -/
def getv (vs : List Vl) (i : Int) : Vl × Bool := if 0 ≤ i ∧ i < (vs.length : Int) then (vs.getD i.toNat (0, 0), true) else ((0, 0), false)
def vcs (v : Vl) : Array Value := #[.int .i64 v.1, .int .i64 v.2]
theorem gget_any (b o n : Nat) (s : Value) (vs : List Vl) (i : Int) (w : World) (h : w.cell? ⟨b, o, none⟩ = some s) (hown : Own w 57 2 n s (vls vs)) :
    Calls Try.prog 47 #[.pointer (some ⟨b, o, none⟩), .int .i64 i] w fun e w' => e = .returned (.tuple #[.agg #[.int .i64 (getv vs i).1.1, .int .i64 (getv vs i).1.2], .bool (getv vs i).2]) ∧ w' = w.alloc (.cells #[.int .i64 (getv vs i).1.1, .int .i64 (getv vs i).1.2] 57) := by
  have hl := hown.1
  rw [vls_len] at hl
  obtain ⟨p, cap, rfl, hcap, hb⟩ := own_slice hown
  by_cases h0 : i < 0
  · have hg : getv vs i = ((0, 0), false) := by unfold getv; rw [if_neg (by omega)]
    rw [hg]
    go_enter Try.func47, Try.ntmps47
    go_wp2_with fail
    exact bodyPost_ret (results_row_tmp rfl _ _ w.heap.size 57 (vcs (0, 0)) _ _ rfl (heap_alloc_new w _) Try.underlying57 rfl (by kernel_rfl)) rfl ⟨rfl, rfl⟩
  have d0 : decide (i < 0) = false := by simpa using h0
  have hA : (w.alloc (.cells #[.int .i64 0, .int .i64 0] 57)).cell? ⟨b, o, none⟩ = some (.slice p n cap) := cell_keep (below_alloc0 w _) h
  by_cases h1 : (n : Int) ≤ i
  · have d1 : decide ((n : Int) ≤ i) = true := by simpa using h1
    have hg : getv vs i = ((0, 0), false) := by unfold getv; rw [if_neg (by omega)]
    rw [hg]
    go_enter Try.func47, Try.ntmps47
    go_wp2_with fail
    exact bodyPost_ret (results_row_tmp rfl _ _ w.heap.size 57 (vcs (0, 0)) _ _ rfl (heap_alloc_new w _) Try.underlying57 rfl (by kernel_rfl)) rfl ⟨rfl, rfl⟩
  have d1 : decide ((n : Int) ≤ i) = false := by simpa using h1
  obtain ⟨j, rfl⟩ : ∃ j : Nat, i = (j : Int) := ⟨i.toNat, by omega⟩
  have hj : j < n := by omega
  obtain ⟨d, rfl⟩ := hb (by omega)
  have hg : getv vs j = (vs.getD j (0, 0), true) := by unfold getv; rw [if_pos (by omega)]; rfl
  rw [hg]
  obtain ⟨g1, g2⟩ := own_val hown hj
  generalize vs.getD j (0, 0) = v at *
  have k1 := cell_keep (below_alloc0 w (.cells #[.int .i64 0, .int .i64 0] 57)) g1
  have k2 := cell_keep (below_alloc0 w (.cells #[.int .i64 0, .int .i64 0] 57)) g2
  have i1 : (0 : Int) ≤ (j : Int) := by omega
  have i2 : (j : Int) < (n : Int) := by omega
  go_enter Try.func47, Try.ntmps47
  go_wp2_with fail
  exact bodyPost_ret (results_row_tmp rfl _ _ w.heap.size 57 (vcs v) _ _ rfl (heap_alloc_new w _) Try.underlying57 rfl (by kernel_rfl)) rfl ⟨rfl, rfl⟩
/- The graph's who and field. -/
-- A walk whose regions only read, in whatever order.
/-- The boxed step's cells. -/
theorem stp_box (w : World) (x : Stp) : let W := w.alloc (.cells x.cells 39)
    W.cell? ⟨w.heap.size, 0, none⟩ = some (.int .i64 x.k) ∧ W.cell? ⟨w.heap.size, 1, none⟩ = some (.int .i64 x.t) ∧ W.cell? ⟨w.heap.size, 2, none⟩ = some (.int .i64 x.i) ∧ W.cell? ⟨w.heap.size, 3, none⟩ = some (.int .i64 x.f) ∧ W.cell? ⟨w.heap.size, 4, none⟩ = some (.int .i64 x.j) ∧ W.cell? ⟨w.heap.size, 5, none⟩ = some (.int .i64 x.c) ∧ W.cell? ⟨w.heap.size, 6, none⟩ = some (.int .i64 x.n) :=
  ⟨cell_of_row _ _ _ _ _ _ (heap_alloc_new w _), cell_of_row _ _ _ _ _ _ (heap_alloc_new w _), cell_of_row _ _ _ _ _ _ (heap_alloc_new w _), cell_of_row _ _ _ _ _ _ (heap_alloc_new w _), cell_of_row _ _ _ _ _ _ (heap_alloc_new w _), cell_of_row _ _ _ _ _ _ (heap_alloc_new w _), cell_of_row _ _ _ _ _ _ (heap_alloc_new w _)⟩

section
variable {w : World} {g : Nat} {c : Cfg} {G : Gr} {tb tcap nb ncap : Nat} {hv nv : List Value}
set_option maxHeartbeats 1000000 in
theorem gwho_any (h : Gx 60 72 w g c G tb tcap nb ncap hv nv) (x : Stp) (ht : 0 ≤ x.t) :
    Calls Try.prog 26 #[.pointer (some ⟨g, 0, none⟩), .agg x.cells] w fun e w' => e = .returned (.int .i64 (G.who x)) ∧ Below w.heap.size w w' := by
  have B0 := Lib.hid (below_alloc0 w (.cells x.cells 39))
  obtain ⟨g0, g1, g2, g3, g4, g5, g6⟩ := stp_box w x
  by_cases hk : 16 ≤ x.k
  · have hr : G.who x = 0 := by unfold Gr.who; rw [if_pos hk]
    rw [hr]
    go_enter Try.func26, Try.ntmps26
    go_wp2_with fail
    go_ret
    exact ⟨rfl, B0.out⟩
  have hG := h.below B0.out
  obtain ⟨q3, q10, q11⟩ := hG.head
  by_cases hl : (G.thr.length : Int) ≤ x.t
  · have hr : G.who x = 4 := by unfold Gr.who; rw [if_neg hk, if_pos hl]
    rw [hr]
    have d1 : decide ((G.thr.length : Int) ≤ x.t) = true := by simpa using hl
    clear hG h
    go_enter Try.func26, Try.ntmps26
    (go_wp2_with fail; repeat (go_quiet (fail); go_wp2_with fail))
    go_ret
    exact ⟨rfl, by (repeat (first | exact B0.out | refine below_drewN ?_ _))⟩
  obtain ⟨t, htt⟩ : ∃ t : Nat, x.t = (t : Int) := ⟨x.t.toNat, by omega⟩
  rw [htt] at g1 hl
  have hlt : t < G.thr.length := by omega
  obtain ⟨t0, t1⟩ := hG.thread hlt
  have hth : G.th x.t = G.thr.getD t Th.none := by rw [htt]; rfl
  have d1 : decide ((G.thr.length : Int) ≤ (t : Int)) = false := by simp; omega
  have i1 : (0 : Int) ≤ (t : Int) := by omega
  have i2 : (t : Int) < (G.thr.length : Int) := by omega
  obtain ⟨b, hb⟩ : ∃ b, b = (G.thr.getD t Th.none).live := ⟨_, rfl⟩
  have hr : G.who x = if x.k = 1 ∧ b = true then 9 else if x.k ≠ 1 ∧ b = false then 14 else 0 := by unfold Gr.who; rw [if_neg hk, if_neg (by omega), hth, ← hb]
  rw [← hb] at t0
  clear hG h hb hth t1 q3 q11 g2 g3 g4 g5 g6
  by_cases h1 : x.k = 1
  · have dk1 : decide (x.k = 1) = true := by simpa using h1
    cases b
    · have e : G.who x = 0 := by rw [hr]; simp [h1]
      rw [e]
      clear hr e
      go_enter Try.func26, Try.ntmps26
      (go_wp2_with fail; repeat (go_quiet (fail); go_wp2_with fail))
      go_ret
      exact ⟨rfl, by (repeat (first | exact B0.out | refine below_drewN ?_ _))⟩
    · have e : G.who x = 9 := by rw [hr]; simp [h1]
      rw [e]
      clear hr e
      go_enter Try.func26, Try.ntmps26
      (go_wp2_with fail; repeat (go_quiet (fail); go_wp2_with fail))
      go_ret
      exact ⟨rfl, by (repeat (first | exact B0.out | refine below_drewN ?_ _))⟩
  · have dk1 : decide (x.k = 1) = false := by simpa using h1
    have dk2 : (x.k != 1) = true := by simpa using h1
    cases b
    · have e : G.who x = 14 := by rw [hr]; simp [h1]
      rw [e]
      clear hr e
      go_enter Try.func26, Try.ntmps26
      (go_wp2_with fail; repeat (go_quiet (fail); go_wp2_with fail))
      go_ret
      exact ⟨rfl, by (repeat (first | exact B0.out | refine below_drewN ?_ _))⟩
    · have e : G.who x = 0 := by rw [hr]; simp [h1]
      rw [e]
      clear hr e
      go_enter Try.func26, Try.ntmps26
      (go_wp2_with fail; repeat (go_quiet (fail); go_wp2_with fail))
      go_ret
      exact ⟨rfl, by (repeat (first | exact B0.out | refine below_drewN ?_ _))⟩
end
/- The graph's field. -/
-- What stands when only new blocks were made and written.
section
variable {w : World} {g : Nat} {c : Cfg} {G : Gr} {tb tcap nb ncap : Nat} {hv nv : List Value}
/-- A thread's values are where they were. -/
theorem Gx.hold (h : Gx 60 72 w g c G tb tcap nb ncap hv nv) {t : Nat} (hlt : t < G.thr.length) {W' : World} (hb : Below w.heap.size w W') :
    W'.cell? ⟨tb, t * 2 + 1, none⟩ = some (hv.getD t undef) ∧ Own W' 57 2 (G.thr.getD t Th.none).held.length (hv.getD t undef) (vls (G.thr.getD t Th.none).held) :=
  ⟨((h.below hb).thread hlt).2, (h.below hb).heldRow hlt⟩
/-- What field comes to. -/
def FieldR (G : Gr) (nv : List Value) (x : Stp) (e : Ending) : Prop :=
  (G.object x true ≠ 0 ∧ e = .returned (.tuple #[.pointer none, .int .i64 (G.object x true)])) ∨
  (G.object x true = 0 ∧ ∃ d cap, nv.getD (Gr.at? (G.held x.t) x.i).2.toNat undef = .slice (some ⟨d, 0, none⟩) (G.node (Gr.at? (G.held x.t) x.i).2).length cap ∧ e = .returned (.tuple #[.pointer (some ⟨d, x.f.toNat * 2, none⟩), .int .i64 0]))
theorem fieldR_no {G : Gr} {nv : List Value} {x : Stp} {c : Int} (h : G.object x true = c) (hc : c ≠ 0) : FieldR G nv x (.returned (.tuple #[.pointer none, .int .i64 c])) := .inl ⟨h ▸ hc, by rw [h]⟩
theorem fieldR_yes {G : Gr} {nv : List Value} {x : Stp} {d cap : Nat} (h : G.object x true = 0) (hn : nv.getD (Gr.at? (G.held x.t) x.i).2.toNat undef = .slice (some ⟨d, 0, none⟩) (G.node (Gr.at? (G.held x.t) x.i).2).length cap) (f : Nat) (hf : x.f = (f : Int)) :
    FieldR G nv x (.returned (.tuple #[.pointer (some ⟨d, f * 2, none⟩), .int .i64 0])) := .inr ⟨h, d, cap, hn, by rw [hf]; rfl⟩
theorem getv_out {vs : List Vl} {i : Int} (h : (vs.length : Int) ≤ i) : getv vs i = ((0, 0), false) := by unfold getv; rw [if_neg (by omega)]
theorem getv_in {vs : List Vl} {i : Int} (h0 : 0 ≤ i) (h : i < (vs.length : Int)) : getv vs i = (Gr.at? vs i, true) := by unfold getv; rw [if_pos ⟨h0, h⟩]; rfl
theorem th_at1 (w : World) (a b c : Obj) : (((w.alloc a).alloc b).alloc c).heap[w.heap.size + 1]? = some b := keep_alloc c (heap_two w a b)
theorem th_at2 (w : World) (a b c : Obj) : (((w.alloc a).alloc b).alloc c).heap[w.heap.size + 1 + 1]? = some c := by
  have h := heap_two (w.alloc a) b c
  rwa [show (w.alloc a).heap.size = w.heap.size + 1 by show (w.heap.push a).size = _; simp] at h
/-- An own of values, read. -/
theorem val_at {vs : List Vl} {i : Int} (h0 : 0 ≤ i) (h : i < (vs.length : Int)) : Gr.at? vs i ∈ vs := by
  unfold Gr.at?
  rw [List.getD_eq_getElem?_getD, List.getElem?_eq_getElem (by omega)]
  exact List.getElem_mem _
theorem Gr.Good.held_ok {G : Gr} (hg : G.Good) {t : Nat} (hlt : t < G.thr.length) {i : Int} (h0 : 0 ≤ i) (h : i < ((G.thr.getD t Th.none).held.length : Int)) : VlOk G.nod.length (Gr.at? (G.thr.getD t Th.none).held i) := by
  refine hg.vals (G.thr.getD t Th.none) ?_ _ (val_at h0 h)
  rw [List.getD_eq_getElem?_getD, List.getElem?_eq_getElem hlt]
  exact List.getElem_mem _
set_option maxHeartbeats 2000000 in
theorem gfield_any (h : Gx 60 72 w g c G tb tcap nb ncap hv nv) (hg : G.Good) (x : Stp) (t : Nat) (ht : x.t = (t : Int)) (hlt : t < G.thr.length) (hi : 0 ≤ x.i) (hf : 0 ≤ x.f) :
    Calls Try.prog 48 #[.pointer (some ⟨g, 0, none⟩), .agg x.cells] w fun e w' => FieldR G nv x e ∧ Below w.heap.size w w' := by
  have B0 := Lib.hid (below_alloc0 w (.cells x.cells 39))
  obtain ⟨g0, g1, g2, g3, g4, g5, g6⟩ := stp_box w x
  have hG := h.below B0.out
  obtain ⟨q3, q10, q11⟩ := hG.head
  rw [ht] at g1
  have i1 : (0 : Int) ≤ (t : Int) := by omega
  have i2 : (t : Int) < (G.thr.length : Int) := by omega
  have HTH : Hid (G.held x.t = (G.thr.getD t Th.none).held) := Lib.hid (by rw [ht]; rfl)
  obtain ⟨u, hu⟩ : ∃ u, u = getv (G.thr.getD t Th.none).held x.i := ⟨_, rfl⟩
  have HG := Lib.hid h
  have HU := Lib.hid hu
  have HGD := Lib.hid hg
  have G3 := Lib.hid g3
  clear h hG ht hu hg g3
  go_enter Try.func48, Try.ntmps48
  go_wp2_with fail
  go_cut [6, 7] from 8 (fun q v wc => ∃ Q, q = .pointer (some ⟨Q, 0, none⟩) ∧ v = .bool u.2 ∧ Hid (wc.heap[Q]? = some (.cells #[.int .i64 u.1.1, .int .i64 u.1.2] 57 (0, 0))) ∧ Hid (Below (w.alloc (.cells x.cells 39)).heap.size (w.alloc (.cells x.cells 39)) wc))
  case first =>
    go_region_held3 (fun w' => w'.cell? ⟨g, 10, none⟩ = some (.slice (some ⟨tb, 0, none⟩) G.thr.length tcap) ∧ w'.cell? ⟨w.heap.size, 1, none⟩ = some (.int .i64 (t : Int)) ∧ w'.cell? ⟨w.heap.size, 2, none⟩ = some (.int .i64 x.i))
      (first
        | exact ⟨q10, g1, g2⟩
        | exact ⟨cell_keep (by (repeat (first | exact (Below.refl _ _) | exact Below.refl _ _ | refine Below.drew ?_ | refine below_new ?_ _ | refine below_drewN ?_ _ | refine Below.setCell ?_ (by first | exact Nat.le_refl _ | (simp only [World.size_alloc]; omega)) _))) q10, cell_keep (by (repeat (first | exact (Below.refl _ _) | exact Below.refl _ _ | refine Below.drew ?_ | refine below_new ?_ _ | refine below_drewN ?_ _ | refine Below.setCell ?_ (by first | exact Nat.le_refl _ | (simp only [World.size_alloc]; omega)) _))) g1, cell_keep (by (repeat (first | exact (Below.refl _ _) | exact Below.refl _ _ | refine Below.drew ?_ | refine below_new ?_ _ | refine below_drewN ?_ _ | refine Below.setCell ?_ (by first | exact Nat.le_refl _ | (simp only [World.size_alloc]; omega)) _))) g2⟩)
      (first
        | (go_at_call 47; refine (gget_any _ _ _ _ (G.thr.getD t Th.none).held x.i _ (HG.out.hold hlt (by (repeat (first | exact B0.out | exact Below.refl _ _ | refine Below.drew ?_ | refine below_new ?_ _ | refine below_drewN ?_ _ | refine Below.setCell ?_ (by first | exact Nat.le_refl _ | (simp only [World.size_alloc]; omega)) _)))).1 (HG.out.hold hlt (by (repeat (first | exact B0.out | exact Below.refl _ _ | refine Below.drew ?_ | refine below_new ?_ _ | refine below_drewN ?_ _ | refine Below.setCell ?_ (by first | exact Nat.le_refl _ | (simp only [World.size_alloc]; omega)) _)))).2).mono ?_; rintro e w5 ⟨rfl, rfl⟩; rw [← HU.out]))
    all_goals
      go_wp2_with fail
      go_meet
      first
        | exact ⟨_, rfl, rfl, Lib.hid (th_at2 _ _ _ _), Lib.hid (by (repeat (first | exact (Below.refl _ _) | exact Below.refl _ _ | refine Below.drew ?_ | refine below_new ?_ _ | refine below_drewN ?_ _ | refine Below.setCell ?_ (by first | exact Nat.le_refl _ | (simp only [World.size_alloc]; omega)) _)))⟩
        | exact ⟨_, rfl, rfl, Lib.hid (th_at1 _ _ _ _), Lib.hid (by (repeat (first | exact (Below.refl _ _) | exact Below.refl _ _ | refine Below.drew ?_ | refine below_new ?_ _ | refine below_drewN ?_ _ | refine Below.setCell ?_ (by first | exact Nat.le_refl _ | (simp only [World.size_alloc]; omega)) _)))⟩
  case rest =>
    obtain ⟨Q, rfl, rfl, HQ, HB⟩ := hcut
    have B1 := Lib.hid (below_next B0.out HB.out)
    have r3 := cell_keep HB.out G3.out
    have hG := HG.out.below B1.out
    obtain ⟨-, -, q11⟩ := hG.head
    have v0 : wc.cell? ⟨Q, 0, none⟩ = some (.int .i64 u.1.1) := cell_of_row _ _ _ _ _ _ HQ.out
    have v1 : wc.cell? ⟨Q, 1, none⟩ = some (.int .i64 u.1.2) := cell_of_row _ _ _ _ _ _ HQ.out
    clear g0 g1 g2 g4 g5 g6 q3 q10
    by_cases ho : ((G.thr.getD t Th.none).held.length : Int) ≤ x.i
    · have hob : G.object x true = 4 := by unfold Gr.object; rw [HTH.out, if_pos ho]
      have hu := HU.out
      rw [getv_out ho] at hu
      subst hu
      clear hG
      go_wp2_with fail
      go_ret2
      exact ⟨fieldR_no hob (by decide), B1.out⟩
    have hok := HGD.out.held_ok hlt hi (by omega : x.i < _)
    have hu := HU.out
    rw [getv_in hi (by omega)] at hu
    obtain ⟨v, hv1⟩ : ∃ v, v = Gr.at? (G.thr.getD t Th.none).held x.i := ⟨_, rfl⟩
    rw [← hv1] at hu hok
    subst hu
    have HV1 := Lib.hid hv1
    clear hv1
    by_cases hk : v.1 ≠ 2
    · have hob : G.object x true = 12 := by unfold Gr.object; rw [HTH.out, if_neg ho, ← HV1.out, if_pos hk]
      have dk : (v.1 != 2) = true := by simpa using hk
      clear hG
      go_wp2_with fail
      go_ret2
      exact ⟨fieldR_no hob (by decide), B1.out⟩
    have dk : (v.1 != 2) = false := by simpa using hk
    have hk : v.1 = 2 := by omega
    obtain ⟨hs0, hs1⟩ := hok.2 hk
    obtain ⟨s, hs⟩ : ∃ s : Nat, v.2 = (s : Int) := ⟨v.2.toNat, by omega⟩
    have hsl : s < G.nod.length := by omega
    obtain ⟨n0, n1⟩ := hG.nodeRow hsl
    have i3 : (0 : Int) ≤ (s : Int) := by omega
    have i4 : (s : Int) < (G.nod.length : Int) := by omega
    rw [hs] at v1
    have hnode : G.node (Gr.at? (G.held x.t) x.i).2 = G.nod.getD s [] := by rw [HTH.out, ← HV1.out, hs]; rfl
    obtain ⟨p, cap, hp, hcap, hpb⟩ := own_slice n1
    rw [hp] at n0
    clear n1
    have HP := Lib.hid hp
    have HN := Lib.hid hnode
    have HS : Hid (G.node (s : Int) = G.nod.getD s []) := Lib.hid rfl
    clear hp hnode
    generalize G.nod.getD s [] = L at *
    by_cases hfl : (L.length : Int) ≤ x.f
    · have hob : G.object x true = 4 := by unfold Gr.object; rw [HTH.out, if_neg ho, ← HV1.out, if_neg (by omega), if_pos ⟨rfl, by rw [hs, HS.out]; exact hfl⟩]
      have df : decide ((L.length : Int) ≤ x.f) = true := by simpa using hfl
      clear hG
      go_wp2_with fail
      go_quiet (fail)
      go_wp2_with fail
      go_ret2
      exact ⟨fieldR_no hob (by decide), by (repeat (first | exact B1.out | exact Below.refl _ _ | refine Below.drew ?_ | refine below_new ?_ _ | refine below_drewN ?_ _ | refine Below.setCell ?_ (by first | exact Nat.le_refl _ | (simp only [World.size_alloc]; omega)) _))⟩
    · have hob : G.object x true = 0 := by
        unfold Gr.object; rw [HTH.out, if_neg ho, ← HV1.out, if_neg (by omega), if_neg (fun hh => hfl (by have := hh.2; rw [hs, HS.out] at this; exact this))]
      obtain ⟨f, hff⟩ : ∃ f : Nat, x.f = (f : Int) := ⟨x.f.toNat, by omega⟩
      rw [hff] at r3 hfl
      have df : decide (L.length ≤ f) = false := by simp; omega
      obtain ⟨d, rfl⟩ := hpb (by omega)
      have i5 : (0 : Int) ≤ (f : Int) := by omega
      have i6 : (f : Int) < (L.length : Int) := by omega
      clear hG
      go_wp2_with fail
      go_quiet (fail)
      go_wp2_with fail
      go_quiet (fail)
      go_wp2_with fail
      go_ret2
      refine ⟨fieldR_yes (cap := cap) hob ?_ f hff, by (repeat (first | exact B1.out | exact Below.refl _ _ | refine Below.drew ?_ | refine below_new ?_ _ | refine below_drewN ?_ _ | refine Below.setCell ?_ (by first | exact Nat.le_refl _ | (simp only [World.size_alloc]; omega)) _))⟩
      rw [HN.out, HTH.out, ← HV1.out, hs]
      exact HP.out
end
end Go.Proofs.Ytaefcmmjeloccaa
