/- The law's few, code; alive. -/
import Derived.Test.YtaefcmmjeloccaaGrR
import Derived.Test.YtaefcmmjeloccaaRdx
import Derived.Test.YtaefcmmjeloccaaBnd0
namespace Go.Proofs.Ytaefcmmjeloccaa
open Go.RowKit

theorem gfew_any (A : Option Addr) (n cap : Nat) (hc : n ≤ cap) (w : World) :
    Calls Try.prog 10 #[.slice A n cap] w fun e w' => (∃ cap', min n 80 ≤ cap' ∧ e = .returned (.slice A (min n 80) cap')) ∧ w = w' := by
  by_cases h : 80 < n
  · have hd : decide ((80 : Int) < (n : Int)) = true := by rw [decide_eq_true_eq]; omega
    have i2 : (80 : Int) ≤ (cap : Int) := by omega
    rw [Nat.min_eq_right (by omega)]
    go_enter Try.func10, Try.ntmps10
    go_wp2_with fail
    go_ret
    exact ⟨⟨cap, by omega, rfl⟩, rfl⟩
  · have hd : decide ((80 : Int) < (n : Int)) = false := by rw [decide_eq_false_iff_not]; omega
    rw [Nat.min_eq_left (by omega)]
    go_enter Try.func10, Try.ntmps10
    go_wp2_with fail
    go_ret
    exact ⟨⟨cap, hc, rfl⟩, rfl⟩
theorem gcode_any (A : Option Addr) (n cap : Nat) (xs : List Int) (i : Nat) (w : World) (h : RdI w A n xs) :
    Calls Try.prog 12 #[.slice A n cap, .int .i64 i] w fun e w' => e = .returned (.int .i64 (xs.getD i 0)) ∧ w = w' := by
  by_cases hlt : i < n
  · obtain ⟨b, o, rfl, _, hcell⟩ := h.cell (by omega)
    have c := hcell i hlt
    have hd : decide ((i : Int) < (n : Int)) = true := by simpa using hlt
    have i1 : (0 : Int) ≤ (i : Int) := by omega
    have i2 : (i : Int) < (n : Int) := by omega
    clear hcell h
    go_enter Try.func12, Try.ntmps12
    go_wp2_with fail
    go_ret
    exact ⟨rfl, rfl⟩
  · have hd : decide ((i : Int) < (n : Int)) = false := by simpa using hlt
    have e : xs.getD i 0 = 0 := by rw [List.getD_eq_getElem?_getD, List.getElem?_eq_none (by rw [h.len]; omega)]; rfl
    rw [e]
    clear h
    go_enter Try.func12, Try.ntmps12
    go_wp2_with fail
    go_ret
    exact ⟨rfl, rfl⟩
theorem gdo_gl {B : Nat} {w : World} {g : Nat} {c : Cfg} {G G' : Gr} {fp : List Nat} (h : GA B w g c G fp) (hg : G.Good) (k t i f j co n no : Int) {a1 a2 a3 a4 a5 : Int} (hr : G.out c.q ⟨k, t, i, f, j, co, n⟩ no = (⟨a1, a2, a3, a4, a5⟩, G')) :
    Calls Try.prog 11 #[.pointer (some ⟨g, 0, none⟩), .agg #[.int .i64 k, .int .i64 t, .int .i64 i, .int .i64 f, .int .i64 j, .int .i64 co, .int .i64 n], .int .i64 no] w fun e w' => e = .returned (.agg #[.int .i64 a1, .int .i64 a2, .int .i64 a3, .int .i64 a4, .int .i64 a5]) ∧ w.heap.size ≤ w'.heap.size ∧ ∃ fp', GA B w' g c G' fp' ∧ Stays fp fp' w w' ∧ Below B w w' := by
  have := gdo_ga h hg ⟨k, t, i, f, j, co, n⟩ no
  rw [hr] at this
  exact this
theorem gnew_zero (w : World) :
    Calls Try.prog 7 #[.agg #[.int .i64 0, .int .i64 0, .int .i64 0, .int .i64 0, .int .i64 0, .int .i64 0, .int .i64 0, .int .i64 0, .int .i64 0, .int .i64 0]] w fun e w' => e = .returned (.tuple #[.pointer none, .int .i64 6]) ∧ Below w.heap.size w w' :=
  gnew_bad ⟨0, 0, 0, 0, 0, 0, 0, 0, 0, 0⟩ (by decide) w
abbrev ga0 : Gr := Gr.fresh usual
theorem view_first {w : World} {B : Nat} {p1 : Option Addr} {n1 d1 : Nat} {nv : Value} {rs : List (List Vl)} {ns : List (Int × List Vl)} (h : Vw w B (.slice p1 n1 d1) nv rs ns) (h0 : 0 < rs.length) : ∃ b q qc, p1 = some ⟨b, 0, none⟩ ∧ w.cell? ⟨b, 0, none⟩ = some (.slice q (rs.getD 0 []).length qc) := by
  obtain ⟨xs, hx, hxc⟩ := h.roots
  obtain ⟨b, c, hv⟩ := own_pos (own_mono hx (Nat.zero_le _)) h0
  simp only [Value.slice.injEq] at hv
  obtain ⟨rfl, rfl, rfl⟩ := hv
  have h1 := hxc.own 0 h0
  obtain ⟨q, qc, hq, -, -⟩ := own_slice h1
  refine ⟨b, q, qc, rfl, ?_⟩
  have hl := hx.1
  rw [(own_mono hx (Nat.zero_le _) : Own _ _ _ _ _ _).cellAt 0 (by omega), ← hq, List.getD_eq_getElem?_getD, List.getElem?_eq_getElem (by omega)]; rfl
theorem gmade_eq {B : Nat} {w : World} {g : Nat} {c : Cfg} {G : Gr} {fp : List Nat} (h : GA B w g c G fp) (hg : G.Good) (m : Int) (hm : (G.nod.length : Int) = m) :
    Calls Try.prog 17 #[.pointer (some ⟨g, 0, none⟩)] w fun e w' => e = .returned (.int .i64 m) ∧ w = w' := by
  rw [← hm]; exact gmade_ga h hg
theorem glive_eq {B : Nat} {w : World} {g : Nat} {c : Cfg} {G : Gr} {fp : List Nat} (h : GA B w g c G fp) (hg : G.Good) {xs : List Int} (hx : G.liveTo G.thr.length = xs) :
    Calls Try.prog 19 #[.pointer (some ⟨g, 0, none⟩)] w fun e w' => ∃ s, e = .returned s ∧ w'.ownsRow w.heap.size 3 1 s xs.length (xs.map (Value.int .i64)) ∧ Below w.heap.size w w' := by
  rw [← hx]; exact glive_ga h hg
def ga1 : Gr := (ga0.out 4 ⟨1, 0, 0, 0, 0, 0, 0⟩ 0).2
def ga2 : Gr := (ga1.out 4 ⟨3, 0, 0, 0, 0, 1, 3⟩ 0).2
theorem ga0_good : ga0.Good := Gr.fresh_good (by decide)
theorem ga1_eq : ga0.out usual.q ⟨1, 0, 0, 0, 0, 0, 0⟩ 0 = (⟨0, 0, 0, 0, 0⟩, ga1) := rfl
theorem ga2_eq : ga1.out usual.q ⟨3, 0, 0, 0, 0, 1, 3⟩ 0 = (⟨0, 2, 1, 0, 0⟩, ga2) := rfl
theorem ga3_eq : ga2.out usual.q ⟨3, 0, 0, 0, 0, 1, 3⟩ 10 = (⟨10, 0, 0, 0, 0⟩, ga2) := rfl
theorem ga1_good : ga1.Good := (ga0_good.out (by decide) 4 ⟨1, 0, 0, 0, 0, 0, 0⟩ 0).1
theorem ga2_good : ga2.Good := (ga1_good.out (by decide) 4 ⟨3, 0, 0, 0, 0, 1, 3⟩ 0).1
theorem ga2_nodes : ga2.vNodes.length = 2 := by rfl
theorem ga2_roots : ga2.vRoots.length = 4 := by rfl
theorem ga2_root : (ga2.vRoots.getD 0 []).length = 1 := by rfl
theorem ga2_made : ga2.nod.length = 2 := by rfl
theorem ga2_live : ga2.liveTo ga2.thr.length = [0] := by rfl
theorem gusual_wrong : usual.wrong = 0 := by decide
set_option maxHeartbeats 8000000 in
set_option maxRecDepth 100000 in
theorem galive_any (w : World) :
    Calls Try.prog 6 #[] w fun e w' => e = .returned (.bool true) ∧ Below w.heap.size w w' := by
  go_enter Try.func6, Try.ntmps6
  go_wp2_with (first
    | (go_at_call 20; ((with_reducible refine (usual_any _).mono ?_); rintro e w1 ⟨rfl, hb1⟩; have B1 := Lib.hid hb1; clear hb1))
    | (go_at_call 7; ((with_reducible refine (gnew_ga usual gusual_wrong _).mono ?_); rintro e w2 ⟨g, fp0, rfl, hb2, hga⟩; have B2 := Lib.hid (below_next B1.out hb2); have G2 := Lib.hid hga; clear hb2 hga))
    | (go_at_call 7; ((with_reducible refine (gnew_zero _).mono ?_); rintro e w3 ⟨rfl, hb3⟩; have B3 := Lib.hid (below_next B2.out hb3); have G3 := Lib.hid (G2.out.below hb3); clear hb3))
    | (go_at_call 11; ((with_reducible refine (gdo_gl G3.out ga0_good 1 0 0 0 0 0 0 0 ga1_eq).mono ?_); rintro e w4 ⟨rfl, -, fp1, hga, -, hb4⟩; have B4 := Lib.hid (B3.out.trans (hb4.mono B1.out.size)); have G4 := Lib.hid hga; clear hb4 hga))
    | (go_at_call 11; ((with_reducible refine (gdo_gl (G4.out.below (below_alloc0 w4 _)) ga1_good 3 0 0 0 0 1 3 0 ga2_eq).mono ?_); rintro e w5 ⟨rfl, -, fp2, hga, hst, hb5⟩; have B5 := Lib.hid ((below_new B4.out _).trans (hb5.mono B1.out.size)); have G5 := Lib.hid hga; have P5 := Lib.hid (hst _ _ (heap_alloc_new w4 _) (G4.out.new (Nat.le_refl _))); clear hb5 hga hst))
    | (go_at_call 11; ((with_reducible refine (gdo_gl (G5.out.below (below_alloc0 w5 _)) ga2_good 3 0 0 0 0 1 3 10 ga3_eq).mono ?_); rintro e w6 ⟨rfl, -, fp3, hga, hst, hb6⟩; have B6 := Lib.hid ((below_new B5.out _).trans (hb6.mono B1.out.size)); have G6 := Lib.hid hga; have P6 := Lib.hid (hst _ _ (keep_alloc _ P5.out.1) P5.out.2); have Q6 := Lib.hid (hst _ _ (heap_alloc_new w5 _) (G5.out.new (Nat.le_refl _))); clear hb6 hga hst))
    | (go_at_call 15; ((with_reducible refine (gview_ga (G6.out.below (below_alloc0 w6 _)) ga2_good).mono ?_); rintro e w7 ⟨p1, n1, d1, p2, n2, d2, rfl, hn1, hn2, hvw, hb7⟩; have B7 := Lib.hid (below_next (below_new B6.out _) hb7); have G7 := Lib.hid ((G6.out.below (below_alloc0 w6 _)).below hb7); have P7 := Lib.hid (keep hb7 (keep_alloc _ P6.out.1)); have Q7 := Lib.hid (keep hb7 (keep_alloc _ Q6.out.1)); have R7 := Lib.hid (keep hb7 (heap_alloc_new w6 _)); obtain rfl : n1 = 4 := hn1.trans ga2_roots; obtain rfl : n2 = 2 := hn2.trans ga2_nodes; obtain ⟨b1, q1, qc1, rfl, hc1⟩ := view_first hvw (by rw [ga2_roots]; decide); rw [ga2_root] at hc1; have c1A := fun o => cell_keep (below_alloc0 w7 o) hc1; clear hb7 hvw hn1 hn2 hc1))
    | (refine gate_guard (by rfl) ?_; refine wpList_load_row rfl 36 _ rfl w4.heap.size rfl 36 _ (0, 0) _ (keep_alloc _ P7.out) Try.underlying36 rfl (by kernel_rfl) ?_)
    | (refine gate_guard (by rfl) ?_; refine wpList_load_row rfl 36 _ rfl w5.heap.size rfl 36 _ (0, 0) _ (keep_alloc _ Q7.out) Try.underlying36 rfl (by kernel_rfl) ?_)
    | (refine gate_guard (by rfl) ?_; refine wpList_load_row rfl 36 _ rfl w6.heap.size rfl 36 _ (0, 0) _ (keep_alloc _ R7.out) Try.underlying36 rfl (by kernel_rfl) ?_)
    | (go_at_call 17; ((with_reducible refine (gmade_eq (G7.out.below (below_alloc0 w7 _)) ga2_good 2 (by simp [ga2_made])).mono ?_); rintro e w8 ⟨rfl, rfl⟩))
    | (go_at_call 19; ((with_reducible refine (glive_eq (G7.out.below (below_alloc0 w7 _)) ga2_good ga2_live).mono ?_); rintro e w8 ⟨s8, rfl, ho8, hb8⟩; have O8 := Lib.hid ho8; have B8 := Lib.hid (below_next (below_new B7.out _) hb8); clear ho8 hb8))
    | (go_at_call 21; ((with_reducible refine (pints_same 1 (by decide) s8 _ [0] _ _ _ (pw_own_keep O8.out (below_alloc0 w8 _)) (own_new [.int .i64 0] w8.heap.size 1 rfl (Nat.le_refl _) rfl (by decide))).mono ?_); rintro e w9 ⟨rfl, m9, rfl⟩)))
  go_ret
  exact ⟨rfl, below_drewN (below_new B8.out _) _⟩
end Go.Proofs.Ytaefcmmjeloccaa
