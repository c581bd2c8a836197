/- The reference graph: Code. -/
import Derived.Test.YtaefcmmjeloccaaGsA
import Derived.Test.YtaefcmmjeloccaaGsC
import Derived.Test.YtaefcmmjeloccaaStp3
namespace Go.Proofs.Ytaefcmmjeloccaa
open Go.RowKit

section
variable {w : World} {g : Nat} {c : Cfg} {G : Gr} {tb tcap nb ncap : Nat} {hv nv : List Value}
set_option maxHeartbeats 4000000 in
set_option maxRecDepth 100000 in
theorem rcode_check (h : Gx 50 85 w g c G tb tcap nb ncap hv nv) (_hg : G.Good) (x : Stp) (hc : x.check ≠ 0) :
    Calls Try.prog 34 #[.pointer (some ⟨g, 0, none⟩), .agg x.cells] w fun e w' => e = .returned (.int .i64 (G.code c.q x)) ∧ Below w.heap.size w w' := by
  have B0 := Lib.hid (below_alloc0 w (.cells x.cells 39))
  have S0 := Lib.hid (heap_alloc_new w (.cells x.cells 39))
  have HG := Lib.hid h
  have HR : Hid (G.code c.q x = x.check) := Lib.hid (by unfold Gr.code; rw [if_pos hc])
  obtain ⟨cc, hcc⟩ : ∃ cc, x.check = cc := ⟨_, rfl⟩
  have HC := Lib.hid hcc
  rw [hcc] at HR hc
  have d1 : (cc != 0) = true := by simpa using hc
  clear h _hg hc hcc
  go_enter Try.func34, Try.ntmps34
  go_wp2_with (first
    | (refine wpList_load_row rfl 39 _ rfl w.heap.size rfl 39 x.cells (0, 0) _ ?_ Try.underlying39 rfl (by kernel_rfl) ?_; first | exact Hid.out (by assumption) | exact S6.out)
    | (go_at_call 49; refine (rcheck_any x _).mono ?_; rw [HC.out]; rintro e w4 ⟨rfl, hb4⟩; have B4 : Hid (Below w.heap.size w w4) := Lib.hid (below_next B0.out hb4); have S4 := Lib.hid (keep hb4 S0.out); clear hb4 S0))
  go_ret
  exact ⟨by rw [HR.out]; rfl, B4.out⟩
set_option maxHeartbeats 4000000 in
set_option maxRecDepth 100000 in
theorem rcode_who (h : Gx 50 85 w g c G tb tcap nb ncap hv nv) (_hg : G.Good) (x : Stp) (hc : x.check = 0) (hw : G.who x ≠ 0) :
    Calls Try.prog 34 #[.pointer (some ⟨g, 0, none⟩), .agg x.cells] w fun e w' => e = .returned (.int .i64 (G.code c.q x)) ∧ Below w.heap.size w w' := by
  have B0 := Lib.hid (below_alloc0 w (.cells x.cells 39))
  have S0 := Lib.hid (heap_alloc_new w (.cells x.cells 39))
  have HG := Lib.hid h
  obtain ⟨-, hrn, -⟩ := Stp.check_zero hc
  obtain ⟨ht0, -, -, -⟩ := rng_of hrn
  have HR : Hid (G.code c.q x = G.who x) := Lib.hid (by unfold Gr.code; rw [if_neg (by rw [hc]; simp), if_pos hw])
  have HC := Lib.hid hc
  obtain ⟨cc, hcc⟩ : ∃ cc, G.who x = cc := ⟨_, rfl⟩
  have HW := Lib.hid hcc
  rw [hcc] at HR hw
  have d1 : (cc != 0) = true := by simpa using hw
  clear h _hg hc hcc hw hrn
  go_enter Try.func34, Try.ntmps34
  go_wp2_with (first
    | (refine wpList_load_row rfl 39 _ rfl w.heap.size rfl 39 x.cells (0, 0) _ ?_ Try.underlying39 rfl (by kernel_rfl) ?_; first | exact Hid.out (by assumption) | exact S6.out)
    | (go_at_call 49; refine (rcheck_any x _).mono ?_; rw [HC.out]; rintro e w4 ⟨rfl, hb4⟩; have B4 : Hid (Below w.heap.size w w4) := Lib.hid (below_next B0.out hb4); have S4 := Lib.hid (keep hb4 S0.out); clear hb4 S0)
    | (go_at_call 50; refine (rwho_any (HG.out.below B4.out) x ht0).mono ?_; rw [HW.out]; rintro e w5 ⟨rfl, hb5⟩; have B5 : Hid (Below w.heap.size w w5) := Lib.hid (below_next B4.out hb5); have S5 := Lib.hid (keep hb5 S4.out); clear hb5 S4))
  go_ret
  exact ⟨by rw [HR.out]; rfl, B5.out⟩
set_option maxHeartbeats 4000000 in
set_option maxRecDepth 100000 in
theorem rcode_num (h : Gx 50 85 w g c G tb tcap nb ncap hv nv) (_hg : G.Good) (x : Stp) (hc : x.check = 0) (hw : G.who x = 0) (hn : Gr.numBad c.q x = true) :
    Calls Try.prog 34 #[.pointer (some ⟨g, 0, none⟩), .agg x.cells] w fun e w' => e = .returned (.int .i64 (G.code c.q x)) ∧ Below w.heap.size w w' := by
  have B0 := Lib.hid (below_alloc0 w (.cells x.cells 39))
  have S0 := Lib.hid (heap_alloc_new w (.cells x.cells 39))
  have HG := Lib.hid h
  obtain ⟨-, hrn, -⟩ := Stp.check_zero hc
  obtain ⟨ht0, -, -, -⟩ := rng_of hrn
  have HR : Hid (G.code c.q x = 4) := Lib.hid (by unfold Gr.code; rw [if_neg (by rw [hc]; simp), if_neg (by rw [hw]; simp), if_pos hn])
  have HC := Lib.hid hc
  have HW := Lib.hid hw
  have HN := Lib.hid hn
  clear h _hg hc hw hn hrn
  go_enter Try.func34, Try.ntmps34
  go_wp2_with (first
    | (refine wpList_load_row rfl 39 _ rfl w.heap.size rfl 39 x.cells (0, 0) _ ?_ Try.underlying39 rfl (by kernel_rfl) ?_; first | exact Hid.out (by assumption) | exact S6.out)
    | (go_at_call 49; refine (rcheck_any x _).mono ?_; rw [HC.out]; rintro e w4 ⟨rfl, hb4⟩; have B4 : Hid (Below w.heap.size w w4) := Lib.hid (below_next B0.out hb4); have S4 := Lib.hid (keep hb4 S0.out); clear hb4 S0)
    | (go_at_call 50; refine (rwho_any (HG.out.below B4.out) x ht0).mono ?_; rw [HW.out]; rintro e w5 ⟨rfl, hb5⟩; have B5 : Hid (Below w.heap.size w w5) := Lib.hid (below_next B4.out hb5); have S5 := Lib.hid (keep hb5 S4.out); clear hb5 S4)
    | (go_at_call 51; refine (rnumbers_any (HG.out.below B5.out) x).mono ?_; rw [HN.out, if_pos rfl]; rintro e w6 ⟨rfl, hb6⟩; have B6 : Hid (Below w.heap.size w w6) := Lib.hid (below_next B5.out hb6); have S6 := Lib.hid (keep hb6 S5.out); clear hb6 S5))
  go_ret
  exact ⟨by rw [HR.out]; rfl, B6.out⟩
set_option maxHeartbeats 4000000 in
set_option maxRecDepth 100000 in
theorem rcode_far (h : Gx 50 85 w g c G tb tcap nb ncap hv nv) (_hg : G.Good) (x : Stp) (hc : x.check = 0) (hw : G.who x = 0) (hn : Gr.numBad c.q x = false) (hk : x.k < 3 ∨ 12 < x.k) :
    Calls Try.prog 34 #[.pointer (some ⟨g, 0, none⟩), .agg x.cells] w fun e w' => e = .returned (.int .i64 (G.code c.q x)) ∧ Below w.heap.size w w' := by
  have B0 := Lib.hid (below_alloc0 w (.cells x.cells 39))
  have S0 := Lib.hid (heap_alloc_new w (.cells x.cells 39))
  have HG := Lib.hid h
  obtain ⟨hk17, hrn, -⟩ := Stp.check_zero hc
  obtain ⟨ht0, -, -, -⟩ := rng_of hrn
  have HR : Hid (G.code c.q x = 0) := Lib.hid (by
    rw [code_after hc hw hn]
    have : x.k.toNat = 1 ∨ x.k.toNat = 2 ∨ x.k.toNat = 13 ∨ x.k.toNat = 14 ∨ x.k.toNat = 15 ∨ x.k.toNat = 16 ∨ x.k.toNat = 17 := by omega
    unfold Gr.after
    rcases this with e | e | e | e | e | e | e <;> rw [e] <;> rfl)
  have HC := Lib.hid hc
  have HW := Lib.hid hw
  have HN := Lib.hid hn
  obtain ⟨b1, h1⟩ : ∃ b, decide (x.k < 3) = b := ⟨_, rfl⟩
  obtain ⟨b2, h2⟩ : ∃ b, decide (12 < x.k) = b := ⟨_, rfl⟩
  have hb : (b1 || b2) = true := by rw [← h1, ← h2]; simpa using hk
  clear h _hg hc hw hn hrn hk hk17
  cases b1 <;> cases b2
  · cases hb
  all_goals
    go_enter Try.func34, Try.ntmps34
    go_wp2_with (first
      | (refine wpList_load_row rfl 39 _ rfl w.heap.size rfl 39 x.cells (0, 0) _ ?_ Try.underlying39 rfl (by kernel_rfl) ?_; first | exact Hid.out (by assumption) | exact S6.out)
      | (go_at_call 49; refine (rcheck_any x _).mono ?_; rw [HC.out]; rintro e w4 ⟨rfl, hb4⟩; have B4 : Hid (Below w.heap.size w w4) := Lib.hid (below_next B0.out hb4); have S4 := Lib.hid (keep hb4 S0.out); clear hb4 S0)
      | (go_at_call 50; refine (rwho_any (HG.out.below B4.out) x ht0).mono ?_; rw [HW.out]; rintro e w5 ⟨rfl, hb5⟩; have B5 : Hid (Below w.heap.size w w5) := Lib.hid (below_next B4.out hb5); have S5 := Lib.hid (keep hb5 S4.out); clear hb5 S4)
      | (go_at_call 51; refine (rnumbers_any (HG.out.below B5.out) x).mono ?_; rw [HN.out, if_neg (by decide)]; rintro e w6 ⟨rfl, hb6⟩; have B6 : Hid (Below w.heap.size w w6) := Lib.hid (below_next B5.out hb6); have S6 := Lib.hid (keep hb6 S5.out); clear hb6 S5; have s0 : w6.cell? ⟨w.heap.size, 0, none⟩ = some (.int .i64 x.k) := cell_of_row _ _ _ _ _ _ S6.out))
    go_ret
    exact ⟨by rw [HR.out]; rfl, B6.out⟩
set_option maxHeartbeats 4000000 in
set_option maxRecDepth 100000 in
theorem rcode_3 (h : Gx 50 85 w g c G tb tcap nb ncap hv nv) (hg : G.Good) (x : Stp) (hc : x.check = 0) (hw : G.who x = 0) (hn : Gr.numBad c.q x = false) (hk : x.k = 3) :
    Calls Try.prog 34 #[.pointer (some ⟨g, 0, none⟩), .agg x.cells] w fun e w' => e = .returned (.int .i64 (G.code c.q x)) ∧ Below w.heap.size w w' := by
  have B0 := Lib.hid (below_alloc0 w (.cells x.cells 39))
  have S0 := Lib.hid (heap_alloc_new w (.cells x.cells 39))
  have HG := Lib.hid h
  obtain ⟨-, hrn, -⟩ := Stp.check_zero hc
  obtain ⟨ht0, hi0, hf0, hj0⟩ := rng_of hrn
  have hlt' := who_zero (by omega) hw
  obtain ⟨t, ht⟩ : ∃ t : Nat, x.t = (t : Int) := ⟨x.t.toNat, by omega⟩
  have hlt : t < G.thr.length := by omega
  have HT := Lib.hid ht
  obtain ⟨n, hln⟩ : ∃ n, n = (G.held x.t).length := ⟨_, rfl⟩
  have HGD := Lib.hid hg
  have HLT := Lib.hid hlt
  have i1 : (0 : Int) ≤ (t : Int) := by omega
  have i2 : (t : Int) < (G.thr.length : Int) := by omega
  obtain ⟨p, cap, hp, -, -⟩ := own_slice (h.heldRow hlt)
  have hlen : (G.thr.getD t Th.none).held.length = n := by rw [hln, ht]; rfl
  rw [hlen] at hp
  have TH := Lib.hid fun (W : World) (hb : Below w.heap.size w W) => And.intro (HG.out.below hb).head.2.1 (show W.cell? ⟨tb, t * 2 + 1, none⟩ = some (.slice p n cap) from ((HG.out.below hb).thread hlt).2.trans (by rw [hp]))
  obtain ⟨bf, hbf⟩ : ∃ b, decide (16 ≤ n) = b := ⟨_, rfl⟩
  have hbf0 : decide ((16 : Int) ≤ (n : Int)) = bf := by rw [← hbf, decide_eq_decide]; omega
  have HR : Hid (G.code c.q x = (if bf = true then 3 else 0)) := Lib.hid (by
    rw [code_after hc hw hn]
    unfold Gr.after
    rw [show x.k.toNat = 3 by omega]
    simp only [← hln, ← hbf]
    simp)
  have HC := Lib.hid hc
  have HW := Lib.hid hw
  have HN := Lib.hid hn
  have HK := Lib.hid hk
  clear h hg hc hw hn hrn hk hp hlen hln ht hlt' hlt
  cases bf
  all_goals
    go_enter Try.func34, Try.ntmps34
    go_wp2_with (first
      | (refine wpList_load_row rfl 39 _ rfl w.heap.size rfl 39 x.cells (0, 0) _ ?_ Try.underlying39 rfl (by kernel_rfl) ?_; first | exact Hid.out (by assumption) | exact S6.out)
      | (go_at_call 49; refine (rcheck_any x _).mono ?_; rw [HC.out]; rintro e w4 ⟨rfl, hb4⟩; have B4 : Hid (Below w.heap.size w w4) := Lib.hid (below_next B0.out hb4); have S4 := Lib.hid (keep hb4 S0.out); clear hb4 S0)
      | (go_at_call 50; refine (rwho_any (HG.out.below B4.out) x ht0).mono ?_; rw [HW.out]; rintro e w5 ⟨rfl, hb5⟩; have B5 : Hid (Below w.heap.size w w5) := Lib.hid (below_next B4.out hb5); have S5 := Lib.hid (keep hb5 S4.out); clear hb5 S4)
      | (go_at_call 51; refine (rnumbers_any (HG.out.below B5.out) x).mono ?_; rw [HN.out, if_neg (by decide)]; rintro e w6 ⟨rfl, hb6⟩; have B6 : Hid (Below w.heap.size w w6) := Lib.hid (below_next B5.out hb6); have S6 := Lib.hid (keep hb6 S5.out); clear hb6 S5; have s0 : w6.cell? ⟨w.heap.size, 0, none⟩ = some (.int .i64 x.k) := cell_of_row _ _ _ _ _ _ S6.out; have s1 : w6.cell? ⟨w.heap.size, 1, none⟩ = some (.int .i64 x.t) := cell_of_row _ _ _ _ _ _ S6.out; have s2 : w6.cell? ⟨w.heap.size, 2, none⟩ = some (.int .i64 x.i) := cell_of_row _ _ _ _ _ _ S6.out; have s4 : w6.cell? ⟨w.heap.size, 4, none⟩ = some (.int .i64 x.j) := cell_of_row _ _ _ _ _ _ S6.out; rw [HK.out] at s0; rw [HT.out] at s1; obtain ⟨q10, t1⟩ := TH.out w6 B6.out))
    go_quiet (fail)
    go_wp2_with fail
    go_ret
    exact ⟨by rw [HR.out]; rfl, by (repeat (first | exact B6.out | refine below_drewN ?_ _))⟩
set_option maxHeartbeats 4000000 in
set_option maxRecDepth 100000 in
theorem rcode_4 (h : Gx 50 85 w g c G tb tcap nb ncap hv nv) (hg : G.Good) (x : Stp) (hc : x.check = 0) (hw : G.who x = 0) (hn : Gr.numBad c.q x = false) (hk : x.k = 4) :
    Calls Try.prog 34 #[.pointer (some ⟨g, 0, none⟩), .agg x.cells] w fun e w' => e = .returned (.int .i64 (G.code c.q x)) ∧ Below w.heap.size w w' := by
  have B0 := Lib.hid (below_alloc0 w (.cells x.cells 39))
  have S0 := Lib.hid (heap_alloc_new w (.cells x.cells 39))
  have HG := Lib.hid h
  obtain ⟨-, hrn, -⟩ := Stp.check_zero hc
  obtain ⟨ht0, hi0, hf0, hj0⟩ := rng_of hrn
  have hlt' := who_zero (by omega) hw
  obtain ⟨t, ht⟩ : ∃ t : Nat, x.t = (t : Int) := ⟨x.t.toNat, by omega⟩
  have hlt : t < G.thr.length := by omega
  have HT := Lib.hid ht
  obtain ⟨n, hln⟩ : ∃ n, n = (G.held x.t).length := ⟨_, rfl⟩
  have HGD := Lib.hid hg
  have HLT := Lib.hid hlt
  have i1 : (0 : Int) ≤ (t : Int) := by omega
  have i2 : (t : Int) < (G.thr.length : Int) := by omega
  obtain ⟨p, cap, hp, -, -⟩ := own_slice (h.heldRow hlt)
  have hlen : (G.thr.getD t Th.none).held.length = n := by rw [hln, ht]; rfl
  rw [hlen] at hp
  have TH := Lib.hid fun (W : World) (hb : Below w.heap.size w W) => And.intro (HG.out.below hb).head.2.1 (show W.cell? ⟨tb, t * 2 + 1, none⟩ = some (.slice p n cap) from ((HG.out.below hb).thread hlt).2.trans (by rw [hp]))
  obtain ⟨bf, hbf⟩ : ∃ b, decide (16 ≤ n) = b := ⟨_, rfl⟩
  have hbf0 : decide ((16 : Int) ≤ (n : Int)) = bf := by rw [← hbf, decide_eq_decide]; omega
  have HR : Hid (G.code c.q x = (if bf = true then 3 else 0)) := Lib.hid (by
    rw [code_after hc hw hn]
    unfold Gr.after
    rw [show x.k.toNat = 4 by omega]
    simp only [← hln, ← hbf]
    simp)
  have HC := Lib.hid hc
  have HW := Lib.hid hw
  have HN := Lib.hid hn
  have HK := Lib.hid hk
  clear h hg hc hw hn hrn hk hp hlen hln ht hlt' hlt
  cases bf
  all_goals
    go_enter Try.func34, Try.ntmps34
    go_wp2_with (first
      | (refine wpList_load_row rfl 39 _ rfl w.heap.size rfl 39 x.cells (0, 0) _ ?_ Try.underlying39 rfl (by kernel_rfl) ?_; first | exact Hid.out (by assumption) | exact S6.out)
      | (go_at_call 49; refine (rcheck_any x _).mono ?_; rw [HC.out]; rintro e w4 ⟨rfl, hb4⟩; have B4 : Hid (Below w.heap.size w w4) := Lib.hid (below_next B0.out hb4); have S4 := Lib.hid (keep hb4 S0.out); clear hb4 S0)
      | (go_at_call 50; refine (rwho_any (HG.out.below B4.out) x ht0).mono ?_; rw [HW.out]; rintro e w5 ⟨rfl, hb5⟩; have B5 : Hid (Below w.heap.size w w5) := Lib.hid (below_next B4.out hb5); have S5 := Lib.hid (keep hb5 S4.out); clear hb5 S4)
      | (go_at_call 51; refine (rnumbers_any (HG.out.below B5.out) x).mono ?_; rw [HN.out, if_neg (by decide)]; rintro e w6 ⟨rfl, hb6⟩; have B6 : Hid (Below w.heap.size w w6) := Lib.hid (below_next B5.out hb6); have S6 := Lib.hid (keep hb6 S5.out); clear hb6 S5; have s0 : w6.cell? ⟨w.heap.size, 0, none⟩ = some (.int .i64 x.k) := cell_of_row _ _ _ _ _ _ S6.out; have s1 : w6.cell? ⟨w.heap.size, 1, none⟩ = some (.int .i64 x.t) := cell_of_row _ _ _ _ _ _ S6.out; have s2 : w6.cell? ⟨w.heap.size, 2, none⟩ = some (.int .i64 x.i) := cell_of_row _ _ _ _ _ _ S6.out; have s4 : w6.cell? ⟨w.heap.size, 4, none⟩ = some (.int .i64 x.j) := cell_of_row _ _ _ _ _ _ S6.out; rw [HK.out] at s0; rw [HT.out] at s1; obtain ⟨q10, t1⟩ := TH.out w6 B6.out))
    go_quiet (fail)
    go_wp2_with fail
    go_ret
    exact ⟨by rw [HR.out]; rfl, by (repeat (first | exact B6.out | refine below_drewN ?_ _))⟩
set_option maxHeartbeats 4000000 in
set_option maxRecDepth 100000 in
theorem rcode_5 (h : Gx 50 85 w g c G tb tcap nb ncap hv nv) (hg : G.Good) (x : Stp) (hc : x.check = 0) (hw : G.who x = 0) (hn : Gr.numBad c.q x = false) (hk : x.k = 5) :
    Calls Try.prog 34 #[.pointer (some ⟨g, 0, none⟩), .agg x.cells] w fun e w' => e = .returned (.int .i64 (G.code c.q x)) ∧ Below w.heap.size w w' := by
  have B0 := Lib.hid (below_alloc0 w (.cells x.cells 39))
  have S0 := Lib.hid (heap_alloc_new w (.cells x.cells 39))
  have HG := Lib.hid h
  obtain ⟨-, hrn, -⟩ := Stp.check_zero hc
  obtain ⟨ht0, hi0, hf0, hj0⟩ := rng_of hrn
  have hlt' := who_zero (by omega) hw
  obtain ⟨t, ht⟩ : ∃ t : Nat, x.t = (t : Int) := ⟨x.t.toNat, by omega⟩
  have hlt : t < G.thr.length := by omega
  have HT := Lib.hid ht
  obtain ⟨n, hln⟩ : ∃ n, n = (G.held x.t).length := ⟨_, rfl⟩
  have HGD := Lib.hid hg
  have HLT := Lib.hid hlt
  have i1 : (0 : Int) ≤ (t : Int) := by omega
  have i2 : (t : Int) < (G.thr.length : Int) := by omega
  obtain ⟨p, cap, hp, -, -⟩ := own_slice (h.heldRow hlt)
  have hlen : (G.thr.getD t Th.none).held.length = n := by rw [hln, ht]; rfl
  rw [hlen] at hp
  have TH := Lib.hid fun (W : World) (hb : Below w.heap.size w W) => And.intro (HG.out.below hb).head.2.1 (show W.cell? ⟨tb, t * 2 + 1, none⟩ = some (.slice p n cap) from ((HG.out.below hb).thread hlt).2.trans (by rw [hp]))
  obtain ⟨bf, hbf⟩ : ∃ b, decide (16 ≤ n) = b := ⟨_, rfl⟩
  have hbf0 : decide ((16 : Int) ≤ (n : Int)) = bf := by rw [← hbf, decide_eq_decide]; omega
  have HR : Hid (G.code c.q x = (if bf = true then 3 else 0)) := Lib.hid (by
    rw [code_after hc hw hn]
    unfold Gr.after
    rw [show x.k.toNat = 5 by omega]
    simp only [← hln, ← hbf]
    simp)
  have HC := Lib.hid hc
  have HW := Lib.hid hw
  have HN := Lib.hid hn
  have HK := Lib.hid hk
  clear h hg hc hw hn hrn hk hp hlen hln ht hlt' hlt
  cases bf
  all_goals
    go_enter Try.func34, Try.ntmps34
    go_wp2_with (first
      | (refine wpList_load_row rfl 39 _ rfl w.heap.size rfl 39 x.cells (0, 0) _ ?_ Try.underlying39 rfl (by kernel_rfl) ?_; first | exact Hid.out (by assumption) | exact S6.out)
      | (go_at_call 49; refine (rcheck_any x _).mono ?_; rw [HC.out]; rintro e w4 ⟨rfl, hb4⟩; have B4 : Hid (Below w.heap.size w w4) := Lib.hid (below_next B0.out hb4); have S4 := Lib.hid (keep hb4 S0.out); clear hb4 S0)
      | (go_at_call 50; refine (rwho_any (HG.out.below B4.out) x ht0).mono ?_; rw [HW.out]; rintro e w5 ⟨rfl, hb5⟩; have B5 : Hid (Below w.heap.size w w5) := Lib.hid (below_next B4.out hb5); have S5 := Lib.hid (keep hb5 S4.out); clear hb5 S4)
      | (go_at_call 51; refine (rnumbers_any (HG.out.below B5.out) x).mono ?_; rw [HN.out, if_neg (by decide)]; rintro e w6 ⟨rfl, hb6⟩; have B6 : Hid (Below w.heap.size w w6) := Lib.hid (below_next B5.out hb6); have S6 := Lib.hid (keep hb6 S5.out); clear hb6 S5; have s0 : w6.cell? ⟨w.heap.size, 0, none⟩ = some (.int .i64 x.k) := cell_of_row _ _ _ _ _ _ S6.out; have s1 : w6.cell? ⟨w.heap.size, 1, none⟩ = some (.int .i64 x.t) := cell_of_row _ _ _ _ _ _ S6.out; have s2 : w6.cell? ⟨w.heap.size, 2, none⟩ = some (.int .i64 x.i) := cell_of_row _ _ _ _ _ _ S6.out; have s4 : w6.cell? ⟨w.heap.size, 4, none⟩ = some (.int .i64 x.j) := cell_of_row _ _ _ _ _ _ S6.out; rw [HK.out] at s0; rw [HT.out] at s1; obtain ⟨q10, t1⟩ := TH.out w6 B6.out))
    go_quiet (fail)
    go_wp2_with fail
    go_ret
    exact ⟨by rw [HR.out]; rfl, by (repeat (first | exact B6.out | refine below_drewN ?_ _))⟩
set_option maxHeartbeats 4000000 in
set_option maxRecDepth 100000 in
theorem rcode_6 (h : Gx 50 85 w g c G tb tcap nb ncap hv nv) (hg : G.Good) (x : Stp) (hc : x.check = 0) (hw : G.who x = 0) (hn : Gr.numBad c.q x = false) (hk : x.k = 6) :
    Calls Try.prog 34 #[.pointer (some ⟨g, 0, none⟩), .agg x.cells] w fun e w' => e = .returned (.int .i64 (G.code c.q x)) ∧ Below w.heap.size w w' := by
  have B0 := Lib.hid (below_alloc0 w (.cells x.cells 39))
  have S0 := Lib.hid (heap_alloc_new w (.cells x.cells 39))
  have HG := Lib.hid h
  obtain ⟨-, hrn, -⟩ := Stp.check_zero hc
  obtain ⟨ht0, hi0, hf0, hj0⟩ := rng_of hrn
  have hlt' := who_zero (by omega) hw
  obtain ⟨t, ht⟩ : ∃ t : Nat, x.t = (t : Int) := ⟨x.t.toNat, by omega⟩
  have hlt : t < G.thr.length := by omega
  have HT := Lib.hid ht
  obtain ⟨n, hln⟩ : ∃ n, n = (G.held x.t).length := ⟨_, rfl⟩
  have HGD := Lib.hid hg
  have HLT := Lib.hid hlt
  have i1 : (0 : Int) ≤ (t : Int) := by omega
  have i2 : (t : Int) < (G.thr.length : Int) := by omega
  obtain ⟨p, cap, hp, -, -⟩ := own_slice (h.heldRow hlt)
  have hlen : (G.thr.getD t Th.none).held.length = n := by rw [hln, ht]; rfl
  rw [hlen] at hp
  have TH := Lib.hid fun (W : World) (hb : Below w.heap.size w W) => And.intro (HG.out.below hb).head.2.1 (show W.cell? ⟨tb, t * 2 + 1, none⟩ = some (.slice p n cap) from ((HG.out.below hb).thread hlt).2.trans (by rw [hp]))
  obtain ⟨bf, hbf⟩ : ∃ b, decide (16 ≤ n) = b := ⟨_, rfl⟩
  have hbf0 : decide ((16 : Int) ≤ (n : Int)) = bf := by rw [← hbf, decide_eq_decide]; omega
  have HR : Hid (G.code c.q x = (if bf = true then 3 else 0)) := Lib.hid (by
    rw [code_after hc hw hn]
    unfold Gr.after
    rw [show x.k.toNat = 6 by omega]
    simp only [← hln, ← hbf]
    simp)
  have HC := Lib.hid hc
  have HW := Lib.hid hw
  have HN := Lib.hid hn
  have HK := Lib.hid hk
  clear h hg hc hw hn hrn hk hp hlen hln ht hlt' hlt
  cases bf
  all_goals
    go_enter Try.func34, Try.ntmps34
    go_wp2_with (first
      | (refine wpList_load_row rfl 39 _ rfl w.heap.size rfl 39 x.cells (0, 0) _ ?_ Try.underlying39 rfl (by kernel_rfl) ?_; first | exact Hid.out (by assumption) | exact S6.out)
      | (go_at_call 49; refine (rcheck_any x _).mono ?_; rw [HC.out]; rintro e w4 ⟨rfl, hb4⟩; have B4 : Hid (Below w.heap.size w w4) := Lib.hid (below_next B0.out hb4); have S4 := Lib.hid (keep hb4 S0.out); clear hb4 S0)
      | (go_at_call 50; refine (rwho_any (HG.out.below B4.out) x ht0).mono ?_; rw [HW.out]; rintro e w5 ⟨rfl, hb5⟩; have B5 : Hid (Below w.heap.size w w5) := Lib.hid (below_next B4.out hb5); have S5 := Lib.hid (keep hb5 S4.out); clear hb5 S4)
      | (go_at_call 51; refine (rnumbers_any (HG.out.below B5.out) x).mono ?_; rw [HN.out, if_neg (by decide)]; rintro e w6 ⟨rfl, hb6⟩; have B6 : Hid (Below w.heap.size w w6) := Lib.hid (below_next B5.out hb6); have S6 := Lib.hid (keep hb6 S5.out); clear hb6 S5; have s0 : w6.cell? ⟨w.heap.size, 0, none⟩ = some (.int .i64 x.k) := cell_of_row _ _ _ _ _ _ S6.out; have s1 : w6.cell? ⟨w.heap.size, 1, none⟩ = some (.int .i64 x.t) := cell_of_row _ _ _ _ _ _ S6.out; have s2 : w6.cell? ⟨w.heap.size, 2, none⟩ = some (.int .i64 x.i) := cell_of_row _ _ _ _ _ _ S6.out; have s4 : w6.cell? ⟨w.heap.size, 4, none⟩ = some (.int .i64 x.j) := cell_of_row _ _ _ _ _ _ S6.out; rw [HK.out] at s0; rw [HT.out] at s1; obtain ⟨q10, t1⟩ := TH.out w6 B6.out))
    go_quiet (fail)
    go_wp2_with fail
    go_ret
    exact ⟨by rw [HR.out]; rfl, by (repeat (first | exact B6.out | refine below_drewN ?_ _))⟩
set_option maxHeartbeats 4000000 in
set_option maxRecDepth 100000 in
theorem rcode_7 (h : Gx 50 85 w g c G tb tcap nb ncap hv nv) (hg : G.Good) (x : Stp) (hc : x.check = 0) (hw : G.who x = 0) (hn : Gr.numBad c.q x = false) (hk : x.k = 7) :
    Calls Try.prog 34 #[.pointer (some ⟨g, 0, none⟩), .agg x.cells] w fun e w' => e = .returned (.int .i64 (G.code c.q x)) ∧ Below w.heap.size w w' := by
  have B0 := Lib.hid (below_alloc0 w (.cells x.cells 39))
  have S0 := Lib.hid (heap_alloc_new w (.cells x.cells 39))
  have HG := Lib.hid h
  obtain ⟨-, hrn, -⟩ := Stp.check_zero hc
  obtain ⟨ht0, hi0, hf0, hj0⟩ := rng_of hrn
  have hlt' := who_zero (by omega) hw
  obtain ⟨t, ht⟩ : ∃ t : Nat, x.t = (t : Int) := ⟨x.t.toNat, by omega⟩
  have hlt : t < G.thr.length := by omega
  have HT := Lib.hid ht
  obtain ⟨n, hln⟩ : ∃ n, n = (G.held x.t).length := ⟨_, rfl⟩
  have HGD := Lib.hid hg
  have HLT := Lib.hid hlt
  have i1 : (0 : Int) ≤ (t : Int) := by omega
  have i2 : (t : Int) < (G.thr.length : Int) := by omega
  obtain ⟨p, cap, hp, -, -⟩ := own_slice (h.heldRow hlt)
  have hlen : (G.thr.getD t Th.none).held.length = n := by rw [hln, ht]; rfl
  rw [hlen] at hp
  have TH := Lib.hid fun (W : World) (hb : Below w.heap.size w W) => And.intro (HG.out.below hb).head.2.1 (show W.cell? ⟨tb, t * 2 + 1, none⟩ = some (.slice p n cap) from ((HG.out.below hb).thread hlt).2.trans (by rw [hp]))
  obtain ⟨bi, hbi⟩ : ∃ b, decide ((n : Int) ≤ x.i) = b := ⟨_, rfl⟩
  obtain ⟨bf, hbf⟩ : ∃ b, decide (16 ≤ n) = b := ⟨_, rfl⟩
  have hbf0 : decide ((16 : Int) ≤ (n : Int)) = bf := by rw [← hbf, decide_eq_decide]; omega
  have HR : Hid (G.code c.q x = (if bi = true then 4 else if bf = true then 3 else 0)) := Lib.hid (by
    rw [code_after hc hw hn]
    unfold Gr.after
    rw [show x.k.toNat = 7 by omega]
    simp only [← hln, ← hbi, ← hbf]
    simp)
  have HC := Lib.hid hc
  have HW := Lib.hid hw
  have HN := Lib.hid hn
  have HK := Lib.hid hk
  clear h hg hc hw hn hrn hk hp hlen hln ht hlt' hlt
  cases bi <;> cases bf
  all_goals
    go_enter Try.func34, Try.ntmps34
    go_wp2_with (first
      | (refine wpList_load_row rfl 39 _ rfl w.heap.size rfl 39 x.cells (0, 0) _ ?_ Try.underlying39 rfl (by kernel_rfl) ?_; first | exact Hid.out (by assumption) | exact S6.out)
      | (go_at_call 49; refine (rcheck_any x _).mono ?_; rw [HC.out]; rintro e w4 ⟨rfl, hb4⟩; have B4 : Hid (Below w.heap.size w w4) := Lib.hid (below_next B0.out hb4); have S4 := Lib.hid (keep hb4 S0.out); clear hb4 S0)
      | (go_at_call 50; refine (rwho_any (HG.out.below B4.out) x ht0).mono ?_; rw [HW.out]; rintro e w5 ⟨rfl, hb5⟩; have B5 : Hid (Below w.heap.size w w5) := Lib.hid (below_next B4.out hb5); have S5 := Lib.hid (keep hb5 S4.out); clear hb5 S4)
      | (go_at_call 51; refine (rnumbers_any (HG.out.below B5.out) x).mono ?_; rw [HN.out, if_neg (by decide)]; rintro e w6 ⟨rfl, hb6⟩; have B6 : Hid (Below w.heap.size w w6) := Lib.hid (below_next B5.out hb6); have S6 := Lib.hid (keep hb6 S5.out); clear hb6 S5; have s0 : w6.cell? ⟨w.heap.size, 0, none⟩ = some (.int .i64 x.k) := cell_of_row _ _ _ _ _ _ S6.out; have s1 : w6.cell? ⟨w.heap.size, 1, none⟩ = some (.int .i64 x.t) := cell_of_row _ _ _ _ _ _ S6.out; have s2 : w6.cell? ⟨w.heap.size, 2, none⟩ = some (.int .i64 x.i) := cell_of_row _ _ _ _ _ _ S6.out; have s4 : w6.cell? ⟨w.heap.size, 4, none⟩ = some (.int .i64 x.j) := cell_of_row _ _ _ _ _ _ S6.out; rw [HK.out] at s0; rw [HT.out] at s1; obtain ⟨q10, t1⟩ := TH.out w6 B6.out))
    go_quiet (fail)
    go_wp2_with fail
    go_ret
    exact ⟨by rw [HR.out]; rfl, by (repeat (first | exact B6.out | refine below_drewN ?_ _))⟩
set_option maxHeartbeats 4000000 in
set_option maxRecDepth 100000 in
theorem rcode_8 (h : Gx 50 85 w g c G tb tcap nb ncap hv nv) (hg : G.Good) (x : Stp) (hc : x.check = 0) (hw : G.who x = 0) (hn : Gr.numBad c.q x = false) (hk : x.k = 8) :
    Calls Try.prog 34 #[.pointer (some ⟨g, 0, none⟩), .agg x.cells] w fun e w' => e = .returned (.int .i64 (G.code c.q x)) ∧ Below w.heap.size w w' := by
  have B0 := Lib.hid (below_alloc0 w (.cells x.cells 39))
  have S0 := Lib.hid (heap_alloc_new w (.cells x.cells 39))
  have HG := Lib.hid h
  obtain ⟨-, hrn, -⟩ := Stp.check_zero hc
  obtain ⟨ht0, hi0, hf0, hj0⟩ := rng_of hrn
  have hlt' := who_zero (by omega) hw
  obtain ⟨t, ht⟩ : ∃ t : Nat, x.t = (t : Int) := ⟨x.t.toNat, by omega⟩
  have hlt : t < G.thr.length := by omega
  have HT := Lib.hid ht
  obtain ⟨n, hln⟩ : ∃ n, n = (G.held x.t).length := ⟨_, rfl⟩
  have HGD := Lib.hid hg
  have HLT := Lib.hid hlt
  have i1 : (0 : Int) ≤ (t : Int) := by omega
  have i2 : (t : Int) < (G.thr.length : Int) := by omega
  obtain ⟨p, cap, hp, -, -⟩ := own_slice (h.heldRow hlt)
  have hlen : (G.thr.getD t Th.none).held.length = n := by rw [hln, ht]; rfl
  rw [hlen] at hp
  have TH := Lib.hid fun (W : World) (hb : Below w.heap.size w W) => And.intro (HG.out.below hb).head.2.1 (show W.cell? ⟨tb, t * 2 + 1, none⟩ = some (.slice p n cap) from ((HG.out.below hb).thread hlt).2.trans (by rw [hp]))
  obtain ⟨bz, hbz⟩ : ∃ b, decide (n = 0) = b := ⟨_, rfl⟩
  have hbz0 : decide ((n : Int) = 0) = bz := by rw [← hbz, decide_eq_decide]; omega
  have hbz1 : ((n : Int) == 0) = bz := by rw [← hbz, Bool.eq_iff_iff, beq_iff_eq, decide_eq_true_eq]; omega
  have HR : Hid (G.code c.q x = (if bz = true then 4 else 0)) := Lib.hid (by
    rw [code_after hc hw hn]
    unfold Gr.after
    rw [show x.k.toNat = 8 by omega]
    simp only [← hln, ← hbz]
    simp)
  have HC := Lib.hid hc
  have HW := Lib.hid hw
  have HN := Lib.hid hn
  have HK := Lib.hid hk
  clear h hg hc hw hn hrn hk hp hlen hln ht hlt' hlt
  cases bz
  all_goals
    go_enter Try.func34, Try.ntmps34
    go_wp2_with (first
      | (refine wpList_load_row rfl 39 _ rfl w.heap.size rfl 39 x.cells (0, 0) _ ?_ Try.underlying39 rfl (by kernel_rfl) ?_; first | exact Hid.out (by assumption) | exact S6.out)
      | (go_at_call 49; refine (rcheck_any x _).mono ?_; rw [HC.out]; rintro e w4 ⟨rfl, hb4⟩; have B4 : Hid (Below w.heap.size w w4) := Lib.hid (below_next B0.out hb4); have S4 := Lib.hid (keep hb4 S0.out); clear hb4 S0)
      | (go_at_call 50; refine (rwho_any (HG.out.below B4.out) x ht0).mono ?_; rw [HW.out]; rintro e w5 ⟨rfl, hb5⟩; have B5 : Hid (Below w.heap.size w w5) := Lib.hid (below_next B4.out hb5); have S5 := Lib.hid (keep hb5 S4.out); clear hb5 S4)
      | (go_at_call 51; refine (rnumbers_any (HG.out.below B5.out) x).mono ?_; rw [HN.out, if_neg (by decide)]; rintro e w6 ⟨rfl, hb6⟩; have B6 : Hid (Below w.heap.size w w6) := Lib.hid (below_next B5.out hb6); have S6 := Lib.hid (keep hb6 S5.out); clear hb6 S5; have s0 : w6.cell? ⟨w.heap.size, 0, none⟩ = some (.int .i64 x.k) := cell_of_row _ _ _ _ _ _ S6.out; have s1 : w6.cell? ⟨w.heap.size, 1, none⟩ = some (.int .i64 x.t) := cell_of_row _ _ _ _ _ _ S6.out; have s2 : w6.cell? ⟨w.heap.size, 2, none⟩ = some (.int .i64 x.i) := cell_of_row _ _ _ _ _ _ S6.out; have s4 : w6.cell? ⟨w.heap.size, 4, none⟩ = some (.int .i64 x.j) := cell_of_row _ _ _ _ _ _ S6.out; rw [HK.out] at s0; rw [HT.out] at s1; obtain ⟨q10, t1⟩ := TH.out w6 B6.out))
    go_quiet (fail)
    go_wp2_with fail
    go_ret
    exact ⟨by rw [HR.out]; rfl, by (repeat (first | exact B6.out | refine below_drewN ?_ _))⟩
set_option maxHeartbeats 4000000 in
set_option maxRecDepth 100000 in
theorem rcode_9 (h : Gx 50 85 w g c G tb tcap nb ncap hv nv) (hg : G.Good) (x : Stp) (hc : x.check = 0) (hw : G.who x = 0) (hn : Gr.numBad c.q x = false) (hk : x.k = 9) :
    Calls Try.prog 34 #[.pointer (some ⟨g, 0, none⟩), .agg x.cells] w fun e w' => e = .returned (.int .i64 (G.code c.q x)) ∧ Below w.heap.size w w' := by
  have B0 := Lib.hid (below_alloc0 w (.cells x.cells 39))
  have S0 := Lib.hid (heap_alloc_new w (.cells x.cells 39))
  have HG := Lib.hid h
  obtain ⟨-, hrn, -⟩ := Stp.check_zero hc
  obtain ⟨ht0, hi0, hf0, hj0⟩ := rng_of hrn
  have hlt' := who_zero (by omega) hw
  obtain ⟨t, ht⟩ : ∃ t : Nat, x.t = (t : Int) := ⟨x.t.toNat, by omega⟩
  have hlt : t < G.thr.length := by omega
  have HT := Lib.hid ht
  obtain ⟨n, hln⟩ : ∃ n, n = (G.held x.t).length := ⟨_, rfl⟩
  have HGD := Lib.hid hg
  have HLT := Lib.hid hlt
  have i1 : (0 : Int) ≤ (t : Int) := by omega
  have i2 : (t : Int) < (G.thr.length : Int) := by omega
  obtain ⟨p, cap, hp, -, -⟩ := own_slice (h.heldRow hlt)
  have hlen : (G.thr.getD t Th.none).held.length = n := by rw [hln, ht]; rfl
  rw [hlen] at hp
  have TH := Lib.hid fun (W : World) (hb : Below w.heap.size w W) => And.intro (HG.out.below hb).head.2.1 (show W.cell? ⟨tb, t * 2 + 1, none⟩ = some (.slice p n cap) from ((HG.out.below hb).thread hlt).2.trans (by rw [hp]))
  obtain ⟨bf, hbf⟩ : ∃ b, decide (16 ≤ n) = b := ⟨_, rfl⟩
  have hbf0 : decide ((16 : Int) ≤ (n : Int)) = bf := by rw [← hbf, decide_eq_decide]; omega
  obtain ⟨o, ho⟩ : ∃ o, G.object x true = o := ⟨_, rfl⟩
  obtain ⟨bo, hbo⟩ : ∃ b, (o != 0) = b := ⟨_, rfl⟩
  have HO := Lib.hid ho
  have HR : Hid (G.code c.q x = (if bo = true then o else if bf = true then 3 else 0)) := Lib.hid (by
    rw [code_after hc hw hn]
    unfold Gr.after
    rw [show x.k.toNat = 9 by omega]
    simp only [← hln, ← hbf, ho, ← hbo]
    simp)
  have HC := Lib.hid hc
  have HW := Lib.hid hw
  have HN := Lib.hid hn
  have HK := Lib.hid hk
  clear h hg hc hw hn hrn hk hp hlen hln ht hlt' hlt ho
  cases bf <;> cases bo
  all_goals
    go_enter Try.func34, Try.ntmps34
    go_wp2_with (first
      | (refine wpList_load_row rfl 39 _ rfl w.heap.size rfl 39 x.cells (0, 0) _ ?_ Try.underlying39 rfl (by kernel_rfl) ?_; first | exact Hid.out (by assumption) | exact S6.out)
      | (go_at_call 49; refine (rcheck_any x _).mono ?_; rw [HC.out]; rintro e w4 ⟨rfl, hb4⟩; have B4 : Hid (Below w.heap.size w w4) := Lib.hid (below_next B0.out hb4); have S4 := Lib.hid (keep hb4 S0.out); clear hb4 S0)
      | (go_at_call 50; refine (rwho_any (HG.out.below B4.out) x ht0).mono ?_; rw [HW.out]; rintro e w5 ⟨rfl, hb5⟩; have B5 : Hid (Below w.heap.size w w5) := Lib.hid (below_next B4.out hb5); have S5 := Lib.hid (keep hb5 S4.out); clear hb5 S4)
      | (go_at_call 51; refine (rnumbers_any (HG.out.below B5.out) x).mono ?_; rw [HN.out, if_neg (by decide)]; rintro e w6 ⟨rfl, hb6⟩; have B6 : Hid (Below w.heap.size w w6) := Lib.hid (below_next B5.out hb6); have S6 := Lib.hid (keep hb6 S5.out); clear hb6 S5; have s0 : w6.cell? ⟨w.heap.size, 0, none⟩ = some (.int .i64 x.k) := cell_of_row _ _ _ _ _ _ S6.out; have s1 : w6.cell? ⟨w.heap.size, 1, none⟩ = some (.int .i64 x.t) := cell_of_row _ _ _ _ _ _ S6.out; have s2 : w6.cell? ⟨w.heap.size, 2, none⟩ = some (.int .i64 x.i) := cell_of_row _ _ _ _ _ _ S6.out; have s4 : w6.cell? ⟨w.heap.size, 4, none⟩ = some (.int .i64 x.j) := cell_of_row _ _ _ _ _ _ S6.out; rw [HK.out] at s0; rw [HT.out] at s1; obtain ⟨q10, t1⟩ := TH.out w6 B6.out))
    go_quiet (fail)
    go_wp2_with (first
      | (refine wpList_load_row rfl 39 _ rfl w.heap.size rfl 39 x.cells (0, 0) _ ?_ Try.underlying39 rfl (by kernel_rfl) ?_; first | exact Hid.out (by assumption) | exact S6.out)
      | (go_at_call 52; refine (robject_any (HG.out.below (by (repeat (first | exact B6.out | refine below_drewN ?_ _)))) HGD.out x true t HT.out HLT.out hi0).mono ?_; rw [HO.out]; rintro e w8 ⟨rfl, hb8⟩; have B8 : Hid (Below w.heap.size w w8) := Lib.hid (below_next (by (repeat (first | exact B6.out | refine below_drewN ?_ _))) hb8); have S8 := Lib.hid (keep (Below.mono hb8 (by exact Nat.le_refl _)) S6.out); clear hb8; have r0 : w8.cell? ⟨w.heap.size, 0, none⟩ = some (.int .i64 x.k) := cell_of_row _ _ _ _ _ _ S8.out; have r2 : w8.cell? ⟨w.heap.size, 2, none⟩ = some (.int .i64 x.i) := cell_of_row _ _ _ _ _ _ S8.out; have r4 : w8.cell? ⟨w.heap.size, 4, none⟩ = some (.int .i64 x.j) := cell_of_row _ _ _ _ _ _ S8.out; rw [HK.out] at r0))
    go_ret
    exact ⟨by rw [HR.out]; rfl, B8.out⟩
set_option maxHeartbeats 4000000 in
set_option maxRecDepth 100000 in
theorem rcode_10 (h : Gx 50 85 w g c G tb tcap nb ncap hv nv) (hg : G.Good) (x : Stp) (hc : x.check = 0) (hw : G.who x = 0) (hn : Gr.numBad c.q x = false) (hk : x.k = 10) :
    Calls Try.prog 34 #[.pointer (some ⟨g, 0, none⟩), .agg x.cells] w fun e w' => e = .returned (.int .i64 (G.code c.q x)) ∧ Below w.heap.size w w' := by
  have B0 := Lib.hid (below_alloc0 w (.cells x.cells 39))
  have S0 := Lib.hid (heap_alloc_new w (.cells x.cells 39))
  have HG := Lib.hid h
  obtain ⟨-, hrn, -⟩ := Stp.check_zero hc
  obtain ⟨ht0, hi0, hf0, hj0⟩ := rng_of hrn
  have hlt' := who_zero (by omega) hw
  obtain ⟨t, ht⟩ : ∃ t : Nat, x.t = (t : Int) := ⟨x.t.toNat, by omega⟩
  have hlt : t < G.thr.length := by omega
  have HT := Lib.hid ht
  obtain ⟨n, hln⟩ : ∃ n, n = (G.held x.t).length := ⟨_, rfl⟩
  have HGD := Lib.hid hg
  have HLT := Lib.hid hlt
  have i1 : (0 : Int) ≤ (t : Int) := by omega
  have i2 : (t : Int) < (G.thr.length : Int) := by omega
  obtain ⟨p, cap, hp, -, -⟩ := own_slice (h.heldRow hlt)
  have hlen : (G.thr.getD t Th.none).held.length = n := by rw [hln, ht]; rfl
  rw [hlen] at hp
  have TH := Lib.hid fun (W : World) (hb : Below w.heap.size w W) => And.intro (HG.out.below hb).head.2.1 (show W.cell? ⟨tb, t * 2 + 1, none⟩ = some (.slice p n cap) from ((HG.out.below hb).thread hlt).2.trans (by rw [hp]))
  obtain ⟨bj, hbj⟩ : ∃ b, decide ((n : Int) ≤ x.j) = b := ⟨_, rfl⟩
  obtain ⟨o, ho⟩ : ∃ o, G.object x true = o := ⟨_, rfl⟩
  obtain ⟨bo, hbo⟩ : ∃ b, (o != 0) = b := ⟨_, rfl⟩
  have HO := Lib.hid ho
  have HR : Hid (G.code c.q x = (if bo = true then o else if bj = true then 4 else 0)) := Lib.hid (by
    rw [code_after hc hw hn]
    unfold Gr.after
    rw [show x.k.toNat = 10 by omega]
    simp only [← hln, ← hbj, ho, ← hbo]
    simp)
  have HC := Lib.hid hc
  have HW := Lib.hid hw
  have HN := Lib.hid hn
  have HK := Lib.hid hk
  clear h hg hc hw hn hrn hk hp hlen hln ht hlt' hlt ho
  cases bj <;> cases bo
  all_goals
    go_enter Try.func34, Try.ntmps34
    go_wp2_with (first
      | (refine wpList_load_row rfl 39 _ rfl w.heap.size rfl 39 x.cells (0, 0) _ ?_ Try.underlying39 rfl (by kernel_rfl) ?_; first | exact Hid.out (by assumption) | exact S6.out)
      | (go_at_call 49; refine (rcheck_any x _).mono ?_; rw [HC.out]; rintro e w4 ⟨rfl, hb4⟩; have B4 : Hid (Below w.heap.size w w4) := Lib.hid (below_next B0.out hb4); have S4 := Lib.hid (keep hb4 S0.out); clear hb4 S0)
      | (go_at_call 50; refine (rwho_any (HG.out.below B4.out) x ht0).mono ?_; rw [HW.out]; rintro e w5 ⟨rfl, hb5⟩; have B5 : Hid (Below w.heap.size w w5) := Lib.hid (below_next B4.out hb5); have S5 := Lib.hid (keep hb5 S4.out); clear hb5 S4)
      | (go_at_call 51; refine (rnumbers_any (HG.out.below B5.out) x).mono ?_; rw [HN.out, if_neg (by decide)]; rintro e w6 ⟨rfl, hb6⟩; have B6 : Hid (Below w.heap.size w w6) := Lib.hid (below_next B5.out hb6); have S6 := Lib.hid (keep hb6 S5.out); clear hb6 S5; have s0 : w6.cell? ⟨w.heap.size, 0, none⟩ = some (.int .i64 x.k) := cell_of_row _ _ _ _ _ _ S6.out; have s1 : w6.cell? ⟨w.heap.size, 1, none⟩ = some (.int .i64 x.t) := cell_of_row _ _ _ _ _ _ S6.out; have s2 : w6.cell? ⟨w.heap.size, 2, none⟩ = some (.int .i64 x.i) := cell_of_row _ _ _ _ _ _ S6.out; have s4 : w6.cell? ⟨w.heap.size, 4, none⟩ = some (.int .i64 x.j) := cell_of_row _ _ _ _ _ _ S6.out; rw [HK.out] at s0; rw [HT.out] at s1; obtain ⟨q10, t1⟩ := TH.out w6 B6.out))
    go_quiet (fail)
    go_wp2_with (first
      | (refine wpList_load_row rfl 39 _ rfl w.heap.size rfl 39 x.cells (0, 0) _ ?_ Try.underlying39 rfl (by kernel_rfl) ?_; first | exact Hid.out (by assumption) | exact S6.out)
      | (go_at_call 52; refine (robject_any (HG.out.below (by (repeat (first | exact B6.out | refine below_drewN ?_ _)))) HGD.out x true t HT.out HLT.out hi0).mono ?_; rw [HO.out]; rintro e w8 ⟨rfl, hb8⟩; have B8 : Hid (Below w.heap.size w w8) := Lib.hid (below_next (by (repeat (first | exact B6.out | refine below_drewN ?_ _))) hb8); have S8 := Lib.hid (keep (Below.mono hb8 (by exact Nat.le_refl _)) S6.out); clear hb8; have r0 : w8.cell? ⟨w.heap.size, 0, none⟩ = some (.int .i64 x.k) := cell_of_row _ _ _ _ _ _ S8.out; have r2 : w8.cell? ⟨w.heap.size, 2, none⟩ = some (.int .i64 x.i) := cell_of_row _ _ _ _ _ _ S8.out; have r4 : w8.cell? ⟨w.heap.size, 4, none⟩ = some (.int .i64 x.j) := cell_of_row _ _ _ _ _ _ S8.out; rw [HK.out] at r0))
    go_ret
    exact ⟨by rw [HR.out]; rfl, B8.out⟩
set_option maxHeartbeats 4000000 in
set_option maxRecDepth 100000 in
theorem rcode_11 (h : Gx 50 85 w g c G tb tcap nb ncap hv nv) (hg : G.Good) (x : Stp) (hc : x.check = 0) (hw : G.who x = 0) (hn : Gr.numBad c.q x = false) (hk : x.k = 11) :
    Calls Try.prog 34 #[.pointer (some ⟨g, 0, none⟩), .agg x.cells] w fun e w' => e = .returned (.int .i64 (G.code c.q x)) ∧ Below w.heap.size w w' := by
  have B0 := Lib.hid (below_alloc0 w (.cells x.cells 39))
  have S0 := Lib.hid (heap_alloc_new w (.cells x.cells 39))
  have HG := Lib.hid h
  obtain ⟨-, hrn, -⟩ := Stp.check_zero hc
  obtain ⟨ht0, hi0, hf0, hj0⟩ := rng_of hrn
  have hlt' := who_zero (by omega) hw
  obtain ⟨t, ht⟩ : ∃ t : Nat, x.t = (t : Int) := ⟨x.t.toNat, by omega⟩
  have hlt : t < G.thr.length := by omega
  have HT := Lib.hid ht
  obtain ⟨n, hln⟩ : ∃ n, n = (G.held x.t).length := ⟨_, rfl⟩
  have HGD := Lib.hid hg
  have HLT := Lib.hid hlt
  have i1 : (0 : Int) ≤ (t : Int) := by omega
  have i2 : (t : Int) < (G.thr.length : Int) := by omega
  obtain ⟨p, cap, hp, -, -⟩ := own_slice (h.heldRow hlt)
  have hlen : (G.thr.getD t Th.none).held.length = n := by rw [hln, ht]; rfl
  rw [hlen] at hp
  have TH := Lib.hid fun (W : World) (hb : Below w.heap.size w W) => And.intro (HG.out.below hb).head.2.1 (show W.cell? ⟨tb, t * 2 + 1, none⟩ = some (.slice p n cap) from ((HG.out.below hb).thread hlt).2.trans (by rw [hp]))
  obtain ⟨bi, hbi⟩ : ∃ b, decide ((n : Int) ≤ x.i) = b := ⟨_, rfl⟩
  obtain ⟨bj, hbj⟩ : ∃ b, decide ((n : Int) ≤ x.j) = b := ⟨_, rfl⟩
  have HR : Hid (G.code c.q x = (if bi = true ∨ bj = true then 4 else 0)) := Lib.hid (by
    rw [code_after hc hw hn]
    unfold Gr.after
    rw [show x.k.toNat = 11 by omega]
    simp only [← hln, ← hbi, ← hbj]
    simp)
  have HC := Lib.hid hc
  have HW := Lib.hid hw
  have HN := Lib.hid hn
  have HK := Lib.hid hk
  clear h hg hc hw hn hrn hk hp hlen hln ht hlt' hlt
  cases bi <;> cases bj
  all_goals
    go_enter Try.func34, Try.ntmps34
    go_wp2_with (first
      | (refine wpList_load_row rfl 39 _ rfl w.heap.size rfl 39 x.cells (0, 0) _ ?_ Try.underlying39 rfl (by kernel_rfl) ?_; first | exact Hid.out (by assumption) | exact S6.out)
      | (go_at_call 49; refine (rcheck_any x _).mono ?_; rw [HC.out]; rintro e w4 ⟨rfl, hb4⟩; have B4 : Hid (Below w.heap.size w w4) := Lib.hid (below_next B0.out hb4); have S4 := Lib.hid (keep hb4 S0.out); clear hb4 S0)
      | (go_at_call 50; refine (rwho_any (HG.out.below B4.out) x ht0).mono ?_; rw [HW.out]; rintro e w5 ⟨rfl, hb5⟩; have B5 : Hid (Below w.heap.size w w5) := Lib.hid (below_next B4.out hb5); have S5 := Lib.hid (keep hb5 S4.out); clear hb5 S4)
      | (go_at_call 51; refine (rnumbers_any (HG.out.below B5.out) x).mono ?_; rw [HN.out, if_neg (by decide)]; rintro e w6 ⟨rfl, hb6⟩; have B6 : Hid (Below w.heap.size w w6) := Lib.hid (below_next B5.out hb6); have S6 := Lib.hid (keep hb6 S5.out); clear hb6 S5; have s0 : w6.cell? ⟨w.heap.size, 0, none⟩ = some (.int .i64 x.k) := cell_of_row _ _ _ _ _ _ S6.out; have s1 : w6.cell? ⟨w.heap.size, 1, none⟩ = some (.int .i64 x.t) := cell_of_row _ _ _ _ _ _ S6.out; have s2 : w6.cell? ⟨w.heap.size, 2, none⟩ = some (.int .i64 x.i) := cell_of_row _ _ _ _ _ _ S6.out; have s4 : w6.cell? ⟨w.heap.size, 4, none⟩ = some (.int .i64 x.j) := cell_of_row _ _ _ _ _ _ S6.out; rw [HK.out] at s0; rw [HT.out] at s1; obtain ⟨q10, t1⟩ := TH.out w6 B6.out))
    go_quiet (fail)
    go_wp2_with fail
    go_ret
    exact ⟨by rw [HR.out]; rfl, by (repeat (first | exact B6.out | refine below_drewN ?_ _))⟩
set_option maxHeartbeats 4000000 in
set_option maxRecDepth 100000 in
theorem rcode_12 (h : Gx 50 85 w g c G tb tcap nb ncap hv nv) (hg : G.Good) (x : Stp) (hc : x.check = 0) (hw : G.who x = 0) (hn : Gr.numBad c.q x = false) (hk : x.k = 12) :
    Calls Try.prog 34 #[.pointer (some ⟨g, 0, none⟩), .agg x.cells] w fun e w' => e = .returned (.int .i64 (G.code c.q x)) ∧ Below w.heap.size w w' := by
  have B0 := Lib.hid (below_alloc0 w (.cells x.cells 39))
  have S0 := Lib.hid (heap_alloc_new w (.cells x.cells 39))
  have HG := Lib.hid h
  obtain ⟨-, hrn, -⟩ := Stp.check_zero hc
  obtain ⟨ht0, hi0, hf0, hj0⟩ := rng_of hrn
  have hlt' := who_zero (by omega) hw
  obtain ⟨t, ht⟩ : ∃ t : Nat, x.t = (t : Int) := ⟨x.t.toNat, by omega⟩
  have hlt : t < G.thr.length := by omega
  have HT := Lib.hid ht
  obtain ⟨n, hln⟩ : ∃ n, n = (G.held x.t).length := ⟨_, rfl⟩
  have HGD := Lib.hid hg
  have HLT := Lib.hid hlt
  have i1 : (0 : Int) ≤ (t : Int) := by omega
  have i2 : (t : Int) < (G.thr.length : Int) := by omega
  obtain ⟨p, cap, hp, -, -⟩ := own_slice (h.heldRow hlt)
  have hlen : (G.thr.getD t Th.none).held.length = n := by rw [hln, ht]; rfl
  rw [hlen] at hp
  have TH := Lib.hid fun (W : World) (hb : Below w.heap.size w W) => And.intro (HG.out.below hb).head.2.1 (show W.cell? ⟨tb, t * 2 + 1, none⟩ = some (.slice p n cap) from ((HG.out.below hb).thread hlt).2.trans (by rw [hp]))
  obtain ⟨o, ho⟩ : ∃ o, G.object x false = o := ⟨_, rfl⟩
  obtain ⟨bo, hbo⟩ : ∃ b, (o != 0) = b := ⟨_, rfl⟩
  have HO := Lib.hid ho
  have HR : Hid (G.code c.q x = (if bo = true then o else 0)) := Lib.hid (by
    rw [code_after hc hw hn]
    unfold Gr.after
    rw [show x.k.toNat = 12 by omega]
    simp only [ho, ← hbo]
    simp)
  have HC := Lib.hid hc
  have HW := Lib.hid hw
  have HN := Lib.hid hn
  have HK := Lib.hid hk
  clear h hg hc hw hn hrn hk hp hlen hln ht hlt' hlt ho
  cases bo
  all_goals
    go_enter Try.func34, Try.ntmps34
    go_wp2_with (first
      | (refine wpList_load_row rfl 39 _ rfl w.heap.size rfl 39 x.cells (0, 0) _ ?_ Try.underlying39 rfl (by kernel_rfl) ?_; first | exact Hid.out (by assumption) | exact S6.out)
      | (go_at_call 49; refine (rcheck_any x _).mono ?_; rw [HC.out]; rintro e w4 ⟨rfl, hb4⟩; have B4 : Hid (Below w.heap.size w w4) := Lib.hid (below_next B0.out hb4); have S4 := Lib.hid (keep hb4 S0.out); clear hb4 S0)
      | (go_at_call 50; refine (rwho_any (HG.out.below B4.out) x ht0).mono ?_; rw [HW.out]; rintro e w5 ⟨rfl, hb5⟩; have B5 : Hid (Below w.heap.size w w5) := Lib.hid (below_next B4.out hb5); have S5 := Lib.hid (keep hb5 S4.out); clear hb5 S4)
      | (go_at_call 51; refine (rnumbers_any (HG.out.below B5.out) x).mono ?_; rw [HN.out, if_neg (by decide)]; rintro e w6 ⟨rfl, hb6⟩; have B6 : Hid (Below w.heap.size w w6) := Lib.hid (below_next B5.out hb6); have S6 := Lib.hid (keep hb6 S5.out); clear hb6 S5; have s0 : w6.cell? ⟨w.heap.size, 0, none⟩ = some (.int .i64 x.k) := cell_of_row _ _ _ _ _ _ S6.out; have s1 : w6.cell? ⟨w.heap.size, 1, none⟩ = some (.int .i64 x.t) := cell_of_row _ _ _ _ _ _ S6.out; have s2 : w6.cell? ⟨w.heap.size, 2, none⟩ = some (.int .i64 x.i) := cell_of_row _ _ _ _ _ _ S6.out; have s4 : w6.cell? ⟨w.heap.size, 4, none⟩ = some (.int .i64 x.j) := cell_of_row _ _ _ _ _ _ S6.out; rw [HK.out] at s0; rw [HT.out] at s1; obtain ⟨q10, t1⟩ := TH.out w6 B6.out))
    go_quiet (fail)
    go_wp2_with (first
      | (refine wpList_load_row rfl 39 _ rfl w.heap.size rfl 39 x.cells (0, 0) _ ?_ Try.underlying39 rfl (by kernel_rfl) ?_; first | exact Hid.out (by assumption) | exact S6.out)
      | (go_at_call 52; refine (robject_any (HG.out.below (by (repeat (first | exact B6.out | refine below_drewN ?_ _)))) HGD.out x false t HT.out HLT.out hi0).mono ?_; rw [HO.out]; rintro e w8 ⟨rfl, hb8⟩; have B8 : Hid (Below w.heap.size w w8) := Lib.hid (below_next (by (repeat (first | exact B6.out | refine below_drewN ?_ _))) hb8); have S8 := Lib.hid (keep (Below.mono hb8 (by exact Nat.le_refl _)) S6.out); clear hb8; have r0 : w8.cell? ⟨w.heap.size, 0, none⟩ = some (.int .i64 x.k) := cell_of_row _ _ _ _ _ _ S8.out; have r2 : w8.cell? ⟨w.heap.size, 2, none⟩ = some (.int .i64 x.i) := cell_of_row _ _ _ _ _ _ S8.out; have r4 : w8.cell? ⟨w.heap.size, 4, none⟩ = some (.int .i64 x.j) := cell_of_row _ _ _ _ _ _ S8.out; rw [HK.out] at r0))
    go_ret
    exact ⟨by rw [HR.out]; rfl, B8.out⟩
theorem rcode_any (h : Gx 50 85 w g c G tb tcap nb ncap hv nv) (hg : G.Good) (x : Stp) :
    Calls Try.prog 34 #[.pointer (some ⟨g, 0, none⟩), .agg x.cells] w fun e w' => e = .returned (.int .i64 (G.code c.q x)) ∧ Below w.heap.size w w' := by
  by_cases hc : x.check = 0
  case neg => exact rcode_check h hg x hc
  by_cases hw : G.who x = 0
  case neg => exact rcode_who h hg x hc hw
  cases hn : Gr.numBad c.q x
  case true => exact rcode_num h hg x hc hw hn
  by_cases hk : x.k < 3 ∨ 12 < x.k
  · exact rcode_far h hg x hc hw hn hk
  have : x.k = 3 ∨ x.k = 4 ∨ x.k = 5 ∨ x.k = 6 ∨ x.k = 7 ∨ x.k = 8 ∨ x.k = 9 ∨ x.k = 10 ∨ x.k = 11 ∨ x.k = 12 := by omega
  rcases this with e | e | e | e | e | e | e | e | e | e
  · exact rcode_3 h hg x hc hw hn e
  · exact rcode_4 h hg x hc hw hn e
  · exact rcode_5 h hg x hc hw hn e
  · exact rcode_6 h hg x hc hw hn e
  · exact rcode_7 h hg x hc hw hn e
  · exact rcode_8 h hg x hc hw hn e
  · exact rcode_9 h hg x hc hw hn e
  · exact rcode_10 h hg x hc hw hn e
  · exact rcode_11 h hg x hc hw hn e
  · exact rcode_12 h hg x hc hw hn e
end
end Go.Proofs.Ytaefcmmjeloccaa
