/- GraphClones. -/
import Derived.Test.YtaefcmmjeloccaaGrT
import Derived.Test.YtaefcmmjeloccaaGrV
import Derived.Test.YtaefcmmjeloccaaGrX
namespace Go.Proofs.Ytaefcmmjeloccaa
open Go.RowKit

/-- A row stays one, whatever is written into a place of memory. -/
theorem own_set_any {w : World} {base e size n : Nat} {v : Value} {xs : List Value} (h : w.ownsRow base e size v n xs) (d i : Nat) (u : Value) : ∃ xs', (w.setCell ⟨d, i, none⟩ u).ownsRow base e size v n xs' := by
  rcases h.2 with ⟨rfl, h0⟩ | ⟨g, cap, cur, rfl, hg, hh, hc, hm, hs, ht⟩
  · subst h0
    exact ⟨[], by simp, .inl ⟨rfl, rfl⟩⟩
  · by_cases e1 : g = d
    · subst e1
      refine ⟨((cur.setIfInBounds i u).toList).take (n * size), ?_, .inr ⟨g, cap, cur.setIfInBounds i u, rfl, hg, heap_setCell_same w g i cur e u hh, hc, hm, by simpa using hs, rfl⟩⟩
      rw [List.length_take, Array.length_toList, Array.size_setIfInBounds, hs]
      exact Nat.min_eq_left (Nat.mul_le_mul_right _ hc)
    · exact ⟨xs, h.1, .inr ⟨g, cap, cur, rfl, hg, (heap_setCell_other _ _ _ _ e1).trans hh, hc, hm, hs, ht⟩⟩
/-- A view that was told, and may be written on. -/
structure JV (N w : World) (K : Nat) (rv nvv : Value) (ns : List (Int × List Vl)) (ys : List Value) : Prop where
  below : Below N.heap.size N w
  box : w.heap[K]? = some (.cells #[rv, nvv] 45 (0, 0))
  base : N.heap.size ≤ K
  len : ys.length = ns.length
  row : w.ownsRow N.heap.size 55 2 nvv ns.length (ndC ns ys)
  fld : ∀ j, j < ns.length → ∃ xs, w.ownsRow N.heap.size 57 2 (ys.getD j undef) ((ns.map fun n => n.2).getD j []).length xs
theorem JV.begin {N w : World} {rv nvv : Value} {rs : List (List Vl)} {ns : List (Int × List Vl)} (hb : Below N.heap.size N w) (h : Vw w N.heap.size rv nvv rs ns) : ∃ ys, JV N (w.alloc (.cells #[rv, nvv] 45)) w.heap.size rv nvv ns ys := by
  obtain ⟨ys, h1, h2⟩ := h.nodes
  have hl : ys.length = ns.length := by have := h2.len; simpa using this
  exact ⟨ys, below_new hb _, heap_alloc_new w _, hb.size, hl, h1.alloc _, fun j hj => ⟨_, (h2.own j (by rw [List.length_map]; exact hj)).alloc _⟩⟩
theorem JV.set {N w : World} {K : Nat} {rv nvv : Value} {ns : List (Int × List Vl)} {ys : List Value} (h : JV N w K rv nvv ns ys) {d : Nat} (hd : N.heap.size ≤ d) {cs : Array Value} {fr : Nat × Nat} (hk : w.heap[d]? = some (.cells cs 57 fr)) (i : Nat) (u : Value) : JV N (w.setCell ⟨d, i, none⟩ u) K rv nvv ns ys := by
  have hf : KF N.heap.size [57] [] w (w.setCell ⟨d, i, none⟩ u) := ⟨(Below.refl _ _).setCell (p := ⟨d, i, none⟩) hd u, fun k cs' T fr' hk' hT _ => (heap_setCell_other _ _ _ _ fun e => by
    simp only at e
    subst e
    rw [hk] at hk'
    simp only [Option.some.injEq, Obj.cells.injEq] at hk'
    exact hT (by rw [← hk'.2.1]; simp)).trans hk'⟩
  exact ⟨h.below.trans hf.below, hf.kept _ _ _ _ h.box (by decide) (by simp), h.base, h.len, hf.own h.row (by decide) (by simp), fun j hj => by
    obtain ⟨xs, hx⟩ := h.fld j hj
    exact own_set_any hx d i u⟩
theorem JV.form {N w : World} {K : Nat} {rv : Value} {p2 : Option Addr} {M d2 : Nat} {ns : List (Int × List Vl)} {ys : List Value} (h : JV N w K rv (.slice p2 M d2) ns ys) (hM : M = ns.length) {j : Nat} (hj : j < M) : ∃ nb px cx, p2 = some ⟨nb, 0, none⟩ ∧ ys.getD j undef = .slice px ((ns.map fun n => n.2).getD j []).length cx := by
  subst hM
  obtain ⟨nb, c, hv⟩ := own_pos (own_mono h.row (Nat.zero_le _)) (by omega)
  simp only [Value.slice.injEq] at hv
  obtain ⟨xs, hx⟩ := h.fld j hj
  obtain ⟨px, cx, he, -, -⟩ := own_slice hx
  exact ⟨nb, px, cx, hv.1, he⟩
theorem JV.cell {N w : World} {K : Nat} {rv : Value} {nb M d2 : Nat} {ns : List (Int × List Vl)} {ys : List Value} (h : JV N w K rv (.slice (some ⟨nb, 0, none⟩) M d2) ns ys) (hM : M = ns.length) {j : Nat} (hj : j < M) : w.cell? ⟨nb, j * 2 + 1, none⟩ = some (ys.getD j undef) := by
  subst hM
  exact ((own_mono h.row (Nat.zero_le _) : Own _ _ _ _ _ _).cellAt _ (by omega)).trans (ndC_get h.len hj).2
theorem JV.fldAt {N w : World} {K : Nat} {rv nvv : Value} {ns : List (Int × List Vl)} {ys : List Value} (h : JV N w K rv nvv ns ys) {j L cx : Nat} (hj : j < ns.length) {px : Option Addr} (hL : L = ((ns.map fun n => n.2).getD j []).length) (hy : ys.getD j undef = .slice px L cx) {f : Nat} (hf : f < L) :
    ∃ dx cs u0 u1, px = some ⟨dx, 0, none⟩ ∧ N.heap.size ≤ dx ∧ w.heap[dx]? = some (.cells cs 57 (0, 0)) ∧ w.cell? ⟨dx, f * 2, none⟩ = some u0 ∧ w.cell? ⟨dx, f * 2 + 1, none⟩ = some u1 := by
  obtain ⟨xs, hx⟩ := h.fld j hj
  rw [hy, ← hL] at hx
  have hl := hx.1
  rcases hx.2 with ⟨h1, h0⟩ | ⟨g, cap, cur, hv, hg, hh, hc, _⟩
  · omega
  · simp only [Value.slice.injEq] at hv
    refine ⟨g, cur, _, _, hv.1, hg, hh, ((own_mono (by rw [hv.1] at hx; exact hx) (Nat.zero_le _) : Own _ _ _ _ _ _).cellAt (f * 2) (by omega)).trans (List.getElem?_eq_getElem (by omega)), ((own_mono (by rw [hv.1] at hx; exact hx) (Nat.zero_le _) : Own _ _ _ _ _ _).cellAt (f * 2 + 1) (by omega)).trans (List.getElem?_eq_getElem (by omega))⟩
/-- Another pair of graphs stays, and stays apart. -/
theorem Duo.stay {w0 w w' : World} {g h : Nat} {c : Cfg} {G H : Gr} {fg fh fa fa' : List Nat} (t : Duo w0 w g h c G H fg fh) (st : Stays fa fa' w w') (hb : Below w0.heap.size w w') (h1 : ∀ k ∈ fg, k ∉ fa) (h2 : ∀ k ∈ fh, k ∉ fa) : Duo w0 w' g h c G H fg fh ∧ (∀ k ∈ fg, k ∉ fa') ∧ ∀ k ∈ fh, k ∉ fa' := by
  obtain ⟨a1, a2⟩ := t.ga.stay st h1
  obtain ⟨b1, b2⟩ := t.gb.stay st h2
  exact ⟨⟨t.below.trans hb, a1, b1, t.apart⟩, a2, b2⟩
/-- A third graph, apart from two. -/
structure Tri (w0 w : World) (g k h : Nat) (c : Cfg) (A G : Gr) (fg fk fh : List Nat) : Prop where
  duo : Duo w0 w k h c G G fk fh
  ga : GA w0.heap.size w g c A fg
  a1 : ∀ x ∈ fk, x ∉ fg
  a2 : ∀ x ∈ fh, x ∉ fg
theorem Tri.keep {w0 w w' : World} {g k h : Nat} {c : Cfg} {A G : Gr} {fg fk fh : List Nat} (t : Tri w0 w g k h c A G fg fk fh) (hb : Below w.heap.size w w') : Tri w0 w' g k h c A G fg fk fh := ⟨t.duo.keep hb, t.ga.below hb, t.a1, t.a2⟩
theorem Tri.of {w0 w w' : World} {g k h : Nat} {c : Cfg} {G : Gr} {fg fk fh : List Nat} (t : Duo w0 w g h c G G fg fh) (hb : Below w.heap.size w w') (hk : GA w.heap.size w' k c G fk) : Tri w0 w' g k h c G G fg fk fh := by
  have h1 := t.below.size
  refine ⟨⟨below_next t.below hb, hk.up h1, t.gb.below hb, fun x hx hm => ?_⟩, t.ga.below hb, fun x hx hm => ?_, fun x hx hm => t.apart x hm hx⟩
  · have a := hk.base x hx
    have b := t.gb.lt x hm
    omega
  · have a := hk.base x hx
    have b := t.ga.lt x hm
    omega
theorem Tri.doA {w0 w w' : World} {g k h : Nat} {c : Cfg} {A A' G : Gr} {fg fg' fk fh : List Nat} (t : Tri w0 w g k h c A G fg fk fh) (ga : GA w0.heap.size w' g c A' fg') (st : Stays fg fg' w w') (hb : Below w0.heap.size w w') : Tri w0 w' g k h c A' G fg' fk fh := by
  obtain ⟨d, h1, h2⟩ := t.duo.stay st hb t.a1 t.a2
  exact ⟨d, ga, h1, h2⟩
/-- What a law reads of a step's row, in whatever world behind. -/
theorem step_at {w : World} {A : Option Addr} {m : Nat} {zs : List Stp} (h : RdX w A m zs) {k : Nat} (hk : k < m) : ∃ b o, A = some ⟨b, o, none⟩ ∧ ∃ x, Hid (∀ W : World, Below w.heap.size w W → Hid (Below w.heap.size w W) ∧ W.cell? ⟨b, o + k * 7, none⟩ = some (.int .i64 x.k) ∧ W.cell? ⟨b, o + k * 7 + 1, none⟩ = some (.int .i64 x.t) ∧ W.cell? ⟨b, o + k * 7 + 2, none⟩ = some (.int .i64 x.i) ∧ W.cell? ⟨b, o + k * 7 + 3, none⟩ = some (.int .i64 x.f) ∧ W.cell? ⟨b, o + k * 7 + 4, none⟩ = some (.int .i64 x.j) ∧ W.cell? ⟨b, o + k * 7 + 5, none⟩ = some (.int .i64 x.c) ∧ W.cell? ⟨b, o + k * 7 + 6, none⟩ = some (.int .i64 (Stp.n x))) := by
  obtain ⟨b, o, rfl, hcell⟩ := h.cell (by omega)
  have hall := stp_cells_at (hcell k hk)
  refine ⟨b, o, rfl, zs.getD k Stp.zero, Lib.hid fun W hb => ?_⟩
  obtain ⟨h0, h1, h2, h3, h4, h5, h6⟩ := hall
  exact ⟨Lib.hid hb, cell_keep hb h0, cell_keep hb h1, cell_keep hb h2, cell_keep hb h3, cell_keep hb h4, cell_keep hb h5, cell_keep hb h6⟩
set_option maxHeartbeats 8000000 in
set_option maxRecDepth 100000 in
theorem gclones_any (c : Cfg) (A1 : Option Addr) (n1 cap1 : Nat) (xs1 : List Stp) (hc1 : n1 ≤ cap1) (A2 : Option Addr) (n2 cap2 : Nat) (xs2 : List Stp) (hc2 : n2 ≤ cap2) (A3 : Option Addr) (n3 cap3 : Nat) (xs3 : List Stp) (hc3 : n3 ≤ cap3) (w : World) (h1 : RdX w A1 n1 xs1) (h2 : RdX w A2 n2 xs2) (h3 : RdX w A3 n3 xs3) :
    Calls Try.prog 5 #[.agg c.cells, .slice A1 n1 cap1, .slice A2 n2 cap2, .slice A3 n3 cap3] w fun e w' => e = .returned (.bool true) ∧ Below w.heap.size w w' := by
  have A0 := Lib.hid (heap_alloc_new w (.cells c.cells 23))
  have B0 := Lib.hid (below_alloc0 w (.cells c.cells 23))
  by_cases hc : c.wrong = 0
  · have HC : Hid (c.check = 0) := Lib.hid (by unfold Cfg.check; rw [if_pos hc])
    have HW := Lib.hid hc
    have HX1 := Lib.hid h1
    have HX2 := Lib.hid h2
    have HX3 := Lib.hid h3
    clear hc h1 h2 h3
    go_enter Try.func5, Try.ntmps5
    go_wp2_with (first
      | (go_at_call 6; refine (galive_any _).mono ?_; rintro e w1 ⟨rfl, hb1⟩; have A1' := Lib.hid (keep hb1 A0.out); have B1 := Lib.hid (below_next B0.out hb1); clear hb1)
      | (go_at_call 8; refine (check_any c _).mono ?_; rw [HC.out]; rintro e w2 ⟨rfl, hb2⟩; have A2' := Lib.hid (keep hb2 A1'.out); have B2 := Lib.hid (below_next B1.out hb2); clear hb2)
      | (go_at_call 7; ((with_reducible refine (gnew_ga c HW.out w2).mono ?_); rintro e w3 ⟨g, fg, rfl, hb3, hga⟩; have A3' := Lib.hid (keep hb3 A2'.out); have B3 := Lib.hid (below_next B2.out hb3); have G3 := Lib.hid hga; clear hb3 hga A1' A0))
      | (go_at_call 7; ((with_reducible refine (gnew_ga c HW.out w3).mono ?_); rintro e w4 ⟨h, fh, rfl, hb4, hga⟩; have B4 := Lib.hid (below_next B3.out hb4); have G4 := Lib.hid (G3.out.below hb4); have H4 := Lib.hid hga; clear hb4 hga))
      | (go_at_call 10; ((with_reducible refine (gfew_any A1 n1 cap1 hc1 _).mono ?_); rintro e w5 ⟨⟨cap1', hd1, rfl⟩, rfl⟩))
      | (go_at_call 10; ((with_reducible refine (gfew_any A2 n2 cap2 hc2 _).mono ?_); rintro e w5 ⟨⟨cap2', hd2, rfl⟩, rfl⟩))
      | (go_at_call 10; ((with_reducible refine (gfew_any A3 n3 cap3 hc3 _).mono ?_); rintro e w5 ⟨⟨cap3', hd3, rfl⟩, rfl⟩))
      | (refine wpList_load_row rfl 23 _ rfl w.heap.size rfl 23 c.cells (0, 0) _ ?_ Try.underlying23 rfl (by kernel_rfl) ?_; exact Hid.out (by assumption)))
    have T4 : Hid (Duo w w4 g h c (Gr.fresh c) (Gr.fresh c) fg fh) := Lib.hid ⟨B4.out, GA.up G4.out B2.out.size, GA.up H4.out B3.out.size, fun k hk hm => by
      have h1 := G3.out.lt k hk
      have h2 := H4.out.base k hm
      omega⟩
    obtain ⟨m1, hm1⟩ : ∃ m, m = min n1 80 := ⟨_, rfl⟩
    obtain ⟨m2, hm2⟩ : ∃ m, m = min n2 80 := ⟨_, rfl⟩
    obtain ⟨m3, hm3⟩ : ∃ m, m = min n3 80 := ⟨_, rfl⟩
    rw [← hm1] at hd1
    rw [← hm2] at hd2
    rw [← hm3] at hd3
    rw [← hm1, ← hm2, ← hm3]
    have hm80 : m1 ≤ 80 ∧ m2 ≤ 80 ∧ m3 ≤ 80 := by omega
    have HM1 : Hid (RdX w A1 m1 (xs1.take m1)) := Lib.hid (HX1.out.take (by omega))
    have HM2 : Hid (RdX w A2 m2 (xs2.take m2)) := Lib.hid (HX2.out.take (by omega))
    have HM3 : Hid (RdX w A3 m3 (xs3.take m3)) := Lib.hid (HX3.out.take (by omega))
    generalize xs1.take m1 = z1 at HM1
    generalize xs2.take m2 = z2 at HM2
    generalize xs3.take m3 = z3 at HM3
    clear hm1 hm2 hm3 B0 B1 B2 B3 B4 G3 G4 H4 A2' A3' HX1 HX2 HX3
    go_loopw [13] (fun i wr => ∃ k : Nat, k ≤ m1 ∧ i = .int .i64 k ∧ ∃ G fg fh, Hid (G.Good ∧ G.nod.length ≤ k + 1) ∧ Hid (Duo w wr g h c G G fg fh)) (fun i _ => m1 - (intOf i).toNat)
    case atStart => exact ⟨0, by omega, rfl, _, _, _, Lib.hid ⟨Gr.fresh_good HW.out, by simp [Gr.fresh]⟩, T4⟩
    case round =>
      clear T4 fg fh
      obtain ⟨k, hk, rfl, G, fg, fh, HGD, HT⟩ := hrel
      by_cases hlt : k < m1
      · obtain ⟨b, o, rfl, x, HS⟩ := step_at HM1.out hlt
        obtain ⟨r, hr⟩ : ∃ r, r = G.out c.q x 0 := ⟨_, rfl⟩
        have HR := Lib.hid hr.symm
        clear hr
        have HNX : Hid (G.Next r.2) := Lib.hid (by rw [← HR.out]; exact HGD.out.1.out (by have := HGD.out.2; omega) c.q x 0)
        have i1 : (0 : Int) ≤ (k : Int) := by omega
        have i2 : (k : Int) < (m1 : Int) := by omega
        obtain ⟨-, s0, s1, s2, s3, s4, s5, s6⟩ := HS.out _ HT.out.below
        go_wp2_with (first
          | (go_at_call 11; ((with_reducible refine (gdo_gs HT.out.ga HGD.out.1 x 0 HR.out).mono ?_); rintro e w6 ⟨rfl, -, fg', hga, hst, hb6⟩; have T6 := Lib.hid (Duo.doA HT.out hga hst hb6); obtain ⟨-, u0, u1, u2, u3, u4, u5, u6⟩ := HS.out _ T6.out.below; clear hga hst hb6))
          | (go_at_call 11; ((with_reducible refine (gdo_gs T6.out.gb HGD.out.1 x 0 HR.out).mono ?_); rintro e w7 ⟨rfl, -, fh', hga, hst, hb7⟩; have T7 := Lib.hid (Duo.doB T6.out hga hst hb7); clear hga hst hb7)))
        go_roundw
        case rel => exact ⟨k + 1, by omega, by go_num, r.2, fg', fh', Lib.hid ⟨HNX.out.1, by have h1 := HNX.out.2.1; have h2 := HGD.out.2; omega⟩, T7⟩
        case measure => simp [intOf]; omega
      · obtain rfl : k = m1 := by omega
        clear hlt hk
        go_wp2_with (first
          | (go_at_call 18; ((with_reducible refine (gclone_ga HT.out.ga HGD.out.1).mono ?_); rintro e w6 ⟨kk, fk, rfl, hga, hb6⟩; have T6 := Lib.hid (Tri.of HT.out hb6 hga); clear hga hb6))
          | (go_at_call 15; ((with_reducible refine (gview_ga T6.out.ga HGD.out.1).mono ?_); rintro e w7 ⟨p1, q1, d1, p2, q2, d2, rfl, hq1, hq2, hvw, hb7⟩; have J7 := Lib.hid (JV.begin hb7 hvw); have HMM := Lib.hid hq2; clear hq1 hq2 hvw hb7)))
        obtain ⟨ys, hj⟩ := J7.out
        have HJ := Lib.hid hj
        clear J7 hj
        have hMb : q2 ≤ 1000000 := by rw [HMM.out]; exact HGD.out.1.vr.2.1
        generalize hWv : World.alloc w7 _ = Wv at *
        clear hWv
        generalize w7.heap.size = KV at *
        go_loopw [16] (fun i wq => ∃ j : Nat, j ≤ q2 ∧ i = .int .i64 j ∧ Hid (JV w6 wq KV (.slice p1 q1 d1) (.slice p2 q2 d2) G.vNodes ys)) (fun i _ => q2 - (intOf i).toNat)
        case atStart => exact ⟨0, by omega, rfl, HJ⟩
        case round =>
          clear HJ
          obtain ⟨j, hj, rfl, HJ⟩ := hrel
          have y1 : wr.cell? ⟨KV, 1, none⟩ = some (.slice p2 q2 d2) := cell_of_row _ _ _ _ _ _ HJ.out.box
          by_cases hlt : j < q2
          · have i1 : (0 : Int) ≤ (j : Int) := by omega
            have i2 : (j : Int) < (q2 : Int) := by omega
            obtain ⟨nb, px, cx, rfl, hys⟩ := HJ.out.form HMM.out hlt
            have HYS := Lib.hid hys
            have HLT := Lib.hid (show j < G.vNodes.length by rw [← HMM.out]; exact hlt)
            obtain ⟨L, hL⟩ : ∃ L, L = ((G.vNodes.map fun n => n.2).getD j []).length := ⟨_, rfl⟩
            have HL := Lib.hid hL
            have hLb : L ≤ 1000 := by rw [hL]; exact HGD.out.1.vr.2.2.2 j
            rw [← hL] at HYS
            clear hys hL
            go_wp2_with fail
            go_loopw [17] (fun i wq => ∃ f : Nat, f ≤ L ∧ i = .int .i64 f ∧ Hid (JV w6 wq KV (.slice p1 q1 d1) (.slice (some ⟨nb, 0, none⟩) q2 d2) G.vNodes ys)) (fun i _ => L - (intOf i).toNat)
            case atStart => exact ⟨0, by omega, rfl, HJ⟩
            case round =>
              clear HJ y1
              obtain ⟨f, hf, rfl, HJ⟩ := hrel
              have y1 : wr.cell? ⟨KV, 1, none⟩ = some (.slice (some ⟨nb, 0, none⟩) q2 d2) := cell_of_row _ _ _ _ _ _ HJ.out.box
              have y2 := HJ.out.cell HMM.out hlt
              rw [HYS.out] at y2
              by_cases hfl : f < L
              · obtain ⟨dx, cs, u0, u1, rfl, hdx, hcs, v0, v1⟩ := HJ.out.fldAt HLT.out HL.out HYS.out hfl
                have i3 : (0 : Int) ≤ (f : Int) := by omega
                have i4 : (f : Int) < (L : Int) := by omega
                have f0 : ∀ k, wr.frozen? ⟨dx, k, none⟩ = false := fun k => frozen_of_row _ _ _ _ _ hcs
                have HCS := Lib.hid hcs
                have HDX := Lib.hid hdx
                clear hcs hdx
                go_wp2_with fail
                go_roundw
                case rel =>
                  refine ⟨f + 1, by omega, by go_num, Lib.hid ?_⟩
                  have s1 := HJ.out.set HDX.out HCS.out (f * 2) (.int .i64 9)
                  exact s1.set HDX.out (heap_setCell_same wr dx (f * 2) _ _ (.int .i64 9) HCS.out) (f * 2 + 1) (.int .i64 0)
                case measure => simp [intOf]; omega
              · obtain rfl : f = L := by omega
                go_wp2_with fail
                go_roundw
                case rel => exact ⟨j + 1, by omega, by go_num, HJ⟩
                case measure => simp [intOf]; omega
          · obtain rfl : j = q2 := by omega
            clear hlt hj
            have T7 : Hid (Tri w wr g kk h c G G fg fk fh) := Lib.hid (T6.out.keep HJ.out.below)
            go_wp2_with fail
            clear y1 HJ T6 HMM hMb
            go_loopw [18] (fun i wq => ∃ j : Nat, j ≤ m2 ∧ i = .int .i64 j ∧ ∃ A fg', Hid (A.Good ∧ A.nod.length ≤ k + 1 + j) ∧ Hid (Tri w wq g kk h c A G fg' fk fh)) (fun i _ => m2 - (intOf i).toNat)
            case atStart => exact ⟨0, by omega, rfl, _, _, Lib.hid ⟨HGD.out.1, by have := HGD.out.2; omega⟩, T7⟩
            case round =>
              clear T7
              obtain ⟨j, hj, rfl, A, fg', HA, HT8⟩ := hrel
              by_cases hlt : j < m2
              · obtain ⟨b, o, rfl, x, HS⟩ := step_at HM2.out hlt
                obtain ⟨r, hr⟩ : ∃ r, r = A.out c.q x 0 := ⟨_, rfl⟩
                have HR := Lib.hid hr.symm
                clear hr
                have HNX : Hid (A.Next r.2) := Lib.hid (by rw [← HR.out]; exact HA.out.1.out (by have := HA.out.2; omega) c.q x 0)
                have i1 : (0 : Int) ≤ (j : Int) := by omega
                have i2 : (j : Int) < (m2 : Int) := by omega
                obtain ⟨-, s0, s1, s2, s3, s4, s5, s6⟩ := HS.out _ HT8.out.duo.below
                go_wp2_with (go_at_call 11; ((with_reducible refine (gdo_gs HT8.out.ga HA.out.1 x 0 HR.out).mono ?_); rintro e w6 ⟨rfl, -, fg2, hga, hst, hb6⟩; have T9 := Lib.hid (Tri.doA HT8.out hga hst hb6); clear hga hst hb6))
                go_roundw
                case rel => exact ⟨j + 1, by omega, by go_num, r.2, fg2, Lib.hid ⟨HNX.out.1, by have h1 := HNX.out.2.1; have h2 := HA.out.2; omega⟩, T9⟩
                case measure => simp [intOf]; omega
              · obtain rfl : j = m2 := by omega
                clear hlt hj
                have D8 : Hid (Duo w wr kk h c G G fk fh) := Lib.hid HT8.out.duo
                clear HT8 HA
                go_wp2_with fail
                have HG5 : Hid (G.Good ∧ G.nod.length ≤ k + 1 + 0) := Lib.hid ⟨HGD.out.1, by have := HGD.out.2; omega⟩
                go_loopw [19] (fun z wq => ∃ i : Nat, i ≤ m3 ∧ z = .int .i64 i ∧ ∃ E fk fh, Hid (E.Good ∧ E.nod.length ≤ k + 1 + i) ∧ Hid (Duo w wq kk h c E E fk fh)) (fun z _ => m3 - (intOf z).toNat)
                case atStart => exact ⟨0, by omega, rfl, _, _, _, HG5, D8⟩
                case round =>
                  clear D8 HG5 HGD HT
                  obtain ⟨i, hi, rfl, E, fk, fh, HGE, HT5⟩ := hrel
                  by_cases hlt : i < m3
                  · obtain ⟨b, o, rfl, x, HS⟩ := step_at HM3.out hlt
                    obtain ⟨r, hr⟩ : ∃ r, r = E.out c.q x 0 := ⟨_, rfl⟩
                    have HR := Lib.hid hr.symm
                    clear hr
                    have HNX : Hid (E.Next r.2) := Lib.hid (by rw [← HR.out]; exact HGE.out.1.out (by have := HGE.out.2; omega) c.q x 0)
                    have i1 : (0 : Int) ≤ (i : Int) := by omega
                    have i2 : (i : Int) < (m3 : Int) := by omega
                    go_wp2_with fail
                    go_region_held3 (fun W => Hid (Below w.heap.size w W) ∧ W.cell? ⟨b, o + i * 7, none⟩ = some (.int .i64 x.k) ∧ W.cell? ⟨b, o + i * 7 + 1, none⟩ = some (.int .i64 x.t) ∧ W.cell? ⟨b, o + i * 7 + 2, none⟩ = some (.int .i64 x.i) ∧ W.cell? ⟨b, o + i * 7 + 3, none⟩ = some (.int .i64 x.f) ∧ W.cell? ⟨b, o + i * 7 + 4, none⟩ = some (.int .i64 x.j) ∧ W.cell? ⟨b, o + i * 7 + 5, none⟩ = some (.int .i64 x.c) ∧ W.cell? ⟨b, o + i * 7 + 6, none⟩ = some (.int .i64 x.n))
                      (first | with_reducible exact HS.out _ T7.out.below | with_reducible exact HS.out _ T6.out.below | exact HS.out _ HT5.out.below.drew)
                      (first
                        | (go_at_call 11; ((with_reducible refine (gdo_gs (HT5.out.ga.below (by (repeat (first | with_reducible exact (Below.refl _ _) | with_reducible exact Below.refl _ _ | with_reducible refine Below.drew ?_ | with_reducible refine below_new ?_ _ | with_reducible refine below_drewN ?_ _)))) HGE.out.1 x 0 HR.out).mono ?_); rintro e w6 ⟨rfl, -, fk', hga, hst, hb6⟩; have T6 := Lib.hid (Duo.doA (HT5.out.keep (by (repeat (first | with_reducible exact (Below.refl _ _) | with_reducible exact Below.refl _ _ | with_reducible refine Below.drew ?_ | with_reducible refine below_new ?_ _ | with_reducible refine below_drewN ?_ _)))) hga hst hb6); clear hga hst hb6))
                        | (go_at_call 11; ((with_reducible refine (gdo_gs T6.out.gb HGE.out.1 x 0 HR.out).mono ?_); rintro e w7 ⟨rfl, -, fh', hga, hst, hb7⟩; have T7 := Lib.hid (Duo.doB T6.out hga hst hb7); clear hga hst hb7)))
                    all_goals
                      go_split_ands
                      go_wp2_with fail
                      go_roundw
                      case rel => exact ⟨i + 1, by omega, by go_num, r.2, fk', fh', Lib.hid ⟨HNX.out.1, by have h1 := HNX.out.2.1; have h2 := HGE.out.2; omega⟩, T7⟩
                      case measure => simp [intOf]; omega
                  · obtain rfl : i = m3 := by omega
                    clear hlt hi
                    go_wp2_with fail
                    generalize hW0 : World.alloc (World.alloc wr _) _ = W0
                    have D0 : Hid (Duo w W0 kk h c E E fk fh) := Lib.hid (by rw [← hW0]; exact HT5.out.keep (below_new (below_alloc0 wr _) _))
                    have NB : Hid (Nob W0 (some ⟨wr.heap.size, 0, none⟩)) := Lib.hid (.inr ⟨_, rfl, by rw [← hW0]; exact cell_of_row _ _ _ _ _ _ (keep_alloc _ (heap_alloc_new wr _))⟩)
                    have KB : W0.heap[wr.heap.size + 1]? = some (.cells #[.int .i64 9, .int .i64 0, .int .i64 0, .int .i64 0, .int .i64 0] 36 (0, 0)) := by rw [← hW0]; exact heap_two wr _ _
                    clear hW0
                    generalize wr.heap.size + 1 = K at *
                    have HS3 : Hid (∀ W : World, Below W0.heap.size W0 W → Hid (Below W0.heap.size W0 W) ∧ W.cell? ⟨K, 0, none⟩ = some (.int .i64 9) ∧ W.cell? ⟨K, 1, none⟩ = some (.int .i64 0) ∧ W.cell? ⟨K, 2, none⟩ = some (.int .i64 0) ∧ W.cell? ⟨K, 3, none⟩ = some (.int .i64 0) ∧ W.cell? ⟨K, 4, none⟩ = some (.int .i64 0)) := Lib.hid fun W hb => by
                      have hK := Go.Proofs.Ytaefcmmjeloccaa.keep hb KB
                      exact ⟨Lib.hid hb, cell_of_row _ _ _ _ _ _ hK, cell_of_row _ _ _ _ _ _ hK, cell_of_row _ _ _ _ _ _ hK, cell_of_row _ _ _ _ _ _ hK, cell_of_row _ _ _ _ _ _ hK⟩
                    clear KB
                    have FD0 : ∀ W : World, (Instr.field 45 (.agg #[.slice none 0 0, .slice none 0 0]) 0).run Try.prog W = .ok (.slice none 0 0) W := fun _ => by kernel_rfl
                    have FD1 : ∀ W : World, (Instr.field 45 (.agg #[.slice none 0 0, .slice none 0 0]) 1).run Try.prog W = .ok (.slice none 0 0) W := fun _ => by kernel_rfl
                    go_region_held3 (fun W => Hid (Below W0.heap.size W0 W) ∧ W.cell? ⟨K, 0, none⟩ = some (.int .i64 9) ∧ W.cell? ⟨K, 1, none⟩ = some (.int .i64 0) ∧ W.cell? ⟨K, 2, none⟩ = some (.int .i64 0) ∧ W.cell? ⟨K, 3, none⟩ = some (.int .i64 0) ∧ W.cell? ⟨K, 4, none⟩ = some (.int .i64 0))
                      (first | exact HS3.out _ (Below.refl _ _).drew | assumption | (go_split_ands; with_reducible exact HS3.out _ (below_next (Hid.out (by assumption)) hbx)))
                      (first
                      | (go_at_call 15; go_split_ands; ((with_reducible refine (gview_ga (D0.out.ga.below (Hid.out (by assumption))) HGE.out.1).mono ?_); rintro e w7 ⟨p1, q1, d1, p2, q2, d2, rfl, -, -, hvw, hbx⟩; have VW := Lib.hid hvw; clear hvw))
                      | (go_at_call 15; go_split_ands; ((with_reducible refine (gview_ga (D0.out.gb.below (Hid.out (by assumption))) HGE.out.1).mono ?_); rintro e w8 ⟨p3, q3, d3, p4, q4, d4, rfl, -, -, hvw, hbx⟩; have VW2 := Lib.hid hvw; have VW1 := Lib.hid (VW.out.below hbx); clear hvw))
                      | (go_at_call 14; ((with_reducible refine (pview_ga HGE.out.1 VW1.out VW2.out).mono ?_); rintro e w9 ⟨rfl, hbx⟩))
                      | (go_at_call 11; ((with_reducible refine (gdo_nob (nob_nil _)).mono ?_); rintro e w10 ⟨rfl, hbx⟩))
                      | (go_at_call 11; go_split_ands; ((with_reducible refine (gdo_nob (NB.out.below (Hid.out (by assumption)))).mono ?_); rintro e w10 ⟨rfl, hbx⟩))
                      | (go_at_call 15; ((with_reducible refine (gview_nob (nob_nil _)).mono ?_); rintro e w10 ⟨rfl, hbx⟩))
                      | (go_at_call 15; go_split_ands; ((with_reducible refine (gview_nob (NB.out.below (Hid.out (by assumption)))).mono ?_); rintro e w10 ⟨rfl, hbx⟩))
                      | (go_at_call 19; ((with_reducible refine (glive_nob (nob_nil _)).mono ?_); rintro e w10 ⟨rfl, rfl⟩))
                      | (go_at_call 17; ((with_reducible refine (gmade_nob (nob_nil _)).mono ?_); rintro e w10 ⟨rfl, rfl⟩))
                      | (go_at_call 17; go_split_ands; ((with_reducible refine (gmade_nob (NB.out.below (Hid.out (by assumption)))).mono ?_); rintro e w10 ⟨rfl, rfl⟩))
                      | (go_at_call 18; ((with_reducible refine (gclone_nob (nob_nil _)).mono ?_); rintro e w10 ⟨rfl, rfl⟩))
                      | (go_at_call 18; go_split_ands; ((with_reducible refine (gclone_nob (NB.out.below (Hid.out (by assumption)))).mono ?_); rintro e w10 ⟨rfl, rfl⟩)))
                    all_goals
                      go_split_ands
                      go_wp2_with fail
                      go_ret
                      exact ⟨rfl, below_next D0.out.below (Hid.out (by assumption))⟩
  · have HC : Hid (c.check = 6) := Lib.hid (by unfold Cfg.check; rw [if_neg hc])
    clear hc h1 h2 h3
    go_enter Try.func5, Try.ntmps5
    go_wp2_with (first
      | (go_at_call 6; refine (galive_any _).mono ?_; rintro e w1 ⟨rfl, hb1⟩; have A1' := Lib.hid (keep hb1 A0.out); have B1 := Lib.hid (below_next B0.out hb1); clear hb1)
      | (go_at_call 8; refine (check_any c _).mono ?_; rw [HC.out]; rintro e w2 ⟨rfl, hb2⟩; have B2 := Lib.hid (below_next B1.out hb2); clear hb2)
      | (refine wpList_load_row rfl 23 _ rfl w.heap.size rfl 23 c.cells (0, 0) _ ?_ Try.underlying23 rfl (by kernel_rfl) ?_; exact Hid.out (by assumption)))
    go_ret
    exact ⟨rfl, B2.out⟩
end Go.Proofs.Ytaefcmmjeloccaa
