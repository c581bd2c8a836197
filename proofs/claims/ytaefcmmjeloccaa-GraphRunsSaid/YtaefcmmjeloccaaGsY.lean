import Derived.Test.YtaefcmmjeloccaaGrT
import Derived.Test.YtaefcmmjeloccaaGsS
import Derived.Test.YtaefcmmjeloccaaGsV
import Derived.Test.YtaefcmmjeloccaaGsW
namespace Go.Proofs.Ytaefcmmjeloccaa
open Go.RowKit

/- The reference graph under one name; both graphs, apart. -/
/-- A graph whose blocks are these, none below B. -/
def RA (B : Nat) (w : World) (g : Nat) (c : Cfg) (G : Gr) (fp : List Nat) : Prop :=
  ∃ tb tcap nb ncap hv nv, Gx 50 85 w g c G tb tcap nb ncap hv nv ∧ fp = fpOf g tb nb hv nv ∧ ∀ k ∈ fp, B ≤ k
theorem RA.below {B : Nat} {w w' : World} {g : Nat} {c : Cfg} {G : Gr} {fp : List Nat} (h : RA B w g c G fp) (hb : Below w.heap.size w w') : RA B w' g c G fp := by
  obtain ⟨tb, tcap, nb, ncap, hv, nv, gx, e, hB⟩ := h
  exact ⟨tb, tcap, nb, ncap, hv, nv, gx.below hb, e, hB⟩
theorem RA.lt {B : Nat} {w : World} {g : Nat} {c : Cfg} {G : Gr} {fp : List Nat} (h : RA B w g c G fp) : ∀ k ∈ fp, k < w.heap.size := by
  obtain ⟨tb, tcap, nb, ncap, hv, nv, gx, rfl, hB⟩ := h
  exact gx.lt
theorem RA.base {B : Nat} {w : World} {g : Nat} {c : Cfg} {G : Gr} {fp : List Nat} (h : RA B w g c G fp) : ∀ k ∈ fp, B ≤ k := by
  obtain ⟨tb, tcap, nb, ncap, hv, nv, gx, rfl, hB⟩ := h
  exact hB
theorem RA.new {B : Nat} {w : World} {g : Nat} {c : Cfg} {G : Gr} {fp : List Nat} (h : RA B w g c G fp) {K : Nat} (hK : w.heap.size ≤ K) : K ∉ fp := fun hm => by have := h.lt K hm; omega
theorem RA.old {B : Nat} {w : World} {g : Nat} {c : Cfg} {G : Gr} {fp : List Nat} (h : RA B w g c G fp) {K : Nat} (hK : K < B) : K ∉ fp := fun hm => by have := h.base K hm; omega
/-- Another graph stays, and stays apart. -/
theorem RA.stay {B : Nat} {w w' : World} {g : Nat} {c : Cfg} {G : Gr} {fp fa fa' : List Nat} (h : RA B w g c G fp) (hs : Stays fa fa' w w') (hd : ∀ k ∈ fp, k ∉ fa) : RA B w' g c G fp ∧ ∀ k ∈ fp, k ∉ fa' := by
  have hlt := h.lt
  obtain ⟨tb, tcap, nb, ncap, hv, nv, gx, rfl, hB⟩ := h
  have h1 : ∀ k ∈ fpOf g tb nb hv nv, w'.heap[k]? = w.heap[k]? ∧ k ∉ fa' := fun k hk => by
    have h2 := hs k (w.heap[k]'(hlt k hk)) (Array.getElem?_eq_getElem (hlt k hk)) (hd k hk)
    exact ⟨h2.1.trans (Array.getElem?_eq_getElem (hlt k hk)).symm, h2.2⟩
  exact ⟨⟨tb, tcap, nb, ncap, hv, nv, gx.keep fun k hk => (h1 k hk).1, rfl, hB⟩, fun k hk => (h1 k hk).2⟩
theorem RA.up {B B' : Nat} {w : World} {g : Nat} {c : Cfg} {G : Gr} {fp : List Nat} (h : RA B w g c G fp) (hB : B' ≤ B) : RA B' w g c G fp := by
  obtain ⟨tb, tcap, nb, ncap, hv, nv, gx, e, hb⟩ := h
  exact ⟨tb, tcap, nb, ncap, hv, nv, gx, e, fun k hk => Nat.le_trans hB (hb k hk)⟩
theorem rnew_ra (c : Cfg) (hc : c.wrong = 0) (w : World) :
    Calls Try.prog 9 #[.agg c.cells] w fun e w' => ∃ g fp, e = .returned (.pointer (some ⟨g, 0, none⟩)) ∧ Below w.heap.size w w' ∧ RA w.heap.size w' g c (Gr.fresh c) fp :=
  (rnew_any c hc w).mono fun _ _ ⟨g, he, hb, tb, tcap, nb, ncap, hv, nv, gx, hB⟩ => ⟨g, _, he, hb, tb, tcap, nb, ncap, hv, nv, gx, rfl, hB⟩
theorem rstep_ra {B : Nat} {w : World} {g : Nat} {c : Cfg} {G : Gr} {fp : List Nat} (h : RA B w g c G fp) (hg : G.Good) (x : Stp) (no : Int) {r : Ans × Gr} (hr : G.out c.q x no = r) :
    Calls Try.prog 13 #[.pointer (some ⟨g, 0, none⟩), .agg #[.int .i64 x.k, .int .i64 x.t, .int .i64 x.i, .int .i64 x.f, .int .i64 x.j, .int .i64 x.c, .int .i64 x.n], .int .i64 no] w fun e w' => e = .returned (.agg #[.int .i64 r.1.e, .int .i64 r.1.k, .int .i64 r.1.n, .int .i64 r.1.d, .int .i64 r.1.c]) ∧ w.heap.size ≤ w'.heap.size ∧ ∃ fp', RA B w' g c r.2 fp' ∧ Stays fp fp' w w' ∧ Below B w w' := by
  subst hr
  have hlt := h.lt
  have hbs := h.base
  obtain ⟨tb, tcap, nb, ncap, hv, nv, gx, rfl, hB⟩ := h
  refine (rstep_any gx hg x no).mono fun e w' ⟨he, tb', tcap', nb', ncap', hv', nv', gx', fr, fs⟩ => ⟨he, fr.size, _, ⟨tb', tcap', nb', ncap', hv', nv', gx', rfl, fun k hk => ?_⟩, fun K o hK hn => ⟨(fr.block K (heap_lt hK) hn).trans hK, fun hm => ?_⟩, fr.below ?_ hB⟩
  · rcases fs k hk with h1 | h1
    · exact hB k h1
    · have := hB g (by simp [fpOf])
      have := hlt g (by simp [fpOf])
      omega
  · rcases fs K hm with h1 | h1
    · exact hn h1
    · have := heap_lt hK; omega
  · have h1 := hB g (by simp [fpOf])
    have h2 := hlt g (by simp [fpOf])
    omega
theorem rview_ra {B : Nat} {w : World} {g : Nat} {c : Cfg} {G : Gr} {fp : List Nat} (h : RA B w g c G fp) (hg : G.Good) :
    Calls Try.prog 16 #[.pointer (some ⟨g, 0, none⟩)] w fun e w' => ∃ p1 n1 c1 p2 n2 c2, e = .returned (.agg #[.slice p1 n1 c1, .slice p2 n2 c2]) ∧ n1 = G.vRoots.length ∧ n2 = G.vNodes.length ∧ Vw w' w.heap.size (.slice p1 n1 c1) (.slice p2 n2 c2) G.vRoots G.vNodes ∧ Below w.heap.size w w' := by
  obtain ⟨tb, tcap, nb, ncap, hv, nv, gx, rfl, hB⟩ := h
  refine (rview_any gx hg).mono fun e w' ⟨rv, nv', he, hv, hb⟩ => ?_
  obtain ⟨xs, h1, -⟩ := hv.roots
  obtain ⟨ys, h2, -⟩ := hv.nodes
  obtain ⟨p1, c1, rfl, -, -⟩ := own_slice h1
  obtain ⟨p2, c2, rfl, -, -⟩ := own_slice h2
  exact ⟨p1, _, c1, p2, _, c2, he, rfl, rfl, hv, hb⟩
theorem GA.stayR {B : Nat} {w w' : World} {g : Nat} {c : Cfg} {G : Gr} {fp fa fa' : List Nat} (h : GA B w g c G fp) (hs : Stays fa fa' w w') (hd : ∀ k ∈ fp, k ∉ fa) : GA B w' g c G fp ∧ ∀ k ∈ fp, k ∉ fa' := h.stay hs hd
theorem RA.nodes {B : Nat} {w : World} {g : Nat} {c : Cfg} {G : Gr} {fp : List Nat} (h : RA B w g c G fp) : ∃ p cp, w.cell? ⟨g, 11, none⟩ = some (.slice p G.nod.length cp) := by
  obtain ⟨tb, tcap, nb, ncap, hv, nv, gx, rfl, hB⟩ := h
  exact ⟨_, _, gx.head.2.2⟩
/-- The program's graph and the reference's, apart. -/
structure Dur (w0 w : World) (g h : Nat) (c : Cfg) (G H : Gr) (fg fh : List Nat) : Prop where
  below : Below w0.heap.size w0 w
  ga : GA w0.heap.size w g c G fg
  gb : RA w0.heap.size w h c H fh
  apart : ∀ k ∈ fg, k ∉ fh
theorem Dur.keep {w0 w w' : World} {g h : Nat} {c : Cfg} {G H : Gr} {fg fh : List Nat} (t : Dur w0 w g h c G H fg fh) (hb : Below w.heap.size w w') : Dur w0 w' g h c G H fg fh :=
  ⟨below_next t.below hb, t.ga.below hb, t.gb.below hb, t.apart⟩
theorem Dur.doA {w0 w w' : World} {g h : Nat} {c : Cfg} {G H G' : Gr} {fg fh fg' : List Nat} (t : Dur w0 w g h c G H fg fh) (ga : GA w0.heap.size w' g c G' fg') (st : Stays fg fg' w w') (hb : Below w0.heap.size w w') : Dur w0 w' g h c G' H fg' fh := by
  obtain ⟨h1, h2⟩ := t.gb.stay st fun k hk hm => t.apart k hm hk
  exact ⟨t.below.trans hb, ga, h1, fun k hk hm => h2 k hm hk⟩
theorem Dur.doB {w0 w w' : World} {g h : Nat} {c : Cfg} {G H H' : Gr} {fg fh fh' : List Nat} (t : Dur w0 w g h c G H fg fh) (gb : RA w0.heap.size w' h c H' fh') (st : Stays fh fh' w w') (hb : Below w0.heap.size w w') : Dur w0 w' g h c G H' fg fh' := by
  obtain ⟨h1, h2⟩ := t.ga.stay st fun k hk hm => t.apart k hk hm
  exact ⟨t.below.trans hb, h1, gb, fun k hk hm => h2 k hk hm⟩
/- GraphRuns: the law. -/
set_option maxHeartbeats 8000000 in
set_option maxRecDepth 100000 in
theorem gruns_any (c : Cfg) (A : Option Addr) (n cap : Nat) (xs : List Stp) (hcap : n ≤ cap) (A2 : Option Addr) (n2 cap2 : Nat) (ys : List Int) (w : World) (hx : RdX w A n xs) (hy : RdI w A2 n2 ys) :
    Calls Try.prog 3 #[.agg c.cells, .slice A n cap, .slice A2 n2 cap2] w fun e w' => e = .returned (.bool true) ∧ Below w.heap.size w w' := by
  have A0 := Lib.hid (heap_alloc_new w (.cells c.cells 23))
  have B0 := Lib.hid (below_alloc0 w (.cells c.cells 23))
  by_cases hc : c.wrong = 0
  · have HC : Hid (c.check = 0) := Lib.hid (by unfold Cfg.check; rw [if_pos hc])
    have HW := Lib.hid hc
    have HX := Lib.hid hx
    have HY := Lib.hid hy
    clear hc hx hy
    go_enter Try.func3, Try.ntmps3
    go_wp2_with (first
      | (go_at_call 6; refine (galive_any _).mono ?_; rintro e w1 ⟨rfl, hb1⟩; have A1 := Lib.hid (keep hb1 A0.out); have B1 := Lib.hid (below_next B0.out hb1); clear hb1)
      | (go_at_call 7; ((with_reducible refine (gnew_ga c HW.out w1).mono ?_); rintro e w2 ⟨g, fg, rfl, hb2, hga⟩; have A2' := Lib.hid (keep hb2 A1.out); have B2 := Lib.hid (below_next B1.out hb2); have G2 := Lib.hid hga; clear hb2 hga A0))
      | (go_at_call 8; refine (check_any c _).mono ?_; rw [HC.out]; rintro e w3 ⟨rfl, hb3⟩; have A3 := Lib.hid (keep hb3 A2'.out); have B3 := Lib.hid (below_next B2.out hb3); have G3 := Lib.hid (G2.out.below hb3); clear hb3)
      | (go_at_call 9; ((with_reducible refine (rnew_ra c HW.out w3).mono ?_); rintro e w4 ⟨h, fh, rfl, hb4, hga⟩; have B4 := Lib.hid (below_next B3.out hb4); have G4 := Lib.hid (G3.out.below hb4); have H4 := Lib.hid hga; clear hb4 hga))
      | (go_at_call 10; refine (gfew_any _ _ _ hcap _).mono ?_; rintro e w5 ⟨⟨cap', hc', rfl⟩, rfl⟩)
      | (refine wpList_load_row rfl 23 _ rfl w.heap.size rfl 23 c.cells (0, 0) _ ?_ Try.underlying23 rfl (by kernel_rfl) ?_; exact Hid.out (by assumption)))
    have T4 : Hid (Dur w w4 g h c (Gr.fresh c) (Gr.fresh c) fg fh) := Lib.hid ⟨B4.out, GA.up G4.out B1.out.size, RA.up H4.out B3.out.size, fun k hk hm => by
      have h1 := G3.out.lt k hk
      have h2 := H4.out.base k hm
      omega⟩
    obtain ⟨m, hm⟩ : ∃ m, m = min n 80 := ⟨_, rfl⟩
    rw [← hm] at hc' ⊢
    have hm80 : m ≤ 80 := by omega
    have HMX : Hid (RdX w A m (xs.take m)) := Lib.hid (HX.out.take (by omega))
    generalize xs.take m = zs at HMX
    clear hm B0 B1 B2 B3 B4 G2 G3 G4 H4 A1 A2' A3 HX
    go_loopw [10] (fun i wr => ∃ k : Nat, k ≤ m ∧ i = .int .i64 k ∧ ∃ G fg fh, Hid (G.Good ∧ G.nod.length ≤ k + 1) ∧ Hid (Dur w wr g h c G G fg fh)) (fun i _ => m - (intOf i).toNat)
    case atStart => exact ⟨0, by omega, rfl, _, _, _, Lib.hid ⟨Gr.fresh_good HW.out, by simp [Gr.fresh]⟩, T4⟩
    case round =>
      clear T4 fg fh
      obtain ⟨k, hk, rfl, G, fg, fh, HGD, HT⟩ := hrel
      by_cases hlt : k < m
      · obtain ⟨b, o, rfl, hcell⟩ := HMX.out.cell (by omega)
        have hall := stp_cells_at (hcell k hlt)
        clear hcell
        obtain ⟨x, hx⟩ : ∃ x, x = zs.getD k Stp.zero := ⟨_, rfl⟩
        rw [← hx] at hall
        clear hx
        have HS : Hid (∀ W : World, Below w.heap.size w W → Hid (Below w.heap.size w W) ∧ W.cell? ⟨b, o + k * 7, none⟩ = some (.int .i64 x.k) ∧ W.cell? ⟨b, o + k * 7 + 1, none⟩ = some (.int .i64 x.t) ∧ W.cell? ⟨b, o + k * 7 + 2, none⟩ = some (.int .i64 x.i) ∧ W.cell? ⟨b, o + k * 7 + 3, none⟩ = some (.int .i64 x.f) ∧ W.cell? ⟨b, o + k * 7 + 4, none⟩ = some (.int .i64 x.j) ∧ W.cell? ⟨b, o + k * 7 + 5, none⟩ = some (.int .i64 x.c) ∧ W.cell? ⟨b, o + k * 7 + 6, none⟩ = some (.int .i64 x.n)) := Lib.hid fun W hb => by
          obtain ⟨h0, h1, h2, h3, h4, h5, h6⟩ := hall
          exact ⟨Lib.hid hb, cell_keep hb h0, cell_keep hb h1, cell_keep hb h2, cell_keep hb h3, cell_keep hb h4, cell_keep hb h5, cell_keep hb h6⟩
        clear hall
        have HYR : Hid (∀ W : World, Below w.heap.size w W → RdI W A2 n2 ys) := Lib.hid fun W hb => HY.out.below hb
        obtain ⟨no, hno⟩ : ∃ no, no = ys.getD k 0 := ⟨_, rfl⟩
        have HNO := Lib.hid hno
        clear hno
        obtain ⟨r, hr⟩ : ∃ r, r = G.out c.q x no := ⟨_, rfl⟩
        have HR := Lib.hid hr.symm
        clear hr
        have HNX : Hid (G.Next r.2) := Lib.hid (by rw [← HR.out]; exact HGD.out.1.out (by have := HGD.out.2; omega) c.q x no)
        have HNG : Hid r.2.Good := Lib.hid HNX.out.1
        have i1 : (0 : Int) ≤ (k : Int) := by omega
        have i2 : (k : Int) < (m : Int) := by omega
        have HDR := Lib.hid HT.out.below.drew
        go_wp2_with fail
        refine wp_region_noPanic ?_
        refine wp_region_held_drew (S := fun W => Hid (Below w.heap.size w W) ∧ W.cell? ⟨b, o + k * 7, none⟩ = some (.int .i64 x.k) ∧ W.cell? ⟨b, o + k * 7 + 1, none⟩ = some (.int .i64 x.t) ∧ W.cell? ⟨b, o + k * 7 + 2, none⟩ = some (.int .i64 x.i) ∧ W.cell? ⟨b, o + k * 7 + 3, none⟩ = some (.int .i64 x.f) ∧ W.cell? ⟨b, o + k * 7 + 4, none⟩ = some (.int .i64 x.j) ∧ W.cell? ⟨b, o + k * 7 + 5, none⟩ = some (.int .i64 x.c) ∧ W.cell? ⟨b, o + k * 7 + 6, none⟩ = some (.int .i64 x.n)) (by kernel_rfl) (HS.out _ HDR.out) (fun hHeld => ?_)
        simp only [List.size_toArray, List.length_cons, List.length_nil, Nat.zero_add, Nat.reduceAdd]
        refine wpAnyH_take (i := 0) (oi := { dst := some 37, op := _, type := _, pos := _, after := _, guard := _ }) (v := ?_) rfl (by kernel_rfl) (by kernel_rfl) (by kernel_rfl) (fun _ _ _ h => h) (Or.inl ⟨by rfl, ?_⟩) (by assumption) ?_
        rotate_left
        · (intro w hSw; (try dsimp only at hSw); go_simp; (try with_reducible rfl))
        try simp only [Act.put, List.setIfInBounds_toArray, List.set_cons_zero, List.set_cons_succ]
        refine wpAnyH_take (i := 1) (oi := { dst := some 38, op := _, type := _, pos := _, after := _, guard := _ }) (v := ?_) rfl (by kernel_rfl) (by kernel_rfl) (by kernel_rfl) (fun _ _ _ h => h) (Or.inl ⟨by rfl, ?_⟩) (by assumption) ?_
        rotate_left
        · (intro w hSw; (try dsimp only at hSw); go_simp; (try with_reducible rfl))
        try simp only [Act.put, List.setIfInBounds_toArray, List.set_cons_zero, List.set_cons_succ]
        refine wpAnyH_take (i := 2) (oi := { dst := some 39, op := _, type := _, pos := _, after := _, guard := _ }) (v := ?_) rfl (by kernel_rfl) (by kernel_rfl) (by kernel_rfl) (fun _ _ _ h => h) (Or.inl ⟨by rfl, ?_⟩) (by assumption) ?_
        rotate_left
        · (intro w hSw; (try dsimp only at hSw); go_simp; (try with_reducible rfl))
        try simp only [Act.put, List.setIfInBounds_toArray, List.set_cons_zero, List.set_cons_succ]
        refine wpAnyH_take (i := 3) (oi := { dst := some 40, op := _, type := _, pos := _, after := _, guard := _ }) (v := ?_) rfl (by kernel_rfl) (by kernel_rfl) (by kernel_rfl) (fun _ _ _ h => h) (Or.inl ⟨by rfl, ?_⟩) (by assumption) ?_
        rotate_left
        · (intro w hSw; (try dsimp only at hSw); go_simp; (try with_reducible rfl))
        try simp only [Act.put, List.setIfInBounds_toArray, List.set_cons_zero, List.set_cons_succ]
        refine wpAnyH_take (i := 4) (oi := { dst := some 41, op := _, type := _, pos := _, after := _, guard := _ }) (v := ?_) rfl (by kernel_rfl) (by kernel_rfl) (by kernel_rfl) (fun _ _ _ h => h) (Or.inl ⟨by rfl, ?_⟩) (by assumption) ?_
        rotate_left
        · (intro w hSw; (try dsimp only at hSw); go_simp; (try with_reducible rfl))
        try simp only [Act.put, List.setIfInBounds_toArray, List.set_cons_zero, List.set_cons_succ]
        refine wpAnyH_take (i := 5) (oi := { dst := some 42, op := _, type := _, pos := _, after := _, guard := _ }) (v := ?_) rfl (by kernel_rfl) (by kernel_rfl) (by kernel_rfl) (fun _ _ _ h => h) (Or.inl ⟨by rfl, ?_⟩) (by assumption) ?_
        rotate_left
        · (intro w hSw; (try dsimp only at hSw); go_simp; (try with_reducible rfl))
        try simp only [Act.put, List.setIfInBounds_toArray, List.set_cons_zero, List.set_cons_succ]
        refine wpAnyH_take (i := 6) (oi := { dst := some 43, op := _, type := _, pos := _, after := _, guard := _ }) (v := ?_) rfl (by kernel_rfl) (by kernel_rfl) (by kernel_rfl) (fun _ _ _ h => h) (Or.inl ⟨by rfl, ?_⟩) (by assumption) ?_
        rotate_left
        · (intro w hSw; (try dsimp only at hSw); go_simp; (try with_reducible rfl))
        try simp only [Act.put, List.setIfInBounds_toArray, List.set_cons_zero, List.set_cons_succ]
        refine wpAnyH_take (i := 9) (oi := { dst := some 46, op := _, type := _, pos := _, after := _, guard := _ }) (v := ?_) rfl (by kernel_rfl) (by kernel_rfl) (by kernel_rfl) (fun _ _ _ h => h) (Or.inl ⟨by rfl, ?_⟩) (by assumption) ?_
        rotate_left
        · (intro w hSw; (try dsimp only at hSw); go_simp; (try with_reducible rfl))
        try simp only [Act.put, List.setIfInBounds_toArray, List.set_cons_zero, List.set_cons_succ]
        refine wpAnyH_take (i := 10) (oi := { dst := some 47, op := _, type := _, pos := _, after := _, guard := _ }) (v := ?_) rfl (by kernel_rfl) (by kernel_rfl) (by kernel_rfl) (fun _ _ _ h => h) (Or.inl ⟨by rfl, ?_⟩) (by assumption) ?_
        rotate_left
        · (intro w hSw; (try dsimp only at hSw); go_simp; (try with_reducible rfl))
        try simp only [Act.put, List.setIfInBounds_toArray, List.set_cons_zero, List.set_cons_succ]
        refine wpAnyH_take (i := 11) (oi := { dst := some 48, op := _, type := _, pos := _, after := _, guard := _ }) (v := ?_) rfl (by kernel_rfl) (by kernel_rfl) (by kernel_rfl) (fun _ _ _ h => h) (Or.inl ⟨by rfl, ?_⟩) (by assumption) ?_
        rotate_left
        · (intro w hSw; (try dsimp only at hSw); go_simp; (try with_reducible rfl))
        try simp only [Act.put, List.setIfInBounds_toArray, List.set_cons_zero, List.set_cons_succ]
        refine wpAnyH_take (i := 12) (oi := { dst := some 49, op := _, type := _, pos := _, after := _, guard := _ }) (v := ?_) rfl (by kernel_rfl) (by kernel_rfl) (by kernel_rfl) (fun _ _ _ h => h) (Or.inl ⟨by rfl, ?_⟩) (by assumption) ?_
        rotate_left
        · (intro w hSw; (try dsimp only at hSw); go_simp; (try with_reducible rfl))
        try simp only [Act.put, List.setIfInBounds_toArray, List.set_cons_zero, List.set_cons_succ]
        refine wpAnyH_take (i := 13) (oi := { dst := some 50, op := _, type := _, pos := _, after := _, guard := _ }) (v := ?_) rfl (by kernel_rfl) (by kernel_rfl) (by kernel_rfl) (fun _ _ _ h => h) (Or.inl ⟨by rfl, ?_⟩) (by assumption) ?_
        rotate_left
        · (intro w hSw; (try dsimp only at hSw); go_simp; (try with_reducible rfl))
        try simp only [Act.put, List.setIfInBounds_toArray, List.set_cons_zero, List.set_cons_succ]
        refine wpAnyH_take (i := 14) (oi := { dst := some 51, op := _, type := _, pos := _, after := _, guard := _ }) (v := ?_) rfl (by kernel_rfl) (by kernel_rfl) (by kernel_rfl) (fun _ _ _ h => h) (Or.inl ⟨by rfl, ?_⟩) (by assumption) ?_
        rotate_left
        · (intro w hSw; (try dsimp only at hSw); go_simp; (try with_reducible rfl))
        try simp only [Act.put, List.setIfInBounds_toArray, List.set_cons_zero, List.set_cons_succ]
        refine wpAnyH_take (i := 15) (oi := { dst := some 52, op := _, type := _, pos := _, after := _, guard := _ }) (v := ?_) rfl (by kernel_rfl) (by kernel_rfl) (by kernel_rfl) (fun _ _ _ h => h) (Or.inl ⟨by rfl, ?_⟩) (by assumption) ?_
        rotate_left
        · (intro w hSw; (try dsimp only at hSw); go_simp; (try with_reducible rfl))
        try simp only [Act.put, List.setIfInBounds_toArray, List.set_cons_zero, List.set_cons_succ]
        refine wpAnyH_ready (rs := [7]) (by kernel_rfl) (by simp) ?_
        refine AllReadyH.cons (o := { dst := some 44, op := _, type := _, pos := _, after := _, guard := _ }) rfl (fun K hK => ?_) ?_
        · go_simp
          (go_at_call 12; ((with_reducible refine (gcode_any A2 n2 cap2 ys k _ (HYR.out _ HDR.out)).mono ?_); rw [← HNO.out]; rintro e w5 ⟨rfl, rfl⟩))
          refine hK.out _ _ (by (first | with_reducible assumption | with_reducible exact HS.out _ HDR.out | with_reducible exact HS.out _ T6.out.below | with_reducible exact HS.out _ T7.out.below | with_reducible exact HS.out _ T8.out.below | with_reducible exact HS.out _ T9.out.below | with_reducible exact HS.out _ T10.out.below)) (fun hHeld => ?_)
          clear hK K
          try simp only [Act.put, List.setIfInBounds_toArray, List.set_cons_zero, List.set_cons_succ]
          refine wpAnyH_ready (rs := [8]) (by kernel_rfl) (by simp) ?_
          refine AllReadyH.cons (o := { dst := some 45, op := _, type := _, pos := _, after := _, guard := _ }) rfl (fun K hK => ?_) ?_
          · go_simp
            (go_at_call 11; ((with_reducible refine (gdo_gs (HT.out.ga.below (Below.refl _ _).drew) HGD.out.1 x no HR.out).mono ?_); rintro e w6 ⟨rfl, -, fg', hga, hst, hb6⟩; have T6 := Lib.hid (Dur.doA (HT.out.keep (Below.refl _ _).drew) hga hst hb6); clear hga hst hb6))
            refine hK.out _ _ (by (first | with_reducible assumption | with_reducible exact HS.out _ HDR.out | with_reducible exact HS.out _ T6.out.below | with_reducible exact HS.out _ T7.out.below | with_reducible exact HS.out _ T8.out.below | with_reducible exact HS.out _ T9.out.below | with_reducible exact HS.out _ T10.out.below)) (fun hHeld => ?_)
            clear hK K
            try simp only [Act.put, List.setIfInBounds_toArray, List.set_cons_zero, List.set_cons_succ]
            refine wpAnyH_ready (rs := [16]) (by kernel_rfl) (by simp) ?_
            refine AllReadyH.cons (o := { dst := some 53, op := _, type := _, pos := _, after := _, guard := _ }) rfl (fun K hK => ?_) ?_
            · go_simp
              (go_at_call 12; ((with_reducible refine (gcode_any A2 n2 cap2 ys k _ (HYR.out _ T6.out.below)).mono ?_); rw [← HNO.out]; rintro e w5 ⟨rfl, rfl⟩))
              refine hK.out _ _ (by (first | with_reducible assumption | with_reducible exact HS.out _ HDR.out | with_reducible exact HS.out _ T6.out.below | with_reducible exact HS.out _ T7.out.below | with_reducible exact HS.out _ T8.out.below | with_reducible exact HS.out _ T9.out.below | with_reducible exact HS.out _ T10.out.below)) (fun hHeld => ?_)
              clear hK K
              try simp only [Act.put, List.setIfInBounds_toArray, List.set_cons_zero, List.set_cons_succ]
              refine wpAnyH_ready (rs := [17]) (by kernel_rfl) (by simp) ?_
              refine AllReadyH.cons (o := { dst := some 54, op := _, type := _, pos := _, after := _, guard := _ }) rfl (fun K hK => ?_) ?_
              · go_simp
                (go_at_call 13; ((with_reducible refine (rstep_ra T6.out.gb HGD.out.1 x no HR.out).mono ?_); rintro e w7 ⟨rfl, -, fh', hga, hst, hb7⟩; have T7 := Lib.hid (Dur.doB T6.out hga hst hb7); clear hga hst hb7))
                refine hK.out _ _ (by (first | with_reducible assumption | with_reducible exact HS.out _ HDR.out | with_reducible exact HS.out _ T6.out.below | with_reducible exact HS.out _ T7.out.below | with_reducible exact HS.out _ T8.out.below | with_reducible exact HS.out _ T9.out.below | with_reducible exact HS.out _ T10.out.below)) (fun hHeld => ?_)
                clear hK K
                try simp only [Act.put, List.setIfInBounds_toArray, List.set_cons_zero, List.set_cons_succ]
                refine wpAnyH_take (i := 18) (oi := { dst := some 55, op := _, type := _, pos := _, after := _, guard := _ }) (v := ?_) rfl (by kernel_rfl) (by kernel_rfl) (by kernel_rfl) (fun _ _ _ h => h) (Or.inl ⟨by rfl, ?_⟩) (by assumption) ?_
                rotate_left
                · (intro w hSw; (try dsimp only at hSw); go_simp; (try with_reducible rfl))
                try simp only [Act.put, List.setIfInBounds_toArray, List.set_cons_zero, List.set_cons_succ]
                refine wpAnyH_take (i := 19) (oi := { dst := some 56, op := _, type := _, pos := _, after := _, guard := _ }) (v := ?_) rfl (by kernel_rfl) (by kernel_rfl) (by kernel_rfl) (fun _ _ _ h => h) (Or.inl ⟨by rfl, ?_⟩) (by assumption) ?_
                rotate_left
                · (intro w hSw; (try dsimp only at hSw); go_simp; (try with_reducible rfl))
                try simp only [Act.put, List.setIfInBounds_toArray, List.set_cons_zero, List.set_cons_succ]
                refine wpAnyH_take (i := 20) (oi := { dst := some 57, op := _, type := _, pos := _, after := _, guard := _ }) (v := ?_) rfl (by kernel_rfl) (by kernel_rfl) (by kernel_rfl) (fun _ _ _ h => h) (Or.inl ⟨by rfl, ?_⟩) (by assumption) ?_
                rotate_left
                · (intro w hSw; (try dsimp only at hSw); go_simp; (try with_reducible rfl))
                try simp only [Act.put, List.setIfInBounds_toArray, List.set_cons_zero, List.set_cons_succ]
                refine wpAnyH_take (i := 22) (oi := { dst := some 59, op := _, type := _, pos := _, after := _, guard := _ }) (v := ?_) rfl (by kernel_rfl) (by kernel_rfl) (by kernel_rfl) (fun _ _ _ h => h) (Or.inl ⟨by rfl, ?_⟩) (by assumption) ?_
                rotate_left
                · (intro w hSw; (try dsimp only at hSw); go_simp; (try with_reducible rfl))
                try simp only [Act.put, List.setIfInBounds_toArray, List.set_cons_zero, List.set_cons_succ]
                refine wpAnyH_ready (rs := [21]) (by kernel_rfl) (by simp) ?_
                refine AllReadyH.cons (o := { dst := some 58, op := _, type := _, pos := _, after := _, guard := _ }) rfl (fun K hK => ?_) ?_
                · go_simp
                  (go_at_call 15; ((with_reducible refine (gview_ga T7.out.ga HNG.out).mono ?_); rintro e w8 ⟨p1, n1, d1, p2, n2', d2, rfl, -, -, hvw, hb8⟩; have VW := Lib.hid hvw; have T8 := Lib.hid (T7.out.keep hb8); clear hvw hb8))
                  refine hK.out _ _ (by (first | with_reducible assumption | with_reducible exact HS.out _ HDR.out | with_reducible exact HS.out _ T6.out.below | with_reducible exact HS.out _ T7.out.below | with_reducible exact HS.out _ T8.out.below | with_reducible exact HS.out _ T9.out.below | with_reducible exact HS.out _ T10.out.below)) (fun hHeld => ?_)
                  clear hK K
                  try simp only [Act.put, List.setIfInBounds_toArray, List.set_cons_zero, List.set_cons_succ]
                  refine wpAnyH_ready (rs := [23]) (by kernel_rfl) (by simp) ?_
                  refine AllReadyH.cons (o := { dst := some 60, op := _, type := _, pos := _, after := _, guard := _ }) rfl (fun K hK => ?_) ?_
                  · go_simp
                    (go_at_call 16; ((with_reducible refine (rview_ra T8.out.gb HNG.out).mono ?_); rintro e w9 ⟨p3, n3, d3, p4, n4, d4, rfl, -, -, hvw, hb9⟩; have VW2 := Lib.hid hvw; have VW1 := Lib.hid (VW.out.below hb9); have T9 := Lib.hid (T8.out.keep hb9); clear hvw hb9))
                    refine hK.out _ _ (by (first | with_reducible assumption | with_reducible exact HS.out _ HDR.out | with_reducible exact HS.out _ T6.out.below | with_reducible exact HS.out _ T7.out.below | with_reducible exact HS.out _ T8.out.below | with_reducible exact HS.out _ T9.out.below | with_reducible exact HS.out _ T10.out.below)) (fun hHeld => ?_)
                    clear hK K
                    try simp only [Act.put, List.setIfInBounds_toArray, List.set_cons_zero, List.set_cons_succ]
                    refine wpAnyH_ready (rs := [24]) (by kernel_rfl) (by simp) ?_
                    refine AllReadyH.cons (o := { dst := some 61, op := _, type := _, pos := _, after := _, guard := _ }) rfl (fun K hK => ?_) ?_
                    · go_simp
                      (go_at_call 14; ((with_reducible refine (pview_ga HNG.out VW1.out VW2.out).mono ?_); rintro e w10 ⟨rfl, hb10⟩; have T10 := Lib.hid (T9.out.keep hb10); clear hb10; obtain ⟨rq, rc, hrq⟩ := RA.nodes T10.out.gb))
                      refine hK.out _ _ (by (first | with_reducible assumption | with_reducible exact HS.out _ HDR.out | with_reducible exact HS.out _ T6.out.below | with_reducible exact HS.out _ T7.out.below | with_reducible exact HS.out _ T8.out.below | with_reducible exact HS.out _ T9.out.below | with_reducible exact HS.out _ T10.out.below)) (fun hHeld => ?_)
                      clear hK K
                      try simp only [Act.put, List.setIfInBounds_toArray, List.set_cons_zero, List.set_cons_succ]
                      refine wpAnyH_take (i := 25) (oi := { dst := some 62, op := _, type := _, pos := _, after := _, guard := _ }) (v := ?_) rfl (by kernel_rfl) (by kernel_rfl) (by kernel_rfl) (fun _ _ _ h => h) (Or.inl ⟨by rfl, ?_⟩) (by assumption) ?_
                      rotate_left
                      · (intro w hSw; (try dsimp only at hSw); go_simp; (try with_reducible rfl))
                      try simp only [Act.put, List.setIfInBounds_toArray, List.set_cons_zero, List.set_cons_succ]
                      refine wpAnyH_take (i := 26) (oi := { dst := some 63, op := _, type := _, pos := _, after := _, guard := _ }) (v := ?_) rfl (by kernel_rfl) (by kernel_rfl) (by kernel_rfl) (fun _ _ _ h => h) (Or.inl ⟨by rfl, ?_⟩) (by assumption) ?_
                      rotate_left
                      · (intro w hSw; (try dsimp only at hSw); go_simp; (try with_reducible rfl))
                      try simp only [Act.put, List.setIfInBounds_toArray, List.set_cons_zero, List.set_cons_succ]
                      refine wpAnyH_take (i := 27) (oi := { dst := some 64, op := _, type := _, pos := _, after := _, guard := _ }) (v := ?_) rfl (by kernel_rfl) (by kernel_rfl) (by kernel_rfl) (fun _ _ _ h => h) (Or.inl ⟨by rfl, ?_⟩) (by assumption) ?_
                      rotate_left
                      · (intro w hSw; (try dsimp only at hSw); go_simp; (try with_reducible rfl))
                      try simp only [Act.put, List.setIfInBounds_toArray, List.set_cons_zero, List.set_cons_succ]
                      refine wpAnyH_take (i := 28) (oi := { dst := some 65, op := _, type := _, pos := _, after := _, guard := _ }) (v := ?_) rfl (by kernel_rfl) (by kernel_rfl) (by kernel_rfl) (fun _ _ _ h => h) (Or.inl ⟨by rfl, ?_⟩) (by assumption) ?_
                      rotate_left
                      · (intro w hSw; (try dsimp only at hSw); go_simp; (try with_reducible rfl))
                      try simp only [Act.put, List.setIfInBounds_toArray, List.set_cons_zero, List.set_cons_succ]
                      refine wpAnyH_take (i := 30) (oi := { dst := some 67, op := _, type := _, pos := _, after := _, guard := _ }) (v := ?_) rfl (by kernel_rfl) (by kernel_rfl) (by kernel_rfl) (fun _ _ _ h => h) (Or.inl ⟨by rfl, ?_⟩) (by assumption) ?_
                      rotate_left
                      · (intro w hSw; (try dsimp only at hSw); go_simp; (try with_reducible rfl))
                      try simp only [Act.put, List.setIfInBounds_toArray, List.set_cons_zero, List.set_cons_succ]
                      refine wpAnyH_take (i := 31) (oi := { dst := some 68, op := _, type := _, pos := _, after := _, guard := _ }) (v := ?_) rfl (by kernel_rfl) (by kernel_rfl) (by kernel_rfl) (fun _ _ _ h => h) (Or.inl ⟨by rfl, ?_⟩) (by assumption) ?_
                      rotate_left
                      · (intro w hSw; (try dsimp only at hSw); go_simp; (try with_reducible rfl))
                      try simp only [Act.put, List.setIfInBounds_toArray, List.set_cons_zero, List.set_cons_succ]
                      refine wpAnyH_take (i := 32) (oi := { dst := some 69, op := _, type := _, pos := _, after := _, guard := _ }) (v := ?_) rfl (by kernel_rfl) (by kernel_rfl) (by kernel_rfl) (fun _ _ _ h => h) (Or.inl ⟨by rfl, ?_⟩) (by assumption) ?_
                      rotate_left
                      · (intro w hSw; (try dsimp only at hSw); go_simp; (try with_reducible rfl))
                      try simp only [Act.put, List.setIfInBounds_toArray, List.set_cons_zero, List.set_cons_succ]
                      refine wpAnyH_ready (rs := [29, 33]) (by kernel_rfl) (by simp) ?_
                      refine AllReadyH.cons (o := { dst := some 66, op := _, type := _, pos := _, after := _, guard := _ }) rfl (fun K hK => ?_) ?_
                      · go_simp
                        (go_at_call 17; ((with_reducible refine (gmade_ga T10.out.ga HNG.out).mono ?_); rintro e w11 ⟨rfl, rfl⟩))
                        refine hK.out _ _ (by (first | with_reducible assumption | with_reducible exact HS.out _ HDR.out | with_reducible exact HS.out _ T6.out.below | with_reducible exact HS.out _ T7.out.below | with_reducible exact HS.out _ T8.out.below | with_reducible exact HS.out _ T9.out.below | with_reducible exact HS.out _ T10.out.below)) (fun hHeld => ?_)
                        clear hK K
                        try simp only [Act.put, List.setIfInBounds_toArray, List.set_cons_zero, List.set_cons_succ]
                        refine wpAnyH_ready (rs := [33]) (by kernel_rfl) (by simp) ?_
                        refine AllReadyH.cons (o := { dst := some 70, op := _, type := _, pos := _, after := _, guard := _ }) rfl (fun K hK => ?_) ?_
                        · go_simp
                          refine hK.out _ _ (by (first | with_reducible assumption | with_reducible exact HS.out _ HDR.out | with_reducible exact HS.out _ T6.out.below | with_reducible exact HS.out _ T7.out.below | with_reducible exact HS.out _ T8.out.below | with_reducible exact HS.out _ T9.out.below | with_reducible exact HS.out _ T10.out.below)) (fun hHeld => ?_)
                          clear hK K
                          try simp only [Act.put, List.setIfInBounds_toArray, List.set_cons_zero, List.set_cons_succ]
                          refine wpAnyH_take (i := 34) (oi := { dst := some 71, op := _, type := _, pos := _, after := _, guard := _ }) (v := ?_) rfl (by kernel_rfl) (by kernel_rfl) (by kernel_rfl) (fun _ _ _ h => h) (Or.inl ⟨by rfl, ?_⟩) (by assumption) ?_
                          rotate_left
                          · (intro w hSw; (try dsimp only at hSw); go_simp; (try with_reducible rfl))
                          try simp only [Act.put, List.setIfInBounds_toArray, List.set_cons_zero, List.set_cons_succ]
                          refine wpAnyH_take (i := 35) (oi := { dst := some 72, op := _, type := _, pos := _, after := _, guard := _ }) (v := ?_) rfl (by kernel_rfl) (by kernel_rfl) (by kernel_rfl) (fun _ _ _ h => h) (Or.inl ⟨by rfl, ?_⟩) (by assumption) ?_
                          rotate_left
                          · (intro w hSw; (try dsimp only at hSw); go_simp; (try with_reducible rfl))
                          try simp only [Act.put, List.setIfInBounds_toArray, List.set_cons_zero, List.set_cons_succ]
                          refine wpAnyH_take (i := 36) (oi := { dst := some 73, op := _, type := _, pos := _, after := _, guard := _ }) (v := ?_) rfl (by kernel_rfl) (by kernel_rfl) (by kernel_rfl) (fun _ _ _ h => h) (Or.inl ⟨by rfl, ?_⟩) (by assumption) ?_
                          rotate_left
                          · (intro w hSw; (try dsimp only at hSw); go_simp; (try with_reducible rfl))
                          try simp only [Act.put, List.setIfInBounds_toArray, List.set_cons_zero, List.set_cons_succ]
                          refine wpAnyH_done (by kernel_rfl) ?_ _
                          refine NoPanic.normal ?_
                          go_wp2_with fail
                          go_roundw
                          case rel => exact ⟨k + 1, by omega, by go_num, r.2, fg', fh', Lib.hid ⟨HNX.out.1, by have h1 := HNX.out.2.1; have h2 := HGD.out.2; omega⟩, T10⟩
                          case measure => simp [intOf]; omega
                        exact AllReadyH.nil
                      refine AllReadyH.cons (o := { dst := some 70, op := _, type := _, pos := _, after := _, guard := _ }) rfl (fun K hK => ?_) ?_
                      · go_simp
                        refine hK.out _ _ (by (first | with_reducible assumption | with_reducible exact HS.out _ HDR.out | with_reducible exact HS.out _ T6.out.below | with_reducible exact HS.out _ T7.out.below | with_reducible exact HS.out _ T8.out.below | with_reducible exact HS.out _ T9.out.below | with_reducible exact HS.out _ T10.out.below)) (fun hHeld => ?_)
                        clear hK K
                        try simp only [Act.put, List.setIfInBounds_toArray, List.set_cons_zero, List.set_cons_succ]
                        refine wpAnyH_take (i := 34) (oi := { dst := some 71, op := _, type := _, pos := _, after := _, guard := _ }) (v := ?_) rfl (by kernel_rfl) (by kernel_rfl) (by kernel_rfl) (fun _ _ _ h => h) (Or.inl ⟨by rfl, ?_⟩) (by assumption) ?_
                        rotate_left
                        · (intro w hSw; (try dsimp only at hSw); go_simp; (try with_reducible rfl))
                        try simp only [Act.put, List.setIfInBounds_toArray, List.set_cons_zero, List.set_cons_succ]
                        refine wpAnyH_ready (rs := [29]) (by kernel_rfl) (by simp) ?_
                        refine AllReadyH.cons (o := { dst := some 66, op := _, type := _, pos := _, after := _, guard := _ }) rfl (fun K hK => ?_) ?_
                        · go_simp
                          (go_at_call 17; ((with_reducible refine (gmade_ga T10.out.ga HNG.out).mono ?_); rintro e w11 ⟨rfl, rfl⟩))
                          refine hK.out _ _ (by (first | with_reducible assumption | with_reducible exact HS.out _ HDR.out | with_reducible exact HS.out _ T6.out.below | with_reducible exact HS.out _ T7.out.below | with_reducible exact HS.out _ T8.out.below | with_reducible exact HS.out _ T9.out.below | with_reducible exact HS.out _ T10.out.below)) (fun hHeld => ?_)
                          clear hK K
                          try simp only [Act.put, List.setIfInBounds_toArray, List.set_cons_zero, List.set_cons_succ]
                          refine wpAnyH_take (i := 35) (oi := { dst := some 72, op := _, type := _, pos := _, after := _, guard := _ }) (v := ?_) rfl (by kernel_rfl) (by kernel_rfl) (by kernel_rfl) (fun _ _ _ h => h) (Or.inl ⟨by rfl, ?_⟩) (by assumption) ?_
                          rotate_left
                          · (intro w hSw; (try dsimp only at hSw); go_simp; (try with_reducible rfl))
                          try simp only [Act.put, List.setIfInBounds_toArray, List.set_cons_zero, List.set_cons_succ]
                          refine wpAnyH_take (i := 36) (oi := { dst := some 73, op := _, type := _, pos := _, after := _, guard := _ }) (v := ?_) rfl (by kernel_rfl) (by kernel_rfl) (by kernel_rfl) (fun _ _ _ h => h) (Or.inl ⟨by rfl, ?_⟩) (by assumption) ?_
                          rotate_left
                          · (intro w hSw; (try dsimp only at hSw); go_simp; (try with_reducible rfl))
                          try simp only [Act.put, List.setIfInBounds_toArray, List.set_cons_zero, List.set_cons_succ]
                          refine wpAnyH_done (by kernel_rfl) ?_ _
                          refine NoPanic.normal ?_
                          go_wp2_with fail
                          go_roundw
                          case rel => exact ⟨k + 1, by omega, by go_num, r.2, fg', fh', Lib.hid ⟨HNX.out.1, by have h1 := HNX.out.2.1; have h2 := HGD.out.2; omega⟩, T10⟩
                          case measure => simp [intOf]; omega
                        exact AllReadyH.nil
                      exact AllReadyH.nil
                    exact AllReadyH.nil
                  exact AllReadyH.nil
                exact AllReadyH.nil
              exact AllReadyH.nil
            exact AllReadyH.nil
          exact AllReadyH.nil
        exact AllReadyH.nil
      · obtain rfl : k = m := by omega
        clear hk hlt
        go_wp2_with (first
          | (go_at_call 15; ((with_reducible refine (gview_ga HT.out.ga HGD.out.1).mono ?_); rintro e w7 ⟨p1, n1, d1, p2, n2', d2, rfl, -, -, hvw, hb7⟩; have VW := Lib.hid hvw; have D7 := Lib.hid (HT.out.keep hb7); clear hvw hb7))
          | (go_at_call 16; ((with_reducible refine (rview_ra D7.out.gb HGD.out.1).mono ?_); rintro e w8 ⟨p3, n3, d3, p4, n4, d4, rfl, -, -, hvw, hb8⟩; have VW2 := Lib.hid hvw; have D8 := Lib.hid (D7.out.keep hb8); have VW1 := Lib.hid (VW.out.below hb8); clear hvw hb8))
          | (go_at_call 14; ((with_reducible refine (pview_ga HGD.out.1 VW1.out VW2.out).mono ?_); rintro e w9 ⟨rfl, hb9⟩; have D9 := Lib.hid (D8.out.keep hb9); clear hb9)))
        go_ret
        exact ⟨rfl, D9.out.below⟩
  · have HC : Hid (c.check = 6) := Lib.hid (by unfold Cfg.check; rw [if_neg hc])
    have HW := Lib.hid hc
    clear hc hx hy
    go_enter Try.func3, Try.ntmps3
    go_wp2_with (first
      | (go_at_call 6; refine (galive_any _).mono ?_; rintro e w1 ⟨rfl, hb1⟩; have A1 := Lib.hid (keep hb1 A0.out); have B1 := Lib.hid (below_next B0.out hb1); clear hb1)
      | (go_at_call 7; ((with_reducible refine (gnew_bad c HW.out w1).mono ?_); rintro e w2 ⟨rfl, hb2⟩; have A2' := Lib.hid (keep hb2 A1.out); have B2 := Lib.hid (below_next B1.out hb2); clear hb2 A0))
      | (go_at_call 8; refine (check_any c _).mono ?_; rw [HC.out]; rintro e w3 ⟨rfl, hb3⟩; have B3 := Lib.hid (below_next B2.out hb3); clear hb3)
      | (refine wpList_load_row rfl 23 _ rfl w.heap.size rfl 23 c.cells (0, 0) _ ?_ Try.underlying23 rfl (by kernel_rfl) ?_; exact Hid.out (by assumption)))
    go_ret
    exact ⟨rfl, B3.out⟩
end Go.Proofs.Ytaefcmmjeloccaa
