/- GraphRefuses. -/
import Derived.Test.YtaefcmmjeloccaaGrS
import Derived.Test.YtaefcmmjeloccaaGrT0
import Derived.StillTactics
namespace Go.Proofs.Ytaefcmmjeloccaa
open Go.RowKit

theorem GA.up {B B' : Nat} {w : World} {g : Nat} {c : Cfg} {G : Gr} {fp : List Nat} (h : GA B w g c G fp) (hB : B' ≤ B) : GA B' w g c G fp := by
  obtain ⟨tb, tcap, nb, ncap, hv, nv, gx, e, hb⟩ := h
  exact ⟨tb, tcap, nb, ncap, hv, nv, gx, e, fun k hk => Nat.le_trans hB (hb k hk)⟩
/-- Two graphs, apart. -/
structure Duo (w0 w : World) (g h : Nat) (c : Cfg) (G H : Gr) (fg fh : List Nat) : Prop where
  below : Below w0.heap.size w0 w
  ga : GA w0.heap.size w g c G fg
  gb : GA w0.heap.size w h c H fh
  apart : ∀ k ∈ fg, k ∉ fh
theorem Duo.keep {w0 w w' : World} {g h : Nat} {c : Cfg} {G H : Gr} {fg fh : List Nat} (t : Duo w0 w g h c G H fg fh) (hb : Below w.heap.size w w') : Duo w0 w' g h c G H fg fh :=
  ⟨below_next t.below hb, t.ga.below hb, t.gb.below hb, t.apart⟩
theorem Duo.doA {w0 w w' : World} {g h : Nat} {c : Cfg} {G H G' : Gr} {fg fh fg' : List Nat} (t : Duo w0 w g h c G H fg fh) (ga : GA w0.heap.size w' g c G' fg') (st : Stays fg fg' w w') (hb : Below w0.heap.size w w') : Duo w0 w' g h c G' H fg' fh := by
  obtain ⟨h1, h2⟩ := t.gb.stay st fun k hk hm => t.apart k hm hk
  exact ⟨t.below.trans hb, ga, h1, fun k hk hm => h2 k hm hk⟩
theorem Duo.doB {w0 w w' : World} {g h : Nat} {c : Cfg} {G H H' : Gr} {fg fh fh' : List Nat} (t : Duo w0 w g h c G H fg fh) (gb : GA w0.heap.size w' h c H' fh') (st : Stays fh fh' w w') (hb : Below w0.heap.size w w') : Duo w0 w' g h c G H' fg fh' := by
  obtain ⟨h1, h2⟩ := t.ga.stay st fun k hk hm => t.apart k hk hm
  exact ⟨t.below.trans hb, h1, gb, fun k hk hm => h2 k hk hm⟩
/-- A box that is neither's. -/
def Boxed (w : World) (K : Nat) (a : Ans) (fg fh : List Nat) : Prop := w.heap[K]? = some (.cells a.cells 36 (0, 0)) ∧ K ∉ fg ∧ K ∉ fh
theorem gdo_gs {B : Nat} {w : World} {g : Nat} {c : Cfg} {G : Gr} {fp : List Nat} (h : GA B w g c G fp) (hg : G.Good) (x : Stp) (no : Int) {r : Ans × Gr} (hr : G.out c.q x no = r) :
    Calls Try.prog 11 #[.pointer (some ⟨g, 0, none⟩), .agg #[.int .i64 x.k, .int .i64 x.t, .int .i64 x.i, .int .i64 x.f, .int .i64 x.j, .int .i64 x.c, .int .i64 x.n], .int .i64 no] w fun e w' => e = .returned (.agg #[.int .i64 r.1.e, .int .i64 r.1.k, .int .i64 r.1.n, .int .i64 r.1.d, .int .i64 r.1.c]) ∧ w.heap.size ≤ w'.heap.size ∧ ∃ fp', GA B w' g c r.2 fp' ∧ Stays fp fp' w w' ∧ Below B w w' := by
  subst hr
  exact gdo_ga h hg x no
theorem set5 {w : World} {K : Nat} {T : TypeId} {a b c d e z0 z1 z2 z3 z4 : Value} (h : w.heap[K]? = some (.cells #[z0, z1, z2, z3, z4] T (0, 0))) :
    (((((w.setCell ⟨K, 0, none⟩ a).setCell ⟨K, 1, none⟩ b).setCell ⟨K, 2, none⟩ c).setCell ⟨K, 3, none⟩ d).setCell ⟨K, 4, none⟩ e).heap[K]? = some (.cells #[a, b, c, d, e] T (0, 0)) :=
  heap_setCell_same _ _ _ _ _ _ (heap_setCell_same _ _ _ _ _ _ (heap_setCell_same _ _ _ _ _ _ (heap_setCell_same _ _ _ _ _ _ (heap_setCell_same _ _ _ _ _ _ h))))
theorem stays5 {w : World} {K : Nat} {a b c d e : Value} : ∀ k, k ≠ K → (((((w.setCell ⟨K, 0, none⟩ a).setCell ⟨K, 1, none⟩ b).setCell ⟨K, 2, none⟩ c).setCell ⟨K, 3, none⟩ d).setCell ⟨K, 4, none⟩ e).heap[k]? = w.heap[k]? := fun _ hk =>
  (heap_setCell_other _ _ _ _ hk).trans ((heap_setCell_other _ _ _ _ hk).trans ((heap_setCell_other _ _ _ _ hk).trans ((heap_setCell_other _ _ _ _ hk).trans (heap_setCell_other _ _ _ _ hk))))
theorem below5 {B : Nat} {w0 w : World} {K : Nat} {a b c d e : Value} (h : Below B w0 w) (hK : B ≤ K) : Below B w0 (((((w.setCell ⟨K, 0, none⟩ a).setCell ⟨K, 1, none⟩ b).setCell ⟨K, 2, none⟩ c).setCell ⟨K, 3, none⟩ d).setCell ⟨K, 4, none⟩ e) :=
  ((((h.setCell hK _).setCell hK _).setCell hK _).setCell hK _).setCell hK _
theorem GA.set5 {B : Nat} {w : World} {g : Nat} {c : Cfg} {G : Gr} {fp : List Nat} (h : GA B w g c G fp) {K : Nat} (hK : K ∉ fp) {a b d e f : Value} : GA B (((((w.setCell ⟨K, 0, none⟩ a).setCell ⟨K, 1, none⟩ b).setCell ⟨K, 2, none⟩ d).setCell ⟨K, 3, none⟩ e).setCell ⟨K, 4, none⟩ f) g c G fp := by
  obtain ⟨tb, tcap, nb, ncap, hv, nv, gx, rfl, hB⟩ := h
  exact ⟨tb, tcap, nb, ncap, hv, nv, gx.keep fun k hk => stays5 k fun e => hK (e ▸ hk), rfl, hB⟩
theorem Duo.set5 {w0 w : World} {g h : Nat} {c : Cfg} {G H : Gr} {fg fh : List Nat} (t : Duo w0 w g h c G H fg fh) {K : Nat} (hB : w0.heap.size ≤ K) (h1 : K ∉ fg) (h2 : K ∉ fh) {a b d e f : Value} : Duo w0 (((((w.setCell ⟨K, 0, none⟩ a).setCell ⟨K, 1, none⟩ b).setCell ⟨K, 2, none⟩ d).setCell ⟨K, 3, none⟩ e).setCell ⟨K, 4, none⟩ f) g h c G H fg fh :=
  ⟨below5 t.below hB, t.ga.set5 h1, t.gb.set5 h2, t.apart⟩
theorem Duo.boxA {w0 w : World} {g h : Nat} {c : Cfg} {G H : Gr} {fg fh : List Nat} (t : Duo w0 w g h c G H fg fh) (a : Ans) :
    Duo w0 (w.alloc (.cells #[.int .i64 a.e, .int .i64 a.k, .int .i64 a.n, .int .i64 a.d, .int .i64 a.c] 36)) g h c G H fg fh ∧ Boxed (w.alloc (.cells #[.int .i64 a.e, .int .i64 a.k, .int .i64 a.n, .int .i64 a.d, .int .i64 a.c] 36)) w.heap.size a fg fh ∧ w0.heap.size ≤ w.heap.size :=
  ⟨t.keep (below_alloc0 _ _), ⟨heap_alloc_new w _, t.ga.new (Nat.le_refl _), t.gb.new (Nat.le_refl _)⟩, t.below.size⟩
theorem Duo.boxB {w0 w : World} {g h : Nat} {c : Cfg} {G H : Gr} {fg fh : List Nat} (t : Duo w0 w g h c G H fg fh) (a : Ans) {K : Nat} {z0 z1 z2 z3 z4 : Value} (hB : w0.heap.size ≤ K) (h1 : K ∉ fg) (h2 : K ∉ fh) (hK : w.heap[K]? = some (.cells #[z0, z1, z2, z3, z4] 36 (0, 0))) :
    Duo w0 (((((w.setCell ⟨K, 0, none⟩ (.int .i64 a.e)).setCell ⟨K, 1, none⟩ (.int .i64 a.k)).setCell ⟨K, 2, none⟩ (.int .i64 a.n)).setCell ⟨K, 3, none⟩ (.int .i64 a.d)).setCell ⟨K, 4, none⟩ (.int .i64 a.c)) g h c G H fg fh ∧ Boxed (((((w.setCell ⟨K, 0, none⟩ (.int .i64 a.e)).setCell ⟨K, 1, none⟩ (.int .i64 a.k)).setCell ⟨K, 2, none⟩ (.int .i64 a.n)).setCell ⟨K, 3, none⟩ (.int .i64 a.d)).setCell ⟨K, 4, none⟩ (.int .i64 a.c)) K a fg fh ∧ w0.heap.size ≤ K :=
  ⟨t.set5 hB h1 h2, ⟨Go.Proofs.Ytaefcmmjeloccaa.set5 hK, h1, h2⟩, hB⟩
set_option maxHeartbeats 8000000 in
set_option maxRecDepth 100000 in
theorem grefuses_any (c : Cfg) (A : Option Addr) (n cap : Nat) (xs : List Stp) (hcap : n ≤ cap) (A2 : Option Addr) (n2 cap2 : Nat) (ys : List Int) (w : World) (hx : RdX w A n xs) (hy : RdI w A2 n2 ys) :
    Calls Try.prog 4 #[.agg c.cells, .slice A n cap, .slice A2 n2 cap2] w fun e w' => e = .returned (.bool true) ∧ Below w.heap.size w w' := by
  have A0 := Lib.hid (heap_alloc_new w (.cells c.cells 23))
  have B0 := Lib.hid (below_alloc0 w (.cells c.cells 23))
  by_cases hc : c.wrong = 0
  · have HC : Hid (c.check = 0) := Lib.hid (by unfold Cfg.check; rw [if_pos hc])
    have HW := Lib.hid hc
    have HX := Lib.hid hx
    have HY := Lib.hid hy
    clear hc hx hy
    go_enter Try.func4, Try.ntmps4
    go_wp2_with (first
      | (go_at_call 6; refine (galive_any _).mono ?_; rintro e w1 ⟨rfl, hb1⟩; have A1 := Lib.hid (keep hb1 A0.out); have B1 := Lib.hid (below_next B0.out hb1); clear hb1)
      | (go_at_call 8; refine (check_any c _).mono ?_; rw [HC.out]; rintro e w2 ⟨rfl, hb2⟩; have A2' := Lib.hid (keep hb2 A1.out); have B2 := Lib.hid (below_next B1.out hb2); clear hb2)
      | (go_at_call 7; ((with_reducible refine (gnew_ga c HW.out w2).mono ?_); rintro e w3 ⟨g, fg, rfl, hb3, hga⟩; have A3 := Lib.hid (keep hb3 A2'.out); have B3 := Lib.hid (below_next B2.out hb3); have G3 := Lib.hid hga; clear hb3 hga A1 A0))
      | (go_at_call 7; ((with_reducible refine (gnew_ga c HW.out w3).mono ?_); rintro e w4 ⟨h, fh, rfl, hb4, hga⟩; have B4 := Lib.hid (below_next B3.out hb4); have G4 := Lib.hid (G3.out.below hb4); have H4 := Lib.hid hga; clear hb4 hga))
      | (go_at_call 10; refine (gfew_any _ _ _ hcap _).mono ?_; rintro e w5 ⟨⟨cap', hc', rfl⟩, rfl⟩)
      | (refine wpList_load_row rfl 23 _ rfl w.heap.size rfl 23 c.cells (0, 0) _ ?_ Try.underlying23 rfl (by kernel_rfl) ?_; exact Hid.out (by assumption)))
    have T4 : Hid (Duo w w4 g h c (Gr.fresh c) (Gr.fresh c) fg fh) := Lib.hid ⟨B4.out, GA.up G4.out B2.out.size, GA.up H4.out B3.out.size, fun k hk hm => by
      have h1 := G3.out.lt k hk
      have h2 := H4.out.base k hm
      omega⟩
    obtain ⟨m, hm⟩ : ∃ m, m = min n 80 := ⟨_, rfl⟩
    rw [← hm] at hc' ⊢
    have hm80 : m ≤ 80 := by omega
    have HMX : Hid (RdX w A m (xs.take m)) := Lib.hid (HX.out.take (by omega))
    generalize xs.take m = zs at HMX
    clear hm B0 B1 B2 B3 B4 G3 G4 H4 A2' A3 HX
    go_loopw [11] (fun i wr => ∃ k : Nat, k ≤ m ∧ i = .int .i64 k ∧ ∃ G fg fh, Hid (G.Good ∧ G.nod.length ≤ k + 1) ∧ Hid (Duo w wr g h c G G fg fh)) (fun i _ => m - (intOf i).toNat)
    case atStart => exact ⟨0, by omega, rfl, _, _, _, Lib.hid ⟨Gr.fresh_good HW.out, by simp [Gr.fresh]⟩, T4⟩
    case round =>
      clear T4 fg fh
      obtain ⟨k, hk, rfl, G, fg, fh, HGD, HT⟩ := hrel
      by_cases hlt : k < m
      · obtain ⟨b, o, rfl, hcell⟩ := HMX.out.cell (by omega)
        have hall := stp_cells_at (hcell k hlt)
        clear hcell
        obtain ⟨x, hx⟩ : ∃ x, x = zs.getD k Stp.zero := ⟨_, rfl⟩
        rw [← hx] at hall
        clear hx
        have HS : Hid (∀ W : World, Below w.heap.size w W → Hid (Below w.heap.size w W) ∧ W.cell? ⟨b, o + k * 7, none⟩ = some (.int .i64 x.k) ∧ W.cell? ⟨b, o + k * 7 + 1, none⟩ = some (.int .i64 x.t) ∧ W.cell? ⟨b, o + k * 7 + 2, none⟩ = some (.int .i64 x.i) ∧ W.cell? ⟨b, o + k * 7 + 3, none⟩ = some (.int .i64 x.f) ∧ W.cell? ⟨b, o + k * 7 + 4, none⟩ = some (.int .i64 x.j) ∧ W.cell? ⟨b, o + k * 7 + 5, none⟩ = some (.int .i64 x.c) ∧ W.cell? ⟨b, o + k * 7 + 6, none⟩ = some (.int .i64 x.n)) := Lib.hid fun W hb => by
          obtain ⟨h0, h1, h2, h3, h4, h5, h6⟩ := hall
          exact ⟨Lib.hid hb, cell_keep hb h0, cell_keep hb h1, cell_keep hb h2, cell_keep hb h3, cell_keep hb h4, cell_keep hb h5, cell_keep hb h6⟩
        clear hall
        have HYR : Hid (∀ W : World, Below w.heap.size w W → RdI W A2 n2 ys) := Lib.hid fun W hb => HY.out.below hb
        obtain ⟨no, hno⟩ : ∃ no, no = ys.getD k 0 := ⟨_, rfl⟩
        have HNO := Lib.hid hno
        clear hno
        obtain ⟨r, hr⟩ : ∃ r, r = G.out c.q x no := ⟨_, rfl⟩
        have HR := Lib.hid hr.symm
        clear hr
        have i1 : (0 : Int) ≤ (k : Int) := by omega
        have i2 : (k : Int) < (m : Int) := by omega
        have hsz := HT.out.below.size
        have hdr := HT.out.below.drew
        have HDR := Lib.hid hdr
        clear hdr
        go_wp2_with fail
        go_cut [12] from 30 to 68 (fun s12 wc => ∃ K fg', s12 = .pointer (some ⟨K, 0, none⟩) ∧ Hid (Duo w wc g h c r.2 G fg' fh ∧ Boxed wc K r.1 fg' fh ∧ w.heap.size ≤ K))
        case first =>
          go_region_held3 (fun W => Hid (Below w.heap.size w W) ∧ W.cell? ⟨b, o + k * 7, none⟩ = some (.int .i64 x.k) ∧ W.cell? ⟨b, o + k * 7 + 1, none⟩ = some (.int .i64 x.t) ∧ W.cell? ⟨b, o + k * 7 + 2, none⟩ = some (.int .i64 x.i) ∧ W.cell? ⟨b, o + k * 7 + 3, none⟩ = some (.int .i64 x.f) ∧ W.cell? ⟨b, o + k * 7 + 4, none⟩ = some (.int .i64 x.j) ∧ W.cell? ⟨b, o + k * 7 + 5, none⟩ = some (.int .i64 x.c) ∧ W.cell? ⟨b, o + k * 7 + 6, none⟩ = some (.int .i64 x.n))
            (first | (refine HS.out _ ?_; (repeat (first | with_reducible exact HT.out.below | with_reducible exact Below.refl _ _ | with_reducible refine Below.drew ?_ | with_reducible refine below_new ?_ _ | with_reducible refine below_drewN ?_ _)); done) | (refine HS.out _ ?_; (repeat (first | with_reducible exact T6.out.below | with_reducible exact Below.refl _ _ | with_reducible refine Below.drew ?_ | with_reducible refine below_new ?_ _ | with_reducible refine below_drewN ?_ _)); done) | with_reducible exact HS.out _ (below5 T6.out.below hsz))
            (first
              | (go_at_call 12; ((with_reducible refine (gcode_any A2 n2 cap2 ys k _ (HYR.out _ (by (repeat (first | with_reducible exact HT.out.below | with_reducible exact Below.refl _ _ | with_reducible refine Below.drew ?_ | with_reducible refine below_new ?_ _ | with_reducible refine below_drewN ?_ _))))).mono ?_); rw [← HNO.out]; rintro e w5 ⟨rfl, rfl⟩))
              | (go_at_call 11; ((with_reducible refine (gdo_gs (HT.out.ga.below (by (repeat (first | with_reducible exact (Below.refl _ _) | with_reducible exact Below.refl _ _ | with_reducible refine Below.drew ?_ | with_reducible refine below_new ?_ _ | with_reducible refine below_drewN ?_ _)))) HGD.out.1 x no HR.out).mono ?_); rintro e w6 ⟨rfl, -, fg', hga, hst, hb6⟩; have T6 := Lib.hid (Duo.doA (HT.out.keep (by (repeat (first | with_reducible exact (Below.refl _ _) | with_reducible exact Below.refl _ _ | with_reducible refine Below.drew ?_ | with_reducible refine below_new ?_ _ | with_reducible refine below_drewN ?_ _)))) hga hst hb6); first | (obtain ⟨hK1, hK2⟩ := hst wr.heap.size _ (heap_alloc_new wr _) (HT.out.ga.new (Nat.le_refl _)); have KB := Lib.hid hK1; have KN := Lib.hid hK2; have k0 : w6.cell? ⟨wr.heap.size, 0, none⟩ = some (.int .i64 0) := cell_of_row _ _ _ _ _ _ hK1; have k1 : w6.cell? ⟨wr.heap.size, 1, none⟩ = some (.int .i64 0) := cell_of_row _ _ _ _ _ _ hK1; have k2 : w6.cell? ⟨wr.heap.size, 2, none⟩ = some (.int .i64 0) := cell_of_row _ _ _ _ _ _ hK1; have k3 : w6.cell? ⟨wr.heap.size, 3, none⟩ = some (.int .i64 0) := cell_of_row _ _ _ _ _ _ hK1; have k4 : w6.cell? ⟨wr.heap.size, 4, none⟩ = some (.int .i64 0) := cell_of_row _ _ _ _ _ _ hK1; have f0 := fun j => frozen_of_row _ _ j _ _ hK1; clear hK1 hK2) | skip; clear hga hst hb6)))
          all_goals
            go_wp2_with fail
            go_meet
            first
              | with_reducible exact ⟨_, _, rfl, Lib.hid (T6.out.boxA r.1)⟩
              | with_reducible exact ⟨_, _, rfl, Lib.hid (T6.out.boxB r.1 hsz KN.out (HT.out.gb.new (Nat.le_refl _)) KB.out)⟩
        case rest =>
          obtain ⟨K, fg', rfl, HD⟩ := hcut
          have HERR := Lib.hid (Gr.out_err c.q G x no)
          rw [HR.out] at HERR
          have HNX : Hid (G.Next r.2) := Lib.hid (by rw [← HR.out]; exact HGD.out.1.out (by have := HGD.out.2; omega) c.q x no)
          clear HDR hsz HYR HT fg HNO
          by_cases he : r.1.e = 0
          · have HR0 := Lib.hid (HERR.out.2 he)
            have hb := HD.out.2.1.1
            have k0 : wc.cell? ⟨K, 0, none⟩ = some (.int .i64 0) := by rw [← he]; exact cell_of_row _ _ _ _ _ _ hb
            clear he HERR hb
            have HD1 := Lib.hid HD.out.1
            have HBK := Lib.hid HD.out.2.1.1
            have HDK := Lib.hid HD.out.2.1.2.2
            have HS2 : Hid (∀ W : World, Below w.heap.size w W → W.heap[K]? = some (.cells r.1.cells 36 (0, 0)) → Hid (Below w.heap.size w W) ∧ W.cell? ⟨b, o + k * 7, none⟩ = some (.int .i64 x.k) ∧ W.cell? ⟨b, o + k * 7 + 1, none⟩ = some (.int .i64 x.t) ∧ W.cell? ⟨b, o + k * 7 + 2, none⟩ = some (.int .i64 x.i) ∧ W.cell? ⟨b, o + k * 7 + 3, none⟩ = some (.int .i64 x.f) ∧ W.cell? ⟨b, o + k * 7 + 4, none⟩ = some (.int .i64 x.j) ∧ W.cell? ⟨b, o + k * 7 + 5, none⟩ = some (.int .i64 x.c) ∧ W.cell? ⟨b, o + k * 7 + 6, none⟩ = some (.int .i64 x.n) ∧
                W.cell? ⟨K, 0, none⟩ = some (.int .i64 r.1.e) ∧ W.cell? ⟨K, 1, none⟩ = some (.int .i64 r.1.k) ∧ W.cell? ⟨K, 2, none⟩ = some (.int .i64 r.1.n) ∧ W.cell? ⟨K, 3, none⟩ = some (.int .i64 r.1.d) ∧ W.cell? ⟨K, 4, none⟩ = some (.int .i64 r.1.c)) := Lib.hid fun W hb hK => by
              obtain ⟨h0, h1, h2, h3, h4, h5, h6, h7⟩ := HS.out W hb
              exact ⟨h0, h1, h2, h3, h4, h5, h6, h7, cell_of_row _ _ _ _ _ _ hK, cell_of_row _ _ _ _ _ _ hK, cell_of_row _ _ _ _ _ _ hK, cell_of_row _ _ _ _ _ _ hK, cell_of_row _ _ _ _ _ _ hK⟩
            clear HD HS HR
            go_wp2_with fail
            go_region_held3 (fun W => Hid (Below w.heap.size w W) ∧ W.cell? ⟨b, o + k * 7, none⟩ = some (.int .i64 x.k) ∧ W.cell? ⟨b, o + k * 7 + 1, none⟩ = some (.int .i64 x.t) ∧ W.cell? ⟨b, o + k * 7 + 2, none⟩ = some (.int .i64 x.i) ∧ W.cell? ⟨b, o + k * 7 + 3, none⟩ = some (.int .i64 x.f) ∧ W.cell? ⟨b, o + k * 7 + 4, none⟩ = some (.int .i64 x.j) ∧ W.cell? ⟨b, o + k * 7 + 5, none⟩ = some (.int .i64 x.c) ∧ W.cell? ⟨b, o + k * 7 + 6, none⟩ = some (.int .i64 x.n) ∧
                W.cell? ⟨K, 0, none⟩ = some (.int .i64 r.1.e) ∧ W.cell? ⟨K, 1, none⟩ = some (.int .i64 r.1.k) ∧ W.cell? ⟨K, 2, none⟩ = some (.int .i64 r.1.n) ∧ W.cell? ⟨K, 3, none⟩ = some (.int .i64 r.1.d) ∧ W.cell? ⟨K, 4, none⟩ = some (.int .i64 r.1.c))
              (first | with_reducible exact HS2.out _ T7.out.below KB7.out | exact HS2.out _ HD1.out.below.drew HBK.out)
              ((go_at_call 11; ((with_reducible refine (gdo_gs (HD1.out.gb.below (by (repeat (first | with_reducible exact (Below.refl _ _) | with_reducible exact Below.refl _ _ | with_reducible refine Below.drew ?_ | with_reducible refine below_new ?_ _ | with_reducible refine below_drewN ?_ _)))) HGD.out.1 x 0 HR0.out).mono ?_); rintro e w7 ⟨rfl, -, fh', hga, hst, hb7⟩; have T7 := Lib.hid (Duo.doB (HD1.out.keep (by (repeat (first | with_reducible exact (Below.refl _ _) | with_reducible exact Below.refl _ _ | with_reducible refine Below.drew ?_ | with_reducible refine below_new ?_ _ | with_reducible refine below_drewN ?_ _)))) hga hst hb7); have KB7 := Lib.hid (hst K _ HBK.out HDK.out).1; clear hga hst hb7)))
            all_goals
              go_split_ands
              go_wp2_with fail
              go_roundw
              case rel => exact ⟨k + 1, by omega, by go_num, r.2, fg', fh', Lib.hid ⟨HNX.out.1, by have h1 := HNX.out.2.1; have h2 := HGD.out.2; omega⟩, T7⟩
              case measure => simp [intOf]; omega
          · have hrr := HERR.out.1 he
            obtain ⟨e, hee⟩ : ∃ e, e = r.1.e := ⟨_, rfl⟩
            rw [← hee] at hrr he
            subst hrr
            clear hee HERR HR HNX
            have hb := HD.out.2.1.1
            have HB := Lib.hid hb
            have k0 : wc.cell? ⟨K, 0, none⟩ = some (.int .i64 e) := cell_of_row _ _ _ _ _ _ hb
            have k1 : wc.cell? ⟨K, 1, none⟩ = some (.int .i64 0) := cell_of_row _ _ _ _ _ _ hb
            have k2 : wc.cell? ⟨K, 2, none⟩ = some (.int .i64 0) := cell_of_row _ _ _ _ _ _ hb
            have k3 : wc.cell? ⟨K, 3, none⟩ = some (.int .i64 0) := cell_of_row _ _ _ _ _ _ hb
            have k4 : wc.cell? ⟨K, 4, none⟩ = some (.int .i64 0) := cell_of_row _ _ _ _ _ _ hb
            have dk : (e != 0) = true := by simpa using he
            clear he hb
            have HDU : Hid (Duo w wc g h c G G fg' fh) := Lib.hid HD.out.1
            go_wp2_with (first
              | (go_at_call 15; ((with_reducible refine (gview_ga HDU.out.ga HGD.out.1).mono ?_); rintro e w7 ⟨p1, n1, d1, p2, n2, d2, rfl, -, -, hvw, hb7⟩; have VW := Lib.hid hvw; have B7 := Lib.hid hb7; have D7 := Lib.hid (HDU.out.keep hb7); clear hvw hb7))
              | (go_at_call 15; ((with_reducible refine (gview_ga D7.out.gb HGD.out.1).mono ?_); rintro e w8 ⟨p3, n3, d3, p4, n4, d4, rfl, -, -, hvw, hb8⟩; have VW2 := Lib.hid hvw; have D8 := Lib.hid (D7.out.keep hb8); have VW1 := Lib.hid (VW.out.below hb8); clear hvw hb8))
              | (go_at_call 14; ((with_reducible refine (pview_ga HGD.out.1 VW1.out VW2.out).mono ?_); rintro e w9 ⟨rfl, hb9⟩; have D9 := Lib.hid (D8.out.keep hb9); clear hb9)))
            go_roundw
            case rel => exact ⟨k + 1, by omega, by go_num, G, fg', fh, Lib.hid ⟨HGD.out.1, by have := HGD.out.2; omega⟩, D9⟩
            case measure => simp [intOf]; omega
      · obtain rfl : k = m := by omega
        clear hk hlt
        go_wp2_with (first
          | (go_at_call 15; ((with_reducible refine (gview_ga HT.out.ga HGD.out.1).mono ?_); rintro e w7 ⟨p1, n1, d1, p2, n2, d2, rfl, -, -, hvw, hb7⟩; have VW := Lib.hid hvw; have B7 := Lib.hid hb7; have D7 := Lib.hid (HT.out.keep hb7); clear hvw hb7))
          | (go_at_call 15; ((with_reducible refine (gview_ga D7.out.gb HGD.out.1).mono ?_); rintro e w8 ⟨p3, n3, d3, p4, n4, d4, rfl, -, -, hvw, hb8⟩; have VW2 := Lib.hid hvw; have D8 := Lib.hid (D7.out.keep hb8); have VW1 := Lib.hid (VW.out.below hb8); clear hvw hb8))
          | (go_at_call 14; ((with_reducible refine (pview_ga HGD.out.1 VW1.out VW2.out).mono ?_); rintro e w9 ⟨rfl, hb9⟩; have D9 := Lib.hid (D8.out.keep hb9); clear hb9))
          | (go_at_call 17; ((with_reducible refine (gmade_ga D9.out.ga HGD.out.1).mono ?_); rintro e w10 ⟨rfl, rfl⟩))
          | (go_at_call 17; ((with_reducible refine (gmade_ga D9.out.gb HGD.out.1).mono ?_); rintro e w10 ⟨rfl, rfl⟩)))
        go_ret
        exact ⟨rfl, D9.out.below⟩
  · have HC : Hid (c.check = 6) := Lib.hid (by unfold Cfg.check; rw [if_neg hc])
    clear hc hx hy
    go_enter Try.func4, Try.ntmps4
    go_wp2_with (first
      | (go_at_call 6; refine (galive_any _).mono ?_; rintro e w1 ⟨rfl, hb1⟩; have A1 := Lib.hid (keep hb1 A0.out); have B1 := Lib.hid (below_next B0.out hb1); clear hb1)
      | (go_at_call 8; refine (check_any c _).mono ?_; rw [HC.out]; rintro e w2 ⟨rfl, hb2⟩; have B2 := Lib.hid (below_next B1.out hb2); clear hb2)
      | (refine wpList_load_row rfl 23 _ rfl w.heap.size rfl 23 c.cells (0, 0) _ ?_ Try.underlying23 rfl (by kernel_rfl) ?_; exact Hid.out (by assumption)))
    go_ret
    exact ⟨rfl, B2.out⟩
end Go.Proofs.Ytaefcmmjeloccaa
