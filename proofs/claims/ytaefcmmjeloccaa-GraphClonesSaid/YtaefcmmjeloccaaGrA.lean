/- The graph's write. -/
import Derived.Test.YtaefcmmjeloccaaGr9
import Derived.Deep.MidRow
namespace Go.Proofs.Ytaefcmmjeloccaa
open Go.RowKit

abbrev zAns : Array Value := #[.int .i64 0, .int .i64 0, .int .i64 0, .int .i64 0, .int .i64 0]
section
variable {w : World} {g : Nat} {c : Cfg} {G : Gr} {tb tcap nb ncap : Nat} {hv nv : List Value}
/-- A field's cells may be written. -/
theorem Gx.fieldThere (h : Gx 60 72 w g c G tb tcap nb ncap hv nv) {s f d cap : Nat} (hs : s < G.nod.length) (hf : f < (G.nod.getD s []).length) (hd : nv.getD s undef = .slice (some ⟨d, 0, none⟩) (G.nod.getD s []).length cap) :
    (w.cell? ⟨d, f * 2, none⟩ = some (.int .i64 ((G.nod.getD s []).getD f (0, 0)).1) ∧ w.cell? ⟨d, f * 2 + 1, none⟩ = some (.int .i64 ((G.nod.getD s []).getD f (0, 0)).2)) ∧ w.frozen? ⟨d, f * 2, none⟩ = false ∧ w.frozen? ⟨d, f * 2 + 1, none⟩ = false := by
  have hr := (h.nodeRow hs).2
  rw [hd] at hr
  exact ⟨own_val hr hf, hr.frozenAt _, hr.frozenAt _⟩
set_option maxHeartbeats 4000000 in
set_option maxRecDepth 100000 in
theorem gwrite_any (h : Gx 60 72 w g c G tb tcap nb ncap hv nv) (hg : G.Good) (x : Stp) (q no : Int) (t : Nat) (ht : x.t = (t : Int)) (hlt : t < G.thr.length) (hi : 0 ≤ x.i) (hf : 0 ≤ x.f) (hj : 0 ≤ x.j) :
    Calls Try.prog 31 #[.pointer (some ⟨g, 0, none⟩), .agg x.cells] w fun e w' => DoR w w' g c (G.kind q x no 10) (fpOf g tb nb hv nv) e := by
  have B2 := Lib.hid (below_new (below_alloc0 w (.cells x.cells 39)) (.cells zAns 36))
  have S2 := Lib.hid (keep_alloc (.cells zAns 36) (heap_alloc_new w (.cells x.cells 39)))
  have A2 := Lib.hid (heap_two w (.cells x.cells 39) (.cells zAns 36))
  have HG := Lib.hid h
  have HGD := Lib.hid hg
  have HT := Lib.hid ht
  have HFP := Lib.hid h.lt
  by_cases ho : G.object x true = 0
  · obtain ⟨o1, o2, ⟨o3, o4⟩, o5⟩ := object_zero ht hlt hg hi ho
    have HO := Lib.hid ho
    have i1 : (0 : Int) ≤ (t : Int) := by omega
    have i2 : (t : Int) < (G.thr.length : Int) := by omega
    have HTH : Hid (G.held x.t = (G.thr.getD t Th.none).held) := Lib.hid (by rw [ht]; rfl)
    obtain ⟨u, hu⟩ : ∃ u, u = getv (G.thr.getD t Th.none).held x.j := ⟨_, rfl⟩
    have HU := Lib.hid hu
    have O5 := Lib.hid (And.intro o3 (And.intro o4 o5))
    clear h hg ht ho o1 o2 o3 o4 o5 hu
    go_enter Try.func31, Try.ntmps31
    go_wp2_with (first
      | (refine wpList_load_row rfl 39 _ rfl w.heap.size rfl 39 x.cells (0, 0) _ S2.out Try.underlying39 rfl (by kernel_rfl) ?_)
      | (go_at_call 48; refine (gfield_yes (HG.out.below B2.out) HGD.out x t HT.out hlt hi hf HO.out).mono ?_; rintro e w5 ⟨d, hn, rfl, hb5⟩; have B5 : Hid (Below w.heap.size w w5) := Lib.hid (below_next B2.out hb5); have A5 := Lib.hid (keep hb5 A2.out); have S5 := Lib.hid (keep hb5 S2.out); clear hb5; have HN := Lib.hid hn; clear hn))
    have S6 := S5.out
    have s1 : w5.cell? ⟨w.heap.size, 1, none⟩ = some (.int .i64 x.t) := cell_of_row _ _ _ _ _ _ S6
    have s4 : w5.cell? ⟨w.heap.size, 4, none⟩ = some (.int .i64 x.j) := cell_of_row _ _ _ _ _ _ S6
    rw [HT.out] at s1
    obtain ⟨-, q10, -⟩ := (HG.out.below B5.out).head
    clear S6
    go_cut [7, 8] from 9 (fun p v wc => ∃ Q, p = .pointer (some ⟨Q, 0, none⟩) ∧ v = .bool u.2 ∧ Hid (wc.heap[Q]? = some (.cells #[.int .i64 u.1.1, .int .i64 u.1.2] 57 (0, 0))) ∧ Hid (Below w5.heap.size w5 wc))
    case first =>
      go_region_held3 (fun w' => w'.cell? ⟨g, 10, none⟩ = some (.slice (some ⟨tb, 0, none⟩) G.thr.length tcap) ∧ w'.cell? ⟨w.heap.size, 1, none⟩ = some (.int .i64 (t : Int)) ∧ w'.cell? ⟨w.heap.size, 4, none⟩ = some (.int .i64 x.j))
        (first
          | exact ⟨q10, s1, s4⟩
          | exact ⟨cell_keep (by (repeat (first | exact (Below.refl _ _) | exact Below.refl _ _ | refine Below.drew ?_ | refine below_new ?_ _ | refine below_drewN ?_ _ | refine Below.setCell ?_ (by first | exact Nat.le_refl _ | (simp only [World.size_alloc]; omega)) _))) q10, cell_keep (by (repeat (first | exact (Below.refl _ _) | exact Below.refl _ _ | refine Below.drew ?_ | refine below_new ?_ _ | refine below_drewN ?_ _ | refine Below.setCell ?_ (by first | exact Nat.le_refl _ | (simp only [World.size_alloc]; omega)) _))) s1, cell_keep (by (repeat (first | exact (Below.refl _ _) | exact Below.refl _ _ | refine Below.drew ?_ | refine below_new ?_ _ | refine below_drewN ?_ _ | refine Below.setCell ?_ (by first | exact Nat.le_refl _ | (simp only [World.size_alloc]; omega)) _))) s4⟩)
        (first
          | (go_at_call 47; refine (gget_any _ _ _ _ (G.thr.getD t Th.none).held x.j _ (HG.out.hold hlt (by (repeat (first | exact B5.out | exact Below.refl _ _ | refine Below.drew ?_ | refine below_new ?_ _ | refine below_drewN ?_ _ | refine Below.setCell ?_ (by first | exact Nat.le_refl _ | (simp only [World.size_alloc]; omega)) _)))).1 (HG.out.hold hlt (by (repeat (first | exact B5.out | exact Below.refl _ _ | refine Below.drew ?_ | refine below_new ?_ _ | refine below_drewN ?_ _ | refine Below.setCell ?_ (by first | exact Nat.le_refl _ | (simp only [World.size_alloc]; omega)) _)))).2).mono ?_; rintro e w5 ⟨rfl, rfl⟩; rw [← HU.out]))
      all_goals
        go_wp2_with fail
        go_meet
        first
          | exact ⟨_, rfl, rfl, Lib.hid (heap_two _ _ _), Lib.hid (by (repeat (first | exact (Below.refl _ _) | exact Below.refl _ _ | refine Below.drew ?_ | refine below_new ?_ _ | refine below_drewN ?_ _ | refine Below.setCell ?_ (by first | exact Nat.le_refl _ | (simp only [World.size_alloc]; omega)) _)))⟩
          | exact ⟨_, rfl, rfl, Lib.hid (keep_alloc _ (heap_alloc_new _ _)), Lib.hid (by (repeat (first | exact (Below.refl _ _) | exact Below.refl _ _ | refine Below.drew ?_ | refine below_new ?_ _ | refine below_drewN ?_ _ | refine Below.setCell ?_ (by first | exact Nat.le_refl _ | (simp only [World.size_alloc]; omega)) _)))⟩
    case rest =>
      obtain ⟨Q, rfl, rfl, HQ, HB⟩ := hcut
      have B6 := Lib.hid (below_next B5.out HB.out)
      have A6 := Lib.hid (keep HB.out A5.out)
      have hQ := HQ.out
      clear s1 s4 q10
      by_cases ho : ((G.held x.t).length : Int) ≤ x.j
      · have hr : G.kind q x no 10 = (Gr.err 4, G) := by
          show (if G.object x true ≠ 0 then _ else if ((G.held x.t).length : Int) ≤ x.j then _ else _) = _
          rw [if_neg (by have := HO.out; omega), if_pos ho]
        have hu := HU.out
        rw [HTH.out] at ho
        rw [getv_out ho] at hu
        subst hu
        have HR := Lib.hid hr
        clear hr ho hQ
        go_wp2_with (first
          | (go_at_call 24; refine (gfail_any 4 _).mono ?_; rintro e w8 ⟨rfl, hb8⟩; have B8 : Hid (Below w.heap.size w w8) := Lib.hid (below_next B6.out hb8); have A8 := Lib.hid (keep hb8 A6.out); clear hb8)
          | (refine wpList_store_row rfl 36 _ _ rfl (w.heap.size + 1) (Gr.err 4).cells rfl rfl 36 _ A8.out (by kernel_rfl) rfl (by kernel_rfl) ?_))
        exact bodyPost_ret (v := .agg (Gr.err 4).cells) (results_cell_row rfl _ _ (w.heap.size + 1) 36 (Gr.err 4).cells _ _ rfl (heap_setRow_same _ A8.out) Try.underlying36 rfl (by kernel_rfl)) rfl
          (by rw [HR.out]; exact ⟨rfl, GTo.same HG.out (below_setRow (g := w.heap.size + 1) B8.out (by omega) _)⟩)
      · have hr : G.kind q x no 10 = (Ans.zero, G.setF (Gr.at? (G.held x.t) x.i).2 x.f (Gr.at? (G.held x.t) x.j)) := by
          show (if G.object x true ≠ 0 then _ else if ((G.held x.t).length : Int) ≤ x.j then _ else _) = _
          rw [if_neg (by have := HO.out; omega), if_neg ho]
        have hu := HU.out
        have HJ : Hid (Gr.at? (G.held x.t) x.j = Gr.at? (G.thr.getD t Th.none).held x.j) := Lib.hid (by rw [HTH.out])
        rw [HTH.out] at ho
        rw [getv_in hj (by omega)] at hu
        obtain ⟨v, hv'⟩ : ∃ v, v = Gr.at? (G.thr.getD t Th.none).held x.j := ⟨_, rfl⟩
        rw [← hv'] at hu HJ
        subst hu
        have HR := Lib.hid hr
        clear hr ho hv'
        have q0 : wc.cell? ⟨Q, 0, none⟩ = some (.int .i64 v.1) := cell_of_row _ _ _ _ _ _ hQ
        have q1 : wc.cell? ⟨Q, 1, none⟩ = some (.int .i64 v.2) := cell_of_row _ _ _ _ _ _ hQ
        obtain ⟨o3, o4, o5⟩ := O5.out
        obtain ⟨cap, hn⟩ := HN.out
        obtain ⟨s, hs⟩ : ∃ s : Nat, (Gr.at? (G.held x.t) x.i).2 = (s : Int) := ⟨_, (Int.toNat_of_nonneg o3).symm⟩
        obtain ⟨f, hff⟩ : ∃ f : Nat, x.f = (f : Int) := ⟨_, (Int.toNat_of_nonneg hf).symm⟩
        have hnd : G.node (Gr.at? (G.held x.t) x.i).2 = G.nod.getD s [] := by rw [hs]; rfl
        have hn2 : nv.getD s undef = .slice (some ⟨d, 0, none⟩) (G.nod.getD s []).length cap := by
          rw [hnd, hs] at hn; exact hn
        have hsl : s < G.nod.length := by rw [hs] at o4; omega
        have hfl : f < (G.nod.getD s []).length := by rw [hnd, hff] at o5; omega
        have hG6 := HG.out.below B6.out
        obtain ⟨⟨t0, t1⟩, t2, t3⟩ := hG6.fieldThere hsl hfl hn2
        have PF := Lib.hid (hG6.putField kinds_g hsl hfl hn2 v)
        have hdw : d < w.heap.size := by
          have := own_blk (HG.out.nodeRow hsl).2 d (by rw [hn2]; rfl)
          exact this
        have A9 : Hid (((wc.setCell ⟨d, f * 2, none⟩ (.int .i64 v.1)).setCell ⟨d, f * 2 + 1, none⟩ (.int .i64 v.2)).heap[w.heap.size + 1]? = some (.cells zAns 36 (0, 0))) :=
          Lib.hid ((heap_setCell_other _ _ _ _ (by simp only; omega)).trans ((heap_setCell_other _ _ _ _ (by simp only; omega)).trans A6.out))
        have HR2 : Hid (G.kind q x no 10 = (Ans.zero, G.setF (s : Int) (f : Int) v)) := Lib.hid (by rw [HR.out, HJ.out, hs, hff])
        have hft : x.f.toNat = f := by omega
        rw [hft]
        generalize (G.nod.getD s []).getD f (0, 0) = y at t0 t1
        clear o3 o4 o5 hn hs hnd hn2 hsl hfl hG6 hdw hff hft HN HR
        go_wp2_with (first
          | (refine wpList_store_row rfl 36 _ _ rfl (w.heap.size + 1) zAns rfl rfl 36 _ A9.out (by kernel_rfl) rfl (by kernel_rfl) ?_))
        exact bodyPost_ret (v := .agg zAns) (results_cell_row rfl _ _ (w.heap.size + 1) 36 zAns _ _ rfl (heap_setRow_same _ A9.out) Try.underlying36 rfl (by kernel_rfl)) rfl
          (by rw [HR2.out]; exact ⟨rfl, PF.out.wrap B6.out HFP.out (K := w.heap.size + 1) (by omega) (heap_lt A6.out) (Frm.setRow (fp := [w.heap.size + 1]) _ (List.mem_singleton.2 rfl) _)⟩)
  · have hr : G.kind q x no 10 = (Gr.err (G.object x true), G) := by
      show (if G.object x true ≠ 0 then _ else _) = _
      rw [if_pos ho]
    rw [hr]
    have HO := Lib.hid ho
    obtain ⟨k, hk⟩ : ∃ k, k = G.object x true := ⟨_, rfl⟩
    have HK := Lib.hid hk
    have dk : (k != 0) = true := by rw [hk]; simpa using ho
    rw [← hk]
    clear h hg ht ho hr hk
    go_enter Try.func31, Try.ntmps31
    go_wp2_with (first
      | (refine wpList_load_row rfl 39 _ rfl w.heap.size rfl 39 x.cells (0, 0) _ S2.out Try.underlying39 rfl (by kernel_rfl) ?_)
      | (go_at_call 48; refine (gfield_no (HG.out.below B2.out) HGD.out x t HT.out hlt hi hf HO.out).mono ?_; rw [← HK.out]; rintro e w5 ⟨rfl, hb5⟩; have B5 : Hid (Below w.heap.size w w5) := Lib.hid (below_next B2.out hb5); have A5 := Lib.hid (keep hb5 A2.out); clear hb5)
      | (go_at_call 24; refine (gfail_any k _).mono ?_; rintro e w6 ⟨rfl, hb6⟩; have B6 : Hid (Below w.heap.size w w6) := Lib.hid (below_next B5.out hb6); have A6 := Lib.hid (keep hb6 A5.out); clear hb6)
      | (refine wpList_store_row rfl 36 _ _ rfl (w.heap.size + 1) (Gr.err k).cells rfl rfl 36 _ A6.out (by kernel_rfl) rfl (by kernel_rfl) ?_))
    exact bodyPost_ret (v := .agg (Gr.err k).cells) (results_cell_row rfl _ _ (w.heap.size + 1) 36 (Gr.err k).cells _ _ rfl (heap_setRow_same _ A6.out) Try.underlying36 rfl (by kernel_rfl)) rfl
      ⟨rfl, GTo.same HG.out (below_setRow (g := w.heap.size + 1) B6.out (by omega) _)⟩
end
end Go.Proofs.Ytaefcmmjeloccaa
