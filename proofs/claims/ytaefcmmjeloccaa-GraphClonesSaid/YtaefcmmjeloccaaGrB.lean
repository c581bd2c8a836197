/- The graph's ask. -/
import Derived.Test.YtaefcmmjeloccaaGrA
namespace Go.Proofs.Ytaefcmmjeloccaa
open Go.RowKit

section
variable {w : World} {g : Nat} {c : Cfg} {G : Gr} {tb tcap nb ncap : Nat} {hv nv : List Value}
set_option maxHeartbeats 4000000 in
set_option maxRecDepth 100000 in
theorem gask_any (h : Gx 60 72 w g c G tb tcap nb ncap hv nv) (hg : G.Good) (x : Stp) (q no : Int) (t : Nat) (ht : x.t = (t : Int)) (hlt : t < G.thr.length) (hi : 0 ≤ x.i) (hj : 0 ≤ x.j) (hk : x.k = 11 ∨ x.k = 12) :
    Calls Try.prog 32 #[.pointer (some ⟨g, 0, none⟩), .agg x.cells] w fun e w' => DoR w w' g c (G.kind q x no x.k.toNat) (fpOf g tb nb hv nv) e := by
  have B2 := Lib.hid (below_new (below_alloc0 w (.cells x.cells 39)) (.cells zAns 36))
  have S2 := Lib.hid (keep_alloc (.cells zAns 36) (heap_alloc_new w (.cells x.cells 39)))
  have A2 := Lib.hid (heap_two w (.cells x.cells 39) (.cells zAns 36))
  have HG := Lib.hid h
  have HGD := Lib.hid hg
  have i1 : (0 : Int) ≤ (t : Int) := by omega
  have i2 : (t : Int) < (G.thr.length : Int) := by omega
  have HTH : Hid (G.held x.t = (G.thr.getD t Th.none).held) := Lib.hid (by rw [ht]; rfl)
  obtain ⟨u, hu⟩ : ∃ u, u = getv (G.thr.getD t Th.none).held x.i := ⟨_, rfl⟩
  obtain ⟨v, hv'⟩ : ∃ v, v = getv (G.thr.getD t Th.none).held x.j := ⟨_, rfl⟩
  have HU := Lib.hid hu
  have HV := Lib.hid hv'
  have HT := Lib.hid ht
  clear h hg hu hv' ht
  go_enter Try.func32, Try.ntmps32
  go_wp2_with fail
  change Code.wp _ _ _ _ ((w.alloc (.cells x.cells 39)).alloc (.cells zAns 36))
  generalize (w.alloc (.cells x.cells 39)).alloc (.cells zAns 36) = w2 at *
  have s1 : w2.cell? ⟨w.heap.size, 1, none⟩ = some (.int .i64 x.t) := cell_of_row _ _ _ _ _ _ S2.out
  have s2 : w2.cell? ⟨w.heap.size, 2, none⟩ = some (.int .i64 x.i) := cell_of_row _ _ _ _ _ _ S2.out
  rw [HT.out] at s1
  obtain ⟨-, q10, -⟩ := (HG.out.below B2.out).head
  go_cut [5, 6] from 7 (fun p b wc => ∃ Q, p = .pointer (some ⟨Q, 0, none⟩) ∧ b = .bool u.2 ∧ Hid (wc.heap[Q]? = some (.cells #[.int .i64 u.1.1, .int .i64 u.1.2] 57 (0, 0))) ∧ Hid (Below w2.heap.size w2 wc))
  case first =>
    go_region_held3 (fun w' => w'.cell? ⟨g, 10, none⟩ = some (.slice (some ⟨tb, 0, none⟩) G.thr.length tcap) ∧ w'.cell? ⟨w.heap.size, 1, none⟩ = some (.int .i64 (t : Int)) ∧ w'.cell? ⟨w.heap.size, 2, none⟩ = some (.int .i64 x.i))
      (first
        | exact ⟨q10, s1, s2⟩
        | exact ⟨cell_keep (by (repeat (first | exact (Below.refl _ _) | exact Below.refl _ _ | refine Below.drew ?_ | refine below_new ?_ _ | refine below_drewN ?_ _ | refine Below.setCell ?_ (by first | exact Nat.le_refl _ | (simp only [World.size_alloc]; omega)) _))) q10, cell_keep (by (repeat (first | exact (Below.refl _ _) | exact Below.refl _ _ | refine Below.drew ?_ | refine below_new ?_ _ | refine below_drewN ?_ _ | refine Below.setCell ?_ (by first | exact Nat.le_refl _ | (simp only [World.size_alloc]; omega)) _))) s1, cell_keep (by (repeat (first | exact (Below.refl _ _) | exact Below.refl _ _ | refine Below.drew ?_ | refine below_new ?_ _ | refine below_drewN ?_ _ | refine Below.setCell ?_ (by first | exact Nat.le_refl _ | (simp only [World.size_alloc]; omega)) _))) s2⟩)
      (first
        | (go_at_call 47; refine (gget_any _ _ _ _ (G.thr.getD t Th.none).held x.i _ (HG.out.hold hlt (by (repeat (first | exact B2.out | exact Below.refl _ _ | refine Below.drew ?_ | refine below_new ?_ _ | refine below_drewN ?_ _ | refine Below.setCell ?_ (by first | exact Nat.le_refl _ | (simp only [World.size_alloc]; omega)) _)))).1 (HG.out.hold hlt (by (repeat (first | exact B2.out | exact Below.refl _ _ | refine Below.drew ?_ | refine below_new ?_ _ | refine below_drewN ?_ _ | refine Below.setCell ?_ (by first | exact Nat.le_refl _ | (simp only [World.size_alloc]; omega)) _)))).2).mono ?_; rintro e w5 ⟨rfl, rfl⟩; rw [← HU.out]))
    all_goals
      go_wp2_with fail
      go_meet
      first
        | exact ⟨_, rfl, rfl, Lib.hid (heap_two _ _ _), Lib.hid (by (repeat (first | exact (Below.refl _ _) | exact Below.refl _ _ | refine Below.drew ?_ | refine below_new ?_ _ | refine below_drewN ?_ _ | refine Below.setCell ?_ (by first | exact Nat.le_refl _ | (simp only [World.size_alloc]; omega)) _)))⟩
        | exact ⟨_, rfl, rfl, Lib.hid (keep_alloc _ (heap_alloc_new _ _)), Lib.hid (by (repeat (first | exact (Below.refl _ _) | exact Below.refl _ _ | refine Below.drew ?_ | refine below_new ?_ _ | refine below_drewN ?_ _ | refine Below.setCell ?_ (by first | exact Nat.le_refl _ | (simp only [World.size_alloc]; omega)) _)))⟩
  case rest =>
    obtain ⟨Q, rfl, rfl, HQ, HB⟩ := hcut
    have B3 := Lib.hid (below_next B2.out HB.out)
    have A3 := Lib.hid (keep HB.out A2.out)
    have S3 := Lib.hid (keep HB.out S2.out)
    clear s1 s2 q10
    have s1 : wc.cell? ⟨w.heap.size, 1, none⟩ = some (.int .i64 x.t) := cell_of_row _ _ _ _ _ _ S3.out
    have s4 : wc.cell? ⟨w.heap.size, 4, none⟩ = some (.int .i64 x.j) := cell_of_row _ _ _ _ _ _ S3.out
    rw [HT.out] at s1
    obtain ⟨-, q10, -⟩ := (HG.out.below B3.out).head
    go_wp2_with fail
    generalize wc = w3 at *
    go_cut [7, 8] from 9 (fun p b wc => ∃ R, p = .pointer (some ⟨R, 0, none⟩) ∧ b = .bool v.2 ∧ Hid (wc.heap[R]? = some (.cells #[.int .i64 v.1.1, .int .i64 v.1.2] 57 (0, 0))) ∧ Hid (Below w3.heap.size w3 wc))
    case first =>
      go_region_held3 (fun w' => w'.cell? ⟨g, 10, none⟩ = some (.slice (some ⟨tb, 0, none⟩) G.thr.length tcap) ∧ w'.cell? ⟨w.heap.size, 1, none⟩ = some (.int .i64 (t : Int)) ∧ w'.cell? ⟨w.heap.size, 4, none⟩ = some (.int .i64 x.j))
        (first
          | exact ⟨q10, s1, s4⟩
          | exact ⟨cell_keep (by (repeat (first | exact (Below.refl _ _) | exact Below.refl _ _ | refine Below.drew ?_ | refine below_new ?_ _ | refine below_drewN ?_ _ | refine Below.setCell ?_ (by first | exact Nat.le_refl _ | (simp only [World.size_alloc]; omega)) _))) q10, cell_keep (by (repeat (first | exact (Below.refl _ _) | exact Below.refl _ _ | refine Below.drew ?_ | refine below_new ?_ _ | refine below_drewN ?_ _ | refine Below.setCell ?_ (by first | exact Nat.le_refl _ | (simp only [World.size_alloc]; omega)) _))) s1, cell_keep (by (repeat (first | exact (Below.refl _ _) | exact Below.refl _ _ | refine Below.drew ?_ | refine below_new ?_ _ | refine below_drewN ?_ _ | refine Below.setCell ?_ (by first | exact Nat.le_refl _ | (simp only [World.size_alloc]; omega)) _))) s4⟩)
        (first
          | (go_at_call 47; refine (gget_any _ _ _ _ (G.thr.getD t Th.none).held x.j _ (HG.out.hold hlt (by (repeat (first | exact B3.out | exact Below.refl _ _ | refine Below.drew ?_ | refine below_new ?_ _ | refine below_drewN ?_ _ | refine Below.setCell ?_ (by first | exact Nat.le_refl _ | (simp only [World.size_alloc]; omega)) _)))).1 (HG.out.hold hlt (by (repeat (first | exact B3.out | exact Below.refl _ _ | refine Below.drew ?_ | refine below_new ?_ _ | refine below_drewN ?_ _ | refine Below.setCell ?_ (by first | exact Nat.le_refl _ | (simp only [World.size_alloc]; omega)) _)))).2).mono ?_; rintro e w5 ⟨rfl, rfl⟩; rw [← HV.out]))
      all_goals
        go_wp2_with fail
        go_meet
        first
          | exact ⟨_, rfl, rfl, Lib.hid (heap_two _ _ _), Lib.hid (by (repeat (first | exact (Below.refl _ _) | exact Below.refl _ _ | refine Below.drew ?_ | refine below_new ?_ _ | refine below_drewN ?_ _ | refine Below.setCell ?_ (by first | exact Nat.le_refl _ | (simp only [World.size_alloc]; omega)) _)))⟩
          | exact ⟨_, rfl, rfl, Lib.hid (keep_alloc _ (heap_alloc_new _ _)), Lib.hid (by (repeat (first | exact (Below.refl _ _) | exact Below.refl _ _ | refine Below.drew ?_ | refine below_new ?_ _ | refine below_drewN ?_ _ | refine Below.setCell ?_ (by first | exact Nat.le_refl _ | (simp only [World.size_alloc]; omega)) _)))⟩
    case rest =>
      obtain ⟨R, rfl, rfl, HR, HB2⟩ := hcut
      have B4 := Lib.hid (below_next B3.out HB2.out)
      have A4 := Lib.hid (keep HB2.out A3.out)
      have S4 := Lib.hid (keep HB2.out S3.out)
      have Q4 := Lib.hid (keep HB2.out HQ.out)
      clear s1 s4 q10
      have s0 : wc.cell? ⟨w.heap.size, 0, none⟩ = some (.int .i64 x.k) := cell_of_row _ _ _ _ _ _ S4.out
      have q0 : wc.cell? ⟨Q, 0, none⟩ = some (.int .i64 u.1.1) := cell_of_row _ _ _ _ _ _ Q4.out
      have q1 : wc.cell? ⟨Q, 1, none⟩ = some (.int .i64 u.1.2) := cell_of_row _ _ _ _ _ _ Q4.out
      have r0 : wc.cell? ⟨R, 0, none⟩ = some (.int .i64 v.1.1) := cell_of_row _ _ _ _ _ _ HR.out
      have r1 : wc.cell? ⟨R, 1, none⟩ = some (.int .i64 v.1.2) := cell_of_row _ _ _ _ _ _ HR.out
      rcases hk with hk | hk
      · rw [hk] at s0
        have HK := Lib.hid hk
        clear hk
        have HKD : Hid (G.kind q x no x.k.toNat = (if ((G.held x.t).length : Int) ≤ x.i ∨ ((G.held x.t).length : Int) ≤ x.j then (Gr.err 4, G) else (⟨0, 1, if Gr.at? (G.held x.t) x.i = Gr.at? (G.held x.t) x.j then 1 else 0, 0, 0⟩, G))) := Lib.hid (by rw [show x.k.toNat = 11 by rw [HK.out]; rfl]; rfl)
        by_cases ho : ((G.thr.getD t Th.none).held.length : Int) ≤ x.i
        · have hu := HU.out
          rw [getv_out ho] at hu
          subst hu
          have HRR : Hid (G.kind q x no x.k.toNat = (Gr.err 4, G)) := Lib.hid (by
            rw [HKD.out, HTH.out, if_pos (.inl ho)])
          clear ho
          go_wp2_with (first
            | (go_at_call 24; refine (gfail_any 4 _).mono ?_; rintro e w8 ⟨rfl, hb8⟩; have B8 : Hid (Below w.heap.size w w8) := Lib.hid (below_next B4.out hb8); have A8 := Lib.hid (keep hb8 A4.out); clear hb8)
            | (refine wpList_store_row rfl 36 _ _ rfl (w.heap.size + 1) (Gr.err 4).cells rfl rfl 36 _ A8.out (by kernel_rfl) rfl (by kernel_rfl) ?_))
          exact bodyPost_ret (v := .agg (Gr.err 4).cells) (results_cell_row rfl _ _ (w.heap.size + 1) 36 (Gr.err 4).cells _ _ rfl (heap_setRow_same _ A8.out) Try.underlying36 rfl (by kernel_rfl)) rfl
            (by rw [HRR.out]; exact ⟨rfl, GTo.same HG.out (below_setRow (g := w.heap.size + 1) B8.out (by omega) _)⟩)
        by_cases ho2 : ((G.thr.getD t Th.none).held.length : Int) ≤ x.j
        · have hu := HU.out
          rw [getv_in hi (by omega)] at hu
          obtain ⟨y, hy⟩ : ∃ y, y = Gr.at? (G.thr.getD t Th.none).held x.i := ⟨_, rfl⟩
          rw [← hy] at hu
          subst hu
          have hv2 := HV.out
          rw [getv_out ho2] at hv2
          subst hv2
          clear hy
          have HRR : Hid (G.kind q x no x.k.toNat = (Gr.err 4, G)) := Lib.hid (by
            rw [HKD.out, HTH.out, if_pos (.inr ho2)])
          clear ho ho2
          go_wp2_with (first
            | (go_at_call 24; refine (gfail_any 4 _).mono ?_; rintro e w8 ⟨rfl, hb8⟩; have B8 : Hid (Below w.heap.size w w8) := Lib.hid (below_next B4.out hb8); have A8 := Lib.hid (keep hb8 A4.out); clear hb8)
            | (refine wpList_store_row rfl 36 _ _ rfl (w.heap.size + 1) (Gr.err 4).cells rfl rfl 36 _ A8.out (by kernel_rfl) rfl (by kernel_rfl) ?_))
          exact bodyPost_ret (v := .agg (Gr.err 4).cells) (results_cell_row rfl _ _ (w.heap.size + 1) 36 (Gr.err 4).cells _ _ rfl (heap_setRow_same _ A8.out) Try.underlying36 rfl (by kernel_rfl)) rfl
            (by rw [HRR.out]; exact ⟨rfl, GTo.same HG.out (below_setRow (g := w.heap.size + 1) B8.out (by omega) _)⟩)
        have hu := HU.out
        rw [getv_in hi (by omega)] at hu
        obtain ⟨y, hy⟩ : ∃ y, y = Gr.at? (G.thr.getD t Th.none).held x.i := ⟨_, rfl⟩
        rw [← hy] at hu
        subst hu
        have hv2 := HV.out
        rw [getv_in hj (by omega)] at hv2
        obtain ⟨z, hz⟩ : ∃ z, z = Gr.at? (G.thr.getD t Th.none).held x.j := ⟨_, rfl⟩
        rw [← hz] at hv2
        subst hv2
        by_cases hyz : y = z
        · subst hyz
          have HRR : Hid (G.kind q x no x.k.toNat = (⟨0, 1, 1, 0, 0⟩, G)) := Lib.hid (by
            rw [HKD.out, HTH.out, if_neg (by omega), ← hy, ← hz, if_pos rfl])
          clear ho ho2 hy hz
          go_wp2_with (refine wpList_store_row rfl 36 _ _ rfl (w.heap.size + 1) (Ans.cells ⟨0, 1, 1, 0, 0⟩) rfl rfl 36 _ A4.out (by kernel_rfl) rfl (by kernel_rfl) ?_)
          exact bodyPost_ret (v := .agg (Ans.cells ⟨0, 1, 1, 0, 0⟩)) (results_cell_row rfl _ _ (w.heap.size + 1) 36 (Ans.cells ⟨0, 1, 1, 0, 0⟩) _ _ rfl (heap_setRow_same _ A4.out) Try.underlying36 rfl (by kernel_rfl)) rfl
            (by rw [HRR.out]; exact ⟨rfl, GTo.same HG.out (below_setRow (g := w.heap.size + 1) B4.out (by omega) _)⟩)
        · by_cases h1 : y.1 = z.1
          · have h2 : ¬ y.2 = z.2 := fun h2 => hyz (Prod.ext h1 h2)
            have e1 : (y.1 == z.1) = true := by simpa using h1
            have e2 : (y.2 == z.2) = false := by simpa using h2
            have HRR : Hid (G.kind q x no x.k.toNat = (⟨0, 1, 0, 0, 0⟩, G)) := Lib.hid (by
              rw [HKD.out, HTH.out, if_neg (by omega), ← hy, ← hz, if_neg hyz])
            clear ho ho2 hy hz hyz
            go_wp2_with (refine wpList_store_row rfl 36 _ _ rfl (w.heap.size + 1) (Ans.cells ⟨0, 1, 0, 0, 0⟩) rfl rfl 36 _ A4.out (by kernel_rfl) rfl (by kernel_rfl) ?_)
            exact bodyPost_ret (v := .agg (Ans.cells ⟨0, 1, 0, 0, 0⟩)) (results_cell_row rfl _ _ (w.heap.size + 1) 36 (Ans.cells ⟨0, 1, 0, 0, 0⟩) _ _ rfl (heap_setRow_same _ A4.out) Try.underlying36 rfl (by kernel_rfl)) rfl
              (by rw [HRR.out]; exact ⟨rfl, GTo.same HG.out (below_setRow (g := w.heap.size + 1) B4.out (by omega) _)⟩)
          · have e1 : (y.1 == z.1) = false := by simpa using h1
            have HRR : Hid (G.kind q x no x.k.toNat = (⟨0, 1, 0, 0, 0⟩, G)) := Lib.hid (by
              rw [HKD.out, HTH.out, if_neg (by omega), ← hy, ← hz, if_neg hyz])
            clear ho ho2 hy hz hyz
            go_wp2_with (refine wpList_store_row rfl 36 _ _ rfl (w.heap.size + 1) (Ans.cells ⟨0, 1, 0, 0, 0⟩) rfl rfl 36 _ A4.out (by kernel_rfl) rfl (by kernel_rfl) ?_)
            exact bodyPost_ret (v := .agg (Ans.cells ⟨0, 1, 0, 0, 0⟩)) (results_cell_row rfl _ _ (w.heap.size + 1) 36 (Ans.cells ⟨0, 1, 0, 0, 0⟩) _ _ rfl (heap_setRow_same _ A4.out) Try.underlying36 rfl (by kernel_rfl)) rfl
              (by rw [HRR.out]; exact ⟨rfl, GTo.same HG.out (below_setRow (g := w.heap.size + 1) B4.out (by omega) _)⟩)
      · rw [hk] at s0
        have HK := Lib.hid hk
        clear hk
        have HKD : Hid (G.kind q x no x.k.toNat = (if G.object x false ≠ 0 then (Gr.err (G.object x false), G) else (⟨0, 1, ((G.node (Gr.at? (G.held x.t) x.i).2).length : Int), 0, 0⟩, G))) := Lib.hid (by rw [show x.k.toNat = 12 by rw [HK.out]; rfl]; rfl)
        by_cases ho : ((G.thr.getD t Th.none).held.length : Int) ≤ x.i
        · have hu := HU.out
          rw [getv_out ho] at hu
          subst hu
          have HRR : Hid (G.kind q x no x.k.toNat = (Gr.err 4, G)) := Lib.hid (by
            have e : G.object x false = 4 := by unfold Gr.object; rw [HTH.out, if_pos ho]
            rw [HKD.out, e, if_pos (by decide)])
          clear ho
          go_wp2_with (first
            | (go_at_call 24; refine (gfail_any 4 _).mono ?_; rintro e w8 ⟨rfl, hb8⟩; have B8 : Hid (Below w.heap.size w w8) := Lib.hid (below_next B4.out hb8); have A8 := Lib.hid (keep hb8 A4.out); clear hb8)
            | (refine wpList_store_row rfl 36 _ _ rfl (w.heap.size + 1) (Gr.err 4).cells rfl rfl 36 _ A8.out (by kernel_rfl) rfl (by kernel_rfl) ?_))
          exact bodyPost_ret (v := .agg (Gr.err 4).cells) (results_cell_row rfl _ _ (w.heap.size + 1) 36 (Gr.err 4).cells _ _ rfl (heap_setRow_same _ A8.out) Try.underlying36 rfl (by kernel_rfl)) rfl
            (by rw [HRR.out]; exact ⟨rfl, GTo.same HG.out (below_setRow (g := w.heap.size + 1) B8.out (by omega) _)⟩)
        have hu := HU.out
        rw [getv_in hi (by omega)] at hu
        obtain ⟨y, hy⟩ : ∃ y, y = Gr.at? (G.thr.getD t Th.none).held x.i := ⟨_, rfl⟩
        rw [← hy] at hu
        subst hu
        have hok := HGD.out.held_ok hlt hi (by omega : x.i < ((G.thr.getD t Th.none).held.length : Int))
        rw [← hy] at hok
        by_cases h2 : y.1 ≠ 2
        · have d2 : (y.1 != 2) = true := by simpa using h2
          have HRR : Hid (G.kind q x no x.k.toNat = (Gr.err 12, G)) := Lib.hid (by
            have e : G.object x false = 12 := by unfold Gr.object; rw [HTH.out, if_neg ho, ← hy, if_pos h2]
            rw [HKD.out, e, if_pos (by decide)])
          clear ho hy hok h2
          go_wp2_with (first
            | (go_at_call 24; refine (gfail_any 12 _).mono ?_; rintro e w8 ⟨rfl, hb8⟩; have B8 : Hid (Below w.heap.size w w8) := Lib.hid (below_next B4.out hb8); have A8 := Lib.hid (keep hb8 A4.out); clear hb8)
            | (refine wpList_store_row rfl 36 _ _ rfl (w.heap.size + 1) (Gr.err 12).cells rfl rfl 36 _ A8.out (by kernel_rfl) rfl (by kernel_rfl) ?_))
          exact bodyPost_ret (v := .agg (Gr.err 12).cells) (results_cell_row rfl _ _ (w.heap.size + 1) 36 (Gr.err 12).cells _ _ rfl (heap_setRow_same _ A8.out) Try.underlying36 rfl (by kernel_rfl)) rfl
            (by rw [HRR.out]; exact ⟨rfl, GTo.same HG.out (below_setRow (g := w.heap.size + 1) B8.out (by omega) _)⟩)
        have d2 : (y.1 != 2) = false := by simpa using h2
        have h2 : y.1 = 2 := by omega
        obtain ⟨hs0, hs1⟩ := hok.2 h2
        obtain ⟨s, hs⟩ : ∃ s : Nat, y.2 = (s : Int) := ⟨y.2.toNat, by omega⟩
        have hsl : s < G.nod.length := by omega
        have hG := HG.out.below B4.out
        obtain ⟨-, -, q11⟩ := hG.head
        obtain ⟨n0, n1⟩ := hG.nodeRow hsl
        have i3 : (0 : Int) ≤ (s : Int) := by omega
        have i4 : (s : Int) < (G.nod.length : Int) := by omega
        replace q1 : wc.cell? ⟨Q, 1, none⟩ = some (.int .i64 (s : Int)) := by rw [← hs]; exact q1
        have hnode : G.node (Gr.at? (G.held x.t) x.i).2 = G.nod.getD s [] := by rw [HTH.out, ← hy, hs]; rfl
        obtain ⟨p, cap, hp, hcap, hpb⟩ := own_slice n1
        rw [hp] at n0
        have HN := Lib.hid hnode
        have HOB : Hid (G.object x false = 0) := Lib.hid (by unfold Gr.object; rw [HTH.out, if_neg ho, ← hy, if_neg (by omega), if_neg (by simp)])
        clear hG n1 hp hcap hpb hnode hok hs0 hs1 hs hsl
        generalize G.nod.getD s [] = L at *
        have HRR : Hid (G.kind q x no x.k.toNat = (⟨0, 1, (L.length : Int), 0, 0⟩, G)) := Lib.hid (by
          rw [HKD.out, HOB.out, if_neg (by simp), HN.out])
        clear ho hy h2
        go_wp2_with fail
        go_quiet (fail)
        go_wp2_with (refine wpList_store_row rfl 36 _ _ rfl (w.heap.size + 1) (Ans.cells ⟨0, 1, (L.length : Int), 0, 0⟩) rfl rfl 36 _ A4.out (by kernel_rfl) rfl (by kernel_rfl) ?_)
        exact bodyPost_ret (v := .agg (Ans.cells ⟨0, 1, (L.length : Int), 0, 0⟩)) (results_cell_row rfl _ _ (w.heap.size + 1) 36 (Ans.cells ⟨0, 1, (L.length : Int), 0, 0⟩) _ _ rfl (heap_setRow_same _ A4.out) Try.underlying36 rfl (by kernel_rfl)) rfl
          (by rw [HRR.out]; exact ⟨rfl, GTo.same HG.out (below_setRow (g := w.heap.size + 1) (below_drewN B4.out _) (by omega) _)⟩)
end
end Go.Proofs.Ytaefcmmjeloccaa
