/- The reference graph: New. -/
import Derived.Test.YtaefcmmjeloccaaGrL
namespace Go.Proofs.Ytaefcmmjeloccaa
open Go.RowKit

theorem info_thrR : (Try.prog.info? 85).map (fun i => (i.zero, i.size, i.bytes)) = some (some (.agg #[.bool false, .slice none 0 0]), 2, 32) := by kernel_rfl
theorem make_thrR (n : Nat) (hn : n ≤ 8) (w : World) : (Instr.makeSlice 48 (.int .i64 (n : Int)) (.int .i64 (n : Int))).run Try.prog w = .ok (.slice (some ⟨w.heap.size, 0, none⟩) n n) (w.alloc (.cells (thC (List.replicate n Th.none) (List.replicate n (.slice none 0 0))).toArray 85)) := by
  obtain ⟨i0, hi, hz0, hz1, hz2⟩ := info_parts info_thrR
  have h := run_make (P := Try.prog) w 48 85 i0 _ Try.underlying48 hi hz0 .i64 .i64 n n (by omega) (by omega) (by rw [hz2]; omega) (by omega)
  rw [hz1] at h
  rw [← made_thr]
  exact h
/-- What the reference's New comes to. -/
def NewS (GT TT : TypeId) (w w' : World) (c : Cfg) (e : Ending) : Prop :=
  ∃ g, e = .returned (.pointer (some ⟨g, 0, none⟩)) ∧ Below w.heap.size w w' ∧ ∃ tb tcap nb ncap hv nv, Gx GT TT w' g c (Gr.fresh c) tb tcap nb ncap hv nv ∧ ∀ k ∈ fpOf g tb nb hv nv, w.heap.size ≤ k
theorem rgx_new {w1 W : World} {c : Cfg} {t : Nat} (ht : c.t = (t : Int)) (ht8 : t ≤ 8) {tb vb nb g : Nat} {w : World} (hb : Below w.heap.size w w1) (hW : Below w1.heap.size w1 W)
    (h1 : W.heap[tb]? = some (.cells (thC (List.replicate t Th.none) (List.replicate t (.slice none 0 0))).toArray 85 (0, 0)))
    (h2 : W.heap[vb]? = some (.cells (vls [(0, 0), (0, 0), (0, 0), (0, 0)]).toArray 57 (0, 0)))
    (h3 : W.heap[nb]? = some (.cells #[.slice (some ⟨vb, 0, none⟩) 4 4] 53 (0, 0)))
    (h4 : W.heap[g]? = some (.cells #[.int .i64 c.p, .int .i64 (t : Int), .int .i64 c.w, .int .i64 c.q, .int .i64 c.g, .int .i64 c.cap, .int .i64 c.tax, .int .i64 c.ch, .int .i64 c.st, .int .i64 c.tr, .slice (some ⟨tb, 0, none⟩) t t, .slice (some ⟨nb, 0, none⟩) 1 1] 50 (0, 0)))
    (k1 : w1.heap.size ≤ tb) (k2 : w1.heap.size ≤ vb) (k3 : w1.heap.size ≤ nb) (k4 : w1.heap.size ≤ g) :
    NewS 50 85 w W c (.returned (.pointer (some ⟨g, 0, none⟩))) := by
  have hs := hb.size
  have hl : (Gr.fresh c).thr.length = t := by simp [Gr.fresh, ht]
  have hthr : (Gr.fresh c).thr = List.replicate t Th.none := by simp [Gr.fresh, ht]
  have hfm : (List.replicate t (Value.slice none 0 0)).filterMap Value.ownBlock = [] := by
    rw [List.filterMap_eq_nil_iff]
    intro v hv
    rw [List.eq_of_mem_replicate hv]; rfl
  refine ⟨g, rfl, below_next hb hW, tb, t, nb, 1, List.replicate t (.slice none 0 0), [.slice (some ⟨vb, 0, none⟩) 4 4], ⟨?_, ?_, ?_, ?_, ?_, ?_, ?_⟩, ?_⟩
  · rw [h4, hl, ← ht]; rfl
  · rw [hl, hthr]
    have hlen : (thC (List.replicate t Th.none) (List.replicate t (.slice none 0 0))).length = t * 2 := by rw [thC_len (by simp), List.length_replicate]
    exact ⟨hlen, .inr ⟨tb, t, _, rfl, Nat.zero_le _, h1, Nat.le_refl _, by unfold maxLen; omega, by simpa using hlen, by simp [List.take_of_length_le (Nat.le_of_eq hlen)]⟩⟩
  · exact ⟨rfl, .inr ⟨nb, 1, _, rfl, Nat.zero_le _, h3, Nat.le_refl _, by decide, rfl, rfl⟩⟩
  · rw [hl]; simp
  · rw [hthr]; simp [Gr.fresh]
  · intro i hi
    rw [hthr] at hi ⊢
    simp only [List.length_append, List.length_map, List.length_replicate] at hi
    by_cases e1 : i < t
    · refine ⟨0, ?_⟩
      rw [List.getD_eq_getElem?_getD, List.getElem?_append_left (by simpa using e1), List.getD_eq_getElem?_getD, List.getElem?_append_left (by simpa using e1), List.getElem?_map, List.getElem?_replicate, List.getElem?_replicate, if_pos e1, if_pos e1]
      exact ⟨rfl, .inl ⟨rfl, rfl⟩⟩
    · have : i = t := by simp [Gr.fresh] at hi; omega
      subst this
      refine ⟨4, ?_⟩
      rw [List.getD_eq_getElem?_getD, List.getElem?_append_right (by simp), List.getD_eq_getElem?_getD, List.getElem?_append_right (by simp)]
      simp only [List.length_replicate, List.length_map, Nat.sub_self]
      exact ⟨rfl, .inr ⟨vb, 4, _, rfl, Nat.zero_le _, h2, Nat.le_refl _, by decide, rfl, rfl⟩⟩
  · rw [List.filterMap_append, hfm]; simp [Value.ownBlock]
  · intro k hk
    simp only [fpOf, List.filterMap_append, hfm, List.nil_append, List.mem_cons] at hk
    rcases hk with rfl | rfl | rfl | hk
    · omega
    · omega
    · omega
    · have : k = vb := by simpa [Value.ownBlock] using hk
      omega
set_option maxHeartbeats 2000000 in
set_option maxRecDepth 100000 in
theorem rnew_any (c : Cfg) (hc : c.wrong = 0) (w : World) :
    Calls Try.prog 9 #[.agg c.cells] w fun e w' => NewS 50 85 w w' c e := by
  have ht := (Cfg.wrong_zero hc).1.t
  clear hc
  obtain ⟨t, htt⟩ : ∃ t : Nat, c.t = (t : Int) := ⟨c.t.toNat, by omega⟩
  have HT := Lib.hid htt
  rw [htt] at ht
  clear htt
  go_enter Try.func9, Try.ntmps9
  go_wp2_with fail
  obtain ⟨w1, hw1⟩ : ∃ w1, w1 = w.alloc (.cells c.cells 23) := ⟨_, rfl⟩
  have A1 : w1.heap[w.heap.size]? = some (.cells c.cells 23 (0, 0)) := by rw [hw1]; exact heap_alloc_new w _
  have B1 : Hid (Below w.heap.size w w1) := Lib.hid (by rw [hw1]; exact below_alloc0 w _)
  rw [← hw1]
  clear hw1
  obtain ⟨p0, p1, p2, p3, p4, p5, p6, p7, p8, p9⟩ := cfg_cells A1
  rw [HT.out] at p1
  clear A1
  have m1 := make_thrR t (by omega)
  have m2 : ∀ W : World, (Instr.makeSlice 53 (.int .i64 4) (.int .i64 4)).run Try.prog W = .ok (.slice (some ⟨W.heap.size, 0, none⟩) 4 4) (W.alloc (.cells (vls (List.replicate 4 (0, 0))).toArray 57)) := make_vals 4 (by omega)
  go_region_held3 (fun w' => w'.cell? ⟨w.heap.size, 0, none⟩ = some (.int .i64 c.p) ∧ w'.cell? ⟨w.heap.size, 1, none⟩ = some (.int .i64 (t : Int)) ∧ w'.cell? ⟨w.heap.size, 2, none⟩ = some (.int .i64 c.w) ∧ w'.cell? ⟨w.heap.size, 3, none⟩ = some (.int .i64 c.q) ∧ w'.cell? ⟨w.heap.size, 4, none⟩ = some (.int .i64 c.g) ∧ w'.cell? ⟨w.heap.size, 5, none⟩ = some (.int .i64 c.cap) ∧ w'.cell? ⟨w.heap.size, 6, none⟩ = some (.int .i64 c.tax) ∧ w'.cell? ⟨w.heap.size, 7, none⟩ = some (.int .i64 c.ch) ∧ w'.cell? ⟨w.heap.size, 8, none⟩ = some (.int .i64 c.st) ∧ w'.cell? ⟨w.heap.size, 9, none⟩ = some (.int .i64 c.tr)) (exact ⟨cell_keep (by (repeat (first | exact (Below.refl _ _) | exact Below.refl _ _ | refine Below.drew ?_ | refine below_new ?_ _ | refine below_drewN ?_ _ | refine Below.setCell ?_ (by first | exact Nat.le_refl _ | (simp only [World.size_alloc]; omega)) _))) p0, cell_keep (by (repeat (first | exact (Below.refl _ _) | exact Below.refl _ _ | refine Below.drew ?_ | refine below_new ?_ _ | refine below_drewN ?_ _ | refine Below.setCell ?_ (by first | exact Nat.le_refl _ | (simp only [World.size_alloc]; omega)) _))) p1, cell_keep (by (repeat (first | exact (Below.refl _ _) | exact Below.refl _ _ | refine Below.drew ?_ | refine below_new ?_ _ | refine below_drewN ?_ _ | refine Below.setCell ?_ (by first | exact Nat.le_refl _ | (simp only [World.size_alloc]; omega)) _))) p2, cell_keep (by (repeat (first | exact (Below.refl _ _) | exact Below.refl _ _ | refine Below.drew ?_ | refine below_new ?_ _ | refine below_drewN ?_ _ | refine Below.setCell ?_ (by first | exact Nat.le_refl _ | (simp only [World.size_alloc]; omega)) _))) p3, cell_keep (by (repeat (first | exact (Below.refl _ _) | exact Below.refl _ _ | refine Below.drew ?_ | refine below_new ?_ _ | refine below_drewN ?_ _ | refine Below.setCell ?_ (by first | exact Nat.le_refl _ | (simp only [World.size_alloc]; omega)) _))) p4, cell_keep (by (repeat (first | exact (Below.refl _ _) | exact Below.refl _ _ | refine Below.drew ?_ | refine below_new ?_ _ | refine below_drewN ?_ _ | refine Below.setCell ?_ (by first | exact Nat.le_refl _ | (simp only [World.size_alloc]; omega)) _))) p5, cell_keep (by (repeat (first | exact (Below.refl _ _) | exact Below.refl _ _ | refine Below.drew ?_ | refine below_new ?_ _ | refine below_drewN ?_ _ | refine Below.setCell ?_ (by first | exact Nat.le_refl _ | (simp only [World.size_alloc]; omega)) _))) p6, cell_keep (by (repeat (first | exact (Below.refl _ _) | exact Below.refl _ _ | refine Below.drew ?_ | refine below_new ?_ _ | refine below_drewN ?_ _ | refine Below.setCell ?_ (by first | exact Nat.le_refl _ | (simp only [World.size_alloc]; omega)) _))) p7, cell_keep (by (repeat (first | exact (Below.refl _ _) | exact Below.refl _ _ | refine Below.drew ?_ | refine below_new ?_ _ | refine below_drewN ?_ _ | refine Below.setCell ?_ (by first | exact Nat.le_refl _ | (simp only [World.size_alloc]; omega)) _))) p8, cell_keep (by (repeat (first | exact (Below.refl _ _) | exact Below.refl _ _ | refine Below.drew ?_ | refine below_new ?_ _ | refine below_drewN ?_ _ | refine Below.setCell ?_ (by first | exact Nat.le_refl _ | (simp only [World.size_alloc]; omega)) _))) p9⟩) (fail)
  all_goals
    go_wp2_with fail
    go_ret
    have h4 := at4 w1
    exact rgx_new HT.out (by omega) B1.out (at4_below w1 _ _ _ _) (by first | exact (h4 _ _ _ _).1 | exact (h4 _ _ _ _).2.1 | exact (h4 _ _ _ _).2.2.1) (by first | exact (h4 _ _ _ _).1 | exact (h4 _ _ _ _).2.1 | exact (h4 _ _ _ _).2.2.1) (by first | exact (h4 _ _ _ _).1 | exact (h4 _ _ _ _).2.1 | exact (h4 _ _ _ _).2.2.1) (h4 _ _ _ _).2.2.2 (by omega) (by omega) (by omega) (by omega)
end Go.Proofs.Ytaefcmmjeloccaa
