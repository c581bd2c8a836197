/- The graph's New, Made. -/
import Derived.Test.YtaefcmmjeloccaaGrK
import Derived.Test.YtaefcmmjeloccaaCfg3
import Derived.Test.YtaefcmmjeloccaaGrD
namespace Go.Proofs.Ytaefcmmjeloccaa
open Go.RowKit

def Gr.fresh (c : Cfg) : Gr := ⟨List.replicate c.t.toNat Th.none, [List.replicate 4 (0, 0)]⟩
theorem Gr.fresh_good {c : Cfg} (h : c.wrong = 0) : (Gr.fresh c).Good := by
  have hf := (Cfg.wrong_zero h).1
  have ht := hf.t
  refine ⟨?_, ?_, ?_, ?_, ?_, ?_, ?_, ?_⟩
  · simp [Gr.fresh]; omega
  · simp [Gr.fresh]; omega
  · intro x hx; rw [List.eq_of_mem_replicate hx]; exact Nat.zero_le _
  · intro x hx v hv; rw [List.eq_of_mem_replicate hx] at hv; exact absurd hv (by simp [Th.none])
  · simp [Gr.fresh]
  · simp [Gr.fresh]
  · intro l hl; rw [List.mem_singleton.1 hl]; simp
  · intro l hl v hv; rw [List.mem_singleton.1 hl] at hv; rw [List.eq_of_mem_replicate hv]; exact vl_zero _
theorem cfg_cells {c : Cfg} {w : World} {k : Nat} {T : TypeId} {fr : Nat × Nat} (h : w.heap[k]? = some (.cells c.cells T fr)) : w.cell? ⟨k, 0, none⟩ = some (.int .i64 c.p) ∧ w.cell? ⟨k, 1, none⟩ = some (.int .i64 c.t) ∧ w.cell? ⟨k, 2, none⟩ = some (.int .i64 c.w) ∧ w.cell? ⟨k, 3, none⟩ = some (.int .i64 c.q) ∧ w.cell? ⟨k, 4, none⟩ = some (.int .i64 c.g) ∧ w.cell? ⟨k, 5, none⟩ = some (.int .i64 c.cap) ∧ w.cell? ⟨k, 6, none⟩ = some (.int .i64 c.tax) ∧ w.cell? ⟨k, 7, none⟩ = some (.int .i64 c.ch) ∧ w.cell? ⟨k, 8, none⟩ = some (.int .i64 c.st) ∧ w.cell? ⟨k, 9, none⟩ = some (.int .i64 c.tr) :=
  ⟨cell_of_row _ _ _ _ _ _ h, cell_of_row _ _ _ _ _ _ h, cell_of_row _ _ _ _ _ _ h, cell_of_row _ _ _ _ _ _ h, cell_of_row _ _ _ _ _ _ h, cell_of_row _ _ _ _ _ _ h, cell_of_row _ _ _ _ _ _ h, cell_of_row _ _ _ _ _ _ h, cell_of_row _ _ _ _ _ _ h, cell_of_row _ _ _ _ _ _ h⟩
theorem info_thr : (Try.prog.info? 72).map (fun i => (i.zero, i.size, i.bytes)) = some (some (.agg #[.bool false, .slice none 0 0]), 2, 32) := by kernel_rfl
theorem thC_none : ∀ n, thC (List.replicate n Th.none) (List.replicate n (.slice none 0 0)) = (List.range (n * 2)).map fun i => if i % 2 = 0 then Value.bool false else .slice none 0 0
  | 0 => rfl
  | n + 1 => by
    rw [List.replicate_succ, List.replicate_succ, show (n + 1) * 2 = n * 2 + 1 + 1 by omega, List.range_succ_eq_map, List.range_succ_eq_map]
    simp only [thC, thC_none n, List.map_cons, List.map_map]
    refine congrArg _ (congrArg _ (List.map_congr_left fun i _ => ?_))
    show _ = if (i + 1 + 1) % 2 = 0 then _ else _
    have : (i + 1 + 1) % 2 = i % 2 := by omega
    simp only [this]
theorem made_thr (n : Nat) : madeCells #[.bool false, .slice none 0 0] (n * 2) = (thC (List.replicate n Th.none) (List.replicate n (.slice none 0 0))).toArray := by
  rw [thC_none]
  apply Array.ext
  · simp [madeCells]
  · intro i h1 h2
    simp only [madeCells, Array.getElem_map, Array.getElem_range, List.getElem_toArray, List.getElem_map, List.getElem_range]
    have : i % 2 = 0 ∨ i % 2 = 1 := by omega
    show (#[Value.bool false, Value.slice none 0 0])[i % 2]! = _
    rcases this with h | h <;> rw [h] <;> rfl
theorem make_thr (n : Nat) (hn : n ≤ 8) (w : World) : (Instr.makeSlice 58 (.int .i64 (n : Int)) (.int .i64 (n : Int))).run Try.prog w = .ok (.slice (some ⟨w.heap.size, 0, none⟩) n n) (w.alloc (.cells (thC (List.replicate n Th.none) (List.replicate n (.slice none 0 0))).toArray 72)) := by
  obtain ⟨i0, hi, hz0, hz1, hz2⟩ := info_parts info_thr
  have h := run_make (P := Try.prog) w 58 72 i0 _ Try.underlying58 hi hz0 .i64 .i64 n n (by omega) (by omega) (by rw [hz2]; omega) (by omega)
  rw [hz1] at h
  rw [← made_thr]
  exact h
/-- What New comes to. -/
def NewR (GT TT : TypeId) (w w' : World) (c : Cfg) (e : Ending) : Prop :=
  ∃ g, e = .returned (.tuple #[.pointer (some ⟨g, 0, none⟩), .int .i64 0]) ∧ Below w.heap.size w w' ∧ ∃ tb tcap nb ncap hv nv, Gx GT TT w' g c (Gr.fresh c) tb tcap nb ncap hv nv ∧ ∀ k ∈ fpOf g tb nb hv nv, w.heap.size ≤ k
theorem at4 (w : World) (a b c d : Obj) : ((((w.alloc a).alloc b).alloc c).alloc d).heap[w.heap.size]? = some a ∧ ((((w.alloc a).alloc b).alloc c).alloc d).heap[w.heap.size + 1]? = some b ∧ ((((w.alloc a).alloc b).alloc c).alloc d).heap[w.heap.size + 1 + 1]? = some c ∧ ((((w.alloc a).alloc b).alloc c).alloc d).heap[w.heap.size + 1 + 1 + 1]? = some d := by
  have e : ∀ (W : World) (x : Obj), (W.alloc x).heap.size = W.heap.size + 1 := fun W x => by show (W.heap.push x).size = _; simp
  refine ⟨keep_alloc _ (keep_alloc _ (keep_alloc _ (heap_alloc_new _ _))), keep_alloc _ (keep_alloc _ (heap_two _ _ _)), keep_alloc _ ?_, ?_⟩
  · have h := heap_alloc_new ((w.alloc a).alloc b) c
    rwa [e, e] at h
  · have h := heap_alloc_new (((w.alloc a).alloc b).alloc c) d
    rwa [e, e, e] at h
theorem at4_below (w : World) (a b c d : Obj) : Below w.heap.size w ((((w.alloc a).alloc b).alloc c).alloc d).drew :=
  (below_new (below_new (below_new (below_alloc0 w a) b) c) d).drew
theorem gx_new {w1 W : World} {c : Cfg} {t : Nat} (ht : c.t = (t : Int)) (ht8 : t ≤ 8) {tb vb nb g : Nat} {w : World} (hb : Below w.heap.size w w1) (hW : Below w1.heap.size w1 W)
    (h1 : W.heap[tb]? = some (.cells (thC (List.replicate t Th.none) (List.replicate t (.slice none 0 0))).toArray 72 (0, 0)))
    (h2 : W.heap[vb]? = some (.cells (vls [(0, 0), (0, 0), (0, 0), (0, 0)]).toArray 57 (0, 0)))
    (h3 : W.heap[nb]? = some (.cells #[.slice (some ⟨vb, 0, none⟩) 4 4] 53 (0, 0)))
    (h4 : W.heap[g]? = some (.cells #[.int .i64 c.p, .int .i64 (t : Int), .int .i64 c.w, .int .i64 c.q, .int .i64 c.g, .int .i64 c.cap, .int .i64 c.tax, .int .i64 c.ch, .int .i64 c.st, .int .i64 c.tr, .slice (some ⟨tb, 0, none⟩) t t, .slice (some ⟨nb, 0, none⟩) 1 1] 60 (0, 0)))
    (k1 : w1.heap.size ≤ tb) (k2 : w1.heap.size ≤ vb) (k3 : w1.heap.size ≤ nb) (k4 : w1.heap.size ≤ g) :
    NewR 60 72 w W c (.returned (.tuple #[.pointer (some ⟨g, 0, none⟩), .int .i64 0])) := by
  have hs := hb.size
  have hl : (Gr.fresh c).thr.length = t := by simp [Gr.fresh, ht]
  have hthr : (Gr.fresh c).thr = List.replicate t Th.none := by simp [Gr.fresh, ht]
  have hfm : (List.replicate t (Value.slice none 0 0)).filterMap Value.ownBlock = [] := by
    rw [List.filterMap_eq_nil_iff]
    intro v hv
    rw [List.eq_of_mem_replicate hv]; rfl
  refine ⟨g, rfl, below_next hb hW, tb, t, nb, 1, List.replicate t (.slice none 0 0), [.slice (some ⟨vb, 0, none⟩) 4 4], ⟨?_, ?_, ?_, ?_, ?_, ?_, ?_⟩, ?_⟩
  · rw [h4, hl, ← ht]; rfl
  · rw [hl, hthr]
    have hlen : (thC (List.replicate t Th.none) (List.replicate t (.slice none 0 0))).length = t * 2 := by rw [thC_len (by simp), List.length_replicate]
    exact ⟨hlen, .inr ⟨tb, t, _, rfl, Nat.zero_le _, h1, Nat.le_refl _, by unfold maxLen; omega, by simpa using hlen, by simp [List.take_of_length_le (Nat.le_of_eq hlen)]⟩⟩
  · exact ⟨rfl, .inr ⟨nb, 1, _, rfl, Nat.zero_le _, h3, Nat.le_refl _, by decide, rfl, rfl⟩⟩
  · rw [hl]; simp
  · rw [hthr]; simp [Gr.fresh]
  · intro i hi
    rw [hthr] at hi ⊢
    simp only [List.length_append, List.length_map, List.length_replicate] at hi
    by_cases e1 : i < t
    · refine ⟨0, ?_⟩
      rw [List.getD_eq_getElem?_getD, List.getElem?_append_left (by simpa using e1), List.getD_eq_getElem?_getD, List.getElem?_append_left (by simpa using e1), List.getElem?_map, List.getElem?_replicate, List.getElem?_replicate, if_pos e1, if_pos e1]
      exact ⟨rfl, .inl ⟨rfl, rfl⟩⟩
    · have : i = t := by simp [Gr.fresh] at hi; omega
      subst this
      refine ⟨4, ?_⟩
      rw [List.getD_eq_getElem?_getD, List.getElem?_append_right (by simp), List.getD_eq_getElem?_getD, List.getElem?_append_right (by simp)]
      simp only [List.length_replicate, List.length_map, Nat.sub_self]
      exact ⟨rfl, .inr ⟨vb, 4, _, rfl, Nat.zero_le _, h2, Nat.le_refl _, by decide, rfl, rfl⟩⟩
  · rw [List.filterMap_append, hfm]; simp [Value.ownBlock]
  · intro k hk
    simp only [fpOf, List.filterMap_append, hfm, List.nil_append, List.mem_cons] at hk
    rcases hk with rfl | rfl | rfl | hk
    · omega
    · omega
    · omega
    · have : k = vb := by simpa [Value.ownBlock] using hk
      omega
set_option maxHeartbeats 2000000 in
set_option maxRecDepth 100000 in
theorem gnew_bad (c : Cfg) (hc : c.wrong ≠ 0) (w : World) :
    Calls Try.prog 7 #[.agg c.cells] w fun e w' => e = .returned (.tuple #[.pointer none, .int .i64 6]) ∧ Below w.heap.size w w' := by
  have HC : Hid (c.check = 6) := Lib.hid (by unfold Cfg.check; rw [if_neg hc])
  clear hc
  go_enter Try.func7, Try.ntmps7
  go_wp2_with (first | (go_at_call 8; refine (check_any _ _).mono ?_; rw [HC.out]; rintro e w1 ⟨rfl, hb1⟩) | (refine wpList_load_row rfl 23 _ rfl w.heap.size rfl 23 c.cells (0, 0) _ (heap_alloc_new w _) Try.underlying23 rfl (by kernel_rfl) ?_))
  go_ret2
  exact ⟨rfl, below_next (below_alloc0 w _) hb1⟩
set_option maxHeartbeats 2000000 in
set_option maxRecDepth 100000 in
theorem gnew_any (c : Cfg) (hc : c.wrong = 0) (w : World) :
    Calls Try.prog 7 #[.agg c.cells] w fun e w' => NewR 60 72 w w' c e := by
  have HC : Hid (c.check = 0) := Lib.hid (by unfold Cfg.check; rw [if_pos hc])
  have ht := (Cfg.wrong_zero hc).1.t
  have HH := Lib.hid hc
  clear hc
  obtain ⟨t, htt⟩ : ∃ t : Nat, c.t = (t : Int) := ⟨c.t.toNat, by omega⟩
  have HT := Lib.hid htt
  rw [htt] at ht
  clear htt
  have c0 := fun (w1 : World) (hb : Below w.heap.size w w1) => hb
  go_enter Try.func7, Try.ntmps7
  go_wp2_with (first | (go_at_call 8; refine (check_any _ _).mono ?_; rw [HC.out]; rintro e w1 ⟨rfl, hb1⟩) | (refine wpList_load_row rfl 23 _ rfl w.heap.size rfl 23 c.cells (0, 0) _ (heap_alloc_new w _) Try.underlying23 rfl (by kernel_rfl) ?_))
  have A1 : w1.heap[w.heap.size]? = some (.cells c.cells 23 (0, 0)) := keep hb1 (heap_alloc_new w _)
  obtain ⟨p0, p1, p2, p3, p4, p5, p6, p7, p8, p9⟩ := cfg_cells A1
  rw [HT.out] at p1
  clear A1
  have B1 := Lib.hid hb1
  have m1 := make_thr t (by omega)
  have m2 : ∀ W : World, (Instr.makeSlice 53 (.int .i64 4) (.int .i64 4)).run Try.prog W = .ok (.slice (some ⟨W.heap.size, 0, none⟩) 4 4) (W.alloc (.cells (vls (List.replicate 4 (0, 0))).toArray 57)) := make_vals 4 (by omega)
  clear hb1
  go_region_held3 (fun w' => w'.cell? ⟨w.heap.size, 0, none⟩ = some (.int .i64 c.p) ∧ w'.cell? ⟨w.heap.size, 1, none⟩ = some (.int .i64 (t : Int)) ∧ w'.cell? ⟨w.heap.size, 2, none⟩ = some (.int .i64 c.w) ∧ w'.cell? ⟨w.heap.size, 3, none⟩ = some (.int .i64 c.q) ∧ w'.cell? ⟨w.heap.size, 4, none⟩ = some (.int .i64 c.g) ∧ w'.cell? ⟨w.heap.size, 5, none⟩ = some (.int .i64 c.cap) ∧ w'.cell? ⟨w.heap.size, 6, none⟩ = some (.int .i64 c.tax) ∧ w'.cell? ⟨w.heap.size, 7, none⟩ = some (.int .i64 c.ch) ∧ w'.cell? ⟨w.heap.size, 8, none⟩ = some (.int .i64 c.st) ∧ w'.cell? ⟨w.heap.size, 9, none⟩ = some (.int .i64 c.tr)) (exact ⟨cell_keep (by (repeat (first | exact (Below.refl _ _) | exact Below.refl _ _ | refine Below.drew ?_ | refine below_new ?_ _ | refine below_drewN ?_ _ | refine Below.setCell ?_ (by first | exact Nat.le_refl _ | (simp only [World.size_alloc]; omega)) _))) p0, cell_keep (by (repeat (first | exact (Below.refl _ _) | exact Below.refl _ _ | refine Below.drew ?_ | refine below_new ?_ _ | refine below_drewN ?_ _ | refine Below.setCell ?_ (by first | exact Nat.le_refl _ | (simp only [World.size_alloc]; omega)) _))) p1, cell_keep (by (repeat (first | exact (Below.refl _ _) | exact Below.refl _ _ | refine Below.drew ?_ | refine below_new ?_ _ | refine below_drewN ?_ _ | refine Below.setCell ?_ (by first | exact Nat.le_refl _ | (simp only [World.size_alloc]; omega)) _))) p2, cell_keep (by (repeat (first | exact (Below.refl _ _) | exact Below.refl _ _ | refine Below.drew ?_ | refine below_new ?_ _ | refine below_drewN ?_ _ | refine Below.setCell ?_ (by first | exact Nat.le_refl _ | (simp only [World.size_alloc]; omega)) _))) p3, cell_keep (by (repeat (first | exact (Below.refl _ _) | exact Below.refl _ _ | refine Below.drew ?_ | refine below_new ?_ _ | refine below_drewN ?_ _ | refine Below.setCell ?_ (by first | exact Nat.le_refl _ | (simp only [World.size_alloc]; omega)) _))) p4, cell_keep (by (repeat (first | exact (Below.refl _ _) | exact Below.refl _ _ | refine Below.drew ?_ | refine below_new ?_ _ | refine below_drewN ?_ _ | refine Below.setCell ?_ (by first | exact Nat.le_refl _ | (simp only [World.size_alloc]; omega)) _))) p5, cell_keep (by (repeat (first | exact (Below.refl _ _) | exact Below.refl _ _ | refine Below.drew ?_ | refine below_new ?_ _ | refine below_drewN ?_ _ | refine Below.setCell ?_ (by first | exact Nat.le_refl _ | (simp only [World.size_alloc]; omega)) _))) p6, cell_keep (by (repeat (first | exact (Below.refl _ _) | exact Below.refl _ _ | refine Below.drew ?_ | refine below_new ?_ _ | refine below_drewN ?_ _ | refine Below.setCell ?_ (by first | exact Nat.le_refl _ | (simp only [World.size_alloc]; omega)) _))) p7, cell_keep (by (repeat (first | exact (Below.refl _ _) | exact Below.refl _ _ | refine Below.drew ?_ | refine below_new ?_ _ | refine below_drewN ?_ _ | refine Below.setCell ?_ (by first | exact Nat.le_refl _ | (simp only [World.size_alloc]; omega)) _))) p8, cell_keep (by (repeat (first | exact (Below.refl _ _) | exact Below.refl _ _ | refine Below.drew ?_ | refine below_new ?_ _ | refine below_drewN ?_ _ | refine Below.setCell ?_ (by first | exact Nat.le_refl _ | (simp only [World.size_alloc]; omega)) _))) p9⟩) (fail)
  all_goals
    go_wp2_with fail
    go_ret2
    have h4 := at4 w1
    exact gx_new HT.out (by omega) (below_next (below_alloc0 w _) B1.out) (at4_below w1 _ _ _ _) (by first | exact (h4 _ _ _ _).1 | exact (h4 _ _ _ _).2.1 | exact (h4 _ _ _ _).2.2.1) (by first | exact (h4 _ _ _ _).1 | exact (h4 _ _ _ _).2.1 | exact (h4 _ _ _ _).2.2.1) (by first | exact (h4 _ _ _ _).1 | exact (h4 _ _ _ _).2.1 | exact (h4 _ _ _ _).2.2.1) (h4 _ _ _ _).2.2.2 (by omega) (by omega) (by omega) (by omega)
end Go.Proofs.Ytaefcmmjeloccaa
