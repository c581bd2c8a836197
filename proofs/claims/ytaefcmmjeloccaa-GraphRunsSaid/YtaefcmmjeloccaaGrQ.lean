import Derived.Test.YtaefcmmjeloccaaGrO
namespace Go.Proofs.Ytaefcmmjeloccaa
open Go.RowKit

/- The graph's View. -/
/-- What View's loops keep. -/
structure VI (W w : World) (rc oc mb nx : Nat) (rs : List (List Vl)) (ns : List (Int × List Vl)) (met : List Bool) (next : List Int) : Prop where
  below : Below W.heap.size W w
  res : w.heap[rc]? = some (.cells #[.slice none 0 0, .slice none 0 0] 45 (0, 0))
  out : ∃ rv nv, w.heap[oc]? = some (.cells #[rv, nv] 45 (0, 0)) ∧ Vw w W.heap.size rv nv rs ns
  met : w.heap[mb]? = some (.cells (bvs met).toArray 4 (0, 0))
  box : Box w W.heap.size nx next
  ne : rc ≠ oc
  base : W.heap.size ≤ rc ∧ W.heap.size ≤ oc ∧ W.heap.size ≤ mb
section
variable {W w : World} {rc oc mb nx : Nat} {rs : List (List Vl)} {ns : List (Int × List Vl)} {met : List Bool} {next : List Int}
theorem VI.step (h : VI W w rc oc mb nx rs ns met next) {w1 : World} (hb : Below w.heap.size w w1) : VI W w1 rc oc mb nx rs ns met next := by
  obtain ⟨rv, nv, h1, h2⟩ := h.out
  exact ⟨h.below.trans (hb.mono h.below.size), keep hb h.res, ⟨rv, nv, keep hb h1, h2.below hb⟩, keep hb h.met, h.box.below hb, h.ne, h.base⟩
theorem VI.note (h : VI W w rc oc mb nx rs ns met next) {w1 : World} {next' : List Int} (hb : Box w1 W.heap.size nx next') (hf : KF W.heap.size [2] [nx] w w1) : VI W w1 rc oc mb nx rs ns met next' := by
  obtain ⟨rv, nv, h1, h2⟩ := h.out
  obtain ⟨nn, h3, -⟩ := h.box.has
  have ne : ∀ {k : Nat} {cs : Array Value} {T : TypeId} {fr : Nat × Nat}, w.heap[k]? = some (.cells cs T fr) → T ≠ 81 → k ∉ [nx] := fun hk hT hm => by
    rw [List.mem_singleton.1 hm] at hk
    exact kind_ne hk h3 hT rfl
  refine ⟨h.below.trans hf.below, hf.kept _ _ _ _ h.res (by decide) (ne h.res (by decide)), ⟨rv, nv, hf.kept _ _ _ _ h1 (by decide) (ne h1 (by decide)), h2.keep fun k cs T fr hT hk => ?_⟩, hf.kept _ _ _ _ h.met (by decide) (ne h.met (by decide)), hb, h.ne, h.base⟩
  rcases hT with rfl | rfl | rfl <;> exact hf.kept _ _ _ _ hk (by decide) (ne hk (by decide))
theorem VI.mid (h : VI W w rc oc mb nx rs ns met next) {w5 w7 : World} {o : Obj} {v : Value} {e size n : Nat} {xs : List Value}
    (h5 : Below w.heap.size w w5) (hg : (w5.alloc o).grownBy w7 v.ownBlock) (hown : w.ownsRow W.heap.size e size v n xs) : KF W.heap.size [e] [] w w7 := by
  have hs := h.below.size
  have h6 : Below w.heap.size w (w5.alloc o) := below_new h5 o
  exact (KF.of_below h6 hs).trans (KF.grown hg (Nat.le_trans hs h6.size) (own_kf (pw_own_keep hown h6)))
theorem VI.set (h : VI W w rc oc mb nx rs ns met next) {w7 : World} {k : Nat} {x : Value} : KF W.heap.size [] [oc] w7 (w7.setCell ⟨oc, k, none⟩ x) := KF.setCell (KF.refl _ _ _ _) (p := ⟨oc, k, none⟩) h.base.2.1 (by simp) x
/-- Roots: one more. -/
theorem VI.root (h : VI W w rc oc mb nx rs ns met next) {w5 w7 : World} {l : List Vl} {rv nv x rv' : Value} (hoc : w.heap[oc]? = some (.cells #[rv, nv] 45 (0, 0))) (hvw : Vw w W.heap.size rv nv rs ns) {b5 : Nat} (hb5 : W.heap.size ≤ b5)
    (hx : w5.ownsRow b5 57 2 x l.length (vls l)) (h5 : Below w.heap.size w w5) {o : Obj} {xs : List Value} (hg : (w5.alloc o).grownBy w7 rv.ownBlock)
    (hown : w.ownsRow W.heap.size 53 1 rv rs.length xs) (hcl : ClR w W.heap.size xs rs) (hown' : w7.ownsRow W.heap.size 53 1 rv' (rs.length + 1) (xs ++ [x])) :
    VI W (w7.setCell ⟨oc, 0, none⟩ rv') rc oc mb nx (rs ++ [l]) ns met next := by
  have k7 := h.mid h5 hg hown
  have ks := h.set (w7 := w7) (k := 0) (x := rv')
  have k0 : KF W.heap.size [53] [oc] w (w7.setCell ⟨oc, 0, none⟩ rv') := (k7.mono (fun _ h => h) (fun _ h => absurd h (by simp))).trans (ks.mono (fun _ h => absurd h (by simp)) (fun _ h => h))
  have hoc7 := k7.kept _ _ _ _ hoc (by decide) (by simp)
  have ne : ∀ {w' : World} {k : Nat} {cs : Array Value} {T : TypeId} {fr : Nat × Nat} {cs' : Array Value}, w'.heap[oc]? = some (.cells cs' 45 (0, 0)) → w'.heap[k]? = some (.cells cs T fr) → T ≠ 45 → k ∉ [oc] := fun h1 hk hT hm => by
    rw [List.mem_singleton.1 hm] at hk
    exact kind_ne hk h1 hT rfl
  obtain ⟨ys, hn1, hn2⟩ := hvw.nodes
  have hx7 : w7.ownsRow W.heap.size 57 2 x l.length (vls l) := by
    have h8 := own_mono hx hb5
    have hk := KF.grown (ks := [53]) (bs := []) hg (Nat.le_trans h.below.size (Nat.le_trans h5.size (by simp))) (own_kf (pw_own_keep hown (below_new h5 _)))
    exact hk.own (h8.alloc _) (by decide) (by simp)
  refine ⟨h.below.trans k0.below, k0.kept _ _ _ _ h.res (by decide) (by simpa using h.ne), ⟨rv', nv, heap_setCell_same w7 oc 0 _ _ rv' hoc7, ⟨⟨xs ++ [x], ?_, ?_⟩, ys, ?_, ?_⟩⟩, k0.kept _ _ _ _ h.met (by decide) (ne hoc h.met (by decide)), ?_, h.ne, h.base⟩
  · rw [List.length_append]
    exact ks.own hown' (by simp) fun k hk => by
      obtain ⟨_, cs, T, fr, h1, h2⟩ := own_kf hown' k hk
      exact ne hoc7 h1 (by rw [List.mem_singleton.1 h2]; decide)
  · refine (ClR.kf hcl k7 (by decide) (by simp)).add hx7 |>.kf ks (by simp) fun k hk cs fr h1 => ?_
    rw [List.mem_singleton.1 hk] at h1
    exact kind_ne hoc7 h1 (by decide) rfl
  · exact k0.own hn1 (by decide) fun k hk => by
      obtain ⟨_, cs, T, fr, h1, h2⟩ := own_kf hn1 k hk
      exact ne hoc h1 (by rw [List.mem_singleton.1 h2]; decide)
  · refine hn2.kf k0 (by decide) fun k hk cs fr h1 => ?_
    rw [List.mem_singleton.1 hk] at h1
    exact kind_ne hoc h1 (by decide) rfl
  · obtain ⟨nn, h1, -⟩ := h.box.has
    refine h.box.kf k0 (by decide) (by decide) (ne hoc h1 (by decide)) fun k cs fr hk h1 => ?_
    rw [List.mem_singleton.1 hk] at h1
    exact kind_ne hoc h1 (by decide) rfl
/-- Nodes: one more. -/
theorem VI.node (h : VI W w rc oc mb nx rs ns met next) {w5 w7 : World} {l : List Vl} {s : Int} {rv nv x nv' : Value} (hoc : w.heap[oc]? = some (.cells #[rv, nv] 45 (0, 0))) (hvw : Vw w W.heap.size rv nv rs ns) {b5 : Nat} (hb5 : W.heap.size ≤ b5)
    (hx : w5.ownsRow b5 57 2 x l.length (vls l)) (h5 : Below w.heap.size w w5) {o : Obj} {ys : List Value} (hg : (w5.alloc o).grownBy w7 nv.ownBlock)
    (hown : w.ownsRow W.heap.size 55 2 nv ns.length (ndC ns ys)) (hcl : ClR w W.heap.size ys (ns.map fun n => n.2)) (hown' : w7.ownsRow W.heap.size 55 2 nv' (ns.length + 1) (ndC ns ys ++ [.int .i64 s, x])) :
    VI W (w7.setCell ⟨oc, 1, none⟩ nv') rc oc mb nx rs (ns ++ [(s, l)]) met next := by
  have k7 := h.mid h5 hg hown
  have ks := h.set (w7 := w7) (k := 1) (x := nv')
  have k0 : KF W.heap.size [55] [oc] w (w7.setCell ⟨oc, 1, none⟩ nv') := (k7.mono (fun _ h => h) (fun _ h => absurd h (by simp))).trans (ks.mono (fun _ h => absurd h (by simp)) (fun _ h => h))
  have hoc7 := k7.kept _ _ _ _ hoc (by decide) (by simp)
  have ne : ∀ {w' : World} {k : Nat} {cs : Array Value} {T : TypeId} {fr : Nat × Nat} {cs' : Array Value}, w'.heap[oc]? = some (.cells cs' 45 (0, 0)) → w'.heap[k]? = some (.cells cs T fr) → T ≠ 45 → k ∉ [oc] := fun h1 hk hT hm => by
    rw [List.mem_singleton.1 hm] at hk
    exact kind_ne hk h1 hT rfl
  obtain ⟨xs, hn1, hn2⟩ := hvw.roots
  have hx7 : w7.ownsRow W.heap.size 57 2 x l.length (vls l) := by
    have h8 := own_mono hx hb5
    have hk := KF.grown (ks := [55]) (bs := []) hg (Nat.le_trans h.below.size (Nat.le_trans h5.size (by simp))) (own_kf (pw_own_keep hown (below_new h5 _)))
    exact hk.own (h8.alloc _) (by decide) (by simp)
  have hyl : ys.length = ns.length := by have := hcl.len; simpa using this
  refine ⟨h.below.trans k0.below, k0.kept _ _ _ _ h.res (by decide) (by simpa using h.ne), ⟨rv, nv', heap_setCell_same w7 oc 1 _ _ nv' hoc7, ⟨⟨xs, ?_, ?_⟩, ys ++ [x], ?_, ?_⟩⟩, k0.kept _ _ _ _ h.met (by decide) (ne hoc h.met (by decide)), ?_, h.ne, h.base⟩
  · exact k0.own hn1 (by decide) fun k hk => by
      obtain ⟨_, cs, T, fr, h1, h2⟩ := own_kf hn1 k hk
      exact ne hoc h1 (by rw [List.mem_singleton.1 h2]; decide)
  · refine hn2.kf k0 (by decide) fun k hk cs fr h1 => ?_
    rw [List.mem_singleton.1 hk] at h1
    exact kind_ne hoc h1 (by decide) rfl
  · rw [List.length_append, ndC_snoc _ _ hyl]
    exact ks.own hown' (by simp) fun k hk => by
      obtain ⟨_, cs, T, fr, h1, h2⟩ := own_kf hown' k hk
      exact ne hoc7 h1 (by rw [List.mem_singleton.1 h2]; decide)
  · rw [List.map_append]
    refine (ClR.kf hcl k7 (by decide) (by simp)).add hx7 |>.kf ks (by simp) fun k hk cs fr h1 => ?_
    rw [List.mem_singleton.1 hk] at h1
    exact kind_ne hoc7 h1 (by decide) rfl
  · obtain ⟨nn, h1, -⟩ := h.box.has
    refine h.box.kf k0 (by decide) (by decide) (ne hoc h1 (by decide)) fun k cs fr hk h1 => ?_
    rw [List.mem_singleton.1 hk] at h1
    exact kind_ne hoc h1 (by decide) rfl
end
/- The graph's View. -/
theorem first_step {G : Gr} {k : Nat} (hk : k < G.thr.length) : G.first (k + 1) = G.first k ++ refs (G.thr.getD k Th.none).held := by
  unfold Gr.first
  have e : G.thr.take (k + 1) = G.thr.take k ++ [G.thr.getD k Th.none] := by
    rw [List.take_add_one, List.getD_eq_getElem?_getD, List.getElem?_eq_getElem hk]; rfl
  rw [e, List.map_append, List.flatten_append, List.cons_append]
  simp
theorem first_len {G : Gr} (hg : G.Good) : ∀ k, k ≤ G.thr.length → (G.first k).length ≤ 1 + 16 * k
  | 0, _ => by simp [Gr.first]
  | k + 1, hk => by
    rw [first_step (by omega), List.length_append]
    have h1 := first_len hg k (by omega)
    have h2 := refs_len (G.thr.getD k Th.none).held
    have h3 := (hg.th (k : Int)).1
    have e : G.held (k : Int) = (G.thr.getD k Th.none).held := rfl
    rw [e] at h3
    omega
theorem roots_step {G : Gr} {k : Nat} (hk : k < G.thr.length) : (G.thr.take (k + 1)).map (fun h => h.held) = (G.thr.take k).map (fun h => h.held) ++ [(G.thr.getD k Th.none).held] := by
  have e : G.thr.take (k + 1) = G.thr.take k ++ [G.thr.getD k Th.none] := by
    rw [List.take_add_one, List.getD_eq_getElem?_getD, List.getElem?_eq_getElem hk]; rfl
  rw [e, List.map_append]; rfl
/-- Behind the alls that View begins with. -/
theorem VI.begin (w : World) (n : Nat) : VI w (((((w.alloc (.cells #[.slice none 0 0, .slice none 0 0] 45)).alloc (.cells #[.slice none 0 0, .slice none 0 0] 45)).alloc (.cells (bvs (List.replicate n false)).toArray 4)).alloc (.cells #[.int .i64 0] 2)).alloc (.cells #[.slice (some ⟨w.heap.size + 1 + 1 + 1, 0, none⟩) 1 1] 81))
    w.heap.size (w.heap.size + 1) (w.heap.size + 1 + 1) (w.heap.size + 1 + 1 + 1 + 1) [] [] (List.replicate n false) [0] := by
  obtain ⟨a0, a1, a2, a3⟩ := at4 w (.cells #[.slice none 0 0, .slice none 0 0] 45) (.cells #[.slice none 0 0, .slice none 0 0] 45) (.cells (bvs (List.replicate n false)).toArray 4) (.cells #[.int .i64 0] 2)
  have hsz : ((((w.alloc (.cells #[.slice none 0 0, .slice none 0 0] 45)).alloc (.cells #[.slice none 0 0, .slice none 0 0] 45)).alloc (.cells (bvs (List.replicate n false)).toArray 4)).alloc (.cells #[.int .i64 0] 2)).heap.size = w.heap.size + 1 + 1 + 1 + 1 := by
    have e : ∀ (W : World) (x : Obj), (W.alloc x).heap.size = W.heap.size + 1 := fun W x => by show (W.heap.push x).size = _; simp
    rw [e, e, e, e]
  have a4 := heap_alloc_new ((((w.alloc (.cells #[.slice none 0 0, .slice none 0 0] 45)).alloc (.cells #[.slice none 0 0, .slice none 0 0] 45)).alloc (.cells (bvs (List.replicate n false)).toArray 4)).alloc (.cells #[.int .i64 0] 2)) (.cells #[.slice (some ⟨w.heap.size + 1 + 1 + 1, 0, none⟩) 1 1] 81)
  rw [hsz] at a4
  refine ⟨below_new (below_new (below_new (below_new (below_alloc0 w _) _) _) _) _, keep_alloc _ a0, ⟨_, _, keep_alloc _ a1, ⟨[], ⟨rfl, .inl ⟨rfl, rfl⟩⟩, ⟨rfl, fun j hj => absurd hj (by simp)⟩⟩, [], ⟨rfl, .inl ⟨rfl, rfl⟩⟩, ⟨rfl, fun j hj => absurd hj (by simp)⟩⟩, keep_alloc _ a2, ⟨by omega, _, a4, w.heap.size + 1 + 1 + 1, 0, 1, _, rfl, by omega, keep_alloc _ a3, Nat.le_refl _, by decide, by simp, rfl⟩, by omega, by omega, by omega, by omega⟩
theorem VI.mark {W w : World} {rc oc mb nx : Nat} {rs : List (List Vl)} {ns : List (Int × List Vl)} {met : List Bool} {next : List Int} (h : VI W w rc oc mb nx rs ns met next) (k : Nat) :
    VI W (w.setCell ⟨mb, k, none⟩ (.bool true)) rc oc mb nx rs ns (met.set k true) next := by
  obtain ⟨rv, nv, h1, h2⟩ := h.out
  obtain ⟨nn, h3, -⟩ := h.box.has
  have hf : KF W.heap.size [] [mb] w (w.setCell ⟨mb, k, none⟩ (.bool true)) := KF.setCell (KF.refl _ _ _ _) (p := ⟨mb, k, none⟩) h.base.2.2 (by simp) _
  have ne : ∀ {k : Nat} {cs : Array Value} {T : TypeId} {fr : Nat × Nat}, w.heap[k]? = some (.cells cs T fr) → T ≠ 4 → k ∉ [mb] := fun hk hT hm => by
    rw [List.mem_singleton.1 hm] at hk
    exact kind_ne hk h.met hT rfl
  refine ⟨h.below.trans hf.below, hf.kept _ _ _ _ h.res (by simp) (ne h.res (by decide)), ⟨rv, nv, hf.kept _ _ _ _ h1 (by simp) (ne h1 (by decide)), h2.keep fun k cs T fr hT hk => ?_⟩, ?_, h.box.kf hf (by simp) (by simp) (ne h3 (by decide)) fun k cs fr hk h1 => ?_, h.ne, h.base⟩
  · rcases hT with rfl | rfl | rfl <;> exact hf.kept _ _ _ _ hk (by simp) (ne hk (by decide))
  · have := heap_setCell_same w mb k _ _ (.bool true) h.met
    rw [this]
    have e : ((bvs met).toArray.setIfInBounds k (.bool true)) = (bvs (met.set k true)).toArray := by
      unfold bvs
      rw [List.setIfInBounds_toArray, ← List.map_set]
    rw [e]
  · rw [List.mem_singleton.1 hk] at h1
    exact kind_ne h1 h.met (by decide) rfl
theorem VI.pop {W w : World} {rc oc mb nx : Nat} {rs : List (List Vl)} {ns : List (Int × List Vl)} {met : List Bool} {next next' : List Int} (h : VI W w rc oc mb nx rs ns met next) {v v' : Value} (hb : w.heap[nx]? = some (.cells #[v] 81 (0, 0))) (hq : Que w W.heap.size 2 v' (ivs next')) :
    VI W (w.setCell ⟨nx, 0, none⟩ v') rc oc mb nx rs ns met next' := by
  refine h.note ⟨h.box.base, v', heap_setCell_same w nx 0 _ _ v' hb, hq.keep fun g cur _ hh => (heap_setCell_other _ _ _ _ fun e => ?_).trans hh⟩ ((KF.setCell (KF.refl _ _ _ _) (p := ⟨nx, 0, none⟩) h.box.base (by simp) _))
  subst e
  exact kind_ne hh hb (by decide) rfl
theorem bvs_get {met : List Bool} {k : Nat} (hk : k < met.length) : (bvs met).toArray[k]? = some (.bool (met.getD k true)) := by
  unfold bvs
  simp [List.getD_eq_getElem?_getD, hk]
theorem seen_yes {G : Gr} {met : List Bool} {k : Nat} (h : met.getD k false = true) : G.seen met (k + 1) = G.seen met k ++ [((k : Int), G.nod.getD k [])] := by
  unfold Gr.seen
  rw [List.range_succ, List.filter_append, List.filter_cons, if_pos h, List.filter_nil, List.map_append]; rfl
theorem seen_no {G : Gr} {met : List Bool} {k : Nat} (h : met.getD k false = false) : G.seen met (k + 1) = G.seen met k := by
  unfold Gr.seen
  rw [List.range_succ, List.filter_append, List.filter_cons, if_neg (by simp only [h]; decide), List.filter_nil, List.append_nil]
theorem seen_len (G : Gr) (met : List Bool) (k : Nat) : (G.seen met k).length ≤ k := by
  unfold Gr.seen
  rw [List.length_map]
  exact Nat.le_trans (List.length_filter_le _ _) (by simp)
/-- All places of a queue are objects. -/
def Ins (n : Nat) (l : List Int) : Prop := ∀ s ∈ l, 0 ≤ s ∧ s < (n : Int)
theorem refs_in {n : Nat} {vs : List Vl} (h : ∀ v ∈ vs, VlOk n v) : Ins n (refs vs) := by
  intro s hs
  obtain ⟨v, hv, rfl⟩ := List.mem_map.1 hs
  obtain ⟨h1, h2⟩ := List.mem_filter.1 hv
  exact (h v h1).2 (by simpa using h2)
theorem Ins.app {n : Nat} {a b : List Int} (h : Ins n a) (h2 : Ins n b) : Ins n (a ++ b) := fun s hs => (List.mem_append.1 hs).elim (h s) (h2 s)
theorem first_in {G : Gr} (hg : G.Good) (k : Nat) : Ins G.nod.length (G.first k) := by
  intro s hs
  have h1 := hg.some
  rcases List.mem_cons.1 hs with rfl | hs
  · omega
  · obtain ⟨l, hl, h2⟩ := List.mem_flatten.1 hs
    obtain ⟨x, hx, rfl⟩ := List.mem_map.1 hl
    exact refs_in (hg.vals x (List.mem_of_mem_take hx)) s h2
/-- How many are not met. -/
def unmet (met : List Bool) : Nat := (met.filter fun b => !b).length
theorem unmet_all : ∀ n, unmet (List.replicate n false) = n
  | 0 => rfl
  | n + 1 => by
    have := unmet_all n
    simp only [unmet, List.replicate_succ, List.filter_cons, Bool.not_false, if_true, List.length_cons] at *
    omega
theorem unmet_set : ∀ {met : List Bool} {k : Nat}, met.getD k true = false → unmet (met.set k true) + 1 = unmet met
  | [], k, h => by simp at h
  | b :: met, 0, h => by
    have : b = false := by simpa using h
    subst this
    simp [unmet]
  | b :: met, k + 1, h => by
    have ih := unmet_set (met := met) (k := k) (by simpa using h)
    simp only [unmet, List.set_cons_succ, List.filter_cons] at *
    cases b <;> simp <;> omega
/-- What the second loop keeps, so many rounds ahead of its end. -/
structure Tr (G : Gr) (f : Nat) (met : List Bool) (next : List Int) : Prop where
  go : G.go f met next = G.met
  len : met.length = G.nod.length
  ins : Ins G.nod.length next
  fuel : unmet met * 128 + next.length ≤ f
  few : f ≤ 128000200
theorem Tr.begin {G : Gr} (hg : G.Good) : Tr G (G.nod.length * 128 + 200) (List.replicate G.nod.length false) (G.first G.thr.length) := by
  have h1 := first_len hg G.thr.length (Nat.le_refl _)
  have h2 := hg.few
  have h3 := hg.most
  exact ⟨rfl, by simp, first_in hg _, by rw [unmet_all]; omega, by omega⟩
theorem Tr.nil {G : Gr} {f : Nat} {met : List Bool} (h : Tr G f met []) : met = G.met := by
  have := h.go
  cases f <;> exact this
theorem Tr.old {G : Gr} {f : Nat} {met : List Bool} {s : Int} {next : List Int} (h : Tr G f met (s :: next)) (hs : met.getD s.toNat true = true) : ∃ f', f = f' + 1 ∧ Tr G f' met next := by
  have hf := h.fuel
  simp only [List.length_cons] at hf
  obtain ⟨f', rfl⟩ : ∃ f', f = f' + 1 := ⟨f - 1, by omega⟩
  have hgo := h.go
  rw [Gr.go, if_pos hs] at hgo
  exact ⟨f', rfl, hgo, h.len, fun x hx => h.ins x (List.mem_cons_of_mem _ hx), by omega, by have := h.few; omega⟩
theorem Tr.new {G : Gr} (hg : G.Good) {f : Nat} {met : List Bool} {s : Int} {next : List Int} (h : Tr G f met (s :: next)) (hs : met.getD s.toNat true = false) : ∃ f', f = f' + 1 ∧ Tr G f' (met.set s.toNat true) (next ++ refs (G.node s)) := by
  have hf := h.fuel
  simp only [List.length_cons] at hf
  have hu := unmet_set hs
  have h1 := refs_len (G.node s)
  have h2 := (hg.nd s).1
  obtain ⟨f', rfl⟩ : ∃ f', f = f' + 1 := ⟨f - 1, by omega⟩
  have hgo := h.go
  rw [Gr.go, if_neg (by rw [hs]; decide)] at hgo
  refine ⟨f', rfl, hgo, by rw [List.length_set]; exact h.len, Ins.app (fun x hx => h.ins x (List.mem_cons_of_mem _ hx)) (refs_in (hg.nd s).2), ?_, by have := h.few; omega⟩
  rw [List.length_append]
  omega
set_option maxHeartbeats 8000000 in
set_option maxRecDepth 100000 in
theorem gview_any {w : World} {g : Nat} {c : Cfg} {G : Gr} {tb tcap nb ncap : Nat} {hv nv : List Value} (h : Gx 60 72 w g c G tb tcap nb ncap hv nv) (hg : G.Good) :
    Calls Try.prog 15 #[.pointer (some ⟨g, 0, none⟩)] w fun e w' => ∃ rv nv, e = .returned (.agg #[rv, nv]) ∧ Vw w' w.heap.size rv nv G.vRoots G.vNodes ∧ Below w.heap.size w w' := by
  obtain ⟨-, q10, q11⟩ := h.head
  have HPOS := Lib.hid hg.some
  have h8 := hg.few
  have hm := hg.most
  have HG := Lib.hid h
  have HGD := Lib.hid hg
  have hgl := heap_lt h.blk
  clear h hg
  obtain ⟨n, hn⟩ : ∃ n, n = G.nod.length := ⟨_, rfl⟩
  obtain ⟨t, ht⟩ : ∃ t, t = G.thr.length := ⟨_, rfl⟩
  have HN := Lib.hid hn
  have HT := Lib.hid ht
  rw [← hn] at q11 hm HPOS
  rw [← ht] at q10 h8
  clear hn ht
  obtain ⟨i0, hi, hz0, hz1, hz2⟩ := info_parts info_vals
  have hi := Lib.hid hi
  have hz0 := Lib.hid hz0
  have hz1 := Lib.hid hz1
  have hz2 := Lib.hid hz2
  have mk := make_bools n hm
  have q11A := fun o => cell_keep (below_alloc0 w o) q11
  have q11B := fun o o' => cell_keep (below_alloc0 _ o') (q11A o)
  have V0 := VI.begin w n
  have q10V := cell_keep V0.below q10
  have HV0 := Lib.hid V0
  clear V0
  go_enter Try.func15, Try.ntmps15
  go_wp2_with (go_at_call 23; refine (gis_yes g _ _ _ HPOS.out _ (q11A _)).mono ?_; rintro e w4 ⟨rfl, rfl⟩)
  generalize hW : World.alloc (World.alloc (World.alloc (World.alloc (World.alloc w _) _) _) _) _ = W5 at *
  clear hW q11A q11B q10V mk
  generalize w.heap.size + 1 + 1 + 1 + 1 = nx at *
  generalize w.heap.size + 1 + 1 = mb at *
  generalize w.heap.size + 1 = oc at *
  obtain ⟨rc, hrc⟩ : ∃ rc, rc = w.heap.size := ⟨_, rfl⟩
  have HRC := Lib.hid hrc
  rw [← hrc]
  clear hrc
  go_loopw [28] (fun i wr => ∃ k : Nat, k ≤ t ∧ i = .int .i64 k ∧ Hid (VI w wr rc oc mb nx ((G.thr.take k).map fun h => h.held) [] (List.replicate n false) (G.first k))) (fun i _ => t - (intOf i).toNat)
  case atStart => exact ⟨0, by omega, rfl, by rw [HRC.out]; exact HV0⟩
  case round =>
    clear HV0
    obtain ⟨k, hk, rfl, HV⟩ := hrel
    by_cases hlt : k < t
    · have hGr := HG.out.below HV.out.below
      obtain ⟨-, r10, -⟩ := hGr.head
      rw [← HT.out] at r10
      obtain ⟨-, t1⟩ := hGr.thread (t := k) (by rw [← HT.out]; exact hlt)
      have HO := Lib.hid (hGr.heldRow (t := k) (by rw [← HT.out]; exact hlt))
      have HK : Hid (k < G.thr.length) := Lib.hid (by rw [← HT.out]; exact hlt)
      clear hGr
      have H16 : Hid ((G.thr.getD k Th.none).held.length ≤ 16) := Lib.hid (HGD.out.th (k : Int)).1
      have HFL := Lib.hid (first_len HGD.out k (by rw [← HT.out]; omega))
      have HRV := Lib.hid (HGD.out.th (k : Int)).2
      obtain ⟨l, hl⟩ : ∃ l, l = (G.thr.getD k Th.none).held := ⟨_, rfl⟩
      have HL := Lib.hid hl
      rw [← hl] at HO H16
      clear hl
      obtain ⟨hs, hhs⟩ : ∃ hs, hs = hv.getD k undef := ⟨_, rfl⟩
      rw [← hhs] at t1 HO
      have HHS := Lib.hid hhs
      clear hhs
      obtain ⟨rs, hrs⟩ : ∃ rs, rs = (G.thr.take k).map (fun h => h.held) := ⟨_, rfl⟩
      have HRS := Lib.hid hrs
      have hrl : rs.length ≤ 8 := by rw [hrs, List.length_map]; have := List.length_take_le k G.thr; omega
      rw [← hrs] at HV
      clear hrs
      obtain ⟨rv, nvv, hoc, hvw⟩ := HV.out.out
      obtain ⟨xs, hr1, hr2⟩ := hvw.roots
      have HOC := Lib.hid hoc
      have HVW := Lib.hid hvw
      have HR1 := Lib.hid hr1
      have HR2 := Lib.hid hr2
      have c0 : wr.cell? ⟨oc, 0, none⟩ = some rv := cell_of_row _ _ _ _ _ _ hoc
      have HVD : Hid (VI w wr.drew rc oc mb nx rs [] (List.replicate n false) (G.first k)) := Lib.hid (HV.out.step (Below.refl _ _).drew)
      clear hoc hvw hr1 hr2
      have i1 : (0 : Int) ≤ (k : Int) := by omega
      have i2 : (k : Int) < (t : Int) := by omega
      go_wp2_with fail
      go_region_law (first | (refine wp_append_own _ _ _ _ rfl w.heap.size 53 i0 (.slice none 0 0) 1 24 Try.underlying42 hi.out hz0.out hz1.out hz2.out rfl (by decide) _ rs.length _ rfl ((pw_own_keep HR1.out (below_next (Below.refl _ _).drew hb5)).alloc _) ⟨w5.heap.size, 0, none⟩ 1 1 [.slice p5 l.length c5] rfl rfl (cell_new _ _ _ _) (by simp [Value.oneCell']) (by unfold maxLen; omega) (by omega) (Nat.le_trans HVD.out.below.size (Nat.le_trans hb5.size (by simp))) ?_; intro v' w7 hown hgrow _; obtain ⟨d', cap', rfl⟩ := own_pos (own_mono hown (Nat.zero_le _)) (by omega); have hk7 := HVD.out.mid hb5 hgrow HR1.out; have k70 : w7.cell? ⟨oc, 0, none⟩ = some rv := cell_of_row _ _ _ _ _ _ (hk7.kept _ _ _ _ HOC.out (by decide) (by simp)); have f70 : w7.frozen? ⟨oc, 0, none⟩ = false := frozen_of_row _ _ _ _ _ (hk7.kept _ _ _ _ HOC.out (by decide) (by simp)); have hG7 := HG.out.below (HVD.out.below.trans hk7.below); have k71 := hG7.head.2.1; rw [← HT.out] at k71; have k72 := (hG7.thread HK.out).2; rw [← HHS.out] at k72; clear hk7 hG7) | (go_simp; go_at_call 38; refine (clone_any hs _ _ _ (pw_own_keep HO.out (Below.refl _ _).drew) (by have := H16.out; omega)).mono ?_; rintro e w5 ⟨s', rfl, ho5, hb5⟩; obtain ⟨p5, c5, rfl, -, -⟩ := own_slice ho5; have c05 := cell_keep hb5 c0; have r105 := cell_keep hb5 r10; have t15 := cell_keep hb5 t1; have c06 := fun o => cell_keep (below_alloc0 w5 o) c05; have r106 := fun o => cell_keep (below_alloc0 w5 o) r105; have t16 := fun o => cell_keep (below_alloc0 w5 o) t15; dsimp only))
      all_goals
        have HV8 := Lib.hid (HVD.out.root HOC.out (HVW.out.below (Below.refl _ _).drew) (Nat.le_trans HV.out.below.size (Nat.le_refl _)) ho5 hb5 hgrow HR1.out (HR2.out.keep fun _ _ _ h => h) hown)
        clear hown hgrow k70 f70 k71 k72 ho5 hb5 c05 r105 t15 c06 r106 t16 c0 r10 t1
        generalize World.setCell w7 _ _ = W8 at *
        have hG8 := HG.out.below HV8.out.below
        have r10 := hG8.head.2.1
        rw [← HT.out] at r10
        have t1 := (hG8.thread HK.out).2
        rw [← HHS.out] at t1
        have HO8 : Hid (Own W8 57 2 l.length hs (vls l)) := Lib.hid (by
          have := hG8.heldRow HK.out
          rw [← HHS.out, ← HL.out] at this
          exact this)
        clear hG8
        go_wp2_with (go_at_call 37; refine (gnote_any w.heap.size nx hs _ l (G.first k) _ HV8.out.box HO8.out (by have := H16.out; omega) (by have := HFL.out; omega)).mono ?_; rintro e w9 ⟨rfl, hbx, hkf⟩)
        go_roundw
        case rel => exact ⟨k + 1, by omega, by go_num, Lib.hid (by rw [roots_step HK.out, first_step HK.out, ← HL.out, ← HRS.out]; exact HV8.out.note hbx hkf)⟩
        case measure => simp [intOf]; omega
    · obtain rfl : k = t := by omega
      clear hk hlt
      have HV1 : Hid (VI w wr rc oc mb nx G.vRoots [] (List.replicate n false) (G.first G.thr.length)) := Lib.hid (by
        have := HV.out
        rw [HT.out, List.take_length] at this
        exact this)
      clear HV
      have HTR : Hid (Tr G (n * 128 + 200) (List.replicate n false) (G.first G.thr.length)) := Lib.hid (by rw [HN.out]; exact Tr.begin HGD.out)
      clear q10 h8
      go_wp2_with fail
      go_loopg [] (n * 128 + 200) (fun f wq => ∃ met next, Hid (VI w wq rc oc mb nx G.vRoots [] met next) ∧ Hid (Tr G f met next))
      case atStart => exact ⟨_, _, HV1, HTR⟩
      case round =>
        clear HV1 HTR
        obtain ⟨met, next, HV2, HR⟩ := hrel
        obtain ⟨bn, hbn, hq⟩ := HV2.out.box.has
        have HQ := Lib.hid hq
        obtain ⟨gq, o, qc, rfl, hqc, hqcell⟩ := hq.at
        clear hq
        have HBN := Lib.hid hbn
        have n1 : wr.cell? ⟨nx, 0, none⟩ = some (.slice (some ⟨gq, o, none⟩) (ivs next).length qc) := cell_of_row _ _ 0 _ _ _ hbn
        have n2 : wr.frozen? ⟨nx, 0, none⟩ = false := frozen_of_row _ _ _ _ _ hbn
        clear hbn
        cases next with
        | nil =>
          have hmet := HR.out.nil
          subst hmet
          clear hqcell
          have n1' : wr.cell? ⟨nx, 0, none⟩ = some (.slice (some ⟨gq, o, none⟩) 0 qc) := n1
          clear n1 HQ HBN hqc n2
          have HS0 : Hid (VI w wr rc oc mb nx G.vRoots (G.seen G.met 0) G.met []) := HV2
          have HML : Hid (G.met.length = n) := Lib.hid (by rw [HN.out]; exact HR.out.len)
          clear HV2 HR
          go_wp2_with fail
          clear n1'
          go_loopw [85] (fun i wq => ∃ k : Nat, k ≤ n ∧ i = .int .i64 k ∧ Hid (VI w wq rc oc mb nx G.vRoots (G.seen G.met k) G.met [])) (fun i _ => n - (intOf i).toNat)
          case atStart => exact ⟨0, by omega, rfl, HS0⟩
          case round =>
            clear HS0
            obtain ⟨k, hk, rfl, HV⟩ := hrel
            by_cases hlt : k < n
            · have i1 : (0 : Int) ≤ (k : Int) := by omega
              have i2 : (k : Int) < (n : Int) := by omega
              obtain ⟨b, hb⟩ : ∃ b, b = G.met.getD k false := ⟨_, rfl⟩
              have m1 : wr.cell? ⟨mb, k, none⟩ = some (.bool b) := by
                rw [cell_of_row _ _ _ _ _ _ HV.out.met, bvs_get (by rw [HML.out]; exact hlt), hb]
                have : k < G.met.length := by rw [HML.out]; exact hlt
                simp [List.getD_eq_getElem?_getD, this]
              cases b
              · have HE := Lib.hid (seen_no (G := G) hb.symm)
                clear hb
                go_wp2_with fail
                go_roundw
                case rel => exact ⟨k + 1, by omega, by go_num, by rw [HE.out]; exact HV⟩
                case measure => simp [intOf]; omega
              · have HE := Lib.hid (seen_yes (G := G) hb.symm)
                clear hb
                have hGr := HG.out.below HV.out.below
                have r11 := hGr.head.2.2
                rw [← HN.out] at r11
                obtain ⟨e1, ho1⟩ := hGr.nodeRow (s := k) (by rw [← HN.out]; exact hlt)
                obtain ⟨sv, hsv⟩ : ∃ sv, sv = nv.getD k undef := ⟨_, rfl⟩
                obtain ⟨l, hl⟩ : ∃ l, l = G.nod.getD k [] := ⟨_, rfl⟩
                rw [← hsv] at e1 ho1
                rw [← hl] at ho1 HE
                have HO := Lib.hid ho1
                have H127 : Hid (l.length ≤ 127) := Lib.hid (by rw [hl]; exact (HGD.out.nd (k : Int)).1)
                clear ho1 hl hsv hGr
                have hsl := seen_len G G.met k
                obtain ⟨ns, hns⟩ : ∃ ns, ns = G.seen G.met k := ⟨_, rfl⟩
                rw [← hns] at HV HE hsl
                clear hns
                obtain ⟨rv, nvv, hoc, hvw⟩ := HV.out.out
                obtain ⟨ys, hr1, hr2⟩ := hvw.nodes
                have HOC := Lib.hid hoc
                have HVW := Lib.hid hvw
                have HR1 := Lib.hid hr1
                have HR2 := Lib.hid hr2
                have c0 : wr.cell? ⟨oc, 1, none⟩ = some nvv := cell_of_row _ _ _ _ _ _ hoc
                have HVD : Hid (VI w wr.drew rc oc mb nx G.vRoots ns G.met []) := Lib.hid (HV.out.step (Below.refl _ _).drew)
                clear hoc hvw hr1 hr2
                obtain ⟨j0, hj, hy0, hy1, hy2⟩ := info_parts info_node
                have hj := Lib.hid hj
                have hy0 := Lib.hid hy0
                have hy1 := Lib.hid hy1
                have hy2 := Lib.hid hy2
                go_wp2_with fail
                go_region_law (first | (refine wp_append_own _ _ _ _ rfl w.heap.size 55 j0 (.agg #[.int .i64 0, .slice none 0 0]) 2 32 Try.underlying43 hj.out hy0.out hy1.out hy2.out rfl (by decide) _ ns.length _ rfl ((pw_own_keep HR1.out (below_next (Below.refl _ _).drew hb5)).alloc _) ⟨w5.heap.size, 0, none⟩ 1 1 [.int .i64 (k : Int), .slice p5 l.length c5] rfl rfl (cell_new _ _ _ _) (by simp [Value.oneCell']) (by unfold maxLen; omega) (by omega) (Nat.le_trans HVD.out.below.size (Nat.le_trans hb5.size (by simp))) ?_; intro v' w7 hown hgrow _; obtain ⟨d', cap', rfl⟩ := own_pos (own_mono hown (Nat.zero_le _)) (by omega); have hk7 := HVD.out.mid hb5 hgrow HR1.out; have k70 : w7.cell? ⟨oc, 1, none⟩ = some nvv := cell_of_row _ _ _ _ _ _ (hk7.kept _ _ _ _ HOC.out (by decide) (by simp)); have f70 : w7.frozen? ⟨oc, 1, none⟩ = false := frozen_of_row _ _ _ _ _ (hk7.kept _ _ _ _ HOC.out (by decide) (by simp)); clear hk7) | (go_simp; go_at_call 38; refine (clone_any sv _ _ _ (pw_own_keep HO.out (Below.refl _ _).drew) (by have := H127.out; omega)).mono ?_; rintro e w5 ⟨s', rfl, ho5, hb5⟩; obtain ⟨p5, c5, rfl, -, -⟩ := own_slice ho5; have c05 := cell_keep hb5 c0; have r115 := cell_keep hb5 r11; have e15 := cell_keep hb5 e1; have c06 := fun o => cell_keep (below_alloc0 w5 o) c05; have r116 := fun o => cell_keep (below_alloc0 w5 o) r115; have e16 := fun o => cell_keep (below_alloc0 w5 o) e15; dsimp only))
                all_goals
                  have HV8 := Lib.hid (HVD.out.node HOC.out (HVW.out.below (Below.refl _ _).drew) (Nat.le_trans HV.out.below.size (Nat.le_refl _)) ho5 hb5 hgrow HR1.out (HR2.out.keep fun _ _ _ h => h) hown)
                  clear hown hgrow k70 f70 ho5 hb5 c05 r115 e15 c06 r116 e16 c0 r11 e1
                  generalize World.setCell w7 _ _ = W8 at *
                  go_wp2_with fail
                  go_roundw
                  case rel => exact ⟨k + 1, by omega, by go_num, Lib.hid (by rw [HE.out]; exact HV8.out)⟩
                  case measure => simp [intOf]; omega
            · obtain rfl : k = n := by omega
              clear hk hlt
              obtain ⟨rv, nvv, hoc, hvw⟩ := HV.out.out
              obtain ⟨xs, hr1, -⟩ := hvw.roots
              obtain ⟨ys, hr2, -⟩ := hvw.nodes
              obtain ⟨p1, c1, rfl, -, -⟩ := own_slice hr1
              obtain ⟨p2, c2, rfl, -, -⟩ := own_slice hr2
              have HOC := Lib.hid hoc
              have HVW := Lib.hid hvw
              have HRES := Lib.hid HV.out.res
              have HRV := Lib.hid HV.out
              clear hoc hvw hr1 hr2
              go_wp2_with (first
                | (refine wpList_load_row rfl 45 _ rfl oc rfl 45 #[.slice p1 G.vRoots.length c1, .slice p2 (G.seen G.met k).length c2] (0, 0) _ HOC.out Try.underlying45 rfl (by kernel_rfl) ?_)
                | (refine wpList_store_row rfl 45 _ _ rfl rc #[.slice p1 G.vRoots.length c1, .slice p2 (G.seen G.met k).length c2] rfl rfl 45 _ HRES.out (by kernel_rfl) rfl (by simp [Value.oneCell']) ?_))
              refine bodyPost_ret (v := .agg #[.slice p1 G.vRoots.length c1, .slice p2 (G.seen G.met k).length c2]) (results_cell_row rfl _ _ rc 45 #[.slice p1 G.vRoots.length c1, .slice p2 (G.seen G.met k).length c2] _ _ rfl (heap_setRow_same _ HRES.out) Try.underlying45 rfl (by kernel_rfl)) rfl ?_
              exact ⟨_, _, rfl, by
                  rw [show G.vNodes = G.seen G.met k by unfold Gr.vNodes; rw [HN.out]]
                  refine HVW.out.keep fun q cs T fr hT hq => (heap_setRow_other _ _ _ _ fun e => ?_).trans hq
                  subst e
                  rcases hT with rfl | rfl | rfl <;> exact kind_ne hq HRES.out (by decide) rfl, below_setRow HRV.out.below HRV.out.base.1 _⟩
        | cons s next =>
          have hs := HR.out.ins s (by simp)
          obtain ⟨sn, rfl⟩ : ∃ sn : Nat, s = (sn : Int) := ⟨s.toNat, by omega⟩
          have hml := HR.out.len
          rw [← HN.out] at hs hml
          have hsn : sn < n := by omega
          have q0 : wr.cell? ⟨gq, o, none⟩ = some (.int .i64 (sn : Int)) := by
            have := hqcell 0 (by simp [ivs])
            simpa [ivs] using this
          have hl : (ivs ((sn : Int) :: next)).length = next.length + 1 := by simp [ivs]
          rw [hl] at n1 hqc HQ HBN
          clear hqcell hl
          have HQT : Hid (Que wr w.heap.size 2 (.slice (some ⟨gq, if qc = 1 then o else o + 1, none⟩) next.length (qc - 1)) (ivs next)) := Lib.hid (by
            have h1 : (ivs next).length = next.length := by simp [ivs]
            have h2 := HQ.out
            rw [← h1] at h2 ⊢
            exact Que.tail h2)
          obtain ⟨b, hb⟩ : ∃ b, b = met.getD sn true := ⟨_, rfl⟩
          have HB := Lib.hid hb
          have HMC : ∀ v, (wr.setCell ⟨nx, 0, none⟩ v).heap[mb]? = some (.cells (bvs met).toArray 4 (0, 0)) := fun v => (heap_setCell_other _ _ _ _ (fun e => by
            simp only at e
            have h1 := HV2.out.met
            rw [e] at h1
            exact kind_ne h1 HBN.out (by decide) rfl)).trans HV2.out.met
          have m1 : ∀ v, (wr.setCell ⟨nx, 0, none⟩ v).cell? ⟨mb, sn, none⟩ = some (.bool b) := fun v => by rw [cell_of_row _ _ _ _ _ _ (HMC v), bvs_get (by omega), hb]
          have m2 : ∀ v, (wr.setCell ⟨nx, 0, none⟩ v).frozen? ⟨mb, sn, none⟩ = false := fun v => frozen_of_row _ _ _ _ _ (HMC v)
          have HMC := Lib.hid HMC
          have j1 : (0 : Int) ≤ (sn : Int) := by omega
          have j2 : (sn : Int) < (n : Int) := by omega
          have j3 : 0 < next.length + 1 := by omega
          have j4 : (1 : Int) ≤ (next.length : Int) + 1 := by omega
          have j5 : (next.length : Int) + 1 ≤ (qc : Int) := by omega
          clear hb hs hml hqc
          by_cases hc1 : qc = 1
          · have HQ1 : Hid (Que wr w.heap.size 2 (.slice (some ⟨gq, o, none⟩) next.length 0) (ivs next)) := Lib.hid (by have := HQT.out; rw [if_pos hc1, hc1] at this; exact this)
            subst hc1
            clear HQT
            have V1 : Hid (VI w (wr.setCell ⟨nx, 0, none⟩ (.slice (some ⟨gq, o, none⟩) next.length 0)) rc oc mb nx G.vRoots [] met next) := Lib.hid (HV2.out.pop HBN.out HQ1.out)
            cases b
            · have V2 := Lib.hid (V1.out.mark sn)
              obtain ⟨f', hf', hTR⟩ := HR.out.new HGD.out HB.out.symm
              have HF' := Lib.hid hf'
              have HT' := Lib.hid hTR
              clear hf' hTR
              have hG2 := HG.out.below V2.out.below
              have r11 := hG2.head.2.2
              rw [← HN.out] at r11
              obtain ⟨e1, ho1⟩ := hG2.nodeRow (s := sn) (by rw [← HN.out]; exact hsn)
              obtain ⟨sv, hsv⟩ : ∃ sv, sv = nv.getD sn undef := ⟨_, rfl⟩
              obtain ⟨l, hl⟩ : ∃ l, l = G.nod.getD sn [] := ⟨_, rfl⟩
              rw [← hsv] at e1 ho1
              rw [← hl] at ho1
              have HL := Lib.hid hl
              have HO2 := Lib.hid ho1
              have H127 : Hid (l.length ≤ 127) := Lib.hid (by rw [hl]; exact (HGD.out.nd (sn : Int)).1)
              have HLEN : Hid (next.length ≤ 200000000) := Lib.hid (by have h1 := HT'.out.fuel; have h2 := HT'.out.few; rw [List.length_append] at h1; omega)
              clear ho1 hl hsv hG2
              go_wp2_with (go_at_call 37; refine (gnote_any w.heap.size nx sv _ l next _ V2.out.box HO2.out H127.out HLEN.out).mono ?_; rintro e w9 ⟨rfl, hbx, hkf⟩)
              go_roundg f'
              case measure => have := HF'.out; omega
              case rel => exact ⟨_, _, Lib.hid (V2.out.note hbx hkf), Lib.hid (by have := HT'.out; rw [show G.node ((sn : Nat) : Int) = l from HL.out.symm] at this; exact this)⟩
            · obtain ⟨f', hf', hTR⟩ := HR.out.old HB.out.symm
              have HF' := Lib.hid hf'
              have HT' := Lib.hid hTR
              clear hf' hTR
              go_wp2_with fail
              go_roundg f'
              case measure => have := HF'.out; omega
              case rel => exact ⟨_, _, V1, HT'⟩
          · have HQ1 : Hid (Que wr w.heap.size 2 (.slice (some ⟨gq, o + 1, none⟩) next.length (qc - 1)) (ivs next)) := Lib.hid (by have := HQT.out; rw [if_neg hc1] at this; exact this)
            clear HQT
            have j6 : decide (qc = 1) = false := by simpa using hc1
            have j7 : (1 : Int) < (qc : Int) := by omega
            have V1 : Hid (VI w (wr.setCell ⟨nx, 0, none⟩ (.slice (some ⟨gq, o + 1, none⟩) next.length (qc - 1))) rc oc mb nx G.vRoots [] met next) := Lib.hid (HV2.out.pop HBN.out HQ1.out)
            cases b
            · have V2 := Lib.hid (V1.out.mark sn)
              obtain ⟨f', hf', hTR⟩ := HR.out.new HGD.out HB.out.symm
              have HF' := Lib.hid hf'
              have HT' := Lib.hid hTR
              clear hf' hTR
              have hG2 := HG.out.below V2.out.below
              have r11 := hG2.head.2.2
              rw [← HN.out] at r11
              obtain ⟨e1, ho1⟩ := hG2.nodeRow (s := sn) (by rw [← HN.out]; exact hsn)
              obtain ⟨sv, hsv⟩ : ∃ sv, sv = nv.getD sn undef := ⟨_, rfl⟩
              obtain ⟨l, hl⟩ : ∃ l, l = G.nod.getD sn [] := ⟨_, rfl⟩
              rw [← hsv] at e1 ho1
              rw [← hl] at ho1
              have HL := Lib.hid hl
              have HO2 := Lib.hid ho1
              have H127 : Hid (l.length ≤ 127) := Lib.hid (by rw [hl]; exact (HGD.out.nd (sn : Int)).1)
              have HLEN : Hid (next.length ≤ 200000000) := Lib.hid (by have h1 := HT'.out.fuel; have h2 := HT'.out.few; rw [List.length_append] at h1; omega)
              clear ho1 hl hsv hG2
              go_wp2_with (go_at_call 37; refine (gnote_any w.heap.size nx sv _ l next _ V2.out.box HO2.out H127.out HLEN.out).mono ?_; rintro e w9 ⟨rfl, hbx, hkf⟩)
              go_roundg f'
              case measure => have := HF'.out; omega
              case rel => exact ⟨_, _, Lib.hid (V2.out.note hbx hkf), Lib.hid (by have := HT'.out; rw [show G.node ((sn : Nat) : Int) = l from HL.out.symm] at this; exact this)⟩
            · obtain ⟨f', hf', hTR⟩ := HR.out.old HB.out.symm
              have HF' := Lib.hid hf'
              have HT' := Lib.hid hTR
              clear hf' hTR
              go_wp2_with fail
              go_roundg f'
              case measure => have := HF'.out; omega
              case rel => exact ⟨_, _, V1, HT'⟩
end Go.Proofs.Ytaefcmmjeloccaa
