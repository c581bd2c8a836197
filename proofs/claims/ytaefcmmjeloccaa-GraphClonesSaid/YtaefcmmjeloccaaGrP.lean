/- The graph's View. -/
import Derived.Test.YtaefcmmjeloccaaGrO
namespace Go.Proofs.Ytaefcmmjeloccaa
open Go.RowKit

/-- What View's loops keep. -/
structure VI (W w : World) (rc oc mb nx : Nat) (rs : List (List Vl)) (ns : List (Int × List Vl)) (met : List Bool) (next : List Int) : Prop where
  below : Below W.heap.size W w
  res : w.heap[rc]? = some (.cells #[.slice none 0 0, .slice none 0 0] 45 (0, 0))
  out : ∃ rv nv, w.heap[oc]? = some (.cells #[rv, nv] 45 (0, 0)) ∧ Vw w W.heap.size rv nv rs ns
  met : w.heap[mb]? = some (.cells (bvs met).toArray 4 (0, 0))
  box : Box w W.heap.size nx next
  ne : rc ≠ oc
  base : W.heap.size ≤ rc ∧ W.heap.size ≤ oc ∧ W.heap.size ≤ mb
section
variable {W w : World} {rc oc mb nx : Nat} {rs : List (List Vl)} {ns : List (Int × List Vl)} {met : List Bool} {next : List Int}
theorem VI.step (h : VI W w rc oc mb nx rs ns met next) {w1 : World} (hb : Below w.heap.size w w1) : VI W w1 rc oc mb nx rs ns met next := by
  obtain ⟨rv, nv, h1, h2⟩ := h.out
  exact ⟨h.below.trans (hb.mono h.below.size), keep hb h.res, ⟨rv, nv, keep hb h1, h2.below hb⟩, keep hb h.met, h.box.below hb, h.ne, h.base⟩
theorem VI.note (h : VI W w rc oc mb nx rs ns met next) {w1 : World} {next' : List Int} (hb : Box w1 W.heap.size nx next') (hf : KF W.heap.size [2] [nx] w w1) : VI W w1 rc oc mb nx rs ns met next' := by
  obtain ⟨rv, nv, h1, h2⟩ := h.out
  obtain ⟨nn, h3, -⟩ := h.box.has
  have ne : ∀ {k : Nat} {cs : Array Value} {T : TypeId} {fr : Nat × Nat}, w.heap[k]? = some (.cells cs T fr) → T ≠ 81 → k ∉ [nx] := fun hk hT hm => by
    rw [List.mem_singleton.1 hm] at hk
    exact kind_ne hk h3 hT rfl
  refine ⟨h.below.trans hf.below, hf.kept _ _ _ _ h.res (by decide) (ne h.res (by decide)), ⟨rv, nv, hf.kept _ _ _ _ h1 (by decide) (ne h1 (by decide)), h2.keep fun k cs T fr hT hk => ?_⟩, hf.kept _ _ _ _ h.met (by decide) (ne h.met (by decide)), hb, h.ne, h.base⟩
  rcases hT with rfl | rfl | rfl <;> exact hf.kept _ _ _ _ hk (by decide) (ne hk (by decide))
theorem VI.mid (h : VI W w rc oc mb nx rs ns met next) {w5 w7 : World} {o : Obj} {v : Value} {e size n : Nat} {xs : List Value}
    (h5 : Below w.heap.size w w5) (hg : (w5.alloc o).grownBy w7 v.ownBlock) (hown : w.ownsRow W.heap.size e size v n xs) : KF W.heap.size [e] [] w w7 := by
  have hs := h.below.size
  have h6 : Below w.heap.size w (w5.alloc o) := below_new h5 o
  exact (KF.of_below h6 hs).trans (KF.grown hg (Nat.le_trans hs h6.size) (own_kf (pw_own_keep hown h6)))
theorem VI.set (h : VI W w rc oc mb nx rs ns met next) {w7 : World} {k : Nat} {x : Value} : KF W.heap.size [] [oc] w7 (w7.setCell ⟨oc, k, none⟩ x) := KF.setCell (KF.refl _ _ _ _) (p := ⟨oc, k, none⟩) h.base.2.1 (by simp) x
/-- Roots: one more. -/
theorem VI.root (h : VI W w rc oc mb nx rs ns met next) {w5 w7 : World} {l : List Vl} {rv nv x rv' : Value} (hoc : w.heap[oc]? = some (.cells #[rv, nv] 45 (0, 0))) (hvw : Vw w W.heap.size rv nv rs ns) {b5 : Nat} (hb5 : W.heap.size ≤ b5)
    (hx : w5.ownsRow b5 57 2 x l.length (vls l)) (h5 : Below w.heap.size w w5) {o : Obj} {xs : List Value} (hg : (w5.alloc o).grownBy w7 rv.ownBlock)
    (hown : w.ownsRow W.heap.size 53 1 rv rs.length xs) (hcl : ClR w W.heap.size xs rs) (hown' : w7.ownsRow W.heap.size 53 1 rv' (rs.length + 1) (xs ++ [x])) :
    VI W (w7.setCell ⟨oc, 0, none⟩ rv') rc oc mb nx (rs ++ [l]) ns met next := by
  have k7 := h.mid h5 hg hown
  have ks := h.set (w7 := w7) (k := 0) (x := rv')
  have k0 : KF W.heap.size [53] [oc] w (w7.setCell ⟨oc, 0, none⟩ rv') := (k7.mono (fun _ h => h) (fun _ h => absurd h (by simp))).trans (ks.mono (fun _ h => absurd h (by simp)) (fun _ h => h))
  have hoc7 := k7.kept _ _ _ _ hoc (by decide) (by simp)
  have ne : ∀ {w' : World} {k : Nat} {cs : Array Value} {T : TypeId} {fr : Nat × Nat} {cs' : Array Value}, w'.heap[oc]? = some (.cells cs' 45 (0, 0)) → w'.heap[k]? = some (.cells cs T fr) → T ≠ 45 → k ∉ [oc] := fun h1 hk hT hm => by
    rw [List.mem_singleton.1 hm] at hk
    exact kind_ne hk h1 hT rfl
  obtain ⟨ys, hn1, hn2⟩ := hvw.nodes
  have hx7 : w7.ownsRow W.heap.size 57 2 x l.length (vls l) := by
    have h8 := own_mono hx hb5
    have hk := KF.grown (ks := [53]) (bs := []) hg (Nat.le_trans h.below.size (Nat.le_trans h5.size (by simp))) (own_kf (pw_own_keep hown (below_new h5 _)))
    exact hk.own (h8.alloc _) (by decide) (by simp)
  refine ⟨h.below.trans k0.below, k0.kept _ _ _ _ h.res (by decide) (by simpa using h.ne), ⟨rv', nv, heap_setCell_same w7 oc 0 _ _ rv' hoc7, ⟨⟨xs ++ [x], ?_, ?_⟩, ys, ?_, ?_⟩⟩, k0.kept _ _ _ _ h.met (by decide) (ne hoc h.met (by decide)), ?_, h.ne, h.base⟩
  · rw [List.length_append]
    exact ks.own hown' (by simp) fun k hk => by
      obtain ⟨_, cs, T, fr, h1, h2⟩ := own_kf hown' k hk
      exact ne hoc7 h1 (by rw [List.mem_singleton.1 h2]; decide)
  · refine (ClR.kf hcl k7 (by decide) (by simp)).add hx7 |>.kf ks (by simp) fun k hk cs fr h1 => ?_
    rw [List.mem_singleton.1 hk] at h1
    exact kind_ne hoc7 h1 (by decide) rfl
  · exact k0.own hn1 (by decide) fun k hk => by
      obtain ⟨_, cs, T, fr, h1, h2⟩ := own_kf hn1 k hk
      exact ne hoc h1 (by rw [List.mem_singleton.1 h2]; decide)
  · refine hn2.kf k0 (by decide) fun k hk cs fr h1 => ?_
    rw [List.mem_singleton.1 hk] at h1
    exact kind_ne hoc h1 (by decide) rfl
  · obtain ⟨nn, h1, -⟩ := h.box.has
    refine h.box.kf k0 (by decide) (by decide) (ne hoc h1 (by decide)) fun k cs fr hk h1 => ?_
    rw [List.mem_singleton.1 hk] at h1
    exact kind_ne hoc h1 (by decide) rfl
/-- Nodes: one more. -/
theorem VI.node (h : VI W w rc oc mb nx rs ns met next) {w5 w7 : World} {l : List Vl} {s : Int} {rv nv x nv' : Value} (hoc : w.heap[oc]? = some (.cells #[rv, nv] 45 (0, 0))) (hvw : Vw w W.heap.size rv nv rs ns) {b5 : Nat} (hb5 : W.heap.size ≤ b5)
    (hx : w5.ownsRow b5 57 2 x l.length (vls l)) (h5 : Below w.heap.size w w5) {o : Obj} {ys : List Value} (hg : (w5.alloc o).grownBy w7 nv.ownBlock)
    (hown : w.ownsRow W.heap.size 55 2 nv ns.length (ndC ns ys)) (hcl : ClR w W.heap.size ys (ns.map fun n => n.2)) (hown' : w7.ownsRow W.heap.size 55 2 nv' (ns.length + 1) (ndC ns ys ++ [.int .i64 s, x])) :
    VI W (w7.setCell ⟨oc, 1, none⟩ nv') rc oc mb nx rs (ns ++ [(s, l)]) met next := by
  have k7 := h.mid h5 hg hown
  have ks := h.set (w7 := w7) (k := 1) (x := nv')
  have k0 : KF W.heap.size [55] [oc] w (w7.setCell ⟨oc, 1, none⟩ nv') := (k7.mono (fun _ h => h) (fun _ h => absurd h (by simp))).trans (ks.mono (fun _ h => absurd h (by simp)) (fun _ h => h))
  have hoc7 := k7.kept _ _ _ _ hoc (by decide) (by simp)
  have ne : ∀ {w' : World} {k : Nat} {cs : Array Value} {T : TypeId} {fr : Nat × Nat} {cs' : Array Value}, w'.heap[oc]? = some (.cells cs' 45 (0, 0)) → w'.heap[k]? = some (.cells cs T fr) → T ≠ 45 → k ∉ [oc] := fun h1 hk hT hm => by
    rw [List.mem_singleton.1 hm] at hk
    exact kind_ne hk h1 hT rfl
  obtain ⟨xs, hn1, hn2⟩ := hvw.roots
  have hx7 : w7.ownsRow W.heap.size 57 2 x l.length (vls l) := by
    have h8 := own_mono hx hb5
    have hk := KF.grown (ks := [55]) (bs := []) hg (Nat.le_trans h.below.size (Nat.le_trans h5.size (by simp))) (own_kf (pw_own_keep hown (below_new h5 _)))
    exact hk.own (h8.alloc _) (by decide) (by simp)
  have hyl : ys.length = ns.length := by have := hcl.len; simpa using this
  refine ⟨h.below.trans k0.below, k0.kept _ _ _ _ h.res (by decide) (by simpa using h.ne), ⟨rv, nv', heap_setCell_same w7 oc 1 _ _ nv' hoc7, ⟨⟨xs, ?_, ?_⟩, ys ++ [x], ?_, ?_⟩⟩, k0.kept _ _ _ _ h.met (by decide) (ne hoc h.met (by decide)), ?_, h.ne, h.base⟩
  · exact k0.own hn1 (by decide) fun k hk => by
      obtain ⟨_, cs, T, fr, h1, h2⟩ := own_kf hn1 k hk
      exact ne hoc h1 (by rw [List.mem_singleton.1 h2]; decide)
  · refine hn2.kf k0 (by decide) fun k hk cs fr h1 => ?_
    rw [List.mem_singleton.1 hk] at h1
    exact kind_ne hoc h1 (by decide) rfl
  · rw [List.length_append, ndC_snoc _ _ hyl]
    exact ks.own hown' (by simp) fun k hk => by
      obtain ⟨_, cs, T, fr, h1, h2⟩ := own_kf hown' k hk
      exact ne hoc7 h1 (by rw [List.mem_singleton.1 h2]; decide)
  · rw [List.map_append]
    refine (ClR.kf hcl k7 (by decide) (by simp)).add hx7 |>.kf ks (by simp) fun k hk cs fr h1 => ?_
    rw [List.mem_singleton.1 hk] at h1
    exact kind_ne hoc7 h1 (by decide) rfl
  · obtain ⟨nn, h1, -⟩ := h.box.has
    refine h.box.kf k0 (by decide) (by decide) (ne hoc h1 (by decide)) fun k cs fr hk h1 => ?_
    rw [List.mem_singleton.1 hk] at h1
    exact kind_ne hoc h1 (by decide) rfl
end
end Go.Proofs.Ytaefcmmjeloccaa
