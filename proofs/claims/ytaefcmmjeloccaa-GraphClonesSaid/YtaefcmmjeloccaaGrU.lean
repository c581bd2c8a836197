/- The graph's Clone: what it builds. -/
import Derived.Test.YtaefcmmjeloccaaGrR
namespace Go.Proofs.Ytaefcmmjeloccaa
open Go.RowKit

theorem Rows.kf {w w1 : World} {e : TypeId} {size : Nat} {vs : List Value} {xss : List (List Value)} {B : Nat} {ks : List TypeId} {bs : List Nat} (h : Rows w e size vs xss) (hf : KF B ks bs w w1) (he : e ∉ ks) (hb : ∀ k ∈ bs, ∀ cs fr, w.heap[k]? ≠ some (.cells cs e fr)) : Rows w1 e size vs xss :=
  h.keep fun k hk => by
    obtain ⟨c, f, h1⟩ := rows_kind h hk
    exact (hf.kept _ _ _ _ h1 he (fun hm => hb k hm c f h1)).trans h1.symm
theorem thC_snoc : ∀ {ths : List Th} {hv : List Value} (x : Th) (v : Value), hv.length = ths.length → thC (ths ++ [x]) (hv ++ [v]) = thC ths hv ++ [.bool x.live, v]
  | [], [], _, _, _ => rfl
  | h :: ths, u :: hv, x, v, e => by
    simp only [List.cons_append, thC, thC_snoc x v (by simpa using e)]
  | [], u :: hv, _, _, e => by simp at e
  | h :: ths, [], _, _, e => by simp at e
/-- A graph that is built out of another one: so many threads, so many nodes. -/
structure CI (W w : World) (kc : Nat) (c : Cfg) (G : Gr) (i j : Nat) : Prop where
  below : Below W.heap.size W w
  blk : ∃ tv nv hv ys, w.heap[kc]? = some (.cells (c.cells ++ #[tv, nv]) 60 (0, 0)) ∧ w.ownsRow W.heap.size 72 2 tv i (thC (G.thr.take i) hv) ∧ w.ownsRow W.heap.size 53 1 nv j ys ∧ hv.length = i ∧ ys.length = j ∧
    Rows w 57 2 (hv ++ ys) ((G.thr.take i).map (fun h => vls h.held) ++ (G.nod.take j).map vls) ∧ ∀ k ∈ (hv ++ ys).filterMap Value.ownBlock, W.heap.size ≤ k
  base : W.heap.size ≤ kc
theorem CI.step {W w w1 : World} {kc : Nat} {c : Cfg} {G : Gr} {i j : Nat} (h : CI W w kc c G i j) (hb : Below w.heap.size w w1) : CI W w1 kc c G i j := by
  obtain ⟨tv, nv, hv, ys, h1, h2, h3, h4, h5, h6, h7⟩ := h.blk
  exact ⟨h.below.trans (hb.mono h.below.size), ⟨tv, nv, hv, ys, Go.Proofs.Ytaefcmmjeloccaa.keep hb h1, pw_own_keep h2 hb, pw_own_keep h3 hb, h4, h5, h6.keep fun k hk => hb.block k (h6.lt k hk), h7⟩, h.base⟩
section
variable {W w : World} {kc : Nat} {c : Cfg} {G : Gr} {i j : Nat}
theorem CI.mid (h : CI W w kc c G i j) {w5 w7 : World} {o : Obj} {v : Value} {e size n : Nat} {xs : List Value}
    (h5 : Below w.heap.size w w5) (hg : (w5.alloc o).grownBy w7 v.ownBlock) (hown : w.ownsRow W.heap.size e size v n xs) : KF W.heap.size [e] [] w w7 := by
  have hs := h.below.size
  have h6 : Below w.heap.size w (w5.alloc o) := below_new h5 o
  exact (KF.of_below h6 hs).trans (KF.grown hg (Nat.le_trans hs h6.size) (own_kf (pw_own_keep hown h6)))
theorem CI.set (h : CI W w kc c G i j) {w7 : World} {k : Nat} {x : Value} : KF W.heap.size [] [kc] w7 (w7.setCell ⟨kc, k, none⟩ x) := KF.setCell (KF.refl _ _ _ _) (p := ⟨kc, k, none⟩) h.base (by simp) x
theorem kind_not {w' : World} {kc k : Nat} {cs : Array Value} {T : TypeId} {fr : Nat × Nat} {cs' : Array Value} {T' : TypeId} (h1 : w'.heap[kc]? = some (.cells cs' T' (0, 0))) (hk : w'.heap[k]? = some (.cells cs T fr)) (hT : T ≠ T') : k ∉ [kc] := fun hm => by
  rw [List.mem_singleton.1 hm] at hk
  exact kind_ne hk h1 hT rfl
/-- One thread more. -/
theorem CI.thread (h : CI W w kc c G i 0) (hi : i < G.thr.length) {w5 w7 : World} {tv nv x tv' : Value} {hv ys : List Value} {l : List Vl} (hl : l = (G.thr.getD i Th.none).held) (hkc : w.heap[kc]? = some (.cells (c.cells ++ #[tv, nv]) 60 (0, 0)))
    (hown : w.ownsRow W.heap.size 72 2 tv i (thC (G.thr.take i) hv)) (hn : w.ownsRow W.heap.size 53 1 nv 0 ys) (hhl : hv.length = i) (hyl : ys.length = 0)
    (hrows : Rows w 57 2 (hv ++ ys) ((G.thr.take i).map (fun h => vls h.held) ++ (G.nod.take 0).map vls)) (hbase : ∀ k ∈ (hv ++ ys).filterMap Value.ownBlock, W.heap.size ≤ k)
    (hx : w5.ownsRow w.heap.size 57 2 x l.length (vls l)) (h5 : Below w.heap.size w w5) {o : Obj} (hg : (w5.alloc o).grownBy w7 tv.ownBlock)
    (hown' : w7.ownsRow W.heap.size 72 2 tv' (i + 1) (thC (G.thr.take i) hv ++ [.bool (G.thr.getD i Th.none).live, x])) :
    CI W (w7.setCell ⟨kc, 10, none⟩ tv') kc c G (i + 1) 0 := by
  have k7 := h.mid h5 hg hown
  have ks := h.set (w7 := w7) (k := 10) (x := tv')
  have k0 : KF W.heap.size [72] [kc] w (w7.setCell ⟨kc, 10, none⟩ tv') := (k7.mono (fun _ h => h) (fun _ h => absurd h (by simp))).trans (ks.mono (fun _ h => absurd h (by simp)) (fun _ h => h))
  have hkc7 := k7.kept _ _ _ _ hkc (by decide) (by simp)
  have hs := h.below.size
  have hb6 : W.heap.size ≤ (w5.alloc o).heap.size := Nat.le_trans hs (Nat.le_trans h5.size (by simp))
  have hk67 := KF.grown (ks := [72]) (bs := []) hg hb6 (own_kf (pw_own_keep hown (below_new h5 _)))
  have hx7 : w7.ownsRow w.heap.size 57 2 x l.length (vls l) := hk67.own (hx.alloc _) (by decide) (by simp)
  have hxf : Own (w7.setCell ⟨kc, 10, none⟩ tv') 57 2 l.length x (vls l) := own_mono (ks.own hx7 (by simp) fun k hk => by
    obtain ⟨_, cs, T, fr, h1, h2⟩ := own_kf hx7 k hk
    exact kind_not hkc7 h1 (by rw [List.mem_singleton.1 h2]; decide)) (Nat.zero_le _)
  obtain rfl : ys = [] := List.eq_nil_of_length_eq_zero hyl
  have e : G.thr.take (i + 1) = G.thr.take i ++ [G.thr.getD i Th.none] := by
    rw [List.take_add_one, List.getD_eq_getElem?_getD, List.getElem?_eq_getElem hi]; rfl
  have hlen : (G.thr.take i).length = i := by simp; omega
  simp only [List.append_nil, List.take_zero, List.map_nil] at hrows hbase
  have hfresh : ∀ k, x.ownBlock = some k → w.heap.size ≤ k := fun k hk => (own_kf hx k hk).1
  refine ⟨h.below.trans k0.below, ⟨tv', nv, hv ++ [x], [], ?_, ?_, k0.own hn (by decide) (fun k hk => ?_), by simp [hhl], rfl, ?_, ?_⟩, h.base⟩
  · have := heap_setCell_same w7 kc 10 _ _ tv' hkc7
    rw [this]; rfl
  · rw [e, thC_snoc _ _ (by rw [hhl, hlen])]
    exact ks.own hown' (by simp) fun k hk => by
      obtain ⟨_, cs, T, fr, h1, h2⟩ := own_kf hown' k hk
      exact kind_not hkc7 h1 (by rw [List.mem_singleton.1 h2]; decide)
  · obtain ⟨_, cs, T, fr, h1, h2⟩ := own_kf hn k hk
    exact kind_not hkc h1 (by rw [List.mem_singleton.1 h2]; decide)
  · rw [e, List.map_append]
    simp only [List.append_nil, List.take_zero, List.map_nil, List.map_cons]
    rw [← hl]
    refine (hrows.kf k0 (by decide) fun k hk cs fr h1 => ?_).add hxf fun k hk hm => ?_
    · rw [List.mem_singleton.1 hk] at h1
      exact kind_ne hkc h1 (by decide) rfl
    · have h1 := hfresh k hk
      have h2 := hrows.lt k hm
      omega
  · intro k hk
    simp only [List.append_nil, List.filterMap_append, List.mem_append] at hk
    rcases hk with hk | hk
    · exact hbase k hk
    · obtain ⟨v, hv1, hv2⟩ := List.mem_filterMap.1 hk
      rw [List.mem_singleton.1 hv1] at hv2
      have := hfresh k hv2
      omega
/-- One node more. -/
theorem CI.node (h : CI W w kc c G i j) (hj : j < G.nod.length) {w5 w7 : World} {tv nv x nv' : Value} {hv ys : List Value} {l : List Vl} (hl : l = G.nod.getD j []) (hkc : w.heap[kc]? = some (.cells (c.cells ++ #[tv, nv]) 60 (0, 0)))
    (ht : w.ownsRow W.heap.size 72 2 tv i (thC (G.thr.take i) hv)) (hown : w.ownsRow W.heap.size 53 1 nv j ys) (hhl : hv.length = i) (hyl : ys.length = j)
    (hrows : Rows w 57 2 (hv ++ ys) ((G.thr.take i).map (fun h => vls h.held) ++ (G.nod.take j).map vls)) (hbase : ∀ k ∈ (hv ++ ys).filterMap Value.ownBlock, W.heap.size ≤ k)
    (hx : w5.ownsRow w.heap.size 57 2 x l.length (vls l)) (h5 : Below w.heap.size w w5) {o : Obj} (hg : (w5.alloc o).grownBy w7 nv.ownBlock)
    (hown' : w7.ownsRow W.heap.size 53 1 nv' (j + 1) (ys ++ [x])) :
    CI W (w7.setCell ⟨kc, 11, none⟩ nv') kc c G i (j + 1) := by
  have k7 := h.mid h5 hg hown
  have ks := h.set (w7 := w7) (k := 11) (x := nv')
  have k0 : KF W.heap.size [53] [kc] w (w7.setCell ⟨kc, 11, none⟩ nv') := (k7.mono (fun _ h => h) (fun _ h => absurd h (by simp))).trans (ks.mono (fun _ h => absurd h (by simp)) (fun _ h => h))
  have hkc7 := k7.kept _ _ _ _ hkc (by decide) (by simp)
  have hs := h.below.size
  have hb6 : W.heap.size ≤ (w5.alloc o).heap.size := Nat.le_trans hs (Nat.le_trans h5.size (by simp))
  have hk67 := KF.grown (ks := [53]) (bs := []) hg hb6 (own_kf (pw_own_keep hown (below_new h5 _)))
  have hx7 : w7.ownsRow w.heap.size 57 2 x l.length (vls l) := hk67.own (hx.alloc _) (by decide) (by simp)
  have hxf : Own (w7.setCell ⟨kc, 11, none⟩ nv') 57 2 l.length x (vls l) := own_mono (ks.own hx7 (by simp) fun k hk => by
    obtain ⟨_, cs, T, fr, h1, h2⟩ := own_kf hx7 k hk
    exact kind_not hkc7 h1 (by rw [List.mem_singleton.1 h2]; decide)) (Nat.zero_le _)
  have e : G.nod.take (j + 1) = G.nod.take j ++ [G.nod.getD j []] := by
    rw [List.take_add_one, List.getD_eq_getElem?_getD, List.getElem?_eq_getElem hj]; rfl
  have hfresh : ∀ k, x.ownBlock = some k → w.heap.size ≤ k := fun k hk => (own_kf hx k hk).1
  refine ⟨h.below.trans k0.below, ⟨tv, nv', hv, ys ++ [x], ?_, k0.own ht (by decide) (fun k hk => ?_), ks.own hown' (by simp) (fun k hk => ?_), hhl, by simp [hyl], ?_, ?_⟩, h.base⟩
  · have := heap_setCell_same w7 kc 11 _ _ nv' hkc7
    rw [this]; rfl
  · obtain ⟨_, cs, T, fr, h1, h2⟩ := own_kf ht k hk
    exact kind_not hkc h1 (by rw [List.mem_singleton.1 h2]; decide)
  · obtain ⟨_, cs, T, fr, h1, h2⟩ := own_kf hown' k hk
    exact kind_not hkc7 h1 (by rw [List.mem_singleton.1 h2]; decide)
  · rw [e, List.map_append, ← List.append_assoc, ← List.append_assoc]
    simp only [List.map_cons, List.map_nil]
    rw [← hl]
    refine (hrows.kf k0 (by decide) fun k hk cs fr h1 => ?_).add hxf fun k hk hm => ?_
    · rw [List.mem_singleton.1 hk] at h1
      exact kind_ne hkc h1 (by decide) rfl
    · have h1 := hfresh k hk
      have h2 := hrows.lt k hm
      omega
  · intro k hk
    rw [← List.append_assoc, List.filterMap_append, List.mem_append] at hk
    rcases hk with hk | hk
    · exact hbase k hk
    · obtain ⟨v, hv1, hv2⟩ := List.mem_filterMap.1 hk
      rw [List.mem_singleton.1 hv1] at hv2
      have := hfresh k hv2
      omega
/-- All of it. -/
theorem CI.whole (h : CI W w kc c G G.thr.length G.nod.length) (hg : G.Good) : ∃ fp, GA W.heap.size w kc c G fp := by
  obtain ⟨tv, nv, hv, ys, h1, h2, h3, h4, h5, h6, h7⟩ := h.blk
  rw [List.take_length] at h2 h6
  rw [List.take_length] at h6
  have k2 := own_mono h2 (Nat.zero_le _)
  have k3 := own_mono h3 (Nat.zero_le _)
  obtain ⟨tb, tcap, rfl⟩ := own_pos k2 (by have := hg.one; omega)
  obtain ⟨nb, ncap, rfl⟩ := own_pos k3 (by have := hg.some; omega)
  refine ⟨_, tb, tcap, nb, ncap, hv, ys, ⟨h1, k2, k3, h4, h6⟩, rfl, fun k hk => ?_⟩
  simp only [fpOf, List.mem_cons] at hk
  rcases hk with rfl | rfl | rfl | hk
  · exact h.base
  · exact (own_kf h2 _ rfl).1
  · exact (own_kf h3 _ rfl).1
  · exact h7 k hk
end
end Go.Proofs.Ytaefcmmjeloccaa
