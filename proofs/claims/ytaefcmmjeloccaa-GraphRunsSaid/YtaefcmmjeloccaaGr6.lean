import Derived.Test.YtaefcmmjeloccaaGr1
import Derived.WalkSmall
namespace Go.Proofs.Ytaefcmmjeloccaa
open Go.RowKit

/- What writing a graph comes to. -/
/-- The kinds of a graph's blocks are five. -/
structure Kinds (GT TT : TypeId) : Prop where
  gt : GT ≠ TT
  gn : GT ≠ 53
  gv : GT ≠ 57
  tn : TT ≠ 53
  tv : TT ≠ 57
theorem nv_kind : (53 : TypeId) ≠ 57 := by decide
section
variable {GT TT : TypeId} {w : World} {g : Nat} {c : Cfg} {G : Gr} {tb tcap nb ncap : Nat} {hv nv : List Value}
theorem kind_ne {w : World} {k k' : Nat} {cs cs' : Array Value} {T T' : TypeId} {fr fr' : Nat × Nat} (h : w.heap[k]? = some (.cells cs T fr)) (h' : w.heap[k']? = some (.cells cs' T' fr')) (hne : T ≠ T') : k ≠ k' := by
  rintro rfl
  rw [h] at h'
  simp only [Option.some.injEq, Obj.cells.injEq] at h'
  exact hne h'.2.1
theorem own_some {w : World} {e : TypeId} {size n : Nat} {b cap : Nat} {xs : List Value} (h : Own w e size n (.slice (some ⟨b, 0, none⟩) n cap) xs) : ∃ cs fr, w.heap[b]? = some (.cells cs e fr) :=
  Lib.ownsRow_kind h b rfl
/-- Its blocks lie apart. -/
theorem Gx.apart (h : Gx GT TT w g c G tb tcap nb ncap hv nv) (K : Kinds GT TT) : g ≠ tb ∧ g ≠ nb ∧ tb ≠ nb ∧ ∀ k ∈ (hv ++ nv).filterMap Value.ownBlock, k ≠ g ∧ k ≠ tb ∧ k ≠ nb := by
  obtain ⟨c1, f1, h1⟩ := own_some h.thr
  obtain ⟨c2, f2, h2⟩ := own_some h.nod
  refine ⟨kind_ne h.blk h1 K.gt, kind_ne h.blk h2 K.gn, kind_ne h1 h2 K.tn, fun k hk => ?_⟩
  obtain ⟨c3, f3, h3⟩ := rows_kind h.rows hk
  exact ⟨(kind_ne h.blk h3 K.gv).symm, (kind_ne h1 h3 K.tv).symm, (kind_ne h2 h3 nv_kind).symm⟩
theorem mem_hv {t : Nat} {k : Nat} (ht : t < hv.length) (hk : (hv.getD t undef).ownBlock = some k) : k ∈ (hv ++ nv).filterMap Value.ownBlock := by
  rw [List.getD_eq_getElem?_getD, List.getElem?_eq_getElem ht] at hk
  exact List.mem_filterMap.2 ⟨hv[t], List.mem_append_left _ (List.getElem_mem ht), hk⟩
theorem mem_nv {t : Nat} {k : Nat} (ht : t < nv.length) (hk : (nv.getD t undef).ownBlock = some k) : k ∈ (hv ++ nv).filterMap Value.ownBlock := by
  rw [List.getD_eq_getElem?_getD, List.getElem?_eq_getElem ht] at hk
  exact List.mem_filterMap.2 ⟨nv[t], List.mem_append_right _ (List.getElem_mem ht), hk⟩
/-- A graph, turned in place or with new blocks. -/
def GTo (GT TT : TypeId) (w w' : World) (g : Nat) (c : Cfg) (G' : Gr) (fp : List Nat) : Prop :=
  ∃ tb tcap nb ncap hv nv, Gx GT TT w' g c G' tb tcap nb ncap hv nv ∧ Frm fp w w' ∧ Fresh w.heap.size fp (fpOf g tb nb hv nv)
theorem grown_refl (w : World) (row : Option Nat) : w.grownBy w row := ⟨rfl, rfl, rfl, Nat.le_refl _, fun _ _ _ => rfl⟩
theorem fresh_sub {n : Nat} {fp fp' : List Nat} (h : ∀ k ∈ fp', k ∈ fp) : Fresh n fp fp' := fun k hk => .inl (h k hk)
/-- A thread's cells turn, and what it holds. -/
theorem Gx.turn (h : Gx GT TT w g c G tb tcap nb ncap hv nv) (K : Kinds GT TT) {t : Nat} (ht : t < G.thr.length) {w1 w2 : World} {v' : Value} {x : Th} {n : Nat}
    (hg : w.grownBy w1 (hv.getD t undef).ownBlock) (ho : Own w1 57 2 n v' (vls x.held)) (hb : ∀ k, v'.ownBlock = some k → (hv.getD t undef).ownBlock = some k ∨ w.heap.size ≤ k)
    (h2 : Own w2 TT 2 G.thr.length (.slice (some ⟨tb, 0, none⟩) G.thr.length tcap) (thC (G.thr.set t x) (hv.set t v'))) (hf : Frm [tb] w1 w2) :
    Gx GT TT w2 g c (G.setT (t : Int) x) tb tcap nb ncap (hv.set t v') nv ∧ Frm (fpOf g tb nb hv nv) w w2 ∧ Fresh w.heap.size (fpOf g tb nb hv nv) (fpOf g tb nb (hv.set t v') nv) := by
  obtain ⟨a1, a2, a3, a4⟩ := h.apart K
  have hvl : t < hv.length := by rw [h.hl]; exact ht
  have hgt : ∀ k, (hv.getD t undef).ownBlock = some k → k ∈ (hv ++ nv).filterMap Value.ownBlock := fun k hk => mem_hv hvl hk
  have hgl : g < w.heap.size := heap_lt h.blk
  have hnl : nb < w.heap.size := own_blk h.nod nb rfl
  have old : ∀ k, k < w.heap.size → k ≠ tb → (hv.getD t undef).ownBlock ≠ some k → w2.heap[k]? = w.heap[k]? := fun k hk h1 h2 =>
    (hf.block k (Nat.lt_of_lt_of_le hk hg.size) (by simpa using h1)).trans (hg.block k hk (fun e => h2 e.symm))
  have hset : G.thr.map (fun h => vls h.held) ++ G.nod.map vls = G.thr.map (fun h => vls h.held) ++ G.nod.map vls := rfl
  have e1 : (hv ++ nv).getD t undef = hv.getD t undef := by
    rw [List.getD_eq_getElem?_getD, List.getElem?_append_left hvl, ← List.getD_eq_getElem?_getD]
  have hr := h.rows.set (t := t) (by simp; omega) (v' := v') (xs' := vls x.held) (by rw [e1]; exact hg) ho (by rw [e1]; exact hb)
  have e2 : (hv ++ nv).set t v' = hv.set t v' ++ nv := by rw [List.set_append, if_pos hvl]
  have e3 : (G.thr.map (fun h => vls h.held) ++ G.nod.map vls).set t (vls x.held) = (G.thr.set t x).map (fun h => vls h.held) ++ G.nod.map vls := by
    rw [List.set_append, if_pos (by simpa using ht), List.map_set]
  rw [e2, e3] at hr
  have hsub : ∀ k ∈ (hv.set t v' ++ nv).filterMap Value.ownBlock, k ∈ (hv ++ nv).filterMap Value.ownBlock ∨ w.heap.size ≤ k := by
    intro k hk
    rw [← e2] at hk
    rcases sub_set hk with h1 | h1
    · exact .inl h1
    · rcases hb k h1 with h3 | h3
      · exact .inl (hgt k h3)
      · exact .inr h3
  have htl : tb < w.heap.size := own_blk h.thr tb rfl
  refine ⟨⟨?_, ?_, ?_, ?_, ?_⟩, ?_, ?_⟩
  · have hl : (G.setT (t : Int) x).thr.length = G.thr.length := by simp [Gr.setT]
    rw [hl]
    rw [old g hgl a1 (fun e => (a4 g (hgt g e)).1 rfl)]
    exact h.blk
  · have hl : (G.setT (t : Int) x).thr.length = G.thr.length := by simp [Gr.setT]
    rw [hl]; exact h2
  · refine own_heap h.nod fun k e => ?_
    have e' : nb = k := by simpa [Value.ownBlock] using e
    subst e'
    exact old nb hnl (Ne.symm a3) (fun e => (a4 nb (hgt nb e)).2.2 rfl)
  · simp [Gr.setT, h.hl]
  · refine hr.keep fun k hk => ?_
    refine hf.block k (hr.lt k hk) ?_
    simp only [List.mem_singleton]
    rcases hsub k hk with h1 | h1
    · exact (a4 k h1).2.1
    · omega
  · refine ⟨hf.os.trans hg.os, hf.tape.trans hg.tape, hf.output.trans hg.output, Nat.le_trans hg.size hf.size, fun k hk hn => ?_⟩
    simp only [fpOf, List.mem_cons, not_or] at hn
    exact old k hk hn.2.1 (fun e => hn.2.2.2 (hgt k e))
  · intro k hk
    simp only [fpOf, List.mem_cons] at hk ⊢
    rcases hk with h1 | h1 | h1 | h1
    · exact .inl (.inl h1)
    · exact .inl (.inr (.inl h1))
    · exact .inl (.inr (.inr (.inl h1)))
    · rcases hsub k h1 with h3 | h3
      · exact .inl (.inr (.inr (.inr h3)))
      · exact .inr h3
/-- What a thread holds, turned. -/
theorem Gx.putHeld (h : Gx GT TT w g c G tb tcap nb ncap hv nv) (K : Kinds GT TT) {t : Nat} (ht : t < G.thr.length) {w1 : World} {v' : Value} {vs : List Vl} {n : Nat}
    (hg : w.grownBy w1 (hv.getD t undef).ownBlock) (ho : Own w1 57 2 n v' (vls vs)) (hb : ∀ k, v'.ownBlock = some k → (hv.getD t undef).ownBlock = some k ∨ w.heap.size ≤ k) :
    GTo GT TT w (w1.setCell ⟨tb, t * 2 + 1, none⟩ v') g c (G.setT (t : Int) ⟨(G.th (t : Int)).live, vs⟩) (fpOf g tb nb hv nv) := by
  obtain ⟨a1, a2, a3, a4⟩ := h.apart K
  have hvl : t < hv.length := by rw [h.hl]; exact ht
  have h1 : Own w1 TT 2 G.thr.length (.slice (some ⟨tb, 0, none⟩) G.thr.length tcap) (thC G.thr hv) := by
    refine own_heap h.thr fun k e => ?_
    have e' : tb = k := by simpa [Value.ownBlock] using e
    subst e'
    exact hg.block tb (own_blk h.thr tb rfl) (fun e => (a4 tb (mem_hv hvl e.symm)).2.1 rfl)
  have h2 := (h1.stored (t * 2 + 1) v').1
  have e : (thC G.thr hv).set (t * 2 + 1) v' = thC (G.thr.set t ⟨(G.th (t : Int)).live, vs⟩) (hv.set t v') := by
    rw [thC_set _ _ h.hl ht]
    congr 1
    obtain ⟨g0, _⟩ := thC_get h.hl ht
    have : (G.th (t : Int)).live = (G.thr.getD t Th.none).live := rfl
    simp only [this]
    symm
    apply List.ext_getElem?
    intro i
    rw [List.getElem?_set]
    split
    · subst_vars
      split
      · exact g0.symm
      · rename_i hlt
        rw [thC_len h.hl] at hlt
        omega
    · rfl
  rw [e] at h2
  obtain ⟨r1, r2, r3⟩ := h.turn K ht (w2 := w1.setCell ⟨tb, t * 2 + 1, none⟩ v') (x := ⟨(G.th (t : Int)).live, vs⟩) hg ho hb h2 (Frm.setCell _ (by simp) _)
  exact ⟨_, _, _, _, _, _, r1, r2, r3⟩
/-- A thread is written anew: it holds nothing. -/
theorem Gx.putThread (h : Gx GT TT w g c G tb tcap nb ncap hv nv) (K : Kinds GT TT) {t : Nat} (ht : t < G.thr.length) (b : Bool) :
    GTo GT TT w ((w.setCell ⟨tb, t * 2, none⟩ (.bool b)).setCell ⟨tb, t * 2 + 1, none⟩ (.slice none 0 0)) g c (G.setT (t : Int) ⟨b, []⟩) (fpOf g tb nb hv nv) := by
  have h2 := ((h.thr.stored (t * 2) (.bool b)).1.stored (t * 2 + 1) (.slice none 0 0)).1
  rw [show ((thC G.thr hv).set (t * 2) (.bool b)).set (t * 2 + 1) (.slice none 0 0) = thC (G.thr.set t ⟨b, []⟩) (hv.set t (.slice none 0 0)) from (thC_set ⟨b, []⟩ _ h.hl ht).symm] at h2
  obtain ⟨r1, r2, r3⟩ := h.turn K ht (w1 := w) (v' := .slice none 0 0) (x := ⟨b, []⟩) (n := 0) (grown_refl _ _) (World.ownsRow_nil _ _ _ _) (fun k hk => by simp [Value.ownBlock] at hk) h2
    ((Frm.setCell (fp := [tb]) w (p := ⟨tb, t * 2, none⟩) (by simp) _).trans (Frm.setCell (fp := [tb]) _ (p := ⟨tb, t * 2 + 1, none⟩) (by simp) _) (fresh_sub (fun _ h => h)))
  exact ⟨_, _, _, _, _, _, r1, r2, r3⟩
end
/- What writing a graph comes to: a new object, a field. -/
section
variable {GT TT : TypeId} {w : World} {g : Nat} {c : Cfg} {G : Gr} {tb tcap nb ncap : Nat} {hv nv : List Value}
/-- The graph's block with another list of objects. -/
theorem blk_set (c : Cfg) (x y z : Value) : (c.cells ++ #[x, y]).setIfInBounds 11 z = c.cells ++ #[x, z] := rfl
theorem set_map_append {α β : Type} (A : List β) (B : List α) (f : α → β) (i : Nat) (x : α) : (A ++ B.map f).set (A.length + i) (f x) = A ++ (B.set i x).map f := by
  rw [List.set_append, if_neg (by omega), Nat.add_sub_cancel_left, List.map_set]
/-- An object more. -/
theorem Gx.addNode (h : Gx GT TT w g c G tb tcap nb ncap hv nv) (K : Kinds GT TT) (n : Nat) {w1 w2 : World} {v s' : Value}
    (hb1 : Below w.heap.size w w1) (ho : Own w1 57 2 n v (vls (List.replicate n (0, 0)))) (hvn : ∀ k, v.ownBlock = some k → w.heap.size ≤ k)
    (hg : w1.grownBy w2 (some nb)) (hs : Own w2 53 1 (G.nod.length + 1) s' (nv ++ [v])) (hsb : s'.ownBlock = some nb ∨ ∃ k, s'.ownBlock = some k ∧ w1.heap.size ≤ k) :
    GTo GT TT w (w2.setCell ⟨g, 11, none⟩ s') g c (G.addN (n : Int)) (fpOf g tb nb hv nv) := by
  obtain ⟨a1, a2, a3, a4⟩ := h.apart K
  have hgl : g < w.heap.size := heap_lt h.blk
  have htl : tb < w.heap.size := own_blk h.thr tb rfl
  have hnl : nb < w.heap.size := own_blk h.nod nb rfl
  have old2 : ∀ k, k < w.heap.size → k ≠ nb → w2.heap[k]? = w.heap[k]? := fun k hk hn =>
    (hg.block k (Nat.lt_of_lt_of_le hk hb1.size) (by simpa using hn)).trans (hb1.block k hk)
  have old : ∀ k, k < w.heap.size → k ≠ nb → k ≠ g → (w2.setCell ⟨g, 11, none⟩ s').heap[k]? = w.heap[k]? := fun k hk hn hk2 =>
    (heap_setCell_other _ _ _ _ hk2).trans (old2 k hk hn)
  have hform : ∃ nb' cap', s' = .slice (some ⟨nb', 0, none⟩) (G.nod.length + 1) cap' := by
    rcases hs.2 with ⟨_, h0⟩ | ⟨g', cap', cur, hv', _⟩
    · omega
    · exact ⟨g', cap', hv'⟩
  obtain ⟨nb', cap', rfl⟩ := hform
  have hnb' : nb' = nb ∨ w1.heap.size ≤ nb' := by
    rcases hsb with h1 | ⟨k, h1, h2⟩
    · left; simpa [Value.ownBlock] using h1
    · right
      have : nb' = k := by simpa [Value.ownBlock] using h1
      omega
  have hs1 := hb1.size
  have hng : nb' ≠ g := by
    rcases hnb' with h1 | h1
    · rw [h1]; exact Ne.symm a2
    · omega
  have hvk : ∀ k, v.ownBlock = some k → w.heap.size ≤ k ∧ k < w1.heap.size ∧ k ≠ nb' := by
    intro k hk
    have h1 := hvn k hk
    have h2 := own_blk ho k hk
    refine ⟨h1, h2, ?_⟩
    rcases hnb' with h3 | h3 <;> omega
  have hrl := h.rows.lt
  have hr1 : Rows w1 57 2 (hv ++ nv) (G.thr.map (fun h => vls h.held) ++ G.nod.map vls) := h.rows.keep fun k hk => hb1.block k (hrl k hk)
  have hr2 := hr1.add ho (fun k hk hm => by have := hrl k hm; have := hvn k hk; omega)
  have hnew : ∀ k ∈ ((hv ++ nv) ++ [v]).filterMap Value.ownBlock, (k ∈ (hv ++ nv).filterMap Value.ownBlock ∨ (w.heap.size ≤ k ∧ k < w1.heap.size)) := by
    intro k hk
    rw [List.filterMap_append] at hk
    rcases List.mem_append.1 hk with h1 | h1
    · exact .inl h1
    · right
      rw [List.filterMap_cons] at h1
      split at h1
      · cases h1
      · rename_i b hb
        have e : k = b := by simpa using h1
        subst e
        exact ⟨(hvk k hb).1, (hvk k hb).2.1⟩
  have e1 : (hv ++ nv) ++ [v] = hv ++ (nv ++ [v]) := by rw [List.append_assoc]
  have e2 : (G.thr.map (fun h => vls h.held) ++ G.nod.map vls) ++ [vls (List.replicate n (0, 0))] = G.thr.map (fun h => vls h.held) ++ (G.nod ++ [List.replicate n (0, 0)]).map vls := by simp
  refine ⟨tb, tcap, nb', cap', hv, nv ++ [v], ⟨?_, ?_, ?_, ?_, ?_⟩, ?_, ?_⟩
  · have hblk : w2.heap[g]? = some (.cells (c.cells ++ #[.slice (some ⟨tb, 0, none⟩) G.thr.length tcap, .slice (some ⟨nb, 0, none⟩) G.nod.length ncap]) GT (0, 0)) := (old2 g hgl a2).trans h.blk
    have := heap_setCell_same w2 g 11 _ GT (.slice (some ⟨nb', 0, none⟩) (G.nod.length + 1) cap') hblk
    rw [this, blk_set]
    simp [Gr.addN]
  · refine own_heap h.thr fun k e => ?_
    have e' : tb = k := by simpa [Value.ownBlock] using e
    subst e'
    exact old tb htl a3 (Ne.symm a1)
  · have : (G.addN (n : Int)).nod.length = G.nod.length + 1 := by simp [Gr.addN]
    rw [this]
    refine own_heap hs fun k e => ?_
    have e' : nb' = k := by simpa [Value.ownBlock] using e
    subst e'
    exact heap_setCell_other _ _ _ _ hng
  · exact h.hl
  · rw [e1, e2] at hr2
    refine hr2.keep fun k hk => ?_
    have hkw := hr2.lt k hk
    rw [← e1] at hk
    have hkg : k ≠ g ∧ k ≠ nb := by
      rcases hnew k hk with h1 | h1
      · exact ⟨(a4 k h1).1, (a4 k h1).2.2⟩
      · constructor <;> omega
    exact (heap_setCell_other _ _ _ _ hkg.1).trans (hg.block k hkw (by simpa using hkg.2))
  · refine ⟨(hg.os.trans hb1.os), (hg.tape.trans hb1.tape), (hg.output.trans hb1.output), ?_, fun k hk hn => ?_⟩
    · have := hg.size
      have e : (w2.setCell ⟨g, 11, none⟩ (.slice (some ⟨nb', 0, none⟩) (G.nod.length + 1) cap')).heap.size = w2.heap.size := by simp
      omega
    · simp only [fpOf, List.mem_cons, not_or] at hn
      exact old k hk hn.2.2.1 hn.1
  · intro k hk
    simp only [fpOf, List.mem_cons] at hk ⊢
    rcases hk with h1 | h1 | h1 | h1
    · exact .inl (.inl h1)
    · exact .inl (.inr (.inl h1))
    · rcases hnb' with h3 | h3
      · exact .inl (.inr (.inr (.inl (h1.trans h3))))
      · exact .inr (by omega)
    · rw [← e1] at h1
      rcases hnew k h1 with h3 | h3
      · exact .inl (.inr (.inr (.inr h3)))
      · exact .inr h3.1
/-- A field is written. -/
theorem Gx.putField (h : Gx GT TT w g c G tb tcap nb ncap hv nv) (K : Kinds GT TT) {s : Nat} (hs : s < G.nod.length) {f : Nat} (hf : f < (G.nod.getD s []).length) {d cap : Nat}
    (hd : nv.getD s undef = .slice (some ⟨d, 0, none⟩) (G.nod.getD s []).length cap) (v : Vl) :
    GTo GT TT w ((w.setCell ⟨d, f * 2, none⟩ (.int .i64 v.1)).setCell ⟨d, f * 2 + 1, none⟩ (.int .i64 v.2)) g c (G.setF (s : Int) (f : Int) v) (fpOf g tb nb hv nv) := by
  obtain ⟨a1, a2, a3, a4⟩ := h.apart K
  have hnl := h.nl
  have hown := (h.nodeRow hs).2
  have hdm : d ∈ (hv ++ nv).filterMap Value.ownBlock := mem_nv (t := s) (by rw [hnl]; exact hs) (by rw [hd]; rfl)
  obtain ⟨d1, d2, d3⟩ := a4 d hdm
  rw [hd] at hown
  have ho := ((hown.stored (f * 2) (.int .i64 v.1)).1.stored (f * 2 + 1) (.int .i64 v.2)).1
  rw [show ((vls (G.nod.getD s [])).set (f * 2) (.int .i64 v.1)).set (f * 2 + 1) (.int .i64 v.2) = vls ((G.nod.getD s []).set f v) from (vls_set v hf).symm] at ho
  have e0 : (hv ++ nv).getD (G.thr.length + s) undef = nv.getD s undef := by
    rw [List.getD_eq_getElem?_getD, List.getElem?_append_right (by rw [h.hl]; omega), h.hl, Nat.add_sub_cancel_left, ← List.getD_eq_getElem?_getD]
  have hgr : w.grownBy ((w.setCell ⟨d, f * 2, none⟩ (.int .i64 v.1)).setCell ⟨d, f * 2 + 1, none⟩ (.int .i64 v.2)) (some d) :=
    ⟨rfl, rfl, rfl, by simp, fun k _ hk => by
      have hkd : k ≠ d := fun e => hk (by rw [e])
      exact (heap_setCell_other _ _ _ _ hkd).trans (heap_setCell_other _ _ _ _ hkd)⟩
  have hr := h.rows.set (t := G.thr.length + s) (by simp; omega) (v' := nv.getD s undef) (xs' := vls ((G.nod.getD s []).set f v)) (by rw [e0, hd]; exact hgr) (by rw [hd]; exact ho) (fun k hk => by rw [e0]; exact .inl hk)
  have e1 : (hv ++ nv).set (G.thr.length + s) (nv.getD s undef) = hv ++ nv := by
    rw [← e0, List.getD_eq_getElem?_getD]
    apply List.ext_getElem?
    intro i
    rw [List.getElem?_set]
    split
    · subst_vars
      split
      · rename_i hlt
        rw [List.getElem?_eq_getElem hlt]; rfl
      · rename_i hge
        rw [List.getElem?_eq_none (by omega)]
    · rfl
  have e2 : (G.thr.map (fun h => vls h.held) ++ G.nod.map vls).set (G.thr.length + s) (vls ((G.nod.getD s []).set f v)) = G.thr.map (fun h => vls h.held) ++ (G.nod.set s ((G.nod.getD s []).set f v)).map vls := by
    have := set_map_append (G.thr.map (fun h => vls h.held)) G.nod vls s ((G.nod.getD s []).set f v)
    rwa [List.length_map] at this
  rw [e1, e2] at hr
  have e3 : (G.setF (s : Int) (f : Int) v).nod = G.nod.set s ((G.nod.getD s []).set f v) := rfl
  have e4 : (G.setF (s : Int) (f : Int) v).thr = G.thr := rfl
  have e5 : (G.setF (s : Int) (f : Int) v).nod.length = G.nod.length := by rw [e3]; simp
  have old : ∀ k, k < w.heap.size → k ≠ d → ((w.setCell ⟨d, f * 2, none⟩ (.int .i64 v.1)).setCell ⟨d, f * 2 + 1, none⟩ (.int .i64 v.2)).heap[k]? = w.heap[k]? := fun k hk hkd => hgr.block k hk (by simpa using hkd)
  refine ⟨tb, tcap, nb, ncap, hv, nv, ⟨?_, ?_, ?_, ?_, ?_⟩, ?_, fresh_sub fun _ h => h⟩
  · rw [e4, e5, old g (heap_lt h.blk) (Ne.symm d1)]; exact h.blk
  · rw [e4]
    refine own_heap h.thr fun k e => ?_
    have e' : tb = k := by simpa [Value.ownBlock] using e
    subst e'
    exact old tb (own_blk h.thr tb rfl) (Ne.symm d2)
  · rw [e5]
    refine own_heap h.nod fun k e => ?_
    have e' : nb = k := by simpa [Value.ownBlock] using e
    subst e'
    exact old nb (own_blk h.nod nb rfl) (Ne.symm d3)
  · exact h.hl
  · rw [e3, e4]; exact hr
  · exact Frm.of_grown hgr fun k hk => .inl (by
      have : d = k := by simpa using hk
      subst this
      simp only [fpOf, List.mem_cons]
      exact .inr (.inr (.inr hdm)))
end
end Go.Proofs.Ytaefcmmjeloccaa
