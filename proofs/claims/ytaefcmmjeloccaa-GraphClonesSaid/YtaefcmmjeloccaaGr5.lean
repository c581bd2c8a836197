/- What writing a graph comes to. -/
import Derived.Test.YtaefcmmjeloccaaGr1
import Derived.WalkSmall
namespace Go.Proofs.Ytaefcmmjeloccaa
open Go.RowKit

/-- The kinds of a graph's blocks are five. -/
structure Kinds (GT TT : TypeId) : Prop where
  gt : GT ≠ TT
  gn : GT ≠ 53
  gv : GT ≠ 57
  tn : TT ≠ 53
  tv : TT ≠ 57
theorem nv_kind : (53 : TypeId) ≠ 57 := by decide
section
variable {GT TT : TypeId} {w : World} {g : Nat} {c : Cfg} {G : Gr} {tb tcap nb ncap : Nat} {hv nv : List Value}
theorem kind_ne {w : World} {k k' : Nat} {cs cs' : Array Value} {T T' : TypeId} {fr fr' : Nat × Nat} (h : w.heap[k]? = some (.cells cs T fr)) (h' : w.heap[k']? = some (.cells cs' T' fr')) (hne : T ≠ T') : k ≠ k' := by
  rintro rfl
  rw [h] at h'
  simp only [Option.some.injEq, Obj.cells.injEq] at h'
  exact hne h'.2.1
theorem own_some {w : World} {e : TypeId} {size n : Nat} {b cap : Nat} {xs : List Value} (h : Own w e size n (.slice (some ⟨b, 0, none⟩) n cap) xs) : ∃ cs fr, w.heap[b]? = some (.cells cs e fr) :=
  Lib.ownsRow_kind h b rfl
/-- Its blocks lie apart. -/
theorem Gx.apart (h : Gx GT TT w g c G tb tcap nb ncap hv nv) (K : Kinds GT TT) : g ≠ tb ∧ g ≠ nb ∧ tb ≠ nb ∧ ∀ k ∈ (hv ++ nv).filterMap Value.ownBlock, k ≠ g ∧ k ≠ tb ∧ k ≠ nb := by
  obtain ⟨c1, f1, h1⟩ := own_some h.thr
  obtain ⟨c2, f2, h2⟩ := own_some h.nod
  refine ⟨kind_ne h.blk h1 K.gt, kind_ne h.blk h2 K.gn, kind_ne h1 h2 K.tn, fun k hk => ?_⟩
  obtain ⟨c3, f3, h3⟩ := rows_kind h.rows hk
  exact ⟨(kind_ne h.blk h3 K.gv).symm, (kind_ne h1 h3 K.tv).symm, (kind_ne h2 h3 nv_kind).symm⟩
theorem mem_hv {t : Nat} {k : Nat} (ht : t < hv.length) (hk : (hv.getD t undef).ownBlock = some k) : k ∈ (hv ++ nv).filterMap Value.ownBlock := by
  rw [List.getD_eq_getElem?_getD, List.getElem?_eq_getElem ht] at hk
  exact List.mem_filterMap.2 ⟨hv[t], List.mem_append_left _ (List.getElem_mem ht), hk⟩
theorem mem_nv {t : Nat} {k : Nat} (ht : t < nv.length) (hk : (nv.getD t undef).ownBlock = some k) : k ∈ (hv ++ nv).filterMap Value.ownBlock := by
  rw [List.getD_eq_getElem?_getD, List.getElem?_eq_getElem ht] at hk
  exact List.mem_filterMap.2 ⟨nv[t], List.mem_append_right _ (List.getElem_mem ht), hk⟩
/-- A graph, turned in place or with new blocks. -/
def GTo (GT TT : TypeId) (w w' : World) (g : Nat) (c : Cfg) (G' : Gr) (fp : List Nat) : Prop :=
  ∃ tb tcap nb ncap hv nv, Gx GT TT w' g c G' tb tcap nb ncap hv nv ∧ Frm fp w w' ∧ Fresh w.heap.size fp (fpOf g tb nb hv nv)
theorem grown_refl (w : World) (row : Option Nat) : w.grownBy w row := ⟨rfl, rfl, rfl, Nat.le_refl _, fun _ _ _ => rfl⟩
theorem fresh_sub {n : Nat} {fp fp' : List Nat} (h : ∀ k ∈ fp', k ∈ fp) : Fresh n fp fp' := fun k hk => .inl (h k hk)
/-- A thread's cells turn, and what it holds. -/
theorem Gx.turn (h : Gx GT TT w g c G tb tcap nb ncap hv nv) (K : Kinds GT TT) {t : Nat} (ht : t < G.thr.length) {w1 w2 : World} {v' : Value} {x : Th} {n : Nat}
    (hg : w.grownBy w1 (hv.getD t undef).ownBlock) (ho : Own w1 57 2 n v' (vls x.held)) (hb : ∀ k, v'.ownBlock = some k → (hv.getD t undef).ownBlock = some k ∨ w.heap.size ≤ k)
    (h2 : Own w2 TT 2 G.thr.length (.slice (some ⟨tb, 0, none⟩) G.thr.length tcap) (thC (G.thr.set t x) (hv.set t v'))) (hf : Frm [tb] w1 w2) :
    Gx GT TT w2 g c (G.setT (t : Int) x) tb tcap nb ncap (hv.set t v') nv ∧ Frm (fpOf g tb nb hv nv) w w2 ∧ Fresh w.heap.size (fpOf g tb nb hv nv) (fpOf g tb nb (hv.set t v') nv) := by
  obtain ⟨a1, a2, a3, a4⟩ := h.apart K
  have hvl : t < hv.length := by rw [h.hl]; exact ht
  have hgt : ∀ k, (hv.getD t undef).ownBlock = some k → k ∈ (hv ++ nv).filterMap Value.ownBlock := fun k hk => mem_hv hvl hk
  have hgl : g < w.heap.size := heap_lt h.blk
  have hnl : nb < w.heap.size := own_blk h.nod nb rfl
  have old : ∀ k, k < w.heap.size → k ≠ tb → (hv.getD t undef).ownBlock ≠ some k → w2.heap[k]? = w.heap[k]? := fun k hk h1 h2 =>
    (hf.block k (Nat.lt_of_lt_of_le hk hg.size) (by simpa using h1)).trans (hg.block k hk (fun e => h2 e.symm))
  have hset : G.thr.map (fun h => vls h.held) ++ G.nod.map vls = G.thr.map (fun h => vls h.held) ++ G.nod.map vls := rfl
  have e1 : (hv ++ nv).getD t undef = hv.getD t undef := by
    rw [List.getD_eq_getElem?_getD, List.getElem?_append_left hvl, ← List.getD_eq_getElem?_getD]
  have hr := h.rows.set (t := t) (by simp; omega) (v' := v') (xs' := vls x.held) (by rw [e1]; exact hg) ho (by rw [e1]; exact hb)
  have e2 : (hv ++ nv).set t v' = hv.set t v' ++ nv := by rw [List.set_append, if_pos hvl]
  have e3 : (G.thr.map (fun h => vls h.held) ++ G.nod.map vls).set t (vls x.held) = (G.thr.set t x).map (fun h => vls h.held) ++ G.nod.map vls := by
    rw [List.set_append, if_pos (by simpa using ht), List.map_set]
  rw [e2, e3] at hr
  have hsub : ∀ k ∈ (hv.set t v' ++ nv).filterMap Value.ownBlock, k ∈ (hv ++ nv).filterMap Value.ownBlock ∨ w.heap.size ≤ k := by
    intro k hk
    rw [← e2] at hk
    rcases sub_set hk with h1 | h1
    · exact .inl h1
    · rcases hb k h1 with h3 | h3
      · exact .inl (hgt k h3)
      · exact .inr h3
  have htl : tb < w.heap.size := own_blk h.thr tb rfl
  refine ⟨⟨?_, ?_, ?_, ?_, ?_⟩, ?_, ?_⟩
  · have hl : (G.setT (t : Int) x).thr.length = G.thr.length := by simp [Gr.setT]
    rw [hl]
    rw [old g hgl a1 (fun e => (a4 g (hgt g e)).1 rfl)]
    exact h.blk
  · have hl : (G.setT (t : Int) x).thr.length = G.thr.length := by simp [Gr.setT]
    rw [hl]; exact h2
  · refine own_heap h.nod fun k e => ?_
    have e' : nb = k := by simpa [Value.ownBlock] using e
    subst e'
    exact old nb hnl (Ne.symm a3) (fun e => (a4 nb (hgt nb e)).2.2 rfl)
  · simp [Gr.setT, h.hl]
  · refine hr.keep fun k hk => ?_
    refine hf.block k (hr.lt k hk) ?_
    simp only [List.mem_singleton]
    rcases hsub k hk with h1 | h1
    · exact (a4 k h1).2.1
    · omega
  · refine ⟨hf.os.trans hg.os, hf.tape.trans hg.tape, hf.output.trans hg.output, Nat.le_trans hg.size hf.size, fun k hk hn => ?_⟩
    simp only [fpOf, List.mem_cons, not_or] at hn
    exact old k hk hn.2.1 (fun e => hn.2.2.2 (hgt k e))
  · intro k hk
    simp only [fpOf, List.mem_cons] at hk ⊢
    rcases hk with h1 | h1 | h1 | h1
    · exact .inl (.inl h1)
    · exact .inl (.inr (.inl h1))
    · exact .inl (.inr (.inr (.inl h1)))
    · rcases hsub k h1 with h3 | h3
      · exact .inl (.inr (.inr (.inr h3)))
      · exact .inr h3
/-- What a thread holds, turned. -/
theorem Gx.putHeld (h : Gx GT TT w g c G tb tcap nb ncap hv nv) (K : Kinds GT TT) {t : Nat} (ht : t < G.thr.length) {w1 : World} {v' : Value} {vs : List Vl} {n : Nat}
    (hg : w.grownBy w1 (hv.getD t undef).ownBlock) (ho : Own w1 57 2 n v' (vls vs)) (hb : ∀ k, v'.ownBlock = some k → (hv.getD t undef).ownBlock = some k ∨ w.heap.size ≤ k) :
    GTo GT TT w (w1.setCell ⟨tb, t * 2 + 1, none⟩ v') g c (G.setT (t : Int) ⟨(G.th (t : Int)).live, vs⟩) (fpOf g tb nb hv nv) := by
  obtain ⟨a1, a2, a3, a4⟩ := h.apart K
  have hvl : t < hv.length := by rw [h.hl]; exact ht
  have h1 : Own w1 TT 2 G.thr.length (.slice (some ⟨tb, 0, none⟩) G.thr.length tcap) (thC G.thr hv) := by
    refine own_heap h.thr fun k e => ?_
    have e' : tb = k := by simpa [Value.ownBlock] using e
    subst e'
    exact hg.block tb (own_blk h.thr tb rfl) (fun e => (a4 tb (mem_hv hvl e.symm)).2.1 rfl)
  have h2 := (h1.stored (t * 2 + 1) v').1
  have e : (thC G.thr hv).set (t * 2 + 1) v' = thC (G.thr.set t ⟨(G.th (t : Int)).live, vs⟩) (hv.set t v') := by
    rw [thC_set _ _ h.hl ht]
    congr 1
    obtain ⟨g0, _⟩ := thC_get h.hl ht
    have : (G.th (t : Int)).live = (G.thr.getD t Th.none).live := rfl
    simp only [this]
    symm
    apply List.ext_getElem?
    intro i
    rw [List.getElem?_set]
    split
    · subst_vars
      split
      · exact g0.symm
      · rename_i hlt
        rw [thC_len h.hl] at hlt
        omega
    · rfl
  rw [e] at h2
  obtain ⟨r1, r2, r3⟩ := h.turn K ht (w2 := w1.setCell ⟨tb, t * 2 + 1, none⟩ v') (x := ⟨(G.th (t : Int)).live, vs⟩) hg ho hb h2 (Frm.setCell _ (by simp) _)
  exact ⟨_, _, _, _, _, _, r1, r2, r3⟩
/-- A thread is written anew: it holds nothing. -/
theorem Gx.putThread (h : Gx GT TT w g c G tb tcap nb ncap hv nv) (K : Kinds GT TT) {t : Nat} (ht : t < G.thr.length) (b : Bool) :
    GTo GT TT w ((w.setCell ⟨tb, t * 2, none⟩ (.bool b)).setCell ⟨tb, t * 2 + 1, none⟩ (.slice none 0 0)) g c (G.setT (t : Int) ⟨b, []⟩) (fpOf g tb nb hv nv) := by
  have h2 := ((h.thr.stored (t * 2) (.bool b)).1.stored (t * 2 + 1) (.slice none 0 0)).1
  rw [show ((thC G.thr hv).set (t * 2) (.bool b)).set (t * 2 + 1) (.slice none 0 0) = thC (G.thr.set t ⟨b, []⟩) (hv.set t (.slice none 0 0)) from (thC_set ⟨b, []⟩ _ h.hl ht).symm] at h2
  obtain ⟨r1, r2, r3⟩ := h.turn K ht (w1 := w) (v' := .slice none 0 0) (x := ⟨b, []⟩) (n := 0) (grown_refl _ _) (World.ownsRow_nil _ _ _ _) (fun k hk => by simp [Value.ownBlock] at hk) h2
    ((Frm.setCell (fp := [tb]) w (p := ⟨tb, t * 2, none⟩) (by simp) _).trans (Frm.setCell (fp := [tb]) _ (p := ⟨tb, t * 2 + 1, none⟩) (by simp) _) (fresh_sub (fun _ h => h)))
  exact ⟨_, _, _, _, _, _, r1, r2, r3⟩
end
end Go.Proofs.Ytaefcmmjeloccaa
