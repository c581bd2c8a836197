/- What writing a graph comes to: a new object, a field. -/
import Derived.Test.YtaefcmmjeloccaaGr5
namespace Go.Proofs.Ytaefcmmjeloccaa
open Go.RowKit

section
variable {GT TT : TypeId} {w : World} {g : Nat} {c : Cfg} {G : Gr} {tb tcap nb ncap : Nat} {hv nv : List Value}
/-- The graph's block with another list of objects. -/
theorem blk_set (c : Cfg) (x y z : Value) : (c.cells ++ #[x, y]).setIfInBounds 11 z = c.cells ++ #[x, z] := rfl
theorem set_map_append {α β : Type} (A : List β) (B : List α) (f : α → β) (i : Nat) (x : α) : (A ++ B.map f).set (A.length + i) (f x) = A ++ (B.set i x).map f := by
  rw [List.set_append, if_neg (by omega), Nat.add_sub_cancel_left, List.map_set]
/-- An object more. -/
theorem Gx.addNode (h : Gx GT TT w g c G tb tcap nb ncap hv nv) (K : Kinds GT TT) (n : Nat) {w1 w2 : World} {v s' : Value}
    (hb1 : Below w.heap.size w w1) (ho : Own w1 57 2 n v (vls (List.replicate n (0, 0)))) (hvn : ∀ k, v.ownBlock = some k → w.heap.size ≤ k)
    (hg : w1.grownBy w2 (some nb)) (hs : Own w2 53 1 (G.nod.length + 1) s' (nv ++ [v])) (hsb : s'.ownBlock = some nb ∨ ∃ k, s'.ownBlock = some k ∧ w1.heap.size ≤ k) :
    GTo GT TT w (w2.setCell ⟨g, 11, none⟩ s') g c (G.addN (n : Int)) (fpOf g tb nb hv nv) := by
  obtain ⟨a1, a2, a3, a4⟩ := h.apart K
  have hgl : g < w.heap.size := heap_lt h.blk
  have htl : tb < w.heap.size := own_blk h.thr tb rfl
  have hnl : nb < w.heap.size := own_blk h.nod nb rfl
  have old2 : ∀ k, k < w.heap.size → k ≠ nb → w2.heap[k]? = w.heap[k]? := fun k hk hn =>
    (hg.block k (Nat.lt_of_lt_of_le hk hb1.size) (by simpa using hn)).trans (hb1.block k hk)
  have old : ∀ k, k < w.heap.size → k ≠ nb → k ≠ g → (w2.setCell ⟨g, 11, none⟩ s').heap[k]? = w.heap[k]? := fun k hk hn hk2 =>
    (heap_setCell_other _ _ _ _ hk2).trans (old2 k hk hn)
  have hform : ∃ nb' cap', s' = .slice (some ⟨nb', 0, none⟩) (G.nod.length + 1) cap' := by
    rcases hs.2 with ⟨_, h0⟩ | ⟨g', cap', cur, hv', _⟩
    · omega
    · exact ⟨g', cap', hv'⟩
  obtain ⟨nb', cap', rfl⟩ := hform
  have hnb' : nb' = nb ∨ w1.heap.size ≤ nb' := by
    rcases hsb with h1 | ⟨k, h1, h2⟩
    · left; simpa [Value.ownBlock] using h1
    · right
      have : nb' = k := by simpa [Value.ownBlock] using h1
      omega
  have hs1 := hb1.size
  have hng : nb' ≠ g := by
    rcases hnb' with h1 | h1
    · rw [h1]; exact Ne.symm a2
    · omega
  have hvk : ∀ k, v.ownBlock = some k → w.heap.size ≤ k ∧ k < w1.heap.size ∧ k ≠ nb' := by
    intro k hk
    have h1 := hvn k hk
    have h2 := own_blk ho k hk
    refine ⟨h1, h2, ?_⟩
    rcases hnb' with h3 | h3 <;> omega
  have hrl := h.rows.lt
  have hr1 : Rows w1 57 2 (hv ++ nv) (G.thr.map (fun h => vls h.held) ++ G.nod.map vls) := h.rows.keep fun k hk => hb1.block k (hrl k hk)
  have hr2 := hr1.add ho (fun k hk hm => by have := hrl k hm; have := hvn k hk; omega)
  have hnew : ∀ k ∈ ((hv ++ nv) ++ [v]).filterMap Value.ownBlock, (k ∈ (hv ++ nv).filterMap Value.ownBlock ∨ (w.heap.size ≤ k ∧ k < w1.heap.size)) := by
    intro k hk
    rw [List.filterMap_append] at hk
    rcases List.mem_append.1 hk with h1 | h1
    · exact .inl h1
    · right
      rw [List.filterMap_cons] at h1
      split at h1
      · cases h1
      · rename_i b hb
        have e : k = b := by simpa using h1
        subst e
        exact ⟨(hvk k hb).1, (hvk k hb).2.1⟩
  have e1 : (hv ++ nv) ++ [v] = hv ++ (nv ++ [v]) := by rw [List.append_assoc]
  have e2 : (G.thr.map (fun h => vls h.held) ++ G.nod.map vls) ++ [vls (List.replicate n (0, 0))] = G.thr.map (fun h => vls h.held) ++ (G.nod ++ [List.replicate n (0, 0)]).map vls := by simp
  refine ⟨tb, tcap, nb', cap', hv, nv ++ [v], ⟨?_, ?_, ?_, ?_, ?_⟩, ?_, ?_⟩
  · have hblk : w2.heap[g]? = some (.cells (c.cells ++ #[.slice (some ⟨tb, 0, none⟩) G.thr.length tcap, .slice (some ⟨nb, 0, none⟩) G.nod.length ncap]) GT (0, 0)) := (old2 g hgl a2).trans h.blk
    have := heap_setCell_same w2 g 11 _ GT (.slice (some ⟨nb', 0, none⟩) (G.nod.length + 1) cap') hblk
    rw [this, blk_set]
    simp [Gr.addN]
  · refine own_heap h.thr fun k e => ?_
    have e' : tb = k := by simpa [Value.ownBlock] using e
    subst e'
    exact old tb htl a3 (Ne.symm a1)
  · have : (G.addN (n : Int)).nod.length = G.nod.length + 1 := by simp [Gr.addN]
    rw [this]
    refine own_heap hs fun k e => ?_
    have e' : nb' = k := by simpa [Value.ownBlock] using e
    subst e'
    exact heap_setCell_other _ _ _ _ hng
  · exact h.hl
  · rw [e1, e2] at hr2
    refine hr2.keep fun k hk => ?_
    have hkw := hr2.lt k hk
    rw [← e1] at hk
    have hkg : k ≠ g ∧ k ≠ nb := by
      rcases hnew k hk with h1 | h1
      · exact ⟨(a4 k h1).1, (a4 k h1).2.2⟩
      · constructor <;> omega
    exact (heap_setCell_other _ _ _ _ hkg.1).trans (hg.block k hkw (by simpa using hkg.2))
  · refine ⟨(hg.os.trans hb1.os), (hg.tape.trans hb1.tape), (hg.output.trans hb1.output), ?_, fun k hk hn => ?_⟩
    · have := hg.size
      have e : (w2.setCell ⟨g, 11, none⟩ (.slice (some ⟨nb', 0, none⟩) (G.nod.length + 1) cap')).heap.size = w2.heap.size := by simp
      omega
    · simp only [fpOf, List.mem_cons, not_or] at hn
      exact old k hk hn.2.2.1 hn.1
  · intro k hk
    simp only [fpOf, List.mem_cons] at hk ⊢
    rcases hk with h1 | h1 | h1 | h1
    · exact .inl (.inl h1)
    · exact .inl (.inr (.inl h1))
    · rcases hnb' with h3 | h3
      · exact .inl (.inr (.inr (.inl (h1.trans h3))))
      · exact .inr (by omega)
    · rw [← e1] at h1
      rcases hnew k h1 with h3 | h3
      · exact .inl (.inr (.inr (.inr h3)))
      · exact .inr h3.1
/-- A field is written. -/
theorem Gx.putField (h : Gx GT TT w g c G tb tcap nb ncap hv nv) (K : Kinds GT TT) {s : Nat} (hs : s < G.nod.length) {f : Nat} (hf : f < (G.nod.getD s []).length) {d cap : Nat}
    (hd : nv.getD s undef = .slice (some ⟨d, 0, none⟩) (G.nod.getD s []).length cap) (v : Vl) :
    GTo GT TT w ((w.setCell ⟨d, f * 2, none⟩ (.int .i64 v.1)).setCell ⟨d, f * 2 + 1, none⟩ (.int .i64 v.2)) g c (G.setF (s : Int) (f : Int) v) (fpOf g tb nb hv nv) := by
  obtain ⟨a1, a2, a3, a4⟩ := h.apart K
  have hnl := h.nl
  have hown := (h.nodeRow hs).2
  have hdm : d ∈ (hv ++ nv).filterMap Value.ownBlock := mem_nv (t := s) (by rw [hnl]; exact hs) (by rw [hd]; rfl)
  obtain ⟨d1, d2, d3⟩ := a4 d hdm
  rw [hd] at hown
  have ho := ((hown.stored (f * 2) (.int .i64 v.1)).1.stored (f * 2 + 1) (.int .i64 v.2)).1
  rw [show ((vls (G.nod.getD s [])).set (f * 2) (.int .i64 v.1)).set (f * 2 + 1) (.int .i64 v.2) = vls ((G.nod.getD s []).set f v) from (vls_set v hf).symm] at ho
  have e0 : (hv ++ nv).getD (G.thr.length + s) undef = nv.getD s undef := by
    rw [List.getD_eq_getElem?_getD, List.getElem?_append_right (by rw [h.hl]; omega), h.hl, Nat.add_sub_cancel_left, ← List.getD_eq_getElem?_getD]
  have hgr : w.grownBy ((w.setCell ⟨d, f * 2, none⟩ (.int .i64 v.1)).setCell ⟨d, f * 2 + 1, none⟩ (.int .i64 v.2)) (some d) :=
    ⟨rfl, rfl, rfl, by simp, fun k _ hk => by
      have hkd : k ≠ d := fun e => hk (by rw [e])
      exact (heap_setCell_other _ _ _ _ hkd).trans (heap_setCell_other _ _ _ _ hkd)⟩
  have hr := h.rows.set (t := G.thr.length + s) (by simp; omega) (v' := nv.getD s undef) (xs' := vls ((G.nod.getD s []).set f v)) (by rw [e0, hd]; exact hgr) (by rw [hd]; exact ho) (fun k hk => by rw [e0]; exact .inl hk)
  have e1 : (hv ++ nv).set (G.thr.length + s) (nv.getD s undef) = hv ++ nv := by
    rw [← e0, List.getD_eq_getElem?_getD]
    apply List.ext_getElem?
    intro i
    rw [List.getElem?_set]
    split
    · subst_vars
      split
      · rename_i hlt
        rw [List.getElem?_eq_getElem hlt]; rfl
      · rename_i hge
        rw [List.getElem?_eq_none (by omega)]
    · rfl
  have e2 : (G.thr.map (fun h => vls h.held) ++ G.nod.map vls).set (G.thr.length + s) (vls ((G.nod.getD s []).set f v)) = G.thr.map (fun h => vls h.held) ++ (G.nod.set s ((G.nod.getD s []).set f v)).map vls := by
    have := set_map_append (G.thr.map (fun h => vls h.held)) G.nod vls s ((G.nod.getD s []).set f v)
    rwa [List.length_map] at this
  rw [e1, e2] at hr
  have e3 : (G.setF (s : Int) (f : Int) v).nod = G.nod.set s ((G.nod.getD s []).set f v) := rfl
  have e4 : (G.setF (s : Int) (f : Int) v).thr = G.thr := rfl
  have e5 : (G.setF (s : Int) (f : Int) v).nod.length = G.nod.length := by rw [e3]; simp
  have old : ∀ k, k < w.heap.size → k ≠ d → ((w.setCell ⟨d, f * 2, none⟩ (.int .i64 v.1)).setCell ⟨d, f * 2 + 1, none⟩ (.int .i64 v.2)).heap[k]? = w.heap[k]? := fun k hk hkd => hgr.block k hk (by simpa using hkd)
  refine ⟨tb, tcap, nb, ncap, hv, nv, ⟨?_, ?_, ?_, ?_, ?_⟩, ?_, fresh_sub fun _ h => h⟩
  · rw [e4, e5, old g (heap_lt h.blk) (Ne.symm d1)]; exact h.blk
  · rw [e4]
    refine own_heap h.thr fun k e => ?_
    have e' : tb = k := by simpa [Value.ownBlock] using e
    subst e'
    exact old tb (own_blk h.thr tb rfl) (Ne.symm d2)
  · rw [e5]
    refine own_heap h.nod fun k e => ?_
    have e' : nb = k := by simpa [Value.ownBlock] using e
    subst e'
    exact old nb (own_blk h.nod nb rfl) (Ne.symm d3)
  · exact h.hl
  · rw [e3, e4]; exact hr
  · exact Frm.of_grown hgr fun k hk => .inl (by
      have : d = k := by simpa using hk
      subst this
      simp only [fpOf, List.mem_cons]
      exact .inr (.inr (.inr hdm)))
end
end Go.Proofs.Ytaefcmmjeloccaa
