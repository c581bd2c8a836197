/- A graph in memory. -/
import Derived.Test.YtaefcmmjeloccaaGr0
import Derived.Test.YtaefcmmjeloccaaOwn
import Derived.Test.YtaefcmmjeloccaaCfg0
import Derived.Test.YtaefcmmjeloccaaProg
namespace Go.Proofs.Ytaefcmmjeloccaa
open Go.RowKit

def vlc (v : Vl) : List Value := [.int .i64 v.1, .int .i64 v.2]
def vls (vs : List Vl) : List Value := vs.flatMap vlc
theorem vls_len (vs : List Vl) : (vls vs).length = vs.length * 2 := by
  induction vs with
  | nil => rfl
  | cons v vs ih => simp only [vls, List.flatMap_cons, List.length_append, List.length_cons] at *; rw [ih]; simp [vlc]; omega
theorem vls_snoc (vs : List Vl) (v : Vl) : vls (vs ++ [v]) = vls vs ++ vlc v := by simp [vls]
theorem vls_get : ∀ {vs : List Vl} {j : Nat}, j < vs.length → (vls vs)[j * 2]? = some (.int .i64 (vs.getD j (0, 0)).1) ∧ (vls vs)[j * 2 + 1]? = some (.int .i64 (vs.getD j (0, 0)).2)
  | [], j, h => absurd h (by simp)
  | v :: vs, 0, _ => ⟨rfl, rfl⟩
  | v :: vs, j + 1, h => by
    obtain ⟨h1, h2⟩ := vls_get (vs := vs) (j := j) (by simpa using h)
    have e : vls (v :: vs) = .int .i64 v.1 :: .int .i64 v.2 :: vls vs := rfl
    rw [e, show (j + 1) * 2 = j * 2 + 1 + 1 by omega, show j * 2 + 1 + 1 + 1 = j * 2 + 1 + 1 + 1 from rfl]
    simp only [List.getElem?_cons_succ]
    exact ⟨h1, h2⟩
theorem vls_set : ∀ {vs : List Vl} {j : Nat} (v : Vl), j < vs.length → vls (vs.set j v) = ((vls vs).set (j * 2) (.int .i64 v.1)).set (j * 2 + 1) (.int .i64 v.2)
  | [], j, v, h => absurd h (by simp)
  | u :: vs, 0, v, _ => rfl
  | u :: vs, j + 1, v, h => by
    have ih := vls_set (vs := vs) (j := j) v (by simpa using h)
    have e : ∀ (x : Vl) (l : List Vl), vls (x :: l) = .int .i64 x.1 :: .int .i64 x.2 :: vls l := fun _ _ => rfl
    rw [List.set_cons_succ, e, e, ih, show (j + 1) * 2 = j * 2 + 1 + 1 by omega]
    simp only [List.set_cons_succ]
/-- Threads' cells. -/
def thC : List Th → List Value → List Value
  | h :: ths, v :: hv => .bool h.live :: v :: thC ths hv
  | _, _ => []
theorem thC_len : ∀ {ths : List Th} {hv : List Value}, hv.length = ths.length → (thC ths hv).length = ths.length * 2
  | [], [], _ => rfl
  | h :: ths, v :: hv, e => by
    have := thC_len (ths := ths) (hv := hv) (by simpa using e)
    simp only [thC, List.length_cons, this]; omega
  | [], v :: hv, e => by simp at e
  | h :: ths, [], e => by simp at e
theorem thC_get : ∀ {ths : List Th} {hv : List Value} {t : Nat}, hv.length = ths.length → t < ths.length → (thC ths hv)[t * 2]? = some (.bool (ths.getD t Th.none).live) ∧ (thC ths hv)[t * 2 + 1]? = some (hv.getD t undef)
  | [], _, t, _, h => absurd h (by simp)
  | h :: ths, [], t, e, _ => by simp at e
  | h :: ths, v :: hv, 0, _, _ => ⟨rfl, rfl⟩
  | h :: ths, v :: hv, t + 1, e, ht => by
    obtain ⟨h1, h2⟩ := thC_get (ths := ths) (hv := hv) (t := t) (by simpa using e) (by simpa using ht)
    rw [show (t + 1) * 2 = t * 2 + 1 + 1 by omega]
    simp only [thC, List.getElem?_cons_succ, List.getD_cons_succ]
    exact ⟨h1, h2⟩
theorem thC_set : ∀ {ths : List Th} {hv : List Value} {t : Nat} (x : Th) (v : Value), hv.length = ths.length → t < ths.length → thC (ths.set t x) (hv.set t v) = ((thC ths hv).set (t * 2) (.bool x.live)).set (t * 2 + 1) v
  | [], _, t, _, _, _, h => absurd h (by simp)
  | h :: ths, [], t, _, _, e, _ => by simp at e
  | h :: ths, u :: hv, 0, x, v, _, _ => rfl
  | h :: ths, u :: hv, t + 1, x, v, e, ht => by
    have ih := thC_set (ths := ths) (hv := hv) (t := t) x v (by simpa using e) (by simpa using ht)
    rw [show (t + 1) * 2 = t * 2 + 1 + 1 by omega]
    simp only [List.set_cons_succ, thC, ih]
/-- A graph: its block, its threads' row, its nodes' row, and a row for each list of values. -/
structure Gx (GT TT : TypeId) (w : World) (g : Nat) (c : Cfg) (G : Gr) (tb tcap nb ncap : Nat) (hv nv : List Value) : Prop where
  blk : w.heap[g]? = some (.cells (c.cells ++ #[.slice (some ⟨tb, 0, none⟩) G.thr.length tcap, .slice (some ⟨nb, 0, none⟩) G.nod.length ncap]) GT (0, 0))
  thr : Own w TT 2 G.thr.length (.slice (some ⟨tb, 0, none⟩) G.thr.length tcap) (thC G.thr hv)
  nod : Own w 53 1 G.nod.length (.slice (some ⟨nb, 0, none⟩) G.nod.length ncap) nv
  hl : hv.length = G.thr.length
  rows : Rows w 57 2 (hv ++ nv) (G.thr.map (fun h => vls h.held) ++ G.nod.map vls)
/-- What a graph's blocks are. -/
def fpOf (g tb nb : Nat) (hv nv : List Value) : List Nat := g :: tb :: nb :: (hv ++ nv).filterMap Value.ownBlock
theorem Gx.nl {GT TT : TypeId} {w : World} {g : Nat} {c : Cfg} {G : Gr} {tb tcap nb ncap : Nat} {hv nv : List Value} (h : Gx GT TT w g c G tb tcap nb ncap hv nv) : nv.length = G.nod.length := by
  have := h.rows.len
  simp only [List.length_append, List.length_map, h.hl] at this
  omega
theorem Gx.lt {GT TT : TypeId} {w : World} {g : Nat} {c : Cfg} {G : Gr} {tb tcap nb ncap : Nat} {hv nv : List Value} (h : Gx GT TT w g c G tb tcap nb ncap hv nv) : ∀ k ∈ fpOf g tb nb hv nv, k < w.heap.size := by
  intro k hk
  simp only [fpOf, List.mem_cons] at hk
  rcases hk with rfl | rfl | rfl | hk
  · exact heap_lt h.blk
  · exact own_blk h.thr _ rfl
  · exact own_blk h.nod _ rfl
  · exact h.rows.lt k hk
theorem Gx.keep {GT TT : TypeId} {w w' : World} {g : Nat} {c : Cfg} {G : Gr} {tb tcap nb ncap : Nat} {hv nv : List Value} (h : Gx GT TT w g c G tb tcap nb ncap hv nv) (hk : ∀ k ∈ fpOf g tb nb hv nv, w'.heap[k]? = w.heap[k]?) : Gx GT TT w' g c G tb tcap nb ncap hv nv :=
  ⟨(hk g (by simp [fpOf])).trans h.blk, own_heap h.thr fun k e => by
      have : tb = k := by simpa [Value.ownBlock] using e
      subst this; exact hk tb (by simp [fpOf]),
    own_heap h.nod fun k e => by
      have : nb = k := by simpa [Value.ownBlock] using e
      subst this; exact hk nb (by simp [fpOf]), h.hl, h.rows.keep fun k e => hk k (by simp only [fpOf, List.mem_cons]; exact .inr (.inr (.inr e)))⟩
theorem Gx.frm {GT TT : TypeId} {w w' : World} {g : Nat} {c : Cfg} {G : Gr} {tb tcap nb ncap : Nat} {hv nv : List Value} {fp : List Nat} (h : Gx GT TT w g c G tb tcap nb ncap hv nv) (hf : Frm fp w w') (hd : ∀ k ∈ fpOf g tb nb hv nv, k ∉ fp) : Gx GT TT w' g c G tb tcap nb ncap hv nv :=
  h.keep fun k hk => hf.block k (h.lt k hk) (hd k hk)
theorem Gx.below {GT TT : TypeId} {w w' : World} {g : Nat} {c : Cfg} {G : Gr} {tb tcap nb ncap : Nat} {hv nv : List Value} (h : Gx GT TT w g c G tb tcap nb ncap hv nv) (hb : Below w.heap.size w w') : Gx GT TT w' g c G tb tcap nb ncap hv nv :=
  h.keep fun k hk => hb.block k (h.lt k hk)
section
variable {GT TT : TypeId} {w : World} {g : Nat} {c : Cfg} {G : Gr} {tb tcap nb ncap : Nat} {hv nv : List Value}
/-- What a walk reads of it. -/
theorem Gx.head (h : Gx GT TT w g c G tb tcap nb ncap hv nv) : w.cell? ⟨g, 3, none⟩ = some (.int .i64 c.q) ∧ w.cell? ⟨g, 10, none⟩ = some (.slice (some ⟨tb, 0, none⟩) G.thr.length tcap) ∧ w.cell? ⟨g, 11, none⟩ = some (.slice (some ⟨nb, 0, none⟩) G.nod.length ncap) :=
  ⟨cell_of_row _ _ _ _ _ _ h.blk, cell_of_row _ _ _ _ _ _ h.blk, cell_of_row _ _ _ _ _ _ h.blk⟩
theorem Gx.thread (h : Gx GT TT w g c G tb tcap nb ncap hv nv) {t : Nat} (ht : t < G.thr.length) : w.cell? ⟨tb, t * 2, none⟩ = some (.bool (G.thr.getD t Th.none).live) ∧ w.cell? ⟨tb, t * 2 + 1, none⟩ = some (hv.getD t undef) := by
  obtain ⟨h1, h2⟩ := thC_get h.hl ht
  exact ⟨(h.thr.cellAt _ (by omega)).trans h1, (h.thr.cellAt _ (by omega)).trans h2⟩
theorem Gx.heldRow (h : Gx GT TT w g c G tb tcap nb ncap hv nv) {t : Nat} (ht : t < G.thr.length) : Own w 57 2 (G.thr.getD t Th.none).held.length (hv.getD t undef) (vls (G.thr.getD t Th.none).held) := by
  obtain ⟨n, hn⟩ := h.rows.own t (by simp; omega)
  have e1 : (hv ++ nv).getD t undef = hv.getD t undef := by
    rw [List.getD_eq_getElem?_getD, List.getElem?_append_left (by rw [h.hl]; exact ht), ← List.getD_eq_getElem?_getD]
  have e2 : (G.thr.map (fun h => vls h.held) ++ G.nod.map vls).getD t [] = vls (G.thr.getD t Th.none).held := by
    rw [List.getD_eq_getElem?_getD, List.getElem?_append_left (by simpa using ht), List.getElem?_map, List.getD_eq_getElem?_getD, List.getElem?_eq_getElem ht]; rfl
  rw [e1, e2] at hn
  have hl := hn.1
  rw [vls_len] at hl
  obtain rfl : n = (G.thr.getD t Th.none).held.length := by omega
  exact hn
theorem Gx.nodeRow (h : Gx GT TT w g c G tb tcap nb ncap hv nv) {s : Nat} (hs : s < G.nod.length) : w.cell? ⟨nb, s, none⟩ = some (nv.getD s undef) ∧ Own w 57 2 (G.nod.getD s []).length (nv.getD s undef) (vls (G.nod.getD s [])) := by
  obtain ⟨n, hn⟩ := h.rows.own (G.thr.length + s) (by simp; omega)
  have e1 : (hv ++ nv).getD (G.thr.length + s) undef = nv.getD s undef := by
    rw [List.getD_eq_getElem?_getD, List.getElem?_append_right (by rw [h.hl]; omega), h.hl, Nat.add_sub_cancel_left, ← List.getD_eq_getElem?_getD]
  have e2 : (G.thr.map (fun h => vls h.held) ++ G.nod.map vls).getD (G.thr.length + s) [] = vls (G.nod.getD s []) := by
    rw [List.getD_eq_getElem?_getD, List.getElem?_append_right (by simp), List.length_map, Nat.add_sub_cancel_left, List.getElem?_map, List.getD_eq_getElem?_getD, List.getElem?_eq_getElem hs]; rfl
  rw [e1, e2] at hn
  have hl := hn.1
  rw [vls_len] at hl
  obtain rfl : n = (G.nod.getD s []).length := by omega
  refine ⟨?_, hn⟩
  rw [h.nod.cellAt s (by omega), List.getD_eq_getElem?_getD, List.getElem?_eq_getElem (by rw [h.nl]; exact hs)]; rfl
end
theorem own_slice {w : World} {base e size n : Nat} {v : Value} {xs : List Value} (h : w.ownsRow base e size v n xs) : ∃ p cap, v = .slice p n cap ∧ n ≤ cap ∧ (0 < n → ∃ b, p = some ⟨b, 0, none⟩) := by
  rcases h.2 with ⟨rfl, rfl⟩ | ⟨g, cap, cur, rfl, hg, hh, hc, _⟩
  · exact ⟨none, 0, rfl, Nat.le_refl _, fun h => absurd h (by omega)⟩
  · exact ⟨_, cap, rfl, hc, fun _ => ⟨g, rfl⟩⟩
/-- A value of a row. -/
theorem own_val {w : World} {b cap : Nat} {vs : List Vl} {n : Nat} (h : Own w 57 2 n (.slice (some ⟨b, 0, none⟩) n cap) (vls vs)) {j : Nat} (hj : j < n) :
    w.cell? ⟨b, j * 2, none⟩ = some (.int .i64 (vs.getD j (0, 0)).1) ∧ w.cell? ⟨b, j * 2 + 1, none⟩ = some (.int .i64 (vs.getD j (0, 0)).2) := by
  have hl := h.1
  rw [vls_len] at hl
  obtain ⟨h1, h2⟩ := vls_get (vs := vs) (j := j) (by omega)
  exact ⟨(h.cellAt _ (by omega)).trans h1, (h.cellAt _ (by omega)).trans h2⟩
end Go.Proofs.Ytaefcmmjeloccaa
