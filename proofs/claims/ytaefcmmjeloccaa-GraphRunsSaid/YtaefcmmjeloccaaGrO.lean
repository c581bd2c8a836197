/- The graph's View: what it builds. -/
import Derived.Test.YtaefcmmjeloccaaGrN
namespace Go.Proofs.Ytaefcmmjeloccaa
open Go.RowKit

theorem info_node : (Try.prog.info? 55).map (fun i => (i.zero, i.size, i.bytes)) = some (some (.agg #[.int .i64 0, .slice none 0 0]), 2, 32) := by kernel_rfl
theorem info_bool : (Try.prog.info? 4).map (fun i => (i.zero, i.size, i.bytes)) = some (some (.bool false), 1, 1) := by kernel_rfl
def bvs (l : List Bool) : List Value := l.map Value.bool
theorem make_bools (n : Nat) (hn : n ≤ 1000000) (w : World) : (Instr.makeSlice 80 (.int .i64 (n : Int)) (.int .i64 (n : Int))).run Try.prog w = .ok (.slice (some ⟨w.heap.size, 0, none⟩) n n) (w.alloc (.cells (bvs (List.replicate n false)).toArray 4)) := by
  obtain ⟨i0, hi, hz0, hz1, hz2⟩ := info_parts info_bool
  have h := run_make (P := Try.prog) w 80 4 i0 _ Try.underlying80 hi hz0 .i64 .i64 n n (by omega) (by omega) (by rw [hz2]; omega) (by omega)
  rw [hz1] at h
  have e : madeCells #[Value.bool false] (n * 1) = (bvs (List.replicate n false)).toArray := by
    unfold bvs
    rw [List.map_replicate]
    apply Array.ext
    · simp [madeCells]
    · intro i h1 h2
      simp only [madeCells, Array.getElem_map, Array.getElem_range, List.getElem_toArray, List.getElem_replicate]
      show (#[Value.bool false])[i % 1]! = _
      rw [Nat.mod_one]; rfl
  rw [← e]
  exact h
/-- Rows, cloned. -/
structure ClR (w : World) (B : Nat) (xs : List Value) (ls : List (List Vl)) : Prop where
  len : xs.length = ls.length
  own : ∀ j, j < ls.length → w.ownsRow B 57 2 (xs.getD j undef) (ls.getD j []).length (vls (ls.getD j []))
theorem ClR.keep {w w1 : World} {B : Nat} {xs : List Value} {ls : List (List Vl)} (h : ClR w B xs ls) (hk : ∀ (k : Nat) (cs : Array Value) (fr : Nat × Nat), w.heap[k]? = some (Obj.cells cs 57 fr) → w1.heap[k]? = some (Obj.cells cs 57 fr)) : ClR w1 B xs ls :=
  ⟨h.len, fun j hj => ⟨(h.own j hj).1, (h.own j hj).2.imp id fun ⟨g, cap, cur, hv, hg, hh, r⟩ => ⟨g, cap, cur, hv, hg, hk g cur (0, 0) hh, r⟩⟩⟩
theorem ClR.kf {w w1 : World} {B B' : Nat} {ks : List TypeId} {bs : List Nat} {xs : List Value} {ls : List (List Vl)} (h : ClR w B xs ls) (hf : KF B' ks bs w w1) (h1 : 57 ∉ ks) (h2 : ∀ k ∈ bs, ∀ cs fr, w.heap[k]? ≠ some (.cells cs 57 fr)) : ClR w1 B xs ls :=
  h.keep fun k cs fr hk => hf.kept _ _ _ _ hk h1 fun hm => h2 k hm cs fr hk
theorem ClR.add {w : World} {B : Nat} {xs : List Value} {ls : List (List Vl)} (h : ClR w B xs ls) {x : Value} {l : List Vl} (ho : w.ownsRow B 57 2 x l.length (vls l)) : ClR w B (xs ++ [x]) (ls ++ [l]) := by
  refine ⟨by simp [h.len], fun j hj => ?_⟩
  by_cases e : j < ls.length
  · rw [List.getD_eq_getElem?_getD, List.getElem?_append_left (by rw [h.len]; exact e), ← List.getD_eq_getElem?_getD, List.getD_eq_getElem?_getD (l := ls ++ [l]), List.getElem?_append_left e, ← List.getD_eq_getElem?_getD]
    exact h.own j e
  · have e2 : j = ls.length := by simp at hj; omega
    subst e2
    rw [List.getD_eq_getElem?_getD, List.getElem?_append_right (by rw [h.len]; exact Nat.le_refl _), List.getD_eq_getElem?_getD, List.getElem?_append_right (Nat.le_refl _), h.len]
    simpa using ho
/-- A node's cells. -/
def ndC : List (Int × List Vl) → List Value → List Value
  | n :: ns, y :: ys => .int .i64 n.1 :: y :: ndC ns ys
  | _, _ => []
theorem ndC_snoc : ∀ {ns : List (Int × List Vl)} {ys : List Value} (n : Int × List Vl) (y : Value), ys.length = ns.length → ndC (ns ++ [n]) (ys ++ [y]) = ndC ns ys ++ [.int .i64 n.1, y]
  | [], [], n, y, _ => rfl
  | n :: ns, y :: ys, n', y', h => by
    simp only [List.cons_append, ndC, ndC_snoc n' y' (by simpa using h)]
  | [], y :: ys, _, _, h => by simp at h
  | n :: ns, [], _, _, h => by simp at h
theorem ndC_len : ∀ {ns : List (Int × List Vl)} {ys : List Value}, ys.length = ns.length → (ndC ns ys).length = ns.length * 2
  | [], [], _ => rfl
  | n :: ns, y :: ys, h => by
    have := ndC_len (ns := ns) (ys := ys) (by simpa using h)
    simp only [ndC, List.length_cons, this]; omega
  | [], y :: ys, h => by simp at h
  | n :: ns, [], h => by simp at h
theorem ndC_get : ∀ {ns : List (Int × List Vl)} {ys : List Value} {j : Nat}, ys.length = ns.length → j < ns.length → (ndC ns ys)[j * 2]? = some (.int .i64 (ns.getD j (0, [])).1) ∧ (ndC ns ys)[j * 2 + 1]? = some (ys.getD j undef)
  | [], _, j, _, h => absurd h (by simp)
  | n :: ns, [], j, e, _ => by simp at e
  | n :: ns, y :: ys, 0, _, _ => ⟨rfl, rfl⟩
  | n :: ns, y :: ys, t + 1, e, ht => by
    obtain ⟨h1, h2⟩ := ndC_get (ns := ns) (ys := ys) (j := t) (by simpa using e) (by simpa using ht)
    rw [show (t + 1) * 2 = t * 2 + 1 + 1 by omega]
    simp only [ndC, List.getElem?_cons_succ, List.getD_cons_succ]
    exact ⟨h1, h2⟩
/-- A view, as it is built: roots, nodes. -/
structure Vw (w : World) (B : Nat) (rv nv : Value) (rs : List (List Vl)) (ns : List (Int × List Vl)) : Prop where
  roots : ∃ xs, w.ownsRow B 53 1 rv rs.length xs ∧ ClR w B xs rs
  nodes : ∃ ys, w.ownsRow B 55 2 nv ns.length (ndC ns ys) ∧ ClR w B ys (ns.map fun n => n.2)
theorem Vw.keep {w w1 : World} {B : Nat} {rv nv : Value} {rs : List (List Vl)} {ns : List (Int × List Vl)} (h : Vw w B rv nv rs ns) (hk : ∀ (k : Nat) (cs : Array Value) (T : TypeId) (fr : Nat × Nat), T = 57 ∨ T = 53 ∨ T = 55 → w.heap[k]? = some (Obj.cells cs T fr) → w1.heap[k]? = some (Obj.cells cs T fr)) : Vw w1 B rv nv rs ns := by
  obtain ⟨⟨xs, h1, h2⟩, ys, h3, h4⟩ := h
  exact ⟨⟨xs, ⟨h1.1, h1.2.imp id fun ⟨g, cap, cur, hv, hg, hh, r⟩ => ⟨g, cap, cur, hv, hg, hk g cur _ (0, 0) (by simp) hh, r⟩⟩, h2.keep fun k cs fr => hk k cs _ fr (by simp)⟩,
    ys, ⟨h3.1, h3.2.imp id fun ⟨g, cap, cur, hv, hg, hh, r⟩ => ⟨g, cap, cur, hv, hg, hk g cur _ (0, 0) (by simp) hh, r⟩⟩, h4.keep fun k cs fr => hk k cs _ fr (by simp)⟩
theorem Vw.below {w w1 : World} {B : Nat} {rv nv : Value} {rs : List (List Vl)} {ns : List (Int × List Vl)} (h : Vw w B rv nv rs ns) (hb : Below w.heap.size w w1) : Vw w1 B rv nv rs ns := h.keep fun _ _ _ _ _ hk => Go.Proofs.Ytaefcmmjeloccaa.keep hb hk
/-- Which objects are met: a queue of references is gone through. -/
def Gr.go (G : Gr) : Nat → List Bool → List Int → List Bool
  | 0, met, _ => met
  | _ + 1, met, [] => met
  | f + 1, met, s :: next => if met.getD s.toNat true then G.go f met next else G.go f (met.set s.toNat true) (next ++ refs (G.node s))
def Gr.first (G : Gr) (k : Nat) : List Int := 0 :: ((G.thr.take k).map fun h => refs h.held).flatten
def Gr.met (G : Gr) : List Bool := G.go (G.nod.length * 128 + 200) (List.replicate G.nod.length false) (G.first G.thr.length)
def Gr.seen (G : Gr) (met : List Bool) (k : Nat) : List (Int × List Vl) := ((List.range k).filter fun i => met.getD i false).map fun (i : Nat) => ((i : Int), G.nod.getD i [])
/-- The view. -/
def Gr.vRoots (G : Gr) : List (List Vl) := G.thr.map fun h => h.held
def Gr.vNodes (G : Gr) : List (Int × List Vl) := G.seen G.met G.nod.length
end Go.Proofs.Ytaefcmmjeloccaa
