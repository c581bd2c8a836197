/- Cells, in memory. -/
import Derived.Test.YtfocdbflmodfhaaDoorBit4
import Derived.Test.YtfocdbflmodfhaaDoorPg5
import Derived.Test.YtfocdbflmodfhaaDoorCh2
namespace Go.Proofs.YtfocdbflmodfhaaDoor
open Go.RowKit

/-- What cells are: kinds, words, chains, what is taken. -/
structure Cs where
  ks : List Int
  xs : List Int
  ch : List (Int × Int)
  ws : List (BitVec 64)
/-- Where they lie. -/
structure Bl where
  c : Nat
  t : Nat
  k : Nat
  m : Nat
  r : Nat
  s : Nat
def Bl.fp (b : Bl) : List Nat := [b.c, b.t, b.k, b.m, b.r, b.s]
def chC (l : List (Int × Int)) : List Value := l.flatMap fun x => [.int .i64 x.1, .int .i64 x.2]
theorem chC_len (l : List (Int × Int)) : (chC l).length = l.length * 2 := by
  induction l with
  | nil => rfl
  | cons x l ih => simp only [chC, List.flatMap_cons, List.length_append, List.length_cons] at *; rw [ih]; simp; omega
theorem chC_get : ∀ {l : List (Int × Int)} {j : Nat}, j < l.length → (chC l)[j * 2]? = some (.int .i64 (l.getD j (0, 0)).1) ∧ (chC l)[j * 2 + 1]? = some (.int .i64 (l.getD j (0, 0)).2)
  | [], j, h => absurd h (by simp)
  | x :: l, 0, _ => ⟨rfl, rfl⟩
  | x :: l, j + 1, h => by
    obtain ⟨h1, h2⟩ := chC_get (l := l) (j := j) (by simpa using h)
    have e : chC (x :: l) = .int .i64 x.1 :: .int .i64 x.2 :: chC l := rfl
    rw [e, show (j + 1) * 2 = j * 2 + 1 + 1 by omega]
    simp only [List.getElem?_cons_succ]
    exact ⟨h1, h2⟩
theorem chC_set : ∀ {l : List (Int × Int)} {j : Nat} (x : Int × Int), j < l.length → chC (l.set j x) = ((chC l).set (j * 2) (.int .i64 x.1)).set (j * 2 + 1) (.int .i64 x.2)
  | [], j, _, h => absurd h (by simp)
  | y :: l, 0, x, _ => rfl
  | y :: l, j + 1, x, h => by
    have ih := chC_set (l := l) (j := j) x (by simpa using h)
    have e : ∀ (z : Int × Int) (l : List (Int × Int)), chC (z :: l) = .int .i64 z.1 :: .int .i64 z.2 :: chC l := fun _ _ => rfl
    rw [List.set_cons_succ, e, e, ih, show (j + 1) * 2 = j * 2 + 1 + 1 by omega]
    simp only [List.set_cons_succ]
def celC (b : Bl) (l : List (Int × Int)) : Array Value := (.pointer (some ⟨b.t, 0, none⟩) :: .pointer (some ⟨b.m, 0, none⟩) :: (chC l ++ [.pointer (some ⟨b.s, 0, none⟩)])).toArray
/-- Cells in memory. -/
structure CX (w : World) (b : Bl) (C : Cs) : Prop where
  hd : w.heap[b.c]? = some (.cells (celC b C.ch) 54 (0, 0))
  tx : Tx w b.t b.k C.ks
  mx : Mx w b.m b.r C.xs
  sx : Sx w b.s C.xs.length C.ws
  chl : C.ch.length = 64
  len : C.xs.length = 32 * C.ks.length
theorem ne_types {w : World} {a b : Nat} {x y : Array Value} {T U : TypeId} {f g : Nat × Nat} (h : w.heap[a]? = some (.cells x T f)) (h2 : w.heap[b]? = some (.cells y U g)) (hn : T ≠ U) : a ≠ b := by
  rintro rfl
  rw [h] at h2
  simp only [Option.some.injEq, Obj.cells.injEq] at h2
  exact hn h2.2.1
/-- All lie apart. -/
structure Apart (b : Bl) : Prop where
  ct : b.c ≠ b.t
  ck : b.c ≠ b.k
  cm : b.c ≠ b.m
  cr : b.c ≠ b.r
  cs : b.c ≠ b.s
  tk : b.t ≠ b.k
  tm : b.t ≠ b.m
  tr : b.t ≠ b.r
  ts : b.t ≠ b.s
  km : b.k ≠ b.m
  kr : b.k ≠ b.r
  ks : b.k ≠ b.s
  mr : b.m ≠ b.r
  ms : b.m ≠ b.s
  rs : b.r ≠ b.s
section
variable {w w' : World} {b : Bl} {C : Cs}
theorem CX.apart (h : CX w b C) : Apart b := by
  obtain ⟨hc, ⟨ht, hk, _⟩, ⟨⟨c, _, _, hm⟩, ⟨zs, hr⟩, _⟩, ⟨hs, _, _, _⟩, _, _⟩ := h
  exact ⟨ne_types hc ht (by decide), ne_types hc hk (by decide), ne_types hc hm (by decide), ne_types hc hr (by decide), ne_types hc hs (by decide), ne_types ht hk (by decide), ne_types ht hm (by decide), ne_types ht hr (by decide), ne_types ht hs (by decide),
    ne_types hk hm (by decide), ne_types hk hr (by decide), ne_types hk hs (by decide), ne_types hm hr (by decide), ne_types hm hs (by decide), ne_types hr hs (by decide)⟩
theorem CX.lt (h : CX w b C) : ∀ x ∈ b.fp, x < w.heap.size := by
  intro x hx
  simp only [Bl.fp, List.mem_cons, List.not_mem_nil, or_false] at hx
  rcases hx with rfl | rfl | rfl | rfl | rfl | rfl
  · exact heap_lt h.hd
  · exact heap_lt h.tx.hd
  · exact heap_lt h.tx.row
  · exact h.mx.lt.1
  · exact h.mx.lt.2
  · exact heap_lt h.sx.hd
theorem CX.keep (h : CX w b C) (hk : ∀ x ∈ b.fp, w'.heap[x]? = w.heap[x]?) : CX w' b C :=
  ⟨(hk b.c (by simp [Bl.fp])).trans h.hd, h.tx.keep (hk b.t (by simp [Bl.fp])) (hk b.k (by simp [Bl.fp])), h.mx.keep (hk b.m (by simp [Bl.fp])) (hk b.r (by simp [Bl.fp])), h.sx.keep (hk b.s (by simp [Bl.fp])), h.chl, h.len⟩
theorem CX.below (h : CX w b C) (hb : Below w.heap.size w w') : CX w' b C := h.keep fun x hx => hb.block x (h.lt x hx)
theorem CX.frm {fp : List Nat} (h : CX w b C) (hf : Frm fp w w') (hd : ∀ x ∈ b.fp, x ∉ fp) : CX w' b C := h.keep fun x hx => hf.block x (h.lt x hx) (hd x hx)
theorem CX.cells (h : CX w b C) : w.cell? ⟨b.c, 0, none⟩ = some (.pointer (some ⟨b.t, 0, none⟩)) ∧ w.cell? ⟨b.c, 1, none⟩ = some (.pointer (some ⟨b.m, 0, none⟩)) ∧ w.cell? ⟨b.c, 130, none⟩ = some (.pointer (some ⟨b.s, 0, none⟩)) := by
  refine ⟨cell_of_row _ _ _ _ _ _ h.hd, cell_of_row _ _ _ _ _ _ h.hd, ?_⟩
  rw [cell_of_row _ _ _ _ _ _ h.hd]
  have hl := chC_len C.ch
  rw [h.chl] at hl
  simp only [celC, List.getElem?_toArray]
  rw [show 130 = 128 + 1 + 1 from rfl, List.getElem?_cons_succ, List.getElem?_cons_succ, List.getElem?_append_right (by omega), hl]
  rfl
theorem CX.chain (h : CX w b C) {p : Nat} (hp : p < 64) : w.cell? ⟨b.c, 2 + p * 2, none⟩ = some (.int .i64 (C.ch.getD p (0, 0)).1) ∧ w.cell? ⟨b.c, 2 + p * 2 + 1, none⟩ = some (.int .i64 (C.ch.getD p (0, 0)).2) ∧ w.frozen? ⟨b.c, 2 + p * 2, none⟩ = false ∧ w.frozen? ⟨b.c, 2 + p * 2 + 1, none⟩ = false := by
  obtain ⟨h1, h2⟩ := chC_get (l := C.ch) (j := p) (by rw [h.chl]; exact hp)
  have hl := chC_len C.ch
  rw [h.chl] at hl
  refine ⟨?_, ?_, frozen_of_row _ _ _ _ _ h.hd, frozen_of_row _ _ _ _ _ h.hd⟩
  · rw [cell_of_row _ _ _ _ _ _ h.hd]
    simp only [celC, List.getElem?_toArray]
    rw [show 2 + p * 2 = p * 2 + 1 + 1 by omega, List.getElem?_cons_succ, List.getElem?_cons_succ, List.getElem?_append_left (by omega), h1]
  · rw [cell_of_row _ _ _ _ _ _ h.hd]
    simp only [celC, List.getElem?_toArray]
    rw [show 2 + p * 2 + 1 = p * 2 + 1 + 1 + 1 by omega, List.getElem?_cons_succ, List.getElem?_cons_succ, List.getElem?_append_left (by omega), h2]
/-- A chain turned. -/
theorem CX.setChain (h : CX w b C) {p : Nat} (hp : p < 64) (x : Int × Int) : CX ((w.setCell ⟨b.c, 2 + p * 2, none⟩ (.int .i64 x.1)).setCell ⟨b.c, 2 + p * 2 + 1, none⟩ (.int .i64 x.2)) b { C with ch := C.ch.set p x } := by
  have ap := h.apart
  have hl := chC_len C.ch
  rw [h.chl] at hl
  have o : ∀ {j : Nat}, b.c ≠ j → ((w.setCell ⟨b.c, 2 + p * 2, none⟩ (.int .i64 x.1)).setCell ⟨b.c, 2 + p * 2 + 1, none⟩ (.int .i64 x.2)).heap[j]? = w.heap[j]? := fun hj =>
    (heap_setCell_other _ _ _ _ (fun e => hj e.symm)).trans (heap_setCell_other _ _ _ _ (fun e => hj e.symm))
  refine ⟨?_, h.tx.keep (o ap.ct) (o ap.ck), h.mx.keep (o ap.cm) (o ap.cr), h.sx.keep (o ap.cs), by simpa using h.chl, h.len⟩
  rw [heap_setCell_same _ _ _ _ _ _ (heap_setCell_same _ _ _ _ _ _ h.hd)]
  congr 2
  simp only [celC, List.setIfInBounds_toArray]
  rw [chC_set x (by rw [h.chl]; exact hp), show 2 + p * 2 = p * 2 + 1 + 1 by omega]
  simp only [List.set_cons_succ]
  rw [List.set_append_left _ _ (by omega), List.set_append_left _ _ (by simp; omega)]
theorem CX.withTx {K : List Int} (h : CX w b C) (hf : Frm [b.k] w w') (ht : Tx w' b.t b.k K) (hl : K.length = C.ks.length) : CX w' b { C with ks := K } := by
  have ap := h.apart
  refine ⟨(hf.block _ (heap_lt h.hd) (by simpa using ap.ck)).trans h.hd, ht, h.mx.frm hf (by simpa using ap.km.symm) (by simpa using ap.kr.symm), h.sx.frm hf (by simpa using ap.ks.symm), h.chl, ?_⟩
  show C.xs.length = 32 * K.length
  rw [hl]; exact h.len
theorem CX.withMx {X : List Int} (h : CX w b C) (hf : Frm [b.r] w w') (hm : Mx w' b.m b.r X) (hl : X.length = C.xs.length) : CX w' b { C with xs := X } := by
  have ap := h.apart
  refine ⟨(hf.block _ (heap_lt h.hd) (by simpa using ap.cr)).trans h.hd, h.tx.frm hf (by simpa using ap.tr) (by simpa using ap.kr), hm, ?_, h.chl, ?_⟩
  · show Sx w' b.s X.length C.ws
    rw [hl]; exact h.sx.frm hf (by simpa using ap.rs.symm)
  · show X.length = 32 * C.ks.length
    rw [hl]; exact h.len
theorem CX.withSx {W : List (BitVec 64)} (h : CX w b C) (hf : Frm [b.s] w w') (hs : Sx w' b.s C.xs.length W) : CX w' b { C with ws := W } := by
  have ap := h.apart
  exact ⟨(hf.block _ (heap_lt h.hd) (by simpa using ap.cs)).trans h.hd, h.tx.frm hf (by simpa using ap.ts) (by simpa using ap.ks), h.mx.frm hf (by simpa using ap.ms) (by simpa using ap.rs), hs, h.chl, h.len⟩
end
/-- The cells' heads stay where a chain is turned. -/
theorem cell_set2 {w : World} {c p o : Nat} {v x y : Value} (ho : o < 2 ∨ 130 ≤ o) (hp : p < 64) (h : w.cell? ⟨c, o, none⟩ = some v) : ((w.setCell ⟨c, 2 + p * 2, none⟩ x).setCell ⟨c, 2 + p * 2 + 1, none⟩ y).cell? ⟨c, o, none⟩ = some v := by
  rw [World.cell?_setCell_other _ _ _ _ (fun e => by have := congrArg Addr.off e; simp only at this; omega), World.cell?_setCell_other _ _ _ _ (fun e => by have := congrArg Addr.off e; simp only at this; omega)]
  exact h
theorem cell_setB {w : World} {c z o o1 o2 : Nat} {v x y : Value} (hc : c ≠ z) (h : w.cell? ⟨c, o, none⟩ = some v) : ((w.setCell ⟨z, o1, none⟩ x).setCell ⟨z, o2, none⟩ y).cell? ⟨c, o, none⟩ = some v := by
  rw [World.cell?_setCell_other _ _ _ _ (fun e => hc (congrArg Addr.block e).symm), World.cell?_setCell_other _ _ _ _ (fun e => hc (congrArg Addr.block e).symm)]
  exact h
theorem fillL_len2 (xs : List Int) (a n : Nat) (v : Int) : (fillL xs a n v).length = xs.length := fillL_len xs a n v
theorem buildL_len (xs : List Int) (p k : Int) : (buildL xs p k).length = xs.length := by unfold buildL; rw [linkL_len, fillL_len]
theorem takeK_len (ks : List Int) (c : Int) : (takeK ks c).length = ks.length := by unfold takeK; split <;> simp
theorem spanK_len (ks : List Int) (n : Int) : (spanK ks n).length = ks.length := by
  unfold spanK; split
  · unfold spanS; simp [fillL_len]
  · rfl
theorem freeL_len (ks : List Int) (p : Int) : (freeL ks p).length = ks.length := by unfold freeL; exact fillL_len _ _ _ _
theorem Frm.sub {fp fp' : List Nat} {w w' : World} (h : Frm fp w w') (hs : ∀ k ∈ fp, k ∈ fp') : Frm fp' w w' := ⟨h.os, h.tape, h.output, h.size, fun k hk hn => h.block k hk (fun hm => hn (hs k hm))⟩
end Go.Proofs.YtfocdbflmodfhaaDoor
