/- Words in memory, as lists. -/
import Derived.Test.YtfocdbflmodfhaaDoorOwn
import Derived.Test.YtfocdbflmodfhaaDoorProg
namespace Go.Proofs.YtfocdbflmodfhaaDoor
open Go.RowKit

/-- Numbers, as cells. -/
def ints (xs : List Int) : Array Value := (xs.map (Value.int .i64)).toArray
theorem ints_size (xs : List Int) : (ints xs).size = xs.length := by simp [ints]
theorem ints_get {xs : List Int} {i : Nat} (h : i < xs.length) : (ints xs)[i]? = some (.int .i64 (xs.getD i 0)) := by
  simp [ints, List.getD_eq_getElem?_getD, List.getElem?_eq_getElem h]
theorem ints_set (xs : List Int) (i : Nat) (v : Int) : (ints xs).setIfInBounds i (.int .i64 v) = ints (xs.set i v) := by
  simp [ints, List.map_set]
/-- Some words become one. -/
def fillL (xs : List Int) (a : Nat) : Nat → Int → List Int
  | 0, _ => xs
  | n + 1, v => (fillL xs a n v).set (a + n) v
theorem fillL_len (xs : List Int) (a n : Nat) (v : Int) : (fillL xs a n v).length = xs.length := by
  induction n with
  | zero => rfl
  | succ n ih => simp [fillL, ih]
theorem fillL_get (xs : List Int) (a n : Nat) (v : Int) (i : Nat) (hi : i < xs.length) : (fillL xs a n v).getD i 0 = if a ≤ i ∧ i < a + n then v else xs.getD i 0 := by
  induction n with
  | zero => simp [fillL]; intro h1 h2; omega
  | succ n ih =>
    simp only [fillL]
    by_cases e : a + n = i
    · rw [e, getD_set_same (by rw [fillL_len]; exact hi), if_pos (by omega)]
    · rw [getD_set_other e, ih]
      by_cases h : a ≤ i ∧ i < a + n
      · rw [if_pos h, if_pos (by omega)]
      · rw [if_neg h, if_neg (by omega)]
/-- A memory: its block, and its words. -/
structure Mx (w : World) (m r : Nat) (xs : List Int) : Prop where
  hd : ∃ c, xs.length ≤ c ∧ c ≤ maxLen ∧ w.heap[m]? = some (.cells #[.bool true, .slice (some ⟨r, 0, none⟩) xs.length c] 88 (0, 0))
  row : ∃ zs, w.heap[r]? = some (.cells (xs.map (Value.int .i64) ++ zs).toArray 2 (0, 0))
  le : xs.length ≤ 2048
theorem Mx.keep {w w' : World} {m r : Nat} {xs : List Int} (h : Mx w m r xs) (h1 : w'.heap[m]? = w.heap[m]?) (h2 : w'.heap[r]? = w.heap[r]?) : Mx w' m r xs := by
  obtain ⟨⟨c, hc, hc2, hd⟩, ⟨zs, hr⟩, hl⟩ := h
  exact ⟨⟨c, hc, hc2, h1.trans hd⟩, ⟨zs, h2.trans hr⟩, hl⟩
theorem Mx.lt {w : World} {m r : Nat} {xs : List Int} (h : Mx w m r xs) : m < w.heap.size ∧ r < w.heap.size := by
  obtain ⟨⟨c, hc, hc2, hd⟩, ⟨zs, hr⟩, hl⟩ := h
  exact ⟨heap_lt hd, heap_lt hr⟩
theorem Mx.below {w w' : World} {m r : Nat} {xs : List Int} (h : Mx w m r xs) (hb : Below w.heap.size w w') : Mx w' m r xs := h.keep (hb.block m h.lt.1) (hb.block r h.lt.2)
theorem Mx.frm {w w' : World} {m r : Nat} {xs : List Int} {fp : List Nat} (h : Mx w m r xs) (hf : Frm fp w w') (h1 : m ∉ fp) (h2 : r ∉ fp) : Mx w' m r xs := h.keep (hf.block m h.lt.1 h1) (hf.block r h.lt.2 h2)
theorem Mx.ne {w : World} {m r : Nat} {xs : List Int} (h : Mx w m r xs) : m ≠ r := by
  rintro rfl
  obtain ⟨⟨c, hc, hc2, hd⟩, ⟨zs, hr⟩, hl⟩ := h
  have := hd.symm.trans hr
  simp at this
theorem Mx.put {w : World} {m r : Nat} {xs : List Int} (h : Mx w m r xs) {i : Nat} (hi : i < xs.length) (v : Int) : Mx (w.setCell ⟨r, i, none⟩ (.int .i64 v)) m r (xs.set i v) := by
  have hne := h.ne
  obtain ⟨⟨c, hc, hc2, hd⟩, ⟨zs, hr⟩, hl⟩ := h
  refine ⟨⟨c, by simpa using hc, hc2, ?_⟩, ⟨zs, ?_⟩, by simpa using hl⟩
  · rw [heap_setCell_other _ _ _ _ hne, hd, List.length_set]
  · rw [heap_setCell_same w r i _ _ _ hr]
    simp only [List.setIfInBounds_toArray, List.map_set]
    rw [List.set_append_left _ _ (by simpa using hi)]
theorem Mx.cells {w : World} {m r : Nat} {xs : List Int} (h : Mx w m r xs) : ∃ c, xs.length ≤ c ∧ c ≤ maxLen ∧ w.cell? ⟨m, 0, none⟩ = some (.bool true) ∧ w.cell? ⟨m, 1, none⟩ = some (.slice (some ⟨r, 0, none⟩) xs.length c) := by
  obtain ⟨⟨c, hc, hc2, hd⟩, ⟨zs, hr⟩, hl⟩ := h
  exact ⟨c, hc, hc2, cell_of_row _ _ _ _ _ _ hd, cell_of_row _ _ _ _ _ _ hd⟩
theorem Mx.word {w : World} {m r : Nat} {xs : List Int} (h : Mx w m r xs) {i : Nat} (hi : i < xs.length) : w.cell? ⟨r, i, none⟩ = some (.int .i64 (xs.getD i 0)) ∧ w.frozen? ⟨r, i, none⟩ = false := by
  obtain ⟨⟨c, hc, hc2, hd⟩, ⟨zs, hr⟩, hl⟩ := h
  refine ⟨?_, frozen_of_row _ _ _ _ _ hr⟩
  rw [cell_of_row _ _ _ _ _ _ hr, List.getElem?_toArray, List.getElem?_append_left (by simpa using hi), List.getElem?_map, List.getD_eq_getElem?_getD, List.getElem?_eq_getElem hi]
  rfl
theorem Mx.of_block {w : World} {m r : Nat} {xs : List Int} (h1 : w.heap[m]? = some (.cells #[.bool true, .slice (some ⟨r, 0, none⟩) xs.length xs.length] 88 (0, 0))) (h2 : w.heap[r]? = some (.cells (ints xs) 2 (0, 0))) (hl : xs.length ≤ 2048) : Mx w m r xs :=
  ⟨⟨_, Nat.le_refl _, by unfold maxLen; omega, h1⟩, ⟨[], by rw [List.append_nil]; exact h2⟩, hl⟩
/-- Are so many words there, from an address on? -/
def fitB (n : Nat) (a k : Int) : Bool := decide (0 ≤ a) && decide (0 ≤ k) && decide (a + k ≤ n)
end Go.Proofs.YtfocdbflmodfhaaDoor
