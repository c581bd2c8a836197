/- Pages' kinds, as lists. -/
import Derived.Test.YtfocdbflmodfhaaDoorInts
import Derived.Test.YtfocdbflmodfhaaDoorGeo
namespace Go.Proofs.YtfocdbflmodfhaaDoor
open Go.RowKit

/-- Of a page. -/
def kindL (ks : List Int) (p : Int) : Int := if p < 0 ∨ (ks.length : Int) ≤ p then -1 else ks.getD p.toNat 0
theorem kindL_out {ks : List Int} {p : Int} (h : p < 0 ∨ (ks.length : Int) ≤ p) : kindL ks p = -1 := by unfold kindL; rw [if_pos h]
theorem kindL_in {ks : List Int} {p : Nat} (h : p < ks.length) : kindL ks p = ks.getD p 0 := by
  unfold kindL; rw [if_neg (by omega), Int.toNat_natCast]
/-- The first free one. -/
def idx0 : List Int → Option Nat
  | [] => none
  | x :: xs => if x = 0 then some 0 else (idx0 xs).map (· + 1)
theorem idx0_some : ∀ {ks : List Int} {m : Nat}, m < ks.length → ks.getD m 0 = 0 → (∀ j, j < m → ks.getD j 0 ≠ 0) → idx0 ks = some m
  | [], m, h, _, _ => absurd h (by simp)
  | x :: xs, 0, _, h, _ => by unfold idx0; rw [if_pos (by simpa using h)]
  | x :: xs, m + 1, h, h0, hj => by
    unfold idx0
    rw [if_neg (by have := hj 0 (by omega); simpa using this), idx0_some (ks := xs) (m := m) (by simpa using h) (by simpa using h0) (fun j h1 => by have := hj (j + 1) (by omega); simpa using this)]
    rfl
theorem idx0_none : ∀ {ks : List Int}, (∀ j, j < ks.length → ks.getD j 0 ≠ 0) → idx0 ks = none
  | [], _ => rfl
  | x :: xs, h => by
    unfold idx0
    rw [if_neg (by have := h 0 (by simp); simpa using this), idx0_none (ks := xs) (fun j h1 => by have := h (j + 1) (by simpa using h1); simpa using this)]
    rfl
/-- How many that belong to a large one follow one another, from a page on. -/
def run6 (ks : List Int) (q : Nat) : Nat := ((ks.drop q).takeWhile (· == 6)).length
theorem run6_step {ks : List Int} {q : Nat} (h : kindL ks q = 6) : run6 ks q = run6 ks (q + 1) + 1 := by
  have hl : q < ks.length := by
    apply Decidable.byContradiction; intro hc
    rw [kindL_out (.inr (by omega))] at h; omega
  rw [kindL_in hl, List.getD_eq_getElem?_getD, List.getElem?_eq_getElem hl] at h
  unfold run6
  rw [List.drop_eq_getElem_cons hl, List.takeWhile_cons, if_pos (by simpa using h), List.length_cons]
theorem run6_stop {ks : List Int} {q : Nat} (h : kindL ks q ≠ 6) : run6 ks q = 0 := by
  unfold run6
  by_cases hl : q < ks.length
  · rw [kindL_in hl, List.getD_eq_getElem?_getD, List.getElem?_eq_getElem hl] at h
    rw [List.drop_eq_getElem_cons hl, List.takeWhile_cons, if_neg (by simpa using h)]; rfl
  · rw [List.drop_of_length_le (by omega)]; rfl
theorem run6_le (ks : List Int) (q : Nat) : run6 ks q ≤ ks.length := by
  unfold run6
  have := List.takeWhile_sublist (l := ks.drop q) (· == 6) |>.length_le
  simp at this; omega
theorem run6_end (ks : List Int) (q : Nat) (h : q ≤ ks.length) : q + run6 ks q ≤ ks.length := by
  unfold run6
  have := List.takeWhile_sublist (l := ks.drop q) (· == 6) |>.length_le
  simp at this; omega
/-- How many begin at a page. -/
def sizeL (ks : List Int) (p : Int) : Int := if 0 < sizeI (kindL ks p) then 1 else if kindL ks p ≠ 5 then 0 else 1 + (run6 ks (p.toNat + 1) : Int)
theorem sizeL_bd (ks : List Int) (p : Int) : 0 ≤ sizeL ks p ∧ sizeL ks p ≤ ks.length + 1 := by
  unfold sizeL
  have := run6_le ks (p.toNat + 1)
  split
  · omega
  · split <;> omega
theorem sizeL_in {ks : List Int} {p : Int} (h : 0 < sizeL ks p) : 0 ≤ p ∧ p + sizeL ks p ≤ ks.length := by
  have hin : 0 ≤ p ∧ p < ks.length := by
    apply Decidable.byContradiction; intro hc
    have hk := kindL_out (ks := ks) (p := p) (by omega)
    unfold sizeL at h
    rw [hk] at h
    simp [sizeI] at h
  unfold sizeL at h ⊢
  split
  · omega
  · rename_i h1
    rw [if_neg h1] at h
    split
    · omega
    · have := run6_end ks (p.toNat + 1) (by omega)
      omega
/-- The page where what a page belongs to begins. -/
def downL (ks : List Int) : Nat → Int
  | 0 => if kindL ks 0 = 6 then -1 else 0
  | p + 1 => if kindL ks ((p + 1 : Nat) : Int) = 6 then downL ks p else ((p + 1 : Nat) : Int)
def firstL (ks : List Int) (p : Int) : Int :=
  let q := if p < 0 then p else downL ks p.toNat
  if sizeL ks q = 0 then -1 else q
theorem downL_stop {ks : List Int} {p : Nat} (h : kindL ks p ≠ 6) : downL ks p = p := by
  cases p with
  | zero =>
    have h' : kindL ks 0 ≠ 6 := h
    unfold downL; rw [if_neg h']; rfl
  | succ p => unfold downL; rw [if_neg h]
theorem downL_step {ks : List Int} {p : Nat} (h : kindL ks ((p + 1 : Nat) : Int) = 6) : downL ks (p + 1) = downL ks p := by
  rw [downL, if_pos h]
theorem downL_zero {ks : List Int} (h : kindL ks 0 = 6) : downL ks 0 = -1 := by rw [downL, if_pos h]
/-- Each run of free ones: from where on, and how long. -/
def runsFrom : List Int → Nat → Nat → List (Nat × Nat)
  | [], p, n => if 0 < n then [(p - n, n)] else []
  | x :: xs, p, n => if x = 0 then runsFrom xs (p + 1) (n + 1) else if 0 < n then (p - n, n) :: runsFrom xs (p + 1) 0 else runsFrom xs (p + 1) 0
def runsL (ks : List Int) : List (Nat × Nat) := runsFrom ks 0 0
/-- Pages, taken and given back. -/
def spanL (ks : List Int) (n : Int) : Option Nat := if n < 1 then none else ((runsL ks).find? fun r => decide (n ≤ (r.2 : Int))).map (·.1)
def countL (ks : List Int) : Nat := ((runsL ks).map (·.2)).sum
def freeL (ks : List Int) (p : Int) : List Int := fillL ks p.toNat (sizeL ks p).toNat 0
/-- A table: its block, and its kinds. -/
structure Tx (w : World) (t k : Nat) (ks : List Int) : Prop where
  hd : w.heap[t]? = some (.cells #[.bool true, .slice (some ⟨k, 0, none⟩) ks.length ks.length] 90 (0, 0))
  row : w.heap[k]? = some (.cells (ints ks) 3 (0, 0))
  le : ks.length ≤ 64
theorem Tx.keep {w w' : World} {t k : Nat} {ks : List Int} (h : Tx w t k ks) (h1 : w'.heap[t]? = w.heap[t]?) (h2 : w'.heap[k]? = w.heap[k]?) : Tx w' t k ks := ⟨h1.trans h.hd, h2.trans h.row, h.le⟩
theorem Tx.below {w w' : World} {t k : Nat} {ks : List Int} (h : Tx w t k ks) (hb : Below w.heap.size w w') : Tx w' t k ks := h.keep (hb.block t (heap_lt h.hd)) (hb.block k (heap_lt h.row))
theorem Tx.frm {w w' : World} {t k : Nat} {ks : List Int} {fp : List Nat} (h : Tx w t k ks) (hf : Frm fp w w') (h1 : t ∉ fp) (h2 : k ∉ fp) : Tx w' t k ks := h.keep (hf.block t (heap_lt h.hd) h1) (hf.block k (heap_lt h.row) h2)
theorem Tx.ne {w : World} {t k : Nat} {ks : List Int} (h : Tx w t k ks) : t ≠ k := by
  rintro rfl
  have := h.hd.symm.trans h.row
  simp at this
theorem Tx.put {w : World} {t k : Nat} {ks : List Int} (h : Tx w t k ks) (i : Nat) (v : Int) : Tx (w.setCell ⟨k, i, none⟩ (.int .i64 v)) t k (ks.set i v) := by
  refine ⟨?_, ?_, by simpa using h.le⟩
  · rw [heap_setCell_other _ _ _ _ h.ne, h.hd, List.length_set]
  · rw [heap_setCell_same w k i _ _ _ h.row, ints_set]
theorem Tx.cells {w : World} {t k : Nat} {ks : List Int} (h : Tx w t k ks) : w.cell? ⟨t, 0, none⟩ = some (.bool true) ∧ w.cell? ⟨t, 1, none⟩ = some (.slice (some ⟨k, 0, none⟩) ks.length ks.length) := ⟨cell_of_row _ _ _ _ _ _ h.hd, cell_of_row _ _ _ _ _ _ h.hd⟩
theorem Tx.kind {w : World} {t k : Nat} {ks : List Int} (h : Tx w t k ks) {i : Nat} (hi : i < ks.length) : w.cell? ⟨k, i, none⟩ = some (.int .i64 (ks.getD i 0)) := by
  rw [cell_of_row _ _ _ _ _ _ h.row, ints_get hi]
end Go.Proofs.YtfocdbflmodfhaaDoor
