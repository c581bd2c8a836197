/- A slice of steps that is read. -/
import Derived.Test.YtaefcmmjeloccaaKit2
import Derived.Test.YtaefcmmjeloccaaStp0
import Derived.Test.YtaefcmmjeloccaaAns0
namespace Go.Proofs.Ytaefcmmjeloccaa
open Go.RowKit

structure RdX (w : World) (A : Option Addr) (n : Nat) (xs : List Stp) : Prop where
  len : xs.length = n
  max : n * 56 ≤ 140737488355328
  cell : 0 < n → ∃ b o, A = some ⟨b, o, none⟩ ∧ ∀ j, j < n → ∀ k v, (xs.getD j Stp.zero).cells[k]? = some v → w.cell? ⟨b, o + j * 7 + k, none⟩ = some v
theorem RdX.below {w w' : World} {A : Option Addr} {n : Nat} {xs : List Stp} (h : RdX w A n xs) (hb : Below w.heap.size w w') : RdX w' A n xs :=
  ⟨h.len, h.max, fun h0 => by
    obtain ⟨b, o, e, hc⟩ := h.cell h0
    exact ⟨b, o, e, fun j hj k v hv => cell_keep hb (hc j hj k v hv)⟩⟩
theorem RdX.nil (w : World) : RdX w none 0 [] := ⟨rfl, by omega, fun h => absurd h (by omega)⟩
theorem RdX.take {w : World} {A : Option Addr} {n m : Nat} {xs : List Stp} (h : RdX w A n xs) (hm : m ≤ n) : RdX w A m (xs.take m) :=
  ⟨by have := h.len; simp; omega, by have := h.max; omega, fun h0 => by
    obtain ⟨b, o, e, hc⟩ := h.cell (by omega)
    refine ⟨b, o, e, fun j hj k v hv => hc j (by omega) k v ?_⟩
    rw [← hv]
    congr 2
    simp only [List.getD_eq_getElem?_getD, List.getElem?_take, hj, if_true]⟩
theorem stp_cells_at {w : World} {b o j : Nat} {x : Stp} (h : ∀ k v, x.cells[k]? = some v → w.cell? ⟨b, o + j * 7 + k, none⟩ = some v) :
    w.cell? ⟨b, o + j * 7, none⟩ = some (.int .i64 x.k) ∧ w.cell? ⟨b, o + j * 7 + 1, none⟩ = some (.int .i64 x.t) ∧ w.cell? ⟨b, o + j * 7 + 2, none⟩ = some (.int .i64 x.i) ∧ w.cell? ⟨b, o + j * 7 + 3, none⟩ = some (.int .i64 x.f) ∧
      w.cell? ⟨b, o + j * 7 + 4, none⟩ = some (.int .i64 x.j) ∧ w.cell? ⟨b, o + j * 7 + 5, none⟩ = some (.int .i64 x.c) ∧ w.cell? ⟨b, o + j * 7 + 6, none⟩ = some (.int .i64 x.n) :=
  ⟨h 0 _ rfl, h 1 _ rfl, h 2 _ rfl, h 3 _ rfl, h 4 _ rfl, h 5 _ rfl, h 6 _ rfl⟩
end Go.Proofs.Ytaefcmmjeloccaa
