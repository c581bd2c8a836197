/- The law: what is taken lies apart. The operations. -/
import Derived.Test.YtfocdbflmodfhaaDoorCe7
import Derived.Test.YtfocdbflmodfhaaDoorCi7
import Derived.Test.YtfocdbflmodfhaaDoorCi6
import Derived.Test.YtfocdbflmodfhaaDoorOpenOps
import Derived.Test.YtfocdbflmodfhaaDoorClsR
namespace Go.Proofs.YtfocdbflmodfhaaDoor
open Go.RowKit

theorem afew_any (A : Option Addr) (n cap : Nat) (hc : n ≤ cap) (w : World) :
    Calls Tryd.prog 8 #[.slice A n cap] w fun e w' => (∃ cap', e = .returned (.slice A (min n 40) cap')) ∧ w = w' := by
  by_cases h : 40 < n
  · have hd : decide ((40 : Int) < (n : Int)) = true := by rw [decide_eq_true_eq]; omega
    have i2 : (40 : Int) ≤ (cap : Int) := by omega
    rw [Nat.min_eq_right (by omega)]
    go_enter Tryd.func8, Tryd.ntmps8
    go_wp2_with fail
    go_ret
    exact ⟨⟨cap, rfl⟩, rfl⟩
  · have hd : decide ((40 : Int) < (n : Int)) = false := by rw [decide_eq_false_iff_not]; omega
    rw [Nat.min_eq_left (by omega)]
    go_enter Tryd.func8, Tryd.ntmps8
    go_wp2_with fail
    go_ret
    exact ⟨⟨cap, rfl⟩, rfl⟩
theorem cell_blk {w : World} {b i : Nat} {v : Value} (h : w.cell? ⟨b, i, none⟩ = some v) : b < w.heap.size := by
  apply Decidable.byContradiction; intro hc
  have h0 : w.heap[b]? = none := Array.getElem?_eq_none (by omega)
  unfold World.cell? at h
  rw [h0] at h
  cases h
theorem tab_lt {w : World} (h : Tab64 w) : 0 < w.heap.size := cell_blk (h 0 (by decide))
/-- What the second loop holds: the heap of cells, its invariant, the row of what is taken. -/
structure ApR (w wr : World) (b : Bl) (C : Cs) (F : Nat → List Int) (v : Value) : Prop where
  cx : CX wr b C
  inv : Inv C F
  row : IRow w.heap.size wr v (bitsI C.ws)
  below : Below w.heap.size w wr
theorem ApR.next {w wr w' : World} {b : Bl} {C : Cs} {F : Nat → List Int} {v : Value} (h : ApR w wr b C F v) (hb : Below wr.heap.size wr w') : ApR w w' b C F v :=
  ⟨h.cx.below hb, h.inv, h.row.below hb, below_next h.below hb⟩
theorem ApR.cell {w wr : World} {b : Bl} {C : Cs} {F : Nat → List Int} {p : Option Addr} {L q : Nat} (h : ApR w wr b C F (.slice p L q)) {k : Nat} (hk : k < L) : ∃ g, p = some ⟨g, 0, none⟩ ∧ L = (bitsI C.ws).length ∧ wr.cell? ⟨g, k, none⟩ = some (.int .i64 ((bitsI C.ws).getD k 0)) := by
  obtain ⟨p', c', he, -, -, hcell⟩ := h.row.slice
  simp only [Value.slice.injEq] at he
  obtain ⟨e1, e2, -⟩ := he
  obtain ⟨g, h1, -, h3⟩ := hcell k (Nat.lt_of_lt_of_eq hk e2)
  exact ⟨g, e1.trans h1, e2, h3⟩
def ApS (w wr : World) (b : Bl) (N : Nat) : Prop := Holds N b wr ∧ Below w.heap.size w wr ∧ ∀ x ∈ b.fp, w.heap.size ≤ x
theorem ApS.step {w wr w' : World} {b : Bl} {N : Nat} (h : ApS w wr b N) (h1 : Holds N b w') (hf : Frm b.fp wr w') : ApS w w' b N :=
  ⟨h1, h.2.1.trans (hf.below h.2.1.size h.2.2), h.2.2⟩
end Go.Proofs.YtfocdbflmodfhaaDoor
