/- More words on blocks that stay as they are. -/
import Derived.Test.YtfocdbflmodfhaaDoorKit
import Derived.Deep.MidRow
namespace Go.Proofs.YtfocdbflmodfhaaDoor
open Go.RowKit
theorem heap_lt {w : World} {k : Nat} {o : Obj} (h : w.heap[k]? = some o) : k < w.heap.size := (Array.getElem?_eq_some_iff.1 h).1
theorem keep {w w1 : World} (hb : Below w.heap.size w w1) {k : Nat} {o : Obj} (h : w.heap[k]? = some o) : w1.heap[k]? = some o := (hb.block k (heap_lt h)).trans h
theorem alloc_at (w : World) (o : Obj) {k : Nat} (h : w.heap.size = k) : (w.alloc o).heap[k]? = some o := by subst h; exact heap_alloc_new w o
theorem keep_alloc {w : World} (x : Obj) {k : Nat} {o : Obj} (h : w.heap[k]? = some o) : (w.alloc x).heap[k]? = some o := keep (below_alloc0 w x) h
theorem keep_at {B : Nat} {w w1 : World} (hb : Below B w w1) {k : Nat} {o : Obj} (h : w.heap[k]? = some o) (hk : k < B) : w1.heap[k]? = some o := (hb.block k hk).trans h
theorem below_then {B : Nat} {w w1 w2 : World} (h : Below B w w1) (k : Below w1.heap.size w1 w2) (hB : B ≤ w1.heap.size) : Below B w w2 := h.trans (k.mono hB)
/-- Whatever came of the call, one step more. -/
theorem below_next {w w1 w2 : World} (h : Below w.heap.size w w1) (k : Below w1.heap.size w1 w2) : Below w.heap.size w w2 := h.trans (k.mono h.size)
theorem below_new {w w1 : World} (h : Below w.heap.size w w1) (o : Obj) : Below w.heap.size w (w1.alloc o) := h.alloc h.size o
/-- A guarded operation whose guard is known to want it: the same goal without the guard. -/
theorem gate_guard {P : Program} {ops : Array Oper} {rest : List Oper} {o : Oper} {a : Act} {Q : Exit → Act → World → Prop} {W : World} (hw : Region.wanted o (yielded ops a.tmps) = true)
    (h : wpList P ops Q ({ o with guard := none } :: rest) a W) : wpList P ops Q (o :: rest) a W := by
  have h1 : Region.wanted { o with guard := none } (yielded ops a.tmps) = true := rfl
  unfold wpList at h ⊢
  rw [if_pos h1] at h
  rw [if_pos hw]
  exact h
theorem range_of_row {w : World} {g : Nat} {cs : Array Value} {t : TypeId} {fr : Nat × Nat} (h : w.heap[g]? = some (.cells cs t fr)) : w.rangeAt g 0 cs.toList := by
  intro j v hv
  rw [Nat.zero_add, cell_of_row _ _ _ _ _ _ h, ← hv, Array.getElem?_toList]
theorem cell_keep {w w1 : World} (hb : Below w.heap.size w w1) {a : Addr} {v : Value} (h : w.cell? a = some v) : w1.cell? a = some v := (hb.cell (World.block_lt_of_cell? w a h)).trans h
theorem range_keep {w w1 : World} (hb : Below w.heap.size w w1) {g o : Nat} {cs : List Value} (h : w.rangeAt g o cs) : w1.rangeAt g o cs := fun j v hv => cell_keep hb (h j v hv)
/-- What the call owns, it owns behind another call too. -/
theorem pw_own_keep {w w1 : World} {base e size n : Nat} {v : Value} {xs : List Value} (h : w.ownsRow base e size v n xs) (hb : Below w.heap.size w w1) : w1.ownsRow base e size v n xs :=
  ⟨h.1, h.2.imp id fun ⟨g, cap, cur, hv, hg, hh, r⟩ => ⟨g, cap, cur, hv, hg, keep hb hh, r⟩⟩
/-- A slice literal: the call's own. -/
theorem own_new {w : World} {base e size : Nat} (cs : List Value) (g n : Nat) (hg : w.heap.size = g) (hb : base ≤ g) (hn : cs.length = n * size) (hm : n ≤ maxLen) :
    (w.alloc (.cells cs.toArray e (0, 0))).ownsRow base e size (.slice (some ⟨g, 0, none⟩) n n) n cs := by
  subst hg
  exact ⟨hn, .inr ⟨w.heap.size, n, cs.toArray, rfl, hb, heap_alloc_new w _, Nat.le_refl _, hm, by simpa using hn, by simp [List.take_of_length_le (Nat.le_of_eq hn)]⟩⟩
theorem RdB.of_ownc {w : World} {base e n : Nat} {v : Value} {xs : List Int} (h : w.ownsRow base e 1 v n (xs.map (Value.int .u8))) (hb : ∀ x ∈ xs, 0 ≤ x ∧ x ≤ 255) (hn : n ≤ 9223372036854775807) :
    ∃ A cap, v = .slice A n cap ∧ n ≤ cap ∧ RdB w A n xs := by
  obtain ⟨A, cap, hv, hr⟩ := RdB.of_own h hb hn
  refine ⟨A, cap, hv, ?_, hr⟩
  rcases h.2 with ⟨h1, h2⟩ | ⟨g, cap', cur, h1, _, _, hc, _⟩
  · omega
  · rw [hv] at h1
    cases h1
    exact hc
/-- A part of a slice of octets. -/
theorem RdB.part {w : World} {b o n : Nat} {xs : List Int} (h : RdB w (some ⟨b, o, none⟩) n xs) (lo m : Nat) (hm : lo + m ≤ n) : RdB w (some ⟨b, o + lo, none⟩) m ((xs.drop lo).take m) :=
  ⟨by have := h.len; simp; omega, by have := h.max; omega, fun x hx => h.byte x (List.mem_of_mem_drop (List.mem_of_mem_take hx)), fun h0 => by
    obtain ⟨b', o', e, hc⟩ := h.cell (by omega)
    cases e
    refine ⟨_, _, rfl, fun j hj => ?_⟩
    have := hc (lo + j) (by omega)
    rw [Nat.add_assoc, this]
    simp only [List.getD_eq_getElem?_getD, List.getElem?_take, hj, if_true, List.getElem?_drop]⟩
theorem RdB.drew {w : World} {A : Option Addr} {n : Nat} {xs : List Int} (h : RdB w A n xs) : RdB w.drew A n xs := h.below (Below.refl _ _).drew
theorem RdB.alloc {w : World} {A : Option Addr} {n : Nat} {xs : List Int} (h : RdB w A n xs) (o : Obj) : RdB (w.alloc o) A n xs := h.below (below_alloc0 w o)
end Go.Proofs.YtfocdbflmodfhaaDoor
