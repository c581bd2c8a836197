/- Rows of whole numbers: appended to, read, cloned. -/
import Derived.Test.YtfocdbflmodfhaaDoorMe0
import Derived.Laws.Cover3
namespace Go.Proofs.YtfocdbflmodfhaaDoor
open Go.RowKit

theorem info_num : (Tryd.prog.info? 3).map (fun i => (i.zero, i.size, i.bytes)) = some (some (.int .i64 0), 1, 8) := by kernel_rfl
/-- A row of numbers of the call's own. -/
def IRow (base : Nat) (w : World) (v : Value) (xs : List Int) : Prop := w.ownsRow base 3 1 v xs.length (xs.map (Value.int .i64))
theorem IRow.nil (base : Nat) (w : World) : IRow base w (.slice none 0 0) [] := ⟨rfl, .inl ⟨rfl, rfl⟩⟩
theorem IRow.below {base : Nat} {w w' : World} {v : Value} {xs : List Int} (h : IRow base w v xs) (hb : Below w.heap.size w w') : IRow base w' v xs := pw_own_keep h hb
theorem IRow.frm {base : Nat} {w w' : World} {v : Value} {xs : List Int} {fp : List Nat} (h : IRow base w v xs) (hf : Frm fp w w') (hd : ∀ k ∈ fp, k < base) : IRow base w' v xs :=
  ⟨h.1, h.2.imp id fun ⟨g, cap, cur, hv, hg, hh, r⟩ => ⟨g, cap, cur, hv, hg, (hf.block g (heap_lt hh) (fun hm => by have := hd g hm; omega)).trans hh, r⟩⟩
theorem IRow.mono {base base' : Nat} {w : World} {v : Value} {xs : List Int} (h : IRow base w v xs) (hb : base' ≤ base) : IRow base' w v xs := own_mono h hb
theorem IRow.slice {base : Nat} {w : World} {v : Value} {xs : List Int} (h : IRow base w v xs) : ∃ p cap, v = .slice p xs.length cap ∧ xs.length ≤ cap ∧ xs.length ≤ maxLen ∧ (∀ j, j < xs.length → ∃ b, p = some ⟨b, 0, none⟩ ∧ base ≤ b ∧ w.cell? ⟨b, j, none⟩ = some (.int .i64 (xs.getD j 0))) := by
  have h' := h
  rcases h.2 with ⟨rfl, h0⟩ | ⟨g, cap, cur, rfl, hg, hh, hc, hm, _⟩
  · refine ⟨none, 0, ?_, by omega, by rw [h0]; exact Nat.zero_le _, fun j hj => by omega⟩
    rw [h0]
  · refine ⟨_, cap, rfl, hc, by omega, fun j hj => ⟨g, rfl, hg, ?_⟩⟩
    rw [h'.cellAt j (by omega), List.getElem?_map, List.getD_eq_getElem?_getD, List.getElem?_eq_getElem hj]; rfl
/-- One more. -/
theorem wpList_append_num {w : World} {ops : Array Oper} {rest : List Oper} {o : Oper} {a : Act} {Q : Exit → Act → World → Prop} (hgd : o.guard = none) (s x : Operand)
    (ho : o.op = .call { callee := .builtin .append, args := #[s, x], argTypes := #[32, 32] }) (base : Nat) (w0 : World) (v : Value) (xs : List Int) (y : Int)
    (hs : a.eval s = v) (hown : IRow base w v xs) (hx : a.eval x = .slice (some ⟨w.heap.size, 0, none⟩) 1 1) (hn : xs.length + 1 ≤ 1000000) (hB : Below base w0 w) (hb : base ≤ w.heap.size)
    (h : ∀ v' w', IRow base w' v' (xs ++ [y]) → Below base w0 w' → (w.alloc (.cells #[.int .i64 y] 3 (0, 0))).grownBy w' v.ownBlock → wpList Tryd.prog ops Q rest (a.put o.dst v') w') : wpList Tryd.prog ops Q (o :: rest) a (w.alloc (.cells #[.int .i64 y] 3 (0, 0))) := by
  obtain ⟨i0, hi, hz0, hz1, hz2⟩ := info_parts info_num
  refine wpList_append_own _ hgd s x 32 ho base 3 i0 (.int .i64 0) 1 8 Tryd.underlying32 hi hz0 hz1 hz2 rfl (by decide) v xs.length _ hs (World.ownsRow.alloc hown _) ⟨w.heap.size, 0, none⟩ 1 1 [.int .i64 y] hx rfl
    (cell_new1 _ _ _ _) (by simp [Value.oneCell']) (by unfold maxLen; omega) (by omega) (by simp; omega) ?_
  intro v' w1 hown' hgrow _
  have h1 : Below base w0 (w.alloc (.cells #[.int .i64 y] 3 (0, 0))) := hB.alloc hb _
  refine h v' w1 ?_ (h1.grown hgrow (by simp; omega) (own_base hown)) hgrow
  unfold IRow
  rw [List.length_append, List.map_append]
  exact hown'
/-- A row that is whole, not nil, becomes one of the call's own. -/
theorem ints_news {w : World} {b : Nat} {xs : List Int} {T : TypeId} (h : w.heap[b]? = some (.cells (ints xs) T (0, 0))) : ∀ j u, (xs.map (Value.int .i64))[j]? = some u → w.cell? ((⟨b, 0, none⟩ : Addr).add j) = some u := by
  intro j u hj
  have hadd : (⟨b, 0, none⟩ : Addr).add j = ⟨b, j, none⟩ := by unfold Addr.add; split <;> simp_all
  rw [hadd, cell_of_row _ _ _ _ _ _ h]
  simpa [ints] using hj
theorem ints_one (xs : List Int) : ∀ u ∈ xs.map (Value.int .i64), u.oneCell' = true := by
  intro u hu
  obtain ⟨x, _, rfl⟩ := List.mem_map.1 hu
  rfl
/-- Two lists of a call's own. -/
theorem eql_slice_nil0 {P : Program} (t e : TypeId) (a : Option Addr) (l c : Nat) (h : P.underlying t = some (.slice e)) (w : World) : (binOp .eql t (.slice a l c) (.slice none 0 0)).run P w = .ok (.bool a.isNone) w := by
  simp only [binOp]
  simp [run_equal_slice_nil w t e a l c h]
end Go.Proofs.YtfocdbflmodfhaaDoor
