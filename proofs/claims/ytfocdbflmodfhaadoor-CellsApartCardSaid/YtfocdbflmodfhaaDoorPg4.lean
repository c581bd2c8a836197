/- Package page: how many are free; pages that follow one another. -/
import Derived.Test.YtfocdbflmodfhaaDoorPg3
namespace Go.Proofs.YtfocdbflmodfhaaDoor
open Go.RowKit Go.Shelf
attribute [local go_sem] Oper.semAt_some

theorem putObj_keep {W : World} {l k : Nat} {o : Obj} (o' : Obj) {cs : Array Value} {T : TypeId} {fr : Nat × Nat} (hl : W.heap[l]? = some o) (ho : o.isCells = false) (hk : W.heap[k]? = some (.cells cs T fr)) : (W.putObj l o').heap[k]? = some (.cells cs T fr) := by
  refine (World.putObj_heap_other ?_).trans hk
  rintro rfl
  rw [hk] at hl
  cases hl
  simp [Obj.isCells] at ho
theorem putObj_below {W : World} {l B : Nat} (o' : Obj) (h : B ≤ l) : Below B W (W.putObj l o') :=
  ⟨rfl, rfl, rfl, by simp [World.putObj], fun k hk => World.putObj_heap_other (by omega)⟩
theorem Tx.put_obj {W : World} {t k : Nat} {ks : List Int} {l : Nat} {o : Obj} (o' : Obj) (h : Tx W t k ks) (hl : W.heap[l]? = some o) (ho : o.isCells = false) : Tx (W.putObj l o') t k ks :=
  ⟨putObj_keep o' hl ho h.hd, putObj_keep o' hl ho h.row, h.le⟩
def sumR (l : List (Nat × Nat)) : Nat := (l.map (·.2)).sum
theorem runs_sum : ∀ (xs : List Int) (p n : Nat), sumR (runsFrom xs p n) ≤ xs.length + n
  | [], p, n => by
    unfold runsFrom sumR
    split <;> simp
  | x :: xs, p, n => by
    unfold runsFrom
    have h1 := runs_sum xs (p + 1) (n + 1)
    have h2 := runs_sum xs (p + 1) 0
    unfold sumR at h1 h2 ⊢
    split
    · simp; omega
    · split
      · simp; omega
      · simp; omega
theorem sumR_snoc (l : List (Nat × Nat)) (x : Nat × Nat) : sumR (l ++ [x]) = sumR l + x.2 := by simp [sumR]
theorem sumR_pre {ks : List Int} {pre rest : List (Nat × Nat)} {x : Nat × Nat} (h : runsL ks = pre ++ x :: rest) : sumR pre + x.2 ≤ ks.length := by
  have := runs_sum ks 0 0
  unfold runsL at h
  rw [h] at this
  simp [sumR] at this ⊢
  omega
set_option maxRecDepth 100000 in
set_option maxHeartbeats 4000000 in
theorem pcount_in {w : World} {t k : Nat} {ks : List Int} (h : Tx w t k ks) :
    CallsIn Fence.wide 6 Tryd.prog 93 #[.pointer (some ⟨t, 0, none⟩)] w fun e w' => e = .returned (.int .i64 (countL ks)) ∧ Below w.heap.size w w' := by
  have HT := Lib.hid h
  have hle := h.le
  clear h
  refine callsIn_of_wp_marks Tryd.func93 rfl trivial ?_ rfl
  simp only [Tryd.ntmps93, List.size_toArray, List.length_cons, List.length_nil, Nat.reduceAdd, Nat.reduceSub, Array.replicate_succ, Array.replicate_zero, List.push_toArray, List.append_toArray, List.nil_append, List.cons_append]
  gi_wp2
  refine runs_range 6 (by decide) t k ks rfl
    (fun pre W => Tx W t k ks ∧ W.heap[w.heap.size]? = some (.cells #[.int .i64 (sumR pre)] 3 (0, 0)) ∧ Below w.heap.size w W)
    (fun _ _ _ => False)
    (fun pre W h => h.1) (fun pre W l o o' ⟨h1, h2, h3⟩ hB hl ho => ⟨h1.put_obj o' hl ho, putObj_keep o' hl ho h2, h3.trans (putObj_below o' (by simp at hB; omega))⟩)
    (fun _ _ _ _ _ _ h _ _ _ => h) (fun W o ⟨h1, h2, h3⟩ => ⟨h1.below (below_alloc0 _ _), keep_alloc _ h2, h3.alloc h3.size _⟩)
    ⟨HT.out.below (below_alloc0 _ _), heap_alloc_new w _, below_alloc0 _ _⟩
    (fun x => { tmps := #[.pointer (some ⟨t, 0, none⟩), undef, .int .i64 0, .pointer (some ⟨w.heap.size, 0, none⟩), undef, .int .i64 x.2, .pointer (some ⟨t, 0, none⟩), .func (.func 79) #[.pointer (some ⟨t, 0, none⟩)] #[], .int .i64 x.1, .int .i64 x.2, undef, undef, undef, undef], defers := [] }) ?assign ?body ?done ?stop
  case assign =>
    intro l x W K hK
    unfold encR
    gi_wp2
    exact hK
  case body =>
    rintro l pre x rest W ⟨h1, h2, h3⟩ hx
    have hs := sumR_pre hx
    have hks := h1.le
    have c1 : W.cell? ⟨w.heap.size, 0, none⟩ = some (.int .i64 (sumR pre)) := cell_of_row _ _ _ _ _ _ h2
    have f1 := frozen_of_row W w.heap.size 0 _ _ h2
    have H1 := Lib.hid h1
    have H2 := Lib.hid h2
    have H3 := Lib.hid h3
    have HS := Lib.hid (sumR_snoc pre x)
    have HW : Hid (Below w.heap.size w (W.setCell ⟨w.heap.size, 0, none⟩ (.int .i64 ((sumR (pre ++ [x]) : Nat) : Int)))) := Lib.hid (h3.setCell (p := ⟨w.heap.size, 0, none⟩) (Nat.le_refl _) _)
    have htne : t ≠ w.heap.size := by have := heap_lt HT.out.hd; omega
    have hkne : k ≠ w.heap.size := by have := heap_lt HT.out.row; omega
    clear h1 h2 h3 hx
    gi_wp2
    refine ⟨KeepsOthers.setCell _ _ _, trivial, ?_, ?_, ?_⟩
    · exact H1.out.keep (heap_setCell_other _ _ _ _ htne) (heap_setCell_other _ _ _ _ hkne)
    · rw [heap_setCell_same W w.heap.size 0 _ _ _ H2.out, HS.out]
      rfl
    · exact H3.out.setCell (p := ⟨w.heap.size, 0, none⟩) (Nat.le_refl _) _
  case done =>
    rintro D W hD ⟨h1, h2, h3⟩ hK
    have c1 : W.cell? ⟨w.heap.size, 0, none⟩ = some (.int .i64 (sumR (runsL ks))) := cell_of_row _ _ _ _ _ _ h2
    gi_wp2
    refine ⟨by simp, .inl ⟨_, _, rfl, run_takeDeferred hK, ?_⟩⟩
    exact ⟨_, results_tmp rfl _ _ _, rfl, h3.trans (putObj_below _ (by simp at hD; omega))⟩
  case stop =>
    rintro D c pre W _ h _
    exact h.elim
theorem pcount_any {w : World} {t k : Nat} {ks : List Int} (h : Tx w t k ks) :
    Calls Tryd.prog 93 #[.pointer (some ⟨t, 0, none⟩)] w fun e w' => e = .returned (.int .i64 (countL ks)) ∧ Below w.heap.size w w' := callsIn_wide.1 (pcount_in h)
end Go.Proofs.YtfocdbflmodfhaaDoor
