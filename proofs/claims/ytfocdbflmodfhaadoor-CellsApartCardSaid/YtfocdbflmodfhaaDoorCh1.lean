/- Free cells of a page: opened, linked. -/
import Derived.Test.YtfocdbflmodfhaaDoorMe1
namespace Go.Proofs.YtfocdbflmodfhaaDoor
open Go.RowKit

/-- Has a page cells of a class? -/
structure OpP (len : Nat) (p k : Int) : Prop where
  p0 : 0 ≤ p
  p1 : p < 64
  k0 : 1 ≤ k
  k1 : k ≤ 4
  fit : p * 32 + 32 ≤ len
set_option maxHeartbeats 4000000 in
set_option maxRecDepth 100000 in
theorem open_yes {w : World} {m r : Nat} {xs : List Int} (h : Mx w m r xs) (p k : Int) (hp : OpP xs.length p k) :
    Calls Tryd.prog 73 #[.pointer (some ⟨m, 0, none⟩), .int .i64 p, .int .i64 k] w fun e w' => e = .returned (.tuple #[.agg #[.pointer (some ⟨m, 0, none⟩), .int .i64 p, .int .i64 k, .int .i64 (cellsI k)], .bool true]) ∧ Below w.heap.size w w' := by
  have H := Lib.hid h
  have HP := Lib.hid (show endB p 1 = true by have := hp.p0; have := hp.p1; simp [endB]; omega)
  have hc := cellsI_pos ⟨hp.k0, hp.k1⟩
  have hle := h.le
  have hl : ((p + 1) * 32 - 1) < (xs.length : Int) := by have := hp.fit; omega
  have h0 : 0 < cellsI k := by omega
  obtain ⟨n, hn⟩ : ∃ n, n = xs.length := ⟨_, rfl⟩
  rw [← hn] at hl
  have HN := Lib.hid hn
  have a0 : ∀ B : Obj, ((w.alloc (.cells #[.pointer none, .int .i64 0, .int .i64 0, .int .i64 0] 97)).alloc B).heap[w.heap.size]? = some (.cells #[.pointer none, .int .i64 0, .int .i64 0, .int .i64 0] 97 (0, 0)) := fun B => keep_alloc _ (heap_alloc_new w _)
  have A0 := Lib.hid a0
  have HW := Lib.hid (h.below (((Below.refl w.heap.size w).alloc (Nat.le_refl _) (.cells #[.pointer none, .int .i64 0, .int .i64 0, .int .i64 0] 97)).alloc (by simp) (.cells #[.pointer (some ⟨m, 0, none⟩), .int .i64 p, .int .i64 k, .int .i64 (cellsI k)] 97)).drew)
  clear h hp hc hle hn a0
  go_enter Tryd.func73, Tryd.ntmps73
  go_wp2_with (first
    | (go_at_call 50; refine (cells_any k _).mono ?_; rintro e w' ⟨rfl, rfl⟩)
    | (go_at_call 43; refine (ends_yes p 1 HP.out _).mono ?_; rintro e w' ⟨rfl, rfl⟩))
  go_region_held3 (fun w' => w'.cell? ⟨w.heap.size + 1, 0, none⟩ = some (.pointer (some ⟨m, 0, none⟩)) ∧ w'.cell? ⟨w.heap.size + 1, 1, none⟩ = some (.int .i64 p) ∧ w'.cell? ⟨w.heap.size + 1, 2, none⟩ = some (.int .i64 k) ∧ w'.cell? ⟨w.heap.size + 1, 3, none⟩ = some (.int .i64 (cellsI k))) (go_keep)
    ((go_at_call 29; refine (len_any HW.out).mono ?_; rw [← HN.out]; rintro e w1 ⟨rfl, rfl⟩))
  go_wp2_with fail
  have e0 : ∀ A B : Obj, ((w.alloc A).alloc B).drew.heap[w.heap.size]? = some A := fun A B => keep_alloc _ (heap_alloc_new w _)
  exact bodyPost_ret (results_row_tmp rfl _ _ w.heap.size 97 #[.pointer (some ⟨m, 0, none⟩), .int .i64 p, .int .i64 k, .int .i64 (cellsI k)] (0, 0) _ rfl (e0 _ _) Tryd.underlying97 rfl (by kernel_rfl)) rfl
    ⟨rfl, (((Below.refl w.heap.size w).alloc (Nat.le_refl _) _).alloc (by simp) _).drew⟩
/-- A cell's address. -/
def cad (p k i : Int) : Int := p * 32 + i * sizeI k
theorem at_cad (p k i : Int) (h : atB p k i = true) (w : World) :
    Calls Tryd.prog 38 #[.int .i64 p, .int .i64 k, .int .i64 i] w fun e w' => e = .returned (.tuple #[.int .i64 (cad p k i), .bool true]) ∧ w = w' := at_yes p k i h w
theorem cad_in {len : Nat} {p k i : Int} (h : OpP len p k) (h0 : 0 ≤ i) (h1 : i < cellsI k) : atB p k i = true ∧ 0 ≤ cad p k i ∧ p * 32 ≤ cad p k i ∧ cad p k i + sizeI k ≤ p * 32 + 32 ∧ cad p k i + 2 ≤ len := by
  obtain ⟨a, b, c, d, e⟩ := h
  have hc : k = 1 ∨ k = 2 ∨ k = 3 ∨ k = 4 := by omega
  refine ⟨by simp [atB]; omega, ?_⟩
  unfold cad
  rcases hc with rfl | rfl | rfl | rfl <;> simp [cellsI, sizeI] at * <;> omega
set_option maxHeartbeats 1000000 in
set_option maxRecDepth 100000 in
theorem link_any {w : World} {m r : Nat} {xs : List Int} (h : Mx w m r xs) (p k i nx : Int) (hp : OpP xs.length p k) (h0 : 0 ≤ i) (h1 : i < cellsI k) (hn0 : 0 ≤ nx) (hn1 : nx ≤ 1000000) :
    Calls Tryd.prog 74 #[.agg #[.pointer (some ⟨m, 0, none⟩), .int .i64 p, .int .i64 k, .int .i64 (cellsI k)], .int .i64 i, .int .i64 nx] w fun e w' => (∃ v, e = .returned v) ∧ Mx w' m r (putL xs (cad p k i) (-1 - nx)) ∧ Frm [r] w w' := by
  obtain ⟨hat, -⟩ := cad_in hp h0 h1
  have HA := Lib.hid hat
  have H := Lib.hid (h.below (below_alloc0 w (.cells #[.pointer (some ⟨m, 0, none⟩), .int .i64 p, .int .i64 k, .int .i64 (cellsI k)] 97)))
  clear h hp h0 h1 hat
  go_enter Tryd.func74, Tryd.ntmps74
  go_wp2_with (first
    | (go_at_call 38; refine (at_yes p k i HA.out _).mono ?_; rintro e w' ⟨rfl, rfl⟩)
    | (go_at_call 26; refine (store_any H.out _ _).mono ?_; rintro e w' ⟨rfl, hm, hf⟩; have HM := Lib.hid hm; have HF := Lib.hid hf; clear hm hf))
  go_end0
  exact ⟨⟨_, rfl⟩, HM.out, (Frm.of_below [r] (below_alloc0 w _)).trans HF.out (fun x hx => .inl hx)⟩
set_option maxHeartbeats 1000000 in
set_option maxRecDepth 100000 in
theorem is_yes (m : Nat) (p k i : Int) (h0 : 0 ≤ i) (h1 : i < cellsI k) (w : World) :
    Calls Tryd.prog 75 #[.agg #[.pointer (some ⟨m, 0, none⟩), .int .i64 p, .int .i64 k, .int .i64 (cellsI k)], .int .i64 i] w fun e w' => e = .returned (.bool true) ∧ Below w.heap.size w w' := by
  go_enter Tryd.func75, Tryd.ntmps75
  go_wp2_with fail
  go_ret
  exact ⟨rfl, below_alloc0 _ _⟩
set_option maxHeartbeats 1000000 in
set_option maxRecDepth 100000 in
theorem cnext_yes {w : World} {m r : Nat} {xs : List Int} (h : Mx w m r xs) (p k i y : Int) (hp : OpP xs.length p k) (h0 : 0 ≤ i) (h1 : i < cellsI k) (hy : xs.getD (cad p k i).toNat 0 = y) (hy0 : y < 0) (hy1 : -1 - cellsI k ≤ y) :
    Calls Tryd.prog 76 #[.agg #[.pointer (some ⟨m, 0, none⟩), .int .i64 p, .int .i64 k, .int .i64 (cellsI k)], .int .i64 i] w fun e w' => e = .returned (.tuple #[.int .i64 (-1 - y), .bool true]) ∧ Below w.heap.size w w' := by
  obtain ⟨hat, hc0, -, -, hc1⟩ := cad_in hp h0 h1
  have HA := Lib.hid hat
  have hn := cellsI_pos ⟨hp.k0, hp.k1⟩
  have H := Lib.hid (h.below (below_alloc0 w (.cells #[.pointer (some ⟨m, 0, none⟩), .int .i64 p, .int .i64 k, .int .i64 (cellsI k)] 97)))
  have hfit : fitB xs.length (p * 32 + i * sizeI k) 1 = true := by
    unfold cad at hc0 hc1; simp [fitB]; omega
  have hld : loadV xs (p * 32 + i * sizeI k) = y := by
    unfold loadV; rw [if_pos hfit, ← hy]; rfl
  have HF := Lib.hid hfit
  have HL := Lib.hid hld
  clear h hp h0 h1 hat hy hc0 hc1 hfit hld
  go_enter Tryd.func76, Tryd.ntmps76
  go_wp2_with (first
    | (go_at_call 38; refine (at_yes p k i HA.out _).mono ?_; rintro e w' ⟨rfl, rfl⟩)
    | (go_at_call 66; refine (load_any H.out _).mono ?_; rw [HL.out, HF.out]; rintro e w' ⟨rfl, rfl⟩))
  go_ret2
  exact ⟨rfl, below_alloc0 _ _⟩
end Go.Proofs.YtfocdbflmodfhaaDoor
