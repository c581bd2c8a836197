/- Free cells of a page: built, taken, given back. -/
import Derived.Test.YtjoejjhgneccgaaGreatQSK03
import Derived.Test.YtjoejjhgneccgaaGreatQSK05
import Derived.IntWalk
namespace Go.Proofs.YtjoejjhgneccgaaGreat
open Go.RowKit

/-- The first cells tell the next ones. -/
def linkL (xs : List Int) (p k : Int) : Nat → List Int
  | 0 => xs
  | j + 1 => putL (linkL xs p k j) (cad p k j) (-1 - ((j : Int) + 1))
theorem putL_len (xs : List Int) (a v : Int) : (putL xs a v).length = xs.length := by unfold putL; split <;> simp
theorem linkL_len (xs : List Int) (p k : Int) (j : Nat) : (linkL xs p k j).length = xs.length := by
  induction j with
  | zero => rfl
  | succ j ih => rw [linkL, putL_len, ih]
def buildL (xs : List Int) (p k : Int) : List Int := linkL (fillL xs (p * 32).toNat 32 0) p k (cellsI k).toNat
theorem OpP.len {a b : Nat} {p k : Int} (h : OpP a p k) (e : a ≤ b) : OpP b p k := ⟨h.p0, h.p1, h.k0, h.k1, by have := h.fit; omega⟩
set_option maxHeartbeats 8000000 in
set_option maxRecDepth 100000 in
theorem build_yes {w : World} {m r : Nat} {xs : List Int} (h : Mx w m r xs) (p k : Int) (hp : OpP xs.length p k) :
    Calls Tryz.prog 83 #[.pointer (some ⟨m, 0, none⟩), .int .i64 p, .int .i64 k] w fun e w' => e = .returned (.tuple #[.agg #[.int .i64 0, .int .i64 (cellsI k)], .bool true]) ∧ Mx w' m r (buildL xs p k) ∧ Frm [r] w w' := by
  have H := Lib.hid h
  have HP := Lib.hid hp
  have HE := Lib.hid (show endB p 1 = true by have := hp.p0; have := hp.p1; simp [endB]; omega)
  obtain ⟨b, hb⟩ := Int.eq_ofNat_of_zero_le (show 0 ≤ p * 32 by have := hp.p0; omega)
  have hbf : b + 32 ≤ xs.length := by have := hp.fit; omega
  have HB := Lib.hid hb
  have HBF := Lib.hid hbf
  have hc := cellsI_pos ⟨hp.k0, hp.k1⟩
  obtain ⟨n, hn⟩ := Int.eq_ofNat_of_zero_le (show 0 ≤ cellsI k by omega)
  have HN := Lib.hid hn
  have hn16 : n ≤ 16 := by omega
  have hr := h.lt.2
  have Z0 := Lib.hid (heap_alloc_new w (.cells #[.int .i64 0, .int .i64 0] 75))
  have B0 := Lib.hid (below_alloc0 w (.cells #[.int .i64 0, .int .i64 0] 75))
  clear h hp hb hbf hc hn
  go_enter Tryz.func83, Tryz.ntmps83
  go_wp2_with (first
    | (go_at_call 86; refine (open_yes (H.out.below B0.out) p k HP.out).mono ?_; rintro e w1 ⟨rfl, hb1⟩; have B1 := Lib.hid (below_next B0.out hb1); have Z1 := Lib.hid (keep hb1 Z0.out); clear hb1; rw [HN.out])
    | (go_at_call 51; refine (ends_yes p 1 HE.out _).mono ?_; rw [HB.out]; rintro e w' ⟨rfl, rfl⟩; have M2 := Lib.hid (H.out.below (B1.out.alloc B1.out.size (.cells #[.pointer (some ⟨m, 0, none⟩), .int .i64 p, .int .i64 k, .int .i64 n] 117))); have B2 := Lib.hid (B1.out.alloc B1.out.size (.cells #[.pointer (some ⟨m, 0, none⟩), .int .i64 p, .int .i64 k, .int .i64 n] 117)); have Z2 := Lib.hid (keep_alloc (.cells #[.pointer (some ⟨m, 0, none⟩), .int .i64 p, .int .i64 k, .int .i64 n] 117) Z1.out); have O2 := Lib.hid (heap_alloc_new w1 (.cells #[.pointer (some ⟨m, 0, none⟩), .int .i64 p, .int .i64 k, .int .i64 n] 117)))
    | (go_at_call 53; refine (fill_yes M2.out b 32 0 (by decide) HBF.out).mono ?_; rintro e w3 ⟨rfl, hm3, hf3⟩; have M3 := Lib.hid hm3; have F3 := Lib.hid ((Frm.of_below [r] B2.out).trans hf3 (fun x hx => .inl hx)); have Z3 := Lib.hid ((hf3.block _ (heap_lt Z2.out) (by simp; omega)).trans Z2.out); have o3 := (hf3.block _ (heap_lt O2.out) (by have := B1.out.size; simp; omega)).trans O2.out; have O3 := Lib.hid o3; have e0 : w3.cell? ⟨w1.heap.size, 0, none⟩ = some (.pointer (some ⟨m, 0, none⟩)) := cell_of_row _ _ _ _ _ _ o3; have e3 : w3.cell? ⟨w1.heap.size, 3, none⟩ = some (.int .i64 n) := cell_of_row _ _ _ _ _ _ o3; clear hm3 hf3 o3))
  go_loopw [35] (fun a wr => ∃ j : Nat, j ≤ n ∧ a = .int .i64 j ∧ Hid (Mx wr m r (linkL (fillL xs b 32 0) p k j)) ∧ Hid (Frm [r] w wr) ∧ Hid (wr.heap[w.heap.size]? = some (.cells #[.int .i64 0, .int .i64 0] 75 (0, 0))) ∧ Hid (wr.heap[w1.heap.size]? = some (.cells #[.pointer (some ⟨m, 0, none⟩), .int .i64 p, .int .i64 k, .int .i64 n] 117 (0, 0)))) (fun a _ => n - (intOf a).toNat)
  case atStart => exact ⟨0, Nat.zero_le _, rfl, M3, F3, Z3, O3⟩
  case round =>
    clear M3 F3 Z3 O3 e0 e3
    obtain ⟨j, hj, rfl, M3, F3, Z3, O3⟩ := hrel
    have o3 := O3.out
    have e0 : wr.cell? ⟨w1.heap.size, 0, none⟩ = some (.pointer (some ⟨m, 0, none⟩)) := cell_of_row _ _ _ _ _ _ o3
    have e1 : wr.cell? ⟨w1.heap.size, 1, none⟩ = some (.int .i64 p) := cell_of_row _ _ _ _ _ _ o3
    have e2 : wr.cell? ⟨w1.heap.size, 2, none⟩ = some (.int .i64 k) := cell_of_row _ _ _ _ _ _ o3
    have e3 : wr.cell? ⟨w1.heap.size, 3, none⟩ = some (.int .i64 n) := cell_of_row _ _ _ _ _ _ o3
    clear o3
    by_cases hlt : j < n
    · have HJ := Lib.hid hlt
      go_wp2_with (go_at_call 91; have lk := link_any M3.out p k (j : Int) ((j : Int) + 1) (HP.out.len (by rw [linkL_len, fillL_len]; exact Nat.le_refl _)) (by omega) (by rw [HN.out]; have := HJ.out; omega) (by omega) (by omega); rw [HN.out] at lk; refine lk.mono ?_; clear lk; rintro e w4 ⟨⟨v4, rfl⟩, hm4, hf4⟩; have M4 := Lib.hid hm4; have Z4 := Lib.hid ((hf4.block _ (heap_lt Z3.out) (by simp; omega)).trans Z3.out); have O4 := Lib.hid ((hf4.block _ (heap_lt O3.out) (by have := B1.out.size; simp; omega)).trans O3.out); have F4 := Lib.hid (F3.out.trans hf4 (fun x hx => .inl hx)); clear hm4 hf4)
      go_roundw
      case rel => exact ⟨j + 1, by omega, by go_num, M4, F4, Z4, O4⟩
      case measure => simp [intOf]; omega
    · obtain rfl : j = n := by omega
      have HM := Lib.hid (show buildL xs p k = linkL (fillL xs b 32 0) p k j by unfold buildL; rw [HB.out, HN.out]; rfl)
      clear hj hlt
      go_wp2_with (refine wpList_store_row rfl 75 _ _ rfl w.heap.size #[.int .i64 0, .int .i64 j] rfl rfl 75 _ Z3.out (by kernel_rfl) rfl (by kernel_rfl) ?_)
      refine bodyPost_ret (results_row_tmp rfl _ _ w.heap.size 75 #[.int .i64 0, .int .i64 j] _ _ rfl (heap_setRow_same _ Z3.out) Tryz.underlying75 rfl (by kernel_rfl)) rfl ⟨by rw [HN.out]; rfl, ?_, ?_⟩
      · rw [HM.out]
        exact M3.out.keep (heap_setRow_other _ _ _ _ (by have := H.out.lt.1; omega)) (heap_setRow_other _ _ _ _ (by omega))
      · exact F3.out.trans_new (Frm.setRow wr (fp := [w.heap.size]) (by simp) _) (by simp)
set_option maxHeartbeats 8000000 in
set_option maxRecDepth 100000 in
theorem ctake_yes {w : World} {m r : Nat} {xs : List Int} (h : Mx w m r xs) (p k f c y : Int) (hp : OpP xs.length p k) (hc1 : 1 ≤ c) (hc2 : c ≤ 1000000) (hf0 : 0 ≤ f) (hf1 : f < cellsI k) (hy : xs.getD (cad p k f).toNat 0 = y) (hy0 : y < 0) (hy1 : -1 - cellsI k ≤ y) :
    Calls Tryz.prog 65 #[.pointer (some ⟨m, 0, none⟩), .int .i64 p, .int .i64 k, .agg #[.int .i64 f, .int .i64 c]] w fun e w' => e = .returned (.tuple #[.int .i64 f, .agg #[.int .i64 (-1 - y), .int .i64 (c - 1)], .bool true]) ∧ Below w.heap.size w w' := by
  have HP := Lib.hid hp
  have HY := Lib.hid hy
  have hcl := cellsI_pos ⟨hp.k0, hp.k1⟩
  have b0 : Below w.heap.size w ((w.alloc (.cells #[.int .i64 f, .int .i64 c] 75)).alloc (.cells #[.int .i64 0, .int .i64 0] 75)) := ((Below.refl w.heap.size w).alloc (Nat.le_refl _) _).alloc (by simp) _
  have B0 := Lib.hid b0
  have H := Lib.hid (h.below b0)
  have Z0 := Lib.hid (show ((w.alloc (.cells #[.int .i64 f, .int .i64 c] 75)).alloc (.cells #[.int .i64 0, .int .i64 0] 75)).heap[w.heap.size]? = some (.cells #[.int .i64 f, .int .i64 c] 75 (0, 0)) from keep_alloc _ (heap_alloc_new w _))
  have Z1 := Lib.hid (show ((w.alloc (.cells #[.int .i64 f, .int .i64 c] 75)).alloc (.cells #[.int .i64 0, .int .i64 0] 75)).heap[w.heap.size + 1]? = some (.cells #[.int .i64 0, .int .i64 0] 75 (0, 0)) from alloc_at _ _ (by simp))
  clear h hp hy b0
  go_enter Tryz.func65, Tryz.ntmps65
  go_wp2_with (first
    | (go_at_call 86; refine (open_yes H.out p k HP.out).mono ?_; rintro e w1 ⟨rfl, hb1⟩; have B1 := Lib.hid (B0.out.trans (hb1.mono (by simp; omega))); have M1 := Lib.hid (H.out.below hb1); have q0 := keep hb1 Z0.out; have q1 := keep hb1 Z1.out; have Y0 := Lib.hid q0; have Y1 := Lib.hid q1; have d0 : w1.cell? ⟨w.heap.size, 0, none⟩ = some (.int .i64 f) := cell_of_row _ _ _ _ _ _ q0; have d1 : w1.cell? ⟨w.heap.size, 1, none⟩ = some (.int .i64 c) := cell_of_row _ _ _ _ _ _ q0; have hsz : w.heap.size + 1 < w1.heap.size := heap_lt q1; have hsz0 : w.heap.size < w1.heap.size := heap_lt q0; have d2 : ∀ A : Obj, (w1.alloc A).cell? ⟨w.heap.size, 0, none⟩ = some (.int .i64 f) := fun A => cell_of_row _ _ _ _ _ _ (keep_alloc A q0); have d3 : ∀ A : Obj, (w1.alloc A).cell? ⟨w.heap.size, 1, none⟩ = some (.int .i64 c) := fun A => cell_of_row _ _ _ _ _ _ (keep_alloc A q0); clear hb1 q0 q1)
    | (go_at_call 87; refine (is_yes m p k f hf0 hf1 _).mono ?_; rintro e w2 ⟨rfl, hb2⟩; have HB2 := Lib.hid hb2; have B2 := Lib.hid ((B1.out.alloc B1.out.size (.cells #[.pointer (some ⟨m, 0, none⟩), .int .i64 p, .int .i64 k, .int .i64 (cellsI k)] 117)).trans (hb2.mono (by have := B1.out.size; simp; omega))); have M2 := Lib.hid ((M1.out.below (below_alloc0 _ (.cells #[.pointer (some ⟨m, 0, none⟩), .int .i64 p, .int .i64 k, .int .i64 (cellsI k)] 117))).below hb2); have q0 := keep hb2 (keep_alloc (.cells #[.pointer (some ⟨m, 0, none⟩), .int .i64 p, .int .i64 k, .int .i64 (cellsI k)] 117) Y0.out); have q1 := keep hb2 (keep_alloc (.cells #[.pointer (some ⟨m, 0, none⟩), .int .i64 p, .int .i64 k, .int .i64 (cellsI k)] 117) Y1.out); have q2 := keep hb2 (heap_alloc_new w1 (.cells #[.pointer (some ⟨m, 0, none⟩), .int .i64 p, .int .i64 k, .int .i64 (cellsI k)] 117)); have Y2 := Lib.hid q0; have Y3 := Lib.hid q1; have Y4 := Lib.hid q2; have f0 : w2.cell? ⟨w.heap.size, 0, none⟩ = some (.int .i64 f) := cell_of_row _ _ _ _ _ _ q0; have f1 : w2.cell? ⟨w.heap.size, 1, none⟩ = some (.int .i64 c) := cell_of_row _ _ _ _ _ _ q0; have g0 : w2.cell? ⟨w1.heap.size, 0, none⟩ = some (.pointer (some ⟨m, 0, none⟩)) := cell_of_row _ _ _ _ _ _ q2; have g1 : w2.cell? ⟨w1.heap.size, 1, none⟩ = some (.int .i64 p) := cell_of_row _ _ _ _ _ _ q2; have g2 : w2.cell? ⟨w1.heap.size, 2, none⟩ = some (.int .i64 k) := cell_of_row _ _ _ _ _ _ q2; have g3 : w2.cell? ⟨w1.heap.size, 3, none⟩ = some (.int .i64 (cellsI k)) := cell_of_row _ _ _ _ _ _ q2; clear hb2 q0 q1 q2)
    | (go_at_call 88; refine (cnext_yes M2.out p k f y HP.out hf0 hf1 HY.out hy0 hy1).mono ?_; rintro e w3 ⟨rfl, hb3⟩; have B3 := Lib.hid (B2.out.trans (hb3.mono B2.out.size)); have q0 := keep hb3 Y2.out; have q1 := keep hb3 Y3.out; have X3 := Lib.hid q1; have x0 : w3.cell? ⟨w.heap.size + 1, 0, none⟩ = some (.int .i64 0) := cell_of_row _ _ _ _ _ _ q1; have x1 : w3.cell? ⟨w.heap.size + 1, 1, none⟩ = some (.int .i64 0) := cell_of_row _ _ _ _ _ _ q1; have z3 := frozen_of_row w3 (w.heap.size + 1) 0 _ _ q1; have z4 := frozen_of_row w3 (w.heap.size + 1) 1 _ _ q1; have s0 : w3.cell? ⟨w.heap.size, 0, none⟩ = some (.int .i64 f) := cell_of_row _ _ _ _ _ _ q0; have s1 : w3.cell? ⟨w.heap.size, 1, none⟩ = some (.int .i64 c) := cell_of_row _ _ _ _ _ _ q0; clear hb3 q0 q1))
  have hwr : IntKind.i64.wrap (c - 1) = c - 1 := IntWalk.i64_in _ (by omega)
  go_region_held3 (fun w' => w'.cell? ⟨w.heap.size, 0, none⟩ = some (.int .i64 f) ∧ w'.cell? ⟨w.heap.size, 1, none⟩ = some (.int .i64 c)) (go_keep) (fail)
  go_wp2_with fail
  have e1 : ((w3.setCell ⟨w.heap.size + 1, 0, none⟩ (.int .i64 (-1 - y))).setCell ⟨w.heap.size + 1, 1, none⟩ (.int .i64 (c - 1))).drew.heap[w.heap.size + 1]? = some (.cells #[.int .i64 (-1 - y), .int .i64 (c - 1)] 75 (0, 0)) := heap_setCell_same _ _ 1 _ _ _ (heap_setCell_same _ _ 0 _ _ _ X3.out)
  have e2 := cell_of_row _ _ 0 _ _ _ e1
  have e3 := cell_of_row _ _ 1 _ _ _ e1
  refine bodyPost_ret (v := .tuple #[.int .i64 f, .agg #[.int .i64 (-1 - y), .int .i64 (c - 1)], .bool true]) (by simp [results, Tryz.results65, go_sem, e2, e3]) rfl ⟨rfl, ?_⟩
  exact ((B3.out.setCell (by simp) _).setCell (by simp) _).drew
set_option maxHeartbeats 8000000 in
set_option maxRecDepth 100000 in
theorem cgive_yes {w : World} {m r : Nat} {xs : List Int} (h : Mx w m r xs) (p k f c i : Int) (hp : OpP xs.length p k) (hc1 : 0 ≤ c) (hc2 : c < cellsI k) (hf0 : 0 ≤ f) (hf1 : f ≤ cellsI k) (hi0 : 0 ≤ i) (hi1 : i < cellsI k) :
    Calls Tryz.prog 73 #[.pointer (some ⟨m, 0, none⟩), .int .i64 p, .int .i64 k, .agg #[.int .i64 f, .int .i64 c], .int .i64 i] w fun e w' => e = .returned (.tuple #[.agg #[.int .i64 i, .int .i64 (c + 1)], .bool true]) ∧ Mx w' m r (putL xs (cad p k i) (-1 - f)) ∧ Frm [r] w w' := by
  have HP := Lib.hid hp
  have hcl := cellsI_pos ⟨hp.k0, hp.k1⟩
  have hrl := h.lt.2
  have hml := h.lt.1
  have hf2 : f ≤ 1000000 := by omega
  have b0 : Below w.heap.size w ((w.alloc (.cells #[.int .i64 f, .int .i64 c] 75)).alloc (.cells #[.int .i64 0, .int .i64 0] 75)) := ((Below.refl w.heap.size w).alloc (Nat.le_refl _) _).alloc (by simp) _
  have B0 := Lib.hid b0
  have H := Lib.hid (h.below b0)
  have Z0 := Lib.hid (show ((w.alloc (.cells #[.int .i64 f, .int .i64 c] 75)).alloc (.cells #[.int .i64 0, .int .i64 0] 75)).heap[w.heap.size]? = some (.cells #[.int .i64 f, .int .i64 c] 75 (0, 0)) from keep_alloc _ (heap_alloc_new w _))
  have Z1 := Lib.hid (show ((w.alloc (.cells #[.int .i64 f, .int .i64 c] 75)).alloc (.cells #[.int .i64 0, .int .i64 0] 75)).heap[w.heap.size + 1]? = some (.cells #[.int .i64 0, .int .i64 0] 75 (0, 0)) from alloc_at _ _ (by simp))
  clear h hp b0
  go_enter Tryz.func73, Tryz.ntmps73
  go_wp2_with (first
    | (go_at_call 86; refine (open_yes H.out p k HP.out).mono ?_; rintro e w1 ⟨rfl, hb1⟩; have B1 := Lib.hid (B0.out.trans (hb1.mono (by simp; omega))); have M1 := Lib.hid (H.out.below hb1); have q0 := keep hb1 Z0.out; have q1 := keep hb1 Z1.out; have Y0 := Lib.hid q0; have Y1 := Lib.hid q1; have hsz : w.heap.size + 1 < w1.heap.size := heap_lt q1; have hsz0 : w.heap.size < w1.heap.size := heap_lt q0; clear hb1 q0 q1)
    | (go_at_call 87; refine (is_yes m p k i hi0 hi1 _).mono ?_; rintro e w2 ⟨rfl, hb2⟩; have B2 := Lib.hid ((B1.out.alloc B1.out.size (.cells #[.pointer (some ⟨m, 0, none⟩), .int .i64 p, .int .i64 k, .int .i64 (cellsI k)] 117)).trans (hb2.mono (by have := B1.out.size; simp; omega))); have M2 := Lib.hid ((M1.out.below (below_alloc0 _ (.cells #[.pointer (some ⟨m, 0, none⟩), .int .i64 p, .int .i64 k, .int .i64 (cellsI k)] 117))).below hb2); have q0 := keep hb2 (keep_alloc (.cells #[.pointer (some ⟨m, 0, none⟩), .int .i64 p, .int .i64 k, .int .i64 (cellsI k)] 117) Y0.out); have q1 := keep hb2 (keep_alloc (.cells #[.pointer (some ⟨m, 0, none⟩), .int .i64 p, .int .i64 k, .int .i64 (cellsI k)] 117) Y1.out); have q2 := keep hb2 (heap_alloc_new w1 (.cells #[.pointer (some ⟨m, 0, none⟩), .int .i64 p, .int .i64 k, .int .i64 (cellsI k)] 117)); have Y2 := Lib.hid q0; have Y3 := Lib.hid q1; have Y4 := Lib.hid q2; have f0 : w2.cell? ⟨w.heap.size, 0, none⟩ = some (.int .i64 f) := cell_of_row _ _ _ _ _ _ q0; have f1 : w2.cell? ⟨w.heap.size, 1, none⟩ = some (.int .i64 c) := cell_of_row _ _ _ _ _ _ q0; have g0 : w2.cell? ⟨w1.heap.size, 0, none⟩ = some (.pointer (some ⟨m, 0, none⟩)) := cell_of_row _ _ _ _ _ _ q2; have g1 : w2.cell? ⟨w1.heap.size, 1, none⟩ = some (.int .i64 p) := cell_of_row _ _ _ _ _ _ q2; have g2 : w2.cell? ⟨w1.heap.size, 2, none⟩ = some (.int .i64 k) := cell_of_row _ _ _ _ _ _ q2; have g3 : w2.cell? ⟨w1.heap.size, 3, none⟩ = some (.int .i64 (cellsI k)) := cell_of_row _ _ _ _ _ _ q2; clear hb2 q0 q1 q2)
    | (go_at_call 91; refine (link_any M2.out p k i f HP.out hi0 hi1 hf0 hf2).mono ?_; rintro e w3 ⟨⟨v3, rfl⟩, hm3, hf3⟩; have M3 := Lib.hid hm3; have F3 := Lib.hid ((Frm.of_below [r] B2.out).trans hf3 (fun x hx => .inl hx)); have q0 := (hf3.block _ (heap_lt Y2.out) (by simp; omega)).trans Y2.out; have q1 := (hf3.block _ (heap_lt Y3.out) (by simp; omega)).trans Y3.out; have X3 := Lib.hid q1; have x0 : w3.cell? ⟨w.heap.size + 1, 0, none⟩ = some (.int .i64 0) := cell_of_row _ _ _ _ _ _ q1; have x1 : w3.cell? ⟨w.heap.size + 1, 1, none⟩ = some (.int .i64 0) := cell_of_row _ _ _ _ _ _ q1; have z3 := frozen_of_row w3 (w.heap.size + 1) 0 _ _ q1; have z4 := frozen_of_row w3 (w.heap.size + 1) 1 _ _ q1; have s1 : w3.cell? ⟨w.heap.size, 1, none⟩ = some (.int .i64 c) := cell_of_row _ _ _ _ _ _ q0; clear hm3 hf3 q0 q1))
  have e1 : ((w3.setCell ⟨w.heap.size + 1, 0, none⟩ (.int .i64 i)).setCell ⟨w.heap.size + 1, 1, none⟩ (.int .i64 (c + 1))).heap[w.heap.size + 1]? = some (.cells #[.int .i64 i, .int .i64 (c + 1)] 75 (0, 0)) := heap_setCell_same _ _ 1 _ _ _ (heap_setCell_same _ _ 0 _ _ _ X3.out)
  have e2 := cell_of_row _ _ 0 _ _ _ e1
  have e3 := cell_of_row _ _ 1 _ _ _ e1
  refine bodyPost_ret (v := .tuple #[.agg #[.int .i64 i, .int .i64 (c + 1)], .bool true]) (by simp [results, Tryz.results73, go_sem, e2, e3]) rfl ⟨rfl, ?_, ?_⟩
  · exact M3.out.keep ((heap_setCell_other _ _ _ _ (by simp only; omega)).trans (heap_setCell_other _ _ _ _ (by simp only; omega))) ((heap_setCell_other _ _ _ _ (by simp only; omega)).trans (heap_setCell_other _ _ _ _ (by simp only; omega)))
  · exact ((F3.out.trans_new (Frm.setCell w3 (fp := [w.heap.size + 1]) (by simp) _) (by simp)).trans_new (Frm.setCell _ (fp := [w.heap.size + 1]) (by simp) _) (by simp))
end Go.Proofs.YtjoejjhgneccgaaGreat

/- Cells, in memory. -/
namespace Go.Proofs.YtjoejjhgneccgaaGreat
open Go.RowKit

/-- What cells are: kinds, words, chains, what is taken. -/
structure Cs where
  ks : List Int
  xs : List Int
  ch : List (Int × Int)
  ws : List (BitVec 64)
/-- Where they lie. -/
structure Bl where
  c : Nat
  t : Nat
  k : Nat
  m : Nat
  r : Nat
  s : Nat
def Bl.fp (b : Bl) : List Nat := [b.c, b.t, b.k, b.m, b.r, b.s]
def chC (l : List (Int × Int)) : List Value := l.flatMap fun x => [.int .i64 x.1, .int .i64 x.2]
theorem chC_len (l : List (Int × Int)) : (chC l).length = l.length * 2 := by
  induction l with
  | nil => rfl
  | cons x l ih => simp only [chC, List.flatMap_cons, List.length_append, List.length_cons] at *; rw [ih]; simp; omega
theorem chC_get : ∀ {l : List (Int × Int)} {j : Nat}, j < l.length → (chC l)[j * 2]? = some (.int .i64 (l.getD j (0, 0)).1) ∧ (chC l)[j * 2 + 1]? = some (.int .i64 (l.getD j (0, 0)).2)
  | [], j, h => absurd h (by simp)
  | x :: l, 0, _ => ⟨rfl, rfl⟩
  | x :: l, j + 1, h => by
    obtain ⟨h1, h2⟩ := chC_get (l := l) (j := j) (by simpa using h)
    have e : chC (x :: l) = .int .i64 x.1 :: .int .i64 x.2 :: chC l := rfl
    rw [e, show (j + 1) * 2 = j * 2 + 1 + 1 by omega]
    simp only [List.getElem?_cons_succ]
    exact ⟨h1, h2⟩
theorem chC_set : ∀ {l : List (Int × Int)} {j : Nat} (x : Int × Int), j < l.length → chC (l.set j x) = ((chC l).set (j * 2) (.int .i64 x.1)).set (j * 2 + 1) (.int .i64 x.2)
  | [], j, _, h => absurd h (by simp)
  | y :: l, 0, x, _ => rfl
  | y :: l, j + 1, x, h => by
    have ih := chC_set (l := l) (j := j) x (by simpa using h)
    have e : ∀ (z : Int × Int) (l : List (Int × Int)), chC (z :: l) = .int .i64 z.1 :: .int .i64 z.2 :: chC l := fun _ _ => rfl
    rw [List.set_cons_succ, e, e, ih, show (j + 1) * 2 = j * 2 + 1 + 1 by omega]
    simp only [List.set_cons_succ]
def celC (b : Bl) (l : List (Int × Int)) : Array Value := (.pointer (some ⟨b.t, 0, none⟩) :: .pointer (some ⟨b.m, 0, none⟩) :: (chC l ++ [.pointer (some ⟨b.s, 0, none⟩)])).toArray
/-- Cells in memory. -/
structure CX (w : World) (b : Bl) (C : Cs) : Prop where
  hd : w.heap[b.c]? = some (.cells (celC b C.ch) 78 (0, 0))
  tx : Tx w b.t b.k C.ks
  mx : Mx w b.m b.r C.xs
  sx : Sx w b.s C.xs.length C.ws
  chl : C.ch.length = 64
  len : C.xs.length = 32 * C.ks.length
theorem ne_types {w : World} {a b : Nat} {x y : Array Value} {T U : TypeId} {f g : Nat × Nat} (h : w.heap[a]? = some (.cells x T f)) (h2 : w.heap[b]? = some (.cells y U g)) (hn : T ≠ U) : a ≠ b := by
  rintro rfl
  rw [h] at h2
  simp only [Option.some.injEq, Obj.cells.injEq] at h2
  exact hn h2.2.1
/-- All lie apart. -/
structure Apart (b : Bl) : Prop where
  ct : b.c ≠ b.t
  ck : b.c ≠ b.k
  cm : b.c ≠ b.m
  cr : b.c ≠ b.r
  cs : b.c ≠ b.s
  tk : b.t ≠ b.k
  tm : b.t ≠ b.m
  tr : b.t ≠ b.r
  ts : b.t ≠ b.s
  km : b.k ≠ b.m
  kr : b.k ≠ b.r
  ks : b.k ≠ b.s
  mr : b.m ≠ b.r
  ms : b.m ≠ b.s
  rs : b.r ≠ b.s
section
variable {w w' : World} {b : Bl} {C : Cs}
theorem CX.apart (h : CX w b C) : Apart b := by
  obtain ⟨hc, ⟨ht, hk, _⟩, ⟨⟨c, _, _, hm⟩, ⟨zs, hr⟩, _⟩, ⟨hs, _, _, _⟩, _, _⟩ := h
  exact ⟨ne_types hc ht (by decide), ne_types hc hk (by decide), ne_types hc hm (by decide), ne_types hc hr (by decide), ne_types hc hs (by decide), ne_types ht hk (by decide), ne_types ht hm (by decide), ne_types ht hr (by decide), ne_types ht hs (by decide),
    ne_types hk hm (by decide), ne_types hk hr (by decide), ne_types hk hs (by decide), ne_types hm hr (by decide), ne_types hm hs (by decide), ne_types hr hs (by decide)⟩
theorem CX.lt (h : CX w b C) : ∀ x ∈ b.fp, x < w.heap.size := by
  intro x hx
  simp only [Bl.fp, List.mem_cons, List.not_mem_nil, or_false] at hx
  rcases hx with rfl | rfl | rfl | rfl | rfl | rfl
  · exact heap_lt h.hd
  · exact heap_lt h.tx.hd
  · exact heap_lt h.tx.row
  · exact h.mx.lt.1
  · exact h.mx.lt.2
  · exact heap_lt h.sx.hd
theorem CX.keep (h : CX w b C) (hk : ∀ x ∈ b.fp, w'.heap[x]? = w.heap[x]?) : CX w' b C :=
  ⟨(hk b.c (by simp [Bl.fp])).trans h.hd, h.tx.keep (hk b.t (by simp [Bl.fp])) (hk b.k (by simp [Bl.fp])), h.mx.keep (hk b.m (by simp [Bl.fp])) (hk b.r (by simp [Bl.fp])), h.sx.keep (hk b.s (by simp [Bl.fp])), h.chl, h.len⟩
theorem CX.below (h : CX w b C) (hb : Below w.heap.size w w') : CX w' b C := h.keep fun x hx => hb.block x (h.lt x hx)
theorem CX.frm {fp : List Nat} (h : CX w b C) (hf : Frm fp w w') (hd : ∀ x ∈ b.fp, x ∉ fp) : CX w' b C := h.keep fun x hx => hf.block x (h.lt x hx) (hd x hx)
theorem CX.cells (h : CX w b C) : w.cell? ⟨b.c, 0, none⟩ = some (.pointer (some ⟨b.t, 0, none⟩)) ∧ w.cell? ⟨b.c, 1, none⟩ = some (.pointer (some ⟨b.m, 0, none⟩)) ∧ w.cell? ⟨b.c, 130, none⟩ = some (.pointer (some ⟨b.s, 0, none⟩)) := by
  refine ⟨cell_of_row _ _ _ _ _ _ h.hd, cell_of_row _ _ _ _ _ _ h.hd, ?_⟩
  rw [cell_of_row _ _ _ _ _ _ h.hd]
  have hl := chC_len C.ch
  rw [h.chl] at hl
  simp only [celC, List.getElem?_toArray]
  rw [show 130 = 128 + 1 + 1 from rfl, List.getElem?_cons_succ, List.getElem?_cons_succ, List.getElem?_append_right (by omega), hl]
  rfl
theorem CX.chain (h : CX w b C) {p : Nat} (hp : p < 64) : w.cell? ⟨b.c, 2 + p * 2, none⟩ = some (.int .i64 (C.ch.getD p (0, 0)).1) ∧ w.cell? ⟨b.c, 2 + p * 2 + 1, none⟩ = some (.int .i64 (C.ch.getD p (0, 0)).2) ∧ w.frozen? ⟨b.c, 2 + p * 2, none⟩ = false ∧ w.frozen? ⟨b.c, 2 + p * 2 + 1, none⟩ = false := by
  obtain ⟨h1, h2⟩ := chC_get (l := C.ch) (j := p) (by rw [h.chl]; exact hp)
  have hl := chC_len C.ch
  rw [h.chl] at hl
  refine ⟨?_, ?_, frozen_of_row _ _ _ _ _ h.hd, frozen_of_row _ _ _ _ _ h.hd⟩
  · rw [cell_of_row _ _ _ _ _ _ h.hd]
    simp only [celC, List.getElem?_toArray]
    rw [show 2 + p * 2 = p * 2 + 1 + 1 by omega, List.getElem?_cons_succ, List.getElem?_cons_succ, List.getElem?_append_left (by omega), h1]
  · rw [cell_of_row _ _ _ _ _ _ h.hd]
    simp only [celC, List.getElem?_toArray]
    rw [show 2 + p * 2 + 1 = p * 2 + 1 + 1 + 1 by omega, List.getElem?_cons_succ, List.getElem?_cons_succ, List.getElem?_append_left (by omega), h2]
/-- A chain turned. -/
theorem CX.setChain (h : CX w b C) {p : Nat} (hp : p < 64) (x : Int × Int) : CX ((w.setCell ⟨b.c, 2 + p * 2, none⟩ (.int .i64 x.1)).setCell ⟨b.c, 2 + p * 2 + 1, none⟩ (.int .i64 x.2)) b { C with ch := C.ch.set p x } := by
  have ap := h.apart
  have hl := chC_len C.ch
  rw [h.chl] at hl
  have o : ∀ {j : Nat}, b.c ≠ j → ((w.setCell ⟨b.c, 2 + p * 2, none⟩ (.int .i64 x.1)).setCell ⟨b.c, 2 + p * 2 + 1, none⟩ (.int .i64 x.2)).heap[j]? = w.heap[j]? := fun hj =>
    (heap_setCell_other _ _ _ _ (fun e => hj e.symm)).trans (heap_setCell_other _ _ _ _ (fun e => hj e.symm))
  refine ⟨?_, h.tx.keep (o ap.ct) (o ap.ck), h.mx.keep (o ap.cm) (o ap.cr), h.sx.keep (o ap.cs), by simpa using h.chl, h.len⟩
  rw [heap_setCell_same _ _ _ _ _ _ (heap_setCell_same _ _ _ _ _ _ h.hd)]
  congr 2
  simp only [celC, List.setIfInBounds_toArray]
  rw [chC_set x (by rw [h.chl]; exact hp), show 2 + p * 2 = p * 2 + 1 + 1 by omega]
  simp only [List.set_cons_succ]
  rw [List.set_append_left _ _ (by omega), List.set_append_left _ _ (by simp; omega)]
theorem CX.withTx {K : List Int} (h : CX w b C) (hf : Frm [b.k] w w') (ht : Tx w' b.t b.k K) (hl : K.length = C.ks.length) : CX w' b { C with ks := K } := by
  have ap := h.apart
  refine ⟨(hf.block _ (heap_lt h.hd) (by simpa using ap.ck)).trans h.hd, ht, h.mx.frm hf (by simpa using ap.km.symm) (by simpa using ap.kr.symm), h.sx.frm hf (by simpa using ap.ks.symm), h.chl, ?_⟩
  show C.xs.length = 32 * K.length
  rw [hl]; exact h.len
theorem CX.withMx {X : List Int} (h : CX w b C) (hf : Frm [b.r] w w') (hm : Mx w' b.m b.r X) (hl : X.length = C.xs.length) : CX w' b { C with xs := X } := by
  have ap := h.apart
  refine ⟨(hf.block _ (heap_lt h.hd) (by simpa using ap.cr)).trans h.hd, h.tx.frm hf (by simpa using ap.tr) (by simpa using ap.kr), hm, ?_, h.chl, ?_⟩
  · show Sx w' b.s X.length C.ws
    rw [hl]; exact h.sx.frm hf (by simpa using ap.rs.symm)
  · show X.length = 32 * C.ks.length
    rw [hl]; exact h.len
theorem CX.withSx {W : List (BitVec 64)} (h : CX w b C) (hf : Frm [b.s] w w') (hs : Sx w' b.s C.xs.length W) : CX w' b { C with ws := W } := by
  have ap := h.apart
  exact ⟨(hf.block _ (heap_lt h.hd) (by simpa using ap.cs)).trans h.hd, h.tx.frm hf (by simpa using ap.ts) (by simpa using ap.ks), h.mx.frm hf (by simpa using ap.ms) (by simpa using ap.rs), hs, h.chl, h.len⟩
end
/-- The cells' heads stay where a chain is turned. -/
theorem cell_set2 {w : World} {c p o : Nat} {v x y : Value} (ho : o < 2 ∨ 130 ≤ o) (hp : p < 64) (h : w.cell? ⟨c, o, none⟩ = some v) : ((w.setCell ⟨c, 2 + p * 2, none⟩ x).setCell ⟨c, 2 + p * 2 + 1, none⟩ y).cell? ⟨c, o, none⟩ = some v := by
  rw [World.cell?_setCell_other _ _ _ _ (fun e => by have := congrArg Addr.off e; simp only at this; omega), World.cell?_setCell_other _ _ _ _ (fun e => by have := congrArg Addr.off e; simp only at this; omega)]
  exact h
theorem cell_setB {w : World} {c z o o1 o2 : Nat} {v x y : Value} (hc : c ≠ z) (h : w.cell? ⟨c, o, none⟩ = some v) : ((w.setCell ⟨z, o1, none⟩ x).setCell ⟨z, o2, none⟩ y).cell? ⟨c, o, none⟩ = some v := by
  rw [World.cell?_setCell_other _ _ _ _ (fun e => hc (congrArg Addr.block e).symm), World.cell?_setCell_other _ _ _ _ (fun e => hc (congrArg Addr.block e).symm)]
  exact h
theorem fillL_len2 (xs : List Int) (a n : Nat) (v : Int) : (fillL xs a n v).length = xs.length := fillL_len xs a n v
theorem buildL_len (xs : List Int) (p k : Int) : (buildL xs p k).length = xs.length := by unfold buildL; rw [linkL_len, fillL_len]
theorem takeK_len (ks : List Int) (c : Int) : (takeK ks c).length = ks.length := by unfold takeK; split <;> simp
theorem spanK_len (ks : List Int) (n : Int) : (spanK ks n).length = ks.length := by
  unfold spanK; split
  · unfold spanS; simp [fillL_len]
  · rfl
theorem freeL_len (ks : List Int) (p : Int) : (freeL ks p).length = ks.length := by unfold freeL; exact fillL_len _ _ _ _
theorem Frm.sub {fp fp' : List Nat} {w w' : World} (h : Frm fp w w') (hs : ∀ k ∈ fp, k ∈ fp') : Frm fp' w w' := ⟨h.os, h.tape, h.output, h.size, fun k hk hn => h.block k hk (fun hm => hn (hs k hm))⟩
end Go.Proofs.YtjoejjhgneccgaaGreat

/- Cells: what is asked of them. -/
namespace Go.Proofs.YtjoejjhgneccgaaGreat
open Go.RowKit

section
variable {w : World} {b : Bl} {C : Cs}
theorem cis_any (h : CX w b C) :
    Calls Tryz.prog 43 #[.pointer (some ⟨b.c, 0, none⟩)] w fun e w' => e = .returned (.bool true) ∧ w = w' := by
  obtain ⟨-, c1, -⟩ := h.cells
  clear h
  go_enter Tryz.func43, Tryz.ntmps43
  go_wp2_with fail
  go_ret
  exact ⟨rfl, rfl⟩
theorem pgkind_any (h : CX w b C) (p : Int) :
    Calls Tryz.prog 81 #[.agg #[.pointer (some ⟨b.t, 0, none⟩)], .int .i64 p] w fun e w' => e = .returned (.int .i64 (kindL C.ks p)) ∧ Below w.heap.size w w' := by
  have H := Lib.hid (h.tx.below (below_alloc0 w (.cells #[.pointer (some ⟨b.t, 0, none⟩)] 69)))
  clear h
  go_enter Tryz.func81, Tryz.ntmps81
  go_wp2_with (go_at_call 94; refine (pkind_any H.out p).mono ?_; rintro e w' ⟨rfl, rfl⟩)
  go_ret
  exact ⟨rfl, below_alloc0 _ _⟩
theorem pgfree_any (h : CX w b C) :
    Calls Tryz.prog 44 #[.agg #[.pointer (some ⟨b.t, 0, none⟩)]] w fun e w' => e = .returned (.int .i64 (countL C.ks)) ∧ Below w.heap.size w w' := by
  have B0 := Lib.hid (below_alloc0 w (.cells #[.pointer (some ⟨b.t, 0, none⟩)] 69))
  have H := Lib.hid (h.tx.below B0.out)
  clear h
  go_enter Tryz.func44, Tryz.ntmps44
  go_wp2_with (go_at_call 68; refine (pcount_any H.out).mono ?_; rintro e w' ⟨rfl, hb⟩)
  go_ret
  exact ⟨rfl, below_next B0.out hb⟩
theorem ckind_any (h : CX w b C) (p : Int) :
    Calls Tryz.prog 56 #[.pointer (some ⟨b.c, 0, none⟩), .int .i64 p] w fun e w' => e = .returned (.int .i64 (kindL C.ks p)) ∧ Below w.heap.size w w' := by
  have H := Lib.hid h
  obtain ⟨c0, c1, -⟩ := h.cells
  clear h
  go_enter Tryz.func56, Tryz.ntmps56
  go_wp2_with (first
    | (go_at_call 43; refine (cis_any H.out).mono ?_; rintro e w' ⟨rfl, rfl⟩)
    | (go_at_call 81; refine (pgkind_any H.out p).mono ?_; rintro e w' ⟨rfl, hb⟩))
  go_ret
  exact ⟨rfl, hb⟩
theorem csmall_any (h : CX w b C) (p : Int) :
    Calls Tryz.prog 75 #[.pointer (some ⟨b.c, 0, none⟩), .int .i64 p] w fun e w' => e = .returned (.bool (decide (0 < sizeI (kindL C.ks p)))) ∧ Below w.heap.size w w' := by
  have H := Lib.hid h
  clear h
  go_enter Tryz.func75, Tryz.ntmps75
  go_wp2_with (first
    | (go_at_call 56; refine (ckind_any H.out p).mono ?_; rintro e w' ⟨rfl, hb⟩)
    | (go_at_call 49; refine (size_any _ _).mono ?_; rintro e w' ⟨rfl, rfl⟩))
  go_ret
  exact ⟨rfl, hb⟩
/-- How many free cells are left. -/
def leftL (C : Cs) (p : Int) : Int := if 0 < sizeI (kindL C.ks p) then (C.ch.getD p.toNat (0, 0)).2 else 0
theorem small_in {ks : List Int} {p : Int} (h : 0 < sizeI (kindL ks p)) : 0 ≤ p ∧ p < ks.length := by
  apply Decidable.byContradiction; intro hc
  rw [kindL_out (by omega)] at h
  simp [sizeI] at h
set_option maxHeartbeats 1000000 in
theorem cleft_any (h : CX w b C) (p : Int) :
    Calls Tryz.prog 57 #[.pointer (some ⟨b.c, 0, none⟩), .int .i64 p] w fun e w' => e = .returned (.int .i64 (leftL C p)) ∧ Below w.heap.size w w' := by
  have H := Lib.hid h
  by_cases hs : 0 < sizeI (kindL C.ks p)
  · have hin := small_in hs
    obtain ⟨q, rfl⟩ := Int.eq_ofNat_of_zero_le hin.1
    have hq : q < 64 := by have := h.tx.le; omega
    have HL := Lib.hid (show leftL C q = (C.ch.getD q (0, 0)).2 by unfold leftL; rw [if_pos hs, Int.toNat_natCast])
    have HB := Lib.hid (show decide (0 < sizeI (kindL C.ks q)) = true by simpa using hs)
    have HQ := Lib.hid hq
    have hq1 : (q : Int) < 64 := by omega
    clear h hs hin hq
    go_enter Tryz.func57, Tryz.ntmps57
    go_wp2_with (go_at_call 75; refine (csmall_any H.out q).mono ?_; rw [HB.out]; rintro e w1 ⟨rfl, hb⟩; obtain ⟨-, c1, -⟩ := (H.out.below hb).chain HQ.out; rw [← HL.out] at c1; have HB1 := Lib.hid hb; clear hb)
    go_ret
    exact ⟨rfl, HB1.out⟩
  · have HL := Lib.hid (show leftL C p = 0 by unfold leftL; rw [if_neg hs])
    have HB := Lib.hid (show decide (0 < sizeI (kindL C.ks p)) = false by simpa using hs)
    clear h hs
    go_enter Tryz.func57, Tryz.ntmps57
    go_wp2_with (go_at_call 75; refine (csmall_any H.out p).mono ?_; rw [HB.out]; rintro e w1 ⟨rfl, hb⟩; have HB1 := Lib.hid hb; clear hb)
    go_ret
    exact ⟨ret_int HL.out.symm, HB1.out⟩
theorem cfree_any (h : CX w b C) :
    Calls Tryz.prog 18 #[.pointer (some ⟨b.c, 0, none⟩)] w fun e w' => e = .returned (.int .i64 (countL C.ks)) ∧ Below w.heap.size w w' := by
  have H := Lib.hid h
  obtain ⟨c0, c1, -⟩ := h.cells
  clear h
  go_enter Tryz.func18, Tryz.ntmps18
  go_wp2_with (first
    | (go_at_call 43; refine (cis_any H.out).mono ?_; rintro e w' ⟨rfl, rfl⟩)
    | (go_at_call 44; refine (pgfree_any H.out).mono ?_; rintro e w' ⟨rfl, hb⟩))
  go_ret
  exact ⟨rfl, hb⟩
theorem cload_any (h : CX w b C) (a : Int) :
    Calls Tryz.prog 33 #[.pointer (some ⟨b.c, 0, none⟩), .int .i64 a] w fun e w' => e = .returned (.tuple #[.int .i64 (loadV C.xs a), .bool (fitB C.xs.length a 1)]) ∧ w = w' := by
  have H := Lib.hid h
  obtain ⟨-, c1, -⟩ := h.cells
  clear h
  go_enter Tryz.func33, Tryz.ntmps33
  go_wp2_with (first
    | (go_at_call 43; refine (cis_any H.out).mono ?_; rintro e w' ⟨rfl, rfl⟩)
    | (go_at_call 64; refine (load_any H.out.mx a).mono ?_; rintro e w' ⟨rfl, rfl⟩))
  go_ret2
  exact ⟨rfl, rfl⟩
theorem cisa_any (h : CX w b C) (a : Int) :
    Calls Tryz.prog 62 #[.pointer (some ⟨b.c, 0, none⟩), .int .i64 a] w fun e w' => e = .returned (.bool (hasB C.xs.length C.ws a)) ∧ w = w' := by
  have H := Lib.hid h
  obtain ⟨-, c1, c3⟩ := h.cells
  clear h
  go_enter Tryz.func62, Tryz.ntmps62
  go_wp2_with (first
    | (go_at_call 43; refine (cis_any H.out).mono ?_; rintro e w' ⟨rfl, rfl⟩)
    | (go_at_call 79; refine (has_any H.out.sx a).mono ?_; rintro e w' ⟨rfl, rfl⟩))
  go_ret
  exact ⟨rfl, rfl⟩
end
end Go.Proofs.YtjoejjhgneccgaaGreat
