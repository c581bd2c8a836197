/- What the functions of package mem come to. -/
import Derived.Test.YtjoejjhgneccgaaGreatDoorQTN02
import Derived.Test.YtjoejjhgneccgaaGreatDoorQTN03
import Derived.IntWalk
namespace Go.Proofs.YtjoejjhgneccgaaGreatDoor
open Go.RowKit

set_option maxHeartbeats 1000000 in
set_option maxRecDepth 100000 in
theorem len_any {w : World} {m r : Nat} {xs : List Int} (h : Mx w m r xs) :
    Calls Tryz.prog 205 #[.pointer (some ⟨m, 0, none⟩)] w fun e w' => e = .returned (.int .i64 xs.length) ∧ w = w' := by
  obtain ⟨c, hc, hc2, -, c1⟩ := h.cells
  clear h
  go_enter Tryz.func205, Tryz.ntmps205
  go_wp2_with fail
  go_ret
  exact ⟨rfl, rfl⟩
theorem len_nil (w : World) :
    Calls Tryz.prog 205 #[.pointer none] w fun e w' => e = .returned (.int .i64 0) ∧ w = w' := by
  go_enter Tryz.func205, Tryz.ntmps205
  go_wp2_with fail
  go_ret
  exact ⟨rfl, rfl⟩
set_option maxHeartbeats 1000000 in
set_option maxRecDepth 100000 in
theorem part_yes {w : World} {m r : Nat} {xs : List Int} (h : Mx w m r xs) (a k : Nat) (hk : 1 ≤ k) (hf : a + k ≤ xs.length) :
    Calls Tryz.prog 186 #[.pointer (some ⟨m, 0, none⟩), .int .i64 a, .int .i64 k] w fun e w' => e = .returned (.tuple #[.slice (some ⟨r, a, none⟩) k k, .bool true]) ∧ w = w' := by
  obtain ⟨c, hc, hc2, c0, c1⟩ := h.cells
  have hle := h.le
  obtain ⟨n, hn⟩ : ∃ n, n = xs.length := ⟨_, rfl⟩
  rw [← hn] at c1 hf hle hc
  unfold maxLen at hc2
  clear hn h
  have hcap : (a : Int) + (k : Int) ≤ (c : Int) := by omega
  have e1 : decide ((a : Int) < 0) = false := by simp
  have e2 : decide ((k : Int) < 0) = false := by simp
  have e3 : decide ((n : Int) < a) = false := by simp; omega
  have e4 : decide ((n : Int) - a < k) = false := by simp; omega
  go_enter Tryz.func186, Tryz.ntmps186
  go_wp2_with fail
  go_ret2
  refine ⟨?_, rfl⟩
  show Ending.returned (.tuple #[.slice (some ⟨r, a, none⟩) (a + k - a) (a + k - a), .bool true]) = _
  rw [Nat.add_sub_cancel_left]
set_option maxHeartbeats 1000000 in
set_option maxRecDepth 100000 in
theorem part_no {w : World} {m r : Nat} {xs : List Int} (h : Mx w m r xs) (a k : Int) (hf : fitB xs.length a k = false) :
    Calls Tryz.prog 186 #[.pointer (some ⟨m, 0, none⟩), .int .i64 a, .int .i64 k] w fun e w' => e = .returned (.tuple #[.slice none 0 0, .bool false]) ∧ w = w' := by
  obtain ⟨c, hc, hc2, c0, c1⟩ := h.cells
  have hle := h.le
  obtain ⟨n, hn⟩ : ∃ n, n = xs.length := ⟨_, rfl⟩
  rw [← hn] at c1 hf hle
  clear hn h hc hc2
  simp only [fitB, Bool.and_eq_false_iff, decide_eq_false_iff_not] at hf
  by_cases h1 : a < 0
  · clear hf
    go_enter Tryz.func186, Tryz.ntmps186
    go_wp2_with fail
    go_ret2
    exact ⟨rfl, rfl⟩
  by_cases h2 : k < 0
  · clear hf
    go_enter Tryz.func186, Tryz.ntmps186
    go_wp2_with fail
    go_ret2
    exact ⟨rfl, rfl⟩
  by_cases h3 : (n : Int) < a
  · clear hf
    go_enter Tryz.func186, Tryz.ntmps186
    go_wp2_with fail
    go_ret2
    exact ⟨rfl, rfl⟩
  have h4 : (n : Int) - a < k := by omega
  have e4 : decide ((n : Int) - a < k) = true := by simpa using h4
  clear hf
  go_enter Tryz.func186, Tryz.ntmps186
  go_wp2_with fail
  go_ret2
  exact ⟨rfl, rfl⟩
/-- What is loaded. -/
def loadV (xs : List Int) (a : Int) : Int := if fitB xs.length a 1 = true then xs.getD a.toNat 0 else 0
theorem loadV_no {xs : List Int} {a : Int} (h : fitB xs.length a 1 = false) : loadV xs a = 0 := by unfold loadV; rw [h]; rfl
theorem loadV_yes {xs : List Int} {i : Nat} (h : i < xs.length) : loadV xs i = xs.getD i 0 := by
  unfold loadV; rw [if_pos (by simp [fitB]; omega), Int.toNat_natCast]
set_option maxHeartbeats 1000000 in
set_option maxRecDepth 100000 in
theorem load_any {w : World} {m r : Nat} {xs : List Int} (h : Mx w m r xs) (a : Int) :
    Calls Tryz.prog 148 #[.pointer (some ⟨m, 0, none⟩), .int .i64 a] w fun e w' => e = .returned (.tuple #[.int .i64 (loadV xs a), .bool (fitB xs.length a 1)]) ∧ w = w' := by
  cases hf : fitB xs.length a 1 with
  | false =>
    have H := Lib.hid h
    have HF := Lib.hid hf
    rw [loadV_no hf]
    clear h hf
    go_enter Tryz.func148, Tryz.ntmps148
    go_wp2_with (go_at_call 186; refine (part_no H.out a 1 HF.out).mono ?_; rintro e w' ⟨rfl, rfl⟩)
    go_ret2
    exact ⟨rfl, rfl⟩
  | true =>
    have hd := hf
    simp only [fitB, Bool.and_eq_true, decide_eq_true_eq] at hd
    obtain ⟨i, rfl⟩ := Int.eq_ofNat_of_zero_le hd.1.1
    have hi : i < xs.length := by omega
    have cw := (h.word hi).1
    rw [loadV_yes hi]
    obtain ⟨v, hv⟩ : ∃ v, v = xs.getD i 0 := ⟨_, rfl⟩
    rw [← hv] at cw ⊢
    have H := Lib.hid h
    have HI := Lib.hid hi
    clear h hf hd hv hi
    go_enter Tryz.func148, Tryz.ntmps148
    go_wp2_with (go_at_call 186; refine (part_yes H.out i 1 (Nat.le_refl _) HI.out).mono ?_; rintro e w' ⟨rfl, rfl⟩)
    go_ret2
    exact ⟨rfl, rfl⟩
set_option maxHeartbeats 1000000 in
set_option maxRecDepth 100000 in
theorem fill_yes {w : World} {m r : Nat} {xs : List Int} (h : Mx w m r xs) (a k : Nat) (v : Int) (hk : 1 ≤ k) (hf : a + k ≤ xs.length) :
    Calls Tryz.prog 142 #[.pointer (some ⟨m, 0, none⟩), .int .i64 a, .int .i64 k, .int .i64 v] w fun e w' => e = .returned (.bool true) ∧ Mx w' m r (fillL xs a k v) ∧ Frm [r] w w' := by
  have hle := h.le
  have H := Lib.hid h
  have F0 := Lib.hid (Frm.refl [r] w)
  have HK := Lib.hid hk
  have hkl : k ≤ 2048 := by omega
  have HF := Lib.hid hf
  clear h hk hf
  go_enter Tryz.func142, Tryz.ntmps142
  go_wp2_with (go_at_call 186; refine (part_yes H.out a k HK.out HF.out).mono ?_; rintro e w' ⟨rfl, rfl⟩)
  go_loopw [21] (fun t wr => ∃ j : Nat, j ≤ k ∧ t = .int .i64 j ∧ Hid (Mx wr m r (fillL xs a j v)) ∧ Hid (Frm [r] w wr)) (fun t _ => k - (intOf t).toNat)
  case atStart => exact ⟨0, Nat.zero_le _, rfl, H, F0⟩
  case round =>
    clear H F0
    obtain ⟨j, hj, rfl, H, F0⟩ := hrel
    by_cases hlt : j < k
    · have hlen : a + j < (fillL xs a j v).length := by rw [fillL_len]; have := HF.out; omega
      obtain ⟨cw, fz⟩ := H.out.word hlen
      have HLn := Lib.hid hlen
      obtain ⟨u, hu⟩ : ∃ u, u = (fillL xs a j v).getD (a + j) 0 := ⟨_, rfl⟩
      rw [← hu] at cw
      clear hu hlen
      go_wp2_with fail
      go_roundw
      case rel => exact ⟨j + 1, by omega, by go_num, Lib.hid (H.out.put HLn.out _), Lib.hid (F0.out.trans (Frm.setCell wr (by simp) _) (fun x hx => .inl hx))⟩
      case measure => simp [intOf]; omega
    · obtain rfl : j = k := by omega
      clear hj hlt
      go_wp2_with fail
      go_ret
      exact ⟨rfl, H.out, F0.out⟩
set_option maxHeartbeats 1000000 in
set_option maxRecDepth 100000 in
theorem fill_no {w : World} {m r : Nat} {xs : List Int} (h : Mx w m r xs) (a k v : Int) (hf : fitB xs.length a k = false) :
    Calls Tryz.prog 142 #[.pointer (some ⟨m, 0, none⟩), .int .i64 a, .int .i64 k, .int .i64 v] w fun e w' => e = .returned (.bool false) ∧ w = w' := by
  have H := Lib.hid h
  have HF := Lib.hid hf
  clear h hf
  go_enter Tryz.func142, Tryz.ntmps142
  go_wp2_with (go_at_call 186; refine (part_no H.out a k HF.out).mono ?_; rintro e w' ⟨rfl, rfl⟩)
  go_loop [21] (fun t => t = .int .i64 0) (fun _ => 0)
  case atStart => rfl
  case round =>
    obtain rfl := hrel
    go_wp2_with fail
    go_ret
    exact ⟨rfl, rfl⟩
theorem fill_int {w : World} {m r : Nat} {xs : List Int} (h : Mx w m r xs) (a k v : Int) (h0 : 0 ≤ a) (h1 : 1 ≤ k) (h2 : a + k ≤ xs.length) :
    Calls Tryz.prog 142 #[.pointer (some ⟨m, 0, none⟩), .int .i64 a, .int .i64 k, .int .i64 v] w fun e w' => e = .returned (.bool true) ∧ Mx w' m r (fillL xs a.toNat k.toNat v) ∧ Frm [r] w w' := by
  obtain ⟨i, rfl⟩ := Int.eq_ofNat_of_zero_le h0
  obtain ⟨j, rfl⟩ := Int.eq_ofNat_of_zero_le (show 0 ≤ k by omega)
  exact fill_yes h i j v (by omega) (by omega)
/-- A word. -/
def putL (xs : List Int) (a v : Int) : List Int := if fitB xs.length a 1 = true then xs.set a.toNat v else xs
theorem store_any {w : World} {m r : Nat} {xs : List Int} (h : Mx w m r xs) (a v : Int) :
    Calls Tryz.prog 155 #[.pointer (some ⟨m, 0, none⟩), .int .i64 a, .int .i64 v] w fun e w' => e = .returned (.bool (fitB xs.length a 1)) ∧ Mx w' m r (putL xs a v) ∧ Frm [r] w w' := by
  unfold putL
  cases hf : fitB xs.length a 1 with
  | false =>
    have H := Lib.hid h
    have HF := Lib.hid hf
    clear h hf
    go_enter Tryz.func155, Tryz.ntmps155
    go_wp2_with (go_at_call 142; refine (fill_no H.out a 1 v HF.out).mono ?_; rintro e w' ⟨rfl, rfl⟩)
    go_ret
    exact ⟨rfl, by simpa using H.out, Frm.refl _ _⟩
  | true =>
    have hd := hf
    simp only [fitB, Bool.and_eq_true, decide_eq_true_eq] at hd
    obtain ⟨i, rfl⟩ := Int.eq_ofNat_of_zero_le hd.1.1
    have hi : i + 1 ≤ xs.length := by omega
    have H := Lib.hid h
    have HI := Lib.hid hi
    clear h hf hd hi
    go_enter Tryz.func155, Tryz.ntmps155
    go_wp2_with (go_at_call 142; refine (fill_yes H.out i 1 v (Nat.le_refl _) HI.out).mono ?_; rintro e w' ⟨rfl, hm, hf⟩)
    go_ret
    exact ⟨rfl, by simpa [fillL] using hm, hf⟩
theorem info_num64 : (Tryz.prog.info? 2).map (fun i => (i.zero, i.size, i.bytes)) = some (some (.int .i64 0), 1, 8) := by kernel_rfl
theorem make_words (n : Nat) (hn : n ≤ 1000000) (w : World) : (Instr.makeSlice 194 (.int .i64 (n : Int)) (.int .i64 (n : Int))).run Tryz.prog w = .ok (.slice (some ⟨w.heap.size, 0, none⟩) n n) (w.alloc (.cells (ints (List.replicate n 0)) 2)) := by
  obtain ⟨i0, hi, hz0, hz1, hz2⟩ := info_parts info_num64
  have h := run_make (P := Tryz.prog) w 194 2 i0 _ Tryz.underlying194 hi hz0 .i64 .i64 n n (by omega) (by omega) (by rw [hz2]; omega) (by omega)
  rw [hz1] at h
  have e : madeCells #[Value.int .i64 0] (n * 1) = ints (List.replicate n 0) := by
    unfold ints
    rw [List.map_replicate]
    apply Array.ext
    · simp [madeCells]
    · intro i h1 h2
      simp only [madeCells, Array.getElem_map, Array.getElem_range, List.getElem_toArray, List.getElem_replicate]
      show (#[Value.int .i64 0])[i % 1]! = _
      rw [Nat.mod_one]; rfl
  rw [← e]
  exact h
set_option maxRecDepth 100000 in
theorem mnew_any (n : Int) (w : World) :
    Calls Tryz.prog 165 #[.int .i64 n] w fun e w' => e = .returned (.pointer (some ⟨w.heap.size + 1, 0, none⟩)) ∧ Mx w' (w.heap.size + 1) w.heap.size (List.replicate (clampN n 0 2048).toNat 0) ∧ Below w.heap.size w w' := by
  have hb := clampN_bd (a := n) (lo := 0) (hi := 2048) (by omega)
  obtain ⟨k, hk⟩ := Int.eq_ofNat_of_zero_le hb.1
  have HK := Lib.hid hk
  have hk64 : k ≤ 2048 := by omega
  have mk := make_words k (by omega)
  obtain ⟨R, hR⟩ : ∃ R, R = ints (List.replicate k 0) := ⟨_, rfl⟩
  rw [← hR] at mk
  have HR := Lib.hid hR
  clear hk hb hR
  go_enter Tryz.func165, Tryz.ntmps165
  go_wp2_with (go_at_call 58; refine (clampn_any n 0 2048 _).mono ?_; rw [HK.out]; rintro e w' ⟨rfl, rfl⟩)
  go_ret
  rw [HK.out, Int.toNat_natCast]
  refine ⟨rfl, Mx.of_block ?_ ?_ (by simpa using hk64), ?_⟩
  · rw [List.length_replicate]
    exact alloc_at _ _ (by simp)
  · rw [← HR.out]
    exact keep_alloc _ (heap_alloc_new w _)
  · exact (below_alloc0 _ _).alloc (by simp) _
def ClnE (xs : List Int) (B : Nat) (e : Ending) (w' : World) : Prop := ∃ m r, e = .returned (.pointer (some ⟨m, 0, none⟩)) ∧ B ≤ m ∧ B ≤ r ∧ Mx w' m r xs
end Go.Proofs.YtjoejjhgneccgaaGreatDoor

/- Free cells of a page: opened, linked. -/
namespace Go.Proofs.YtjoejjhgneccgaaGreatDoor
open Go.RowKit

/-- Has a page cells of a class? -/
structure OpP (len : Nat) (p k : Int) : Prop where
  p0 : 0 ≤ p
  p1 : p < 64
  k0 : 1 ≤ k
  k1 : k ≤ 4
  fit : p * 32 + 32 ≤ len
set_option maxHeartbeats 4000000 in
set_option maxRecDepth 100000 in
theorem open_yes {w : World} {m r : Nat} {xs : List Int} (h : Mx w m r xs) (p k : Int) (hp : OpP xs.length p k) :
    Calls Tryz.prog 183 #[.pointer (some ⟨m, 0, none⟩), .int .i64 p, .int .i64 k] w fun e w' => e = .returned (.tuple #[.agg #[.pointer (some ⟨m, 0, none⟩), .int .i64 p, .int .i64 k, .int .i64 (cellsI k)], .bool true]) ∧ Below w.heap.size w w' := by
  have H := Lib.hid h
  have HP := Lib.hid (show endB p 1 = true by have := hp.p0; have := hp.p1; simp [endB]; omega)
  have hc := cellsI_pos ⟨hp.k0, hp.k1⟩
  have hle := h.le
  have hl : ((p + 1) * 32 - 1) < (xs.length : Int) := by have := hp.fit; omega
  have h0 : 0 < cellsI k := by omega
  obtain ⟨n, hn⟩ : ∃ n, n = xs.length := ⟨_, rfl⟩
  rw [← hn] at hl
  have HN := Lib.hid hn
  have a0 : ∀ B : Obj, ((w.alloc (.cells #[.pointer none, .int .i64 0, .int .i64 0, .int .i64 0] 191)).alloc B).heap[w.heap.size]? = some (.cells #[.pointer none, .int .i64 0, .int .i64 0, .int .i64 0] 191 (0, 0)) := fun B => keep_alloc _ (heap_alloc_new w _)
  have A0 := Lib.hid a0
  have HW := Lib.hid (h.below (((Below.refl w.heap.size w).alloc (Nat.le_refl _) (.cells #[.pointer none, .int .i64 0, .int .i64 0, .int .i64 0] 191)).alloc (by simp) (.cells #[.pointer (some ⟨m, 0, none⟩), .int .i64 p, .int .i64 k, .int .i64 (cellsI k)] 191)).drew)
  clear h hp hc hle hn a0
  go_enter Tryz.func183, Tryz.ntmps183
  go_wp2_with (first
    | (go_at_call 157; refine (cells_any k _).mono ?_; rintro e w' ⟨rfl, rfl⟩)
    | (go_at_call 146; refine (ends_yes p 1 HP.out _).mono ?_; rintro e w' ⟨rfl, rfl⟩))
  go_region_held3 (fun w' => w'.cell? ⟨w.heap.size + 1, 0, none⟩ = some (.pointer (some ⟨m, 0, none⟩)) ∧ w'.cell? ⟨w.heap.size + 1, 1, none⟩ = some (.int .i64 p) ∧ w'.cell? ⟨w.heap.size + 1, 2, none⟩ = some (.int .i64 k) ∧ w'.cell? ⟨w.heap.size + 1, 3, none⟩ = some (.int .i64 (cellsI k))) (go_keep)
    ((go_at_call 205; refine (len_any HW.out).mono ?_; rw [← HN.out]; rintro e w1 ⟨rfl, rfl⟩))
  go_wp2_with fail
  have e0 : ∀ A B : Obj, ((w.alloc A).alloc B).drew.heap[w.heap.size]? = some A := fun A B => keep_alloc _ (heap_alloc_new w _)
  exact bodyPost_ret (results_row_tmp rfl _ _ w.heap.size 191 #[.pointer (some ⟨m, 0, none⟩), .int .i64 p, .int .i64 k, .int .i64 (cellsI k)] (0, 0) _ rfl (e0 _ _) Tryz.underlying191 rfl (by kernel_rfl)) rfl
    ⟨rfl, (((Below.refl w.heap.size w).alloc (Nat.le_refl _) _).alloc (by simp) _).drew⟩
/-- A cell's address. -/
def cad (p k i : Int) : Int := p * 32 + i * sizeI k
theorem at_cad (p k i : Int) (h : atB p k i = true) (w : World) :
    Calls Tryz.prog 141 #[.int .i64 p, .int .i64 k, .int .i64 i] w fun e w' => e = .returned (.tuple #[.int .i64 (cad p k i), .bool true]) ∧ w = w' := at_yes p k i h w
theorem cad_in {len : Nat} {p k i : Int} (h : OpP len p k) (h0 : 0 ≤ i) (h1 : i < cellsI k) : atB p k i = true ∧ 0 ≤ cad p k i ∧ p * 32 ≤ cad p k i ∧ cad p k i + sizeI k ≤ p * 32 + 32 ∧ cad p k i + 2 ≤ len := by
  obtain ⟨a, b, c, d, e⟩ := h
  have hc : k = 1 ∨ k = 2 ∨ k = 3 ∨ k = 4 := by omega
  refine ⟨by simp [atB]; omega, ?_⟩
  unfold cad
  rcases hc with rfl | rfl | rfl | rfl <;> simp [cellsI, sizeI] at * <;> omega
set_option maxHeartbeats 1000000 in
set_option maxRecDepth 100000 in
theorem link_any {w : World} {m r : Nat} {xs : List Int} (h : Mx w m r xs) (p k i nx : Int) (hp : OpP xs.length p k) (h0 : 0 ≤ i) (h1 : i < cellsI k) (hn0 : 0 ≤ nx) (hn1 : nx ≤ 1000000) :
    Calls Tryz.prog 193 #[.agg #[.pointer (some ⟨m, 0, none⟩), .int .i64 p, .int .i64 k, .int .i64 (cellsI k)], .int .i64 i, .int .i64 nx] w fun e w' => (∃ v, e = .returned v) ∧ Mx w' m r (putL xs (cad p k i) (-1 - nx)) ∧ Frm [r] w w' := by
  obtain ⟨hat, -⟩ := cad_in hp h0 h1
  have HA := Lib.hid hat
  have H := Lib.hid (h.below (below_alloc0 w (.cells #[.pointer (some ⟨m, 0, none⟩), .int .i64 p, .int .i64 k, .int .i64 (cellsI k)] 191)))
  clear h hp h0 h1 hat
  go_enter Tryz.func193, Tryz.ntmps193
  go_wp2_with (first
    | (go_at_call 141; refine (at_yes p k i HA.out _).mono ?_; rintro e w' ⟨rfl, rfl⟩)
    | (go_at_call 155; refine (store_any H.out _ _).mono ?_; rintro e w' ⟨rfl, hm, hf⟩; have HM := Lib.hid hm; have HF := Lib.hid hf; clear hm hf))
  go_end0
  exact ⟨⟨_, rfl⟩, HM.out, (Frm.of_below [r] (below_alloc0 w _)).trans HF.out (fun x hx => .inl hx)⟩
set_option maxHeartbeats 1000000 in
set_option maxRecDepth 100000 in
theorem is_yes (m : Nat) (p k i : Int) (h0 : 0 ≤ i) (h1 : i < cellsI k) (w : World) :
    Calls Tryz.prog 184 #[.agg #[.pointer (some ⟨m, 0, none⟩), .int .i64 p, .int .i64 k, .int .i64 (cellsI k)], .int .i64 i] w fun e w' => e = .returned (.bool true) ∧ Below w.heap.size w w' := by
  go_enter Tryz.func184, Tryz.ntmps184
  go_wp2_with fail
  go_ret
  exact ⟨rfl, below_alloc0 _ _⟩
set_option maxHeartbeats 1000000 in
set_option maxRecDepth 100000 in
theorem cnext_yes {w : World} {m r : Nat} {xs : List Int} (h : Mx w m r xs) (p k i y : Int) (hp : OpP xs.length p k) (h0 : 0 ≤ i) (h1 : i < cellsI k) (hy : xs.getD (cad p k i).toNat 0 = y) (hy0 : y < 0) (hy1 : -1 - cellsI k ≤ y) :
    Calls Tryz.prog 185 #[.agg #[.pointer (some ⟨m, 0, none⟩), .int .i64 p, .int .i64 k, .int .i64 (cellsI k)], .int .i64 i] w fun e w' => e = .returned (.tuple #[.int .i64 (-1 - y), .bool true]) ∧ Below w.heap.size w w' := by
  obtain ⟨hat, hc0, -, -, hc1⟩ := cad_in hp h0 h1
  have HA := Lib.hid hat
  have hn := cellsI_pos ⟨hp.k0, hp.k1⟩
  have H := Lib.hid (h.below (below_alloc0 w (.cells #[.pointer (some ⟨m, 0, none⟩), .int .i64 p, .int .i64 k, .int .i64 (cellsI k)] 191)))
  have hfit : fitB xs.length (p * 32 + i * sizeI k) 1 = true := by
    unfold cad at hc0 hc1; simp [fitB]; omega
  have hld : loadV xs (p * 32 + i * sizeI k) = y := by
    unfold loadV; rw [if_pos hfit, ← hy]; rfl
  have HF := Lib.hid hfit
  have HL := Lib.hid hld
  clear h hp h0 h1 hat hy hc0 hc1 hfit hld
  go_enter Tryz.func185, Tryz.ntmps185
  go_wp2_with (first
    | (go_at_call 141; refine (at_yes p k i HA.out _).mono ?_; rintro e w' ⟨rfl, rfl⟩)
    | (go_at_call 148; refine (load_any H.out _).mono ?_; rw [HL.out, HF.out]; rintro e w' ⟨rfl, rfl⟩))
  go_ret2
  exact ⟨rfl, below_alloc0 _ _⟩
end Go.Proofs.YtjoejjhgneccgaaGreatDoor

/- Free cells of a page: built, taken, given back. -/
namespace Go.Proofs.YtjoejjhgneccgaaGreatDoor
open Go.RowKit

/-- The first cells tell the next ones. -/
def linkL (xs : List Int) (p k : Int) : Nat → List Int
  | 0 => xs
  | j + 1 => putL (linkL xs p k j) (cad p k j) (-1 - ((j : Int) + 1))
theorem putL_len (xs : List Int) (a v : Int) : (putL xs a v).length = xs.length := by unfold putL; split <;> simp
theorem linkL_len (xs : List Int) (p k : Int) (j : Nat) : (linkL xs p k j).length = xs.length := by
  induction j with
  | zero => rfl
  | succ j ih => rw [linkL, putL_len, ih]
def buildL (xs : List Int) (p k : Int) : List Int := linkL (fillL xs (p * 32).toNat 32 0) p k (cellsI k).toNat
theorem OpP.len {a b : Nat} {p k : Int} (h : OpP a p k) (e : a ≤ b) : OpP b p k := ⟨h.p0, h.p1, h.k0, h.k1, by have := h.fit; omega⟩
set_option maxHeartbeats 8000000 in
set_option maxRecDepth 100000 in
theorem build_yes {w : World} {m r : Nat} {xs : List Int} (h : Mx w m r xs) (p k : Int) (hp : OpP xs.length p k) :
    Calls Tryz.prog 189 #[.pointer (some ⟨m, 0, none⟩), .int .i64 p, .int .i64 k] w fun e w' => e = .returned (.tuple #[.agg #[.int .i64 0, .int .i64 (cellsI k)], .bool true]) ∧ Mx w' m r (buildL xs p k) ∧ Frm [r] w w' := by
  have H := Lib.hid h
  have HP := Lib.hid hp
  have HE := Lib.hid (show endB p 1 = true by have := hp.p0; have := hp.p1; simp [endB]; omega)
  obtain ⟨b, hb⟩ := Int.eq_ofNat_of_zero_le (show 0 ≤ p * 32 by have := hp.p0; omega)
  have hbf : b + 32 ≤ xs.length := by have := hp.fit; omega
  have HB := Lib.hid hb
  have HBF := Lib.hid hbf
  have hc := cellsI_pos ⟨hp.k0, hp.k1⟩
  obtain ⟨n, hn⟩ := Int.eq_ofNat_of_zero_le (show 0 ≤ cellsI k by omega)
  have HN := Lib.hid hn
  have hn16 : n ≤ 16 := by omega
  have hr := h.lt.2
  have Z0 := Lib.hid (heap_alloc_new w (.cells #[.int .i64 0, .int .i64 0] 148))
  have B0 := Lib.hid (below_alloc0 w (.cells #[.int .i64 0, .int .i64 0] 148))
  clear h hp hb hbf hc hn
  go_enter Tryz.func189, Tryz.ntmps189
  go_wp2_with (first
    | (go_at_call 183; refine (open_yes (H.out.below B0.out) p k HP.out).mono ?_; rintro e w1 ⟨rfl, hb1⟩; have B1 := Lib.hid (below_next B0.out hb1); have Z1 := Lib.hid (keep hb1 Z0.out); clear hb1; rw [HN.out])
    | (go_at_call 146; refine (ends_yes p 1 HE.out _).mono ?_; rw [HB.out]; rintro e w' ⟨rfl, rfl⟩; have M2 := Lib.hid (H.out.below (B1.out.alloc B1.out.size (.cells #[.pointer (some ⟨m, 0, none⟩), .int .i64 p, .int .i64 k, .int .i64 n] 191))); have B2 := Lib.hid (B1.out.alloc B1.out.size (.cells #[.pointer (some ⟨m, 0, none⟩), .int .i64 p, .int .i64 k, .int .i64 n] 191)); have Z2 := Lib.hid (keep_alloc (.cells #[.pointer (some ⟨m, 0, none⟩), .int .i64 p, .int .i64 k, .int .i64 n] 191) Z1.out); have O2 := Lib.hid (heap_alloc_new w1 (.cells #[.pointer (some ⟨m, 0, none⟩), .int .i64 p, .int .i64 k, .int .i64 n] 191)))
    | (go_at_call 142; refine (fill_yes M2.out b 32 0 (by decide) HBF.out).mono ?_; rintro e w3 ⟨rfl, hm3, hf3⟩; have M3 := Lib.hid hm3; have F3 := Lib.hid ((Frm.of_below [r] B2.out).trans hf3 (fun x hx => .inl hx)); have Z3 := Lib.hid ((hf3.block _ (heap_lt Z2.out) (by simp; omega)).trans Z2.out); have o3 := (hf3.block _ (heap_lt O2.out) (by have := B1.out.size; simp; omega)).trans O2.out; have O3 := Lib.hid o3; have e0 : w3.cell? ⟨w1.heap.size, 0, none⟩ = some (.pointer (some ⟨m, 0, none⟩)) := cell_of_row _ _ _ _ _ _ o3; have e3 : w3.cell? ⟨w1.heap.size, 3, none⟩ = some (.int .i64 n) := cell_of_row _ _ _ _ _ _ o3; clear hm3 hf3 o3))
  go_loopw [35] (fun a wr => ∃ j : Nat, j ≤ n ∧ a = .int .i64 j ∧ Hid (Mx wr m r (linkL (fillL xs b 32 0) p k j)) ∧ Hid (Frm [r] w wr) ∧ Hid (wr.heap[w.heap.size]? = some (.cells #[.int .i64 0, .int .i64 0] 148 (0, 0))) ∧ Hid (wr.heap[w1.heap.size]? = some (.cells #[.pointer (some ⟨m, 0, none⟩), .int .i64 p, .int .i64 k, .int .i64 n] 191 (0, 0)))) (fun a _ => n - (intOf a).toNat)
  case atStart => exact ⟨0, Nat.zero_le _, rfl, M3, F3, Z3, O3⟩
  case round =>
    clear M3 F3 Z3 O3 e0 e3
    obtain ⟨j, hj, rfl, M3, F3, Z3, O3⟩ := hrel
    have o3 := O3.out
    have e0 : wr.cell? ⟨w1.heap.size, 0, none⟩ = some (.pointer (some ⟨m, 0, none⟩)) := cell_of_row _ _ _ _ _ _ o3
    have e1 : wr.cell? ⟨w1.heap.size, 1, none⟩ = some (.int .i64 p) := cell_of_row _ _ _ _ _ _ o3
    have e2 : wr.cell? ⟨w1.heap.size, 2, none⟩ = some (.int .i64 k) := cell_of_row _ _ _ _ _ _ o3
    have e3 : wr.cell? ⟨w1.heap.size, 3, none⟩ = some (.int .i64 n) := cell_of_row _ _ _ _ _ _ o3
    clear o3
    by_cases hlt : j < n
    · have HJ := Lib.hid hlt
      go_wp2_with (go_at_call 193; have lk := link_any M3.out p k (j : Int) ((j : Int) + 1) (HP.out.len (by rw [linkL_len, fillL_len]; exact Nat.le_refl _)) (by omega) (by rw [HN.out]; have := HJ.out; omega) (by omega) (by omega); rw [HN.out] at lk; refine lk.mono ?_; clear lk; rintro e w4 ⟨⟨v4, rfl⟩, hm4, hf4⟩; have M4 := Lib.hid hm4; have Z4 := Lib.hid ((hf4.block _ (heap_lt Z3.out) (by simp; omega)).trans Z3.out); have O4 := Lib.hid ((hf4.block _ (heap_lt O3.out) (by have := B1.out.size; simp; omega)).trans O3.out); have F4 := Lib.hid (F3.out.trans hf4 (fun x hx => .inl hx)); clear hm4 hf4)
      go_roundw
      case rel => exact ⟨j + 1, by omega, by go_num, M4, F4, Z4, O4⟩
      case measure => simp [intOf]; omega
    · obtain rfl : j = n := by omega
      have HM := Lib.hid (show buildL xs p k = linkL (fillL xs b 32 0) p k j by unfold buildL; rw [HB.out, HN.out]; rfl)
      clear hj hlt
      go_wp2_with (refine wpList_store_row rfl 148 _ _ rfl w.heap.size #[.int .i64 0, .int .i64 j] rfl rfl 148 _ Z3.out (by kernel_rfl) rfl (by kernel_rfl) ?_)
      refine bodyPost_ret (results_row_tmp rfl _ _ w.heap.size 148 #[.int .i64 0, .int .i64 j] _ _ rfl (heap_setRow_same _ Z3.out) Tryz.underlying148 rfl (by kernel_rfl)) rfl ⟨by rw [HN.out]; rfl, ?_, ?_⟩
      · rw [HM.out]
        exact M3.out.keep (heap_setRow_other _ _ _ _ (by have := H.out.lt.1; omega)) (heap_setRow_other _ _ _ _ (by omega))
      · exact F3.out.trans_new (Frm.setRow wr (fp := [w.heap.size]) (by simp) _) (by simp)
set_option maxHeartbeats 8000000 in
set_option maxRecDepth 100000 in
theorem ctake_yes {w : World} {m r : Nat} {xs : List Int} (h : Mx w m r xs) (p k f c y : Int) (hp : OpP xs.length p k) (hc1 : 1 ≤ c) (hc2 : c ≤ 1000000) (hf0 : 0 ≤ f) (hf1 : f < cellsI k) (hy : xs.getD (cad p k f).toNat 0 = y) (hy0 : y < 0) (hy1 : -1 - cellsI k ≤ y) :
    Calls Tryz.prog 140 #[.pointer (some ⟨m, 0, none⟩), .int .i64 p, .int .i64 k, .agg #[.int .i64 f, .int .i64 c]] w fun e w' => e = .returned (.tuple #[.int .i64 f, .agg #[.int .i64 (-1 - y), .int .i64 (c - 1)], .bool true]) ∧ Below w.heap.size w w' := by
  have HP := Lib.hid hp
  have HY := Lib.hid hy
  have hcl := cellsI_pos ⟨hp.k0, hp.k1⟩
  have b0 : Below w.heap.size w ((w.alloc (.cells #[.int .i64 f, .int .i64 c] 148)).alloc (.cells #[.int .i64 0, .int .i64 0] 148)) := ((Below.refl w.heap.size w).alloc (Nat.le_refl _) _).alloc (by simp) _
  have B0 := Lib.hid b0
  have H := Lib.hid (h.below b0)
  have Z0 := Lib.hid (show ((w.alloc (.cells #[.int .i64 f, .int .i64 c] 148)).alloc (.cells #[.int .i64 0, .int .i64 0] 148)).heap[w.heap.size]? = some (.cells #[.int .i64 f, .int .i64 c] 148 (0, 0)) from keep_alloc _ (heap_alloc_new w _))
  have Z1 := Lib.hid (show ((w.alloc (.cells #[.int .i64 f, .int .i64 c] 148)).alloc (.cells #[.int .i64 0, .int .i64 0] 148)).heap[w.heap.size + 1]? = some (.cells #[.int .i64 0, .int .i64 0] 148 (0, 0)) from alloc_at _ _ (by simp))
  clear h hp hy b0
  go_enter Tryz.func140, Tryz.ntmps140
  go_wp2_with (first
    | (go_at_call 183; refine (open_yes H.out p k HP.out).mono ?_; rintro e w1 ⟨rfl, hb1⟩; have B1 := Lib.hid (B0.out.trans (hb1.mono (by simp; omega))); have M1 := Lib.hid (H.out.below hb1); have q0 := keep hb1 Z0.out; have q1 := keep hb1 Z1.out; have Y0 := Lib.hid q0; have Y1 := Lib.hid q1; have d0 : w1.cell? ⟨w.heap.size, 0, none⟩ = some (.int .i64 f) := cell_of_row _ _ _ _ _ _ q0; have d1 : w1.cell? ⟨w.heap.size, 1, none⟩ = some (.int .i64 c) := cell_of_row _ _ _ _ _ _ q0; have hsz : w.heap.size + 1 < w1.heap.size := heap_lt q1; have hsz0 : w.heap.size < w1.heap.size := heap_lt q0; have d2 : ∀ A : Obj, (w1.alloc A).cell? ⟨w.heap.size, 0, none⟩ = some (.int .i64 f) := fun A => cell_of_row _ _ _ _ _ _ (keep_alloc A q0); have d3 : ∀ A : Obj, (w1.alloc A).cell? ⟨w.heap.size, 1, none⟩ = some (.int .i64 c) := fun A => cell_of_row _ _ _ _ _ _ (keep_alloc A q0); clear hb1 q0 q1)
    | (go_at_call 184; refine (is_yes m p k f hf0 hf1 _).mono ?_; rintro e w2 ⟨rfl, hb2⟩; have HB2 := Lib.hid hb2; have B2 := Lib.hid ((B1.out.alloc B1.out.size (.cells #[.pointer (some ⟨m, 0, none⟩), .int .i64 p, .int .i64 k, .int .i64 (cellsI k)] 191)).trans (hb2.mono (by have := B1.out.size; simp; omega))); have M2 := Lib.hid ((M1.out.below (below_alloc0 _ (.cells #[.pointer (some ⟨m, 0, none⟩), .int .i64 p, .int .i64 k, .int .i64 (cellsI k)] 191))).below hb2); have q0 := keep hb2 (keep_alloc (.cells #[.pointer (some ⟨m, 0, none⟩), .int .i64 p, .int .i64 k, .int .i64 (cellsI k)] 191) Y0.out); have q1 := keep hb2 (keep_alloc (.cells #[.pointer (some ⟨m, 0, none⟩), .int .i64 p, .int .i64 k, .int .i64 (cellsI k)] 191) Y1.out); have q2 := keep hb2 (heap_alloc_new w1 (.cells #[.pointer (some ⟨m, 0, none⟩), .int .i64 p, .int .i64 k, .int .i64 (cellsI k)] 191)); have Y2 := Lib.hid q0; have Y3 := Lib.hid q1; have Y4 := Lib.hid q2; have f0 : w2.cell? ⟨w.heap.size, 0, none⟩ = some (.int .i64 f) := cell_of_row _ _ _ _ _ _ q0; have f1 : w2.cell? ⟨w.heap.size, 1, none⟩ = some (.int .i64 c) := cell_of_row _ _ _ _ _ _ q0; have g0 : w2.cell? ⟨w1.heap.size, 0, none⟩ = some (.pointer (some ⟨m, 0, none⟩)) := cell_of_row _ _ _ _ _ _ q2; have g1 : w2.cell? ⟨w1.heap.size, 1, none⟩ = some (.int .i64 p) := cell_of_row _ _ _ _ _ _ q2; have g2 : w2.cell? ⟨w1.heap.size, 2, none⟩ = some (.int .i64 k) := cell_of_row _ _ _ _ _ _ q2; have g3 : w2.cell? ⟨w1.heap.size, 3, none⟩ = some (.int .i64 (cellsI k)) := cell_of_row _ _ _ _ _ _ q2; clear hb2 q0 q1 q2)
    | (go_at_call 185; refine (cnext_yes M2.out p k f y HP.out hf0 hf1 HY.out hy0 hy1).mono ?_; rintro e w3 ⟨rfl, hb3⟩; have B3 := Lib.hid (B2.out.trans (hb3.mono B2.out.size)); have q0 := keep hb3 Y2.out; have q1 := keep hb3 Y3.out; have X3 := Lib.hid q1; have x0 : w3.cell? ⟨w.heap.size + 1, 0, none⟩ = some (.int .i64 0) := cell_of_row _ _ _ _ _ _ q1; have x1 : w3.cell? ⟨w.heap.size + 1, 1, none⟩ = some (.int .i64 0) := cell_of_row _ _ _ _ _ _ q1; have z3 := frozen_of_row w3 (w.heap.size + 1) 0 _ _ q1; have z4 := frozen_of_row w3 (w.heap.size + 1) 1 _ _ q1; have s0 : w3.cell? ⟨w.heap.size, 0, none⟩ = some (.int .i64 f) := cell_of_row _ _ _ _ _ _ q0; have s1 : w3.cell? ⟨w.heap.size, 1, none⟩ = some (.int .i64 c) := cell_of_row _ _ _ _ _ _ q0; clear hb3 q0 q1))
  have hwr : IntKind.i64.wrap (c - 1) = c - 1 := IntWalk.i64_in _ (by omega)
  go_region_held3 (fun w' => w'.cell? ⟨w.heap.size, 0, none⟩ = some (.int .i64 f) ∧ w'.cell? ⟨w.heap.size, 1, none⟩ = some (.int .i64 c)) (go_keep) (fail)
  go_wp2_with fail
  have e1 : ((w3.setCell ⟨w.heap.size + 1, 0, none⟩ (.int .i64 (-1 - y))).setCell ⟨w.heap.size + 1, 1, none⟩ (.int .i64 (c - 1))).drew.heap[w.heap.size + 1]? = some (.cells #[.int .i64 (-1 - y), .int .i64 (c - 1)] 148 (0, 0)) := heap_setCell_same _ _ 1 _ _ _ (heap_setCell_same _ _ 0 _ _ _ X3.out)
  have e2 := cell_of_row _ _ 0 _ _ _ e1
  have e3 := cell_of_row _ _ 1 _ _ _ e1
  refine bodyPost_ret (v := .tuple #[.int .i64 f, .agg #[.int .i64 (-1 - y), .int .i64 (c - 1)], .bool true]) (by simp [results, Tryz.results140, go_sem, e2, e3]) rfl ⟨rfl, ?_⟩
  exact ((B3.out.setCell (by simp) _).setCell (by simp) _).drew
set_option maxHeartbeats 8000000 in
set_option maxRecDepth 100000 in
theorem cgive_yes {w : World} {m r : Nat} {xs : List Int} (h : Mx w m r xs) (p k f c i : Int) (hp : OpP xs.length p k) (hc1 : 0 ≤ c) (hc2 : c < cellsI k) (hf0 : 0 ≤ f) (hf1 : f ≤ cellsI k) (hi0 : 0 ≤ i) (hi1 : i < cellsI k) :
    Calls Tryz.prog 153 #[.pointer (some ⟨m, 0, none⟩), .int .i64 p, .int .i64 k, .agg #[.int .i64 f, .int .i64 c], .int .i64 i] w fun e w' => e = .returned (.tuple #[.agg #[.int .i64 i, .int .i64 (c + 1)], .bool true]) ∧ Mx w' m r (putL xs (cad p k i) (-1 - f)) ∧ Frm [r] w w' := by
  have HP := Lib.hid hp
  have hcl := cellsI_pos ⟨hp.k0, hp.k1⟩
  have hrl := h.lt.2
  have hml := h.lt.1
  have hf2 : f ≤ 1000000 := by omega
  have b0 : Below w.heap.size w ((w.alloc (.cells #[.int .i64 f, .int .i64 c] 148)).alloc (.cells #[.int .i64 0, .int .i64 0] 148)) := ((Below.refl w.heap.size w).alloc (Nat.le_refl _) _).alloc (by simp) _
  have B0 := Lib.hid b0
  have H := Lib.hid (h.below b0)
  have Z0 := Lib.hid (show ((w.alloc (.cells #[.int .i64 f, .int .i64 c] 148)).alloc (.cells #[.int .i64 0, .int .i64 0] 148)).heap[w.heap.size]? = some (.cells #[.int .i64 f, .int .i64 c] 148 (0, 0)) from keep_alloc _ (heap_alloc_new w _))
  have Z1 := Lib.hid (show ((w.alloc (.cells #[.int .i64 f, .int .i64 c] 148)).alloc (.cells #[.int .i64 0, .int .i64 0] 148)).heap[w.heap.size + 1]? = some (.cells #[.int .i64 0, .int .i64 0] 148 (0, 0)) from alloc_at _ _ (by simp))
  clear h hp b0
  go_enter Tryz.func153, Tryz.ntmps153
  go_wp2_with (first
    | (go_at_call 183; refine (open_yes H.out p k HP.out).mono ?_; rintro e w1 ⟨rfl, hb1⟩; have B1 := Lib.hid (B0.out.trans (hb1.mono (by simp; omega))); have M1 := Lib.hid (H.out.below hb1); have q0 := keep hb1 Z0.out; have q1 := keep hb1 Z1.out; have Y0 := Lib.hid q0; have Y1 := Lib.hid q1; have hsz : w.heap.size + 1 < w1.heap.size := heap_lt q1; have hsz0 : w.heap.size < w1.heap.size := heap_lt q0; clear hb1 q0 q1)
    | (go_at_call 184; refine (is_yes m p k i hi0 hi1 _).mono ?_; rintro e w2 ⟨rfl, hb2⟩; have B2 := Lib.hid ((B1.out.alloc B1.out.size (.cells #[.pointer (some ⟨m, 0, none⟩), .int .i64 p, .int .i64 k, .int .i64 (cellsI k)] 191)).trans (hb2.mono (by have := B1.out.size; simp; omega))); have M2 := Lib.hid ((M1.out.below (below_alloc0 _ (.cells #[.pointer (some ⟨m, 0, none⟩), .int .i64 p, .int .i64 k, .int .i64 (cellsI k)] 191))).below hb2); have q0 := keep hb2 (keep_alloc (.cells #[.pointer (some ⟨m, 0, none⟩), .int .i64 p, .int .i64 k, .int .i64 (cellsI k)] 191) Y0.out); have q1 := keep hb2 (keep_alloc (.cells #[.pointer (some ⟨m, 0, none⟩), .int .i64 p, .int .i64 k, .int .i64 (cellsI k)] 191) Y1.out); have q2 := keep hb2 (heap_alloc_new w1 (.cells #[.pointer (some ⟨m, 0, none⟩), .int .i64 p, .int .i64 k, .int .i64 (cellsI k)] 191)); have Y2 := Lib.hid q0; have Y3 := Lib.hid q1; have Y4 := Lib.hid q2; have f0 : w2.cell? ⟨w.heap.size, 0, none⟩ = some (.int .i64 f) := cell_of_row _ _ _ _ _ _ q0; have f1 : w2.cell? ⟨w.heap.size, 1, none⟩ = some (.int .i64 c) := cell_of_row _ _ _ _ _ _ q0; have g0 : w2.cell? ⟨w1.heap.size, 0, none⟩ = some (.pointer (some ⟨m, 0, none⟩)) := cell_of_row _ _ _ _ _ _ q2; have g1 : w2.cell? ⟨w1.heap.size, 1, none⟩ = some (.int .i64 p) := cell_of_row _ _ _ _ _ _ q2; have g2 : w2.cell? ⟨w1.heap.size, 2, none⟩ = some (.int .i64 k) := cell_of_row _ _ _ _ _ _ q2; have g3 : w2.cell? ⟨w1.heap.size, 3, none⟩ = some (.int .i64 (cellsI k)) := cell_of_row _ _ _ _ _ _ q2; clear hb2 q0 q1 q2)
    | (go_at_call 193; refine (link_any M2.out p k i f HP.out hi0 hi1 hf0 hf2).mono ?_; rintro e w3 ⟨⟨v3, rfl⟩, hm3, hf3⟩; have M3 := Lib.hid hm3; have F3 := Lib.hid ((Frm.of_below [r] B2.out).trans hf3 (fun x hx => .inl hx)); have q0 := (hf3.block _ (heap_lt Y2.out) (by simp; omega)).trans Y2.out; have q1 := (hf3.block _ (heap_lt Y3.out) (by simp; omega)).trans Y3.out; have X3 := Lib.hid q1; have x0 : w3.cell? ⟨w.heap.size + 1, 0, none⟩ = some (.int .i64 0) := cell_of_row _ _ _ _ _ _ q1; have x1 : w3.cell? ⟨w.heap.size + 1, 1, none⟩ = some (.int .i64 0) := cell_of_row _ _ _ _ _ _ q1; have z3 := frozen_of_row w3 (w.heap.size + 1) 0 _ _ q1; have z4 := frozen_of_row w3 (w.heap.size + 1) 1 _ _ q1; have s1 : w3.cell? ⟨w.heap.size, 1, none⟩ = some (.int .i64 c) := cell_of_row _ _ _ _ _ _ q0; clear hm3 hf3 q0 q1))
  have e1 : ((w3.setCell ⟨w.heap.size + 1, 0, none⟩ (.int .i64 i)).setCell ⟨w.heap.size + 1, 1, none⟩ (.int .i64 (c + 1))).heap[w.heap.size + 1]? = some (.cells #[.int .i64 i, .int .i64 (c + 1)] 148 (0, 0)) := heap_setCell_same _ _ 1 _ _ _ (heap_setCell_same _ _ 0 _ _ _ X3.out)
  have e2 := cell_of_row _ _ 0 _ _ _ e1
  have e3 := cell_of_row _ _ 1 _ _ _ e1
  refine bodyPost_ret (v := .tuple #[.agg #[.int .i64 i, .int .i64 (c + 1)], .bool true]) (by simp [results, Tryz.results153, go_sem, e2, e3]) rfl ⟨rfl, ?_, ?_⟩
  · exact M3.out.keep ((heap_setCell_other _ _ _ _ (by simp only; omega)).trans (heap_setCell_other _ _ _ _ (by simp only; omega))) ((heap_setCell_other _ _ _ _ (by simp only; omega)).trans (heap_setCell_other _ _ _ _ (by simp only; omega)))
  · exact ((F3.out.trans_new (Frm.setCell w3 (fp := [w.heap.size + 1]) (by simp) _) (by simp)).trans_new (Frm.setCell _ (fp := [w.heap.size + 1]) (by simp) _) (by simp))
end Go.Proofs.YtjoejjhgneccgaaGreatDoor
