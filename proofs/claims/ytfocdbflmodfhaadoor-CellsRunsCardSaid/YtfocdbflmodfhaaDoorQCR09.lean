/- What the functions of package mem come to. -/
import Derived.Test.YtfocdbflmodfhaaDoorQCR02
import Derived.Test.YtfocdbflmodfhaaDoorQCR03
namespace Go.Proofs.YtfocdbflmodfhaaDoor
open Go.RowKit

set_option maxHeartbeats 1000000 in
set_option maxRecDepth 100000 in
theorem len_any {w : World} {m r : Nat} {xs : List Int} (h : Mx w m r xs) :
    Calls Tryd.prog 29 #[.pointer (some ⟨m, 0, none⟩)] w fun e w' => e = .returned (.int .i64 xs.length) ∧ w = w' := by
  obtain ⟨c, hc, hc2, -, c1⟩ := h.cells
  clear h
  go_enter Tryd.func29, Tryd.ntmps29
  go_wp2_with fail
  go_ret
  exact ⟨rfl, rfl⟩
theorem len_nil (w : World) :
    Calls Tryd.prog 29 #[.pointer none] w fun e w' => e = .returned (.int .i64 0) ∧ w = w' := by
  go_enter Tryd.func29, Tryd.ntmps29
  go_wp2_with fail
  go_ret
  exact ⟨rfl, rfl⟩
set_option maxHeartbeats 1000000 in
set_option maxRecDepth 100000 in
theorem part_yes {w : World} {m r : Nat} {xs : List Int} (h : Mx w m r xs) (a k : Nat) (hk : 1 ≤ k) (hf : a + k ≤ xs.length) :
    Calls Tryd.prog 78 #[.pointer (some ⟨m, 0, none⟩), .int .i64 a, .int .i64 k] w fun e w' => e = .returned (.tuple #[.slice (some ⟨r, a, none⟩) k k, .bool true]) ∧ w = w' := by
  obtain ⟨c, hc, hc2, c0, c1⟩ := h.cells
  have hle := h.le
  obtain ⟨n, hn⟩ : ∃ n, n = xs.length := ⟨_, rfl⟩
  rw [← hn] at c1 hf hle hc
  unfold maxLen at hc2
  clear hn h
  have hcap : (a : Int) + (k : Int) ≤ (c : Int) := by omega
  have e1 : decide ((a : Int) < 0) = false := by simp
  have e2 : decide ((k : Int) < 0) = false := by simp
  have e3 : decide ((n : Int) < a) = false := by simp; omega
  have e4 : decide ((n : Int) - a < k) = false := by simp; omega
  go_enter Tryd.func78, Tryd.ntmps78
  go_wp2_with fail
  go_ret2
  refine ⟨?_, rfl⟩
  show Ending.returned (.tuple #[.slice (some ⟨r, a, none⟩) (a + k - a) (a + k - a), .bool true]) = _
  rw [Nat.add_sub_cancel_left]
set_option maxHeartbeats 1000000 in
set_option maxRecDepth 100000 in
theorem part_no {w : World} {m r : Nat} {xs : List Int} (h : Mx w m r xs) (a k : Int) (hf : fitB xs.length a k = false) :
    Calls Tryd.prog 78 #[.pointer (some ⟨m, 0, none⟩), .int .i64 a, .int .i64 k] w fun e w' => e = .returned (.tuple #[.slice none 0 0, .bool false]) ∧ w = w' := by
  obtain ⟨c, hc, hc2, c0, c1⟩ := h.cells
  have hle := h.le
  obtain ⟨n, hn⟩ : ∃ n, n = xs.length := ⟨_, rfl⟩
  rw [← hn] at c1 hf hle
  clear hn h hc hc2
  simp only [fitB, Bool.and_eq_false_iff, decide_eq_false_iff_not] at hf
  by_cases h1 : a < 0
  · clear hf
    go_enter Tryd.func78, Tryd.ntmps78
    go_wp2_with fail
    go_ret2
    exact ⟨rfl, rfl⟩
  by_cases h2 : k < 0
  · clear hf
    go_enter Tryd.func78, Tryd.ntmps78
    go_wp2_with fail
    go_ret2
    exact ⟨rfl, rfl⟩
  by_cases h3 : (n : Int) < a
  · clear hf
    go_enter Tryd.func78, Tryd.ntmps78
    go_wp2_with fail
    go_ret2
    exact ⟨rfl, rfl⟩
  have h4 : (n : Int) - a < k := by omega
  have e4 : decide ((n : Int) - a < k) = true := by simpa using h4
  clear hf
  go_enter Tryd.func78, Tryd.ntmps78
  go_wp2_with fail
  go_ret2
  exact ⟨rfl, rfl⟩
/-- What is loaded. -/
def loadV (xs : List Int) (a : Int) : Int := if fitB xs.length a 1 = true then xs.getD a.toNat 0 else 0
theorem loadV_no {xs : List Int} {a : Int} (h : fitB xs.length a 1 = false) : loadV xs a = 0 := by unfold loadV; rw [h]; rfl
theorem loadV_yes {xs : List Int} {i : Nat} (h : i < xs.length) : loadV xs i = xs.getD i 0 := by
  unfold loadV; rw [if_pos (by simp [fitB]; omega), Int.toNat_natCast]
set_option maxHeartbeats 1000000 in
set_option maxRecDepth 100000 in
theorem load_any {w : World} {m r : Nat} {xs : List Int} (h : Mx w m r xs) (a : Int) :
    Calls Tryd.prog 66 #[.pointer (some ⟨m, 0, none⟩), .int .i64 a] w fun e w' => e = .returned (.tuple #[.int .i64 (loadV xs a), .bool (fitB xs.length a 1)]) ∧ w = w' := by
  cases hf : fitB xs.length a 1 with
  | false =>
    have H := Lib.hid h
    have HF := Lib.hid hf
    rw [loadV_no hf]
    clear h hf
    go_enter Tryd.func66, Tryd.ntmps66
    go_wp2_with (go_at_call 78; refine (part_no H.out a 1 HF.out).mono ?_; rintro e w' ⟨rfl, rfl⟩)
    go_ret2
    exact ⟨rfl, rfl⟩
  | true =>
    have hd := hf
    simp only [fitB, Bool.and_eq_true, decide_eq_true_eq] at hd
    obtain ⟨i, rfl⟩ := Int.eq_ofNat_of_zero_le hd.1.1
    have hi : i < xs.length := by omega
    have cw := (h.word hi).1
    rw [loadV_yes hi]
    obtain ⟨v, hv⟩ : ∃ v, v = xs.getD i 0 := ⟨_, rfl⟩
    rw [← hv] at cw ⊢
    have H := Lib.hid h
    have HI := Lib.hid hi
    clear h hf hd hv hi
    go_enter Tryd.func66, Tryd.ntmps66
    go_wp2_with (go_at_call 78; refine (part_yes H.out i 1 (Nat.le_refl _) HI.out).mono ?_; rintro e w' ⟨rfl, rfl⟩)
    go_ret2
    exact ⟨rfl, rfl⟩
set_option maxHeartbeats 1000000 in
set_option maxRecDepth 100000 in
theorem fill_yes {w : World} {m r : Nat} {xs : List Int} (h : Mx w m r xs) (a k : Nat) (v : Int) (hk : 1 ≤ k) (hf : a + k ≤ xs.length) :
    Calls Tryd.prog 40 #[.pointer (some ⟨m, 0, none⟩), .int .i64 a, .int .i64 k, .int .i64 v] w fun e w' => e = .returned (.bool true) ∧ Mx w' m r (fillL xs a k v) ∧ Frm [r] w w' := by
  have hle := h.le
  have H := Lib.hid h
  have F0 := Lib.hid (Frm.refl [r] w)
  have HK := Lib.hid hk
  have hkl : k ≤ 2048 := by omega
  have HF := Lib.hid hf
  clear h hk hf
  go_enter Tryd.func40, Tryd.ntmps40
  go_wp2_with (go_at_call 78; refine (part_yes H.out a k HK.out HF.out).mono ?_; rintro e w' ⟨rfl, rfl⟩)
  go_loopw [21] (fun t wr => ∃ j : Nat, j ≤ k ∧ t = .int .i64 j ∧ Hid (Mx wr m r (fillL xs a j v)) ∧ Hid (Frm [r] w wr)) (fun t _ => k - (intOf t).toNat)
  case atStart => exact ⟨0, Nat.zero_le _, rfl, H, F0⟩
  case round =>
    clear H F0
    obtain ⟨j, hj, rfl, H, F0⟩ := hrel
    by_cases hlt : j < k
    · have hlen : a + j < (fillL xs a j v).length := by rw [fillL_len]; have := HF.out; omega
      obtain ⟨cw, fz⟩ := H.out.word hlen
      have HLn := Lib.hid hlen
      obtain ⟨u, hu⟩ : ∃ u, u = (fillL xs a j v).getD (a + j) 0 := ⟨_, rfl⟩
      rw [← hu] at cw
      clear hu hlen
      go_wp2_with fail
      go_roundw
      case rel => exact ⟨j + 1, by omega, by go_num, Lib.hid (H.out.put HLn.out _), Lib.hid (F0.out.trans (Frm.setCell wr (by simp) _) (fun x hx => .inl hx))⟩
      case measure => simp [intOf]; omega
    · obtain rfl : j = k := by omega
      clear hj hlt
      go_wp2_with fail
      go_ret
      exact ⟨rfl, H.out, F0.out⟩
set_option maxHeartbeats 1000000 in
set_option maxRecDepth 100000 in
theorem fill_no {w : World} {m r : Nat} {xs : List Int} (h : Mx w m r xs) (a k v : Int) (hf : fitB xs.length a k = false) :
    Calls Tryd.prog 40 #[.pointer (some ⟨m, 0, none⟩), .int .i64 a, .int .i64 k, .int .i64 v] w fun e w' => e = .returned (.bool false) ∧ w = w' := by
  have H := Lib.hid h
  have HF := Lib.hid hf
  clear h hf
  go_enter Tryd.func40, Tryd.ntmps40
  go_wp2_with (go_at_call 78; refine (part_no H.out a k HF.out).mono ?_; rintro e w' ⟨rfl, rfl⟩)
  go_loop [21] (fun t => t = .int .i64 0) (fun _ => 0)
  case atStart => rfl
  case round =>
    obtain rfl := hrel
    go_wp2_with fail
    go_ret
    exact ⟨rfl, rfl⟩
theorem fill_int {w : World} {m r : Nat} {xs : List Int} (h : Mx w m r xs) (a k v : Int) (h0 : 0 ≤ a) (h1 : 1 ≤ k) (h2 : a + k ≤ xs.length) :
    Calls Tryd.prog 40 #[.pointer (some ⟨m, 0, none⟩), .int .i64 a, .int .i64 k, .int .i64 v] w fun e w' => e = .returned (.bool true) ∧ Mx w' m r (fillL xs a.toNat k.toNat v) ∧ Frm [r] w w' := by
  obtain ⟨i, rfl⟩ := Int.eq_ofNat_of_zero_le h0
  obtain ⟨j, rfl⟩ := Int.eq_ofNat_of_zero_le (show 0 ≤ k by omega)
  exact fill_yes h i j v (by omega) (by omega)
/-- A word. -/
def putL (xs : List Int) (a v : Int) : List Int := if fitB xs.length a 1 = true then xs.set a.toNat v else xs
theorem store_any {w : World} {m r : Nat} {xs : List Int} (h : Mx w m r xs) (a v : Int) :
    Calls Tryd.prog 26 #[.pointer (some ⟨m, 0, none⟩), .int .i64 a, .int .i64 v] w fun e w' => e = .returned (.bool (fitB xs.length a 1)) ∧ Mx w' m r (putL xs a v) ∧ Frm [r] w w' := by
  unfold putL
  cases hf : fitB xs.length a 1 with
  | false =>
    have H := Lib.hid h
    have HF := Lib.hid hf
    clear h hf
    go_enter Tryd.func26, Tryd.ntmps26
    go_wp2_with (go_at_call 40; refine (fill_no H.out a 1 v HF.out).mono ?_; rintro e w' ⟨rfl, rfl⟩)
    go_ret
    exact ⟨rfl, by simpa using H.out, Frm.refl _ _⟩
  | true =>
    have hd := hf
    simp only [fitB, Bool.and_eq_true, decide_eq_true_eq] at hd
    obtain ⟨i, rfl⟩ := Int.eq_ofNat_of_zero_le hd.1.1
    have hi : i + 1 ≤ xs.length := by omega
    have H := Lib.hid h
    have HI := Lib.hid hi
    clear h hf hd hi
    go_enter Tryd.func26, Tryd.ntmps26
    go_wp2_with (go_at_call 40; refine (fill_yes H.out i 1 v (Nat.le_refl _) HI.out).mono ?_; rintro e w' ⟨rfl, hm, hf⟩)
    go_ret
    exact ⟨rfl, by simpa [fillL] using hm, hf⟩
theorem info_num64 : (Tryd.prog.info? 2).map (fun i => (i.zero, i.size, i.bytes)) = some (some (.int .i64 0), 1, 8) := by kernel_rfl
theorem make_words (n : Nat) (hn : n ≤ 1000000) (w : World) : (Instr.makeSlice 86 (.int .i64 (n : Int)) (.int .i64 (n : Int))).run Tryd.prog w = .ok (.slice (some ⟨w.heap.size, 0, none⟩) n n) (w.alloc (.cells (ints (List.replicate n 0)) 2)) := by
  obtain ⟨i0, hi, hz0, hz1, hz2⟩ := info_parts info_num64
  have h := run_make (P := Tryd.prog) w 86 2 i0 _ Tryd.underlying86 hi hz0 .i64 .i64 n n (by omega) (by omega) (by rw [hz2]; omega) (by omega)
  rw [hz1] at h
  have e : madeCells #[Value.int .i64 0] (n * 1) = ints (List.replicate n 0) := by
    unfold ints
    rw [List.map_replicate]
    apply Array.ext
    · simp [madeCells]
    · intro i h1 h2
      simp only [madeCells, Array.getElem_map, Array.getElem_range, List.getElem_toArray, List.getElem_replicate]
      show (#[Value.int .i64 0])[i % 1]! = _
      rw [Nat.mod_one]; rfl
  rw [← e]
  exact h
set_option maxRecDepth 100000 in
theorem mnew_any (n : Int) (w : World) :
    Calls Tryd.prog 32 #[.int .i64 n] w fun e w' => e = .returned (.pointer (some ⟨w.heap.size + 1, 0, none⟩)) ∧ Mx w' (w.heap.size + 1) w.heap.size (List.replicate (clampN n 0 2048).toNat 0) ∧ Below w.heap.size w w' := by
  have hb := clampN_bd (a := n) (lo := 0) (hi := 2048) (by omega)
  obtain ⟨k, hk⟩ := Int.eq_ofNat_of_zero_le hb.1
  have HK := Lib.hid hk
  have hk64 : k ≤ 2048 := by omega
  have mk := make_words k (by omega)
  obtain ⟨R, hR⟩ : ∃ R, R = ints (List.replicate k 0) := ⟨_, rfl⟩
  rw [← hR] at mk
  have HR := Lib.hid hR
  clear hk hb hR
  go_enter Tryd.func32, Tryd.ntmps32
  go_wp2_with (go_at_call 70; refine (clampn_any n 0 2048 _).mono ?_; rw [HK.out]; rintro e w' ⟨rfl, rfl⟩)
  go_ret
  rw [HK.out, Int.toNat_natCast]
  refine ⟨rfl, Mx.of_block ?_ ?_ (by simpa using hk64), ?_⟩
  · rw [List.length_replicate]
    exact alloc_at _ _ (by simp)
  · rw [← HR.out]
    exact keep_alloc _ (heap_alloc_new w _)
  · exact (below_alloc0 _ _).alloc (by simp) _
set_option maxHeartbeats 1000000 in
set_option maxRecDepth 100000 in
theorem wclone_any {w : World} {m b : Nat} {xs : List Int} (h : Mx w m b xs) (c : Nat) :
    Calls Tryd.prog 98 #[.slice (some ⟨b, 0, none⟩) xs.length c] w fun e w' => (∃ g c', e = .returned (.slice (some ⟨g, 0, none⟩) xs.length c') ∧ w.heap.size ≤ g ∧ w'.ownsRow w.heap.size 2 1 (.slice (some ⟨g, 0, none⟩) xs.length c') xs.length (xs.map (Value.int .i64))) ∧ Below w.heap.size w w' := by
  obtain ⟨i0, hi, hz0, hz1, hz2⟩ := info_parts info_num64
  have hi := Lib.hid hi
  have hz0 := Lib.hid hz0
  have hz1 := Lib.hid hz1
  have hz2 := Lib.hid hz2
  have q := fun a l c => eql_slice_nil0 86 2 a l c Tryd.underlying86
  have B1 := Lib.hid (below_alloc0 w (.cells #[] 2))
  have HN := Lib.hid h.le
  have H := Lib.hid h
  have HO := Lib.hid (ints_one xs)
  have HW : Hid (∀ j u, (xs.map (Value.int .i64))[j]? = some u → (w.alloc (.cells #[] 2)).cell? ((⟨b, 0, none⟩ : Addr).add j) = some u) := Lib.hid fun j u hj => by
    have hadd : (⟨b, 0, none⟩ : Addr).add j = ⟨b, j, none⟩ := by unfold Addr.add; split <;> simp_all
    have hjl : j < xs.length := by have := (List.getElem?_eq_some_iff.1 hj).1; simpa using this
    rw [hadd, ((h.below (below_alloc0 w (.cells #[] 2))).word hjl).1, ← hj, List.getElem?_map, List.getD_eq_getElem?_getD, List.getElem?_eq_getElem hjl]
    rfl
  obtain ⟨n, hl⟩ : ∃ n, n = xs.length := ⟨_, rfl⟩
  rw [← hl]
  have HL := Lib.hid hl
  clear h hl
  go_enter Tryd.func98, Tryd.ntmps98
  go_wp2_with (at_builtin; refine wpList_append_own _ rfl _ _ 86 rfl w.heap.size 2 i0 (.int .i64 0) 1 8 Tryd.underlying86 hi.out hz0.out hz1.out hz2.out rfl (by decide) _ 0 [] rfl (own_new [] w.heap.size 0 rfl (Nat.le_refl _) rfl (Nat.zero_le _)) ⟨b, 0, none⟩ n c (xs.map (Value.int .i64)) rfl (by rw [HL.out]; simp) HW.out HO.out (by have := HN.out; rw [HL.out]; unfold maxLen; omega) (by have := HN.out; rw [HL.out]; omega) (by simp) ?_; intro v' w1 hown' hgrow hnil; have HG := Lib.hid hgrow; have HV := Lib.hid hown'; have HNL := Lib.hid hnil; clear hown' hgrow hnil)
  go_ret
  refine ⟨?_, B1.out.grown HG.out B1.out.size (fun j hj => by cases hj; exact Nat.le_refl _)⟩
  have hv := HV.out
  rw [Nat.zero_add, List.nil_append] at hv
  rcases hv.2 with ⟨h1, _⟩ | ⟨g, cap, cur, h1, h2, _⟩
  · have h3 := HNL.out.1 h1
    cases h3.1
  · subst h1
    exact ⟨g, cap, rfl, h2, hv⟩
theorem mall_any {w : World} {m b : Nat} {xs : List Int} (h : Mx w m b xs) :
    Calls Tryd.prog 92 #[.pointer (some ⟨m, 0, none⟩)] w fun e w' => (∃ g c', e = .returned (.slice (some ⟨g, 0, none⟩) xs.length c') ∧ w.heap.size ≤ g ∧ w'.ownsRow w.heap.size 2 1 (.slice (some ⟨g, 0, none⟩) xs.length c') xs.length (xs.map (Value.int .i64))) ∧ Below w.heap.size w w' := by
  have H := Lib.hid h
  obtain ⟨c, -, -, -, c1⟩ := h.cells
  clear h
  go_enter Tryd.func92, Tryd.ntmps92
  go_wp2_with (go_at_call 98; refine (wclone_any H.out c).mono ?_; rintro e w1 ⟨⟨g, c', rfl, hg, hr⟩, hb⟩)
  go_ret
  exact ⟨⟨g, c', rfl, hg, hr⟩, hb⟩
def ClnE (xs : List Int) (B : Nat) (e : Ending) (w' : World) : Prop := ∃ m r, e = .returned (.pointer (some ⟨m, 0, none⟩)) ∧ B ≤ m ∧ B ≤ r ∧ Mx w' m r xs
set_option maxRecDepth 100000 in
theorem mclone_any {w : World} {m b : Nat} {xs : List Int} (h : Mx w m b xs) :
    Calls Tryd.prog 68 #[.pointer (some ⟨m, 0, none⟩)] w fun e w' => ClnE xs w.heap.size e w' ∧ Below w.heap.size w w' := by
  have H := Lib.hid h
  obtain ⟨c, -, -, c0, c1⟩ := h.cells
  have HN := Lib.hid h.le
  clear h
  go_enter Tryd.func68, Tryd.ntmps68
  go_wp2_with (go_at_call 92; refine (mall_any H.out).mono ?_; rintro e w1 ⟨⟨g, c', rfl, hg, hr⟩, hb⟩; have HG := Lib.hid hg; have HR := Lib.hid hr; have HB := Lib.hid hb; clear hg hr hb)
  go_ret
  refine ⟨⟨w1.heap.size, g, rfl, HB.out.size, HG.out, ?_⟩, HB.out.alloc HB.out.size _⟩
  have hr := World.ownsRow.alloc HR.out (.cells #[.bool true, .slice (some ⟨g, 0, none⟩) xs.length c'] 88)
  rcases hr.2 with ⟨h1, _⟩ | ⟨g', cap, cur, h1, h2, h3, h4, h5, h6, h7⟩
  · cases h1
  · cases h1
    refine ⟨⟨c', h4, h5, heap_alloc_new _ _⟩, ⟨cur.toList.drop xs.length, ?_⟩, HN.out⟩
    rw [h3]
    congr 2
    apply Array.toList_inj.1
    have : cur.toList.take xs.length = xs.map (Value.int .i64) := by simpa using h7
    rw [← this]
    simp
end Go.Proofs.YtfocdbflmodfhaaDoor

/- Free cells of a page: opened, linked. -/
namespace Go.Proofs.YtfocdbflmodfhaaDoor
open Go.RowKit

/-- Has a page cells of a class? -/
structure OpP (len : Nat) (p k : Int) : Prop where
  p0 : 0 ≤ p
  p1 : p < 64
  k0 : 1 ≤ k
  k1 : k ≤ 4
  fit : p * 32 + 32 ≤ len
set_option maxHeartbeats 4000000 in
set_option maxRecDepth 100000 in
theorem open_yes {w : World} {m r : Nat} {xs : List Int} (h : Mx w m r xs) (p k : Int) (hp : OpP xs.length p k) :
    Calls Tryd.prog 73 #[.pointer (some ⟨m, 0, none⟩), .int .i64 p, .int .i64 k] w fun e w' => e = .returned (.tuple #[.agg #[.pointer (some ⟨m, 0, none⟩), .int .i64 p, .int .i64 k, .int .i64 (cellsI k)], .bool true]) ∧ Below w.heap.size w w' := by
  have H := Lib.hid h
  have HP := Lib.hid (show endB p 1 = true by have := hp.p0; have := hp.p1; simp [endB]; omega)
  have hc := cellsI_pos ⟨hp.k0, hp.k1⟩
  have hle := h.le
  have hl : ((p + 1) * 32 - 1) < (xs.length : Int) := by have := hp.fit; omega
  have h0 : 0 < cellsI k := by omega
  obtain ⟨n, hn⟩ : ∃ n, n = xs.length := ⟨_, rfl⟩
  rw [← hn] at hl
  have HN := Lib.hid hn
  have a0 : ∀ B : Obj, ((w.alloc (.cells #[.pointer none, .int .i64 0, .int .i64 0, .int .i64 0] 97)).alloc B).heap[w.heap.size]? = some (.cells #[.pointer none, .int .i64 0, .int .i64 0, .int .i64 0] 97 (0, 0)) := fun B => keep_alloc _ (heap_alloc_new w _)
  have A0 := Lib.hid a0
  have HW := Lib.hid (h.below (((Below.refl w.heap.size w).alloc (Nat.le_refl _) (.cells #[.pointer none, .int .i64 0, .int .i64 0, .int .i64 0] 97)).alloc (by simp) (.cells #[.pointer (some ⟨m, 0, none⟩), .int .i64 p, .int .i64 k, .int .i64 (cellsI k)] 97)).drew)
  clear h hp hc hle hn a0
  go_enter Tryd.func73, Tryd.ntmps73
  go_wp2_with (first
    | (go_at_call 50; refine (cells_any k _).mono ?_; rintro e w' ⟨rfl, rfl⟩)
    | (go_at_call 43; refine (ends_yes p 1 HP.out _).mono ?_; rintro e w' ⟨rfl, rfl⟩))
  go_region_held3 (fun w' => w'.cell? ⟨w.heap.size + 1, 0, none⟩ = some (.pointer (some ⟨m, 0, none⟩)) ∧ w'.cell? ⟨w.heap.size + 1, 1, none⟩ = some (.int .i64 p) ∧ w'.cell? ⟨w.heap.size + 1, 2, none⟩ = some (.int .i64 k) ∧ w'.cell? ⟨w.heap.size + 1, 3, none⟩ = some (.int .i64 (cellsI k))) (go_keep)
    ((go_at_call 29; refine (len_any HW.out).mono ?_; rw [← HN.out]; rintro e w1 ⟨rfl, rfl⟩))
  go_wp2_with fail
  have e0 : ∀ A B : Obj, ((w.alloc A).alloc B).drew.heap[w.heap.size]? = some A := fun A B => keep_alloc _ (heap_alloc_new w _)
  exact bodyPost_ret (results_row_tmp rfl _ _ w.heap.size 97 #[.pointer (some ⟨m, 0, none⟩), .int .i64 p, .int .i64 k, .int .i64 (cellsI k)] (0, 0) _ rfl (e0 _ _) Tryd.underlying97 rfl (by kernel_rfl)) rfl
    ⟨rfl, (((Below.refl w.heap.size w).alloc (Nat.le_refl _) _).alloc (by simp) _).drew⟩
/-- A cell's address. -/
def cad (p k i : Int) : Int := p * 32 + i * sizeI k
theorem at_cad (p k i : Int) (h : atB p k i = true) (w : World) :
    Calls Tryd.prog 38 #[.int .i64 p, .int .i64 k, .int .i64 i] w fun e w' => e = .returned (.tuple #[.int .i64 (cad p k i), .bool true]) ∧ w = w' := at_yes p k i h w
theorem cad_in {len : Nat} {p k i : Int} (h : OpP len p k) (h0 : 0 ≤ i) (h1 : i < cellsI k) : atB p k i = true ∧ 0 ≤ cad p k i ∧ p * 32 ≤ cad p k i ∧ cad p k i + sizeI k ≤ p * 32 + 32 ∧ cad p k i + 2 ≤ len := by
  obtain ⟨a, b, c, d, e⟩ := h
  have hc : k = 1 ∨ k = 2 ∨ k = 3 ∨ k = 4 := by omega
  refine ⟨by simp [atB]; omega, ?_⟩
  unfold cad
  rcases hc with rfl | rfl | rfl | rfl <;> simp [cellsI, sizeI] at * <;> omega
set_option maxHeartbeats 1000000 in
set_option maxRecDepth 100000 in
theorem link_any {w : World} {m r : Nat} {xs : List Int} (h : Mx w m r xs) (p k i nx : Int) (hp : OpP xs.length p k) (h0 : 0 ≤ i) (h1 : i < cellsI k) (hn0 : 0 ≤ nx) (hn1 : nx ≤ 1000000) :
    Calls Tryd.prog 74 #[.agg #[.pointer (some ⟨m, 0, none⟩), .int .i64 p, .int .i64 k, .int .i64 (cellsI k)], .int .i64 i, .int .i64 nx] w fun e w' => (∃ v, e = .returned v) ∧ Mx w' m r (putL xs (cad p k i) (-1 - nx)) ∧ Frm [r] w w' := by
  obtain ⟨hat, -⟩ := cad_in hp h0 h1
  have HA := Lib.hid hat
  have H := Lib.hid (h.below (below_alloc0 w (.cells #[.pointer (some ⟨m, 0, none⟩), .int .i64 p, .int .i64 k, .int .i64 (cellsI k)] 97)))
  clear h hp h0 h1 hat
  go_enter Tryd.func74, Tryd.ntmps74
  go_wp2_with (first
    | (go_at_call 38; refine (at_yes p k i HA.out _).mono ?_; rintro e w' ⟨rfl, rfl⟩)
    | (go_at_call 26; refine (store_any H.out _ _).mono ?_; rintro e w' ⟨rfl, hm, hf⟩; have HM := Lib.hid hm; have HF := Lib.hid hf; clear hm hf))
  go_end0
  exact ⟨⟨_, rfl⟩, HM.out, (Frm.of_below [r] (below_alloc0 w _)).trans HF.out (fun x hx => .inl hx)⟩
set_option maxHeartbeats 1000000 in
set_option maxRecDepth 100000 in
theorem is_yes (m : Nat) (p k i : Int) (h0 : 0 ≤ i) (h1 : i < cellsI k) (w : World) :
    Calls Tryd.prog 75 #[.agg #[.pointer (some ⟨m, 0, none⟩), .int .i64 p, .int .i64 k, .int .i64 (cellsI k)], .int .i64 i] w fun e w' => e = .returned (.bool true) ∧ Below w.heap.size w w' := by
  go_enter Tryd.func75, Tryd.ntmps75
  go_wp2_with fail
  go_ret
  exact ⟨rfl, below_alloc0 _ _⟩
set_option maxHeartbeats 1000000 in
set_option maxRecDepth 100000 in
theorem cnext_yes {w : World} {m r : Nat} {xs : List Int} (h : Mx w m r xs) (p k i y : Int) (hp : OpP xs.length p k) (h0 : 0 ≤ i) (h1 : i < cellsI k) (hy : xs.getD (cad p k i).toNat 0 = y) (hy0 : y < 0) (hy1 : -1 - cellsI k ≤ y) :
    Calls Tryd.prog 76 #[.agg #[.pointer (some ⟨m, 0, none⟩), .int .i64 p, .int .i64 k, .int .i64 (cellsI k)], .int .i64 i] w fun e w' => e = .returned (.tuple #[.int .i64 (-1 - y), .bool true]) ∧ Below w.heap.size w w' := by
  obtain ⟨hat, hc0, -, -, hc1⟩ := cad_in hp h0 h1
  have HA := Lib.hid hat
  have hn := cellsI_pos ⟨hp.k0, hp.k1⟩
  have H := Lib.hid (h.below (below_alloc0 w (.cells #[.pointer (some ⟨m, 0, none⟩), .int .i64 p, .int .i64 k, .int .i64 (cellsI k)] 97)))
  have hfit : fitB xs.length (p * 32 + i * sizeI k) 1 = true := by
    unfold cad at hc0 hc1; simp [fitB]; omega
  have hld : loadV xs (p * 32 + i * sizeI k) = y := by
    unfold loadV; rw [if_pos hfit, ← hy]; rfl
  have HF := Lib.hid hfit
  have HL := Lib.hid hld
  clear h hp h0 h1 hat hy hc0 hc1 hfit hld
  go_enter Tryd.func76, Tryd.ntmps76
  go_wp2_with (first
    | (go_at_call 38; refine (at_yes p k i HA.out _).mono ?_; rintro e w' ⟨rfl, rfl⟩)
    | (go_at_call 66; refine (load_any H.out _).mono ?_; rw [HL.out, HF.out]; rintro e w' ⟨rfl, rfl⟩))
  go_ret2
  exact ⟨rfl, below_alloc0 _ _⟩
end Go.Proofs.YtfocdbflmodfhaaDoor
