/- Package page: sizes, freeing, where a page belongs to; made; cloned. -/
import Derived.Test.YtfocdbflmodfhaaDoorPg1
namespace Go.Proofs.YtfocdbflmodfhaaDoor
open Go.RowKit

set_option maxHeartbeats 1000000 in
set_option maxRecDepth 100000 in
theorem psize_any {w : World} {t k : Nat} {ks : List Int} (h : Tx w t k ks) (p : Int) :
    Calls Tryd.prog 80 #[.pointer (some ⟨t, 0, none⟩), .int .i64 p] w fun e w' => e = .returned (.int .i64 (sizeL ks p)) ∧ w = w' := by
  have H := Lib.hid h
  have hle := h.le
  by_cases h1 : 0 < sizeI (kindL ks p)
  · have hs := Lib.hid (show sizeL ks p = 1 by unfold sizeL; rw [if_pos h1])
    clear h hle
    go_enter Tryd.func80, Tryd.ntmps80
    go_wp2_with (first | (go_at_call 83; refine (pkind_any H.out _).mono ?_; rintro e w1 ⟨rfl, rfl⟩) | (go_at_call 41; refine (size_any _ _).mono ?_; rintro e w1 ⟨rfl, rfl⟩))
    go_ret
    exact ⟨ret_int hs.out.symm, rfl⟩
  by_cases h5 : kindL ks p = 5
  · have hs := show sizeL ks p = 1 + (run6 ks (p.toNat + 1) : Int) by unfold sizeL; rw [if_neg h1, if_neg (by simpa using h5)]
    have hin : 0 ≤ p := by
      apply Decidable.byContradiction; intro hc
      rw [kindL_out (.inl (by omega))] at h5; omega
    obtain ⟨i, rfl⟩ := Int.eq_ofNat_of_zero_le hin
    rw [Int.toNat_natCast] at hs
    have h5' : (kindL ks i != 5) = false := by simp [h5]
    have HS := Lib.hid hs
    have hil : i < ks.length := by
      apply Decidable.byContradiction; intro hc
      rw [kindL_out (.inr (by omega))] at h5; omega
    obtain ⟨n, hn⟩ : ∃ n, n = ks.length := ⟨_, rfl⟩
    rw [← hn] at hil hle
    have HN := Lib.hid hn
    clear h hs hin h5 hn
    go_enter Tryd.func80, Tryd.ntmps80
    go_wp2_with (first | (go_at_call 83; refine (pkind_any H.out _).mono ?_; rintro e w1 ⟨rfl, rfl⟩) | (go_at_call 41; refine (size_any _ _).mono ?_; rintro e w1 ⟨rfl, rfl⟩))
    go_loop [6] (fun a => ∃ m : Nat, 1 ≤ m ∧ i + m ≤ n ∧ a = .int .i64 m ∧ Hid (1 + run6 ks (i + 1) = m + run6 ks (i + m))) (fun a => n - (intOf a).toNat)
    case atStart => exact ⟨1, Nat.le_refl _, hil, rfl, Lib.hid rfl⟩
    case round =>
      obtain ⟨m, hm, hml, rfl, HR⟩ := hrel
      have e1 : ((i : Int) + (m : Int)) = ((i + m : Nat) : Int) := by omega
      by_cases h6 : kindL ks ((i + m : Nat) : Int) = 6
      · have hlt : i + m < n := by
          apply Decidable.byContradiction; intro hc
          rw [kindL_out (.inr (by rw [← HN.out]; omega))] at h6; omega
        have h6' : (kindL ks ((i : Int) + (m : Int)) == 6) = true := by rw [e1]; exact beq_iff_eq.2 h6
        have HR' := Lib.hid (show 1 + run6 ks (i + 1) = (m + 1) + run6 ks (i + (m + 1)) by rw [HR.out, run6_step h6, ← Nat.add_assoc i m 1]; omega)
        clear h6 HR e1
        go_wp2_with (go_at_call 83; refine (pkind_any H.out _).mono ?_; rintro e w1 ⟨rfl, rfl⟩)
        go_round
        case rel => exact ⟨m + 1, by omega, by omega, by go_num, HR'⟩
        case measure => simp [intOf]; omega
      · have h6' : (kindL ks ((i : Int) + (m : Int)) == 6) = false := by rw [e1]; exact beq_eq_false_iff_ne.2 h6
        have HR' := Lib.hid (show sizeL ks i = m by rw [HS.out]; have := HR.out; rw [run6_stop h6] at this; omega)
        clear h6 HR e1
        go_wp2_with (go_at_call 83; refine (pkind_any H.out _).mono ?_; rintro e w1 ⟨rfl, rfl⟩)
        go_ret
        exact ⟨ret_int HR'.out.symm, rfl⟩
  · have hs := Lib.hid (show sizeL ks p = 0 by unfold sizeL; rw [if_neg h1, if_pos (by simpa using h5)])
    have h5' : (kindL ks p != 5) = true := by simpa using h5
    clear h hle h5
    go_enter Tryd.func80, Tryd.ntmps80
    go_wp2_with (first | (go_at_call 83; refine (pkind_any H.out _).mono ?_; rintro e w1 ⟨rfl, rfl⟩) | (go_at_call 41; refine (size_any _ _).mono ?_; rintro e w1 ⟨rfl, rfl⟩))
    go_ret
    exact ⟨ret_int hs.out.symm, rfl⟩
set_option maxHeartbeats 1000000 in
set_option maxRecDepth 100000 in
theorem pfree_any {w : World} {t k : Nat} {ks : List Int} (h : Tx w t k ks) (p : Int) :
    Calls Tryd.prog 46 #[.pointer (some ⟨t, 0, none⟩), .int .i64 p] w fun e w' => e = .returned (.int .i64 (sizeL ks p)) ∧ Tx w' t k (freeL ks p) ∧ Frm [k] w w' := by
  have H := Lib.hid h
  have F0 := Lib.hid (Frm.refl [k] w)
  have hb := sizeL_bd ks p
  have hle := h.le
  obtain ⟨n, hn⟩ := Int.eq_ofNat_of_zero_le hb.1
  by_cases h0 : n = 0
  · subst h0
    have HS := Lib.hid hn
    have HF := Lib.hid (show freeL ks p = ks by unfold freeL; rw [hn]; rfl)
    clear h hb hle hn
    go_enter Tryd.func46, Tryd.ntmps46
    go_wp2_with (go_at_call 80; refine (psize_any H.out _).mono ?_; rw [HS.out]; rintro e w1 ⟨rfl, rfl⟩)
    go_loop [11] (fun a => a = .int .i64 0) (fun _ => 0)
    case atStart => rfl
    case round =>
      obtain rfl := hrel
      go_wp2_with fail
      go_ret
      exact ⟨by rw [HS.out]; rfl, by rw [HF.out]; exact H.out, F0.out⟩
  · have hin := sizeL_in (ks := ks) (p := p) (by omega)
    obtain ⟨i, rfl⟩ := Int.eq_ofNat_of_zero_le hin.1
    have hil : i + n ≤ ks.length := by omega
    have HS := Lib.hid hn
    have HF := Lib.hid (show freeL ks i = fillL ks i n 0 by unfold freeL; rw [hn]; rfl)
    have hn64 : n ≤ 65 := by omega
    have hi64 : i ≤ 64 := by omega
    have HI := Lib.hid hil
    clear h hb hle hn hin h0 hil
    go_enter Tryd.func46, Tryd.ntmps46
    go_wp2_with (go_at_call 80; refine (psize_any H.out _).mono ?_; rw [HS.out]; rintro e w1 ⟨rfl, rfl⟩)
    go_loopw [11] (fun a wr => ∃ j : Nat, j ≤ n ∧ a = .int .i64 j ∧ Hid (Tx wr t k (fillL ks i j 0)) ∧ Hid (Frm [k] w wr)) (fun a _ => n - (intOf a).toNat)
    case atStart => exact ⟨0, Nat.zero_le _, rfl, H, F0⟩
    case round =>
      clear F0
      obtain ⟨j, hj, rfl, H2, F0⟩ := hrel
      by_cases hlt : j < n
      · have hlen : i + j < (fillL ks i j 0).length := by rw [fillL_len]; have := HI.out; omega
        have cw := H2.out.kind hlen
        have fz := frozen_of_row wr k (i + j) _ _ H2.out.row
        obtain ⟨-, c1⟩ := H2.out.cells
        obtain ⟨u, hu⟩ : ∃ u, u = (fillL ks i j 0).getD (i + j) 0 := ⟨_, rfl⟩
        rw [← hu] at cw
        obtain ⟨L, hL⟩ : ∃ L, L = (fillL ks i j 0).length := ⟨_, rfl⟩
        rw [← hL] at c1 hlen
        have hL64 : L ≤ 64 := by rw [hL]; exact H2.out.le
        have q1 : (0 : Int) ≤ (i : Int) + (j : Int) := by omega
        have q2 : ((i : Int) + (j : Int)) < (L : Int) := by omega
        have q3 : ((i : Int) + (j : Int)).toNat = i + j := by omega
        clear hu hL
        go_wp2_with fail
        go_roundw
        case rel => exact ⟨j + 1, by omega, by go_num, Lib.hid (H2.out.put _ _), Lib.hid (F0.out.trans (Frm.setCell wr (by simp) _) (fun x hx => .inl hx))⟩
        case measure => simp [intOf]; omega
      · obtain rfl : j = n := by omega
        clear hj hlt
        go_wp2_with fail
        go_ret
        exact ⟨by rw [HS.out]; rfl, by rw [HF.out]; exact H2.out, F0.out⟩
set_option maxHeartbeats 1000000 in
set_option maxRecDepth 100000 in
theorem pfirst_any {w : World} {t k : Nat} {ks : List Int} (h : Tx w t k ks) (p : Int) (hp : -1 ≤ p) :
    Calls Tryd.prog 54 #[.pointer (some ⟨t, 0, none⟩), .int .i64 p] w fun e w' => e = .returned (.int .i64 (firstL ks p)) ∧ w = w' := by
  have H := Lib.hid h
  have hle := h.le
  obtain ⟨n, hn⟩ : ∃ n, n = ks.length := ⟨_, rfl⟩
  have HN := Lib.hid hn
  rw [← hn] at hle
  obtain ⟨q, hq⟩ : ∃ q, q = if p < 0 then p else downL ks p.toNat := ⟨_, rfl⟩
  have hf : firstL ks p = if sizeL ks q = 0 then -1 else q := by rw [hq]; rfl
  have HF := Lib.hid hf
  have HQ := Lib.hid hq
  have HP := Lib.hid hp
  clear h hn hf hq hp
  go_enter Tryd.func54, Tryd.ntmps54
  go_wp2_with fail
  go_loop [1] (fun a => ∃ v : Int, -1 ≤ v ∧ a = .int .i64 v ∧ Hid (q = if v < 0 then v else downL ks v.toNat)) (fun a => (intOf a + 1).toNat)
  case atStart => exact ⟨p, HP.out, rfl, HQ⟩
  case round =>
    clear HQ HP
    obtain ⟨v, hv, rfl, HV⟩ := hrel
    by_cases h6 : kindL ks v = 6
    · have hin : 0 ≤ v ∧ v < n := by
        apply Decidable.byContradiction; intro hc
        rw [kindL_out (by rw [← HN.out]; omega)] at h6; omega
      obtain ⟨i, rfl⟩ := Int.eq_ofNat_of_zero_le hin.1
      have hi : (i : Int) < n := hin.2
      have HV' := Lib.hid (show q = if ((i : Int) - 1) < 0 then ((i : Int) - 1) else downL ks ((i : Int) - 1).toNat by
        rw [HV.out, if_neg (by omega), Int.toNat_natCast]
        cases i with
        | zero => rw [downL_zero h6]; rfl
        | succ i =>
          have e : ((i + 1 : Nat) : Int) - 1 = (i : Int) := by omega
          rw [downL_step h6, e, if_neg (by omega), Int.toNat_natCast])
      have h6' : (kindL ks (i : Int) == 6) = true := by simp [h6]
      clear h6 hin HV
      go_wp2_with (go_at_call 83; refine (pkind_any H.out _).mono ?_; rintro e w1 ⟨rfl, rfl⟩)
      go_round
      case rel => exact ⟨(i : Int) - 1, by omega, rfl, HV'⟩
      case measure => simp [intOf]
    · have h6' : (kindL ks v == 6) = false := by simp [h6]
      have hq : q = v := by
        rw [HV.out]
        split
        · rfl
        · obtain ⟨i, rfl⟩ := Int.eq_ofNat_of_zero_le (show 0 ≤ v by omega)
          exact downL_stop h6
      subst hq
      clear h6 HV
      by_cases hz : sizeL ks q = 0
      · have hz' : (sizeL ks q == 0) = true := by simp [hz]
        have HR := Lib.hid (show firstL ks p = -1 by rw [HF.out, if_pos hz])
        clear hz
        go_wp2_with (first | (go_at_call 83; refine (pkind_any H.out _).mono ?_; rintro e w1 ⟨rfl, rfl⟩) | (go_at_call 80; refine (psize_any H.out _).mono ?_; rintro e w1 ⟨rfl, rfl⟩))
        go_ret
        exact ⟨ret_int HR.out.symm, rfl⟩
      · have hz' : (sizeL ks q == 0) = false := by simp [hz]
        have HR := Lib.hid (show firstL ks p = q by rw [HF.out, if_neg hz])
        clear hz
        go_wp2_with (first | (go_at_call 83; refine (pkind_any H.out _).mono ?_; rintro e w1 ⟨rfl, rfl⟩) | (go_at_call 80; refine (psize_any H.out _).mono ?_; rintro e w1 ⟨rfl, rfl⟩))
        go_ret
        exact ⟨ret_int HR.out.symm, rfl⟩
set_option maxHeartbeats 1000000 in
set_option maxRecDepth 100000 in
theorem iclone_any {w : World} {b : Nat} {xs : List Int} {T : TypeId} (h : w.heap[b]? = some (.cells (ints xs) T (0, 0))) (c : Nat) (hn : xs.length ≤ 1000000) :
    Calls Tryd.prog 71 #[.slice (some ⟨b, 0, none⟩) xs.length c] w fun e w' => (∃ s', e = .returned s' ∧ IRow w.heap.size w' s' xs) ∧ Below w.heap.size w w' := by
  obtain ⟨i0, hi, hz0, hz1, hz2⟩ := info_parts info_num
  have hi := Lib.hid hi
  have hz0 := Lib.hid hz0
  have hz1 := Lib.hid hz1
  have hz2 := Lib.hid hz2
  have q := fun a l c => eql_slice_nil0 32 3 a l c Tryd.underlying32
  have B1 := Lib.hid (below_alloc0 w (.cells #[] 3))
  have HN := Lib.hid hn
  have H := Lib.hid h
  have HO := Lib.hid (ints_one xs)
  obtain ⟨n, hl⟩ : ∃ n, n = xs.length := ⟨_, rfl⟩
  rw [← hl]
  have HL := Lib.hid hl
  clear hn h hl
  go_enter Tryd.func71, Tryd.ntmps71
  go_wp2_with (at_builtin; refine wpList_append_own _ rfl _ _ 32 rfl w.heap.size 3 i0 (.int .i64 0) 1 8 Tryd.underlying32 hi.out hz0.out hz1.out hz2.out rfl (by decide) _ 0 [] rfl (own_new [] w.heap.size 0 rfl (Nat.le_refl _) rfl (Nat.zero_le _)) ⟨b, 0, none⟩ n c (xs.map (Value.int .i64)) rfl (by rw [HL.out]; simp) (ints_news (keep B1.out H.out)) HO.out (by have := HN.out; rw [HL.out]; unfold maxLen; omega) (by have := HN.out; rw [HL.out]; omega) (by simp) ?_; intro v' w1 hown' hgrow _)
  go_ret
  refine ⟨⟨_, rfl, ?_⟩, B1.out.grown hgrow B1.out.size (fun j hj => by cases hj; exact Nat.le_refl _)⟩
  unfold IRow
  rw [Nat.zero_add, List.nil_append, HL.out] at hown'
  exact hown'
theorem pall_any {w : World} {t k : Nat} {ks : List Int} (h : Tx w t k ks) :
    Calls Tryd.prog 31 #[.pointer (some ⟨t, 0, none⟩)] w fun e w' => (∃ s', e = .returned s' ∧ IRow w.heap.size w' s' ks) ∧ Below w.heap.size w w' := by
  have H := Lib.hid h
  obtain ⟨-, c1⟩ := h.cells
  have HL := Lib.hid (show ks.length ≤ 1000000 by have := h.le; omega)
  clear h
  go_enter Tryd.func31, Tryd.ntmps31
  go_wp2_with (go_at_call 71; refine (iclone_any H.out.row _ HL.out).mono ?_; rintro e w1 ⟨⟨s, rfl, hr⟩, hb⟩)
  go_ret
  exact ⟨⟨_, rfl, hr⟩, hb⟩
theorem make_ints (n : Nat) (hn : n ≤ 1000000) (w : World) : (Instr.makeSlice 32 (.int .i64 (n : Int)) (.int .i64 (n : Int))).run Tryd.prog w = .ok (.slice (some ⟨w.heap.size, 0, none⟩) n n) (w.alloc (.cells (ints (List.replicate n 0)) 3)) := by
  obtain ⟨i0, hi, hz0, hz1, hz2⟩ := info_parts info_num
  have h := run_make (P := Tryd.prog) w 32 3 i0 _ Tryd.underlying32 hi hz0 .i64 .i64 n n (by omega) (by omega) (by rw [hz2]; omega) (by omega)
  rw [hz1] at h
  have e : madeCells #[Value.int .i64 0] (n * 1) = ints (List.replicate n 0) := by
    unfold ints
    rw [List.map_replicate]
    apply Array.ext
    · simp [madeCells]
    · intro i h1 h2
      simp only [madeCells, Array.getElem_map, Array.getElem_range, List.getElem_toArray, List.getElem_replicate]
      show (#[Value.int .i64 0])[i % 1]! = _
      rw [Nat.mod_one]; rfl
  rw [← e]
  exact h
set_option maxRecDepth 100000 in
theorem pnew_any (n : Int) (w : World) :
    Calls Tryd.prog 30 #[.int .i64 n] w fun e w' => e = .returned (.pointer (some ⟨w.heap.size + 1, 0, none⟩)) ∧ Tx w' (w.heap.size + 1) w.heap.size (List.replicate (clampN n 0 64).toNat 0) ∧ Below w.heap.size w w' := by
  have hb := clampN_bd (a := n) (lo := 0) (hi := 64) (by omega)
  obtain ⟨k, hk⟩ := Int.eq_ofNat_of_zero_le hb.1
  have HK := Lib.hid hk
  have hk64 : k ≤ 64 := by omega
  have mk := make_ints k (by omega)
  obtain ⟨R, hR⟩ : ∃ R, R = ints (List.replicate k 0) := ⟨_, rfl⟩
  rw [← hR] at mk
  have HR := Lib.hid hR
  clear hk hb hR
  go_enter Tryd.func30, Tryd.ntmps30
  go_wp2_with (go_at_call 70; refine (clampn_any n 0 64 _).mono ?_; rw [HK.out]; rintro e w' ⟨rfl, rfl⟩)
  go_ret
  rw [HK.out, Int.toNat_natCast]
  refine ⟨rfl, ⟨?_, ?_, by simpa using hk64⟩, ?_⟩
  · rw [List.length_replicate]
    exact alloc_at _ _ (by simp)
  · rw [← HR.out]
    exact keep_alloc _ (heap_alloc_new w _)
  · exact (below_alloc0 _ _).alloc (by simp) _
end Go.Proofs.YtfocdbflmodfhaaDoor
