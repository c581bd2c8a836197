/- script.Line. -/
import Derived.Test.YtffdekgkhiffkaaDoorScr1
import Derived.Test.YtffdekgkhiffkaaDoorStp2
import Derived.Deep.RegionWith
import Derived.Deep.Cut
import Derived.Lib.Builder
namespace Go.Proofs.YtffdekgkhiffkaaDoor
open Go.RowKit

theorem letF_cell (x : Stp) {l : UInt8} (h : l ≠ 78) : x.cells[offI l]? = some (.int .i64 (x.letF l)) := by
  unfold offI Stp.letF
  by_cases h1 : l = 84
  · rw [if_pos h1, if_pos h1]; rfl
  · rw [if_neg h1, if_neg h1]
    by_cases h2 : l = 73
    · rw [if_pos h2, if_pos h2]; rfl
    · rw [if_neg h2, if_neg h2]
      by_cases h3 : l = 70
      · rw [if_pos h3, if_pos h3]; rfl
      · rw [if_neg h3, if_neg h3]
        by_cases h4 : l = 74
        · rw [if_pos h4, if_pos h4]; rfl
        · rw [if_neg h4, if_neg h4, if_neg h]; rfl
theorem letF_n (x : Stp) : x.letF 78 = x.n := rfl
theorem lets_len (k : Nat) : (letsI k).length ≤ 4 := by
  unfold letsI
  split <;> decide

theorem str_index (l : List UInt8) (i : Nat) (h : i < l.length) (w : World) : (Instr.index 9 (.string (S l)) (.int .i64 (i : Int))).run Tryd.prog w = .ok (.int .u8 ((l.getD i 0).toNat : Int)) w := by
  rw [run_index_string _ _ _ _ _ Tryd.underlying9, dif_pos ⟨by omega, by rw [S_size]; omega⟩]
  have e : (S l)[((i : Int)).toNat]'(by show ((i : Int)).toNat < l.toArray.size; simp; exact h) = l.getD i 0 := by
    rw [List.getD_eq_getElem?_getD, List.getElem?_eq_getElem h]
    show l.toArray[((i : Int)).toNat]'_ = _
    simp
  rw [e]
theorem lineT_at (x : Stp) {kk : Nat} (h : x.lineT = wordI (kk + 1) :: (letsI (kk + 1)).map fun l => Lib.itoa (x.letF l)) {i : Nat} (hi : i < (letsI (kk + 1)).length) :
    strs (x.lineT.take (i + 1 + 1)) = strs (x.lineT.take (i + 1)) ++ [.string (S (Lib.itoa (x.letF ((letsI (kk + 1)).getD i 0))))] := by
  have e : x.lineT[i + 1]? = some (Lib.itoa (x.letF ((letsI (kk + 1)).getD i 0))) := by
    rw [h, List.getElem?_cons_succ, List.getElem?_map, List.getD_eq_getElem?_getD, List.getElem?_eq_getElem hi]; rfl
  rw [List.take_add_one, e]
  simp [strs]
theorem join_len : ∀ l : List (List UInt8), (∀ x ∈ l, x.length ≤ 21) → (Lib.join l [32]).length ≤ 22 * l.length
  | [], _ => by simp [Lib.join, List.intercalate]
  | [a], h => by
    have := h a (by simp)
    simp [Lib.join, List.intercalate]; omega
  | a :: b :: l, h => by
    have h1 := h a (by simp)
    have h2 := join_len (b :: l) fun x hx => h x (List.mem_cons_of_mem _ hx)
    have e : Lib.join (a :: b :: l) [32] = a ++ [32] ++ Lib.join (b :: l) [32] := by simp [Lib.join, List.intercalate]
    rw [e]
    simp only [List.length_append, List.length_cons, List.length_nil] at h2 ⊢
    omega
theorem two_set {w : World} {b : Nat} {a c u v : Value} {t : TypeId} (h : w.heap[b]? = some (.cells #[a, c] t (0, 0))) :
    ((w.setCell ⟨b, 0, none⟩ u).setCell ⟨b, 1, none⟩ v).heap[b]? = some (.cells #[u, v] t (0, 0)) := by
  have h1 : (w.setCell ⟨b, 0, none⟩ u).heap[b]? = some (.cells #[u, c] t (0, 0)) := by simp [World.setCell, Array.getElem?_modify, h]
  simp [World.setCell, Array.getElem?_modify] at h1 ⊢
  simp [h]

set_option maxHeartbeats 8000000 in
set_option maxRecDepth 100000 in
theorem line_ok (x : Stp) (h : x.check = 0) (hr : ∀ l, Rng (x.letF l)) (w : World) (ht : Tab w) :
    Calls Tryd.prog 8 #[.agg x.cells] w fun e w' => e = .returned (.tuple #[.string (S x.line), .int .i64 0]) ∧ Below w.heap.size w w' := by
  obtain ⟨i0, hi, hz0, hz1, hz2⟩ := info_parts info_str
  have hi := Lib.hid hi
  have hz0 := Lib.hid hz0
  have hz1 := Lib.hid hz1
  have hz2 := Lib.hid hz2
  obtain ⟨hk, _, _⟩ := Stp.check_zero h
  have HR := Lib.hid hr
  have A0 := Lib.hid (heap_alloc_new w (.cells x.cells 23))
  have B0 := Lib.hid (below_alloc0 w (.cells x.cells 23))
  have T0 := Lib.hid (ht.keep B0.out)
  obtain ⟨kk, hkk⟩ : ∃ kk : Nat, x.k = (kk : Int) + 1 := ⟨(x.k - 1).toNat, by omega⟩
  have hk17 : kk < 17 := by omega
  have hx0 : (x.k.toNat) = kk + 1 := by omega
  have HX : Hid (x.lineT = wordI (kk + 1) :: (letsI (kk + 1)).map fun l => Lib.itoa (x.letF l)) := Lib.hid (by rw [Stp.lineT, hx0])
  clear ht hr hx0 hk
  go_enter Tryd.func8, Tryd.ntmps8
  go_wp2_with (first
    | (go_at_call 15; refine (ccheck_any x _).mono ?_; rintro e w1 ⟨rfl, hb1⟩; rw [h]; have A1 := Lib.hid (keep hb1 A0.out); have B1 := Lib.hid (below_next B0.out hb1); have T1 := Lib.hid (T0.out.keep hb1); clear hb1)
    | (refine wpList_load_row rfl 23 _ rfl w.heap.size rfl 23 x.cells (0, 0) _ ?_ Tryd.underlying23 rfl (by kernel_rfl) ?_; exact Hid.out (by assumption)))
  clear A0 B0 T0
  have c0 : w1.cell? ⟨w.heap.size, 0, none⟩ = some (.int .i64 ((kk : Int) + 1)) := by rw [cell_of_row _ _ _ _ _ _ A1.out, ← hkk]; rfl
  have i1 : (0 : Int) ≤ (kk : Int) := by omega
  have i2 : (kk : Int) < 17 := by omega
  have hw1 : wrap64 ((kk : Int) + 1 - 1) = kk := by unfold wrap64; omega
  have hw2 : wrap64 (kk : Int) = kk := by unfold wrap64; omega
  have hw3 : IntKind.i64.wrap (kk : Int) = kk := IntWalk.i64_in _ (by omega)
  have hw4 : IntKind.i64.wrap ((kk : Int) + 1 - 1) = kk := by rw [Int.add_sub_cancel]; exact IntWalk.i64_in _ (by omega)
  have HK := Lib.hid hkk
  clear hkk
  have F : ∀ (R : Nat) (w5 : World), w5.heap[R]? = some (.cells rowC 44 (0, 0)) → (w5.cell? ⟨R, kk * 2, none⟩ = some (.string (S (wordI (kk + 1)))) ∧ w5.cell? ⟨R, kk * 2 + 1, none⟩ = some (.string (S (letsI (kk + 1))))) ∧ ∀ o, (w5.alloc o).cell? ⟨R, kk * 2, none⟩ = some (.string (S (wordI (kk + 1)))) ∧ (w5.alloc o).cell? ⟨R, kk * 2 + 1, none⟩ = some (.string (S (letsI (kk + 1)))) := fun R w5 hR =>
    have h1 := (cell_of_row _ _ (kk * 2) _ _ _ hR).trans (rowC_get kk hk17).1
    have h2 := (cell_of_row _ _ (kk * 2 + 1) _ _ _ hR).trans (rowC_get kk hk17).2
    ⟨⟨h1, h2⟩, fun o => ⟨cell_keep (below_alloc0 w5 o) h1, cell_keep (below_alloc0 w5 o) h2⟩⟩
  replace F := Lib.hid F
  have c0a : ∀ o, (w1.alloc o).cell? ⟨w.heap.size, 0, none⟩ = some (.int .i64 ((kk : Int) + 1)) := fun o => cell_keep (below_alloc0 _ _) c0
  go_cut [5] from 13 (fun q wc => ∃ Q, q = .pointer (some ⟨Q, 0, none⟩) ∧ Hid (wc.heap[Q]? = some (.cells #[.string (S (wordI (kk + 1))), .string (S (letsI (kk + 1)))] 44 (0, 0))) ∧ Hid (Below w1.heap.size w1 wc))
  case first =>
    go_region_with (first
      | (go_at_call 16; refine (rows_some _).mono ?_; rintro e w5 ⟨R, rfl, hR, hb5⟩; obtain ⟨⟨r0, r1⟩, ra⟩ := F.out R w5 hR; have r2 := fun o => (ra o).1; have r3 := fun o => (ra o).2; have c5 := cell_keep hb5 (by first | exact c0 | exact c0a _); have c6 := fun o => cell_keep (below_alloc0 w5 o) c5; clear hR ra; try (have q0 := keep hb5 (heap_alloc_new w1 (.cells #[.string ⟨#[]⟩, .string ⟨#[]⟩] 44)); have fz0 := Lib.frozen_of_heap q0 0; have fz1 := Lib.frozen_of_heap q0 1; have qc0 : w5.cell? ⟨w1.heap.size, 0, none⟩ = some (.string ⟨#[]⟩) := cell_of_row _ _ _ _ _ _ q0; have qc1 : w5.cell? ⟨w1.heap.size, 1, none⟩ = some (.string ⟨#[]⟩) := cell_of_row _ _ _ _ _ _ q0; have HQ := Lib.hid q0; clear q0)))
    all_goals
      go_wp2_with fail
      go_meet
      first
        | exact ⟨_, rfl, Lib.hid (heap_alloc_new w5 _), Lib.hid (((Below.refl w1.heap.size w1).drew.trans hb5).alloc hb5.size _)⟩
        | exact ⟨_, rfl, Lib.hid (two_set HQ.out), Lib.hid (((((Below.refl w1.heap.size w1).alloc (Nat.le_refl _) _).drew.trans (hb5.mono (by show _ ≤ (w1.heap.push _).size; simp))).setCell (p := ⟨w1.heap.size, 0, none⟩) (Nat.le_refl _) _).setCell (p := ⟨w1.heap.size, 1, none⟩) (Nat.le_refl _) _)⟩
  case rest =>
    obtain ⟨Q, rfl, HQ, HB⟩ := hcut
    have A2 := Lib.hid (keep HB.out A1.out)
    have B2 := Lib.hid (below_next B1.out HB.out)
    have T2 := Lib.hid (T1.out.keep HB.out)
    have q0 : wc.cell? ⟨Q, 0, none⟩ = some (.string (S (wordI (kk + 1)))) := cell_of_row _ _ _ _ _ _ HQ.out
    have q1 : wc.cell? ⟨Q, 1, none⟩ = some (.string (S (letsI (kk + 1)))) := cell_of_row _ _ _ _ _ _ HQ.out
    have q2 : ∀ o, (wc.alloc o).cell? ⟨Q, 1, none⟩ = some (.string (S (letsI (kk + 1)))) := fun o => cell_keep (below_alloc0 wc o) q1
    obtain ⟨ls, hls⟩ : ∃ ls, ls = letsI (kk + 1) := ⟨_, rfl⟩
    obtain ⟨L, hL⟩ : ∃ L, L = ls.length := ⟨_, rfl⟩
    have hL4 : L ≤ 4 := by rw [hL, hls]; exact lets_len _
    have hsz : (S (letsI (kk + 1))).size = L := by rw [S_size, ← hls, hL]
    go_wp2_with fail
    have H0 : Hid ((wc.alloc (.cells #[.string (S (wordI (kk + 1)))] 9)).ownsRow wc.heap.size 9 1 (.slice (some ⟨wc.heap.size, 0, none⟩) 1 1) (0 + 1) (strs (x.lineT.take (0 + 1)))) := Lib.hid (by rw [HX.out]; exact own_new [.string (S (wordI (kk + 1)))] _ 1 rfl (Nat.le_refl _) rfl (by decide))
    have HBW := Lib.hid (below_alloc0 wc (.cells #[.string (S (wordI (kk + 1)))] 9))
    clear q0 q1 q2
    generalize wc.alloc (.cells #[.string (S (wordI (kk + 1)))] 9) = W at *
    clear hls hL hsz hL4
    go_loopw [6, 25] (fun v i wr => ∃ j : Nat, j ≤ (letsI (kk + 1)).length ∧ i = .int .i64 j ∧ Hid (wr.ownsRow wc.heap.size 9 1 v (j + 1) (strs (x.lineT.take (j + 1)))) ∧ Hid (Below wc.heap.size wc wr)) (fun _ i _ => (letsI (kk + 1)).length - (intOf i).toNat)
    case atStart => exact ⟨0, by omega, rfl, H0, HBW⟩
    case round =>
      obtain ⟨j, hj, rfl, HO, HB2⟩ := hrel
      have hlen4 := lets_len (kk + 1)
      by_cases hlt : j < (letsI (kk + 1)).length
      · have hidx := str_index (letsI (kk + 1)) j hlt
        have HS := Lib.hid (lineT_at x HX.out hlt)
        obtain ⟨l, hl⟩ : ∃ l, l = (letsI (kk + 1)).getD j 0 := ⟨_, rfl⟩
        rw [← hl] at hidx HS
        clear hl
        have AK := Lib.hid (keep HB2.out A2.out)
        have QK := keep HB2.out HQ.out
        have TK := Lib.hid (T2.out.keep HB2.out)
        have q1 : wr.cell? ⟨Q, 1, none⟩ = some (.string (S (letsI (kk + 1)))) := cell_of_row _ _ _ _ _ _ QK
        have hs0 := HB2.out.size
        clear QK
        by_cases h78 : l = 78
        · subst h78
          have e78 : ((UInt8.toNat 78 : Nat) : Int) = 78 := rfl
          have cn : wr.cell? ⟨w.heap.size, 6, none⟩ = some (.int .i64 x.n) := cell_of_row _ _ _ _ _ _ AK.out
          have HRn : Hid (Rng x.n) := Lib.hid (HR.out 78)
          go_wp2_with (first
            | (go_at_call 17; refine (fmt_any x.n HRn.out _ TK.out).mono ?_; rintro e w6 ⟨rfl, hb6⟩; have HO6 := Lib.hid (pw_own_keep HO.out hb6); have HB6 := Lib.hid (HB2.out.trans (hb6.mono HB2.out.size)); have hs6 := HB6.out.size)
            | (at_builtin; refine wpList_append_own _ rfl _ _ 47 rfl wc.heap.size 9 i0 (.string ⟨#[]⟩) 1 16 Tryd.underlying47 hi.out hz0.out hz1.out hz2.out rfl (by decide) _ (j + 1) _ rfl (HO6.out.alloc _) ⟨w6.heap.size, 0, none⟩ 1 1 [.string (S (Lib.itoa x.n))] rfl rfl ?c1 ?c2 ?c3 ?c4 ?c5 ?_))
          case c1 => exact cell_new _ _ _ _
          case c2 => simp [Value.oneCell']
          case c3 => unfold maxLen; omega
          case c4 => omega
          case c5 => simp; omega
          intro v' w7 hown hgrow _
          have HO7 : Hid (w7.ownsRow wc.heap.size 9 1 v' (j + 1 + 1) (strs (x.lineT.take (j + 1 + 1)))) := Lib.hid (by rw [HS.out]; exact hown)
          have HB7 : Hid (Below wc.heap.size wc w7) := Lib.hid ((HB6.out.alloc hs6 _).grown hgrow (by simp; omega) (own_base HO.out))
          clear hown hgrow
          go_wp2_with fail
          go_roundw
          case rel => exact ⟨j + 1, by omega, by go_num, HO7, HB7⟩
          case measure => simp [intOf]; omega
        · have ce : wr.cell? ⟨w.heap.size, offI l, none⟩ = some (.int .i64 (x.letF l)) := by rw [cell_of_row _ _ _ _ _ _ AK.out]; exact letF_cell x h78
          have e78 : ((l.toNat : Int) == 78) = false := by simp; intro hh; exact h78 (UInt8.toNat_inj.1 (by show l.toNat = 78; omega))
          have e78b : (l.toNat == 78) = false := by simp; intro hh; exact h78 (UInt8.toNat_inj.1 (by show l.toNat = 78; omega))
          have HRn : Hid (Rng (x.letF l)) := Lib.hid (HR.out l)
          go_wp2_with (first
            | (go_at_call 18; refine (field_any w.heap.size l _).mono ?_; rintro e w5 ⟨rfl, rfl⟩)
            | (go_at_call 17; refine (fmt_any (x.letF l) HRn.out _ TK.out).mono ?_; rintro e w6 ⟨rfl, hb6⟩; have HO6 := Lib.hid (pw_own_keep HO.out hb6); have HB6 := Lib.hid (HB2.out.trans (hb6.mono HB2.out.size)); have hs6 := HB6.out.size)
            | (at_builtin; refine wpList_append_own _ rfl _ _ 47 rfl wc.heap.size 9 i0 (.string ⟨#[]⟩) 1 16 Tryd.underlying47 hi.out hz0.out hz1.out hz2.out rfl (by decide) _ (j + 1) _ rfl (HO6.out.alloc _) ⟨w6.heap.size, 0, none⟩ 1 1 [.string (S (Lib.itoa (x.letF l)))] rfl rfl ?c1 ?c2 ?c3 ?c4 ?c5 ?_))
          case c1 => exact cell_new _ _ _ _
          case c2 => simp [Value.oneCell']
          case c3 => unfold maxLen; omega
          case c4 => omega
          case c5 => simp; omega
          intro v' w7 hown hgrow _
          have HO7 : Hid (w7.ownsRow wc.heap.size 9 1 v' (j + 1 + 1) (strs (x.lineT.take (j + 1 + 1)))) := Lib.hid (by rw [HS.out]; exact hown)
          have HB7 : Hid (Below wc.heap.size wc w7) := Lib.hid ((HB6.out.alloc hs6 _).grown hgrow (by simp; omega) (own_base HO.out))
          clear hown hgrow
          go_wp2_with fail
          go_roundw
          case rel => exact ⟨j + 1, by omega, by go_num, HO7, HB7⟩
          case measure => simp [intOf]; omega
      · obtain rfl : j = (letsI (kk + 1)).length := by omega
        clear hlt hj
        have hll : x.lineT.length = (letsI (kk + 1)).length + 1 := by rw [HX.out]; simp
        have HTK : Hid (x.lineT.take ((letsI (kk + 1)).length + 1) = x.lineT) := Lib.hid (by rw [← hll, List.take_length])
        obtain ⟨g, cap, hv, hcap⟩ : ∃ g cap, u6 = .slice (some ⟨g, 0, none⟩) ((letsI (kk + 1)).length + 1) cap ∧ (letsI (kk + 1)).length + 1 ≤ cap := by
          rcases HO.out.2 with ⟨_, h0⟩ | ⟨g, cap, cur, hv, _, _, hc, _⟩
          · omega
          · exact ⟨g, cap, hv, hc⟩
        subst hv
        have hcells := own_strs HO.out
        rw [HTK.out] at hcells
        have hgl : g < wr.heap.size := by
          rcases HO.out.2 with ⟨h1, _⟩ | ⟨g', cap', cur, h1, _, h3, _⟩
          · cases h1
          · cases h1; exact heap_lt h3
        have e1 : (x.lineT.map S).map (·.data.toList) = x.lineT := by
          rw [List.map_map]
          exact (List.map_congr_left (fun a _ => rfl)).trans (List.map_id _)
        have hml : (x.lineT.map S).length = (letsI (kk + 1)).length + 1 := by rw [List.length_map, hll]
        have h21 : ∀ y ∈ x.lineT, y.length ≤ 21 := by
          rw [HX.out]
          intro y hy
          rcases List.mem_cons.1 hy with rfl | hy
          · have : ∀ k : Nat, (wordI k).length ≤ 21 := by intro k; unfold wordI; split <;> decide
            exact this _
          · obtain ⟨l, _, rfl⟩ := List.mem_map.1 hy
            exact itoa_len (HR.out l)
        have hjl := join_len x.lineT h21
        have hj := Tryd.strings_Join g 0 cap (x.lineT.map S) (S [32]) wr hcells hgl (by rw [hml]; omega) (by rw [hml]; exact hcap) (by rw [e1]; exact Nat.le_trans hjl (by rw [hll]; omega))
        rw [e1, hml] at hj
        have HJ : Hid (Calls Tryd.prog 19 #[.slice (some ⟨g, 0, none⟩) ((letsI (kk + 1)).length + 1) cap, .string ⟨#[32]⟩] wr fun e w' => e = .returned (.string (S x.line)) ∧ Below wr.heap.size wr w') := Lib.hid hj
        clear hj hcells hgl e1 hml h21 hjl hll
        go_wp2_with (go_at_call 19; refine HJ.out.mono ?_; rintro e w8 ⟨rfl, hb8⟩)
        go_ret2
        exact ⟨rfl, below_next (below_next B2.out HB2.out) hb8⟩
end Go.Proofs.YtffdekgkhiffkaaDoor
