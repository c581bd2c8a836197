/- What OutlineViews answers. -/
import Derived.Test.YtbbdjfbhidpeiaaDoorOut8
import Derived.Test.YtbbdjfbhidpeiaaDoorOut11
namespace Go.Proofs.YtbbdjfbhidpeiaaDoor
open Go.RowKit

set_option maxHeartbeats 16000000 in
set_option maxRecDepth 100000 in
theorem views_law (A : Option Addr) (n cap : Nat) (rs : List (List (Int × Int))) (A2 : Option Addr) (n2 cap2 : Nat) (ns : List (Int × List (Int × Int))) (w : World) (hr : RdR w A n rs) (hn : RdN w A2 n2 ns) (ht : Tab w) :
    Calls Tryd.prog 4 #[.agg #[.slice A n cap, .slice A2 n2 cap2]] w fun e w' => e = .returned (.bool true) ∧ Below w.heap.size w w' := by
  obtain ⟨i0, hi, hz0, hz1, hz2⟩ := info_parts info_str
  have hi := Lib.hid hi
  have hz0 := Lib.hid hz0
  have hz1 := Lib.hid hz1
  have hz2 := Lib.hid hz2
  have hmax := hr.max
  have hmax2 := hn.max
  have B0 := Lib.hid (below_alloc0 w (.cells #[.slice A n cap, .slice A2 n2 cap2] 35))
  have R0 := Lib.hid (hr.below B0.out)
  have N0 := Lib.hid (hn.below B0.out)
  have T0 := Lib.hid (ht.keep B0.out)
  have A0 := Lib.hid (heap_alloc_new w (.cells #[.slice A n cap, .slice A2 n2 cap2] 35))
  clear hr hn ht
  go_enter Tryd.func4, Tryd.ntmps4
  go_wp2_with (go_at_call 6; refine (oalive_any _ T0.out).mono ?_; rintro e W ⟨rfl, hb1⟩; have A1 := Lib.hid (keep hb1 A0.out); have B1 := Lib.hid (below_next B0.out hb1); have R1 := Lib.hid (R0.out.below hb1); have N1 := Lib.hid (N0.out.below hb1); have T1 := Lib.hid (T0.out.keep hb1); clear hb1)
  clear A0 B0 R0 N0 T0
  have hwl := heap_lt A1.out
  go_loopw [3, 4] (fun v i wr => ∃ k : Nat, k ≤ n ∧ i = .int .i64 k ∧ Hid (wr.ownsRow W.heap.size 9 1 v k (strs (rootsText rs k))) ∧ Hid (Below W.heap.size W wr)) (fun _ i _ => n - (intOf i).toNat)
  case atStart => exact ⟨0, by omega, rfl, Lib.hid ⟨rfl, .inl ⟨rfl, rfl⟩⟩, Lib.hid (Below.refl _ _)⟩
  case round =>
    obtain ⟨k, hk, rfl, HO, HB⟩ := hrel
    have AK := Lib.hid (keep HB.out A1.out)
    have c0 : wr.cell? ⟨w.heap.size, 0, none⟩ = some (.slice A n cap) := cell_of_row _ _ _ _ _ _ AK.out
    by_cases hlt : k < n
    · obtain ⟨b, o, rfl, hbl, hcell⟩ := R1.out.cell (by omega)
      obtain ⟨A', n', cap', hcW, hv⟩ := hcell k hlt
      have hc0 : wr.cell? ⟨b, o + k, none⟩ = some (.slice A' n' cap') := cell_keep HB.out hcW
      have HV := Lib.hid (hv.below HB.out.drew)
      clear hcell hv hcW
      have HM := Lib.hid (roots_more rs k)
      have HR : Hid (Rng (k : Int)) := Lib.hid ⟨by omega, by omega⟩
      have hs0 := HB.out.size
      obtain ⟨hd, hhd⟩ : ∃ hd, hd = 116 :: Lib.itoa (k : Int) := ⟨_, rfl⟩
      have hil := itoa_len HR.out
      have hdl : hd.length ≤ 100 := by rw [hhd]; simp; omega
      have g1 : ¬ 9223372036854775807 < 1 + (S (Lib.itoa (k : Int))).size := by rw [S_size]; omega
      have q1 : (⟨#[116]⟩ : ByteArray) ++ S (Lib.itoa (k : Int)) = S hd := by rw [hhd]; exact S_app [116] _
      have b1 : ∀ wx, (binOp .add 9 (.string ⟨#[116]⟩) (.string (S (Lib.itoa (k : Int))))).run Tryd.prog wx = .ok (.string (S hd)) wx := fun wx => by go_simp
      rw [← hhd] at HM
      have HD := Lib.hid hdl
      have i1 : (0 : Int) ≤ (k : Int) := by omega
      have i2 : (k : Int) < (n : Int) := by omega
      have hg0 := own_base HO.out
      have ON := Lib.hid (pw_own_keep HO.out (Below.refl _ _).drew)
      clear hil hdl hhd
      go_wp2_with fail
      go_region_held3 (fun w' => w'.cell? ⟨w.heap.size, 0, none⟩ = some (.slice (some ⟨b, o, none⟩) n cap) ∧ w'.cell? ⟨b, o + k, none⟩ = some (.slice A' n' cap'))
        (first
          | exact ⟨c0, hc0⟩
          | (go_split_ands; exact ⟨cell_keep hb5 (by assumption), cell_keep hb5 (by assumption)⟩)
          | (go_split_ands; exact ⟨cell_keep hb6 (by assumption), cell_keep hb6 (by assumption)⟩)
          | (go_split_ands; exact ⟨cell_keep (below_alloc0 _ _) (by assumption), cell_keep (below_alloc0 _ _) (by assumption)⟩)
          | (go_split_ands; exact ⟨(World.cell?_of_block (hgrow.block _ (by have h5 := hb5.size; have h6 := hb6.size; have h7 : wr.heap.size ≤ w5.heap.size := h5; show _ < (w6.heap.push _).size; simp; omega) (fun e => absurd (hg0 _ e.symm) (by dsimp only; omega)))).trans (by assumption), (World.cell?_of_block (hgrow.block _ (by have h5 := hb5.size; have h6 := hb6.size; have h7 : wr.heap.size ≤ w5.heap.size := h5; show _ < (w6.heap.push _).size; simp; omega) (fun e => absurd (hg0 _ e.symm) (by dsimp only; omega)))).trans (by assumption)⟩))
        (first
          | (go_at_call 7; refine (dec_any k HR.out _).mono ?_; rintro e w5 ⟨rfl, hb5⟩)
          | (go_at_call 11; refine (lline_any hd HD.out A' n' cap' _ _ (HV.out.below hb5)).mono ?_; rintro e w6 ⟨rfl, hb6⟩)
          | (rw [if_pos (by rfl)]; refine wp_append_own_wide _ _ _ _ rfl W.heap.size 9 i0 (.string ⟨#[]⟩) 1 16 Tryd.underlying36 hi.out hz0.out hz1.out hz2.out rfl (by decide) _ k _ rfl ((pw_own_keep (pw_own_keep ON.out hb5) hb6).alloc _) ⟨w6.heap.size, 0, none⟩ 1 1 [.string (S (lineText hd (rs.getD k [])))] rfl rfl (cell_new _ _ _ _) (by simp [Value.oneCell']) (by unfold maxLen; omega) (by omega) (by have h5 := hb5.size; have h6 := hb6.size; have h7 : wr.heap.size ≤ w5.heap.size := h5; show _ ≤ (w6.heap.push _).size; simp; omega) ?_; intro v' w7 hown hgrow _))
      have h4 : W.heap.size ≤ wr.drew.heap.size := hs0
      have h5 : W.heap.size ≤ w5.heap.size := Nat.le_trans h4 hb5.size
      have h6 : W.heap.size ≤ w6.heap.size := Nat.le_trans h5 hb6.size
      have HB7 : Hid (Below W.heap.size W w7) := Lib.hid (((((HB.out.drew).trans (hb5.mono h4)).trans (hb6.mono h5)).alloc h6 _).grown hgrow (by show _ ≤ (w6.heap.push _).size; simp; omega) hg0)
      have HO7 : Hid (w7.ownsRow W.heap.size 9 1 v' (k + 1) (strs (rootsText rs (k + 1)))) := Lib.hid (by rw [HM.out]; exact hown)
      clear hown hgrow
      go_split_ands
      go_wp2_with fail
      go_roundw
      case rel => exact ⟨k + 1, by omega, by go_num, HO7, HB7⟩
      case measure => simp [intOf]; omega
    · obtain rfl : k = n := by omega
      clear hk hlt AK
      go_wp2_with fail
      clear c0
      go_loopw [3, 5] (fun v i wq => ∃ j : Nat, j ≤ n2 ∧ i = .int .i64 j ∧ Hid (wq.ownsRow W.heap.size 9 1 v (k + j) (strs (rootsText rs k ++ nodesText ns j))) ∧ Hid (Below W.heap.size W wq)) (fun _ i _ => n2 - (intOf i).toNat)
      case atStart => exact ⟨0, by omega, rfl, by simpa [nodesText] using HO, HB⟩
      case round =>
        clear HO HB
        obtain ⟨j, hj, rfl, HO, HB⟩ := hrel
        have AK := Lib.hid (keep HB.out A1.out)
        have c1 : wr.cell? ⟨w.heap.size, 1, none⟩ = some (.slice A2 n2 cap2) := cell_of_row _ _ _ _ _ _ AK.out
        have hs0 := HB.out.size
        by_cases hlt : j < n2
        · obtain ⟨b, o, rfl, hbl, hcell⟩ := N1.out.cell (by omega)
          obtain ⟨hcW, A', n', cap', hcW1, hv⟩ := hcell j hlt
          have hc0 := cell_keep HB.out hcW
          have hc1 := cell_keep HB.out hcW1
          have HV := Lib.hid (hv.below HB.out.drew)
          clear hcell hv hcW hcW1
          have HM := Lib.hid (nodes_more (rootsText rs k) ns j)
          have hnl := N1.out.len
          have HR : Hid (Rng (ns.getD j (0, [])).1) := Lib.hid (N1.out.rng _ (by rw [List.getD_eq_getElem?_getD, List.getElem?_eq_getElem (by omega)]; exact List.getElem_mem _))
          obtain ⟨y, hy⟩ : ∃ y, y = (ns.getD j (0, [])).1 := ⟨_, rfl⟩
          obtain ⟨vs, hvs⟩ : ∃ vs, vs = (ns.getD j (0, [])).2 := ⟨_, rfl⟩
          rw [← hy] at hc0 HM HR
          rw [← hvs] at HV HM
          clear hy hvs hnl
          obtain ⟨hd, hhd⟩ : ∃ hd, hd = 35 :: Lib.itoa y := ⟨_, rfl⟩
          have hil := itoa_len HR.out
          have hdl : hd.length ≤ 100 := by rw [hhd]; simp; omega
          have g1 : ¬ 9223372036854775807 < 1 + (S (Lib.itoa y)).size := by rw [S_size]; omega
          have q1 : (⟨#[35]⟩ : ByteArray) ++ S (Lib.itoa y) = S hd := by rw [hhd]; exact S_app [35] _
          have b1 : ∀ wx, (binOp .add 9 (.string ⟨#[35]⟩) (.string (S (Lib.itoa y)))).run Tryd.prog wx = .ok (.string (S hd)) wx := fun wx => by go_simp
          rw [← hhd] at HM
          have HD := Lib.hid hdl
          have i1 : (0 : Int) ≤ (j : Int) := by omega
          have i2 : (j : Int) < (n2 : Int) := by omega
          have hg0 := own_base HO.out
          have ON := Lib.hid (pw_own_keep HO.out (Below.refl _ _).drew)
          clear hil hdl hhd
          go_wp2_with fail
          go_region_held3 (fun w' => w'.cell? ⟨w.heap.size, 1, none⟩ = some (.slice (some ⟨b, o, none⟩) n2 cap2) ∧ w'.cell? ⟨b, o + j * 2, none⟩ = some (.int .i64 y) ∧ w'.cell? ⟨b, o + j * 2 + 1, none⟩ = some (.slice A' n' cap'))
            (first
              | exact ⟨c1, hc0, hc1⟩
              | (go_split_ands; exact ⟨cell_keep hb5 (by assumption), cell_keep hb5 (by assumption), cell_keep hb5 (by assumption)⟩)
              | (go_split_ands; exact ⟨cell_keep hb6 (by assumption), cell_keep hb6 (by assumption), cell_keep hb6 (by assumption)⟩)
              | (go_split_ands; exact ⟨cell_keep (below_alloc0 _ _) (by assumption), cell_keep (below_alloc0 _ _) (by assumption), cell_keep (below_alloc0 _ _) (by assumption)⟩)
              | (go_split_ands; exact ⟨(World.cell?_of_block (hgrow.block _ (by have h5 := hb5.size; have h6 := hb6.size; have h7 : wr.heap.size ≤ w5.heap.size := h5; show _ < (w6.heap.push _).size; simp; omega) (fun e => absurd (hg0 _ e.symm) (by dsimp only; omega)))).trans (by assumption), (World.cell?_of_block (hgrow.block _ (by have h5 := hb5.size; have h6 := hb6.size; have h7 : wr.heap.size ≤ w5.heap.size := h5; show _ < (w6.heap.push _).size; simp; omega) (fun e => absurd (hg0 _ e.symm) (by dsimp only; omega)))).trans (by assumption), (World.cell?_of_block (hgrow.block _ (by have h5 := hb5.size; have h6 := hb6.size; have h7 : wr.heap.size ≤ w5.heap.size := h5; show _ < (w6.heap.push _).size; simp; omega) (fun e => absurd (hg0 _ e.symm) (by dsimp only; omega)))).trans (by assumption)⟩))
            (first
              | (go_at_call 7; refine (dec_any y HR.out _).mono ?_; rintro e w5 ⟨rfl, hb5⟩)
              | (go_at_call 11; refine (lline_any hd HD.out A' n' cap' vs _ (HV.out.below hb5)).mono ?_; rintro e w6 ⟨rfl, hb6⟩)
              | (rw [if_pos (by rfl)]; refine wp_append_own_wide _ _ _ _ rfl W.heap.size 9 i0 (.string ⟨#[]⟩) 1 16 Tryd.underlying36 hi.out hz0.out hz1.out hz2.out rfl (by decide) _ (k + j) _ rfl ((pw_own_keep (pw_own_keep ON.out hb5) hb6).alloc _) ⟨w6.heap.size, 0, none⟩ 1 1 [.string (S (lineText hd vs))] rfl rfl (cell_new _ _ _ _) (by simp [Value.oneCell']) (by unfold maxLen; omega) (by omega) (by have h5 := hb5.size; have h6 := hb6.size; have h7 : wr.heap.size ≤ w5.heap.size := h5; show _ ≤ (w6.heap.push _).size; simp; omega) ?_; intro v' w7 hown hgrow _))
          have h4 : W.heap.size ≤ wr.drew.heap.size := hs0
          have h5 : W.heap.size ≤ w5.heap.size := Nat.le_trans h4 hb5.size
          have h6 : W.heap.size ≤ w6.heap.size := Nat.le_trans h5 hb6.size
          have HB7 : Hid (Below W.heap.size W w7) := Lib.hid (((((HB.out.drew).trans (hb5.mono h4)).trans (hb6.mono h5)).alloc h6 _).grown hgrow (by show _ ≤ (w6.heap.push _).size; simp; omega) hg0)
          have HO7 : Hid (w7.ownsRow W.heap.size 9 1 v' (k + (j + 1)) (strs (rootsText rs k ++ nodesText ns (j + 1)))) := Lib.hid (by rw [HM.out]; exact hown)
          clear hown hgrow
          go_split_ands
          go_wp2_with fail
          go_roundw
          case rel => exact ⟨j + 1, by omega, by go_num, HO7, HB7⟩
          case measure => simp [intOf]; omega
        · obtain rfl : j = n2 := by omega
          clear hj hlt
          obtain ⟨A3, cap3, rfl, RS⟩ := RdS.of_own HO.out
          have RS := Lib.hid RS
          have RR := Lib.hid (R1.out.below HB.out)
          have NN := Lib.hid (N1.out.below HB.out)
          have TT := Lib.hid (T1.out.keep HB.out)
          have BB := Lib.hid (below_next B1.out HB.out)
          clear R1 N1 T1 B1 A1 HO HB
          go_wp2_with (first
            | (go_at_call 13; refine (view_any A k cap rs A2 j cap2 ns _ RR.out NN.out TT.out).mono ?_; rintro e w6 ⟨v6, rfl, ho6, hb6⟩; obtain ⟨A6, cap6, rfl, RS6⟩ := RdS.of_own ho6; have RS7 := Lib.hid (RS.out.below hb6); have B6 := Lib.hid (below_next BB.out hb6); clear hb6 ho6)
            | (go_at_call 12; refine (texts_same A6 cap6 A3 cap3 (k + j) _ _ RS6 RS7.out (by omega)).mono ?_; rintro e w8 ⟨rfl, hb8⟩)
            | (refine wpList_load_row rfl 35 _ rfl w.heap.size rfl 35 #[.slice A k cap, .slice A2 j cap2] (0, 0) _ AK.out Tryd.underlying35 rfl (by kernel_rfl) ?_))
          go_ret
          exact ⟨rfl, below_next B6.out hb8⟩
end Go.Proofs.YtbbdjfbhidpeiaaDoor
