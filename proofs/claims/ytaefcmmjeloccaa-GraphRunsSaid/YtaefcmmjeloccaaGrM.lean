/- The graph's Made, Live. -/
import Derived.Test.YtaefcmmjeloccaaGrL
import Derived.Test.YtaefcmmjeloccaaGrK
namespace Go.Proofs.Ytaefcmmjeloccaa
open Go.RowKit

theorem info_int : (Try.prog.info? 3).map (fun i => (i.zero, i.size, i.bytes)) = some (some (.int .i64 0), 1, 8) := by kernel_rfl
namespace Gr
def liveTo (G : Gr) (k : Nat) : List Int := ((List.range k).filter fun t => (G.thr.getD t Th.none).live).map fun (t : Nat) => (t : Int)
theorem liveTo_yes {G : Gr} {k : Nat} (h : (G.thr.getD k Th.none).live = true) : G.liveTo (k + 1) = G.liveTo k ++ [(k : Int)] := by
  unfold liveTo
  rw [List.range_succ, List.filter_append, List.filter_cons, if_pos h, List.filter_nil, List.map_append]; rfl
theorem liveTo_no {G : Gr} {k : Nat} (h : (G.thr.getD k Th.none).live = false) : G.liveTo (k + 1) = G.liveTo k := by
  unfold liveTo
  rw [List.range_succ, List.filter_append, List.filter_cons, if_neg (by simp only [h]; decide), List.filter_nil, List.append_nil]
theorem liveTo_len (G : Gr) (k : Nat) : (G.liveTo k).length ≤ k := by
  unfold liveTo
  rw [List.length_map]
  exact Nat.le_trans (List.length_filter_le _ _) (by simp)
end Gr
section
variable {w : World} {g : Nat} {c : Cfg} {G : Gr} {tb tcap nb ncap : Nat} {hv nv : List Value}
theorem gmade_any (h : Gx 60 72 w g c G tb tcap nb ncap hv nv) (hg : G.Good) :
    Calls Try.prog 17 #[.pointer (some ⟨g, 0, none⟩)] w fun e w' => e = .returned (.int .i64 G.nod.length) ∧ w = w' := by
  obtain ⟨-, -, q11⟩ := h.head
  have HPOS := Lib.hid hg.some
  clear h hg
  go_enter Try.func17, Try.ntmps17
  go_wp2_with (go_at_call 23; refine (gis_yes g _ _ _ HPOS.out _ q11).mono ?_; rintro e w4 ⟨rfl, rfl⟩)
  go_ret
  exact ⟨rfl, rfl⟩
set_option maxHeartbeats 4000000 in
set_option maxRecDepth 100000 in
theorem glive_any (h : Gx 60 72 w g c G tb tcap nb ncap hv nv) (hg : G.Good) :
    Calls Try.prog 19 #[.pointer (some ⟨g, 0, none⟩)] w fun e w' => ∃ s, e = .returned s ∧ w'.ownsRow w.heap.size 3 1 s (G.liveTo G.thr.length).length ((G.liveTo G.thr.length).map (Value.int .i64)) ∧ Below w.heap.size w w' := by
  obtain ⟨-, q10, q11⟩ := h.head
  have HPOS := Lib.hid hg.some
  have h8 := hg.few
  have HG := Lib.hid h
  obtain ⟨i0, hi, hz0, hz1, hz2⟩ := info_parts info_int
  have hi := Lib.hid hi
  have hz0 := Lib.hid hz0
  have hz1 := Lib.hid hz1
  have hz2 := Lib.hid hz2
  clear h hg
  obtain ⟨n, hn⟩ : ∃ n, n = G.thr.length := ⟨_, rfl⟩
  have HN := Lib.hid hn
  rw [← hn] at q10 h8 ⊢
  clear hn
  go_enter Try.func19, Try.ntmps19
  go_wp2_with (go_at_call 23; refine (gis_yes g _ _ _ HPOS.out _ q11).mono ?_; rintro e w4 ⟨rfl, rfl⟩)
  go_loopw [3, 13] (fun s i wr => ∃ k : Nat, k ≤ n ∧ i = .int .i64 k ∧ Hid (wr.ownsRow w.heap.size 3 1 s (G.liveTo k).length ((G.liveTo k).map (Value.int .i64))) ∧ Hid (Below w.heap.size w wr)) (fun _ i _ => n - (intOf i).toNat)
  case atStart => exact ⟨0, by omega, rfl, Lib.hid ⟨rfl, .inl ⟨rfl, rfl⟩⟩, Lib.hid (Below.refl _ _)⟩
  case round =>
    obtain ⟨k, hk, rfl, HO, HB⟩ := hrel
    by_cases hlt : k < n
    · have hGr := HG.out.below HB.out
      obtain ⟨-, r10, -⟩ := hGr.head
      rw [← HN.out] at r10
      obtain ⟨t0, -⟩ := hGr.thread (t := k) (by rw [← HN.out]; exact hlt)
      clear hGr
      obtain ⟨b, hb⟩ : ∃ b, b = (G.thr.getD k Th.none).live := ⟨_, rfl⟩
      rw [← hb] at t0
      have hl := G.liveTo_len k
      have i1 : (0 : Int) ≤ (k : Int) := by omega
      have i2 : (k : Int) < (n : Int) := by omega
      cases b
      · have HE := Lib.hid (Gr.liveTo_no hb.symm)
        clear hb
        go_wp2_with fail
        go_roundw
        case rel => exact ⟨k + 1, by omega, by go_num, by rw [HE.out]; exact HO, HB⟩
        case measure => simp [intOf]; omega
      · have HE := Lib.hid (Gr.liveTo_yes hb.symm)
        clear hb
        go_wp2_with (at_builtin; refine wpList_append_own _ rfl _ _ 61 rfl w.heap.size 3 i0 (.int .i64 0) 1 8 Try.underlying61 hi.out hz0.out hz1.out hz2.out rfl (by decide) _ (G.liveTo k).length _ rfl (HO.out.alloc _) ⟨wr.heap.size, 0, none⟩ 1 1 [.int .i64 k] rfl rfl (cell_new1 _ _ _ _) (by simp [Value.oneCell']) (by unfold maxLen; omega) (by omega) (by have := HB.out.size; simp; omega) ?_; intro v' w1 hown' hgrow _)
        have HO2 := Lib.hid hown'
        have HG2 := Lib.hid hgrow
        clear hown' hgrow
        go_wp2_with fail
        go_roundw
        case rel => exact ⟨k + 1, by omega, by go_num, Lib.hid (by rw [HE.out]; simpa using HO2.out), Lib.hid ((below_new HB.out _).grown HG2.out (by have := HB.out.size; simp; omega) (fun j hj => own_base HO.out j hj))⟩
        case measure => simp [intOf]; omega
    · obtain rfl : k = n := by omega
      go_wp2_with fail
      go_ret
      exact ⟨_, rfl, HO.out, HB.out⟩
end
end Go.Proofs.Ytaefcmmjeloccaa
