import Derived.Test.YtaefcmmjeloccaaGrQ
import Derived.Test.YtaefcmmjeloccaaGsC
namespace Go.Proofs.Ytaefcmmjeloccaa
open Go.RowKit

/- The reference graph: reached. -/
/-- What reached's loops keep. -/
structure RI (W w : World) (mb : Nat) (nx : Value) (met : List Bool) (q : List Int) : Prop where
  below : Below W.heap.size W w
  met : w.heap[mb]? = some (.cells (bvs met).toArray 4 (0, 0))
  next : w.ownsRow W.heap.size 2 1 nx q.length (ivs q)
  base : W.heap.size ≤ mb
section
variable {W w : World} {mb : Nat} {nx : Value} {met : List Bool} {q : List Int}
theorem RI.step (h : RI W w mb nx met q) {w1 : World} (hb : Below w.heap.size w w1) : RI W w1 mb nx met q :=
  ⟨h.below.trans (hb.mono h.below.size), Go.Proofs.Ytaefcmmjeloccaa.keep hb h.met, pw_own_keep h.next hb, h.base⟩
theorem RI.note (h : RI W w mb nx met q) {w7 : World} {o : Obj} {nx' : Value} {y : Int} (hg : (w.alloc o).grownBy w7 nx.ownBlock) (hown : w7.ownsRow W.heap.size 2 1 nx' (q.length + 1) (ivs q ++ [.int .i64 y])) : RI W w7 mb nx' met (q ++ [y]) := by
  have hs := h.below.size
  have k7 : KF W.heap.size [2] [] w w7 := (KF.of_below (below_alloc0 w o) hs).trans (KF.grown hg (Nat.le_trans hs (by simp)) (own_kf (h.next.alloc _)))
  refine ⟨h.below.trans k7.below, k7.kept _ _ _ _ h.met (by decide) (by simp), ?_, h.base⟩
  have e : ivs (q ++ [y]) = ivs q ++ [.int .i64 y] := by simp [ivs]
  rw [e, List.length_append]; exact hown
theorem RI.mark (h : RI W w mb nx met q) (k : Nat) : RI W (w.setCell ⟨mb, k, none⟩ (.bool true)) mb nx (met.set k true) q := by
  have ks : KF W.heap.size [] [mb] w (w.setCell ⟨mb, k, none⟩ (.bool true)) := KF.setCell (KF.refl _ _ _ _) (p := ⟨mb, k, none⟩) h.base (by simp) _
  refine ⟨h.below.trans ks.below, ?_, ks.own h.next (by simp) fun g hg hm => ?_, h.base⟩
  · have := heap_setCell_same w mb k _ _ (.bool true) h.met
    rw [this]
    simp [bvs, List.map_set]
  · obtain ⟨_, cs, T, fr, h1, h2⟩ := own_kf h.next g hg
    rw [List.mem_singleton.1 hm] at h1
    exact kind_ne h1 h.met (by rw [List.mem_singleton.1 h2]; decide) rfl
end
theorem RI.begin (w : World) (n : Nat) : RI w ((w.alloc (.cells (bvs (List.replicate n false)).toArray 4)).alloc (.cells #[.int .i64 0] 2)) w.heap.size (.slice (some ⟨w.heap.size + 1, 0, none⟩) 1 1) (List.replicate n false) [0] :=
  ⟨below_new (below_alloc0 w _) _, keep_alloc _ (heap_alloc_new w _), own_new [.int .i64 0] (w.heap.size + 1) 1 (size_one w _).symm (Nat.le_succ _) rfl (by decide), Nat.le_refl _⟩
set_option maxHeartbeats 8000000 in
set_option maxRecDepth 100000 in
theorem rreached_any {w : World} {g : Nat} {c : Cfg} {G : Gr} {tb tcap nb ncap : Nat} {hv nv : List Value} (h : Gx 50 85 w g c G tb tcap nb ncap hv nv) (hg : G.Good) :
    Calls Try.prog 39 #[.pointer (some ⟨g, 0, none⟩)] w fun e w' => ∃ mb, e = .returned (.slice (some ⟨mb, 0, none⟩) G.nod.length G.nod.length) ∧ w'.heap[mb]? = some (.cells (bvs G.met).toArray 4 (0, 0)) ∧ Below w.heap.size w w' ∧ G.met.length = G.nod.length := by
  have hm := hg.most
  have h8 := hg.few
  have HG := Lib.hid h
  have HGD := Lib.hid hg
  obtain ⟨-, -, q11⟩ := h.head
  clear h hg
  obtain ⟨n, hn⟩ : ∃ n, n = G.nod.length := ⟨_, rfl⟩
  obtain ⟨t, ht⟩ : ∃ t, t = G.thr.length := ⟨_, rfl⟩
  have HN := Lib.hid hn
  have HT := Lib.hid ht
  rw [← hn] at q11 hm ⊢
  rw [← ht] at h8
  clear hn ht
  have hmk := fun W => make_bools n hm W
  obtain ⟨i0, hi, hz0, hz1, hz2⟩ := info_parts info_i64
  replace hi := Lib.hid hi
  replace hz0 := Lib.hid hz0
  replace hz1 := Lib.hid hz1
  replace hz2 := Lib.hid hz2
  have HV0 := Lib.hid (RI.begin w n)
  have HM := Lib.hid hm
  have HW0 := Lib.hid (HG.out.below HV0.out.below).head.2.1
  go_enter Try.func39, Try.ntmps39
  go_wp2_with fail
  clear hmk q11
  obtain ⟨mb, hmb⟩ : ∃ mb, mb = w.heap.size := ⟨_, rfl⟩
  generalize hW0 : World.alloc (World.alloc w _) _ = W0 at *
  clear hW0
  go_loopw [4, 5] (fun nx i wr => ∃ k : Nat, k ≤ t ∧ i = .int .i64 k ∧ (∃ p l cp, nx = .slice p l cp) ∧ Hid (RI w wr w.heap.size nx (List.replicate n false) (G.first k))) (fun _ i _ => t - (intOf i).toNat)
  case atStart => exact ⟨0, by omega, rfl, ⟨_, _, _, rfl⟩, HV0⟩
  case round =>
    clear HV0
    obtain ⟨k, hk, rfl, ⟨p, l, cp, rfl⟩, HV⟩ := hrel
    have hGr := HG.out.below HV.out.below
    have r10 := hGr.head.2.1
    rw [← HT.out] at r10
    by_cases hlt : k < t
    · have i1 : (0 : Int) ≤ (k : Int) := by omega
      have i2 : (k : Int) < (t : Int) := by omega
      obtain ⟨-, t1⟩ := hGr.thread (t := k) (by rw [← HT.out]; exact hlt)
      have ho := hGr.heldRow (t := k) (by rw [← HT.out]; exact hlt)
      obtain ⟨vs, hvs⟩ : ∃ vs, vs = (G.thr.getD k Th.none).held := ⟨_, rfl⟩
      rw [← hvs] at ho
      have HVS := Lib.hid hvs
      obtain ⟨hs, hhs⟩ : ∃ hs, hs = hv.getD k undef := ⟨_, rfl⟩
      rw [← hhs] at t1 ho
      obtain ⟨lp, lc, rfl, -, hpb⟩ := own_slice ho
      have HO := Lib.hid ho
      have H16 : Hid (vs.length ≤ 16) := Lib.hid (by rw [hvs]; exact (HGD.out.th (k : Int)).1)
      have HK : Hid (k < G.thr.length) := Lib.hid (by rw [← HT.out]; exact hlt)
      have HHS := Lib.hid hhs
      have HF1 : Hid ((G.first k).length ≤ 1 + 16 * k) := Lib.hid (first_len HGD.out k (by rw [← HT.out]; omega))
      clear hvs hhs ho hGr
      have HV1 : Hid (RI w wr w.heap.size (.slice p l cp) (List.replicate n false) (G.first k ++ refs (vs.take 0))) := Lib.hid (by simpa [refs] using HV.out)
      go_wp2_with fail
      go_loopw [4, 7] (fun nx i wq => ∃ j : Nat, j ≤ vs.length ∧ i = .int .i64 j ∧ (∃ p l cp, nx = .slice p l cp) ∧ Hid (RI w wq w.heap.size nx (List.replicate n false) (G.first k ++ refs (vs.take j))) ) (fun _ i _ => vs.length - (intOf i).toNat)
      case atStart => exact ⟨0, by omega, rfl, ⟨_, _, _, rfl⟩, HV1⟩
      case round =>
        clear HV1
        have hq16 := H16.out
        obtain ⟨j, hj, rfl, ⟨p', l', cp', rfl⟩, HV2⟩ := hrel
        by_cases hlt2 : j < vs.length
        · have ho := (HG.out.below HV2.out.below).heldRow HK.out
          rw [← HVS.out, ← HHS.out] at ho
          obtain ⟨b, rfl⟩ := hpb (by omega)
          obtain ⟨v0, v1⟩ := own_val ho hlt2
          have HY : Hid ((vs.getD j (0, 0)).1 = 2 → refs (vs.take (j + 1)) = refs (vs.take j) ++ [(vs.getD j (0, 0)).2]) := Lib.hid (refs_yes hlt2)
          have HNO : Hid ((vs.getD j (0, 0)).1 ≠ 2 → refs (vs.take (j + 1)) = refs (vs.take j)) := Lib.hid (refs_no hlt2)
          obtain ⟨x, hx1⟩ : ∃ x, x = (vs.getD j (0, 0)).1 := ⟨_, rfl⟩
          obtain ⟨y, hy1⟩ : ∃ y, y = (vs.getD j (0, 0)).2 := ⟨_, rfl⟩
          rw [← hx1] at v0 HY HNO
          rw [← hy1] at v1 HY
          have j1 : (0 : Int) ≤ (j : Int) := by omega
          have j2 : (j : Int) < (vs.length : Int) := by omega
          have HLEN : Hid ((G.first k ++ refs (vs.take j)).length ≤ 1000) := Lib.hid (by
            have h1 := refs_len (vs.take j)
            have h2 : (vs.take j).length ≤ j := List.length_take_le _ _
            have h3 := HF1.out
            have h4 := H16.out
            rw [List.length_append]; omega)
          clear hx1 hy1 ho
          by_cases hx2 : x = 2
          · have HE := Lib.hid (HY.out hx2)
            subst hx2
            clear HY HNO
            go_wp2_with (at_builtin; refine wpList_append_own _ rfl _ _ 81 rfl w.heap.size 2 i0 (.int .i64 0) 1 8 Try.underlying81 hi.out hz0.out hz1.out hz2.out rfl (by decide) _ (G.first k ++ refs (vs.take j)).length (ivs (G.first k ++ refs (vs.take j))) rfl (HV2.out.next.alloc _) ⟨wr.heap.size, 0, none⟩ 1 1 [.int .i64 y] rfl rfl (cell_new _ _ _ _) (by simp [Value.oneCell']) (by have := HLEN.out; unfold maxLen; omega) (by have := HLEN.out; omega) (Nat.le_trans HV2.out.below.size (by simp)) ?_; intro v' w7 hown hgrow _; obtain ⟨d', cap', rfl⟩ := own_pos (own_mono hown (Nat.zero_le _)) (by omega); have HN7 := Lib.hid (HV2.out.note hgrow hown); clear hown hgrow)
            go_roundw
            case rel => exact ⟨j + 1, by omega, by go_num, ⟨_, _, _, rfl⟩, by rw [HE.out, ← List.append_assoc]; have h := HN7.out; rw [List.length_append] at h; exact Lib.hid h⟩
            case measure => simp [intOf]; omega
          · have HE := Lib.hid (HNO.out hx2)
            have dx : decide (x = 2) = false := by simpa using hx2
            clear HY HNO
            go_wp2_with fail
            go_roundw
            case rel => exact ⟨j + 1, by omega, by go_num, ⟨_, _, _, rfl⟩, by rw [HE.out]; exact HV2⟩
            case measure => simp [intOf]; omega
        · obtain rfl : j = vs.length := by omega
          have HV3 : Hid (RI w wr w.heap.size (.slice p' l' cp') (List.replicate n false) (G.first (k + 1))) := Lib.hid (by
            have h1 := HV2.out
            rw [List.take_of_length_le (Nat.le_refl _), HVS.out, ← first_step HK.out] at h1
            exact h1)
          clear hpb
          go_wp2_with fail
          go_roundw
          case rel => exact ⟨k + 1, by omega, by go_num, ⟨_, _, _, rfl⟩, HV3⟩
          case measure => simp [intOf]; omega
    · obtain rfl : k = t := by omega
      clear hlt hGr
      clear hk
      go_wp2_with fail
      have HR0 : Hid (0 ≤ (G.first k).length ∧ Tr G (n * 128 + 200 - 0) (List.replicate n false) ((G.first k).drop 0)) := Lib.hid (by
        have h1 := Tr.begin HGD.out
        rw [← HN.out, ← HT.out] at h1
        exact ⟨Nat.zero_le _, h1⟩)
      have HVA : Hid (RI w wr w.heap.size (.slice p l cp) (List.replicate n false) (G.first k)) := HV
      clear HV r10
      go_loopw [4, 8] (fun nx i wq => ∃ (j : Nat) (met : List Bool) (q : List Int), j ≤ n * 128 + 200 ∧ i = .int .i64 j ∧ (∃ p l cp, nx = .slice p l cp) ∧ Hid (RI w wq w.heap.size nx met q) ∧ Hid (j ≤ q.length ∧ Tr G (n * 128 + 200 - j) met (q.drop j))) (fun _ i _ => n * 128 + 200 - (intOf i).toNat)
      case atStart => exact ⟨0, _, _, by omega, rfl, ⟨_, _, _, rfl⟩, HVA, HR0⟩
      case round =>
        clear HVA HR0
        obtain ⟨j, met, q, hj, rfl, ⟨p1, l1, c1, rfl⟩, HV, HR⟩ := hrel
        obtain ⟨p2, c2, e2, -, hpb⟩ := own_slice HV.out.next
        simp only [Value.slice.injEq] at e2
        obtain ⟨rfl, rfl, rfl⟩ := e2
        by_cases hlt : j < q.length
        · obtain ⟨b, rfl⟩ := hpb (by omega)
          clear hpb
          have hd : q.drop j = q.getD j 0 :: q.drop (j + 1) := by
            rw [List.drop_eq_getElem_cons hlt, List.getD_eq_getElem?_getD, List.getElem?_eq_getElem hlt]; rfl
          have hcell : wr.cell? ⟨b, j, none⟩ = some (.int .i64 (q.getD j 0)) := by
            rw [(own_mono HV.out.next (Nat.zero_le _)).cellAt j (by omega)]
            unfold ivs
            rw [List.getElem?_map, List.getElem?_eq_getElem hlt, List.getD_eq_getElem?_getD, List.getElem?_eq_getElem hlt]; rfl
          have hr := HR.out.2
          rw [hd] at hr
          obtain ⟨s, hs⟩ : ∃ s, s = q.getD j 0 := ⟨_, rfl⟩
          rw [← hs] at hr hcell
          obtain ⟨hs0, hs1⟩ := hr.ins s (by simp)
          obtain ⟨sn, rfl⟩ : ∃ sn : Nat, s = (sn : Int) := ⟨s.toNat, by omega⟩
          have hml := hr.len
          have HRR := Lib.hid hr
          have HNL : Hid (met.length = n) := Lib.hid (by rw [hml, HN.out])
          have hsl : sn < n := by rw [HN.out]; omega
          have hfu := hr.fuel
          have hjn : j < n * 128 + 200 := by simp only [List.length_cons] at hfu; omega
          have i1 : (0 : Int) ≤ (j : Int) := by omega
          have i2 : (j : Int) < (q.length : Int) := by omega
          have i3 : (0 : Int) ≤ (sn : Int) := by omega
          have i4 : (sn : Int) < (n : Int) := by omega
          obtain ⟨bb, hbb⟩ : ∃ bb, bb = met.getD sn true := ⟨_, rfl⟩
          have m1 : wr.cell? ⟨w.heap.size, sn, none⟩ = some (.bool bb) := by
            rw [cell_of_row _ _ _ _ _ _ HV.out.met, bvs_get (by rw [HNL.out]; exact hsl), hbb]
          clear hd hr hs hfu hml hs0 hs1
          cases bb
          · have HRN := Lib.hid (HRR.out.new HGD.out hbb.symm)
            have HMK := Lib.hid (HV.out.mark sn)
            have fz : wr.frozen? ⟨w.heap.size, sn, none⟩ = false := frozen_of_row _ _ _ _ _ HV.out.met
            have hGm := HG.out.below HMK.out.below
            have n11 := hGm.head.2.2
            rw [← HN.out] at n11
            obtain ⟨e1, -⟩ := hGm.nodeRow (s := sn) (by rw [← HN.out]; exact hsl)
            have ho := hGm.nodeRow (s := sn) (by rw [← HN.out]; exact hsl) |>.2
            obtain ⟨vs, hvs⟩ : ∃ vs, vs = G.nod.getD sn [] := ⟨_, rfl⟩
            obtain ⟨sv, hsv⟩ : ∃ sv, sv = nv.getD sn undef := ⟨_, rfl⟩
            rw [← hvs, ← hsv] at ho
            rw [← hsv] at e1
            obtain ⟨lp, lc, rfl, -, hpb⟩ := own_slice ho
            have HVS := Lib.hid hvs
            have HSV := Lib.hid hsv
            have HSL : Hid (sn < G.nod.length) := Lib.hid (by rw [← HN.out]; exact hsl)
            have hq127 : vs.length ≤ 127 := by rw [hvs]; exact (HGD.out.nd (sn : Int)).1
            have HQL : Hid (q.length ≤ 128000200) := Lib.hid (by
              have h1 := HR.out.2.fuel
              have h2 := HR.out.1
              rw [List.length_drop] at h1
              have := hm
              omega)
            have HJQ : Hid (j + 1 ≤ q.length) := Lib.hid (by omega)
            have HM1 : Hid (RI w (wr.setCell ⟨w.heap.size, sn, none⟩ (.bool true)) w.heap.size (.slice (some ⟨b, 0, none⟩) q.length c1) (met.set sn true) (q ++ refs (vs.take 0))) := Lib.hid (by simpa [refs] using HMK.out)
            clear hvs hsv ho hGm hbb HMK HV HR HRR HNL
            go_wp2_with fail
            clear m1 fz n11 e1 hcell
            generalize World.setCell wr _ _ = w6 at *
            go_loopw [4, 11] (fun nx i wq => ∃ m : Nat, m ≤ vs.length ∧ i = .int .i64 m ∧ (∃ p l cp, nx = .slice p l cp) ∧ Hid (RI w wq w.heap.size nx (met.set sn true) (q ++ refs (vs.take m)))) (fun _ i _ => vs.length - (intOf i).toNat)
            case atStart => exact ⟨0, by omega, rfl, ⟨_, _, _, rfl⟩, HM1⟩
            case round =>
              clear HM1
              obtain ⟨m, hmm, rfl, ⟨p', l', cp', rfl⟩, HV2⟩ := hrel
              by_cases hlt2 : m < vs.length
              · have ho := ((HG.out.below HV2.out.below).nodeRow HSL.out).2
                rw [← HVS.out, ← HSV.out] at ho
                obtain ⟨b2, rfl⟩ := hpb (by omega)
                obtain ⟨v0, v1⟩ := own_val ho hlt2
                have HY : Hid ((vs.getD m (0, 0)).1 = 2 → refs (vs.take (m + 1)) = refs (vs.take m) ++ [(vs.getD m (0, 0)).2]) := Lib.hid (refs_yes hlt2)
                have HNO : Hid ((vs.getD m (0, 0)).1 ≠ 2 → refs (vs.take (m + 1)) = refs (vs.take m)) := Lib.hid (refs_no hlt2)
                obtain ⟨x, hx1⟩ : ∃ x, x = (vs.getD m (0, 0)).1 := ⟨_, rfl⟩
                obtain ⟨y, hy1⟩ : ∃ y, y = (vs.getD m (0, 0)).2 := ⟨_, rfl⟩
                rw [← hx1] at v0 HY HNO
                rw [← hy1] at v1 HY
                have j1 : (0 : Int) ≤ (m : Int) := by omega
                have j2 : (m : Int) < (vs.length : Int) := by omega
                obtain ⟨qq, hqq⟩ : ∃ qq, qq = q ++ refs (vs.take m) := ⟨_, rfl⟩
                have HLEN : Hid (qq.length ≤ 128000400) := Lib.hid (by
                  have h1 := refs_len (vs.take m)
                  have h2 : (vs.take m).length ≤ m := List.length_take_le _ _
                  have h3 := HQL.out
                  rw [hqq, List.length_append]; omega)
                rw [← hqq] at HV2
                have HQQ := Lib.hid hqq
                clear hx1 hy1 ho hqq
                by_cases hx2 : x = 2
                · have HE := Lib.hid (HY.out hx2)
                  subst hx2
                  clear HY HNO
                  go_wp2_with (at_builtin; refine wpList_append_own _ rfl _ _ 81 rfl w.heap.size 2 i0 (.int .i64 0) 1 8 Try.underlying81 hi.out hz0.out hz1.out hz2.out rfl (by decide) _ qq.length (ivs qq) rfl (HV2.out.next.alloc _) ⟨wr.heap.size, 0, none⟩ 1 1 [.int .i64 y] rfl rfl (cell_new _ _ _ _) (by simp [Value.oneCell']) (by have := HLEN.out; unfold maxLen; omega) (by have := HLEN.out; omega) (Nat.le_trans HV2.out.below.size (by simp)) ?_; intro v' w7 hown hgrow _; obtain ⟨d', cap', rfl⟩ := own_pos (own_mono hown (Nat.zero_le _)) (by omega); have HN7 := Lib.hid (HV2.out.note hgrow hown); clear hown hgrow)
                  go_roundw
                  case rel => exact ⟨m + 1, by omega, by go_num, ⟨_, _, _, rfl⟩, by rw [HE.out, ← List.append_assoc, ← HQQ.out]; exact HN7⟩
                  case measure => simp [intOf]; omega
                · have HE := Lib.hid (HNO.out hx2)
                  have dx : decide (x = 2) = false := by simpa using hx2
                  clear HY HNO
                  go_wp2_with fail
                  go_roundw
                  case rel => exact ⟨m + 1, by omega, by go_num, ⟨_, _, _, rfl⟩, by rw [HE.out, ← HQQ.out]; exact HV2⟩
                  case measure => simp [intOf]; omega
              · obtain rfl : m = vs.length := by omega
                have HV3 : Hid (RI w wr w.heap.size (.slice p' l' cp') (met.set sn true) (q ++ refs vs)) := Lib.hid (by
                  have h1 := HV2.out
                  rw [List.take_of_length_le (Nat.le_refl _)] at h1
                  exact h1)
                clear hpb
                go_wp2_with fail
                go_roundw
                case rel =>
                  obtain ⟨f', hf', ht'⟩ := HRN.out
                  refine ⟨j + 1, met.set sn true, q ++ refs vs, by omega, by go_num, ⟨_, _, _, rfl⟩, HV3, Lib.hid ⟨by have := HJQ.out; rw [List.length_append]; omega, ?_⟩⟩
                  have en : G.node (sn : Int) = vs := HVS.out.symm
                  rw [en] at ht'
                  rw [show n * 128 + 200 - (j + 1) = f' by omega, List.drop_append_of_le_length HJQ.out]
                  exact ht'
                case measure => simp [intOf]; omega
          · have HRO := Lib.hid (HRR.out.old hbb.symm)
            clear hbb
            go_wp2_with fail
            go_roundw
            case rel =>
              obtain ⟨f', hf', ht'⟩ := HRO.out
              exact ⟨j + 1, met, q, by omega, by go_num, ⟨_, _, _, rfl⟩, HV, Lib.hid ⟨by omega, by rw [show n * 128 + 200 - (j + 1) = f' by omega]; exact ht'⟩⟩
            case measure => simp [intOf]; omega
        · clear hpb
          have hje : j = q.length := by have := HR.out.1; omega
          have HMET : Hid (met = G.met) := Lib.hid (by
            have h1 := HR.out.2
            rw [List.drop_eq_nil_of_le (by omega)] at h1
            exact h1.nil)
          have d1 : decide ((j : Int) < (q.length : Int)) = false := by simp; omega
          have HML := Lib.hid HR.out.2.len
          clear HR
          go_wp2_with fail
          go_ret
          exact ⟨_, rfl, by rw [← HMET.out]; exact HV.out.met, HV.out.below, by rw [← HMET.out, HML.out, ← HN.out]⟩
/- The reference graph: what its View builds. -/
/-- What View's loops keep. -/
structure VJ (W w : World) (rc oc : Nat) (rs : List (List Vl)) (ns : List (Int × List Vl)) : Prop where
  below : Below W.heap.size W w
  res : w.heap[rc]? = some (.cells #[.slice none 0 0, .slice none 0 0] 45 (0, 0))
  out : ∃ rv nv, w.heap[oc]? = some (.cells #[rv, nv] 45 (0, 0)) ∧ Vw w W.heap.size rv nv rs ns
  ne : rc ≠ oc
  base : W.heap.size ≤ rc ∧ W.heap.size ≤ oc
section
variable {W w : World} {rc oc : Nat} {rs : List (List Vl)} {ns : List (Int × List Vl)}
theorem VJ.step (h : VJ W w rc oc rs ns) {w1 : World} (hb : Below w.heap.size w w1) : VJ W w1 rc oc rs ns := by
  obtain ⟨rv, nv, h1, h2⟩ := h.out
  exact ⟨h.below.trans (hb.mono h.below.size), keep hb h.res, ⟨rv, nv, keep hb h1, h2.below hb⟩, h.ne, h.base⟩
theorem VJ.mid (h : VJ W w rc oc rs ns) {w5 w7 : World} {o : Obj} {v : Value} {e size n : Nat} {xs : List Value}
    (h5 : Below w.heap.size w w5) (hg : (w5.alloc o).grownBy w7 v.ownBlock) (hown : w.ownsRow W.heap.size e size v n xs) : KF W.heap.size [e] [] w w7 := by
  have hs := h.below.size
  have h6 : Below w.heap.size w (w5.alloc o) := below_new h5 o
  exact (KF.of_below h6 hs).trans (KF.grown hg (Nat.le_trans hs h6.size) (own_kf (pw_own_keep hown h6)))
theorem VJ.set (h : VJ W w rc oc rs ns) {w7 : World} {k : Nat} {x : Value} : KF W.heap.size [] [oc] w7 (w7.setCell ⟨oc, k, none⟩ x) := KF.setCell (KF.refl _ _ _ _) (p := ⟨oc, k, none⟩) h.base.2 (by simp) x
/-- Roots: one more. -/
theorem VJ.root (h : VJ W w rc oc rs ns) {w5 w7 : World} {l : List Vl} {rv nv x rv' : Value} (hoc : w.heap[oc]? = some (.cells #[rv, nv] 45 (0, 0))) (hvw : Vw w W.heap.size rv nv rs ns) {b5 : Nat} (hb5 : W.heap.size ≤ b5)
    (hx : w5.ownsRow b5 57 2 x l.length (vls l)) (h5 : Below w.heap.size w w5) {o : Obj} {xs : List Value} (hg : (w5.alloc o).grownBy w7 rv.ownBlock)
    (hown : w.ownsRow W.heap.size 53 1 rv rs.length xs) (hcl : ClR w W.heap.size xs rs) (hown' : w7.ownsRow W.heap.size 53 1 rv' (rs.length + 1) (xs ++ [x])) :
    VJ W (w7.setCell ⟨oc, 0, none⟩ rv') rc oc (rs ++ [l]) ns := by
  have k7 := h.mid h5 hg hown
  have ks := h.set (w7 := w7) (k := 0) (x := rv')
  have k0 : KF W.heap.size [53] [oc] w (w7.setCell ⟨oc, 0, none⟩ rv') := (k7.mono (fun _ h => h) (fun _ h => absurd h (by simp))).trans (ks.mono (fun _ h => absurd h (by simp)) (fun _ h => h))
  have hoc7 := k7.kept _ _ _ _ hoc (by decide) (by simp)
  have ne : ∀ {w' : World} {k : Nat} {cs : Array Value} {T : TypeId} {fr : Nat × Nat} {cs' : Array Value}, w'.heap[oc]? = some (.cells cs' 45 (0, 0)) → w'.heap[k]? = some (.cells cs T fr) → T ≠ 45 → k ∉ [oc] := fun h1 hk hT hm => by
    rw [List.mem_singleton.1 hm] at hk
    exact kind_ne hk h1 hT rfl
  obtain ⟨ys, hn1, hn2⟩ := hvw.nodes
  have hx7 : w7.ownsRow W.heap.size 57 2 x l.length (vls l) := by
    have h8 := own_mono hx hb5
    have hk := KF.grown (ks := [53]) (bs := []) hg (Nat.le_trans h.below.size (Nat.le_trans h5.size (by simp))) (own_kf (pw_own_keep hown (below_new h5 _)))
    exact hk.own (h8.alloc _) (by decide) (by simp)
  refine ⟨h.below.trans k0.below, k0.kept _ _ _ _ h.res (by decide) (by simpa using h.ne), ⟨rv', nv, heap_setCell_same w7 oc 0 _ _ rv' hoc7, ⟨⟨xs ++ [x], ?_, ?_⟩, ys, ?_, ?_⟩⟩, h.ne, h.base⟩
  · rw [List.length_append]
    exact ks.own hown' (by simp) fun k hk => by
      obtain ⟨_, cs, T, fr, h1, h2⟩ := own_kf hown' k hk
      exact ne hoc7 h1 (by rw [List.mem_singleton.1 h2]; decide)
  · refine (ClR.kf hcl k7 (by decide) (by simp)).add hx7 |>.kf ks (by simp) fun k hk cs fr h1 => ?_
    rw [List.mem_singleton.1 hk] at h1
    exact kind_ne hoc7 h1 (by decide) rfl
  · exact k0.own hn1 (by decide) fun k hk => by
      obtain ⟨_, cs, T, fr, h1, h2⟩ := own_kf hn1 k hk
      exact ne hoc h1 (by rw [List.mem_singleton.1 h2]; decide)
  · refine hn2.kf k0 (by decide) fun k hk cs fr h1 => ?_
    rw [List.mem_singleton.1 hk] at h1
    exact kind_ne hoc h1 (by decide) rfl
/-- Nodes: one more. -/
theorem VJ.node (h : VJ W w rc oc rs ns) {w5 w7 : World} {l : List Vl} {s : Int} {rv nv x nv' : Value} (hoc : w.heap[oc]? = some (.cells #[rv, nv] 45 (0, 0))) (hvw : Vw w W.heap.size rv nv rs ns) {b5 : Nat} (hb5 : W.heap.size ≤ b5)
    (hx : w5.ownsRow b5 57 2 x l.length (vls l)) (h5 : Below w.heap.size w w5) {o : Obj} {ys : List Value} (hg : (w5.alloc o).grownBy w7 nv.ownBlock)
    (hown : w.ownsRow W.heap.size 55 2 nv ns.length (ndC ns ys)) (hcl : ClR w W.heap.size ys (ns.map fun n => n.2)) (hown' : w7.ownsRow W.heap.size 55 2 nv' (ns.length + 1) (ndC ns ys ++ [.int .i64 s, x])) :
    VJ W (w7.setCell ⟨oc, 1, none⟩ nv') rc oc rs (ns ++ [(s, l)]) := by
  have k7 := h.mid h5 hg hown
  have ks := h.set (w7 := w7) (k := 1) (x := nv')
  have k0 : KF W.heap.size [55] [oc] w (w7.setCell ⟨oc, 1, none⟩ nv') := (k7.mono (fun _ h => h) (fun _ h => absurd h (by simp))).trans (ks.mono (fun _ h => absurd h (by simp)) (fun _ h => h))
  have hoc7 := k7.kept _ _ _ _ hoc (by decide) (by simp)
  have ne : ∀ {w' : World} {k : Nat} {cs : Array Value} {T : TypeId} {fr : Nat × Nat} {cs' : Array Value}, w'.heap[oc]? = some (.cells cs' 45 (0, 0)) → w'.heap[k]? = some (.cells cs T fr) → T ≠ 45 → k ∉ [oc] := fun h1 hk hT hm => by
    rw [List.mem_singleton.1 hm] at hk
    exact kind_ne hk h1 hT rfl
  obtain ⟨xs, hn1, hn2⟩ := hvw.roots
  have hx7 : w7.ownsRow W.heap.size 57 2 x l.length (vls l) := by
    have h8 := own_mono hx hb5
    have hk := KF.grown (ks := [55]) (bs := []) hg (Nat.le_trans h.below.size (Nat.le_trans h5.size (by simp))) (own_kf (pw_own_keep hown (below_new h5 _)))
    exact hk.own (h8.alloc _) (by decide) (by simp)
  have hyl : ys.length = ns.length := by have := hcl.len; simpa using this
  refine ⟨h.below.trans k0.below, k0.kept _ _ _ _ h.res (by decide) (by simpa using h.ne), ⟨rv, nv', heap_setCell_same w7 oc 1 _ _ nv' hoc7, ⟨⟨xs, ?_, ?_⟩, ys ++ [x], ?_, ?_⟩⟩, h.ne, h.base⟩
  · exact k0.own hn1 (by decide) fun k hk => by
      obtain ⟨_, cs, T, fr, h1, h2⟩ := own_kf hn1 k hk
      exact ne hoc h1 (by rw [List.mem_singleton.1 h2]; decide)
  · refine hn2.kf k0 (by decide) fun k hk cs fr h1 => ?_
    rw [List.mem_singleton.1 hk] at h1
    exact kind_ne hoc h1 (by decide) rfl
  · rw [List.length_append, ndC_snoc _ _ hyl]
    exact ks.own hown' (by simp) fun k hk => by
      obtain ⟨_, cs, T, fr, h1, h2⟩ := own_kf hown' k hk
      exact ne hoc7 h1 (by rw [List.mem_singleton.1 h2]; decide)
  · rw [List.map_append]
    refine (ClR.kf hcl k7 (by decide) (by simp)).add hx7 |>.kf ks (by simp) fun k hk cs fr h1 => ?_
    rw [List.mem_singleton.1 hk] at h1
    exact kind_ne hoc7 h1 (by decide) rfl
end
/- The reference graph: View. -/
theorem VJ.begin (w : World) : VJ w ((w.alloc (.cells #[.slice none 0 0, .slice none 0 0] 45)).alloc (.cells #[.slice none 0 0, .slice none 0 0] 45)) w.heap.size (w.heap.size + 1) [] [] :=
  ⟨below_new (below_alloc0 w _) _, keep_alloc _ (heap_alloc_new w _), ⟨_, _, heap_two w _ _, ⟨[], ⟨rfl, .inl ⟨rfl, rfl⟩⟩, ⟨rfl, fun j hj => absurd hj (by simp)⟩⟩, [], ⟨rfl, .inl ⟨rfl, rfl⟩⟩, ⟨rfl, fun j hj => absurd hj (by simp)⟩⟩, by omega, Nat.le_refl _, Nat.le_succ _⟩
set_option maxHeartbeats 8000000 in
set_option maxRecDepth 100000 in
theorem rview_any {w : World} {g : Nat} {c : Cfg} {G : Gr} {tb tcap nb ncap : Nat} {hv nv : List Value} (h : Gx 50 85 w g c G tb tcap nb ncap hv nv) (hg : G.Good) :
    Calls Try.prog 16 #[.pointer (some ⟨g, 0, none⟩)] w fun e w' => ∃ rv nv, e = .returned (.agg #[rv, nv]) ∧ Vw w' w.heap.size rv nv G.vRoots G.vNodes ∧ Below w.heap.size w w' := by
  have h8 := hg.few
  have hm := hg.most
  have HG := Lib.hid h
  have HGD := Lib.hid hg
  clear h hg
  obtain ⟨n, hn⟩ : ∃ n, n = G.nod.length := ⟨_, rfl⟩
  obtain ⟨t, ht⟩ : ∃ t, t = G.thr.length := ⟨_, rfl⟩
  have HN := Lib.hid hn
  have HT := Lib.hid ht
  rw [← hn] at hm
  rw [← ht] at h8
  clear hn ht
  obtain ⟨i0, hi, hz0, hz1, hz2⟩ := info_parts info_vals
  replace hi := Lib.hid hi
  replace hz0 := Lib.hid hz0
  replace hz1 := Lib.hid hz1
  replace hz2 := Lib.hid hz2
  have HV0 := Lib.hid (VJ.begin w)
  go_enter Try.func16, Try.ntmps16
  go_wp2_with fail
  generalize hW : World.alloc (World.alloc w _) _ = W5 at *
  clear hW
  generalize w.heap.size + 1 = oc at *
  obtain ⟨rc, hrc⟩ : ∃ rc, rc = w.heap.size := ⟨_, rfl⟩
  have HRC := Lib.hid hrc
  rw [← hrc]
  clear hrc
  go_loopw [4] (fun i wr => ∃ k : Nat, k ≤ t ∧ i = .int .i64 k ∧ Hid (VJ w wr rc oc ((G.thr.take k).map fun h => h.held) [])) (fun i _ => t - (intOf i).toNat)
  case atStart => exact ⟨0, by omega, rfl, by rw [HRC.out]; exact HV0⟩
  case round =>
    clear HV0
    obtain ⟨k, hk, rfl, HV⟩ := hrel
    have hGr := HG.out.below HV.out.below
    obtain ⟨-, r10, -⟩ := hGr.head
    rw [← HT.out] at r10
    by_cases hlt : k < t
    · obtain ⟨-, t1⟩ := hGr.thread (t := k) (by rw [← HT.out]; exact hlt)
      have HO := Lib.hid (hGr.heldRow (t := k) (by rw [← HT.out]; exact hlt))
      have HK : Hid (k < G.thr.length) := Lib.hid (by rw [← HT.out]; exact hlt)
      clear hGr
      have H16 : Hid ((G.thr.getD k Th.none).held.length ≤ 16) := Lib.hid (HGD.out.th (k : Int)).1
      obtain ⟨l, hl⟩ : ∃ l, l = (G.thr.getD k Th.none).held := ⟨_, rfl⟩
      have HL := Lib.hid hl
      rw [← hl] at HO H16
      clear hl
      obtain ⟨hs, hhs⟩ : ∃ hs, hs = hv.getD k undef := ⟨_, rfl⟩
      rw [← hhs] at t1 HO
      clear hhs
      obtain ⟨rs, hrs⟩ : ∃ rs, rs = (G.thr.take k).map (fun h => h.held) := ⟨_, rfl⟩
      have HRS := Lib.hid hrs
      have hrl : rs.length ≤ 8 := by rw [hrs, List.length_map]; have := List.length_take_le k G.thr; omega
      rw [← hrs] at HV
      clear hrs
      obtain ⟨rv, nvv, hoc, hvw⟩ := HV.out.out
      obtain ⟨xs, hr1, hr2⟩ := hvw.roots
      have HOC := Lib.hid hoc
      have HVW := Lib.hid hvw
      have HR1 := Lib.hid hr1
      have HR2 := Lib.hid hr2
      have c0 : wr.cell? ⟨oc, 0, none⟩ = some rv := cell_of_row _ _ _ _ _ _ hoc
      clear hoc hvw hr1 hr2
      have i1 : (0 : Int) ≤ (k : Int) := by omega
      have i2 : (k : Int) < (t : Int) := by omega
      go_wp2_with (first
        | (at_builtin; refine wpList_copy rfl _ _ rfl rfl _ rfl _ l HO.out (by have := H16.out; omega) ?_; intro s5 w5 ho5 hb5; obtain ⟨p5, c5, rfl, -, -⟩ := own_slice ho5; have c05 := cell_keep hb5 c0)
        | (at_builtin; refine wpList_append_own _ rfl _ _ 42 rfl w.heap.size 53 i0 (.slice none 0 0) 1 24 Try.underlying42 hi.out hz0.out hz1.out hz2.out rfl (by decide) _ rs.length xs rfl ((pw_own_keep HR1.out hb5).alloc _) ⟨w5.heap.size, 0, none⟩ 1 1 [.slice p5 l.length c5] rfl rfl (cell_new _ _ _ _) (by simp [Value.oneCell']) (by unfold maxLen; omega) (by omega) (Nat.le_trans HV.out.below.size (Nat.le_trans hb5.size (by simp))) ?_; intro v' w7 hown hgrow _; obtain ⟨d', cap', rfl⟩ := own_pos (own_mono hown (Nat.zero_le _)) (by omega); have hk7 := HV.out.mid hb5 hgrow HR1.out; have k70 : w7.cell? ⟨oc, 0, none⟩ = some rv := cell_of_row _ _ _ _ _ _ (hk7.kept _ _ _ _ HOC.out (by decide) (by simp)); have f70 : w7.frozen? ⟨oc, 0, none⟩ = false := frozen_of_row _ _ _ _ _ (hk7.kept _ _ _ _ HOC.out (by decide) (by simp)); clear hk7))
      have HV8 := Lib.hid (HV.out.root HOC.out HVW.out HV.out.below.size ho5 hb5 hgrow HR1.out HR2.out hown)
      go_roundw
      case rel => exact ⟨k + 1, by omega, by go_num, Lib.hid (by rw [roots_step HK.out, ← HL.out, ← HRS.out]; exact HV8.out)⟩
      case measure => simp [intOf]; omega
    · obtain rfl : k = t := by omega
      have HV1 : Hid (VJ w wr rc oc G.vRoots []) := Lib.hid (by
        have := HV.out
        rw [HT.out, List.take_length] at this
        exact this)
      have HGR := Lib.hid hGr
      clear HV hGr hlt hk h8
      obtain ⟨j0, hj, hy0, hy1, hy2⟩ := info_parts info_node
      replace hj := Lib.hid hj
      replace hy0 := Lib.hid hy0
      replace hy1 := Lib.hid hy1
      replace hy2 := Lib.hid hy2
      go_wp2_with (go_at_call 39; refine (rreached_any HGR.out HGD.out).mono ?_; simp only [← HN.out]; rintro e w9 ⟨mb, rfl, hmet, hb9, hml⟩; have HM9 := Lib.hid hmet; have HV9 : Hid (VJ w w9 rc oc G.vRoots (G.seen G.met 0)) := Lib.hid (HV1.out.step hb9); have HML := Lib.hid hml; clear hmet hb9 hml)
      clear r10
      go_loopw [7] (fun i wq => ∃ k : Nat, k ≤ n ∧ i = .int .i64 k ∧ Hid (VJ w wq rc oc G.vRoots (G.seen G.met k)) ∧ Hid (wq.heap[mb]? = some (.cells (bvs G.met).toArray 4 (0, 0)))) (fun i _ => n - (intOf i).toNat)
      case atStart => exact ⟨0, by omega, rfl, HV9, HM9⟩
      case round =>
        clear HV9 HM9 HGR HV1
        obtain ⟨k, hk, rfl, HV, HMB⟩ := hrel
        by_cases hlt : k < n
        · have i1 : (0 : Int) ≤ (k : Int) := by omega
          have i2 : (k : Int) < (n : Int) := by omega
          obtain ⟨b, hb⟩ : ∃ b, b = G.met.getD k false := ⟨_, rfl⟩
          have m1 : wr.cell? ⟨mb, k, none⟩ = some (.bool b) := by
            rw [cell_of_row _ _ _ _ _ _ HMB.out, bvs_get (by rw [HML.out]; exact hlt), hb]
            have : k < G.met.length := by rw [HML.out]; exact hlt
            simp [List.getD_eq_getElem?_getD, this]
          cases b
          · have HE := Lib.hid (seen_no (G := G) hb.symm)
            clear hb
            go_wp2_with fail
            go_roundw
            case rel => exact ⟨k + 1, by omega, by go_num, by rw [HE.out]; exact HV, HMB⟩
            case measure => simp [intOf]; omega
          · have HE := Lib.hid (seen_yes (G := G) hb.symm)
            clear hb
            have hGr := HG.out.below HV.out.below
            have r11 := hGr.head.2.2
            rw [← HN.out] at r11
            obtain ⟨e1, ho1⟩ := hGr.nodeRow (s := k) (by rw [← HN.out]; exact hlt)
            obtain ⟨sv, hsv⟩ : ∃ sv, sv = nv.getD k undef := ⟨_, rfl⟩
            obtain ⟨l, hl⟩ : ∃ l, l = G.nod.getD k [] := ⟨_, rfl⟩
            rw [← hsv] at e1 ho1
            rw [← hl] at ho1 HE
            have HO := Lib.hid ho1
            have H127 : Hid (l.length ≤ 127) := Lib.hid (by rw [hl]; exact (HGD.out.nd (k : Int)).1)
            clear ho1 hl hsv hGr
            have hsl := seen_len G G.met k
            obtain ⟨ns, hns⟩ : ∃ ns, ns = G.seen G.met k := ⟨_, rfl⟩
            rw [← hns] at HV HE hsl
            clear hns
            obtain ⟨rv, nvv, hoc, hvw⟩ := HV.out.out
            obtain ⟨ys, hr1, hr2⟩ := hvw.nodes
            have HOC := Lib.hid hoc
            have HVW := Lib.hid hvw
            have HR1 := Lib.hid hr1
            have HR2 := Lib.hid hr2
            have c0 : wr.cell? ⟨oc, 1, none⟩ = some nvv := cell_of_row _ _ _ _ _ _ hoc
            clear hoc hvw hr1 hr2
            go_wp2_with (first
              | (at_builtin; refine wpList_copy rfl _ _ rfl rfl _ rfl _ l HO.out (by have := H127.out; omega) ?_; intro s5 w5 ho5 hb5; obtain ⟨p5, c5, rfl, -, -⟩ := own_slice ho5; have c05 := cell_keep hb5 c0)
              | (at_builtin; refine wpList_append_own _ rfl _ _ 43 rfl w.heap.size 55 j0 (.agg #[.int .i64 0, .slice none 0 0]) 2 32 Try.underlying43 hj.out hy0.out hy1.out hy2.out rfl (by decide) _ ns.length (ndC ns ys) rfl ((pw_own_keep HR1.out hb5).alloc _) ⟨w5.heap.size, 0, none⟩ 1 1 [.int .i64 (k : Int), .slice p5 l.length c5] rfl rfl (cell_new _ _ _ _) (by simp [Value.oneCell']) (by unfold maxLen; omega) (by omega) (Nat.le_trans HV.out.below.size (Nat.le_trans hb5.size (by simp))) ?_; intro v' w7 hown hgrow _; obtain ⟨d', cap', rfl⟩ := own_pos (own_mono hown (Nat.zero_le _)) (by omega); have hk7 := HV.out.mid hb5 hgrow HR1.out; have HK7 := Lib.hid hk7; have k70 : w7.cell? ⟨oc, 1, none⟩ = some nvv := cell_of_row _ _ _ _ _ _ (hk7.kept _ _ _ _ HOC.out (by decide) (by simp)); have f70 : w7.frozen? ⟨oc, 1, none⟩ = false := frozen_of_row _ _ _ _ _ (hk7.kept _ _ _ _ HOC.out (by decide) (by simp)); clear hk7))
            have HV8 := Lib.hid (HV.out.node (s := (k : Int)) HOC.out HVW.out HV.out.below.size ho5 hb5 hgrow HR1.out HR2.out hown)
            go_roundw
            case rel =>
              refine ⟨k + 1, by omega, by go_num, Lib.hid (by rw [HE.out]; exact HV8.out), Lib.hid ?_⟩
              have h7 := HK7.out.kept _ _ _ _ HMB.out (by decide) (by simp)
              have o7 := HK7.out.kept _ _ _ _ HOC.out (by decide) (by simp)
              exact (HV.out.set (w7 := w7) (k := 1)).kept _ _ _ _ h7 (by simp) fun hm => kind_ne h7 o7 (by decide) (List.mem_singleton.1 hm)
            case measure => simp [intOf]; omega
        · obtain rfl : k = n := by omega
          clear hk hlt
          obtain ⟨rv, nvv, hoc, hvw⟩ := HV.out.out
          obtain ⟨xs, hr1, -⟩ := hvw.roots
          obtain ⟨ys, hr2, -⟩ := hvw.nodes
          obtain ⟨p1, c1, rfl, -, -⟩ := own_slice hr1
          obtain ⟨p2, c2, rfl, -, -⟩ := own_slice hr2
          have HOC := Lib.hid hoc
          have HVW := Lib.hid hvw
          have HRES := Lib.hid HV.out.res
          have HRV := Lib.hid HV.out
          clear hoc hvw hr1 hr2
          go_wp2_with (first
            | (refine wpList_load_row rfl 45 _ rfl oc rfl 45 #[.slice p1 G.vRoots.length c1, .slice p2 (G.seen G.met k).length c2] (0, 0) _ HOC.out Try.underlying45 rfl (by kernel_rfl) ?_)
            | (refine wpList_store_row rfl 45 _ _ rfl rc #[.slice p1 G.vRoots.length c1, .slice p2 (G.seen G.met k).length c2] rfl rfl 45 _ HRES.out (by kernel_rfl) rfl (by simp [Value.oneCell']) ?_))
          refine bodyPost_ret (v := .agg #[.slice p1 G.vRoots.length c1, .slice p2 (G.seen G.met k).length c2]) (results_cell_row rfl _ _ rc 45 #[.slice p1 G.vRoots.length c1, .slice p2 (G.seen G.met k).length c2] _ _ rfl (heap_setRow_same _ HRES.out) Try.underlying45 rfl (by kernel_rfl)) rfl ?_
          exact ⟨_, _, rfl, by
              rw [show G.vNodes = G.seen G.met k by unfold Gr.vNodes; rw [HN.out]]
              refine HVW.out.keep fun q cs T fr hT hq => (heap_setRow_other _ _ _ _ fun e => ?_).trans hq
              subst e
              rcases hT with rfl | rfl | rfl <;> exact kind_ne hq HRES.out (by decide) rfl, below_setRow HRV.out.below HRV.out.base.1 _⟩
end Go.Proofs.Ytaefcmmjeloccaa
