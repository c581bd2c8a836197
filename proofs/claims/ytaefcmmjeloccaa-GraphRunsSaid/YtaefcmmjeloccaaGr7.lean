/- The graph's held values: hold, pop. -/
import Derived.Test.YtaefcmmjeloccaaGr4
import Derived.Test.YtaefcmmjeloccaaGr6
import Derived.Deep.RegionLaw
namespace Go.Proofs.Ytaefcmmjeloccaa
open Go.RowKit

/-- A call's turning, seen from before it, and its result's variable written behind it. -/
theorem GTo.wrap {GT TT : TypeId} {w wm w1 w2 : World} {g : Nat} {c : Cfg} {G' : Gr} {fp : List Nat} (hB : Below w.heap.size w wm) (h : GTo GT TT wm w1 g c G' fp) (hfp : ∀ k ∈ fp, k < w.heap.size) {K : Nat} (hK : w.heap.size ≤ K) (hK2 : K < wm.heap.size) (hf : Frm [K] w1 w2) : GTo GT TT w w2 g c G' fp := by
  obtain ⟨tb, tcap, nb, ncap, hv, nv, gx, fr, fs⟩ := h
  have hs := hB.size
  refine ⟨tb, tcap, nb, ncap, hv, nv, gx.keep fun k hk => hf.block k (gx.lt k hk) ?_, ?_, ?_⟩
  · rcases fs k hk with h1 | h1
    · have := hfp k h1
      simp only [List.mem_singleton]; omega
    · simp only [List.mem_singleton]; omega
  · refine ⟨hf.os.trans (fr.os.trans hB.os), hf.tape.trans (fr.tape.trans hB.tape), hf.output.trans (fr.output.trans hB.output), Nat.le_trans hs (Nat.le_trans fr.size hf.size), fun k hk hn => ?_⟩
    have h1 : k < wm.heap.size := Nat.lt_of_lt_of_le hk hs
    rw [hf.block k (Nat.lt_of_lt_of_le h1 fr.size) (by simp only [List.mem_singleton]; omega), fr.block k h1 hn, hB.block k hk]
  · intro k hk
    rcases fs k hk with h1 | h1
    · exact .inl h1
    · exact .inr (by omega)
theorem cell_new_at (w : World) (cs : List Value) (t : TypeId) (fr : Nat × Nat) (k : Nat) (hk : k = w.heap.size) : ∀ j u, cs[j]? = some u → (w.alloc (.cells cs.toArray t fr)).cell? ((⟨k, 0, none⟩ : Addr).add j) = some u := by
  subst hk; exact cell_new w cs t fr
theorem size_one (w : World) (o : Obj) : w.heap.size + 1 = (w.alloc o).heap.size := by show _ = (w.heap.push o).size; simp
theorem own_pos {w : World} {e : TypeId} {size n : Nat} {v : Value} {xs : List Value} (h : Own w e size n v xs) (hn : 0 < n) : ∃ d cap, v = .slice (some ⟨d, 0, none⟩) n cap := by
  rcases h.2 with ⟨_, h0⟩ | ⟨g, cap, cur, hv, _⟩
  · omega
  · exact ⟨g, cap, hv⟩
theorem kinds_g : Kinds 60 72 := ⟨by decide, by decide, by decide, by decide, by decide⟩
theorem info_val : (Try.prog.info? 57).map (fun i => (i.zero, i.size, i.bytes)) = some (some (.agg #[.int .i64 0, .int .i64 0]), 2, 16) := by kernel_rfl
/-- The new slice is in the same block, or in one that is new. -/
theorem blk_or {w : World} {v v' : Value} {m : Nat} (h : v'.ownBlock = v.ownBlock ∨ v'.ownBlock = some m) (hs : w.heap.size ≤ m) : ∀ k, v'.ownBlock = some k → v.ownBlock = some k ∨ w.heap.size ≤ k := by
  intro k hk
  rcases h with h | h
  · exact .inl (h ▸ hk)
  · rw [h] at hk
    have : m = k := by simpa using hk
    exact .inr (by omega)
theorem grown_after {w w1 w2 : World} {row : Option Nat} (hb : Below w.heap.size w w1) (h : w1.grownBy w2 row) : w.grownBy w2 row :=
  ⟨h.os.trans hb.os, h.tape.trans hb.tape, h.output.trans hb.output, Nat.le_trans hb.size h.size, fun k hk hn => (h.block k (Nat.lt_of_lt_of_le hk hb.size) hn).trans (hb.block k hk)⟩
theorem gfull_own (b o n : Nat) (s : Value) (xs : List Value) (w : World) (h : w.cell? ⟨b, o, none⟩ = some s) (hown : Own w 57 2 n s xs) :
    Calls Try.prog 44 #[.pointer (some ⟨b, o, none⟩)] w fun e w' => e = .returned (.bool (decide (16 ≤ n))) ∧ w = w' := by
  obtain ⟨p, cap, rfl, _, _⟩ := own_slice hown
  exact gfull_any b o p n cap w h
def HoldR (w w' : World) (g : Nat) (c : Cfg) (G : Gr) (t : Nat) (v : Vl) (fp : List Nat) (e : Ending) : Prop :=
  (16 ≤ (G.held (t : Int)).length ∧ e = .returned (.bool false) ∧ Below w.heap.size w w') ∨
  ((G.held (t : Int)).length < 16 ∧ e = .returned (.bool true) ∧ GTo 60 72 w w' g c (G.hold (t : Int) v) fp)
section
variable {w : World} {g : Nat} {c : Cfg} {G : Gr} {tb tcap nb ncap : Nat} {hv nv : List Value}
/-- A thread's cell where its held row has grown. -/
theorem Gx.afterHeld (h : Gx 60 72 w g c G tb tcap nb ncap hv nv) {t : Nat} (hlt : t < G.thr.length) {w1 w2 : World} {s : Value} (hs : s = hv.getD t undef) (hb : Below w.heap.size w w1) (hg : w1.grownBy w2 s.ownBlock) :
    w2.cell? ⟨tb, t * 2 + 1, none⟩ = some s ∧ w2.frozen? ⟨tb, t * 2 + 1, none⟩ = false := by
  have hvl : t < hv.length := by rw [h.hl]; exact hlt
  have he : w2.heap[tb]? = w.heap[tb]? := (hg.block tb (Nat.lt_of_lt_of_le (own_blk h.thr tb rfl) hb.size) (fun e => ((h.apart kinds_g).2.2.2 tb (mem_hv hvl (by rw [← hs]; exact e.symm))).2.1 rfl)).trans (hb.block tb (own_blk h.thr tb rfl))
  exact ⟨(World.cell?_of_block he).trans (by rw [hs]; exact (h.thread hlt).2), (World.frozen?_of_block he).trans (h.thr.frozenAt _)⟩
set_option maxHeartbeats 2000000 in
set_option maxRecDepth 100000 in
theorem ghold_any (h : Gx 60 72 w g c G tb tcap nb ncap hv nv) (t : Nat) (hlt : t < G.thr.length) (v : Vl) :
    Calls Try.prog 45 #[.pointer (some ⟨tb, t * 2 + 1, none⟩), .agg #[.int .i64 v.1, .int .i64 v.2]] w fun e w' => HoldR w w' g c G t v (fpOf g tb nb hv nv) e := by
  have B0 := Lib.hid (below_alloc0 w (.cells #[.int .i64 v.1, .int .i64 v.2] 57))
  obtain ⟨h0, hown⟩ := h.hold hlt (Below.refl _ _)
  have c0 := cell_keep B0.out h0
  have s0 : (w.alloc (.cells #[.int .i64 v.1, .int .i64 v.2] 57)).cell? ⟨w.heap.size, 0, none⟩ = some (.int .i64 v.1) := cell_of_row _ _ _ _ _ _ (heap_alloc_new w _)
  have s1 : (w.alloc (.cells #[.int .i64 v.1, .int .i64 v.2] 57)).cell? ⟨w.heap.size, 1, none⟩ = some (.int .i64 v.2) := cell_of_row _ _ _ _ _ _ (heap_alloc_new w _)
  have HG := Lib.hid h
  have HL : Hid ((G.thr.getD t Th.none).held = G.held (t : Int)) := Lib.hid rfl
  clear h h0
  obtain ⟨s, hs⟩ : ∃ s, s = hv.getD t undef := ⟨_, rfl⟩
  have HS := Lib.hid hs
  rw [← hs] at c0 hown
  clear hs
  rw [HL.out] at hown
  obtain ⟨n, hn⟩ : ∃ n, n = (G.held (t : Int)).length := ⟨_, rfl⟩
  rw [← hn] at hown
  have HN := Lib.hid hn
  clear hn
  have HO := Lib.hid hown
  clear hown
  by_cases hf : 16 ≤ n
  · have df : decide (16 ≤ n) = true := by simpa using hf
    go_enter Try.func45, Try.ntmps45
    go_wp2_with (go_at_call 44; refine (gfull_own _ _ _ _ _ _ c0 (pw_own_keep HO.out B0.out)).mono ?_; rintro e w5 ⟨rfl, rfl⟩)
    go_ret
    exact .inl ⟨by rw [← HN.out]; exact hf, rfl, B0.out⟩
  · have df : decide (16 ≤ n) = false := by simpa using hf
    have HF : Hid (n < 16) := Lib.hid (by omega)
    clear hf
    obtain ⟨i0, hi, hz0, hz1, hz2⟩ := info_parts info_val
    have hi := Lib.hid hi
    have hz0 := Lib.hid hz0
    have hz1 := Lib.hid hz1
    have hz2 := Lib.hid hz2
    go_enter Try.func45, Try.ntmps45
    go_wp2_with (go_at_call 44; refine (gfull_own _ _ _ _ _ _ c0 (pw_own_keep HO.out B0.out)).mono ?_; rintro e w5 ⟨rfl, rfl⟩)
    have ON := Lib.hid (pw_own_keep HO.out B0.out.drew)
    have c0A := fun o => cell_keep (below_alloc0 _ o) c0
    go_region_law (refine wp_append_new _ _ _ _ rfl 57 i0 (.agg #[.int .i64 0, .int .i64 0]) 2 16 Try.underlying53 hi.out hz0.out hz1.out hz2.out rfl (by decide) _ n _ rfl (ON.out.alloc _) ⟨w.heap.size + 1, 0, none⟩ 1 1 (vlc v) rfl rfl (cell_new_at _ _ _ _ _ (size_one w _)) (by simp [vlc, Value.oneCell']) (by have := HF.out; unfold maxLen; omega) (by have := HF.out; omega) ?_; intro v' w7 hown' hgrow hor hne; obtain ⟨k7, f7⟩ := HG.out.afterHeld hlt HS.out (by (repeat (first | exact B0.out | exact Below.refl _ _ | refine Below.drew ?_ | refine below_new ?_ _ | refine below_drewN ?_ _ | refine Below.setCell ?_ (by first | exact Nat.le_refl _ | (simp only [World.size_alloc]; omega)) _))) hgrow; obtain ⟨d', cap', rfl⟩ := own_pos hown' (by omega))
    all_goals
      go_wp2_with fail
      go_ret
      refine .inr ⟨by rw [← HN.out]; exact HF.out, rfl, ?_⟩
      rw [← vls_snoc] at hown'
      exact HG.out.putHeld kinds_g hlt (by rw [← HS.out]; exact grown_after (by (repeat (first | exact B0.out | exact Below.refl _ _ | refine Below.drew ?_ | refine below_new ?_ _ | refine below_drewN ?_ _ | refine Below.setCell ?_ (by first | exact Nat.le_refl _ | (simp only [World.size_alloc]; omega)) _))) hgrow) hown' (by rw [← HS.out]; exact blk_or hor (Below.size (B := w.heap.size) (by (repeat (first | exact B0.out | exact Below.refl _ _ | refine Below.drew ?_ | refine below_new ?_ _ | refine below_drewN ?_ _ | refine Below.setCell ?_ (by first | exact Nat.le_refl _ | (simp only [World.size_alloc]; omega)) _)))))
def PopR (w w' : World) (g : Nat) (c : Cfg) (G : Gr) (t : Nat) (fp : List Nat) (e : Ending) : Prop :=
  ((G.held (t : Int)).length = 0 ∧ e = .returned (.tuple #[.agg #[.int .i64 0, .int .i64 0], .bool false]) ∧ Below w.heap.size w w') ∨
  (0 < (G.held (t : Int)).length ∧ e = .returned (.tuple #[.agg #[.int .i64 (Gr.at? (G.held (t : Int)) (((G.held (t : Int)).length : Int) - 1)).1, .int .i64 (Gr.at? (G.held (t : Int)) (((G.held (t : Int)).length : Int) - 1)).2], .bool true]) ∧ GTo 60 72 w w' g c (G.drop1 (t : Int)) fp ∧ w'.heap[g]? = w.heap[g]?)
theorem vls_pop {vs : List Vl} {m : Nat} (h : vs.length = m + 1) : vls vs = vls vs.dropLast ++ vlc (vs.getD m (0, 0)) := by
  have e : vs = vs.dropLast ++ [vs.getD m (0, 0)] := by
    have hne : vs ≠ [] := by intro h0; rw [h0] at h; simp at h
    conv => lhs; rw [← List.dropLast_concat_getLast hne]
    congr 2
    rw [List.getLast_eq_getElem, List.getD_eq_getElem?_getD, List.getElem?_eq_getElem (by omega)]
    simp [h]
  conv => lhs; rw [e]
  exact vls_snoc _ _
set_option maxHeartbeats 2000000 in
set_option maxRecDepth 100000 in
theorem gpop_any (h : Gx 60 72 w g c G tb tcap nb ncap hv nv) (t : Nat) (hlt : t < G.thr.length) (hg : G.Good) :
    Calls Try.prog 29 #[.pointer (some ⟨tb, t * 2 + 1, none⟩)] w fun e w' => PopR w w' g c G t (fpOf g tb nb hv nv) e := by
  obtain ⟨h0, hown⟩ := h.hold hlt (Below.refl _ _)
  have HG := Lib.hid h
  have HL : Hid ((G.thr.getD t Th.none).held = G.held (t : Int)) := Lib.hid rfl
  have h16 : (G.held (t : Int)).length ≤ 16 := by
    refine hg.roots (G.thr.getD t Th.none) ?_
    rw [List.getD_eq_getElem?_getD, List.getElem?_eq_getElem hlt]
    exact List.getElem_mem _
  clear h hg
  obtain ⟨s, hs⟩ : ∃ s, s = hv.getD t undef := ⟨_, rfl⟩
  have HS := Lib.hid hs
  rw [← hs] at h0 hown
  clear hs
  rw [HL.out] at hown
  obtain ⟨n, hn⟩ : ∃ n, n = (G.held (t : Int)).length := ⟨_, rfl⟩
  rw [← hn] at hown h16
  have HN := Lib.hid hn
  clear hn
  have B0 := Lib.hid (below_alloc0 w (.cells #[.int .i64 0, .int .i64 0] 57))
  obtain ⟨vs, hvs⟩ : ∃ vs, vs = G.held (t : Int) := ⟨_, rfl⟩
  rw [← hvs] at hown
  have HVS := Lib.hid hvs
  clear hvs
  have HO := Lib.hid hown
  obtain ⟨p, cap, rfl, hcap, hpb⟩ := own_slice hown
  clear hown
  have hA := fun o => cell_keep (below_alloc0 w o) h0
  have OA := Lib.hid (pw_own_keep HO.out B0.out)
  have c0 := hA (.cells #[.int .i64 0, .int .i64 0] 57)
  cases n with
  | zero =>
    go_enter Try.func29, Try.ntmps29
    go_wp2_with (go_at_call 47; refine (gget_any _ _ _ _ vs _ _ c0 OA.out).mono ?_; rintro e w5 ⟨rfl, rfl⟩; rw [show getv vs (-1) = ((0, 0), false) from rfl])
    exact bodyPost_ret (results_row_tmp rfl _ _ w.heap.size 57 (vcs (0, 0)) _ _ rfl (keep_alloc _ (keep_alloc _ (heap_alloc_new w _))) Try.underlying57 rfl (by kernel_rfl)) rfl
      (.inl ⟨HN.out.symm, rfl, by (repeat (first | exact B0.out | exact Below.refl _ _ | refine Below.drew ?_ | refine below_new ?_ _ | refine below_drewN ?_ _ | refine Below.setCell ?_ (by first | exact Nat.le_refl _ | (simp only [World.size_alloc]; omega)) _))⟩)
  | succ m =>
    obtain ⟨d, rfl⟩ := hpb (by omega)
    obtain ⟨n, hn⟩ : ∃ n, n = m + 1 := ⟨_, rfl⟩
    rw [← hn] at h0 h16 HN HS HO hA OA c0
    have e1 : IntKind.i64.wrap ((n : Int) - 1) = (m : Int) := by rw [IntWalk.i64_in _ (by omega)]; omega
    have i1 : (0 : Int) ≤ (m : Int) := by omega
    have i2 : (m : Int) ≤ (cap : Int) := by omega
    have i3 : (m : Int) < (n : Int) := by omega
    have hl : vs.length = m + 1 := by rw [HVS.out, ← HN.out, hn]
    obtain ⟨u, hu⟩ : ∃ u, u = vs.getD m (0, 0) := ⟨_, rfl⟩
    have HU := Lib.hid hu
    have hgv : getv vs (m : Int) = (u, true) := by rw [hu]; unfold getv; rw [if_pos ⟨by omega, by omega⟩]; rfl
    have HGV := Lib.hid hgv
    have HNM := Lib.hid hn
    have HVL := Lib.hid hl
    clear hgv hn hpb hcap hl hu
    go_enter Try.func29, Try.ntmps29
    go_wp2_with (go_at_call 47; refine (gget_any _ _ _ _ vs _ _ c0 OA.out).mono ?_; rintro e w5 ⟨rfl, rfl⟩; rw [HGV.out])
    generalize hW3 : World.alloc (World.alloc (w.alloc _) _) _ = W3
    have B3 : Hid (Below w.heap.size w W3) := Lib.hid (by rw [← hW3]; (repeat (first | exact B0.out | exact Below.refl _ _ | refine Below.drew ?_ | refine below_new ?_ _ | refine below_drewN ?_ _ | refine Below.setCell ?_ (by first | exact Nat.le_refl _ | (simp only [World.size_alloc]; omega)) _)))
    have A3 : Hid (W3.heap[w.heap.size]? = some (.cells #[.int .i64 0, .int .i64 0] 57 (0, 0))) := Lib.hid (by rw [← hW3]; exact keep_alloc _ (keep_alloc _ (heap_alloc_new w _)))
    have C3 : Hid (W3.heap[w.heap.size + 1 + 1]? = some (.cells #[.int .i64 u.1, .int .i64 u.2] 57 (0, 0))) := Lib.hid (by rw [← hW3]; exact th_at2 w _ _ _)
    have S3 : Hid (w.heap.size < W3.heap.size) := Lib.hid (heap_lt A3.out)
    clear hW3
    obtain ⟨k3, f3⟩ := HG.out.afterHeld hlt HS.out B3.out (grown_refl W3 _)
    have htl : tb < w.heap.size := own_blk HG.out.thr tb rfl
    have A4 : Hid (∀ x, (W3.setCell ⟨tb, t * 2 + 1, none⟩ x).heap[w.heap.size]? = some (.cells #[.int .i64 0, .int .i64 0] 57 (0, 0))) := Lib.hid fun x => (heap_setCell_other _ _ _ _ (by simp only; omega)).trans A3.out
    have C4 : Hid (∀ x, (W3.setCell ⟨tb, t * 2 + 1, none⟩ x).heap[w.heap.size + 1 + 1]? = some (.cells #[.int .i64 u.1, .int .i64 u.2] 57 (0, 0))) := Lib.hid fun x => (heap_setCell_other _ _ _ _ (by simp only; omega)).trans C3.out
    have c4 : ∀ x, (W3.setCell ⟨tb, t * 2 + 1, none⟩ x).cell? ⟨w.heap.size + 1 + 1, 0, none⟩ = some (.int .i64 u.1) := fun x => cell_of_row _ _ _ _ _ _ (C4.out x)
    have c5 : ∀ x, (W3.setCell ⟨tb, t * 2 + 1, none⟩ x).cell? ⟨w.heap.size + 1 + 1, 1, none⟩ = some (.int .i64 u.2) := fun x => cell_of_row _ _ _ _ _ _ (C4.out x)
    clear htl
    refine region_tail 14 (by kernel_rfl) (by kernel_rfl) ?_
    simp only [List.take_succ_cons, List.take_zero, List.drop_succ_cons, List.drop_zero]
    repeat still_step
    refine wpStill_nil ?_
    go_wp2_with (refine wpList_store_row rfl 57 _ _ rfl w.heap.size (vcs u) rfl rfl 57 _ (A4.out _) (by kernel_rfl) rfl (by kernel_rfl) ?_)
    refine bodyPost_ret (results_row_tmp rfl _ _ w.heap.size 57 (vcs u) _ _ rfl (heap_setRow_same _ (A4.out _)) Try.underlying57 rfl (by kernel_rfl)) rfl
      (.inr ⟨by rw [← HN.out, HNM.out]; omega, ?_, ?_, ?_⟩)
    · have e5 : Gr.at? (G.held (t : Int)) (((G.held (t : Int)).length : Int) - 1) = u := by
        rw [← HN.out, ← HVS.out, HU.out]
        show vs.getD ((n : Int) - 1).toNat (0, 0) = _
        rw [show ((n : Int) - 1).toNat = m by have := HNM.out; omega]
      rw [e5]; rfl
    · have hG3 := HG.out.below B3.out
      have O3 : Own W3 57 2 n (.slice (some ⟨d, 0, none⟩) n cap) (vls vs) := pw_own_keep HO.out B3.out
      have O4 : Own W3 57 2 m (.slice (some ⟨d, 0, none⟩) m cap) (vls vs.dropLast) := by
        have hn := HNM.out
        subst hn
        rw [vls_pop HVL.out] at O3
        exact ownsRow_pop (by rw [vls_len, List.length_dropLast, HVL.out]; rfl) O3
      have hp := hG3.putHeld kinds_g hlt (w1 := W3) (vs := vs.dropLast) (grown_refl _ _) O4 (fun k hk => .inl (by rw [← HS.out]; exact hk))
      rw [show G.drop1 (t : Int) = G.setT (t : Int) ⟨(G.th (t : Int)).live, vs.dropLast⟩ by rw [HVS.out]; rfl]
      exact hp.wrap B3.out HG.out.lt (Nat.le_refl _) S3.out ((Frm.of_below [w.heap.size] (Below.refl _ _).drew).trans (Frm.setRow (fp := [w.heap.size]) _ (List.mem_singleton.2 rfl) _) (fresh_sub fun _ h => h))
    · have hgl := heap_lt HG.out.blk
      exact (heap_setRow_other _ _ _ _ (by omega)).trans ((heap_setCell_other _ _ _ _ (HG.out.apart kinds_g).1).trans (B3.out.block g hgl))
end
end Go.Proofs.Ytaefcmmjeloccaa
