/- The reference graph: Do, where an object is made. -/
import Derived.Test.YtaefcmmjeloccaaGsD
namespace Go.Proofs.Ytaefcmmjeloccaa
open Go.RowKit

theorem Gx.afterNodeR {GT TT : TypeId} {w : World} {g : Nat} {c : Cfg} {G : Gr} {tb tcap nb ncap : Nat} {hv nv : List Value} (h : Gx GT TT w g c G tb tcap nb ncap hv nv) (K : Kinds GT TT) {w1 w2 : World} {n m : Nat} (hb : Below w.heap.size w w1) (hg : w1.grownBy w2 (Value.slice (some ⟨nb, 0, none⟩) n m).ownBlock) :
    w2.cell? ⟨g, 11, none⟩ = some (.slice (some ⟨nb, 0, none⟩) G.nod.length ncap) ∧ w2.frozen? ⟨g, 11, none⟩ = false := by
  have hgl := heap_lt h.blk
  have he : w2.heap[g]? = w.heap[g]? := (hg.block g (Nat.lt_of_lt_of_le hgl hb.size) (fun e => (h.apart K).2.1 (by simpa [Value.ownBlock] using e))).trans (hb.block g hgl)
  exact ⟨(World.cell?_of_block he).trans h.head.2.2, (World.frozen?_of_block he).trans (frozen_of_row _ _ _ _ _ h.blk)⟩
theorem rkind_3 {G : Gr} {q : Int} {x : Stp} (hk : x.k = 3) (hn : Gr.numBad q x = false) (ha : G.after x = 0) : (0 ≤ x.n ∧ x.n ≤ 127) ∧ (G.held x.t).length < 16 ∧ G.kind q x 0 3 = (Gr.told (2, (G.nod.length : Int)), (G.addN x.n).hold x.t (2, (G.nod.length : Int))) := by
  have h1 : Gr.badN x 0 127 = false ∧ Gr.badCost q x = false := by unfold Gr.numBad at hn; rw [hk] at hn; simpa using hn
  have h2 : (if 16 ≤ (G.held x.t).length then (3 : Int) else 0) = 0 := by unfold Gr.after at ha; rw [show x.k.toNat = 3 by omega] at ha; exact ha
  have h3 : ¬ 16 ≤ (G.held x.t).length := fun h => by rw [if_pos h] at h2; exact absurd h2 (by decide)
  refine ⟨?_, by omega, ?_⟩
  · have := h1.1
    unfold Gr.badN at this
    simp only [Bool.or_eq_false_iff, decide_eq_false_iff_not] at this
    omega
  · show (if Gr.badCost q x || Gr.badN x 0 127 then _ else if 16 ≤ (G.held x.t).length then _ else if (0 : Int) ≠ 0 then _ else _) = _
    rw [h1.1, h1.2, if_neg (by decide), if_neg h3, if_neg (by decide)]
section
variable {w : World} {g : Nat} {c : Cfg} {G : Gr} {tb tcap nb ncap : Nat} {hv nv : List Value}
set_option maxHeartbeats 8000000 in
set_option maxRecDepth 100000 in
theorem rdo_3 (h : Gx 50 85 w g c G tb tcap nb ncap hv nv) (hg : G.Good) (x : Stp) (hc : x.check = 0) (hw : G.who x = 0) (hn : Gr.numBad c.q x = false) (ha : G.after x = 0) (hk : x.k = 3) :
    Calls Try.prog 35 #[.pointer (some ⟨g, 0, none⟩), .agg x.cells] w fun e w' => DoS w w' g c (G.out c.q x 0) (fpOf g tb nb hv nv) e := by
  have B2 := Lib.hid (below_new (below_alloc0 w (.cells x.cells 39)) (.cells zAns 36))
  have S2 := Lib.hid (keep_alloc (.cells zAns 36) (heap_alloc_new w (.cells x.cells 39)))
  have A2 := Lib.hid (heap_two w (.cells x.cells 39) (.cells zAns 36))
  have HG := Lib.hid h
  have HGD := Lib.hid hg
  have HFP := Lib.hid h.lt
  have HK := Lib.hid hk
  have s0 : ((w.alloc (.cells x.cells 39)).alloc (.cells zAns 36)).cell? ⟨w.heap.size, 0, none⟩ = some (.int .i64 x.k) := cell_of_row _ _ _ _ _ _ S2.out
  rw [hk] at s0
  obtain ⟨-, hrn, -⟩ := Stp.check_zero hc
  obtain ⟨ht0, hi0, hf0, hj0⟩ := rng_of hrn
  have hlt' := who_zero (by omega) hw
  obtain ⟨t, ht⟩ : ∃ t : Nat, x.t = (t : Int) := ⟨x.t.toNat, by omega⟩
  have hlt : t < G.thr.length := by omega
  have HT := Lib.hid ht
  have i1 : (0 : Int) ≤ (t : Int) := by omega
  have i2 : (t : Int) < (G.thr.length : Int) := by omega
  have s1 : ((w.alloc (.cells x.cells 39)).alloc (.cells zAns 36)).cell? ⟨w.heap.size, 1, none⟩ = some (.int .i64 x.t) := cell_of_row _ _ _ _ _ _ S2.out
  rw [ht] at s1
  have hG2 := h.below B2.out
  obtain ⟨-, q10, q11⟩ := hG2.head
  have s6 : ((w.alloc (.cells x.cells 39)).alloc (.cells zAns 36)).cell? ⟨w.heap.size, 6, none⟩ = some (.int .i64 x.n) := cell_of_row _ _ _ _ _ _ S2.out
  obtain ⟨⟨hn0, hn1⟩, hfew, hR⟩ := rkind_3 (q := c.q) hk hn ha
  obtain ⟨n, hxn⟩ : ∃ n : Nat, x.n = (n : Int) := ⟨x.n.toNat, by omega⟩
  rw [hxn] at s6 hR
  have HR : Hid (G.out c.q x 0 = (Gr.told (2, (G.nod.length : Int)), (G.addN (n : Int)).hold (t : Int) (2, (G.nod.length : Int)))) := Lib.hid (by rw [out_kind hc hw, show x.k.toNat = 3 by omega, hR, ht])
  have HN127 : Hid (n ≤ 127) := Lib.hid (by omega)
  have hmk := fun W => make_vals n HN127.out W
  have HMOST := Lib.hid hg.most
  have HL : Hid (((G.addN (n : Int)).held (t : Int)).length ≤ 1000) := Lib.hid (by rw [ht] at hfew; have e : (G.addN (n : Int)).held (t : Int) = G.held (t : Int) := rfl; rw [e]; omega)
  have HLT := Lib.hid hlt
  obtain ⟨i0, hi, hz0, hz1, hz2⟩ := info_parts info_vals
  replace hi := Lib.hid hi
  replace hz0 := Lib.hid hz0
  replace hz1 := Lib.hid hz1
  replace hz2 := Lib.hid hz2
  clear h hg hc hw hn ha hk hrn hlt' ht hG2 hn0 hn1 hfew hR hxn
  go_enter Try.func35, Try.ntmps35
  generalize hw4 : (w.alloc (.cells x.cells 39)).alloc (.cells zAns 36) = w4 at *
  have HG4 := Lib.hid (HG.out.below B2.out)
  have q11A := fun o => cell_keep (below_alloc0 w4 o) q11
  have q11B := fun o o' => cell_keep (below_alloc0 _ o') (q11A o)
  have s6A := fun o => cell_keep (below_alloc0 w4 o) s6
  go_wp2_with fail
  go_cut [5] from 35 (fun z wc => z = undef ∧ Hid (GTo 50 85 w4 wc g c (G.addN (n : Int)) (fpOf g tb nb hv nv)))
  case first =>
    go_region_law (refine wp_append_new _ _ _ _ rfl 53 i0 (.slice none 0 0) 1 24 Try.underlying42 hi.out hz0.out hz1.out hz2.out rfl (by decide) _ G.nod.length _ rfl (pw_own_keep HG4.out.nod (by (repeat (first | exact (Below.refl _ _) | exact Below.refl _ _ | refine Below.drew ?_ | refine below_new ?_ _ | refine below_drewN ?_ _ | refine Below.setCell ?_ (by first | exact Nat.le_refl _ | (simp only [World.size_alloc]; omega)) _)))) ⟨w4.heap.size + 1, 0, none⟩ 1 1 [.slice (some ⟨w4.heap.size, 0, none⟩) n n] rfl rfl (cell_new_at _ _ _ _ _ (size_one w4 _)) (by simp [Value.oneCell']) (by have := HMOST.out; unfold maxLen; omega) (by have := HMOST.out; omega) ?_; intro v' w7 hown' hgrow hor hne; obtain ⟨k7, f7⟩ := HG4.out.afterNodeR kinds_r (by (repeat (first | exact (Below.refl _ _) | exact Below.refl _ _ | refine Below.drew ?_ | refine below_new ?_ _ | refine below_drewN ?_ _ | refine Below.setCell ?_ (by first | exact Nat.le_refl _ | (simp only [World.size_alloc]; omega)) _))) hgrow; obtain ⟨d', cap', rfl⟩ := own_pos hown' (by omega))
    all_goals
      go_wp2_with fail
      go_meet
      exact ⟨rfl, Lib.hid (HG4.out.addNode kinds_r n (v := .slice (some ⟨w4.heap.size, 0, none⟩) n n) (by (repeat (first | exact (Below.refl _ _) | exact Below.refl _ _ | refine Below.drew ?_ | refine below_new ?_ _ | refine below_drewN ?_ _ | refine Below.setCell ?_ (by first | exact Nat.le_refl _ | (simp only [World.size_alloc]; omega)) _))) (own_made (w := w4) n (by (repeat (first | exact (Below.refl _ _) | exact Below.refl _ _ | refine Below.drew ?_ | refine below_new ?_ _ | refine below_drewN ?_ _ | refine Below.setCell ?_ (by first | exact Nat.le_refl _ | (simp only [World.size_alloc]; omega)) _))) HN127.out) (fun k hk => Nat.le_of_eq (by simpa [Value.ownBlock] using hk)) hgrow hown' (or_of hor (Nat.le_refl _)))⟩
  case rest =>
    obtain ⟨rfl, HN⟩ := hcut
    obtain ⟨tb', tcap', nb', ncap', hv', nv', gx, fr, fs⟩ := HN.out
    have hsl : w.heap.size < w4.heap.size := by have := heap_lt A2.out; omega
    have hbk : wc.heap[w.heap.size]? = w4.heap[w.heap.size]? := fr.block _ hsl (fun hm => by have := HFP.out _ hm; omega)
    have A5 := Lib.hid (fr.keep HFP.out (by omega) A2.out)
    have z1 := (World.cell?_of_block (a := ⟨w.heap.size, 1, none⟩) hbk).trans s1
    have z0 := (World.cell?_of_block (a := ⟨w.heap.size, 0, none⟩) hbk).trans s0
    obtain ⟨-, q10', q11'⟩ := gx.head
    replace q10' : wc.cell? ⟨g, 10, none⟩ = some (.slice (some ⟨tb', 0, none⟩) G.thr.length tcap') := q10'
    obtain ⟨m, hm⟩ : ∃ m, m = (G.addN (n : Int)).nod.length := ⟨_, rfl⟩
    rw [← hm] at q11'
    have e1 : IntKind.i64.wrap ((m : Int) - 1) = (G.nod.length : Int) := by
      have h1 : m = G.nod.length + 1 := by rw [hm]; simp [Gr.addN]
      have := HMOST.out
      rw [IntWalk.i64_in _ (by omega)]; omega
    have GX := Lib.hid gx
    have FR := Lib.hid fr
    have FS := Lib.hid fs
    clear s0 s1 s6 q10 q11 q11A q11B s6A hmk gx fr fs hm hbk
    go_wp2_with fail
    refine region_tail 10 (by kernel_rfl) (by kernel_rfl) ?_
    simp only [List.take_succ_cons, List.take_zero, List.drop_succ_cons, List.drop_zero]
    repeat still_step
    refine wpStill_nil ?_
    go_wp2_with (first
      | (go_at_call 53; refine (rhold_any (GX.out.below (Below.refl _ _).drew) t HLT.out (2, (G.nod.length : Int)) HL.out).mono ?_; rintro e w7 ⟨rfl, h7⟩; have A7 := Lib.hid ((h7.frm.block _ (heap_lt A5.out) (fun hm => (FS.out _ hm).elim (fun h => by have := HFP.out _ h; omega) (fun h => by have := heap_lt A2.out; omega))).trans A5.out); have H7 := Lib.hid h7; clear h7)
      | (refine wpList_store_row rfl 36 _ _ rfl (w.heap.size + 1) (Gr.told (2, (G.nod.length : Int))).cells rfl rfl 36 _ A7.out (by kernel_rfl) rfl (by kernel_rfl) ?_))
    exact bodyPost_ret (v := .agg (Gr.told (2, (G.nod.length : Int))).cells) (results_cell_row rfl _ _ (w.heap.size + 1) 36 (Gr.told (2, (G.nod.length : Int))).cells _ _ rfl (heap_setRow_same _ A7.out) Try.underlying36 rfl (by kernel_rfl)) rfl
      (by
        rw [HR.out]
        exact ⟨rfl, (GTo.comp FR.out FS.out (Below.refl _ _).drew H7.out).wrap B2.out HFP.out (K := w.heap.size + 1) (by omega) (heap_lt A2.out) (Frm.setRow (fp := [w.heap.size + 1]) _ (List.mem_singleton.2 rfl) _)⟩)
end
end Go.Proofs.Ytaefcmmjeloccaa
