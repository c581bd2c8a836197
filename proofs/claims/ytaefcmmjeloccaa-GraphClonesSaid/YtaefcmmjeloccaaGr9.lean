/- The graph's push, write. -/
import Derived.Test.YtaefcmmjeloccaaGr8
namespace Go.Proofs.Ytaefcmmjeloccaa
open Go.RowKit

/-- What a step comes to. -/
def DoR (w w' : World) (g : Nat) (c : Cfg) (r : Ans × Gr) (fp : List Nat) (e : Ending) : Prop :=
  e = .returned (.agg r.1.cells) ∧ GTo 60 72 w w' g c r.2 fp
theorem GTo.frm {GT TT : TypeId} {w w' : World} {g : Nat} {c : Cfg} {G' : Gr} {fp : List Nat} (h : GTo GT TT w w' g c G' fp) : Frm fp w w' := by
  obtain ⟨_, _, _, _, _, _, _, fr, _⟩ := h
  exact fr
theorem GTo.same {GT TT : TypeId} {w w' : World} {g : Nat} {c : Cfg} {G : Gr} {tb tcap nb ncap : Nat} {hv nv : List Value} (h : Gx GT TT w g c G tb tcap nb ncap hv nv) (hb : Below w.heap.size w w') : GTo GT TT w w' g c G (fpOf g tb nb hv nv) :=
  ⟨tb, tcap, nb, ncap, hv, nv, h.below hb, Frm.of_below _ hb, fresh_sub fun _ h => h⟩
/-- A block that is not the structure's stands. -/
theorem Frm.keep {fp : List Nat} {w wm w6 : World} (h : Frm fp wm w6) (hfp : ∀ k ∈ fp, k < w.heap.size) {K : Nat} (hK : w.heap.size ≤ K) {o : Obj} (ho : wm.heap[K]? = some o) : w6.heap[K]? = some o :=
  (h.block K (heap_lt ho) (fun hm => by have := hfp K hm; omega)).trans ho
section
variable {w : World} {g : Nat} {c : Cfg} {G : Gr} {tb tcap nb ncap : Nat} {hv nv : List Value}
def pushes (k : Int) : Prop := k = 4 ∨ k = 5 ∨ k = 6 ∨ k = 7 ∨ k = 9
theorem gvalue_any (h : Gx 60 72 w g c G tb tcap nb ncap hv nv) (hg : G.Good) (x : Stp) (hk : pushes x.k) (t : Nat) (ht : x.t = (t : Int)) (hlt : t < G.thr.length) (hi : 0 ≤ x.i) (hf : 0 ≤ x.f) :
    Calls Try.prog 46 #[.pointer (some ⟨g, 0, none⟩), .agg x.cells] w fun e w' => ValR (G.value x x.k.toNat) e ∧ Below w.heap.size w w' := by
  rcases hk with hk | hk | hk | hk | hk
  · rw [show x.k.toNat = 4 by omega]; exact gvalue_4 x hk w
  · rw [show x.k.toNat = 5 by omega]; exact gvalue_5 x hk w
  · rw [show x.k.toNat = 6 by omega]; exact gvalue_6 x hk w
  · rw [show x.k.toNat = 7 by omega]; exact gvalue_7 h x hk t ht hlt hi
  · rw [show x.k.toNat = 9 by omega]; exact gvalue_9 h hg x hk t ht hlt hi hf
theorem ghold_full (h : Gx 60 72 w g c G tb tcap nb ncap hv nv) (t : Nat) (hlt : t < G.thr.length) (v : Vl) (hf : 16 ≤ (G.held (t : Int)).length) :
    Calls Try.prog 45 #[.pointer (some ⟨tb, t * 2 + 1, none⟩), .agg #[.int .i64 v.1, .int .i64 v.2]] w fun e w' => e = .returned (.bool false) ∧ Below w.heap.size w w' :=
  (ghold_any h t hlt v).mono fun e w' h1 => by
    rcases h1 with ⟨_, h2⟩ | ⟨h2, _⟩
    · exact h2
    · omega
theorem ghold_room (h : Gx 60 72 w g c G tb tcap nb ncap hv nv) (t : Nat) (hlt : t < G.thr.length) (v : Vl) (hf : (G.held (t : Int)).length < 16) :
    Calls Try.prog 45 #[.pointer (some ⟨tb, t * 2 + 1, none⟩), .agg #[.int .i64 v.1, .int .i64 v.2]] w fun e w' => e = .returned (.bool true) ∧ GTo 60 72 w w' g c (G.hold (t : Int) v) (fpOf g tb nb hv nv) :=
  (ghold_any h t hlt v).mono fun e w' h1 => by
    rcases h1 with ⟨h2, _⟩ | ⟨_, h2⟩
    · omega
    · exact h2
def pushR (G : Gr) (t : Int) (v : Vl × Int) : Ans × Gr := if v.2 ≠ 0 then (Gr.err v.2, G) else G.push t v.1
set_option maxHeartbeats 4000000 in
set_option maxRecDepth 100000 in
theorem gpush_any (h : Gx 60 72 w g c G tb tcap nb ncap hv nv) (hg : G.Good) (x : Stp) (hk : pushes x.k) (t : Nat) (ht : x.t = (t : Int)) (hlt : t < G.thr.length) (hi : 0 ≤ x.i) (hf : 0 ≤ x.f) :
    Calls Try.prog 28 #[.pointer (some ⟨g, 0, none⟩), .agg x.cells] w fun e w' => DoR w w' g c (pushR G (t : Int) (G.value x x.k.toNat)) (fpOf g tb nb hv nv) e := by
  have B2 : Hid (∀ a, Below w.heap.size w ((w.alloc (.cells x.cells 39)).alloc a)) := Lib.hid fun a => below_new (below_alloc0 w _) a
  have S2 : Hid (∀ a, ((w.alloc (.cells x.cells 39)).alloc a).heap[w.heap.size]? = some (.cells x.cells 39 (0, 0))) := Lib.hid fun a => keep_alloc a (heap_alloc_new w _)
  have A2 : Hid (((w.alloc (.cells x.cells 39)).alloc (.cells #[.int .i64 0, .int .i64 0, .int .i64 0, .int .i64 0, .int .i64 0] 36)).heap[w.heap.size + 1]? = some (.cells #[.int .i64 0, .int .i64 0, .int .i64 0, .int .i64 0, .int .i64 0] 36 (0, 0))) := Lib.hid (heap_two w _ _)
  have HV := Lib.hid fun (W : World) (hb : Below w.heap.size w W) => gvalue_any (h.below hb) hg x hk t ht hlt hi hf
  obtain ⟨v, hv'⟩ : ∃ v, v = G.value x x.k.toNat := ⟨_, rfl⟩
  rw [← hv'] at HV ⊢
  have HG := Lib.hid h
  have HT := Lib.hid ht
  clear h hg hk ht hi hf hv'
  obtain ⟨u, q⟩ := v
  by_cases hq : q = 0
  · subst hq
    have i1 : (0 : Int) ≤ (t : Int) := by omega
    have i2 : (t : Int) < (G.thr.length : Int) := by omega
    go_enter Try.func28, Try.ntmps28
    go_wp2_with (first
      | (refine wpList_load_row rfl 39 _ rfl w.heap.size rfl 39 x.cells (0, 0) _ (S2.out _) Try.underlying39 rfl (by kernel_rfl) ?_)
      | (go_at_call 46; refine (HV.out _ (B2.out _)).mono ?_; rintro e w5 ⟨rfl, hb5⟩; have B5 : Hid (Below w.heap.size w w5) := Lib.hid (below_next (B2.out _) hb5); have A5 := Lib.hid (keep hb5 A2.out); have S5 := Lib.hid (keep hb5 (S2.out _)); clear hb5))
    have e0 : (w5.alloc (.cells #[.int .i64 u.1, .int .i64 u.2] 57)).heap[w5.heap.size]? = some (.cells #[.int .i64 u.1, .int .i64 u.2] 57 (0, 0)) := heap_alloc_new _ _
    have HK5 : Hid (w.heap.size + 1 < w5.heap.size) := Lib.hid (heap_lt A5.out)
    have A6 := Lib.hid (keep_alloc (.cells #[.int .i64 u.1, .int .i64 u.2] 57) A5.out)
    have S6 := Lib.hid (keep_alloc (.cells #[.int .i64 u.1, .int .i64 u.2] 57) S5.out)
    have B6 := Lib.hid (below_new B5.out (.cells #[.int .i64 u.1, .int .i64 u.2] 57))
    have E6 := Lib.hid e0
    clear e0
    generalize hw6 : w5.alloc (.cells #[.int .i64 u.1, .int .i64 u.2] 57) = W6 at *
    clear hw6
    have hG6 := HG.out.below B6.out
    obtain ⟨-, q10, -⟩ := hG6.head
    have s1 : W6.cell? ⟨w.heap.size, 1, none⟩ = some (.int .i64 x.t) := cell_of_row _ _ _ _ _ _ S6.out
    rw [HT.out] at s1
    have u0 : W6.cell? ⟨w5.heap.size, 0, none⟩ = some (.int .i64 u.1) := cell_of_row _ _ _ _ _ _ E6.out
    have u1 : W6.cell? ⟨w5.heap.size, 1, none⟩ = some (.int .i64 u.2) := cell_of_row _ _ _ _ _ _ E6.out
    have HG6 := Lib.hid hG6
    clear hG6
    refine region_tail 9 (by kernel_rfl) (by kernel_rfl) ?_
    simp only [List.take_succ_cons, List.take_zero, List.drop_succ_cons, List.drop_zero]
    repeat still_step
    refine wpStill_nil ?_
    by_cases hf : 16 ≤ (G.held (t : Int)).length
    · have hr : pushR G (t : Int) (u, 0) = (Gr.err 3, G) := by unfold pushR; rw [if_neg (by simp)]; unfold Gr.push; rw [if_pos hf]
      have HR := Lib.hid hr
      have HF := Lib.hid hf
      clear hf hr
      go_wp2_with (first
        | (go_at_call 45; refine (ghold_full (HG6.out.below (Below.refl _ _).drew) t hlt u HF.out).mono ?_; rintro e w7 ⟨rfl, hb7⟩; have B7 : Hid (Below w.heap.size w w7) := Lib.hid (below_next B6.out.drew hb7); have A7 := Lib.hid (keep hb7 A6.out); clear hb7)
        | (go_at_call 24; refine (gfail_any 3 _).mono ?_; rintro e w8 ⟨rfl, hb8⟩; have B8 : Hid (Below w.heap.size w w8) := Lib.hid (below_next B7.out hb8); have A8 := Lib.hid (keep hb8 A7.out); clear hb8)
        | (refine wpList_store_row rfl 36 _ _ rfl (w.heap.size + 1) (Gr.err 3).cells rfl rfl 36 _ A8.out (by kernel_rfl) rfl (by kernel_rfl) ?_))
      exact bodyPost_ret (v := .agg (Gr.err 3).cells) (results_cell_row rfl _ _ (w.heap.size + 1) 36 (Gr.err 3).cells _ _ rfl (heap_setRow_same _ A8.out) Try.underlying36 rfl (by kernel_rfl)) rfl
        (by rw [HR.out]; exact ⟨rfl, GTo.same HG.out (below_setRow (g := w.heap.size + 1) B8.out (by omega) _)⟩)
    · have hr : pushR G (t : Int) (u, 0) = (Gr.told u, G.hold (t : Int) u) := by unfold pushR; rw [if_neg (by simp)]; unfold Gr.push; rw [if_neg hf]
      have HR := Lib.hid hr
      have HF : Hid ((G.held (t : Int)).length < 16) := Lib.hid (by omega)
      have HFP := Lib.hid HG.out.lt
      clear hf hr
      go_wp2_with (first
        | (go_at_call 45; refine (ghold_room (HG6.out.below (Below.refl _ _).drew) t hlt u HF.out).mono ?_; rintro e w7 ⟨rfl, h7⟩; have A7 := Lib.hid (h7.frm.keep HFP.out (by omega) A6.out); have E7 := Lib.hid (h7.frm.keep HFP.out (by have := HK5.out; omega) E6.out); have H7 := Lib.hid h7; clear h7; have z0 : w7.cell? ⟨w5.heap.size, 0, none⟩ = some (.int .i64 u.1) := cell_of_row _ _ _ _ _ _ E7.out; have z1 : w7.cell? ⟨w5.heap.size, 1, none⟩ = some (.int .i64 u.2) := cell_of_row _ _ _ _ _ _ E7.out)
        | (go_at_call 30; refine (gtold_any u _).mono ?_; rintro e w8 ⟨rfl, hb8⟩; have A8 := Lib.hid (keep hb8 A7.out); have B8 := Lib.hid hb8; clear hb8)
        | (refine wpList_store_row rfl 36 _ _ rfl (w.heap.size + 1) (Gr.told u).cells rfl rfl 36 _ A8.out (by kernel_rfl) rfl (by kernel_rfl) ?_))
      exact bodyPost_ret (v := .agg (Gr.told u).cells) (results_cell_row rfl _ _ (w.heap.size + 1) 36 (Gr.told u).cells _ _ rfl (heap_setRow_same _ A8.out) Try.underlying36 rfl (by kernel_rfl)) rfl
        (by rw [HR.out]; exact ⟨rfl, H7.out.wrap B6.out.drew HFP.out (K := w.heap.size + 1) (by omega) (heap_lt A6.out) ((Frm.of_below [w.heap.size + 1] B8.out).trans (Frm.setRow (fp := [w.heap.size + 1]) _ (List.mem_singleton.2 rfl) _) (fresh_sub fun _ h => h))⟩)
  · have dq : (q != 0) = true := by simpa using hq
    have hr : pushR G (t : Int) (u, q) = (Gr.err q, G) := by unfold pushR; rw [if_pos hq]
    rw [hr]
    clear hr hq
    go_enter Try.func28, Try.ntmps28
    go_wp2_with (first
      | (refine wpList_load_row rfl 39 _ rfl w.heap.size rfl 39 x.cells (0, 0) _ (S2.out _) Try.underlying39 rfl (by kernel_rfl) ?_)
      | (go_at_call 46; refine (HV.out _ (B2.out _)).mono ?_; rintro e w5 ⟨rfl, hb5⟩; have B5 : Hid (Below w.heap.size w w5) := Lib.hid (below_next (B2.out _) hb5); have A5 := Lib.hid (keep hb5 A2.out); clear hb5)
      | (go_at_call 24; refine (gfail_any q _).mono ?_; rintro e w6 ⟨rfl, hb6⟩; have B6 : Hid (Below w.heap.size w w6) := Lib.hid (below_next (below_new B5.out _) hb6); have A6 := Lib.hid (keep hb6 (keep_alloc _ A5.out)); clear hb6)
      | (refine wpList_store_row rfl 36 _ _ rfl (w.heap.size + 1) (Gr.err q).cells rfl rfl 36 _ A6.out (by kernel_rfl) rfl (by kernel_rfl) ?_))
    exact bodyPost_ret (v := .agg (Gr.err q).cells) (results_cell_row rfl _ _ (w.heap.size + 1) 36 (Gr.err q).cells _ _ rfl (heap_setRow_same _ A6.out) Try.underlying36 rfl (by kernel_rfl)) rfl
      ⟨rfl, GTo.same HG.out (below_setRow (g := w.heap.size + 1) B6.out (by omega) _)⟩
end
end Go.Proofs.Ytaefcmmjeloccaa
