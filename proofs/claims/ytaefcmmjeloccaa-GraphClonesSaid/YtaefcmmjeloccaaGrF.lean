/- The graph's Do: start, stop, pop; errors; nobody's. -/
import Derived.Test.YtaefcmmjeloccaaGrE
namespace Go.Proofs.Ytaefcmmjeloccaa
open Go.RowKit

section
variable {w : World} {g : Nat} {c : Cfg} {G : Gr} {tb tcap nb ncap : Nat} {hv nv : List Value}
theorem gpop_none (h : Gx 60 72 w g c G tb tcap nb ncap hv nv) (t : Nat) (hlt : t < G.thr.length) (hg : G.Good) (h0 : (G.held (t : Int)).length = 0) :
    Calls Try.prog 29 #[.pointer (some ⟨tb, t * 2 + 1, none⟩)] w fun e w' => e = .returned (.tuple #[.agg #[.int .i64 0, .int .i64 0], .bool false]) ∧ Below w.heap.size w w' :=
  (gpop_any h t hlt hg).mono fun e w' h1 => by
    rcases h1 with ⟨_, h2⟩ | ⟨h2, _⟩
    · exact h2
    · omega
theorem gpop_one (h : Gx 60 72 w g c G tb tcap nb ncap hv nv) (t : Nat) (hlt : t < G.thr.length) (hg : G.Good) (h0 : 0 < (G.held (t : Int)).length) (u : Vl) (hu : u = Gr.at? (G.held (t : Int)) (((G.held (t : Int)).length : Int) - 1)) :
    Calls Try.prog 29 #[.pointer (some ⟨tb, t * 2 + 1, none⟩)] w fun e w' => e = .returned (.tuple #[.agg #[.int .i64 u.1, .int .i64 u.2], .bool true]) ∧ GTo 60 72 w w' g c (G.drop1 (t : Int)) (fpOf g tb nb hv nv) ∧ w'.heap[g]? = w.heap[g]? :=
  (gpop_any h t hlt hg).mono fun e w' h1 => by
    rcases h1 with ⟨h2, _⟩ | ⟨_, h2⟩
    · omega
    · rw [hu]; exact h2
set_option maxHeartbeats 8000000 in
set_option maxRecDepth 100000 in
theorem gdo_bad (h : Gx 60 72 w g c G tb tcap nb ncap hv nv) (hg : G.Good) (x : Stp) (no : Int) (hc : x.check ≠ 0) :
    Calls Try.prog 11 #[.pointer (some ⟨g, 0, none⟩), .agg x.cells, .int .i64 no] w fun e w' => DoR w w' g c (G.out c.q x no) (fpOf g tb nb hv nv) e := by
  have B2 := Lib.hid (below_new (below_alloc0 w (.cells x.cells 39)) (.cells zAns 36))
  have S2 := Lib.hid (keep_alloc (.cells zAns 36) (heap_alloc_new w (.cells x.cells 39)))
  have A2 := Lib.hid (heap_two w (.cells x.cells 39) (.cells zAns 36))
  have HG := Lib.hid h
  have HPOS := Lib.hid hg.some
  obtain ⟨-, -, q11⟩ := (h.below B2.out).head
  have HOUT : Hid (G.out c.q x no = (Gr.err x.check, G)) := Lib.hid (by unfold Gr.out; rw [if_pos hc])
  obtain ⟨k, hk⟩ : ∃ k, k = x.check := ⟨_, rfl⟩
  have HK := Lib.hid hk
  have dk : (k != 0) = true := by rw [hk]; simpa using hc
  clear h hg hc hk
  go_enter Try.func11, Try.ntmps11
  go_wp2_with (first
    | (refine gate_guard (by rfl) ?_; refine wpList_load_row rfl 39 _ rfl w.heap.size rfl 39 x.cells (0, 0) _ ?_ Try.underlying39 rfl (by kernel_rfl) ?_; exact Hid.out (by assumption))
    | (go_at_call 23; refine (gis_yes g _ _ _ HPOS.out _ q11).mono ?_; rintro e w4 ⟨rfl, rfl⟩)
    | (go_at_call 25; refine (ccheck_any x _).mono ?_; rw [← HK.out]; rintro e w5 ⟨rfl, hb5⟩; have B5 : Hid (Below w.heap.size w w5) := Lib.hid (below_next B2.out hb5); have A5 := Lib.hid (keep hb5 A2.out); clear hb5)
    | (go_at_call 24; refine (gfail_any k _).mono ?_; rintro e w8 ⟨rfl, hb8⟩; have B8 : Hid (Below w.heap.size w w8) := Lib.hid (below_next B5.out hb8); have A8 := Lib.hid (keep hb8 A5.out); clear hb8)
    | (refine wpList_store_row rfl 36 _ _ rfl (w.heap.size + 1) (Gr.err k).cells rfl rfl 36 _ A8.out (by kernel_rfl) rfl (by kernel_rfl) ?_))
  exact bodyPost_ret (v := .agg (Gr.err k).cells) (results_cell_row rfl _ _ (w.heap.size + 1) 36 (Gr.err k).cells _ _ rfl (heap_setRow_same _ A8.out) Try.underlying36 rfl (by kernel_rfl)) rfl
    (by rw [HOUT.out, ← HK.out]; exact ⟨rfl, GTo.same HG.out (below_setRow (g := w.heap.size + 1) B8.out (by omega) _)⟩)
set_option maxHeartbeats 8000000 in
set_option maxRecDepth 100000 in
theorem gdo_who (h : Gx 60 72 w g c G tb tcap nb ncap hv nv) (hg : G.Good) (x : Stp) (no : Int) (hc : x.check = 0) (hw : G.who x ≠ 0) :
    Calls Try.prog 11 #[.pointer (some ⟨g, 0, none⟩), .agg x.cells, .int .i64 no] w fun e w' => DoR w w' g c (G.out c.q x no) (fpOf g tb nb hv nv) e := by
  have B2 := Lib.hid (below_new (below_alloc0 w (.cells x.cells 39)) (.cells zAns 36))
  have S2 := Lib.hid (keep_alloc (.cells zAns 36) (heap_alloc_new w (.cells x.cells 39)))
  have A2 := Lib.hid (heap_two w (.cells x.cells 39) (.cells zAns 36))
  have HG := Lib.hid h
  have HPOS := Lib.hid hg.some
  obtain ⟨-, -, q11⟩ := (h.below B2.out).head
  have HOUT : Hid (G.out c.q x no = (Gr.err (G.who x), G)) := Lib.hid (by unfold Gr.out; rw [if_neg (by omega), if_pos hw])
  obtain ⟨-, hrn, -⟩ := Stp.check_zero hc
  obtain ⟨ht0, -, -, -⟩ := rng_of hrn
  obtain ⟨k, hk⟩ : ∃ k, k = G.who x := ⟨_, rfl⟩
  have HK := Lib.hid hk
  have HC := Lib.hid hc
  have dk : (k != 0) = true := by rw [hk]; simpa using hw
  clear h hg hc hk hw hrn
  go_enter Try.func11, Try.ntmps11
  go_wp2_with (first
    | (refine gate_guard (by rfl) ?_; refine wpList_load_row rfl 39 _ rfl w.heap.size rfl 39 x.cells (0, 0) _ ?_ Try.underlying39 rfl (by kernel_rfl) ?_; exact Hid.out (by assumption))
    | (go_at_call 23; refine (gis_yes g _ _ _ HPOS.out _ q11).mono ?_; rintro e w4 ⟨rfl, rfl⟩)
    | (go_at_call 25; refine (ccheck_any x _).mono ?_; rw [HC.out]; rintro e w5 ⟨rfl, hb5⟩; have B5 : Hid (Below w.heap.size w w5) := Lib.hid (below_next B2.out hb5); have A5 := Lib.hid (keep hb5 A2.out); have S5 := Lib.hid (keep hb5 S2.out); clear hb5 S2)
    | (go_at_call 26; refine (gwho_any (HG.out.below B5.out) x ht0).mono ?_; rw [← HK.out]; rintro e w6 ⟨rfl, hb6⟩; have B6 : Hid (Below w.heap.size w w6) := Lib.hid (below_next B5.out hb6); have A6 := Lib.hid (keep hb6 A5.out); clear hb6)
    | (go_at_call 24; refine (gfail_any k _).mono ?_; rintro e w8 ⟨rfl, hb8⟩; have B8 : Hid (Below w.heap.size w w8) := Lib.hid (below_next B6.out hb8); have A8 := Lib.hid (keep hb8 A6.out); clear hb8)
    | (refine wpList_store_row rfl 36 _ _ rfl (w.heap.size + 1) (Gr.err k).cells rfl rfl 36 _ A8.out (by kernel_rfl) rfl (by kernel_rfl) ?_))
  exact bodyPost_ret (v := .agg (Gr.err k).cells) (results_cell_row rfl _ _ (w.heap.size + 1) 36 (Gr.err k).cells _ _ rfl (heap_setRow_same _ A8.out) Try.underlying36 rfl (by kernel_rfl)) rfl
    (by rw [HOUT.out, ← HK.out]; exact ⟨rfl, GTo.same HG.out (below_setRow (g := w.heap.size + 1) B8.out (by omega) _)⟩)
end
/-- Of nobody's graph each step has one error. -/
theorem gdo_none (p : Option Addr) (hp : p = none ∨ ∃ g, p = some ⟨g, 0, none⟩ ∧ True) (x : Stp) (no : Int) (w : World) (hz : ∀ g, p = some ⟨g, 0, none⟩ → w.cell? ⟨g, 11, none⟩ = some (.slice none 0 0)) :
    Calls Try.prog 11 #[.pointer p, .agg x.cells, .int .i64 no] w fun e w' => e = .returned (.agg (Gr.err 9).cells) ∧ Below w.heap.size w w' := by
  have B2 := Lib.hid (below_new (below_alloc0 w (.cells x.cells 39)) (.cells zAns 36))
  have A2 := Lib.hid (heap_two w (.cells x.cells 39) (.cells zAns 36))
  have CT : Hid (∀ W, Below w.heap.size w W → Calls Try.prog 23 #[.pointer p] W fun e w' => e = .returned (.bool false) ∧ W = w') := Lib.hid fun W hb => by
    rcases hp with rfl | ⟨g, rfl, _⟩
    · exact gis_nil W
    · exact gis_no g W (cell_keep hb (hz g rfl))
  clear hp hz
  go_enter Try.func11, Try.ntmps11
  go_wp2_with (first
    | (go_at_call 23; refine (CT.out _ B2.out).mono ?_; rintro e w4 ⟨rfl, rfl⟩)
    | (go_at_call 24; refine (gfail_any 9 _).mono ?_; rintro e w8 ⟨rfl, hb8⟩; have B8 : Hid (Below w.heap.size w w8) := Lib.hid (below_next B2.out hb8); have A8 := Lib.hid (keep hb8 A2.out); clear hb8)
    | (refine wpList_store_row rfl 36 _ _ rfl (w.heap.size + 1) (Gr.err 9).cells rfl rfl 36 _ A8.out (by kernel_rfl) rfl (by kernel_rfl) ?_))
  exact bodyPost_ret (v := .agg (Gr.err 9).cells) (results_cell_row rfl _ _ (w.heap.size + 1) 36 (Gr.err 9).cells _ _ rfl (heap_setRow_same _ A8.out) Try.underlying36 rfl (by kernel_rfl)) rfl
    ⟨rfl, below_setRow (g := w.heap.size + 1) B8.out (by omega) _⟩
end Go.Proofs.Ytaefcmmjeloccaa
