/- Of nobody's graph nothing is told. -/
import Derived.Test.YtaefcmmjeloccaaGrR
import Derived.Test.YtaefcmmjeloccaaGrF
namespace Go.Proofs.Ytaefcmmjeloccaa
open Go.RowKit

/-- Nobody's graph: nil, or one that no call made. -/
def Nob (w : World) (p : Option Addr) : Prop := p = none ∨ ∃ g, p = some ⟨g, 0, none⟩ ∧ w.cell? ⟨g, 11, none⟩ = some (.slice none 0 0)
theorem nob_nil (w : World) : Nob w none := .inl rfl
theorem Nob.below {w w' : World} {p : Option Addr} (h : Nob w p) (hb : Below w.heap.size w w') : Nob w' p := by
  rcases h with h | ⟨g, h1, h2⟩
  · exact .inl h
  · exact .inr ⟨g, h1, cell_keep hb h2⟩
theorem gis_nob {w : World} {p : Option Addr} (h : Nob w p) : Calls Try.prog 23 #[.pointer p] w fun e w' => e = .returned (.bool false) ∧ w = w' := by
  rcases h with rfl | ⟨g, rfl, h2⟩
  · exact gis_nil w
  · exact gis_no g w h2
theorem gdo_nob {w : World} {p : Option Addr} (h : Nob w p) :
    Calls Try.prog 11 #[.pointer p, .agg #[.int .i64 0, .int .i64 0, .int .i64 0, .int .i64 0, .int .i64 0, .int .i64 0, .int .i64 0], .int .i64 0] w fun e w' => e = .returned (.agg #[.int .i64 9, .int .i64 0, .int .i64 0, .int .i64 0, .int .i64 0]) ∧ Below w.heap.size w w' := by
  refine gdo_none p ?_ ⟨0, 0, 0, 0, 0, 0, 0⟩ 0 w fun g hg => ?_
  · rcases h with h | ⟨g, h1, _⟩
    · exact .inl h
    · exact .inr ⟨g, h1, trivial⟩
  · rcases h with h | ⟨g', h1, h2⟩
    · rw [h] at hg; cases hg
    · rw [h1] at hg
      simp only [Option.some.injEq, Addr.mk.injEq, and_true] at hg
      rw [← hg]; exact h2
theorem gmade_nob {w : World} {p : Option Addr} (h : Nob w p) :
    Calls Try.prog 17 #[.pointer p] w fun e w' => e = .returned (.int .i64 0) ∧ w = w' := by
  have H := Lib.hid h
  clear h
  go_enter Try.func17, Try.ntmps17
  go_wp2_with (go_at_call 23; refine (gis_nob H.out).mono ?_; rintro e w4 ⟨rfl, rfl⟩)
  go_ret
  exact ⟨rfl, rfl⟩
theorem glive_nob {w : World} {p : Option Addr} (h : Nob w p) :
    Calls Try.prog 19 #[.pointer p] w fun e w' => e = .returned (.slice none 0 0) ∧ w = w' := by
  have H := Lib.hid h
  clear h
  go_enter Try.func19, Try.ntmps19
  go_wp2_with (go_at_call 23; refine (gis_nob H.out).mono ?_; rintro e w4 ⟨rfl, rfl⟩)
  go_ret
  exact ⟨rfl, rfl⟩
theorem gclone_nob {w : World} {p : Option Addr} (h : Nob w p) :
    Calls Try.prog 18 #[.pointer p] w fun e w' => e = .returned (.pointer none) ∧ w = w' := by
  have H := Lib.hid h
  clear h
  go_enter Try.func18, Try.ntmps18
  go_wp2_with (go_at_call 23; refine (gis_nob H.out).mono ?_; rintro e w4 ⟨rfl, rfl⟩)
  go_ret
  exact ⟨rfl, rfl⟩
set_option maxRecDepth 100000 in
theorem gview_nob {w : World} {p : Option Addr} (h : Nob w p) :
    Calls Try.prog 15 #[.pointer p] w fun e w' => e = .returned (.agg #[.slice none 0 0, .slice none 0 0]) ∧ Below w.heap.size w w' := by
  have H := Lib.hid (h.below (below_alloc0 w (.cells #[.slice none 0 0, .slice none 0 0] 45)))
  clear h
  go_enter Try.func15, Try.ntmps15
  go_wp2_with (first
    | (go_at_call 23; refine (gis_nob H.out).mono ?_; rintro e w4 ⟨rfl, rfl⟩)
    | (refine wpList_store_row rfl 45 _ _ rfl w.heap.size #[.slice none 0 0, .slice none 0 0] rfl rfl 45 _ (heap_alloc_new w _) (by kernel_rfl) rfl (by kernel_rfl) ?_))
  exact bodyPost_ret (v := .agg #[.slice none 0 0, .slice none 0 0]) (results_cell_row rfl _ _ w.heap.size 45 #[.slice none 0 0, .slice none 0 0] _ _ rfl (heap_setRow_same _ (heap_alloc_new w _)) Try.underlying45 rfl (by kernel_rfl)) rfl
    ⟨rfl, below_setRow (below_alloc0 w _) (Nat.le_refl _) _⟩
end Go.Proofs.Ytaefcmmjeloccaa
