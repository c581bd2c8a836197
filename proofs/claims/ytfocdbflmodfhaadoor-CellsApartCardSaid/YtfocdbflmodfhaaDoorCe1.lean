/- Cells: what is asked of them. -/
import Derived.Test.YtfocdbflmodfhaaDoorCe0
namespace Go.Proofs.YtfocdbflmodfhaaDoor
open Go.RowKit

section
variable {w : World} {b : Bl} {C : Cs}
theorem cis_any (h : CX w b C) :
    Calls Tryd.prog 34 #[.pointer (some ⟨b.c, 0, none⟩)] w fun e w' => e = .returned (.bool true) ∧ w = w' := by
  obtain ⟨-, c1, -⟩ := h.cells
  clear h
  go_enter Tryd.func34, Tryd.ntmps34
  go_wp2_with fail
  go_ret
  exact ⟨rfl, rfl⟩
theorem pgkind_any (h : CX w b C) (p : Int) :
    Calls Tryd.prog 52 #[.agg #[.pointer (some ⟨b.t, 0, none⟩)], .int .i64 p] w fun e w' => e = .returned (.int .i64 (kindL C.ks p)) ∧ Below w.heap.size w w' := by
  have H := Lib.hid (h.tx.below (below_alloc0 w (.cells #[.pointer (some ⟨b.t, 0, none⟩)] 47)))
  clear h
  go_enter Tryd.func52, Tryd.ntmps52
  go_wp2_with (go_at_call 83; refine (pkind_any H.out p).mono ?_; rintro e w' ⟨rfl, rfl⟩)
  go_ret
  exact ⟨rfl, below_alloc0 _ _⟩
theorem pgfree_any (h : CX w b C) :
    Calls Tryd.prog 69 #[.agg #[.pointer (some ⟨b.t, 0, none⟩)]] w fun e w' => e = .returned (.int .i64 (countL C.ks)) ∧ Below w.heap.size w w' := by
  have B0 := Lib.hid (below_alloc0 w (.cells #[.pointer (some ⟨b.t, 0, none⟩)] 47))
  have H := Lib.hid (h.tx.below B0.out)
  clear h
  go_enter Tryd.func69, Tryd.ntmps69
  go_wp2_with (go_at_call 93; refine (pcount_any H.out).mono ?_; rintro e w' ⟨rfl, hb⟩)
  go_ret
  exact ⟨rfl, below_next B0.out hb⟩
theorem ckind_any (h : CX w b C) (p : Int) :
    Calls Tryd.prog 16 #[.pointer (some ⟨b.c, 0, none⟩), .int .i64 p] w fun e w' => e = .returned (.int .i64 (kindL C.ks p)) ∧ Below w.heap.size w w' := by
  have H := Lib.hid h
  obtain ⟨c0, c1, -⟩ := h.cells
  clear h
  go_enter Tryd.func16, Tryd.ntmps16
  go_wp2_with (first
    | (go_at_call 34; refine (cis_any H.out).mono ?_; rintro e w' ⟨rfl, rfl⟩)
    | (go_at_call 52; refine (pgkind_any H.out p).mono ?_; rintro e w' ⟨rfl, hb⟩))
  go_ret
  exact ⟨rfl, hb⟩
theorem csmall_any (h : CX w b C) (p : Int) :
    Calls Tryd.prog 49 #[.pointer (some ⟨b.c, 0, none⟩), .int .i64 p] w fun e w' => e = .returned (.bool (decide (0 < sizeI (kindL C.ks p)))) ∧ Below w.heap.size w w' := by
  have H := Lib.hid h
  clear h
  go_enter Tryd.func49, Tryd.ntmps49
  go_wp2_with (first
    | (go_at_call 16; refine (ckind_any H.out p).mono ?_; rintro e w' ⟨rfl, hb⟩)
    | (go_at_call 41; refine (size_any _ _).mono ?_; rintro e w' ⟨rfl, rfl⟩))
  go_ret
  exact ⟨rfl, hb⟩
/-- How many free cells are left. -/
def leftL (C : Cs) (p : Int) : Int := if 0 < sizeI (kindL C.ks p) then (C.ch.getD p.toNat (0, 0)).2 else 0
theorem small_in {ks : List Int} {p : Int} (h : 0 < sizeI (kindL ks p)) : 0 ≤ p ∧ p < ks.length := by
  apply Decidable.byContradiction; intro hc
  rw [kindL_out (by omega)] at h
  simp [sizeI] at h
set_option maxHeartbeats 1000000 in
theorem cleft_any (h : CX w b C) (p : Int) :
    Calls Tryd.prog 27 #[.pointer (some ⟨b.c, 0, none⟩), .int .i64 p] w fun e w' => e = .returned (.int .i64 (leftL C p)) ∧ Below w.heap.size w w' := by
  have H := Lib.hid h
  by_cases hs : 0 < sizeI (kindL C.ks p)
  · have hin := small_in hs
    obtain ⟨q, rfl⟩ := Int.eq_ofNat_of_zero_le hin.1
    have hq : q < 64 := by have := h.tx.le; omega
    have HL := Lib.hid (show leftL C q = (C.ch.getD q (0, 0)).2 by unfold leftL; rw [if_pos hs, Int.toNat_natCast])
    have HB := Lib.hid (show decide (0 < sizeI (kindL C.ks q)) = true by simpa using hs)
    have HQ := Lib.hid hq
    have hq1 : (q : Int) < 64 := by omega
    clear h hs hin hq
    go_enter Tryd.func27, Tryd.ntmps27
    go_wp2_with (go_at_call 49; refine (csmall_any H.out q).mono ?_; rw [HB.out]; rintro e w1 ⟨rfl, hb⟩; obtain ⟨-, c1, -⟩ := (H.out.below hb).chain HQ.out; rw [← HL.out] at c1; have HB1 := Lib.hid hb; clear hb)
    go_ret
    exact ⟨rfl, HB1.out⟩
  · have HL := Lib.hid (show leftL C p = 0 by unfold leftL; rw [if_neg hs])
    have HB := Lib.hid (show decide (0 < sizeI (kindL C.ks p)) = false by simpa using hs)
    clear h hs
    go_enter Tryd.func27, Tryd.ntmps27
    go_wp2_with (go_at_call 49; refine (csmall_any H.out p).mono ?_; rw [HB.out]; rintro e w1 ⟨rfl, hb⟩; have HB1 := Lib.hid hb; clear hb)
    go_ret
    exact ⟨ret_int HL.out.symm, HB1.out⟩
theorem cfree_any (h : CX w b C) :
    Calls Tryd.prog 28 #[.pointer (some ⟨b.c, 0, none⟩)] w fun e w' => e = .returned (.int .i64 (countL C.ks)) ∧ Below w.heap.size w w' := by
  have H := Lib.hid h
  obtain ⟨c0, c1, -⟩ := h.cells
  clear h
  go_enter Tryd.func28, Tryd.ntmps28
  go_wp2_with (first
    | (go_at_call 34; refine (cis_any H.out).mono ?_; rintro e w' ⟨rfl, rfl⟩)
    | (go_at_call 69; refine (pgfree_any H.out).mono ?_; rintro e w' ⟨rfl, hb⟩))
  go_ret
  exact ⟨rfl, hb⟩
theorem call_any (h : CX w b C) (ht : Tab64 w) (hg : 0 < w.heap.size) :
    Calls Tryd.prog 14 #[.pointer (some ⟨b.c, 0, none⟩)] w fun e w' => RowE w.heap.size (bitsI C.ws) e w' ∧ Below w.heap.size w w' := by
  have H := Lib.hid h
  have HT := Lib.hid ht
  have HG := Lib.hid hg
  obtain ⟨-, c1, c3⟩ := h.cells
  clear h ht hg
  go_enter Tryd.func14, Tryd.ntmps14
  go_wp2_with (first
    | (go_at_call 34; refine (cis_any H.out).mono ?_; rintro e w' ⟨rfl, rfl⟩)
    | (go_at_call 51; refine (all_any H.out.sx HT.out HG.out).mono ?_; rintro e w' ⟨⟨v, rfl, hr⟩, hb⟩; have HR := Lib.hid hr; have HB := Lib.hid hb; clear hr hb))
  go_ret
  exact ⟨⟨_, rfl, HR.out⟩, HB.out⟩
theorem cload_any (h : CX w b C) (a : Int) :
    Calls Tryd.prog 22 #[.pointer (some ⟨b.c, 0, none⟩), .int .i64 a] w fun e w' => e = .returned (.tuple #[.int .i64 (loadV C.xs a), .bool (fitB C.xs.length a 1)]) ∧ w = w' := by
  have H := Lib.hid h
  obtain ⟨-, c1, -⟩ := h.cells
  clear h
  go_enter Tryd.func22, Tryd.ntmps22
  go_wp2_with (first
    | (go_at_call 34; refine (cis_any H.out).mono ?_; rintro e w' ⟨rfl, rfl⟩)
    | (go_at_call 66; refine (load_any H.out.mx a).mono ?_; rintro e w' ⟨rfl, rfl⟩))
  go_ret2
  exact ⟨rfl, rfl⟩
theorem cisa_any (h : CX w b C) (a : Int) :
    Calls Tryd.prog 23 #[.pointer (some ⟨b.c, 0, none⟩), .int .i64 a] w fun e w' => e = .returned (.bool (hasB C.xs.length C.ws a)) ∧ w = w' := by
  have H := Lib.hid h
  obtain ⟨-, c1, c3⟩ := h.cells
  clear h
  go_enter Tryd.func23, Tryd.ntmps23
  go_wp2_with (first
    | (go_at_call 34; refine (cis_any H.out).mono ?_; rintro e w' ⟨rfl, rfl⟩)
    | (go_at_call 67; refine (has_any H.out.sx a).mono ?_; rintro e w' ⟨rfl, rfl⟩))
  go_ret
  exact ⟨rfl, rfl⟩
theorem cmem_any (h : CX w b C) :
    Calls Tryd.prog 25 #[.pointer (some ⟨b.c, 0, none⟩)] w fun e w' => ClnE C.xs w.heap.size e w' ∧ Below w.heap.size w w' := by
  have H := Lib.hid h
  obtain ⟨-, c1, -⟩ := h.cells
  clear h
  go_enter Tryd.func25, Tryd.ntmps25
  go_wp2_with (first
    | (go_at_call 34; refine (cis_any H.out).mono ?_; rintro e w' ⟨rfl, rfl⟩)
    | (go_at_call 68; refine (mclone_any H.out.mx).mono ?_; rintro e w' ⟨⟨m2, r2, rfl, h1, h2, h3⟩, hb⟩; have H1 := Lib.hid h1; have H2 := Lib.hid h2; have H3 := Lib.hid h3; have HB := Lib.hid hb; clear h1 h2 h3 hb))
  go_ret
  exact ⟨⟨m2, r2, rfl, H1.out, H2.out, H3.out⟩, HB.out⟩
end
end Go.Proofs.YtfocdbflmodfhaaDoor
