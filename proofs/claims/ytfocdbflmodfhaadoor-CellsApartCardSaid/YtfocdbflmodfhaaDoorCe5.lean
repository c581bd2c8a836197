/- Cells: given back; a page dropped. -/
import Derived.Test.YtfocdbflmodfhaaDoorCe2
namespace Go.Proofs.YtfocdbflmodfhaaDoor
open Go.RowKit

section
variable {w : World} {b : Bl} {C : Cs}
theorem cgive_no (h : CX w b C) (a : Int) (hb : hasB C.xs.length C.ws a = false) :
    Calls Tryd.prog 12 #[.pointer (some ⟨b.c, 0, none⟩), .int .i64 a] w fun e w' => e = .returned (.bool false) ∧ w = w' := by
  have H := Lib.hid h
  have HB := Lib.hid hb
  clear h hb
  go_enter Tryd.func12, Tryd.ntmps12
  go_wp2_with (go_at_call 23; refine (cisa_any H.out a).mono ?_; rw [HB.out]; rintro e w' ⟨rfl, rfl⟩)
  go_ret
  exact ⟨rfl, rfl⟩
def giveL (C : Cs) (a : Int) : Cs := { C with ws := remL C.xs.length C.ws a, ks := freeL C.ks (pageI a) }
set_option maxHeartbeats 4000000 in
theorem cgive_large (h : CX w b C) (a : Int) (hb : hasB C.xs.length C.ws a = true) (hk : kindL C.ks (pageI a) = 5) :
    Calls Tryd.prog 12 #[.pointer (some ⟨b.c, 0, none⟩), .int .i64 a] w fun e w' => e = .returned (.bool true) ∧ CX w' b (giveL C a) ∧ Frm b.fp w w' := by
  have H := Lib.hid h
  have HB := Lib.hid hb
  have HK := Lib.hid hk
  obtain ⟨-, -, c3⟩ := h.cells
  clear h hb hk
  go_enter Tryd.func12, Tryd.ntmps12
  go_wp2_with (first
    | (go_at_call 23; refine (cisa_any H.out a).mono ?_; rw [HB.out]; rintro e w' ⟨rfl, rfl⟩)
    | (go_at_call 44; refine (rem_any H.out.sx a).mono ?_; rintro e w1 ⟨rfl, hs, hf⟩; have hx := H.out.withSx hf hs; have H1 := Lib.hid hx; have F1 := Lib.hid (hf.sub (fp' := b.fp) (by simp [Bl.fp])); clear hs hf hx)
    | (go_at_call 45; refine (gpage_any a _).mono ?_; rintro e w' ⟨rfl, rfl⟩)
    | (go_at_call 16; refine (ckind_any H1.out _).mono ?_; rw [HK.out]; rintro e w2 ⟨rfl, hb⟩; have hx := H1.out.below hb; have H2 := Lib.hid hx; have F2 := Lib.hid (F1.out.trans (Frm.of_below b.fp hb) (fun x hx => .inl hx)); obtain ⟨d0, -, -⟩ := hx.cells; clear hb hx)
    | (go_at_call 46; refine (pfree_any H2.out.tx _).mono ?_; rintro e w3 ⟨rfl, ht, hf⟩; have H3 := Lib.hid (H2.out.withTx hf ht (freeL_len _ _)); have F3 := Lib.hid (F2.out.trans (hf.sub (fp' := b.fp) (by simp [Bl.fp])) (fun x hx => .inl hx)); clear ht hf))
  go_ret
  exact ⟨rfl, H3.out, F3.out⟩
def giveS (C : Cs) (a : Int) (q : Nat) (k i f n : Int) : Cs := { C with ws := remL C.xs.length C.ws a, ch := C.ch.set q (i, n + 1), xs := putL C.xs (cad q k i) (-1 - f) }
/-- A cell of a small class's page, that may be given back. -/
structure GiveP (C : Cs) (a : Int) (q : Nat) (k i f n : Int) : Prop where
  q0 : q < C.ks.length
  pg : pageI a = q
  a0 : 0 ≤ a
  a1 : a < 2048
  kd : kindL C.ks q = k
  k0 : 1 ≤ k
  k1 : k ≤ 4
  al : a % sizeI k = 0
  ix : a % 32 / sizeI k = i
  i0 : 0 ≤ i
  i1 : i < cellsI k
  ch : C.ch.getD q (0, 0) = (f, n)
  n0 : 0 ≤ n
  n1 : n < cellsI k
  f0 : 0 ≤ f
  f1 : f ≤ cellsI k
set_option maxHeartbeats 8000000 in
set_option maxRecDepth 100000 in
theorem cgive_small (h : CX w b C) (a : Int) (hb : hasB C.xs.length C.ws a = true) (q : Nat) (k i f n : Int) (t : GiveP C a q k i f n) :
    Calls Tryd.prog 12 #[.pointer (some ⟨b.c, 0, none⟩), .int .i64 a] w fun e w' => e = .returned (.bool true) ∧ CX w' b (giveS C a q k i f n) ∧ Frm b.fp w w' := by
  have H := Lib.hid h
  have HB := Lib.hid hb
  have HK := Lib.hid t.kd
  have HPG := Lib.hid t.pg
  have hk5 : (k == 5) = false := by have := t.k1; simp; omega
  have hq64 : q < 64 := by have := t.q0; have := h.tx.le; omega
  have HQ := Lib.hid hq64
  have HO := Lib.hid (show OpP C.xs.length q k from ⟨by omega, by omega, t.k0, t.k1, by rw [h.len]; have := t.q0; omega⟩)
  have T := Lib.hid t
  have HSZ := Lib.hid (show sizeI k ≠ 0 by have := sizeI_pos ⟨t.k0, t.k1⟩; omega)
  have q1 : (0 : Int) ≤ (q : Int) := by omega
  have q2 : (q : Int) < 64 := by omega
  obtain ⟨-, -, c3⟩ := h.cells
  clear h hb t hq64
  go_enter Tryd.func12, Tryd.ntmps12
  go_wp2_with (first
    | (go_at_call 23; refine (cisa_any H.out a).mono ?_; rw [HB.out]; rintro e w' ⟨rfl, rfl⟩)
    | (go_at_call 44; refine (rem_any H.out.sx a).mono ?_; rintro e w1 ⟨rfl, hs, hf⟩; have hx := H.out.withSx hf hs; have H1 := Lib.hid hx; have F1 := Lib.hid (hf.sub (fp' := b.fp) (by simp [Bl.fp])); clear hs hf hx)
    | (go_at_call 45; refine (gpage_any a _).mono ?_; rw [HPG.out]; rintro e w' ⟨rfl, rfl⟩)
    | (go_at_call 16; refine (ckind_any H1.out _).mono ?_; rw [HK.out]; rintro e w2 ⟨rfl, hb⟩; have hx := H1.out.below hb; have H2 := Lib.hid hx; have F2 := Lib.hid (F1.out.trans (Frm.of_below b.fp hb) (fun x hx => .inl hx)); obtain ⟨-, d1, -⟩ := hx.cells; obtain ⟨d3, d4, -, -⟩ := hx.chain HQ.out; rw [T.out.ch] at d3 d4; clear hb hx)
    | (go_at_call 47; refine (gcell_yes k a HSZ.out T.out.a0 T.out.a1 T.out.al _).mono ?_; rw [T.out.ix]; rintro e w' ⟨rfl, rfl⟩))
  have G2 : Hid (CX w2.drew b { C with ws := remL C.xs.length C.ws a }) := Lib.hid (H2.out.below (Below.refl _ _).drew)
  have E2 : Hid (Frm b.fp w w2.drew) := Lib.hid (F2.out.trans (Frm.of_below b.fp (Below.refl _ _).drew) (fun x hx => .inl hx))
  go_region_with ((go_at_call 48; refine (cgive_yes G2.out.mx q k f n i HO.out T.out.n0 T.out.n1 T.out.f0 T.out.f1 T.out.i0 T.out.i1).mono ?_; rintro e w3 ⟨rfl, hm, hf⟩; have hx := G2.out.withMx hf hm (putL_len _ _ _); have H3 := Lib.hid hx; have F3 := Lib.hid (E2.out.trans (hf.sub (fp' := b.fp) (by simp [Bl.fp])) (fun x hx => .inl hx)); obtain ⟨-, e1, -⟩ := hx.cells; obtain ⟨e3, e4, e5, e6⟩ := hx.chain HQ.out; rw [show ({ C with ws := remL C.xs.length C.ws a, xs := putL C.xs (cad q k i) (-1 - f) } : Cs).ch = C.ch from rfl, T.out.ch] at e3 e4; clear hm hf hx))
  all_goals
    go_wp2_with fail
    go_ret
    exact ⟨rfl, H3.out.setChain HQ.out (i, n + 1), F3.out.trans ((Frm.setCell _ (fp := b.fp) (by simp [Bl.fp]) _).trans (Frm.setCell _ (fp := b.fp) (by simp [Bl.fp]) _) (fun x hx => .inl hx)) (fun x hx => .inl hx)⟩
set_option maxHeartbeats 4000000 in
theorem cdrop_no (h : CX w b C) (p : Int) (hd : ¬ (0 < sizeI (kindL C.ks p) ∧ cellsI (kindL C.ks p) ≤ leftL C p)) :
    Calls Tryd.prog 13 #[.pointer (some ⟨b.c, 0, none⟩), .int .i64 p] w fun e w' => e = .returned (.bool false) ∧ Below w.heap.size w w' := by
  have H := Lib.hid h
  clear h
  by_cases hs : 0 < sizeI (kindL C.ks p)
  · have hl : leftL C p < cellsI (kindL C.ks p) := by omega
    have HS := Lib.hid (show decide (0 < sizeI (kindL C.ks p)) = true by simpa using hs)
    clear hd hs
    go_enter Tryd.func13, Tryd.ntmps13
    go_wp2_with (first
      | (go_at_call 49; refine (csmall_any H.out p).mono ?_; rw [HS.out]; rintro e w1 ⟨rfl, hb⟩; have H1 := Lib.hid (H.out.below hb); have B1 := Lib.hid hb; clear hb)
      | (go_at_call 27; refine (cleft_any H1.out p).mono ?_; rintro e w2 ⟨rfl, hb⟩; have H2 := Lib.hid (H1.out.below hb); have B2 := Lib.hid (below_next B1.out hb); clear hb)
      | (go_at_call 16; refine (ckind_any H2.out p).mono ?_; rintro e w3 ⟨rfl, hb⟩; have B3 := Lib.hid (below_next B2.out hb); clear hb)
      | (go_at_call 50; refine (cells_any _ _).mono ?_; rintro e w' ⟨rfl, rfl⟩))
    go_ret
    exact ⟨rfl, B3.out⟩
  · have HS := Lib.hid (show decide (0 < sizeI (kindL C.ks p)) = false by simpa using hs)
    clear hd hs
    go_enter Tryd.func13, Tryd.ntmps13
    go_wp2_with (go_at_call 49; refine (csmall_any H.out p).mono ?_; rw [HS.out]; rintro e w1 ⟨rfl, hb⟩; have B1 := Lib.hid hb; clear hb)
    go_ret
    exact ⟨rfl, B1.out⟩
set_option maxHeartbeats 4000000 in
theorem cdrop_yes (h : CX w b C) (p : Int) (hs : 0 < sizeI (kindL C.ks p)) (hl : cellsI (kindL C.ks p) ≤ leftL C p) :
    Calls Tryd.prog 13 #[.pointer (some ⟨b.c, 0, none⟩), .int .i64 p] w fun e w' => e = .returned (.bool true) ∧ CX w' b { C with ks := freeL C.ks p } ∧ Frm b.fp w w' := by
  have H := Lib.hid h
  have hl' : ¬ (leftL C p < cellsI (kindL C.ks p)) := by omega
  have HS := Lib.hid (show decide (0 < sizeI (kindL C.ks p)) = true by simpa using hs)
  clear h hs hl
  go_enter Tryd.func13, Tryd.ntmps13
  go_wp2_with (first
    | (go_at_call 49; refine (csmall_any H.out p).mono ?_; rw [HS.out]; rintro e w1 ⟨rfl, hb⟩; have H1 := Lib.hid (H.out.below hb); have B1 := Lib.hid hb; clear hb)
    | (go_at_call 27; refine (cleft_any H1.out p).mono ?_; rintro e w2 ⟨rfl, hb⟩; have H2 := Lib.hid (H1.out.below hb); have B2 := Lib.hid (below_next B1.out hb); clear hb)
    | (go_at_call 16; refine (ckind_any H2.out p).mono ?_; rintro e w3 ⟨rfl, hb⟩; have hx := H2.out.below hb; have H3 := Lib.hid hx; have B3 := Lib.hid (below_next B2.out hb); obtain ⟨d0, -, -⟩ := hx.cells; clear hb hx)
    | (go_at_call 50; refine (cells_any _ _).mono ?_; rintro e w' ⟨rfl, rfl⟩)
    | (go_at_call 46; refine (pfree_any H3.out.tx p).mono ?_; rintro e w4 ⟨rfl, ht, hf⟩; have H4 := Lib.hid (H3.out.withTx hf ht (freeL_len _ _)); have F4 := Lib.hid ((Frm.of_below b.fp B3.out).trans (hf.sub (fp' := b.fp) (by simp [Bl.fp])) (fun x hx => .inl hx)); clear ht hf))
  go_ret
  exact ⟨rfl, H4.out, F4.out⟩
end
end Go.Proofs.YtfocdbflmodfhaaDoor
