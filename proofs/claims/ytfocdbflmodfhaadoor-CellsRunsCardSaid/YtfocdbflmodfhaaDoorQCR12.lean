/- Cells: one taken. -/
import Derived.Test.YtfocdbflmodfhaaDoorQCR11
namespace Go.Proofs.YtfocdbflmodfhaaDoor
open Go.RowKit

section
variable {w : World} {b : Bl} {C : Cs}
theorem ctake_no (h : CX w b C) (p : Int) (h0 : leftL C p = 0) :
    Calls Tryd.prog 10 #[.pointer (some ⟨b.c, 0, none⟩), .int .i64 p] w fun e w' => e = .returned (.tuple #[.int .i64 0, .bool false]) ∧ Below w.heap.size w w' := by
  have H := Lib.hid h
  have HL := Lib.hid h0
  clear h h0
  go_enter Tryd.func10, Tryd.ntmps10
  go_wp2_with (go_at_call 27; refine (cleft_any H.out p).mono ?_; rw [HL.out]; rintro e w' ⟨rfl, hb⟩; have HB := Lib.hid hb; clear hb)
  go_ret2
  exact ⟨rfl, HB.out⟩
def takeC (C : Cs) (q : Nat) (k f n y : Int) : Cs :=
  { C with ch := C.ch.set q (-1 - y, n - 1), ws := addL C.xs.length C.ws (cad q k f), xs := fillL C.xs (cad q k f).toNat (sizeI k).toNat 0 }
/-- A page of a small class, whose chain tells a free cell. -/
structure TakeP (C : Cs) (q : Nat) (k f n y : Int) : Prop where
  q0 : q < C.ks.length
  kd : kindL C.ks q = k
  k0 : 1 ≤ k
  k1 : k ≤ 4
  ch : C.ch.getD q (0, 0) = (f, n)
  n0 : 1 ≤ n
  n1 : n ≤ 1000000
  f0 : 0 ≤ f
  f1 : f < cellsI k
  wd : C.xs.getD (cad q k f).toNat 0 = y
  y0 : y < 0
  y1 : -1 - cellsI k ≤ y
set_option maxHeartbeats 16000000 in
set_option maxRecDepth 100000 in
theorem ctake_ok (h : CX w b C) (q : Nat) (k f n y : Int) (t : TakeP C q k f n y) :
    Calls Tryd.prog 10 #[.pointer (some ⟨b.c, 0, none⟩), .int .i64 q] w fun e w' => e = .returned (.tuple #[.int .i64 (cad q k f), .bool true]) ∧ CX w' b (takeC C q k f n y) ∧ Frm b.fp w w' := by
  have H := Lib.hid h
  have hs : 0 < sizeI (kindL C.ks q) := by rw [t.kd]; have := sizeI_pos ⟨t.k0, t.k1⟩; omega
  have hl : leftL C q = n := by unfold leftL; rw [if_pos hs, Int.toNat_natCast, t.ch]
  have HL := Lib.hid hl
  have hne : (n == 0) = false := by have := t.n0; simp; omega
  have HK := Lib.hid t.kd
  have hq64 : q < 64 := by have := t.q0; have := h.tx.le; omega
  have HQ := Lib.hid hq64
  have HO := Lib.hid (show OpP C.xs.length q k from ⟨by omega, by omega, t.k0, t.k1, by rw [h.len]; have := t.q0; omega⟩)
  have T := Lib.hid t
  have HA := Lib.hid (cad_in HO.out t.f0 t.f1).1
  have q1 : (0 : Int) ≤ (q : Int) := by omega
  have q2 : (q : Int) < 64 := by omega
  have HS := Lib.hid (sizeI_pos ⟨t.k0, t.k1⟩)
  have F0 := Lib.hid (Frm.refl b.fp w)
  clear h t hs hl hq64
  go_enter Tryd.func10, Tryd.ntmps10
  go_wp2_with (first
    | (go_at_call 27; refine (cleft_any H.out q).mono ?_; rw [HL.out]; rintro e w1 ⟨rfl, hb⟩; have H1 := Lib.hid (H.out.below hb); have F1 := Lib.hid (F0.out.trans (Frm.of_below b.fp hb) (fun x hx => .inl hx)); clear hb)
    | (go_at_call 16; refine (ckind_any H1.out q).mono ?_; rw [HK.out]; rintro e w2 ⟨rfl, hb⟩; have hx := H1.out.below hb; have H2 := Lib.hid hx; have F2 := Lib.hid (F1.out.trans (Frm.of_below b.fp hb) (fun x hx => .inl hx)); obtain ⟨-, d1, -⟩ := hx.cells; obtain ⟨d3, d4, -⟩ := hx.chain HQ.out; rw [T.out.ch] at d3 d4; clear hb hx))
  have G2 : Hid (CX w2.drew b C) := Lib.hid (H2.out.below (Below.refl _ _).drew)
  have E2 : Hid (Frm b.fp w w2.drew) := Lib.hid (F2.out.trans (Frm.of_below b.fp (Below.refl _ _).drew) (fun x hx => .inl hx))
  have bz : Below w2.heap.size w2 (w2.alloc (.cells #[.int .i64 0, .int .i64 0] 50)).drew := (below_alloc0 w2 _).drew
  have G3 : Hid (CX (w2.alloc (.cells #[.int .i64 0, .int .i64 0] 50)).drew b C) := Lib.hid (H2.out.below bz)
  have E3 : Hid (Frm b.fp w (w2.alloc (.cells #[.int .i64 0, .int .i64 0] 50)).drew) := Lib.hid (F2.out.trans (Frm.of_below b.fp bz) (fun x hx => .inl hx))
  have Z3 : Hid ((w2.alloc (.cells #[.int .i64 0, .int .i64 0] 50)).drew.heap[w2.heap.size]? = some (.cells #[.int .i64 0, .int .i64 0] 50 (0, 0))) := Lib.hid (heap_alloc_new w2 _)
  have hbz := F2.out.size
  have hcn : b.c ≠ w2.heap.size := Nat.ne_of_lt (heap_lt H2.out.hd)
  clear bz
  go_region_held3 (fun w' => w'.cell? ⟨b.c, 1, none⟩ = some (.pointer (some ⟨b.m, 0, none⟩)) ∧ w'.cell? ⟨b.c, 2 + q * 2, none⟩ = some (.int .i64 f) ∧ w'.cell? ⟨b.c, 2 + q * 2 + 1, none⟩ = some (.int .i64 n)) (first | (go_split_ands; exact ⟨by assumption, by assumption, by assumption⟩) | (go_split_ands; exact ⟨cell_setB hcn (by assumption), cell_setB hcn (by assumption), cell_setB hcn (by assumption)⟩) | go_keep)
    (first
      | ((go_at_call 37; with_reducible refine (ctake_yes G2.out.mx q k f n y HO.out T.out.n0 T.out.n1 T.out.f0 T.out.f1 T.out.wd T.out.y0 T.out.y1).mono ?_); rintro e w3 ⟨rfl, hb⟩; have hx := G2.out.below hb; have H3 := Lib.hid hx; have F3 := Lib.hid (E2.out.trans (Frm.of_below b.fp hb) (fun x hx => .inl hx)); obtain ⟨-, e1, -⟩ := hx.cells; obtain ⟨e3, e4, -⟩ := hx.chain HQ.out; rw [T.out.ch] at e3 e4; have hcl : b.c < w3.heap.size := heap_lt hx.hd; clear hb hx)
      | ((go_at_call 37; with_reducible refine (ctake_yes G3.out.mx q k f n y HO.out T.out.n0 T.out.n1 T.out.f0 T.out.f1 T.out.wd T.out.y0 T.out.y1).mono ?_); rintro e w3 ⟨rfl, hb⟩; have hx := G3.out.below hb; have H3 := Lib.hid hx; have F3 := Lib.hid (E3.out.trans (Frm.of_below b.fp hb) (fun x hx => .inl hx)); have z := keep hb Z3.out; have Z4 := Lib.hid z; have z1 : w3.cell? ⟨w2.heap.size, 0, none⟩ = some (.int .i64 0) := cell_of_row _ _ _ _ _ _ z; have z2 : w3.cell? ⟨w2.heap.size, 1, none⟩ = some (.int .i64 0) := cell_of_row _ _ _ _ _ _ z; have z3 := frozen_of_row w3 w2.heap.size 0 _ _ z; have z4 := frozen_of_row w3 w2.heap.size 1 _ _ z; obtain ⟨-, e1, -⟩ := hx.cells; obtain ⟨e3, e4, -⟩ := hx.chain HQ.out; rw [T.out.ch] at e3 e4; have hcl : b.c < w3.heap.size := heap_lt hx.hd; clear hb hx z))
  all_goals
    rename_i hheld
    clear hheld
  all_goals first
    | (
       have hzn : ∀ j ∈ b.fp, j ≠ w2.heap.size := fun j hj => Nat.ne_of_lt (H2.out.lt j hj)
       have A4 : CX ((w3.setCell ⟨w2.heap.size, 0, none⟩ (.int .i64 (-1 - y))).setCell ⟨w2.heap.size, 1, none⟩ (.int .i64 (n - 1))) b C := H3.out.keep fun j hj => (heap_setCell_other _ _ _ _ (hzn j hj)).trans (heap_setCell_other _ _ _ _ (hzn j hj))
       have E4 : Frm b.fp w ((w3.setCell ⟨w2.heap.size, 0, none⟩ (.int .i64 (-1 - y))).setCell ⟨w2.heap.size, 1, none⟩ (.int .i64 (n - 1))) := (F3.out.trans_new (Frm.setCell w3 (fp := [w2.heap.size]) (by simp) _) (by simpa using hbz)).trans_new (Frm.setCell _ (fp := [w2.heap.size]) (by simp) _) (by simpa using hbz)
       have Z5 : ((w3.setCell ⟨w2.heap.size, 0, none⟩ (.int .i64 (-1 - y))).setCell ⟨w2.heap.size, 1, none⟩ (.int .i64 (n - 1))).heap[w2.heap.size]? = some (.cells #[.int .i64 (-1 - y), .int .i64 (n - 1)] 50 (0, 0)) := heap_setCell_same _ _ 1 _ _ _ (heap_setCell_same _ _ 0 _ _ _ Z4.out)
       have hzw : w.heap.size ≤ w2.heap.size := hbz
       generalize (w3.setCell ⟨w2.heap.size, 0, none⟩ (.int .i64 (-1 - y))).setCell ⟨w2.heap.size, 1, none⟩ (.int .i64 (n - 1)) = W at A4 E4 Z5 ⊢
       generalize w2.heap.size = z at Z5 hzw ⊢)
    | (
       have A4 := H3.out.below (below_alloc0 w3 (.cells #[.int .i64 (-1 - y), .int .i64 (n - 1)] 50))
       have E4 := F3.out.trans (Frm.of_below b.fp (below_alloc0 w3 (.cells #[.int .i64 (-1 - y), .int .i64 (n - 1)] 50))) (fun x hx => .inl hx)
       have Z5 := heap_alloc_new w3 (.cells #[.int .i64 (-1 - y), .int .i64 (n - 1)] 50)
       have hzw : w.heap.size ≤ w3.heap.size := F3.out.size
       generalize w3.alloc (.cells #[.int .i64 (-1 - y), .int .i64 (n - 1)] 50) = W at A4 E4 Z5 ⊢
       generalize w3.heap.size = z at Z5 hzw ⊢)
  all_goals
    replace A4 := Lib.hid A4
    replace E4 := Lib.hid E4
    have y0 : W.cell? ⟨z, 0, none⟩ = some (.int .i64 (-1 - y)) := cell_of_row _ _ _ _ _ _ Z5
    have y1 : W.cell? ⟨z, 1, none⟩ = some (.int .i64 (n - 1)) := cell_of_row _ _ _ _ _ _ Z5
    replace Z5 := Lib.hid Z5
    obtain ⟨t3, t4, t5, t6⟩ := A4.out.chain HQ.out
    rw [T.out.ch] at t3 t4
    have hzc : z ≠ b.c := by have := heap_lt H.out.hd; omega
    go_wp2_with (go_at_call 38; refine (at_cad q k f HA.out _).mono ?_; rintro e w' ⟨rfl, rfl⟩)
    go_region_held3 (fun w' => w'.cell? ⟨z, 0, none⟩ = some (.int .i64 (-1 - y)) ∧ w'.cell? ⟨z, 1, none⟩ = some (.int .i64 (n - 1))) (first | (go_split_ands; exact ⟨cell_setB hzc (by assumption), cell_setB hzc (by assumption)⟩) | go_keep) (fail)
    rename_i hheld
    clear hheld
    have A6 := (A4.out.setChain HQ.out (-1 - y, n - 1)).below (Below.refl _ _).drew
    have E6 : Frm b.fp w ((W.setCell ⟨b.c, 2 + q * 2, none⟩ (.int .i64 (-1 - y))).setCell ⟨b.c, 2 + q * 2 + 1, none⟩ (.int .i64 (n - 1))).drew :=
      (E4.out.trans ((Frm.setCell _ (fp := b.fp) (by simp [Bl.fp]) _).trans (Frm.setCell _ (fp := b.fp) (by simp [Bl.fp]) _) (fun x hx => .inl hx)) (fun x hx => .inl hx)).trans (Frm.of_below b.fp (Below.refl _ _).drew) (fun x hx => .inl hx)
    generalize ((W.setCell ⟨b.c, 2 + q * 2, none⟩ (.int .i64 (-1 - y))).setCell ⟨b.c, 2 + q * 2 + 1, none⟩ (.int .i64 (n - 1))).drew = V at A6 E6 ⊢
    obtain ⟨-, v1, v3⟩ := A6.cells
    replace A6 := Lib.hid A6
    replace E6 := Lib.hid E6
    clear t3 t4 t5 t6 y0 y1
    have hcad := cad_in HO.out T.out.f0 T.out.f1
    have HC := Lib.hid hcad
    clear hcad
    go_wp2_with (go_at_call 39; refine (add_any A6.out.sx _).mono ?_; rintro e w7 ⟨rfl, hs, hf⟩; have hx := A6.out.withSx hf hs; have H7 := Lib.hid hx; have F7 := Lib.hid (E6.out.trans (hf.sub (fp' := b.fp) (by simp [Bl.fp])) (fun x hx => .inl hx)); obtain ⟨-, u1, -⟩ := hx.cells; clear hs hf hx)
    have M7 : Hid (CX w7.drew b { C with ch := C.ch.set q (-1 - y, n - 1), ws := addL C.xs.length C.ws (cad q k f) }) := Lib.hid (H7.out.below (Below.refl _ _).drew)
    go_region_held3 (fun w' => w'.cell? ⟨b.c, 1, none⟩ = some (.pointer (some ⟨b.m, 0, none⟩))) (first | assumption | go_keep)
      (first
        | ((go_at_call 41; refine (size_any k _).mono ?_; rintro e w8 ⟨rfl, rfl⟩))
        | ((go_at_call 40; refine (fill_int M7.out.mx (cad q k f) (sizeI k) 0 HC.out.2.1 (by have := HS.out; omega) (by have := HO.out.fit; have h9 := HC.out.2.2.2.1; have e9 : (({ C with ch := C.ch.set q (-1 - y, n - 1), ws := addL C.xs.length C.ws (cad q k f) } : Cs).xs.length) = C.xs.length := rfl; rw [e9]; omega)).mono ?_; rintro e w9 ⟨rfl, hm, hf⟩; have hx := M7.out.withMx hf hm (fillL_len _ _ _ _); have H9 := Lib.hid hx; have F9 := Lib.hid ((F7.out.trans (Frm.of_below b.fp (Below.refl _ _).drew) (fun x hx => .inl hx)).trans (hf.sub (fp' := b.fp) (by simp [Bl.fp])) (fun x hx => .inl hx)); obtain ⟨-, u9, -⟩ := hx.cells; clear hm hf hx)))
    go_wp2_with fail
    go_ret2
    exact ⟨rfl, H9.out, F9.out⟩
end
end Go.Proofs.YtfocdbflmodfhaaDoor

/- Cells: given back; a page dropped. -/
namespace Go.Proofs.YtfocdbflmodfhaaDoor
open Go.RowKit

section
variable {w : World} {b : Bl} {C : Cs}
theorem cgive_no (h : CX w b C) (a : Int) (hb : hasB C.xs.length C.ws a = false) :
    Calls Tryd.prog 12 #[.pointer (some ⟨b.c, 0, none⟩), .int .i64 a] w fun e w' => e = .returned (.bool false) ∧ w = w' := by
  have H := Lib.hid h
  have HB := Lib.hid hb
  clear h hb
  go_enter Tryd.func12, Tryd.ntmps12
  go_wp2_with (go_at_call 23; refine (cisa_any H.out a).mono ?_; rw [HB.out]; rintro e w' ⟨rfl, rfl⟩)
  go_ret
  exact ⟨rfl, rfl⟩
def giveL (C : Cs) (a : Int) : Cs := { C with ws := remL C.xs.length C.ws a, ks := freeL C.ks (pageI a) }
set_option maxHeartbeats 4000000 in
theorem cgive_large (h : CX w b C) (a : Int) (hb : hasB C.xs.length C.ws a = true) (hk : kindL C.ks (pageI a) = 5) :
    Calls Tryd.prog 12 #[.pointer (some ⟨b.c, 0, none⟩), .int .i64 a] w fun e w' => e = .returned (.bool true) ∧ CX w' b (giveL C a) ∧ Frm b.fp w w' := by
  have H := Lib.hid h
  have HB := Lib.hid hb
  have HK := Lib.hid hk
  obtain ⟨-, -, c3⟩ := h.cells
  clear h hb hk
  go_enter Tryd.func12, Tryd.ntmps12
  go_wp2_with (first
    | (go_at_call 23; refine (cisa_any H.out a).mono ?_; rw [HB.out]; rintro e w' ⟨rfl, rfl⟩)
    | (go_at_call 44; refine (rem_any H.out.sx a).mono ?_; rintro e w1 ⟨rfl, hs, hf⟩; have hx := H.out.withSx hf hs; have H1 := Lib.hid hx; have F1 := Lib.hid (hf.sub (fp' := b.fp) (by simp [Bl.fp])); clear hs hf hx)
    | (go_at_call 45; refine (gpage_any a _).mono ?_; rintro e w' ⟨rfl, rfl⟩)
    | (go_at_call 16; refine (ckind_any H1.out _).mono ?_; rw [HK.out]; rintro e w2 ⟨rfl, hb⟩; have hx := H1.out.below hb; have H2 := Lib.hid hx; have F2 := Lib.hid (F1.out.trans (Frm.of_below b.fp hb) (fun x hx => .inl hx)); obtain ⟨d0, -, -⟩ := hx.cells; clear hb hx)
    | (go_at_call 46; refine (pfree_any H2.out.tx _).mono ?_; rintro e w3 ⟨rfl, ht, hf⟩; have H3 := Lib.hid (H2.out.withTx hf ht (freeL_len _ _)); have F3 := Lib.hid (F2.out.trans (hf.sub (fp' := b.fp) (by simp [Bl.fp])) (fun x hx => .inl hx)); clear ht hf))
  go_ret
  exact ⟨rfl, H3.out, F3.out⟩
def giveS (C : Cs) (a : Int) (q : Nat) (k i f n : Int) : Cs := { C with ws := remL C.xs.length C.ws a, ch := C.ch.set q (i, n + 1), xs := putL C.xs (cad q k i) (-1 - f) }
/-- A cell of a small class's page, that may be given back. -/
structure GiveP (C : Cs) (a : Int) (q : Nat) (k i f n : Int) : Prop where
  q0 : q < C.ks.length
  pg : pageI a = q
  a0 : 0 ≤ a
  a1 : a < 2048
  kd : kindL C.ks q = k
  k0 : 1 ≤ k
  k1 : k ≤ 4
  al : a % sizeI k = 0
  ix : a % 32 / sizeI k = i
  i0 : 0 ≤ i
  i1 : i < cellsI k
  ch : C.ch.getD q (0, 0) = (f, n)
  n0 : 0 ≤ n
  n1 : n < cellsI k
  f0 : 0 ≤ f
  f1 : f ≤ cellsI k
set_option maxHeartbeats 8000000 in
set_option maxRecDepth 100000 in
theorem cgive_small (h : CX w b C) (a : Int) (hb : hasB C.xs.length C.ws a = true) (q : Nat) (k i f n : Int) (t : GiveP C a q k i f n) :
    Calls Tryd.prog 12 #[.pointer (some ⟨b.c, 0, none⟩), .int .i64 a] w fun e w' => e = .returned (.bool true) ∧ CX w' b (giveS C a q k i f n) ∧ Frm b.fp w w' := by
  have H := Lib.hid h
  have HB := Lib.hid hb
  have HK := Lib.hid t.kd
  have HPG := Lib.hid t.pg
  have hk5 : (k == 5) = false := by have := t.k1; simp; omega
  have hq64 : q < 64 := by have := t.q0; have := h.tx.le; omega
  have HQ := Lib.hid hq64
  have HO := Lib.hid (show OpP C.xs.length q k from ⟨by omega, by omega, t.k0, t.k1, by rw [h.len]; have := t.q0; omega⟩)
  have T := Lib.hid t
  have HSZ := Lib.hid (show sizeI k ≠ 0 by have := sizeI_pos ⟨t.k0, t.k1⟩; omega)
  have q1 : (0 : Int) ≤ (q : Int) := by omega
  have q2 : (q : Int) < 64 := by omega
  obtain ⟨-, -, c3⟩ := h.cells
  clear h hb t hq64
  go_enter Tryd.func12, Tryd.ntmps12
  go_wp2_with (first
    | (go_at_call 23; refine (cisa_any H.out a).mono ?_; rw [HB.out]; rintro e w' ⟨rfl, rfl⟩)
    | (go_at_call 44; refine (rem_any H.out.sx a).mono ?_; rintro e w1 ⟨rfl, hs, hf⟩; have hx := H.out.withSx hf hs; have H1 := Lib.hid hx; have F1 := Lib.hid (hf.sub (fp' := b.fp) (by simp [Bl.fp])); clear hs hf hx)
    | (go_at_call 45; refine (gpage_any a _).mono ?_; rw [HPG.out]; rintro e w' ⟨rfl, rfl⟩)
    | (go_at_call 16; refine (ckind_any H1.out _).mono ?_; rw [HK.out]; rintro e w2 ⟨rfl, hb⟩; have hx := H1.out.below hb; have H2 := Lib.hid hx; have F2 := Lib.hid (F1.out.trans (Frm.of_below b.fp hb) (fun x hx => .inl hx)); obtain ⟨-, d1, -⟩ := hx.cells; obtain ⟨d3, d4, -, -⟩ := hx.chain HQ.out; rw [T.out.ch] at d3 d4; clear hb hx)
    | (go_at_call 47; refine (gcell_yes k a HSZ.out T.out.a0 T.out.a1 T.out.al _).mono ?_; rw [T.out.ix]; rintro e w' ⟨rfl, rfl⟩))
  have G2 : Hid (CX w2.drew b { C with ws := remL C.xs.length C.ws a }) := Lib.hid (H2.out.below (Below.refl _ _).drew)
  have E2 : Hid (Frm b.fp w w2.drew) := Lib.hid (F2.out.trans (Frm.of_below b.fp (Below.refl _ _).drew) (fun x hx => .inl hx))
  go_region_with ((go_at_call 48; refine (cgive_yes G2.out.mx q k f n i HO.out T.out.n0 T.out.n1 T.out.f0 T.out.f1 T.out.i0 T.out.i1).mono ?_; rintro e w3 ⟨rfl, hm, hf⟩; have hx := G2.out.withMx hf hm (putL_len _ _ _); have H3 := Lib.hid hx; have F3 := Lib.hid (E2.out.trans (hf.sub (fp' := b.fp) (by simp [Bl.fp])) (fun x hx => .inl hx)); obtain ⟨-, e1, -⟩ := hx.cells; obtain ⟨e3, e4, e5, e6⟩ := hx.chain HQ.out; rw [show ({ C with ws := remL C.xs.length C.ws a, xs := putL C.xs (cad q k i) (-1 - f) } : Cs).ch = C.ch from rfl, T.out.ch] at e3 e4; clear hm hf hx))
  all_goals
    go_wp2_with fail
    go_ret
    exact ⟨rfl, H3.out.setChain HQ.out (i, n + 1), F3.out.trans ((Frm.setCell _ (fp := b.fp) (by simp [Bl.fp]) _).trans (Frm.setCell _ (fp := b.fp) (by simp [Bl.fp]) _) (fun x hx => .inl hx)) (fun x hx => .inl hx)⟩
set_option maxHeartbeats 4000000 in
theorem cdrop_no (h : CX w b C) (p : Int) (hd : ¬ (0 < sizeI (kindL C.ks p) ∧ cellsI (kindL C.ks p) ≤ leftL C p)) :
    Calls Tryd.prog 13 #[.pointer (some ⟨b.c, 0, none⟩), .int .i64 p] w fun e w' => e = .returned (.bool false) ∧ Below w.heap.size w w' := by
  have H := Lib.hid h
  clear h
  by_cases hs : 0 < sizeI (kindL C.ks p)
  · have hl : leftL C p < cellsI (kindL C.ks p) := by omega
    have HS := Lib.hid (show decide (0 < sizeI (kindL C.ks p)) = true by simpa using hs)
    clear hd hs
    go_enter Tryd.func13, Tryd.ntmps13
    go_wp2_with (first
      | (go_at_call 49; refine (csmall_any H.out p).mono ?_; rw [HS.out]; rintro e w1 ⟨rfl, hb⟩; have H1 := Lib.hid (H.out.below hb); have B1 := Lib.hid hb; clear hb)
      | (go_at_call 27; refine (cleft_any H1.out p).mono ?_; rintro e w2 ⟨rfl, hb⟩; have H2 := Lib.hid (H1.out.below hb); have B2 := Lib.hid (below_next B1.out hb); clear hb)
      | (go_at_call 16; refine (ckind_any H2.out p).mono ?_; rintro e w3 ⟨rfl, hb⟩; have B3 := Lib.hid (below_next B2.out hb); clear hb)
      | (go_at_call 50; refine (cells_any _ _).mono ?_; rintro e w' ⟨rfl, rfl⟩))
    go_ret
    exact ⟨rfl, B3.out⟩
  · have HS := Lib.hid (show decide (0 < sizeI (kindL C.ks p)) = false by simpa using hs)
    clear hd hs
    go_enter Tryd.func13, Tryd.ntmps13
    go_wp2_with (go_at_call 49; refine (csmall_any H.out p).mono ?_; rw [HS.out]; rintro e w1 ⟨rfl, hb⟩; have B1 := Lib.hid hb; clear hb)
    go_ret
    exact ⟨rfl, B1.out⟩
set_option maxHeartbeats 4000000 in
theorem cdrop_yes (h : CX w b C) (p : Int) (hs : 0 < sizeI (kindL C.ks p)) (hl : cellsI (kindL C.ks p) ≤ leftL C p) :
    Calls Tryd.prog 13 #[.pointer (some ⟨b.c, 0, none⟩), .int .i64 p] w fun e w' => e = .returned (.bool true) ∧ CX w' b { C with ks := freeL C.ks p } ∧ Frm b.fp w w' := by
  have H := Lib.hid h
  have hl' : ¬ (leftL C p < cellsI (kindL C.ks p)) := by omega
  have HS := Lib.hid (show decide (0 < sizeI (kindL C.ks p)) = true by simpa using hs)
  clear h hs hl
  go_enter Tryd.func13, Tryd.ntmps13
  go_wp2_with (first
    | (go_at_call 49; refine (csmall_any H.out p).mono ?_; rw [HS.out]; rintro e w1 ⟨rfl, hb⟩; have H1 := Lib.hid (H.out.below hb); have B1 := Lib.hid hb; clear hb)
    | (go_at_call 27; refine (cleft_any H1.out p).mono ?_; rintro e w2 ⟨rfl, hb⟩; have H2 := Lib.hid (H1.out.below hb); have B2 := Lib.hid (below_next B1.out hb); clear hb)
    | (go_at_call 16; refine (ckind_any H2.out p).mono ?_; rintro e w3 ⟨rfl, hb⟩; have hx := H2.out.below hb; have H3 := Lib.hid hx; have B3 := Lib.hid (below_next B2.out hb); obtain ⟨d0, -, -⟩ := hx.cells; clear hb hx)
    | (go_at_call 50; refine (cells_any _ _).mono ?_; rintro e w' ⟨rfl, rfl⟩)
    | (go_at_call 46; refine (pfree_any H3.out.tx p).mono ?_; rintro e w4 ⟨rfl, ht, hf⟩; have H4 := Lib.hid (H3.out.withTx hf ht (freeL_len _ _)); have F4 := Lib.hid ((Frm.of_below b.fp B3.out).trans (hf.sub (fp' := b.fp) (by simp [Bl.fp])) (fun x hx => .inl hx)); clear ht hf))
  go_ret
  exact ⟨rfl, H4.out, F4.out⟩
end
end Go.Proofs.YtfocdbflmodfhaaDoor

/- Cells, in plain lists: taken, and given back. -/
namespace Go.Proofs.YtfocdbflmodfhaaDoor
open Go.RowKit

theorem aligned {k : Int} (hk : 1 ≤ k ∧ k ≤ 4) {a : Nat} (h : (a : Int) % 32 % sizeI k = 0) : (a : Int) = cad ((a / 32 : Nat) : Int) k ((a : Int) % 32 / sizeI k) := by
  have hc : k = 1 ∨ k = 2 ∨ k = 3 ∨ k = 4 := by omega
  unfold cad
  rcases hc with rfl | rfl | rfl | rfl <;> simp [sizeI] at * <;> omega
theorem cad_idx {p : Nat} {k i : Int} (hk : 1 ≤ k ∧ k ≤ 4) (h0 : 0 ≤ i) (h1 : i < cellsI k) : (cad p k i).toNat / 32 = p ∧ (((cad p k i).toNat : Int) % 32 % sizeI k = 0) ∧ ((cad p k i).toNat : Int) % 32 / sizeI k = i := by
  have hc : k = 1 ∨ k = 2 ∨ k = 3 ∨ k = 4 := by omega
  unfold cad
  rcases hc with rfl | rfl | rfl | rfl <;> simp [cellsI, sizeI] at * <;> omega
theorem tkB_small {C : Cs} {F : Nat → List Int} {a : Nat} {k : Int} (h : C.ks.getD (a / 32) 0 = k) (hk : 1 ≤ k ∧ k ≤ 4) : tkB C F a = decide ((a : Int) % 32 % sizeI k = 0 ∧ (a : Int) % 32 / sizeI k ∉ F (a / 32)) := by
  unfold tkB; rw [h, if_pos hk]
theorem tkB_other {C : Cs} {F : Nat → List Int} {a : Nat} {k : Int} (h : C.ks.getD (a / 32) 0 = k) (hk : ¬ (1 ≤ k ∧ k ≤ 4)) : tkB C F a = decide (k = 5 ∧ a % 32 = 0) := by
  unfold tkB; rw [h, if_neg hk]
theorem few_ints : ∀ (n : Nat) (l : List Int), l.Nodup → (∀ x ∈ l, 0 ≤ x ∧ x < n) → l.length ≤ n
  | 0, l, _, h => by
    cases l with
    | nil => simp
    | cons x l => have := h x (by simp); omega
  | n + 1, l, hn, h => by
    have h1 := few_ints n (l.erase (n : Int)) (hn.erase _) (fun x hx => by
      have hm := (List.Nodup.mem_erase_iff hn).1 hx
      have := h x hm.2
      have : x ≠ (n : Int) := hm.1
      omega)
    have h2 := List.length_erase (l := l) (a := (n : Int))
    split at h2 <;> omega
/-- A free cell, as the chain tells it. -/
theorem take_ok {C : Cs} {F : Nat → List Int} {q : Nat} {f : Int} {l : List Int} (h : Inv C F) (hq : q < C.ks.length) (k1 : 1 ≤ C.ks.getD q 0) (k4 : C.ks.getD q 0 ≤ 4) (hf : F q = f :: l) :
    ∃ g, TakeP C q (C.ks.getD q 0) f ((l.length : Int) + 1) (-1 - g) ∧ Lnk C.xs q (C.ks.getD q 0) g l := by
  obtain ⟨h1, h2, h3⟩ := h.ln q hq k1 k4
  rw [hf] at h1 h2 h3
  obtain ⟨e1, e2, e3, g, e4, e5, e6, e7⟩ := h1
  have hc := cellsI_pos ⟨k1, k4⟩
  have hfew := few_ints (cellsI (C.ks.getD q 0)).toNat (f :: l) h3 (fun x hx => by
    rcases List.mem_cons.1 hx with rfl | hx
    · omega
    · have := e7.mem x hx; omega)
  rw [List.length_cons] at hfew
  have h2' : (C.ch.getD q (0, 0)).2 = (l.length : Int) + 1 := by rw [h2]; simp
  exact ⟨g, ⟨hq, kindL_in hq, k1, k4, Prod.ext e1 h2', by omega, by omega, e2, e3, e6, by omega, by omega⟩, e7⟩
theorem inv_take {C : Cs} {F : Nat → List Int} {q : Nat} {f g : Int} {l : List Int} (h : Inv C F) (hq : q < C.ks.length) (k1 : 1 ≤ C.ks.getD q 0) (k4 : C.ks.getD q 0 ≤ 4) (hf : F q = f :: l)
    (ht : TakeP C q (C.ks.getD q 0) f ((l.length : Int) + 1) (-1 - g)) (hl : Lnk C.xs q (C.ks.getD q 0) g l) : Inv (takeC C q (C.ks.getD q 0) f ((l.length : Int) + 1) (-1 - g)) (upd F q l) := by
  obtain ⟨k, hk⟩ : ∃ k, k = C.ks.getD q 0 := ⟨_, rfl⟩
  rw [← hk] at k1 k4 ht hl ⊢
  have hkk : 1 ≤ k ∧ k ≤ 4 := ⟨k1, k4⟩
  have hcp := cad_page (p := q) hkk ht.f0 ht.f1
  have hci := cad_idx (p := q) hkk ht.f0 ht.f1
  have hsz := sizeI_pos hkk
  have hlen := h.len
  have hle := h.le
  have hnd : (f :: l).Nodup := by rw [← hf]; exact (h.ln q hq (by rw [← hk]; exact k1) (by rw [← hk]; exact k4)).2.2
  have hfl : f ∉ l := (List.nodup_cons.1 hnd).1
  have hal : (cad q k f).toNat < 32 * C.ks.length := by omega
  have hold : bit C.ws (cad q k f).toNat = false := by
    rw [h.bt _ hal]
    unfold tkB
    rw [hci.1, ← hk, if_pos hkk, hci.2.1, hci.2.2, hf]
    simp
  have hadd : addL C.xs.length C.ws (cad q k f) = bitOn C.ws (cad q k f).toNat := by
    unfold addL
    rw [if_pos]
    simp [addB, inB, hold]; omega
  have hx : ∀ a, a < C.xs.length → (a + 1 ≤ (cad q k f).toNat ∨ (cad q k f).toNat + (sizeI k).toNat ≤ a) → (fillL C.xs (cad q k f).toNat (sizeI k).toNat 0).getD a 0 = C.xs.getD a 0 := fun a ha hd => by
    rw [fillL_get _ _ _ _ _ ha, if_neg (by omega)]
  unfold takeC
  rw [hadd]
  refine ⟨hle, by rw [← hlen]; exact fillL_len _ _ _ _, by simpa using h.chl, by rw [← h.wl]; exact bitOn_len _ _, h.kd, h.sx, fun p hp p1 p4 => ?_, fun a ha => ?_, fun a ha ha2 => ?_⟩
  · by_cases e : p = q
    · subst e
      show Lnk (fillL C.xs (cad p k f).toNat (sizeI k).toNat 0) p (C.ks.getD p 0) ((C.ch.set p (-1 - (-1 - g), (l.length : Int) + 1 - 1)).getD p (0, 0)).1 (upd F p l p) ∧ ((C.ch.set p (-1 - (-1 - g), (l.length : Int) + 1 - 1)).getD p (0, 0)).2 = ((upd F p l p).length : Int) ∧ (upd F p l p).Nodup
      rw [upd_same, getD_set_same (by rw [h.chl]; omega), ← hk]
      refine ⟨?_, by simp, (List.nodup_cons.1 hnd).2⟩
      rw [show -1 - (-1 - g) = g by omega]
      refine hl.keep fun i hi => ?_
      have hm := hl.mem i hi
      have hc2 := cad_page (p := p) hkk hm.1 hm.2
      have hd := cad_ne (p := (p : Int)) (k := k) (i := i) (j := f) (by omega) hkk hm.1 ht.f0 (by rintro rfl; exact hfl hi)
      exact hx _ (by omega) (by omega)
    · show Lnk (fillL C.xs (cad q k f).toNat (sizeI k).toNat 0) p (C.ks.getD p 0) ((C.ch.set q (-1 - (-1 - g), (l.length : Int) + 1 - 1)).getD p (0, 0)).1 (upd F q l p) ∧ ((C.ch.set q (-1 - (-1 - g), (l.length : Int) + 1 - 1)).getD p (0, 0)).2 = ((upd F q l p).length : Int) ∧ (upd F q l p).Nodup
      rw [upd_other _ e, getD_set_other (fun e2 => e e2.symm)]
      have p1' : 1 ≤ C.ks.getD p 0 := p1
      have p4' : C.ks.getD p 0 ≤ 4 := p4
      have hp' : p < C.ks.length := hp
      clear p1 p4 hp
      obtain ⟨g1, g2, g3⟩ := h.ln p hp' p1' p4'
      refine ⟨g1.keep fun i hi => ?_, g2, g3⟩
      have hm := g1.mem i hi
      have hc2 := cad_page (p := p) ⟨p1', p4'⟩ hm.1 hm.2
      have hs2 := sizeI_pos (k := C.ks.getD p 0) ⟨p1', p4'⟩
      exact hx _ (by omega) (by omega)
  · have ha' : a < 32 * C.ks.length := ha
    show bit (bitOn C.ws (cad q k f).toNat) a = tkB _ _ a
    rw [bitOn_get h.wl (by omega), h.bt a ha']
    by_cases e : a / 32 = q
    · rw [tkB_small (C := C) (F := F) (a := a) (k := k) (by rw [e]; exact hk.symm) hkk, tkB_small (C := { C with ch := C.ch.set q (-1 - (-1 - g), (l.length : Int) + 1 - 1), ws := bitOn C.ws (cad q k f).toNat, xs := fillL C.xs (cad q k f).toNat (sizeI k).toNat 0 }) (F := upd F q l) (a := a) (k := k) (by rw [e]; exact hk.symm) hkk, e, upd_same, hf]
      by_cases al : (a : Int) % 32 % sizeI k = 0
      · have ha3 := aligned hkk al
        rw [e] at ha3
        by_cases ef : (a : Int) % 32 / sizeI k = f
        · have : a = (cad q k f).toNat := by rw [ef] at ha3; omega
          have hd : decide (a = (cad q k f).toNat) = true := by simp [this]
          rw [hd, Bool.or_true]
          exact (decide_eq_true ⟨al, by rw [ef]; exact hfl⟩).symm
        · have : ¬ a = (cad q k f).toNat := by rintro rfl; exact ef hci.2.2
          simp [al, ef, this]
      · have : ¬ a = (cad q k f).toNat := by rintro rfl; exact al hci.2.1
        simp [al, this]
    · have hts := tkB_same (C := C) (F := F) (C' := { C with ch := C.ch.set q (-1 - (-1 - g), (l.length : Int) + 1 - 1), ws := bitOn C.ws (cad q k f).toNat, xs := fillL C.xs (cad q k f).toNat (sizeI k).toNat 0 }) (F' := upd F q l) (a := a) rfl (upd_other _ e)
      rw [hts]
      have : ¬ a = (cad q k f).toNat := by rintro rfl; exact e hci.1
      simp [this]
  · show bit (bitOn C.ws (cad q k f).toNat) a = false
    have ha3 : 32 * C.ks.length ≤ a := ha
    rw [bitOn_get h.wl (by omega), h.tp a ha3 ha2]
    simp; omega
end Go.Proofs.YtfocdbflmodfhaaDoor
