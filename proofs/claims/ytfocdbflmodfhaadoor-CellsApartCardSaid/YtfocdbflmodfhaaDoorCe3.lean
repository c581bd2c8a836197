/- Cells: one taken. -/
import Derived.Test.YtfocdbflmodfhaaDoorCe2
namespace Go.Proofs.YtfocdbflmodfhaaDoor
open Go.RowKit

section
variable {w : World} {b : Bl} {C : Cs}
theorem ctake_no (h : CX w b C) (p : Int) (h0 : leftL C p = 0) :
    Calls Tryd.prog 10 #[.pointer (some ⟨b.c, 0, none⟩), .int .i64 p] w fun e w' => e = .returned (.tuple #[.int .i64 0, .bool false]) ∧ Below w.heap.size w w' := by
  have H := Lib.hid h
  have HL := Lib.hid h0
  clear h h0
  go_enter Tryd.func10, Tryd.ntmps10
  go_wp2_with (go_at_call 27; refine (cleft_any H.out p).mono ?_; rw [HL.out]; rintro e w' ⟨rfl, hb⟩; have HB := Lib.hid hb; clear hb)
  go_ret2
  exact ⟨rfl, HB.out⟩
def takeC (C : Cs) (q : Nat) (k f n y : Int) : Cs :=
  { C with ch := C.ch.set q (-1 - y, n - 1), ws := addL C.xs.length C.ws (cad q k f), xs := fillL C.xs (cad q k f).toNat (sizeI k).toNat 0 }
/-- A page of a small class, whose chain tells a free cell. -/
structure TakeP (C : Cs) (q : Nat) (k f n y : Int) : Prop where
  q0 : q < C.ks.length
  kd : kindL C.ks q = k
  k0 : 1 ≤ k
  k1 : k ≤ 4
  ch : C.ch.getD q (0, 0) = (f, n)
  n0 : 1 ≤ n
  n1 : n ≤ 1000000
  f0 : 0 ≤ f
  f1 : f < cellsI k
  wd : C.xs.getD (cad q k f).toNat 0 = y
  y0 : y < 0
  y1 : -1 - cellsI k ≤ y
set_option maxHeartbeats 16000000 in
set_option maxRecDepth 100000 in
theorem ctake_ok (h : CX w b C) (q : Nat) (k f n y : Int) (t : TakeP C q k f n y) :
    Calls Tryd.prog 10 #[.pointer (some ⟨b.c, 0, none⟩), .int .i64 q] w fun e w' => e = .returned (.tuple #[.int .i64 (cad q k f), .bool true]) ∧ CX w' b (takeC C q k f n y) ∧ Frm b.fp w w' := by
  have H := Lib.hid h
  have hs : 0 < sizeI (kindL C.ks q) := by rw [t.kd]; have := sizeI_pos ⟨t.k0, t.k1⟩; omega
  have hl : leftL C q = n := by unfold leftL; rw [if_pos hs, Int.toNat_natCast, t.ch]
  have HL := Lib.hid hl
  have hne : (n == 0) = false := by have := t.n0; simp; omega
  have HK := Lib.hid t.kd
  have hq64 : q < 64 := by have := t.q0; have := h.tx.le; omega
  have HQ := Lib.hid hq64
  have HO := Lib.hid (show OpP C.xs.length q k from ⟨by omega, by omega, t.k0, t.k1, by rw [h.len]; have := t.q0; omega⟩)
  have T := Lib.hid t
  have HA := Lib.hid (cad_in HO.out t.f0 t.f1).1
  have q1 : (0 : Int) ≤ (q : Int) := by omega
  have q2 : (q : Int) < 64 := by omega
  have HS := Lib.hid (sizeI_pos ⟨t.k0, t.k1⟩)
  have F0 := Lib.hid (Frm.refl b.fp w)
  clear h t hs hl hq64
  go_enter Tryd.func10, Tryd.ntmps10
  go_wp2_with (first
    | (go_at_call 27; refine (cleft_any H.out q).mono ?_; rw [HL.out]; rintro e w1 ⟨rfl, hb⟩; have H1 := Lib.hid (H.out.below hb); have F1 := Lib.hid (F0.out.trans (Frm.of_below b.fp hb) (fun x hx => .inl hx)); clear hb)
    | (go_at_call 16; refine (ckind_any H1.out q).mono ?_; rw [HK.out]; rintro e w2 ⟨rfl, hb⟩; have hx := H1.out.below hb; have H2 := Lib.hid hx; have F2 := Lib.hid (F1.out.trans (Frm.of_below b.fp hb) (fun x hx => .inl hx)); obtain ⟨-, d1, -⟩ := hx.cells; obtain ⟨d3, d4, -⟩ := hx.chain HQ.out; rw [T.out.ch] at d3 d4; clear hb hx))
  have G2 : Hid (CX w2.drew b C) := Lib.hid (H2.out.below (Below.refl _ _).drew)
  have E2 : Hid (Frm b.fp w w2.drew) := Lib.hid (F2.out.trans (Frm.of_below b.fp (Below.refl _ _).drew) (fun x hx => .inl hx))
  have bz : Below w2.heap.size w2 (w2.alloc (.cells #[.int .i64 0, .int .i64 0] 50)).drew := (below_alloc0 w2 _).drew
  have G3 : Hid (CX (w2.alloc (.cells #[.int .i64 0, .int .i64 0] 50)).drew b C) := Lib.hid (H2.out.below bz)
  have E3 : Hid (Frm b.fp w (w2.alloc (.cells #[.int .i64 0, .int .i64 0] 50)).drew) := Lib.hid (F2.out.trans (Frm.of_below b.fp bz) (fun x hx => .inl hx))
  have Z3 : Hid ((w2.alloc (.cells #[.int .i64 0, .int .i64 0] 50)).drew.heap[w2.heap.size]? = some (.cells #[.int .i64 0, .int .i64 0] 50 (0, 0))) := Lib.hid (heap_alloc_new w2 _)
  have hbz := F2.out.size
  have hcn : b.c ≠ w2.heap.size := Nat.ne_of_lt (heap_lt H2.out.hd)
  clear bz
  go_region_held3 (fun w' => w'.cell? ⟨b.c, 1, none⟩ = some (.pointer (some ⟨b.m, 0, none⟩)) ∧ w'.cell? ⟨b.c, 2 + q * 2, none⟩ = some (.int .i64 f) ∧ w'.cell? ⟨b.c, 2 + q * 2 + 1, none⟩ = some (.int .i64 n)) (first | (go_split_ands; exact ⟨by assumption, by assumption, by assumption⟩) | (go_split_ands; exact ⟨cell_setB hcn (by assumption), cell_setB hcn (by assumption), cell_setB hcn (by assumption)⟩) | go_keep)
    (first
      | ((go_at_call 37; with_reducible refine (ctake_yes G2.out.mx q k f n y HO.out T.out.n0 T.out.n1 T.out.f0 T.out.f1 T.out.wd T.out.y0 T.out.y1).mono ?_); rintro e w3 ⟨rfl, hb⟩; have hx := G2.out.below hb; have H3 := Lib.hid hx; have F3 := Lib.hid (E2.out.trans (Frm.of_below b.fp hb) (fun x hx => .inl hx)); obtain ⟨-, e1, -⟩ := hx.cells; obtain ⟨e3, e4, -⟩ := hx.chain HQ.out; rw [T.out.ch] at e3 e4; have hcl : b.c < w3.heap.size := heap_lt hx.hd; clear hb hx)
      | ((go_at_call 37; with_reducible refine (ctake_yes G3.out.mx q k f n y HO.out T.out.n0 T.out.n1 T.out.f0 T.out.f1 T.out.wd T.out.y0 T.out.y1).mono ?_); rintro e w3 ⟨rfl, hb⟩; have hx := G3.out.below hb; have H3 := Lib.hid hx; have F3 := Lib.hid (E3.out.trans (Frm.of_below b.fp hb) (fun x hx => .inl hx)); have z := keep hb Z3.out; have Z4 := Lib.hid z; have z1 : w3.cell? ⟨w2.heap.size, 0, none⟩ = some (.int .i64 0) := cell_of_row _ _ _ _ _ _ z; have z2 : w3.cell? ⟨w2.heap.size, 1, none⟩ = some (.int .i64 0) := cell_of_row _ _ _ _ _ _ z; have z3 := frozen_of_row w3 w2.heap.size 0 _ _ z; have z4 := frozen_of_row w3 w2.heap.size 1 _ _ z; obtain ⟨-, e1, -⟩ := hx.cells; obtain ⟨e3, e4, -⟩ := hx.chain HQ.out; rw [T.out.ch] at e3 e4; have hcl : b.c < w3.heap.size := heap_lt hx.hd; clear hb hx z))
  all_goals
    rename_i hheld
    clear hheld
  all_goals first
    | (
       have hzn : ∀ j ∈ b.fp, j ≠ w2.heap.size := fun j hj => Nat.ne_of_lt (H2.out.lt j hj)
       have A4 : CX ((w3.setCell ⟨w2.heap.size, 0, none⟩ (.int .i64 (-1 - y))).setCell ⟨w2.heap.size, 1, none⟩ (.int .i64 (n - 1))) b C := H3.out.keep fun j hj => (heap_setCell_other _ _ _ _ (hzn j hj)).trans (heap_setCell_other _ _ _ _ (hzn j hj))
       have E4 : Frm b.fp w ((w3.setCell ⟨w2.heap.size, 0, none⟩ (.int .i64 (-1 - y))).setCell ⟨w2.heap.size, 1, none⟩ (.int .i64 (n - 1))) := (F3.out.trans_new (Frm.setCell w3 (fp := [w2.heap.size]) (by simp) _) (by simpa using hbz)).trans_new (Frm.setCell _ (fp := [w2.heap.size]) (by simp) _) (by simpa using hbz)
       have Z5 : ((w3.setCell ⟨w2.heap.size, 0, none⟩ (.int .i64 (-1 - y))).setCell ⟨w2.heap.size, 1, none⟩ (.int .i64 (n - 1))).heap[w2.heap.size]? = some (.cells #[.int .i64 (-1 - y), .int .i64 (n - 1)] 50 (0, 0)) := heap_setCell_same _ _ 1 _ _ _ (heap_setCell_same _ _ 0 _ _ _ Z4.out)
       have hzw : w.heap.size ≤ w2.heap.size := hbz
       generalize (w3.setCell ⟨w2.heap.size, 0, none⟩ (.int .i64 (-1 - y))).setCell ⟨w2.heap.size, 1, none⟩ (.int .i64 (n - 1)) = W at A4 E4 Z5 ⊢
       generalize w2.heap.size = z at Z5 hzw ⊢)
    | (
       have A4 := H3.out.below (below_alloc0 w3 (.cells #[.int .i64 (-1 - y), .int .i64 (n - 1)] 50))
       have E4 := F3.out.trans (Frm.of_below b.fp (below_alloc0 w3 (.cells #[.int .i64 (-1 - y), .int .i64 (n - 1)] 50))) (fun x hx => .inl hx)
       have Z5 := heap_alloc_new w3 (.cells #[.int .i64 (-1 - y), .int .i64 (n - 1)] 50)
       have hzw : w.heap.size ≤ w3.heap.size := F3.out.size
       generalize w3.alloc (.cells #[.int .i64 (-1 - y), .int .i64 (n - 1)] 50) = W at A4 E4 Z5 ⊢
       generalize w3.heap.size = z at Z5 hzw ⊢)
  all_goals
    replace A4 := Lib.hid A4
    replace E4 := Lib.hid E4
    have y0 : W.cell? ⟨z, 0, none⟩ = some (.int .i64 (-1 - y)) := cell_of_row _ _ _ _ _ _ Z5
    have y1 : W.cell? ⟨z, 1, none⟩ = some (.int .i64 (n - 1)) := cell_of_row _ _ _ _ _ _ Z5
    replace Z5 := Lib.hid Z5
    obtain ⟨t3, t4, t5, t6⟩ := A4.out.chain HQ.out
    rw [T.out.ch] at t3 t4
    have hzc : z ≠ b.c := by have := heap_lt H.out.hd; omega
    go_wp2_with (go_at_call 38; refine (at_cad q k f HA.out _).mono ?_; rintro e w' ⟨rfl, rfl⟩)
    go_region_held3 (fun w' => w'.cell? ⟨z, 0, none⟩ = some (.int .i64 (-1 - y)) ∧ w'.cell? ⟨z, 1, none⟩ = some (.int .i64 (n - 1))) (first | (go_split_ands; exact ⟨cell_setB hzc (by assumption), cell_setB hzc (by assumption)⟩) | go_keep) (fail)
    rename_i hheld
    clear hheld
    have A6 := (A4.out.setChain HQ.out (-1 - y, n - 1)).below (Below.refl _ _).drew
    have E6 : Frm b.fp w ((W.setCell ⟨b.c, 2 + q * 2, none⟩ (.int .i64 (-1 - y))).setCell ⟨b.c, 2 + q * 2 + 1, none⟩ (.int .i64 (n - 1))).drew :=
      (E4.out.trans ((Frm.setCell _ (fp := b.fp) (by simp [Bl.fp]) _).trans (Frm.setCell _ (fp := b.fp) (by simp [Bl.fp]) _) (fun x hx => .inl hx)) (fun x hx => .inl hx)).trans (Frm.of_below b.fp (Below.refl _ _).drew) (fun x hx => .inl hx)
    generalize ((W.setCell ⟨b.c, 2 + q * 2, none⟩ (.int .i64 (-1 - y))).setCell ⟨b.c, 2 + q * 2 + 1, none⟩ (.int .i64 (n - 1))).drew = V at A6 E6 ⊢
    obtain ⟨-, v1, v3⟩ := A6.cells
    replace A6 := Lib.hid A6
    replace E6 := Lib.hid E6
    clear t3 t4 t5 t6 y0 y1
    have hcad := cad_in HO.out T.out.f0 T.out.f1
    have HC := Lib.hid hcad
    clear hcad
    go_wp2_with (go_at_call 39; refine (add_any A6.out.sx _).mono ?_; rintro e w7 ⟨rfl, hs, hf⟩; have hx := A6.out.withSx hf hs; have H7 := Lib.hid hx; have F7 := Lib.hid (E6.out.trans (hf.sub (fp' := b.fp) (by simp [Bl.fp])) (fun x hx => .inl hx)); obtain ⟨-, u1, -⟩ := hx.cells; clear hs hf hx)
    have M7 : Hid (CX w7.drew b { C with ch := C.ch.set q (-1 - y, n - 1), ws := addL C.xs.length C.ws (cad q k f) }) := Lib.hid (H7.out.below (Below.refl _ _).drew)
    go_region_held3 (fun w' => w'.cell? ⟨b.c, 1, none⟩ = some (.pointer (some ⟨b.m, 0, none⟩))) (first | assumption | go_keep)
      (first
        | ((go_at_call 41; refine (size_any k _).mono ?_; rintro e w8 ⟨rfl, rfl⟩))
        | ((go_at_call 40; refine (fill_int M7.out.mx (cad q k f) (sizeI k) 0 HC.out.2.1 (by have := HS.out; omega) (by have := HO.out.fit; have h9 := HC.out.2.2.2.1; have e9 : (({ C with ch := C.ch.set q (-1 - y, n - 1), ws := addL C.xs.length C.ws (cad q k f) } : Cs).xs.length) = C.xs.length := rfl; rw [e9]; omega)).mono ?_; rintro e w9 ⟨rfl, hm, hf⟩; have hx := M7.out.withMx hf hm (fillL_len _ _ _ _); have H9 := Lib.hid hx; have F9 := Lib.hid ((F7.out.trans (Frm.of_below b.fp (Below.refl _ _).drew) (fun x hx => .inl hx)).trans (hf.sub (fp' := b.fp) (by simp [Bl.fp])) (fun x hx => .inl hx)); obtain ⟨-, u9, -⟩ := hx.cells; clear hm hf hx)))
    go_wp2_with fail
    go_ret2
    exact ⟨rfl, H9.out, F9.out⟩
end
end Go.Proofs.YtfocdbflmodfhaaDoor
