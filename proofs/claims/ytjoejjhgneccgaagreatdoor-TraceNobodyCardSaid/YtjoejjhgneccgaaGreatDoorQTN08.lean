/- Cells: one taken. -/
import Derived.Test.YtjoejjhgneccgaaGreatDoorQTN01
import Derived.Test.YtjoejjhgneccgaaGreatDoorQTN02
import Derived.Test.YtjoejjhgneccgaaGreatDoorQTN07
namespace Go.Proofs.YtjoejjhgneccgaaGreatDoor
open Go.RowKit

section
variable {w : World} {b : Bl} {C : Cs}
theorem ctake_no (h : CX w b C) (p : Int) (h0 : leftL C p = 0) :
    Calls Tryz.prog 86 #[.pointer (some ⟨b.c, 0, none⟩), .int .i64 p] w fun e w' => e = .returned (.tuple #[.int .i64 0, .bool false]) ∧ Below w.heap.size w w' := by
  have H := Lib.hid h
  have HL := Lib.hid h0
  clear h h0
  go_enter Tryz.func86, Tryz.ntmps86
  go_wp2_with (go_at_call 139; refine (cleft_any H.out p).mono ?_; rw [HL.out]; rintro e w' ⟨rfl, hb⟩; have HB := Lib.hid hb; clear hb)
  go_ret2
  exact ⟨rfl, HB.out⟩
def takeC (C : Cs) (q : Nat) (k f n y : Int) : Cs :=
  { C with ch := C.ch.set q (-1 - y, n - 1), ws := addL C.xs.length C.ws (cad q k f), xs := fillL C.xs (cad q k f).toNat (sizeI k).toNat 0 }
/-- A page of a small class, whose chain tells a free cell. -/
structure TakeP (C : Cs) (q : Nat) (k f n y : Int) : Prop where
  q0 : q < C.ks.length
  kd : kindL C.ks q = k
  k0 : 1 ≤ k
  k1 : k ≤ 4
  ch : C.ch.getD q (0, 0) = (f, n)
  n0 : 1 ≤ n
  n1 : n ≤ 1000000
  f0 : 0 ≤ f
  f1 : f < cellsI k
  wd : C.xs.getD (cad q k f).toNat 0 = y
  y0 : y < 0
  y1 : -1 - cellsI k ≤ y
set_option maxHeartbeats 16000000 in
set_option maxRecDepth 100000 in
theorem ctake_ok (h : CX w b C) (q : Nat) (k f n y : Int) (t : TakeP C q k f n y) :
    Calls Tryz.prog 86 #[.pointer (some ⟨b.c, 0, none⟩), .int .i64 q] w fun e w' => e = .returned (.tuple #[.int .i64 (cad q k f), .bool true]) ∧ CX w' b (takeC C q k f n y) ∧ Frm b.fp w w' := by
  have H := Lib.hid h
  have hs : 0 < sizeI (kindL C.ks q) := by rw [t.kd]; have := sizeI_pos ⟨t.k0, t.k1⟩; omega
  have hl : leftL C q = n := by unfold leftL; rw [if_pos hs, Int.toNat_natCast, t.ch]
  have HL := Lib.hid hl
  have hne : (n == 0) = false := by have := t.n0; simp; omega
  have HK := Lib.hid t.kd
  have hq64 : q < 64 := by have := t.q0; have := h.tx.le; omega
  have HQ := Lib.hid hq64
  have HO := Lib.hid (show OpP C.xs.length q k from ⟨by omega, by omega, t.k0, t.k1, by rw [h.len]; have := t.q0; omega⟩)
  have T := Lib.hid t
  have HA := Lib.hid (cad_in HO.out t.f0 t.f1).1
  have q1 : (0 : Int) ≤ (q : Int) := by omega
  have q2 : (q : Int) < 64 := by omega
  have HS := Lib.hid (sizeI_pos ⟨t.k0, t.k1⟩)
  have F0 := Lib.hid (Frm.refl b.fp w)
  clear h t hs hl hq64
  go_enter Tryz.func86, Tryz.ntmps86
  go_wp2_with (first
    | (go_at_call 139; refine (cleft_any H.out q).mono ?_; rw [HL.out]; rintro e w1 ⟨rfl, hb⟩; have H1 := Lib.hid (H.out.below hb); have F1 := Lib.hid (F0.out.trans (Frm.of_below b.fp hb) (fun x hx => .inl hx)); clear hb)
    | (go_at_call 106; refine (ckind_any H1.out q).mono ?_; rw [HK.out]; rintro e w2 ⟨rfl, hb⟩; have hx := H1.out.below hb; have H2 := Lib.hid hx; have F2 := Lib.hid (F1.out.trans (Frm.of_below b.fp hb) (fun x hx => .inl hx)); obtain ⟨-, d1, -⟩ := hx.cells; obtain ⟨d3, d4, -⟩ := hx.chain HQ.out; rw [T.out.ch] at d3 d4; clear hb hx))
  have G2 : Hid (CX w2.drew b C) := Lib.hid (H2.out.below (Below.refl _ _).drew)
  have E2 : Hid (Frm b.fp w w2.drew) := Lib.hid (F2.out.trans (Frm.of_below b.fp (Below.refl _ _).drew) (fun x hx => .inl hx))
  have bz : Below w2.heap.size w2 (w2.alloc (.cells #[.int .i64 0, .int .i64 0] 148)).drew := (below_alloc0 w2 _).drew
  have G3 : Hid (CX (w2.alloc (.cells #[.int .i64 0, .int .i64 0] 148)).drew b C) := Lib.hid (H2.out.below bz)
  have E3 : Hid (Frm b.fp w (w2.alloc (.cells #[.int .i64 0, .int .i64 0] 148)).drew) := Lib.hid (F2.out.trans (Frm.of_below b.fp bz) (fun x hx => .inl hx))
  have Z3 : Hid ((w2.alloc (.cells #[.int .i64 0, .int .i64 0] 148)).drew.heap[w2.heap.size]? = some (.cells #[.int .i64 0, .int .i64 0] 148 (0, 0))) := Lib.hid (heap_alloc_new w2 _)
  have hbz := F2.out.size
  have hcn : b.c ≠ w2.heap.size := Nat.ne_of_lt (heap_lt H2.out.hd)
  clear bz
  go_region_held3 (fun w' => w'.cell? ⟨b.c, 1, none⟩ = some (.pointer (some ⟨b.m, 0, none⟩)) ∧ w'.cell? ⟨b.c, 2 + q * 2, none⟩ = some (.int .i64 f) ∧ w'.cell? ⟨b.c, 2 + q * 2 + 1, none⟩ = some (.int .i64 n)) (first | (go_split_ands; exact ⟨by assumption, by assumption, by assumption⟩) | (go_split_ands; exact ⟨cell_setB hcn (by assumption), cell_setB hcn (by assumption), cell_setB hcn (by assumption)⟩) | go_keep)
    (first
      | ((go_at_call 140; with_reducible refine (ctake_yes G2.out.mx q k f n y HO.out T.out.n0 T.out.n1 T.out.f0 T.out.f1 T.out.wd T.out.y0 T.out.y1).mono ?_); rintro e w3 ⟨rfl, hb⟩; have hx := G2.out.below hb; have H3 := Lib.hid hx; have F3 := Lib.hid (E2.out.trans (Frm.of_below b.fp hb) (fun x hx => .inl hx)); obtain ⟨-, e1, -⟩ := hx.cells; obtain ⟨e3, e4, -⟩ := hx.chain HQ.out; rw [T.out.ch] at e3 e4; have hcl : b.c < w3.heap.size := heap_lt hx.hd; clear hb hx)
      | ((go_at_call 140; with_reducible refine (ctake_yes G3.out.mx q k f n y HO.out T.out.n0 T.out.n1 T.out.f0 T.out.f1 T.out.wd T.out.y0 T.out.y1).mono ?_); rintro e w3 ⟨rfl, hb⟩; have hx := G3.out.below hb; have H3 := Lib.hid hx; have F3 := Lib.hid (E3.out.trans (Frm.of_below b.fp hb) (fun x hx => .inl hx)); have z := keep hb Z3.out; have Z4 := Lib.hid z; have z1 : w3.cell? ⟨w2.heap.size, 0, none⟩ = some (.int .i64 0) := cell_of_row _ _ _ _ _ _ z; have z2 : w3.cell? ⟨w2.heap.size, 1, none⟩ = some (.int .i64 0) := cell_of_row _ _ _ _ _ _ z; have z3 := frozen_of_row w3 w2.heap.size 0 _ _ z; have z4 := frozen_of_row w3 w2.heap.size 1 _ _ z; obtain ⟨-, e1, -⟩ := hx.cells; obtain ⟨e3, e4, -⟩ := hx.chain HQ.out; rw [T.out.ch] at e3 e4; have hcl : b.c < w3.heap.size := heap_lt hx.hd; clear hb hx z))
  all_goals
    rename_i hheld
    clear hheld
  all_goals first
    | (
       have hzn : ∀ j ∈ b.fp, j ≠ w2.heap.size := fun j hj => Nat.ne_of_lt (H2.out.lt j hj)
       have A4 : CX ((w3.setCell ⟨w2.heap.size, 0, none⟩ (.int .i64 (-1 - y))).setCell ⟨w2.heap.size, 1, none⟩ (.int .i64 (n - 1))) b C := H3.out.keep fun j hj => (heap_setCell_other _ _ _ _ (hzn j hj)).trans (heap_setCell_other _ _ _ _ (hzn j hj))
       have E4 : Frm b.fp w ((w3.setCell ⟨w2.heap.size, 0, none⟩ (.int .i64 (-1 - y))).setCell ⟨w2.heap.size, 1, none⟩ (.int .i64 (n - 1))) := (F3.out.trans_new (Frm.setCell w3 (fp := [w2.heap.size]) (by simp) _) (by simpa using hbz)).trans_new (Frm.setCell _ (fp := [w2.heap.size]) (by simp) _) (by simpa using hbz)
       have Z5 : ((w3.setCell ⟨w2.heap.size, 0, none⟩ (.int .i64 (-1 - y))).setCell ⟨w2.heap.size, 1, none⟩ (.int .i64 (n - 1))).heap[w2.heap.size]? = some (.cells #[.int .i64 (-1 - y), .int .i64 (n - 1)] 148 (0, 0)) := heap_setCell_same _ _ 1 _ _ _ (heap_setCell_same _ _ 0 _ _ _ Z4.out)
       have hzw : w.heap.size ≤ w2.heap.size := hbz
       generalize (w3.setCell ⟨w2.heap.size, 0, none⟩ (.int .i64 (-1 - y))).setCell ⟨w2.heap.size, 1, none⟩ (.int .i64 (n - 1)) = W at A4 E4 Z5 ⊢
       generalize w2.heap.size = z at Z5 hzw ⊢)
    | (
       have A4 := H3.out.below (below_alloc0 w3 (.cells #[.int .i64 (-1 - y), .int .i64 (n - 1)] 148))
       have E4 := F3.out.trans (Frm.of_below b.fp (below_alloc0 w3 (.cells #[.int .i64 (-1 - y), .int .i64 (n - 1)] 148))) (fun x hx => .inl hx)
       have Z5 := heap_alloc_new w3 (.cells #[.int .i64 (-1 - y), .int .i64 (n - 1)] 148)
       have hzw : w.heap.size ≤ w3.heap.size := F3.out.size
       generalize w3.alloc (.cells #[.int .i64 (-1 - y), .int .i64 (n - 1)] 148) = W at A4 E4 Z5 ⊢
       generalize w3.heap.size = z at Z5 hzw ⊢)
  all_goals
    replace A4 := Lib.hid A4
    replace E4 := Lib.hid E4
    have y0 : W.cell? ⟨z, 0, none⟩ = some (.int .i64 (-1 - y)) := cell_of_row _ _ _ _ _ _ Z5
    have y1 : W.cell? ⟨z, 1, none⟩ = some (.int .i64 (n - 1)) := cell_of_row _ _ _ _ _ _ Z5
    replace Z5 := Lib.hid Z5
    obtain ⟨t3, t4, t5, t6⟩ := A4.out.chain HQ.out
    rw [T.out.ch] at t3 t4
    have hzc : z ≠ b.c := by have := heap_lt H.out.hd; omega
    go_wp2_with (go_at_call 141; refine (at_cad q k f HA.out _).mono ?_; rintro e w' ⟨rfl, rfl⟩)
    go_region_held3 (fun w' => w'.cell? ⟨z, 0, none⟩ = some (.int .i64 (-1 - y)) ∧ w'.cell? ⟨z, 1, none⟩ = some (.int .i64 (n - 1))) (first | (go_split_ands; exact ⟨cell_setB hzc (by assumption), cell_setB hzc (by assumption)⟩) | go_keep) (fail)
    rename_i hheld
    clear hheld
    have A6 := (A4.out.setChain HQ.out (-1 - y, n - 1)).below (Below.refl _ _).drew
    have E6 : Frm b.fp w ((W.setCell ⟨b.c, 2 + q * 2, none⟩ (.int .i64 (-1 - y))).setCell ⟨b.c, 2 + q * 2 + 1, none⟩ (.int .i64 (n - 1))).drew :=
      (E4.out.trans ((Frm.setCell _ (fp := b.fp) (by simp [Bl.fp]) _).trans (Frm.setCell _ (fp := b.fp) (by simp [Bl.fp]) _) (fun x hx => .inl hx)) (fun x hx => .inl hx)).trans (Frm.of_below b.fp (Below.refl _ _).drew) (fun x hx => .inl hx)
    generalize ((W.setCell ⟨b.c, 2 + q * 2, none⟩ (.int .i64 (-1 - y))).setCell ⟨b.c, 2 + q * 2 + 1, none⟩ (.int .i64 (n - 1))).drew = V at A6 E6 ⊢
    obtain ⟨-, v1, v3⟩ := A6.cells
    replace A6 := Lib.hid A6
    replace E6 := Lib.hid E6
    clear t3 t4 t5 t6 y0 y1
    have hcad := cad_in HO.out T.out.f0 T.out.f1
    have HC := Lib.hid hcad
    clear hcad
    go_wp2_with (go_at_call 113; refine (add_any A6.out.sx _).mono ?_; rintro e w7 ⟨rfl, hs, hf⟩; have hx := A6.out.withSx hf hs; have H7 := Lib.hid hx; have F7 := Lib.hid (E6.out.trans (hf.sub (fp' := b.fp) (by simp [Bl.fp])) (fun x hx => .inl hx)); obtain ⟨-, u1, -⟩ := hx.cells; clear hs hf hx)
    have M7 : Hid (CX w7.drew b { C with ch := C.ch.set q (-1 - y, n - 1), ws := addL C.xs.length C.ws (cad q k f) }) := Lib.hid (H7.out.below (Below.refl _ _).drew)
    go_region_held3 (fun w' => w'.cell? ⟨b.c, 1, none⟩ = some (.pointer (some ⟨b.m, 0, none⟩))) (first | assumption | go_keep)
      (first
        | ((go_at_call 138; refine (size_any k _).mono ?_; rintro e w8 ⟨rfl, rfl⟩))
        | ((go_at_call 142; refine (fill_int M7.out.mx (cad q k f) (sizeI k) 0 HC.out.2.1 (by have := HS.out; omega) (by have := HO.out.fit; have h9 := HC.out.2.2.2.1; have e9 : (({ C with ch := C.ch.set q (-1 - y, n - 1), ws := addL C.xs.length C.ws (cad q k f) } : Cs).xs.length) = C.xs.length := rfl; rw [e9]; omega)).mono ?_; rintro e w9 ⟨rfl, hm, hf⟩; have hx := M7.out.withMx hf hm (fillL_len _ _ _ _); have H9 := Lib.hid hx; have F9 := Lib.hid ((F7.out.trans (Frm.of_below b.fp (Below.refl _ _).drew) (fun x hx => .inl hx)).trans (hf.sub (fp' := b.fp) (by simp [Bl.fp])) (fun x hx => .inl hx)); obtain ⟨-, u9, -⟩ := hx.cells; clear hm hf hx)))
    go_wp2_with fail
    go_ret2
    exact ⟨rfl, H9.out, F9.out⟩
end
end Go.Proofs.YtjoejjhgneccgaaGreatDoor

/- Cells: given back; a page dropped. -/
namespace Go.Proofs.YtjoejjhgneccgaaGreatDoor
open Go.RowKit

section
variable {w : World} {b : Bl} {C : Cs}
theorem cgive_no (h : CX w b C) (a : Int) (hb : hasB C.xs.length C.ws a = false) :
    Calls Tryz.prog 97 #[.pointer (some ⟨b.c, 0, none⟩), .int .i64 a] w fun e w' => e = .returned (.bool false) ∧ w = w' := by
  have H := Lib.hid h
  have HB := Lib.hid hb
  clear h hb
  go_enter Tryz.func97, Tryz.ntmps97
  go_wp2_with (go_at_call 150; refine (cisa_any H.out a).mono ?_; rw [HB.out]; rintro e w' ⟨rfl, rfl⟩)
  go_ret
  exact ⟨rfl, rfl⟩
def giveL (C : Cs) (a : Int) : Cs := { C with ws := remL C.xs.length C.ws a, ks := freeL C.ks (pageI a) }
set_option maxHeartbeats 4000000 in
theorem cgive_large (h : CX w b C) (a : Int) (hb : hasB C.xs.length C.ws a = true) (hk : kindL C.ks (pageI a) = 5) :
    Calls Tryz.prog 97 #[.pointer (some ⟨b.c, 0, none⟩), .int .i64 a] w fun e w' => e = .returned (.bool true) ∧ CX w' b (giveL C a) ∧ Frm b.fp w w' := by
  have H := Lib.hid h
  have HB := Lib.hid hb
  have HK := Lib.hid hk
  obtain ⟨-, -, c3⟩ := h.cells
  clear h hb hk
  go_enter Tryz.func97, Tryz.ntmps97
  go_wp2_with (first
    | (go_at_call 150; refine (cisa_any H.out a).mono ?_; rw [HB.out]; rintro e w' ⟨rfl, rfl⟩)
    | (go_at_call 115; refine (rem_any H.out.sx a).mono ?_; rintro e w1 ⟨rfl, hs, hf⟩; have hx := H.out.withSx hf hs; have H1 := Lib.hid hx; have F1 := Lib.hid (hf.sub (fp' := b.fp) (by simp [Bl.fp])); clear hs hf hx)
    | (go_at_call 103; refine (gpage_any a _).mono ?_; rintro e w' ⟨rfl, rfl⟩)
    | (go_at_call 106; refine (ckind_any H1.out _).mono ?_; rw [HK.out]; rintro e w2 ⟨rfl, hb⟩; have hx := H1.out.below hb; have H2 := Lib.hid hx; have F2 := Lib.hid (F1.out.trans (Frm.of_below b.fp hb) (fun x hx => .inl hx)); obtain ⟨d0, -, -⟩ := hx.cells; clear hb hx)
    | (go_at_call 151; refine (pfree_any H2.out.tx _).mono ?_; rintro e w3 ⟨rfl, ht, hf⟩; have H3 := Lib.hid (H2.out.withTx hf ht (freeL_len _ _)); have F3 := Lib.hid (F2.out.trans (hf.sub (fp' := b.fp) (by simp [Bl.fp])) (fun x hx => .inl hx)); clear ht hf))
  go_ret
  exact ⟨rfl, H3.out, F3.out⟩
def giveS (C : Cs) (a : Int) (q : Nat) (k i f n : Int) : Cs := { C with ws := remL C.xs.length C.ws a, ch := C.ch.set q (i, n + 1), xs := putL C.xs (cad q k i) (-1 - f) }
/-- A cell of a small class's page, that may be given back. -/
structure GiveP (C : Cs) (a : Int) (q : Nat) (k i f n : Int) : Prop where
  q0 : q < C.ks.length
  pg : pageI a = q
  a0 : 0 ≤ a
  a1 : a < 2048
  kd : kindL C.ks q = k
  k0 : 1 ≤ k
  k1 : k ≤ 4
  al : a % sizeI k = 0
  ix : a % 32 / sizeI k = i
  i0 : 0 ≤ i
  i1 : i < cellsI k
  ch : C.ch.getD q (0, 0) = (f, n)
  n0 : 0 ≤ n
  n1 : n < cellsI k
  f0 : 0 ≤ f
  f1 : f ≤ cellsI k
set_option maxHeartbeats 8000000 in
set_option maxRecDepth 100000 in
theorem cgive_small (h : CX w b C) (a : Int) (hb : hasB C.xs.length C.ws a = true) (q : Nat) (k i f n : Int) (t : GiveP C a q k i f n) :
    Calls Tryz.prog 97 #[.pointer (some ⟨b.c, 0, none⟩), .int .i64 a] w fun e w' => e = .returned (.bool true) ∧ CX w' b (giveS C a q k i f n) ∧ Frm b.fp w w' := by
  have H := Lib.hid h
  have HB := Lib.hid hb
  have HK := Lib.hid t.kd
  have HPG := Lib.hid t.pg
  have hk5 : (k == 5) = false := by have := t.k1; simp; omega
  have hq64 : q < 64 := by have := t.q0; have := h.tx.le; omega
  have HQ := Lib.hid hq64
  have HO := Lib.hid (show OpP C.xs.length q k from ⟨by omega, by omega, t.k0, t.k1, by rw [h.len]; have := t.q0; omega⟩)
  have T := Lib.hid t
  have HSZ := Lib.hid (show sizeI k ≠ 0 by have := sizeI_pos ⟨t.k0, t.k1⟩; omega)
  have q1 : (0 : Int) ≤ (q : Int) := by omega
  have q2 : (q : Int) < 64 := by omega
  obtain ⟨-, -, c3⟩ := h.cells
  clear h hb t hq64
  go_enter Tryz.func97, Tryz.ntmps97
  go_wp2_with (first
    | (go_at_call 150; refine (cisa_any H.out a).mono ?_; rw [HB.out]; rintro e w' ⟨rfl, rfl⟩)
    | (go_at_call 115; refine (rem_any H.out.sx a).mono ?_; rintro e w1 ⟨rfl, hs, hf⟩; have hx := H.out.withSx hf hs; have H1 := Lib.hid hx; have F1 := Lib.hid (hf.sub (fp' := b.fp) (by simp [Bl.fp])); clear hs hf hx)
    | (go_at_call 103; refine (gpage_any a _).mono ?_; rw [HPG.out]; rintro e w' ⟨rfl, rfl⟩)
    | (go_at_call 106; refine (ckind_any H1.out _).mono ?_; rw [HK.out]; rintro e w2 ⟨rfl, hb⟩; have hx := H1.out.below hb; have H2 := Lib.hid hx; have F2 := Lib.hid (F1.out.trans (Frm.of_below b.fp hb) (fun x hx => .inl hx)); obtain ⟨-, d1, -⟩ := hx.cells; obtain ⟨d3, d4, -, -⟩ := hx.chain HQ.out; rw [T.out.ch] at d3 d4; clear hb hx)
    | (go_at_call 152; refine (gcell_yes k a HSZ.out T.out.a0 T.out.a1 T.out.al _).mono ?_; rw [T.out.ix]; rintro e w' ⟨rfl, rfl⟩))
  have G2 : Hid (CX w2.drew b { C with ws := remL C.xs.length C.ws a }) := Lib.hid (H2.out.below (Below.refl _ _).drew)
  have E2 : Hid (Frm b.fp w w2.drew) := Lib.hid (F2.out.trans (Frm.of_below b.fp (Below.refl _ _).drew) (fun x hx => .inl hx))
  go_region_with ((go_at_call 153; refine (cgive_yes G2.out.mx q k f n i HO.out T.out.n0 T.out.n1 T.out.f0 T.out.f1 T.out.i0 T.out.i1).mono ?_; rintro e w3 ⟨rfl, hm, hf⟩; have hx := G2.out.withMx hf hm (putL_len _ _ _); have H3 := Lib.hid hx; have F3 := Lib.hid (E2.out.trans (hf.sub (fp' := b.fp) (by simp [Bl.fp])) (fun x hx => .inl hx)); obtain ⟨-, e1, -⟩ := hx.cells; obtain ⟨e3, e4, e5, e6⟩ := hx.chain HQ.out; rw [show ({ C with ws := remL C.xs.length C.ws a, xs := putL C.xs (cad q k i) (-1 - f) } : Cs).ch = C.ch from rfl, T.out.ch] at e3 e4; clear hm hf hx))
  all_goals
    go_wp2_with fail
    go_ret
    exact ⟨rfl, H3.out.setChain HQ.out (i, n + 1), F3.out.trans ((Frm.setCell _ (fp := b.fp) (by simp [Bl.fp]) _).trans (Frm.setCell _ (fp := b.fp) (by simp [Bl.fp]) _) (fun x hx => .inl hx)) (fun x hx => .inl hx)⟩
set_option maxHeartbeats 4000000 in
theorem cdrop_no (h : CX w b C) (p : Int) (hd : ¬ (0 < sizeI (kindL C.ks p) ∧ cellsI (kindL C.ks p) ≤ leftL C p)) :
    Calls Tryz.prog 100 #[.pointer (some ⟨b.c, 0, none⟩), .int .i64 p] w fun e w' => e = .returned (.bool false) ∧ Below w.heap.size w w' := by
  have H := Lib.hid h
  clear h
  by_cases hs : 0 < sizeI (kindL C.ks p)
  · have hl : leftL C p < cellsI (kindL C.ks p) := by omega
    have HS := Lib.hid (show decide (0 < sizeI (kindL C.ks p)) = true by simpa using hs)
    clear hd hs
    go_enter Tryz.func100, Tryz.ntmps100
    go_wp2_with (first
      | (go_at_call 156; refine (csmall_any H.out p).mono ?_; rw [HS.out]; rintro e w1 ⟨rfl, hb⟩; have H1 := Lib.hid (H.out.below hb); have B1 := Lib.hid hb; clear hb)
      | (go_at_call 139; refine (cleft_any H1.out p).mono ?_; rintro e w2 ⟨rfl, hb⟩; have H2 := Lib.hid (H1.out.below hb); have B2 := Lib.hid (below_next B1.out hb); clear hb)
      | (go_at_call 106; refine (ckind_any H2.out p).mono ?_; rintro e w3 ⟨rfl, hb⟩; have B3 := Lib.hid (below_next B2.out hb); clear hb)
      | (go_at_call 157; refine (cells_any _ _).mono ?_; rintro e w' ⟨rfl, rfl⟩))
    go_ret
    exact ⟨rfl, B3.out⟩
  · have HS := Lib.hid (show decide (0 < sizeI (kindL C.ks p)) = false by simpa using hs)
    clear hd hs
    go_enter Tryz.func100, Tryz.ntmps100
    go_wp2_with (go_at_call 156; refine (csmall_any H.out p).mono ?_; rw [HS.out]; rintro e w1 ⟨rfl, hb⟩; have B1 := Lib.hid hb; clear hb)
    go_ret
    exact ⟨rfl, B1.out⟩
set_option maxHeartbeats 4000000 in
theorem cdrop_yes (h : CX w b C) (p : Int) (hs : 0 < sizeI (kindL C.ks p)) (hl : cellsI (kindL C.ks p) ≤ leftL C p) :
    Calls Tryz.prog 100 #[.pointer (some ⟨b.c, 0, none⟩), .int .i64 p] w fun e w' => e = .returned (.bool true) ∧ CX w' b { C with ks := freeL C.ks p } ∧ Frm b.fp w w' := by
  have H := Lib.hid h
  have hl' : ¬ (leftL C p < cellsI (kindL C.ks p)) := by omega
  have HS := Lib.hid (show decide (0 < sizeI (kindL C.ks p)) = true by simpa using hs)
  clear h hs hl
  go_enter Tryz.func100, Tryz.ntmps100
  go_wp2_with (first
    | (go_at_call 156; refine (csmall_any H.out p).mono ?_; rw [HS.out]; rintro e w1 ⟨rfl, hb⟩; have H1 := Lib.hid (H.out.below hb); have B1 := Lib.hid hb; clear hb)
    | (go_at_call 139; refine (cleft_any H1.out p).mono ?_; rintro e w2 ⟨rfl, hb⟩; have H2 := Lib.hid (H1.out.below hb); have B2 := Lib.hid (below_next B1.out hb); clear hb)
    | (go_at_call 106; refine (ckind_any H2.out p).mono ?_; rintro e w3 ⟨rfl, hb⟩; have hx := H2.out.below hb; have H3 := Lib.hid hx; have B3 := Lib.hid (below_next B2.out hb); obtain ⟨d0, -, -⟩ := hx.cells; clear hb hx)
    | (go_at_call 157; refine (cells_any _ _).mono ?_; rintro e w' ⟨rfl, rfl⟩)
    | (go_at_call 151; refine (pfree_any H3.out.tx p).mono ?_; rintro e w4 ⟨rfl, ht, hf⟩; have H4 := Lib.hid (H3.out.withTx hf ht (freeL_len _ _)); have F4 := Lib.hid ((Frm.of_below b.fp B3.out).trans (hf.sub (fp' := b.fp) (by simp [Bl.fp])) (fun x hx => .inl hx)); clear ht hf))
  go_ret
  exact ⟨rfl, H4.out, F4.out⟩
end
end Go.Proofs.YtjoejjhgneccgaaGreatDoor

/- Cells, in plain lists: taken, and given back. -/
namespace Go.Proofs.YtjoejjhgneccgaaGreatDoor
open Go.RowKit

theorem aligned {k : Int} (hk : 1 ≤ k ∧ k ≤ 4) {a : Nat} (h : (a : Int) % 32 % sizeI k = 0) : (a : Int) = cad ((a / 32 : Nat) : Int) k ((a : Int) % 32 / sizeI k) := by
  have hc : k = 1 ∨ k = 2 ∨ k = 3 ∨ k = 4 := by omega
  unfold cad
  rcases hc with rfl | rfl | rfl | rfl <;> simp [sizeI] at * <;> omega
theorem cad_idx {p : Nat} {k i : Int} (hk : 1 ≤ k ∧ k ≤ 4) (h0 : 0 ≤ i) (h1 : i < cellsI k) : (cad p k i).toNat / 32 = p ∧ (((cad p k i).toNat : Int) % 32 % sizeI k = 0) ∧ ((cad p k i).toNat : Int) % 32 / sizeI k = i := by
  have hc : k = 1 ∨ k = 2 ∨ k = 3 ∨ k = 4 := by omega
  unfold cad
  rcases hc with rfl | rfl | rfl | rfl <;> simp [cellsI, sizeI] at * <;> omega
theorem tkB_small {C : Cs} {F : Nat → List Int} {a : Nat} {k : Int} (h : C.ks.getD (a / 32) 0 = k) (hk : 1 ≤ k ∧ k ≤ 4) : tkB C F a = decide ((a : Int) % 32 % sizeI k = 0 ∧ (a : Int) % 32 / sizeI k ∉ F (a / 32)) := by
  unfold tkB; rw [h, if_pos hk]
theorem tkB_other {C : Cs} {F : Nat → List Int} {a : Nat} {k : Int} (h : C.ks.getD (a / 32) 0 = k) (hk : ¬ (1 ≤ k ∧ k ≤ 4)) : tkB C F a = decide (k = 5 ∧ a % 32 = 0) := by
  unfold tkB; rw [h, if_neg hk]
theorem few_ints : ∀ (n : Nat) (l : List Int), l.Nodup → (∀ x ∈ l, 0 ≤ x ∧ x < n) → l.length ≤ n
  | 0, l, _, h => by
    cases l with
    | nil => simp
    | cons x l => have := h x (by simp); omega
  | n + 1, l, hn, h => by
    have h1 := few_ints n (l.erase (n : Int)) (hn.erase _) (fun x hx => by
      have hm := (List.Nodup.mem_erase_iff hn).1 hx
      have := h x hm.2
      have : x ≠ (n : Int) := hm.1
      omega)
    have h2 := List.length_erase (l := l) (a := (n : Int))
    split at h2 <;> omega
/-- A free cell, as the chain tells it. -/
theorem take_ok {C : Cs} {F : Nat → List Int} {q : Nat} {f : Int} {l : List Int} (h : Inv C F) (hq : q < C.ks.length) (k1 : 1 ≤ C.ks.getD q 0) (k4 : C.ks.getD q 0 ≤ 4) (hf : F q = f :: l) :
    ∃ g, TakeP C q (C.ks.getD q 0) f ((l.length : Int) + 1) (-1 - g) ∧ Lnk C.xs q (C.ks.getD q 0) g l := by
  obtain ⟨h1, h2, h3⟩ := h.ln q hq k1 k4
  rw [hf] at h1 h2 h3
  obtain ⟨e1, e2, e3, g, e4, e5, e6, e7⟩ := h1
  have hc := cellsI_pos ⟨k1, k4⟩
  have hfew := few_ints (cellsI (C.ks.getD q 0)).toNat (f :: l) h3 (fun x hx => by
    rcases List.mem_cons.1 hx with rfl | hx
    · omega
    · have := e7.mem x hx; omega)
  rw [List.length_cons] at hfew
  have h2' : (C.ch.getD q (0, 0)).2 = (l.length : Int) + 1 := by rw [h2]; simp
  exact ⟨g, ⟨hq, kindL_in hq, k1, k4, Prod.ext e1 h2', by omega, by omega, e2, e3, e6, by omega, by omega⟩, e7⟩
theorem inv_take {C : Cs} {F : Nat → List Int} {q : Nat} {f g : Int} {l : List Int} (h : Inv C F) (hq : q < C.ks.length) (k1 : 1 ≤ C.ks.getD q 0) (k4 : C.ks.getD q 0 ≤ 4) (hf : F q = f :: l)
    (ht : TakeP C q (C.ks.getD q 0) f ((l.length : Int) + 1) (-1 - g)) (hl : Lnk C.xs q (C.ks.getD q 0) g l) : Inv (takeC C q (C.ks.getD q 0) f ((l.length : Int) + 1) (-1 - g)) (upd F q l) := by
  obtain ⟨k, hk⟩ : ∃ k, k = C.ks.getD q 0 := ⟨_, rfl⟩
  rw [← hk] at k1 k4 ht hl ⊢
  have hkk : 1 ≤ k ∧ k ≤ 4 := ⟨k1, k4⟩
  have hcp := cad_page (p := q) hkk ht.f0 ht.f1
  have hci := cad_idx (p := q) hkk ht.f0 ht.f1
  have hsz := sizeI_pos hkk
  have hlen := h.len
  have hle := h.le
  have hnd : (f :: l).Nodup := by rw [← hf]; exact (h.ln q hq (by rw [← hk]; exact k1) (by rw [← hk]; exact k4)).2.2
  have hfl : f ∉ l := (List.nodup_cons.1 hnd).1
  have hal : (cad q k f).toNat < 32 * C.ks.length := by omega
  have hold : bit C.ws (cad q k f).toNat = false := by
    rw [h.bt _ hal]
    unfold tkB
    rw [hci.1, ← hk, if_pos hkk, hci.2.1, hci.2.2, hf]
    simp
  have hadd : addL C.xs.length C.ws (cad q k f) = bitOn C.ws (cad q k f).toNat := by
    unfold addL
    rw [if_pos]
    simp [addB, inB, hold]; omega
  have hx : ∀ a, a < C.xs.length → (a + 1 ≤ (cad q k f).toNat ∨ (cad q k f).toNat + (sizeI k).toNat ≤ a) → (fillL C.xs (cad q k f).toNat (sizeI k).toNat 0).getD a 0 = C.xs.getD a 0 := fun a ha hd => by
    rw [fillL_get _ _ _ _ _ ha, if_neg (by omega)]
  unfold takeC
  rw [hadd]
  refine ⟨hle, by rw [← hlen]; exact fillL_len _ _ _ _, by simpa using h.chl, by rw [← h.wl]; exact bitOn_len _ _, h.kd, h.sx, fun p hp p1 p4 => ?_, fun a ha => ?_, fun a ha ha2 => ?_⟩
  · by_cases e : p = q
    · subst e
      show Lnk (fillL C.xs (cad p k f).toNat (sizeI k).toNat 0) p (C.ks.getD p 0) ((C.ch.set p (-1 - (-1 - g), (l.length : Int) + 1 - 1)).getD p (0, 0)).1 (upd F p l p) ∧ ((C.ch.set p (-1 - (-1 - g), (l.length : Int) + 1 - 1)).getD p (0, 0)).2 = ((upd F p l p).length : Int) ∧ (upd F p l p).Nodup
      rw [upd_same, getD_set_same (by rw [h.chl]; omega), ← hk]
      refine ⟨?_, by simp, (List.nodup_cons.1 hnd).2⟩
      rw [show -1 - (-1 - g) = g by omega]
      refine hl.keep fun i hi => ?_
      have hm := hl.mem i hi
      have hc2 := cad_page (p := p) hkk hm.1 hm.2
      have hd := cad_ne (p := (p : Int)) (k := k) (i := i) (j := f) (by omega) hkk hm.1 ht.f0 (by rintro rfl; exact hfl hi)
      exact hx _ (by omega) (by omega)
    · show Lnk (fillL C.xs (cad q k f).toNat (sizeI k).toNat 0) p (C.ks.getD p 0) ((C.ch.set q (-1 - (-1 - g), (l.length : Int) + 1 - 1)).getD p (0, 0)).1 (upd F q l p) ∧ ((C.ch.set q (-1 - (-1 - g), (l.length : Int) + 1 - 1)).getD p (0, 0)).2 = ((upd F q l p).length : Int) ∧ (upd F q l p).Nodup
      rw [upd_other _ e, getD_set_other (fun e2 => e e2.symm)]
      have p1' : 1 ≤ C.ks.getD p 0 := p1
      have p4' : C.ks.getD p 0 ≤ 4 := p4
      have hp' : p < C.ks.length := hp
      clear p1 p4 hp
      obtain ⟨g1, g2, g3⟩ := h.ln p hp' p1' p4'
      refine ⟨g1.keep fun i hi => ?_, g2, g3⟩
      have hm := g1.mem i hi
      have hc2 := cad_page (p := p) ⟨p1', p4'⟩ hm.1 hm.2
      have hs2 := sizeI_pos (k := C.ks.getD p 0) ⟨p1', p4'⟩
      exact hx _ (by omega) (by omega)
  · have ha' : a < 32 * C.ks.length := ha
    show bit (bitOn C.ws (cad q k f).toNat) a = tkB _ _ a
    rw [bitOn_get h.wl (by omega), h.bt a ha']
    by_cases e : a / 32 = q
    · rw [tkB_small (C := C) (F := F) (a := a) (k := k) (by rw [e]; exact hk.symm) hkk, tkB_small (C := { C with ch := C.ch.set q (-1 - (-1 - g), (l.length : Int) + 1 - 1), ws := bitOn C.ws (cad q k f).toNat, xs := fillL C.xs (cad q k f).toNat (sizeI k).toNat 0 }) (F := upd F q l) (a := a) (k := k) (by rw [e]; exact hk.symm) hkk, e, upd_same, hf]
      by_cases al : (a : Int) % 32 % sizeI k = 0
      · have ha3 := aligned hkk al
        rw [e] at ha3
        by_cases ef : (a : Int) % 32 / sizeI k = f
        · have : a = (cad q k f).toNat := by rw [ef] at ha3; omega
          have hd : decide (a = (cad q k f).toNat) = true := by simp [this]
          rw [hd, Bool.or_true]
          exact (decide_eq_true ⟨al, by rw [ef]; exact hfl⟩).symm
        · have : ¬ a = (cad q k f).toNat := by rintro rfl; exact ef hci.2.2
          simp [al, ef, this]
      · have : ¬ a = (cad q k f).toNat := by rintro rfl; exact al hci.2.1
        simp [al, this]
    · have hts := tkB_same (C := C) (F := F) (C' := { C with ch := C.ch.set q (-1 - (-1 - g), (l.length : Int) + 1 - 1), ws := bitOn C.ws (cad q k f).toNat, xs := fillL C.xs (cad q k f).toNat (sizeI k).toNat 0 }) (F' := upd F q l) (a := a) rfl (upd_other _ e)
      rw [hts]
      have : ¬ a = (cad q k f).toNat := by rintro rfl; exact e hci.1
      simp [this]
  · show bit (bitOn C.ws (cad q k f).toNat) a = false
    have ha3 : 32 * C.ks.length ≤ a := ha
    rw [bitOn_get h.wl (by omega), h.tp a ha3 ha2]
    simp; omega
end Go.Proofs.YtjoejjhgneccgaaGreatDoor

/- The map of whose pages are: what it holds. -/
namespace Go.Proofs.YtjoejjhgneccgaaGreatDoor
open Go.RowKit Go.Maps Go.WideElems

abbrev OwnM := Int → Int → Option Int
def wfI (x : Int) : Prop := -9223372036854775808 ≤ x ∧ x ≤ 9223372036854775807
theorem wfI.wf {x : Int} (h : wfI x) : (Lit.int .i64 x).wf = true := wf_small h.1 h.2
theorem wf_wfI {x : Int} (h : (Lit.int .i64 x).wf = true) : wfI x := by
  simp only [Lit.wf, Bool.and_eq_true, decide_eq_true_eq] at h
  exact h
structure Rep (D : DataW Unit) (M : OwnM) : Prop where
  is : IsMap D
  has : ∀ t k, wfI t → wfI k → Maps.has D (sk t k) = (M t k).isSome
  at_ : ∀ t k p, wfI t → wfI k → M t k = some p → D.atKey (sk t k) (.lit (.int .i64 0)) = .lit (.int .i64 p)
/-- Threads from 0 to 8, small classes, pages. -/
def Dom (M : OwnM) : Prop := ∀ t k p, M t k = some p → 0 ≤ t ∧ t < 9 ∧ 1 ≤ k ∧ k ≤ 4 ∧ 0 ≤ p ∧ p < 64
def updM (M : OwnM) (t k : Int) (v : Option Int) : OwnM := fun t' k' => if t' = t ∧ k' = k then v else M t' k'
theorem updM_same (M : OwnM) (t k : Int) (v : Option Int) : updM M t k v t k = v := if_pos ⟨rfl, rfl⟩
theorem updM_other {M : OwnM} {t k t' k' : Int} (v : Option Int) (h : ¬ (t' = t ∧ k' = k)) : updM M t k v t' k' = M t' k' := if_neg h
theorem sk_key {t k : Int} (ht : wfI t) (hk : wfI k) : WideAt.IsKeyLit (sk t k) := lawSeat.key (keyOf_seat ht.wf hk.wf)
theorem rep_empty : Rep (.map []) (fun _ _ => none) := ⟨isMap_empty, fun _ _ _ _ => rfl, fun _ _ _ _ _ h => by cases h⟩
theorem Rep.put {D : DataW Unit} {M : OwnM} (h : Rep D M) {t k p : Int} (ht : wfI t) (hk : wfI k) : Rep (D.put (sk t k) (.lit (.int .i64 p))) (updM M t k (some p)) := by
  refine ⟨h.is.put _ _, fun t' k' w1 w2 => ?_, fun t' k' p' w1 w2 he => ?_⟩
  · by_cases e : t' = t ∧ k' = k
    · obtain ⟨rfl, rfl⟩ := e
      rw [updM_same, has_put_same h.is (sk_key w1 w2)]; rfl
    · rw [updM_other _ e, has_put_other (fun c => e (sk_inj w1.wf w2.wf ht.wf hk.wf c))]
      exact h.has t' k' w1 w2
  · by_cases e : t' = t ∧ k' = k
    · obtain ⟨rfl, rfl⟩ := e
      rw [updM_same] at he
      cases he
      exact atKey_put_same h.is (sk_key w1 w2) _ _
    · rw [updM_other _ e] at he
      rw [atKey_put_other (fun c => e (sk_inj w1.wf w2.wf ht.wf hk.wf c))]
      exact h.at_ t' k' p' w1 w2 he
theorem Rep.del {D : DataW Unit} {M : OwnM} (h : Rep D M) {t k : Int} (ht : wfI t) (hk : wfI k) : Rep (D.del (sk t k)) (updM M t k none) := by
  refine ⟨h.is.del _, fun t' k' w1 w2 => ?_, fun t' k' p' w1 w2 he => ?_⟩
  · by_cases e : t' = t ∧ k' = k
    · obtain ⟨rfl, rfl⟩ := e
      rw [updM_same, has_del_same]; rfl
    · rw [updM_other _ e, has_del_other (fun c => e (sk_inj w1.wf w2.wf ht.wf hk.wf c))]
      exact h.has t' k' w1 w2
  · by_cases e : t' = t ∧ k' = k
    · obtain ⟨rfl, rfl⟩ := e
      rw [updM_same] at he
      cases he
    · rw [updM_other _ e] at he
      rw [atKey_del_other (fun c => e (sk_inj w1.wf w2.wf ht.wf hk.wf c))]
      exact h.at_ t' k' p' w1 w2 he
def seatIx : Value → Int
  | .agg cs => match cs.toList with
    | [.int _ t, .int _ k] => t * 4 + k - 1
    | _ => 0
  | _ => 0
/-- There are few entries. -/
theorem own_few {w : World} {b n : Nat} {D : DataW Unit} {M : OwnM} (h : w.ownsMap Tryz.prog 164 (plainElem Tryz.prog 3) b n D) (hr : Rep D M) (hd : Dom M) : w.ownsMap Tryz.prog 164 (plainElem Tryz.prog 3) b 36 D := by
  obtain ⟨es, clock, hb, F, hs, rfl⟩ := h
  refine ⟨es, clock, hb, F, ?_, rfl⟩
  have key : ∀ x ∈ es.toList, ∃ t k : Int, x.key = .agg #[.int .i64 t, .int .i64 k] ∧ (rg (H := Unit) Tryz.prog 164 (plainElem Tryz.prog 3) x).1 = sk t k ∧ 0 ≤ t ∧ t < 9 ∧ 1 ≤ k ∧ k ≤ 4 := by
    intro x hx
    obtain ⟨y, hy⟩ := F.reads x hx
    have hk := rd_key hy
    obtain ⟨⟨t, k⟩, e, wt, wk⟩ := keyOf_seat_inv hk
    simp only at e wt wk
    rw [e, keyOf_seat wt wk] at hk
    have hyk : y.1 = sk t k := (Option.some.inj hk).symm
    have hrg : (rg (H := Unit) Tryz.prog 164 (plainElem Tryz.prog 3) x).1 = sk t k := by rw [rg_of hy]; exact hyk
    have hhas : Maps.has (DataW.map ((es.toList.map (rg (H := Unit) Tryz.prog 164 (plainElem Tryz.prog 3))).foldr DataW.insert [])) (sk t k) = true :=
      List.any_eq_true.2 ⟨rg Tryz.prog 164 (plainElem Tryz.prog 3) x, mem_sorted.2 (List.mem_map.2 ⟨x, hx, rfl⟩), by rw [hrg]; exact WideAt.sameKey_self (sk_key (wf_wfI wt) (wf_wfI wk))⟩
    rw [hr.has t k (wf_wfI wt) (wf_wfI wk)] at hhas
    obtain ⟨p, hp⟩ := Option.isSome_iff_exists.1 hhas
    have := hd t k p hp
    exact ⟨t, k, e, hrg, this.1, this.2.1, this.2.2.1, this.2.2.2.1⟩
  have hn : (es.toList.map fun x => seatIx x.key).Nodup := by
    have hap := Maps.fit_apart lawSeat F
    rw [List.pairwise_map] at hap
    unfold List.Nodup
    rw [List.pairwise_map]
    refine List.Pairwise.imp_of_mem (fun {x y} hx hy hne hc => ?_) hap
    obtain ⟨t, k, e1, e2, r1, r2, r3, r4⟩ := key x hx
    obtain ⟨t', k', e1', e2', r1', r2', r3', r4'⟩ := key y hy
    rw [e2, e2'] at hne
    rw [e1, e1'] at hc
    simp only [seatIx] at hc
    exact hne (by rw [show t = t' by omega, show k = k' by omega])
  have := few_ints 36 _ hn (fun z hz => by
    obtain ⟨x, hx, rfl⟩ := List.mem_map.1 hz
    obtain ⟨t, k, e1, -, r1, r2, r3, r4⟩ := key x hx
    rw [e1]
    simp only [seatIx]
    omega)
  simpa using this
/-- The map in memory. -/
structure MpX (w : World) (b : Nat) (M : OwnM) : Prop where
  ow : ∃ D : DataW Unit, w.ownsMap Tryz.prog 164 (plainElem Tryz.prog 3) b 36 D ∧ Rep D M
  dom : Dom M
theorem MpX.lt {w : World} {b : Nat} {M : OwnM} (h : MpX w b M) : b < w.heap.size := by obtain ⟨D, h1, -⟩ := h.ow; exact h1.lt
theorem MpX.keep {w w' : World} {b : Nat} {M : OwnM} (h : MpX w b M) (hk : w'.heap[b]? = w.heap[b]?) : MpX w' b M := by
  obtain ⟨⟨D, ⟨es, clock, hb, r⟩, h2⟩, hd⟩ := h
  exact ⟨⟨D, ⟨es, clock, hk.trans hb, r⟩, h2⟩, hd⟩
theorem MpX.below {w w' : World} {b : Nat} {M : OwnM} (h : MpX w b M) (hb : Below w.heap.size w w') : MpX w' b M := h.keep (hb.block b h.lt)
end Go.Proofs.YtjoejjhgneccgaaGreatDoor

/- Whose pages are: made; a thread's page. -/
namespace Go.Proofs.YtjoejjhgneccgaaGreatDoor
open Go.RowKit Go.Maps Go.WideElems

/-- The cache in memory. -/
structure CaX (w : World) (c b : Nat) (th : Int) (M : OwnM) : Prop where
  hd : w.heap[c]? = some (.cells #[.int .i64 th, .map (some b)] 162 (0, 0))
  mp : MpX w b M
  t0 : 0 ≤ th ∧ th ≤ 9
theorem zero_int (w : World) : (zeroValue 3).run Tryz.prog w = .ok (.int .i64 0) w := by kernel_rfl
section
variable {w w' : World} {c b : Nat} {th : Int} {M : OwnM}
theorem CaX.keep (h : CaX w c b th M) (h1 : w'.heap[c]? = w.heap[c]?) (h2 : w'.heap[b]? = w.heap[b]?) : CaX w' c b th M := ⟨h1.trans h.hd, h.mp.keep h2, h.t0⟩
theorem CaX.below (h : CaX w c b th M) (hb : Below w.heap.size w w') : CaX w' c b th M := h.keep (hb.block c (heap_lt h.hd)) (hb.block b h.mp.lt)
theorem CaX.cells (h : CaX w c b th M) : w.cell? ⟨c, 0, none⟩ = some (.int .i64 th) ∧ w.cell? ⟨c, 1, none⟩ = some (.map (some b)) := ⟨cell_of_row _ _ _ _ _ _ h.hd, cell_of_row _ _ _ _ _ _ h.hd⟩
def pageM (M : OwnM) (t k : Int) : Int := (M t k).getD (-1)
set_option maxHeartbeats 1000000 in
theorem capage_any (h : CaX w c b th M) (t k : Int) (ht : wfI t) (hk : wfI k) :
    Calls Tryz.prog 87 #[.pointer (some ⟨c, 0, none⟩), .int .i64 t, .int .i64 k] w fun e w' => e = .returned (.int .i64 (pageM M t k)) ∧ w = w' := by
  obtain ⟨-, c1⟩ := h.cells
  obtain ⟨⟨D, ho, hr⟩, -⟩ := h.mp
  have HO := Lib.hid ho
  have HK := Lib.hid (keyOf_seat ht.wf hk.wf)
  have HH := Lib.hid (hr.has t k ht hk)
  cases hm : M t k with
  | none =>
    have HP := Lib.hid (show pageM M t k = -1 by unfold pageM; rw [hm]; rfl)
    have HH2 := Lib.hid (show Maps.has D (sk t k) = false by rw [HH.out, hm]; rfl)
    clear h ho hr ht hk hm HH
    go_enter Tryz.func87, Tryz.ntmps87
    go_wp2_with (at_lookup; refine wpList_lookup_own_ok_int _ rfl _ _ 160 rfl 164 3 .i64 lawSeat Tryz.underlying160 Tryz.underlying3 (zero_int _) b 36 D (by rfl) HO.out _ (sk t k) (by rfl) HK.out ?_; intro p hat hwc; rw [HH2.out]; clear hat hwc)
    go_ret
    exact ⟨ret_int HP.out.symm, rfl⟩
  | some p =>
    have HP := Lib.hid (show pageM M t k = p by unfold pageM; rw [hm]; rfl)
    have HH2 := Lib.hid (show Maps.has D (sk t k) = true by rw [HH.out, hm]; rfl)
    have HA := Lib.hid (hr.at_ t k p ht hk hm)
    clear h ho hr ht hk hm HH
    go_enter Tryz.func87, Tryz.ntmps87
    go_wp2_with (at_lookup; refine wpList_lookup_own_ok_int _ rfl _ _ 160 rfl 164 3 .i64 lawSeat Tryz.underlying160 Tryz.underlying3 (zero_int _) b 36 D (by rfl) HO.out _ (sk t k) (by rfl) HK.out ?_; intro q hat hwc; rw [HH2.out]; obtain rfl : p = q := (by have e := HA.out.symm.trans hat; simpa using e); clear hat hwc)
    go_ret
    exact ⟨ret_int HP.out.symm, rfl⟩
def CaNew (B : Nat) (t : Int) (e : Ending) (w' : World) : Prop := ∃ c b, e = .returned (.pointer (some ⟨c, 0, none⟩)) ∧ CaX w' c b (clampN t 0 9) (fun _ _ => none) ∧ B ≤ c ∧ B ≤ b
set_option maxHeartbeats 1000000 in
theorem canew_any (t : Int) (w : World) :
    Calls Tryz.prog 110 #[.int .i64 t] w fun e w' => CaNew w.heap.size t e w' ∧ Below w.heap.size w w' := by
  have hmm := @run_makeMap Tryz.prog
  have HB := Lib.hid (clampN_bd (a := t) (lo := 0) (hi := 9) (by omega))
  go_enter Tryz.func110, Tryz.ntmps110
  go_wp2_with (go_at_call 58; refine (clampn_any t 0 9 _).mono ?_; rintro e w1 ⟨rfl, rfl⟩)
  go_ret
  have B1 := (below_alloc0 w (.map #[] 0))
  refine ⟨⟨w.heap.size + 1, w.heap.size, rfl, ⟨?_, ⟨⟨.map [], ?_, rep_empty⟩, fun t k p h => by cases h⟩, HB.out⟩, Nat.le_succ _, Nat.le_refl _⟩, B1.alloc B1.size _⟩
  · have h := heap_alloc_new (w.alloc (.map #[] 0)) (.cells #[.int .i64 (clampN t 0 9), .map (some w.heap.size)] 162)
    rwa [World.size_alloc] at h
  · exact ((World.ownsMap_made w Tryz.prog 164 (plainElem Tryz.prog 3)).alloc _).mono (by decide)
end
end Go.Proofs.YtjoejjhgneccgaaGreatDoor
