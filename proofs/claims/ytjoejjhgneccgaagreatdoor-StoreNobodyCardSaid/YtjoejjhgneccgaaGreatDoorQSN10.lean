/- Cells, in plain lists: a page carved. -/
import Derived.Test.YtjoejjhgneccgaaGreatDoorQSN09
namespace Go.Proofs.YtjoejjhgneccgaaGreatDoor
open Go.RowKit

/-- All cells of a class's page. -/
def allC (k : Int) : List Int := (List.range' 0 (cellsI k).toNat).map Int.ofNat
def upd (F : Nat → List Int) (p : Nat) (l : List Int) : Nat → List Int := fun q => if q = p then l else F q
theorem upd_same (F : Nat → List Int) (p : Nat) (l : List Int) : upd F p l p = l := if_pos rfl
theorem upd_other {F : Nat → List Int} {p q : Nat} (l : List Int) (h : q ≠ p) : upd F p l q = F q := if_neg h
theorem allC_mem {k i : Int} : i ∈ allC k ↔ 0 ≤ i ∧ i < cellsI k := by
  unfold allC
  rw [List.mem_map]
  constructor
  · rintro ⟨j, hj, rfl⟩
    rw [List.mem_range'_1] at hj
    exact ⟨by simp, by have := hj.2; simp; omega⟩
  · rintro ⟨h0, h1⟩
    exact ⟨i.toNat, by rw [List.mem_range'_1]; omega, by simp; omega⟩
theorem allC_nodup (k : Int) : (allC k).Nodup := by
  unfold allC
  refine List.Pairwise.map _ (fun a b h => ?_) (List.nodup_range' (step := 1) (by decide))
  intro e; exact h (Int.ofNat.inj e)
theorem allC_len (k : Int) : (allC k).length = (cellsI k).toNat := by simp [allC]
theorem linkL_at {xs : List Int} {p : Nat} {k : Int} (hk : 1 ≤ k ∧ k ≤ 4) (hl : 32 * p + 32 ≤ xs.length) : ∀ j : Nat, (j : Int) ≤ cellsI k →
    (∀ i : Nat, i < j → (linkL xs p k j).getD (cad p k i).toNat 0 = -1 - ((i : Int) + 1)) ∧ (∀ a, a < xs.length → (a < 32 * p ∨ 32 * p + 32 ≤ a) → (linkL xs p k j).getD a 0 = xs.getD a 0)
  | 0, _ => ⟨fun i h => absurd h (by omega), fun _ _ _ => rfl⟩
  | j + 1, hj => by
    obtain ⟨h1, h2⟩ := linkL_at hk hl j (by omega)
    have hc := cad_page (p := p) hk (i := (j : Int)) (by omega) (by omega)
    have hs := sizeI_pos hk
    constructor
    · intro i hi
      have hci := cad_page (p := p) hk (i := (i : Int)) (by omega) (by omega)
      rw [linkL, putL_get (by rw [linkL_len]; omega)]
      by_cases e : i = j
      · subst e
        rw [if_pos hci.2.2]
      · have := cad_ne (p := (p : Int)) (k := k) (i := (i : Int)) (j := (j : Int)) (by omega) hk (by omega) (by omega) (by omega)
        rw [if_neg (by omega), h1 i (by omega)]
    · intro a ha hp
      rw [linkL, putL_get (by rw [linkL_len]; exact ha), if_neg (by omega), h2 a ha hp]
theorem buildL_at {xs : List Int} {p : Nat} {k : Int} (hk : 1 ≤ k ∧ k ≤ 4) (hl : 32 * p + 32 ≤ xs.length) :
    (∀ i : Nat, (i : Int) < cellsI k → (buildL xs p k).getD (cad p k i).toNat 0 = -1 - ((i : Int) + 1)) ∧ (∀ a, a < xs.length → (a < 32 * p ∨ 32 * p + 32 ≤ a) → (buildL xs p k).getD a 0 = xs.getD a 0) := by
  have hc := cellsI_pos hk
  have e : ((p : Int) * 32).toNat = 32 * p := by omega
  obtain ⟨h1, h2⟩ := linkL_at (xs := fillL xs (32 * p) 32 0) (p := p) hk (by rw [fillL_len]; exact hl) (cellsI k).toNat (by omega)
  unfold buildL
  rw [e]
  refine ⟨fun i hi => h1 i (by omega), fun a ha hp => ?_⟩
  rw [h2 a (by rw [fillL_len]; exact ha) hp, fillL_get _ _ _ _ _ ha, if_neg (by omega)]
theorem lnk_all {xs : List Int} {p : Nat} {k : Int} (hk : 1 ≤ k ∧ k ≤ 4) (h : ∀ i : Nat, (i : Int) < cellsI k → xs.getD (cad p k i).toNat 0 = -1 - ((i : Int) + 1)) :
    ∀ (d i : Nat), ((i + d : Nat) : Int) = cellsI k → Lnk xs p k i ((List.range' i d).map Int.ofNat)
  | 0, i, e => by show (i : Int) = cellsI k; omega
  | d + 1, i, e => by
    rw [List.range'_succ, List.map_cons]
    exact ⟨rfl, by simp, by simp; omega, (i : Int) + 1, by omega, by omega, h i (by omega), by
      have := lnk_all hk h d (i + 1) (by omega)
      simpa using this⟩
theorem idx_lt {k : Int} (hk : 1 ≤ k ∧ k ≤ 4) (a : Nat) : 0 ≤ (a : Int) % 32 / sizeI k ∧ (a : Int) % 32 / sizeI k < cellsI k := by
  have hc : k = 1 ∨ k = 2 ∨ k = 3 ∨ k = 4 := by omega
  rcases hc with rfl | rfl | rfl | rfl <;> simp [cellsI, sizeI] <;> omega
theorem tkB_same {C C' : Cs} {F F' : Nat → List Int} {a : Nat} (h1 : C'.ks.getD (a / 32) 0 = C.ks.getD (a / 32) 0) (h2 : F' (a / 32) = F (a / 32)) : tkB C' F' a = tkB C F a := by
  unfold tkB; rw [h1, h2]
theorem idx0_zero : ∀ {ks : List Int} {m : Nat}, idx0 ks = some m → ks.getD m 0 = 0
  | [], m, h => by simp [idx0] at h
  | x :: xs, m, h => by
    unfold idx0 at h
    split at h
    · rename_i hx
      obtain rfl : 0 = m := by simpa using h
      simpa using hx
    · cases h1 : idx0 xs with
      | none => rw [h1] at h; simp at h
      | some j =>
        rw [h1] at h
        obtain rfl : j + 1 = m := by simpa using h
        have := idx0_zero h1
        simpa using this
theorem inv_carve {C : Cs} {F : Nat → List Int} {k : Int} {p : Nat} (h : Inv C F) (ht : takeT C.ks k = some p) : Inv (carveC C k) (upd F p (allC k)) := by
  have hz : sizeI k ≠ 0 := by intro e; unfold takeT at ht; rw [if_pos e] at ht; cases ht
  have hk : 1 ≤ k ∧ k ≤ 4 := by
    apply Decidable.byContradiction; intro hc
    exact hz (sizeI_zero (by omega))
  have hi : idx0 C.ks = some p := by unfold takeT at ht; rw [if_neg hz] at ht; exact ht
  have hpl := idx0_lt hi
  have hp0 := idx0_zero hi
  have hc : carveC C k = { C with ks := C.ks.set p k, ch := C.ch.set p (0, cellsI k), xs := buildL C.xs p k } := by unfold carveC; rw [ht]
  have hcl := cellsI_pos hk
  have hlen := h.len
  have hle := h.le
  have hb := buildL_at (xs := C.xs) (p := p) hk (by omega)
  rw [hc]
  have kq : ∀ q, q ≠ p → (C.ks.set p k).getD q 0 = C.ks.getD q 0 := fun q hq => getD_set_other (fun e => hq e.symm) _ _
  have kp : (C.ks.set p k).getD p 0 = k := getD_set_same hpl _ _
  refine ⟨by simpa using hle, ?_, by simpa using h.chl, h.wl, fun q hq => ?_, fun q hq h6 => ?_, fun q hq k1 k4 => ?_, fun a ha => ?_, fun a ha ha2 => h.tp a (by simpa using ha) ha2⟩
  · show (buildL C.xs p k).length = 32 * (C.ks.set p k).length
    rw [buildL_len, List.length_set]; exact hlen
  · rw [List.length_set] at hq
    by_cases e : q = p
    · subst e; rw [kp]; omega
    · rw [kq q e]; exact h.kd q hq
  · rw [List.length_set] at hq
    have e : q ≠ p := by rintro rfl; rw [kp] at h6; omega
    rw [kq q e] at h6
    obtain ⟨g0, g1⟩ := h.sx q hq h6
    have e2 : q - 1 ≠ p := by intro e2; rw [e2, hp0] at g1; omega
    exact ⟨g0, by rw [kq _ e2]; exact g1⟩
  · rw [List.length_set] at hq
    by_cases e : q = p
    · subst e
      rw [kp] at k1 k4 ⊢
      rw [upd_same]
      refine ⟨?_, ?_, allC_nodup k⟩
      · rw [show (C.ch.set q (0, cellsI k)).getD q (0, 0) = (0, cellsI k) from getD_set_same (by rw [h.chl]; omega) _ _]
        exact lnk_all hk hb.1 (cellsI k).toNat 0 (by omega)
      · rw [show (C.ch.set q (0, cellsI k)).getD q (0, 0) = (0, cellsI k) from getD_set_same (by rw [h.chl]; omega) _ _, allC_len]
        omega
    · rw [kq q e] at k1 k4 ⊢
      rw [upd_other _ e, show (C.ch.set p (0, cellsI k)).getD q (0, 0) = C.ch.getD q (0, 0) from getD_set_other (fun e2 => e e2.symm) _ _]
      obtain ⟨g1, g2, g3⟩ := h.ln q hq k1 k4
      refine ⟨g1.keep fun i hi => ?_, g2, g3⟩
      have hm := g1.mem i hi
      have hcp := cad_page (p := q) ⟨k1, k4⟩ hm.1 hm.2
      have hs := sizeI_pos ⟨k1, k4⟩
      exact hb.2 _ (by omega) (by omega)
  · rw [List.length_set] at ha
    rw [show bit C.ws a = tkB C F a from h.bt a ha]
    by_cases e : a / 32 = p
    · unfold tkB
      rw [e, kp, hp0, if_neg (by omega), if_pos hk, upd_same]
      have := idx_lt hk a
      have hm : (a : Int) % 32 / sizeI k ∈ allC k := allC_mem.2 this
      simp [hm]
    · exact (tkB_same (kq _ e) (upd_other _ e)).symm
end Go.Proofs.YtjoejjhgneccgaaGreatDoor

/- Cells: one taken. -/
namespace Go.Proofs.YtjoejjhgneccgaaGreatDoor
open Go.RowKit

section
variable {w : World} {b : Bl} {C : Cs}
theorem ctake_no (h : CX w b C) (p : Int) (h0 : leftL C p = 0) :
    Calls Tryz.prog 86 #[.pointer (some ⟨b.c, 0, none⟩), .int .i64 p] w fun e w' => e = .returned (.tuple #[.int .i64 0, .bool false]) ∧ Below w.heap.size w w' := by
  have H := Lib.hid h
  have HL := Lib.hid h0
  clear h h0
  go_enter Tryz.func86, Tryz.ntmps86
  go_wp2_with (go_at_call 139; refine (cleft_any H.out p).mono ?_; rw [HL.out]; rintro e w' ⟨rfl, hb⟩; have HB := Lib.hid hb; clear hb)
  go_ret2
  exact ⟨rfl, HB.out⟩
def takeC (C : Cs) (q : Nat) (k f n y : Int) : Cs :=
  { C with ch := C.ch.set q (-1 - y, n - 1), ws := addL C.xs.length C.ws (cad q k f), xs := fillL C.xs (cad q k f).toNat (sizeI k).toNat 0 }
/-- A page of a small class, whose chain tells a free cell. -/
structure TakeP (C : Cs) (q : Nat) (k f n y : Int) : Prop where
  q0 : q < C.ks.length
  kd : kindL C.ks q = k
  k0 : 1 ≤ k
  k1 : k ≤ 4
  ch : C.ch.getD q (0, 0) = (f, n)
  n0 : 1 ≤ n
  n1 : n ≤ 1000000
  f0 : 0 ≤ f
  f1 : f < cellsI k
  wd : C.xs.getD (cad q k f).toNat 0 = y
  y0 : y < 0
  y1 : -1 - cellsI k ≤ y
set_option maxHeartbeats 16000000 in
set_option maxRecDepth 100000 in
theorem ctake_ok (h : CX w b C) (q : Nat) (k f n y : Int) (t : TakeP C q k f n y) :
    Calls Tryz.prog 86 #[.pointer (some ⟨b.c, 0, none⟩), .int .i64 q] w fun e w' => e = .returned (.tuple #[.int .i64 (cad q k f), .bool true]) ∧ CX w' b (takeC C q k f n y) ∧ Frm b.fp w w' := by
  have H := Lib.hid h
  have hs : 0 < sizeI (kindL C.ks q) := by rw [t.kd]; have := sizeI_pos ⟨t.k0, t.k1⟩; omega
  have hl : leftL C q = n := by unfold leftL; rw [if_pos hs, Int.toNat_natCast, t.ch]
  have HL := Lib.hid hl
  have hne : (n == 0) = false := by have := t.n0; simp; omega
  have HK := Lib.hid t.kd
  have hq64 : q < 64 := by have := t.q0; have := h.tx.le; omega
  have HQ := Lib.hid hq64
  have HO := Lib.hid (show OpP C.xs.length q k from ⟨by omega, by omega, t.k0, t.k1, by rw [h.len]; have := t.q0; omega⟩)
  have T := Lib.hid t
  have HA := Lib.hid (cad_in HO.out t.f0 t.f1).1
  have q1 : (0 : Int) ≤ (q : Int) := by omega
  have q2 : (q : Int) < 64 := by omega
  have HS := Lib.hid (sizeI_pos ⟨t.k0, t.k1⟩)
  have F0 := Lib.hid (Frm.refl b.fp w)
  clear h t hs hl hq64
  go_enter Tryz.func86, Tryz.ntmps86
  go_wp2_with (first
    | (go_at_call 139; refine (cleft_any H.out q).mono ?_; rw [HL.out]; rintro e w1 ⟨rfl, hb⟩; have H1 := Lib.hid (H.out.below hb); have F1 := Lib.hid (F0.out.trans (Frm.of_below b.fp hb) (fun x hx => .inl hx)); clear hb)
    | (go_at_call 106; refine (ckind_any H1.out q).mono ?_; rw [HK.out]; rintro e w2 ⟨rfl, hb⟩; have hx := H1.out.below hb; have H2 := Lib.hid hx; have F2 := Lib.hid (F1.out.trans (Frm.of_below b.fp hb) (fun x hx => .inl hx)); obtain ⟨-, d1, -⟩ := hx.cells; obtain ⟨d3, d4, -⟩ := hx.chain HQ.out; rw [T.out.ch] at d3 d4; clear hb hx))
  have G2 : Hid (CX w2.drew b C) := Lib.hid (H2.out.below (Below.refl _ _).drew)
  have E2 : Hid (Frm b.fp w w2.drew) := Lib.hid (F2.out.trans (Frm.of_below b.fp (Below.refl _ _).drew) (fun x hx => .inl hx))
  have bz : Below w2.heap.size w2 (w2.alloc (.cells #[.int .i64 0, .int .i64 0] 148)).drew := (below_alloc0 w2 _).drew
  have G3 : Hid (CX (w2.alloc (.cells #[.int .i64 0, .int .i64 0] 148)).drew b C) := Lib.hid (H2.out.below bz)
  have E3 : Hid (Frm b.fp w (w2.alloc (.cells #[.int .i64 0, .int .i64 0] 148)).drew) := Lib.hid (F2.out.trans (Frm.of_below b.fp bz) (fun x hx => .inl hx))
  have Z3 : Hid ((w2.alloc (.cells #[.int .i64 0, .int .i64 0] 148)).drew.heap[w2.heap.size]? = some (.cells #[.int .i64 0, .int .i64 0] 148 (0, 0))) := Lib.hid (heap_alloc_new w2 _)
  have hbz := F2.out.size
  have hcn : b.c ≠ w2.heap.size := Nat.ne_of_lt (heap_lt H2.out.hd)
  clear bz
  go_region_held3 (fun w' => w'.cell? ⟨b.c, 1, none⟩ = some (.pointer (some ⟨b.m, 0, none⟩)) ∧ w'.cell? ⟨b.c, 2 + q * 2, none⟩ = some (.int .i64 f) ∧ w'.cell? ⟨b.c, 2 + q * 2 + 1, none⟩ = some (.int .i64 n)) (first | (go_split_ands; exact ⟨by assumption, by assumption, by assumption⟩) | (go_split_ands; exact ⟨cell_setB hcn (by assumption), cell_setB hcn (by assumption), cell_setB hcn (by assumption)⟩) | go_keep)
    (first
      | ((go_at_call 140; with_reducible refine (ctake_yes G2.out.mx q k f n y HO.out T.out.n0 T.out.n1 T.out.f0 T.out.f1 T.out.wd T.out.y0 T.out.y1).mono ?_); rintro e w3 ⟨rfl, hb⟩; have hx := G2.out.below hb; have H3 := Lib.hid hx; have F3 := Lib.hid (E2.out.trans (Frm.of_below b.fp hb) (fun x hx => .inl hx)); obtain ⟨-, e1, -⟩ := hx.cells; obtain ⟨e3, e4, -⟩ := hx.chain HQ.out; rw [T.out.ch] at e3 e4; have hcl : b.c < w3.heap.size := heap_lt hx.hd; clear hb hx)
      | ((go_at_call 140; with_reducible refine (ctake_yes G3.out.mx q k f n y HO.out T.out.n0 T.out.n1 T.out.f0 T.out.f1 T.out.wd T.out.y0 T.out.y1).mono ?_); rintro e w3 ⟨rfl, hb⟩; have hx := G3.out.below hb; have H3 := Lib.hid hx; have F3 := Lib.hid (E3.out.trans (Frm.of_below b.fp hb) (fun x hx => .inl hx)); have z := keep hb Z3.out; have Z4 := Lib.hid z; have z1 : w3.cell? ⟨w2.heap.size, 0, none⟩ = some (.int .i64 0) := cell_of_row _ _ _ _ _ _ z; have z2 : w3.cell? ⟨w2.heap.size, 1, none⟩ = some (.int .i64 0) := cell_of_row _ _ _ _ _ _ z; have z3 := frozen_of_row w3 w2.heap.size 0 _ _ z; have z4 := frozen_of_row w3 w2.heap.size 1 _ _ z; obtain ⟨-, e1, -⟩ := hx.cells; obtain ⟨e3, e4, -⟩ := hx.chain HQ.out; rw [T.out.ch] at e3 e4; have hcl : b.c < w3.heap.size := heap_lt hx.hd; clear hb hx z))
  all_goals
    rename_i hheld
    clear hheld
  all_goals first
    | (
       have hzn : ∀ j ∈ b.fp, j ≠ w2.heap.size := fun j hj => Nat.ne_of_lt (H2.out.lt j hj)
       have A4 : CX ((w3.setCell ⟨w2.heap.size, 0, none⟩ (.int .i64 (-1 - y))).setCell ⟨w2.heap.size, 1, none⟩ (.int .i64 (n - 1))) b C := H3.out.keep fun j hj => (heap_setCell_other _ _ _ _ (hzn j hj)).trans (heap_setCell_other _ _ _ _ (hzn j hj))
       have E4 : Frm b.fp w ((w3.setCell ⟨w2.heap.size, 0, none⟩ (.int .i64 (-1 - y))).setCell ⟨w2.heap.size, 1, none⟩ (.int .i64 (n - 1))) := (F3.out.trans_new (Frm.setCell w3 (fp := [w2.heap.size]) (by simp) _) (by simpa using hbz)).trans_new (Frm.setCell _ (fp := [w2.heap.size]) (by simp) _) (by simpa using hbz)
       have Z5 : ((w3.setCell ⟨w2.heap.size, 0, none⟩ (.int .i64 (-1 - y))).setCell ⟨w2.heap.size, 1, none⟩ (.int .i64 (n - 1))).heap[w2.heap.size]? = some (.cells #[.int .i64 (-1 - y), .int .i64 (n - 1)] 148 (0, 0)) := heap_setCell_same _ _ 1 _ _ _ (heap_setCell_same _ _ 0 _ _ _ Z4.out)
       have hzw : w.heap.size ≤ w2.heap.size := hbz
       generalize (w3.setCell ⟨w2.heap.size, 0, none⟩ (.int .i64 (-1 - y))).setCell ⟨w2.heap.size, 1, none⟩ (.int .i64 (n - 1)) = W at A4 E4 Z5 ⊢
       generalize w2.heap.size = z at Z5 hzw ⊢)
    | (
       have A4 := H3.out.below (below_alloc0 w3 (.cells #[.int .i64 (-1 - y), .int .i64 (n - 1)] 148))
       have E4 := F3.out.trans (Frm.of_below b.fp (below_alloc0 w3 (.cells #[.int .i64 (-1 - y), .int .i64 (n - 1)] 148))) (fun x hx => .inl hx)
       have Z5 := heap_alloc_new w3 (.cells #[.int .i64 (-1 - y), .int .i64 (n - 1)] 148)
       have hzw : w.heap.size ≤ w3.heap.size := F3.out.size
       generalize w3.alloc (.cells #[.int .i64 (-1 - y), .int .i64 (n - 1)] 148) = W at A4 E4 Z5 ⊢
       generalize w3.heap.size = z at Z5 hzw ⊢)
  all_goals
    replace A4 := Lib.hid A4
    replace E4 := Lib.hid E4
    have y0 : W.cell? ⟨z, 0, none⟩ = some (.int .i64 (-1 - y)) := cell_of_row _ _ _ _ _ _ Z5
    have y1 : W.cell? ⟨z, 1, none⟩ = some (.int .i64 (n - 1)) := cell_of_row _ _ _ _ _ _ Z5
    replace Z5 := Lib.hid Z5
    obtain ⟨t3, t4, t5, t6⟩ := A4.out.chain HQ.out
    rw [T.out.ch] at t3 t4
    have hzc : z ≠ b.c := by have := heap_lt H.out.hd; omega
    go_wp2_with (go_at_call 141; refine (at_cad q k f HA.out _).mono ?_; rintro e w' ⟨rfl, rfl⟩)
    go_region_held3 (fun w' => w'.cell? ⟨z, 0, none⟩ = some (.int .i64 (-1 - y)) ∧ w'.cell? ⟨z, 1, none⟩ = some (.int .i64 (n - 1))) (first | (go_split_ands; exact ⟨cell_setB hzc (by assumption), cell_setB hzc (by assumption)⟩) | go_keep) (fail)
    rename_i hheld
    clear hheld
    have A6 := (A4.out.setChain HQ.out (-1 - y, n - 1)).below (Below.refl _ _).drew
    have E6 : Frm b.fp w ((W.setCell ⟨b.c, 2 + q * 2, none⟩ (.int .i64 (-1 - y))).setCell ⟨b.c, 2 + q * 2 + 1, none⟩ (.int .i64 (n - 1))).drew :=
      (E4.out.trans ((Frm.setCell _ (fp := b.fp) (by simp [Bl.fp]) _).trans (Frm.setCell _ (fp := b.fp) (by simp [Bl.fp]) _) (fun x hx => .inl hx)) (fun x hx => .inl hx)).trans (Frm.of_below b.fp (Below.refl _ _).drew) (fun x hx => .inl hx)
    generalize ((W.setCell ⟨b.c, 2 + q * 2, none⟩ (.int .i64 (-1 - y))).setCell ⟨b.c, 2 + q * 2 + 1, none⟩ (.int .i64 (n - 1))).drew = V at A6 E6 ⊢
    obtain ⟨-, v1, v3⟩ := A6.cells
    replace A6 := Lib.hid A6
    replace E6 := Lib.hid E6
    clear t3 t4 t5 t6 y0 y1
    have hcad := cad_in HO.out T.out.f0 T.out.f1
    have HC := Lib.hid hcad
    clear hcad
    go_wp2_with (go_at_call 113; refine (add_any A6.out.sx _).mono ?_; rintro e w7 ⟨rfl, hs, hf⟩; have hx := A6.out.withSx hf hs; have H7 := Lib.hid hx; have F7 := Lib.hid (E6.out.trans (hf.sub (fp' := b.fp) (by simp [Bl.fp])) (fun x hx => .inl hx)); obtain ⟨-, u1, -⟩ := hx.cells; clear hs hf hx)
    have M7 : Hid (CX w7.drew b { C with ch := C.ch.set q (-1 - y, n - 1), ws := addL C.xs.length C.ws (cad q k f) }) := Lib.hid (H7.out.below (Below.refl _ _).drew)
    go_region_held3 (fun w' => w'.cell? ⟨b.c, 1, none⟩ = some (.pointer (some ⟨b.m, 0, none⟩))) (first | assumption | go_keep)
      (first
        | ((go_at_call 138; refine (size_any k _).mono ?_; rintro e w8 ⟨rfl, rfl⟩))
        | ((go_at_call 142; refine (fill_int M7.out.mx (cad q k f) (sizeI k) 0 HC.out.2.1 (by have := HS.out; omega) (by have := HO.out.fit; have h9 := HC.out.2.2.2.1; have e9 : (({ C with ch := C.ch.set q (-1 - y, n - 1), ws := addL C.xs.length C.ws (cad q k f) } : Cs).xs.length) = C.xs.length := rfl; rw [e9]; omega)).mono ?_; rintro e w9 ⟨rfl, hm, hf⟩; have hx := M7.out.withMx hf hm (fillL_len _ _ _ _); have H9 := Lib.hid hx; have F9 := Lib.hid ((F7.out.trans (Frm.of_below b.fp (Below.refl _ _).drew) (fun x hx => .inl hx)).trans (hf.sub (fp' := b.fp) (by simp [Bl.fp])) (fun x hx => .inl hx)); obtain ⟨-, u9, -⟩ := hx.cells; clear hm hf hx)))
    go_wp2_with fail
    go_ret2
    exact ⟨rfl, H9.out, F9.out⟩
end
end Go.Proofs.YtjoejjhgneccgaaGreatDoor

/- Cells: given back; a page dropped. -/
namespace Go.Proofs.YtjoejjhgneccgaaGreatDoor
open Go.RowKit

section
variable {w : World} {b : Bl} {C : Cs}
theorem cgive_no (h : CX w b C) (a : Int) (hb : hasB C.xs.length C.ws a = false) :
    Calls Tryz.prog 97 #[.pointer (some ⟨b.c, 0, none⟩), .int .i64 a] w fun e w' => e = .returned (.bool false) ∧ w = w' := by
  have H := Lib.hid h
  have HB := Lib.hid hb
  clear h hb
  go_enter Tryz.func97, Tryz.ntmps97
  go_wp2_with (go_at_call 150; refine (cisa_any H.out a).mono ?_; rw [HB.out]; rintro e w' ⟨rfl, rfl⟩)
  go_ret
  exact ⟨rfl, rfl⟩
def giveL (C : Cs) (a : Int) : Cs := { C with ws := remL C.xs.length C.ws a, ks := freeL C.ks (pageI a) }
set_option maxHeartbeats 4000000 in
theorem cgive_large (h : CX w b C) (a : Int) (hb : hasB C.xs.length C.ws a = true) (hk : kindL C.ks (pageI a) = 5) :
    Calls Tryz.prog 97 #[.pointer (some ⟨b.c, 0, none⟩), .int .i64 a] w fun e w' => e = .returned (.bool true) ∧ CX w' b (giveL C a) ∧ Frm b.fp w w' := by
  have H := Lib.hid h
  have HB := Lib.hid hb
  have HK := Lib.hid hk
  obtain ⟨-, -, c3⟩ := h.cells
  clear h hb hk
  go_enter Tryz.func97, Tryz.ntmps97
  go_wp2_with (first
    | (go_at_call 150; refine (cisa_any H.out a).mono ?_; rw [HB.out]; rintro e w' ⟨rfl, rfl⟩)
    | (go_at_call 115; refine (rem_any H.out.sx a).mono ?_; rintro e w1 ⟨rfl, hs, hf⟩; have hx := H.out.withSx hf hs; have H1 := Lib.hid hx; have F1 := Lib.hid (hf.sub (fp' := b.fp) (by simp [Bl.fp])); clear hs hf hx)
    | (go_at_call 103; refine (gpage_any a _).mono ?_; rintro e w' ⟨rfl, rfl⟩)
    | (go_at_call 106; refine (ckind_any H1.out _).mono ?_; rw [HK.out]; rintro e w2 ⟨rfl, hb⟩; have hx := H1.out.below hb; have H2 := Lib.hid hx; have F2 := Lib.hid (F1.out.trans (Frm.of_below b.fp hb) (fun x hx => .inl hx)); obtain ⟨d0, -, -⟩ := hx.cells; clear hb hx)
    | (go_at_call 151; refine (pfree_any H2.out.tx _).mono ?_; rintro e w3 ⟨rfl, ht, hf⟩; have H3 := Lib.hid (H2.out.withTx hf ht (freeL_len _ _)); have F3 := Lib.hid (F2.out.trans (hf.sub (fp' := b.fp) (by simp [Bl.fp])) (fun x hx => .inl hx)); clear ht hf))
  go_ret
  exact ⟨rfl, H3.out, F3.out⟩
def giveS (C : Cs) (a : Int) (q : Nat) (k i f n : Int) : Cs := { C with ws := remL C.xs.length C.ws a, ch := C.ch.set q (i, n + 1), xs := putL C.xs (cad q k i) (-1 - f) }
/-- A cell of a small class's page, that may be given back. -/
structure GiveP (C : Cs) (a : Int) (q : Nat) (k i f n : Int) : Prop where
  q0 : q < C.ks.length
  pg : pageI a = q
  a0 : 0 ≤ a
  a1 : a < 2048
  kd : kindL C.ks q = k
  k0 : 1 ≤ k
  k1 : k ≤ 4
  al : a % sizeI k = 0
  ix : a % 32 / sizeI k = i
  i0 : 0 ≤ i
  i1 : i < cellsI k
  ch : C.ch.getD q (0, 0) = (f, n)
  n0 : 0 ≤ n
  n1 : n < cellsI k
  f0 : 0 ≤ f
  f1 : f ≤ cellsI k
set_option maxHeartbeats 8000000 in
set_option maxRecDepth 100000 in
theorem cgive_small (h : CX w b C) (a : Int) (hb : hasB C.xs.length C.ws a = true) (q : Nat) (k i f n : Int) (t : GiveP C a q k i f n) :
    Calls Tryz.prog 97 #[.pointer (some ⟨b.c, 0, none⟩), .int .i64 a] w fun e w' => e = .returned (.bool true) ∧ CX w' b (giveS C a q k i f n) ∧ Frm b.fp w w' := by
  have H := Lib.hid h
  have HB := Lib.hid hb
  have HK := Lib.hid t.kd
  have HPG := Lib.hid t.pg
  have hk5 : (k == 5) = false := by have := t.k1; simp; omega
  have hq64 : q < 64 := by have := t.q0; have := h.tx.le; omega
  have HQ := Lib.hid hq64
  have HO := Lib.hid (show OpP C.xs.length q k from ⟨by omega, by omega, t.k0, t.k1, by rw [h.len]; have := t.q0; omega⟩)
  have T := Lib.hid t
  have HSZ := Lib.hid (show sizeI k ≠ 0 by have := sizeI_pos ⟨t.k0, t.k1⟩; omega)
  have q1 : (0 : Int) ≤ (q : Int) := by omega
  have q2 : (q : Int) < 64 := by omega
  obtain ⟨-, -, c3⟩ := h.cells
  clear h hb t hq64
  go_enter Tryz.func97, Tryz.ntmps97
  go_wp2_with (first
    | (go_at_call 150; refine (cisa_any H.out a).mono ?_; rw [HB.out]; rintro e w' ⟨rfl, rfl⟩)
    | (go_at_call 115; refine (rem_any H.out.sx a).mono ?_; rintro e w1 ⟨rfl, hs, hf⟩; have hx := H.out.withSx hf hs; have H1 := Lib.hid hx; have F1 := Lib.hid (hf.sub (fp' := b.fp) (by simp [Bl.fp])); clear hs hf hx)
    | (go_at_call 103; refine (gpage_any a _).mono ?_; rw [HPG.out]; rintro e w' ⟨rfl, rfl⟩)
    | (go_at_call 106; refine (ckind_any H1.out _).mono ?_; rw [HK.out]; rintro e w2 ⟨rfl, hb⟩; have hx := H1.out.below hb; have H2 := Lib.hid hx; have F2 := Lib.hid (F1.out.trans (Frm.of_below b.fp hb) (fun x hx => .inl hx)); obtain ⟨-, d1, -⟩ := hx.cells; obtain ⟨d3, d4, -, -⟩ := hx.chain HQ.out; rw [T.out.ch] at d3 d4; clear hb hx)
    | (go_at_call 152; refine (gcell_yes k a HSZ.out T.out.a0 T.out.a1 T.out.al _).mono ?_; rw [T.out.ix]; rintro e w' ⟨rfl, rfl⟩))
  have G2 : Hid (CX w2.drew b { C with ws := remL C.xs.length C.ws a }) := Lib.hid (H2.out.below (Below.refl _ _).drew)
  have E2 : Hid (Frm b.fp w w2.drew) := Lib.hid (F2.out.trans (Frm.of_below b.fp (Below.refl _ _).drew) (fun x hx => .inl hx))
  go_region_with ((go_at_call 153; refine (cgive_yes G2.out.mx q k f n i HO.out T.out.n0 T.out.n1 T.out.f0 T.out.f1 T.out.i0 T.out.i1).mono ?_; rintro e w3 ⟨rfl, hm, hf⟩; have hx := G2.out.withMx hf hm (putL_len _ _ _); have H3 := Lib.hid hx; have F3 := Lib.hid (E2.out.trans (hf.sub (fp' := b.fp) (by simp [Bl.fp])) (fun x hx => .inl hx)); obtain ⟨-, e1, -⟩ := hx.cells; obtain ⟨e3, e4, e5, e6⟩ := hx.chain HQ.out; rw [show ({ C with ws := remL C.xs.length C.ws a, xs := putL C.xs (cad q k i) (-1 - f) } : Cs).ch = C.ch from rfl, T.out.ch] at e3 e4; clear hm hf hx))
  all_goals
    go_wp2_with fail
    go_ret
    exact ⟨rfl, H3.out.setChain HQ.out (i, n + 1), F3.out.trans ((Frm.setCell _ (fp := b.fp) (by simp [Bl.fp]) _).trans (Frm.setCell _ (fp := b.fp) (by simp [Bl.fp]) _) (fun x hx => .inl hx)) (fun x hx => .inl hx)⟩
set_option maxHeartbeats 4000000 in
theorem cdrop_no (h : CX w b C) (p : Int) (hd : ¬ (0 < sizeI (kindL C.ks p) ∧ cellsI (kindL C.ks p) ≤ leftL C p)) :
    Calls Tryz.prog 100 #[.pointer (some ⟨b.c, 0, none⟩), .int .i64 p] w fun e w' => e = .returned (.bool false) ∧ Below w.heap.size w w' := by
  have H := Lib.hid h
  clear h
  by_cases hs : 0 < sizeI (kindL C.ks p)
  · have hl : leftL C p < cellsI (kindL C.ks p) := by omega
    have HS := Lib.hid (show decide (0 < sizeI (kindL C.ks p)) = true by simpa using hs)
    clear hd hs
    go_enter Tryz.func100, Tryz.ntmps100
    go_wp2_with (first
      | (go_at_call 156; refine (csmall_any H.out p).mono ?_; rw [HS.out]; rintro e w1 ⟨rfl, hb⟩; have H1 := Lib.hid (H.out.below hb); have B1 := Lib.hid hb; clear hb)
      | (go_at_call 139; refine (cleft_any H1.out p).mono ?_; rintro e w2 ⟨rfl, hb⟩; have H2 := Lib.hid (H1.out.below hb); have B2 := Lib.hid (below_next B1.out hb); clear hb)
      | (go_at_call 106; refine (ckind_any H2.out p).mono ?_; rintro e w3 ⟨rfl, hb⟩; have B3 := Lib.hid (below_next B2.out hb); clear hb)
      | (go_at_call 157; refine (cells_any _ _).mono ?_; rintro e w' ⟨rfl, rfl⟩))
    go_ret
    exact ⟨rfl, B3.out⟩
  · have HS := Lib.hid (show decide (0 < sizeI (kindL C.ks p)) = false by simpa using hs)
    clear hd hs
    go_enter Tryz.func100, Tryz.ntmps100
    go_wp2_with (go_at_call 156; refine (csmall_any H.out p).mono ?_; rw [HS.out]; rintro e w1 ⟨rfl, hb⟩; have B1 := Lib.hid hb; clear hb)
    go_ret
    exact ⟨rfl, B1.out⟩
set_option maxHeartbeats 4000000 in
theorem cdrop_yes (h : CX w b C) (p : Int) (hs : 0 < sizeI (kindL C.ks p)) (hl : cellsI (kindL C.ks p) ≤ leftL C p) :
    Calls Tryz.prog 100 #[.pointer (some ⟨b.c, 0, none⟩), .int .i64 p] w fun e w' => e = .returned (.bool true) ∧ CX w' b { C with ks := freeL C.ks p } ∧ Frm b.fp w w' := by
  have H := Lib.hid h
  have hl' : ¬ (leftL C p < cellsI (kindL C.ks p)) := by omega
  have HS := Lib.hid (show decide (0 < sizeI (kindL C.ks p)) = true by simpa using hs)
  clear h hs hl
  go_enter Tryz.func100, Tryz.ntmps100
  go_wp2_with (first
    | (go_at_call 156; refine (csmall_any H.out p).mono ?_; rw [HS.out]; rintro e w1 ⟨rfl, hb⟩; have H1 := Lib.hid (H.out.below hb); have B1 := Lib.hid hb; clear hb)
    | (go_at_call 139; refine (cleft_any H1.out p).mono ?_; rintro e w2 ⟨rfl, hb⟩; have H2 := Lib.hid (H1.out.below hb); have B2 := Lib.hid (below_next B1.out hb); clear hb)
    | (go_at_call 106; refine (ckind_any H2.out p).mono ?_; rintro e w3 ⟨rfl, hb⟩; have hx := H2.out.below hb; have H3 := Lib.hid hx; have B3 := Lib.hid (below_next B2.out hb); obtain ⟨d0, -, -⟩ := hx.cells; clear hb hx)
    | (go_at_call 157; refine (cells_any _ _).mono ?_; rintro e w' ⟨rfl, rfl⟩)
    | (go_at_call 151; refine (pfree_any H3.out.tx p).mono ?_; rintro e w4 ⟨rfl, ht, hf⟩; have H4 := Lib.hid (H3.out.withTx hf ht (freeL_len _ _)); have F4 := Lib.hid ((Frm.of_below b.fp B3.out).trans (hf.sub (fp' := b.fp) (by simp [Bl.fp])) (fun x hx => .inl hx)); clear ht hf))
  go_ret
  exact ⟨rfl, H4.out, F4.out⟩
end
end Go.Proofs.YtjoejjhgneccgaaGreatDoor
