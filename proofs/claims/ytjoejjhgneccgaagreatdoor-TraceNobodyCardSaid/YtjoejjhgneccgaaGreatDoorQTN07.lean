/- Cells, in memory. -/
import Derived.Test.YtjoejjhgneccgaaGreatDoorQTN03
import Derived.Test.YtjoejjhgneccgaaGreatDoorQTN05
import Derived.Test.YtjoejjhgneccgaaGreatDoorQTN06
namespace Go.Proofs.YtjoejjhgneccgaaGreatDoor
open Go.RowKit

/-- What cells are: kinds, words, chains, what is taken. -/
structure Cs where
  ks : List Int
  xs : List Int
  ch : List (Int × Int)
  ws : List (BitVec 64)
/-- Where they lie. -/
structure Bl where
  c : Nat
  t : Nat
  k : Nat
  m : Nat
  r : Nat
  s : Nat
def Bl.fp (b : Bl) : List Nat := [b.c, b.t, b.k, b.m, b.r, b.s]
def chC (l : List (Int × Int)) : List Value := l.flatMap fun x => [.int .i64 x.1, .int .i64 x.2]
theorem chC_len (l : List (Int × Int)) : (chC l).length = l.length * 2 := by
  induction l with
  | nil => rfl
  | cons x l ih => simp only [chC, List.flatMap_cons, List.length_append, List.length_cons] at *; rw [ih]; simp; omega
theorem chC_get : ∀ {l : List (Int × Int)} {j : Nat}, j < l.length → (chC l)[j * 2]? = some (.int .i64 (l.getD j (0, 0)).1) ∧ (chC l)[j * 2 + 1]? = some (.int .i64 (l.getD j (0, 0)).2)
  | [], j, h => absurd h (by simp)
  | x :: l, 0, _ => ⟨rfl, rfl⟩
  | x :: l, j + 1, h => by
    obtain ⟨h1, h2⟩ := chC_get (l := l) (j := j) (by simpa using h)
    have e : chC (x :: l) = .int .i64 x.1 :: .int .i64 x.2 :: chC l := rfl
    rw [e, show (j + 1) * 2 = j * 2 + 1 + 1 by omega]
    simp only [List.getElem?_cons_succ]
    exact ⟨h1, h2⟩
theorem chC_set : ∀ {l : List (Int × Int)} {j : Nat} (x : Int × Int), j < l.length → chC (l.set j x) = ((chC l).set (j * 2) (.int .i64 x.1)).set (j * 2 + 1) (.int .i64 x.2)
  | [], j, _, h => absurd h (by simp)
  | y :: l, 0, x, _ => rfl
  | y :: l, j + 1, x, h => by
    have ih := chC_set (l := l) (j := j) x (by simpa using h)
    have e : ∀ (z : Int × Int) (l : List (Int × Int)), chC (z :: l) = .int .i64 z.1 :: .int .i64 z.2 :: chC l := fun _ _ => rfl
    rw [List.set_cons_succ, e, e, ih, show (j + 1) * 2 = j * 2 + 1 + 1 by omega]
    simp only [List.set_cons_succ]
def celC (b : Bl) (l : List (Int × Int)) : Array Value := (.pointer (some ⟨b.t, 0, none⟩) :: .pointer (some ⟨b.m, 0, none⟩) :: (chC l ++ [.pointer (some ⟨b.s, 0, none⟩)])).toArray
/-- Cells in memory. -/
structure CX (w : World) (b : Bl) (C : Cs) : Prop where
  hd : w.heap[b.c]? = some (.cells (celC b C.ch) 157 (0, 0))
  tx : Tx w b.t b.k C.ks
  mx : Mx w b.m b.r C.xs
  sx : Sx w b.s C.xs.length C.ws
  chl : C.ch.length = 64
  len : C.xs.length = 32 * C.ks.length
theorem ne_types {w : World} {a b : Nat} {x y : Array Value} {T U : TypeId} {f g : Nat × Nat} (h : w.heap[a]? = some (.cells x T f)) (h2 : w.heap[b]? = some (.cells y U g)) (hn : T ≠ U) : a ≠ b := by
  rintro rfl
  rw [h] at h2
  simp only [Option.some.injEq, Obj.cells.injEq] at h2
  exact hn h2.2.1
/-- All lie apart. -/
structure Apart (b : Bl) : Prop where
  ct : b.c ≠ b.t
  ck : b.c ≠ b.k
  cm : b.c ≠ b.m
  cr : b.c ≠ b.r
  cs : b.c ≠ b.s
  tk : b.t ≠ b.k
  tm : b.t ≠ b.m
  tr : b.t ≠ b.r
  ts : b.t ≠ b.s
  km : b.k ≠ b.m
  kr : b.k ≠ b.r
  ks : b.k ≠ b.s
  mr : b.m ≠ b.r
  ms : b.m ≠ b.s
  rs : b.r ≠ b.s
section
variable {w w' : World} {b : Bl} {C : Cs}
theorem CX.apart (h : CX w b C) : Apart b := by
  obtain ⟨hc, ⟨ht, hk, _⟩, ⟨⟨c, _, _, hm⟩, ⟨zs, hr⟩, _⟩, ⟨hs, _, _, _⟩, _, _⟩ := h
  exact ⟨ne_types hc ht (by decide), ne_types hc hk (by decide), ne_types hc hm (by decide), ne_types hc hr (by decide), ne_types hc hs (by decide), ne_types ht hk (by decide), ne_types ht hm (by decide), ne_types ht hr (by decide), ne_types ht hs (by decide),
    ne_types hk hm (by decide), ne_types hk hr (by decide), ne_types hk hs (by decide), ne_types hm hr (by decide), ne_types hm hs (by decide), ne_types hr hs (by decide)⟩
theorem CX.lt (h : CX w b C) : ∀ x ∈ b.fp, x < w.heap.size := by
  intro x hx
  simp only [Bl.fp, List.mem_cons, List.not_mem_nil, or_false] at hx
  rcases hx with rfl | rfl | rfl | rfl | rfl | rfl
  · exact heap_lt h.hd
  · exact heap_lt h.tx.hd
  · exact heap_lt h.tx.row
  · exact h.mx.lt.1
  · exact h.mx.lt.2
  · exact heap_lt h.sx.hd
theorem CX.keep (h : CX w b C) (hk : ∀ x ∈ b.fp, w'.heap[x]? = w.heap[x]?) : CX w' b C :=
  ⟨(hk b.c (by simp [Bl.fp])).trans h.hd, h.tx.keep (hk b.t (by simp [Bl.fp])) (hk b.k (by simp [Bl.fp])), h.mx.keep (hk b.m (by simp [Bl.fp])) (hk b.r (by simp [Bl.fp])), h.sx.keep (hk b.s (by simp [Bl.fp])), h.chl, h.len⟩
theorem CX.below (h : CX w b C) (hb : Below w.heap.size w w') : CX w' b C := h.keep fun x hx => hb.block x (h.lt x hx)
theorem CX.frm {fp : List Nat} (h : CX w b C) (hf : Frm fp w w') (hd : ∀ x ∈ b.fp, x ∉ fp) : CX w' b C := h.keep fun x hx => hf.block x (h.lt x hx) (hd x hx)
theorem CX.cells (h : CX w b C) : w.cell? ⟨b.c, 0, none⟩ = some (.pointer (some ⟨b.t, 0, none⟩)) ∧ w.cell? ⟨b.c, 1, none⟩ = some (.pointer (some ⟨b.m, 0, none⟩)) ∧ w.cell? ⟨b.c, 130, none⟩ = some (.pointer (some ⟨b.s, 0, none⟩)) := by
  refine ⟨cell_of_row _ _ _ _ _ _ h.hd, cell_of_row _ _ _ _ _ _ h.hd, ?_⟩
  rw [cell_of_row _ _ _ _ _ _ h.hd]
  have hl := chC_len C.ch
  rw [h.chl] at hl
  simp only [celC, List.getElem?_toArray]
  rw [show 130 = 128 + 1 + 1 from rfl, List.getElem?_cons_succ, List.getElem?_cons_succ, List.getElem?_append_right (by omega), hl]
  rfl
theorem CX.chain (h : CX w b C) {p : Nat} (hp : p < 64) : w.cell? ⟨b.c, 2 + p * 2, none⟩ = some (.int .i64 (C.ch.getD p (0, 0)).1) ∧ w.cell? ⟨b.c, 2 + p * 2 + 1, none⟩ = some (.int .i64 (C.ch.getD p (0, 0)).2) ∧ w.frozen? ⟨b.c, 2 + p * 2, none⟩ = false ∧ w.frozen? ⟨b.c, 2 + p * 2 + 1, none⟩ = false := by
  obtain ⟨h1, h2⟩ := chC_get (l := C.ch) (j := p) (by rw [h.chl]; exact hp)
  have hl := chC_len C.ch
  rw [h.chl] at hl
  refine ⟨?_, ?_, frozen_of_row _ _ _ _ _ h.hd, frozen_of_row _ _ _ _ _ h.hd⟩
  · rw [cell_of_row _ _ _ _ _ _ h.hd]
    simp only [celC, List.getElem?_toArray]
    rw [show 2 + p * 2 = p * 2 + 1 + 1 by omega, List.getElem?_cons_succ, List.getElem?_cons_succ, List.getElem?_append_left (by omega), h1]
  · rw [cell_of_row _ _ _ _ _ _ h.hd]
    simp only [celC, List.getElem?_toArray]
    rw [show 2 + p * 2 + 1 = p * 2 + 1 + 1 + 1 by omega, List.getElem?_cons_succ, List.getElem?_cons_succ, List.getElem?_append_left (by omega), h2]
/-- A chain turned. -/
theorem CX.setChain (h : CX w b C) {p : Nat} (hp : p < 64) (x : Int × Int) : CX ((w.setCell ⟨b.c, 2 + p * 2, none⟩ (.int .i64 x.1)).setCell ⟨b.c, 2 + p * 2 + 1, none⟩ (.int .i64 x.2)) b { C with ch := C.ch.set p x } := by
  have ap := h.apart
  have hl := chC_len C.ch
  rw [h.chl] at hl
  have o : ∀ {j : Nat}, b.c ≠ j → ((w.setCell ⟨b.c, 2 + p * 2, none⟩ (.int .i64 x.1)).setCell ⟨b.c, 2 + p * 2 + 1, none⟩ (.int .i64 x.2)).heap[j]? = w.heap[j]? := fun hj =>
    (heap_setCell_other _ _ _ _ (fun e => hj e.symm)).trans (heap_setCell_other _ _ _ _ (fun e => hj e.symm))
  refine ⟨?_, h.tx.keep (o ap.ct) (o ap.ck), h.mx.keep (o ap.cm) (o ap.cr), h.sx.keep (o ap.cs), by simpa using h.chl, h.len⟩
  rw [heap_setCell_same _ _ _ _ _ _ (heap_setCell_same _ _ _ _ _ _ h.hd)]
  congr 2
  simp only [celC, List.setIfInBounds_toArray]
  rw [chC_set x (by rw [h.chl]; exact hp), show 2 + p * 2 = p * 2 + 1 + 1 by omega]
  simp only [List.set_cons_succ]
  rw [List.set_append_left _ _ (by omega), List.set_append_left _ _ (by simp; omega)]
theorem CX.withTx {K : List Int} (h : CX w b C) (hf : Frm [b.k] w w') (ht : Tx w' b.t b.k K) (hl : K.length = C.ks.length) : CX w' b { C with ks := K } := by
  have ap := h.apart
  refine ⟨(hf.block _ (heap_lt h.hd) (by simpa using ap.ck)).trans h.hd, ht, h.mx.frm hf (by simpa using ap.km.symm) (by simpa using ap.kr.symm), h.sx.frm hf (by simpa using ap.ks.symm), h.chl, ?_⟩
  show C.xs.length = 32 * K.length
  rw [hl]; exact h.len
theorem CX.withMx {X : List Int} (h : CX w b C) (hf : Frm [b.r] w w') (hm : Mx w' b.m b.r X) (hl : X.length = C.xs.length) : CX w' b { C with xs := X } := by
  have ap := h.apart
  refine ⟨(hf.block _ (heap_lt h.hd) (by simpa using ap.cr)).trans h.hd, h.tx.frm hf (by simpa using ap.tr) (by simpa using ap.kr), hm, ?_, h.chl, ?_⟩
  · show Sx w' b.s X.length C.ws
    rw [hl]; exact h.sx.frm hf (by simpa using ap.rs.symm)
  · show X.length = 32 * C.ks.length
    rw [hl]; exact h.len
theorem CX.withSx {W : List (BitVec 64)} (h : CX w b C) (hf : Frm [b.s] w w') (hs : Sx w' b.s C.xs.length W) : CX w' b { C with ws := W } := by
  have ap := h.apart
  exact ⟨(hf.block _ (heap_lt h.hd) (by simpa using ap.cs)).trans h.hd, h.tx.frm hf (by simpa using ap.ts) (by simpa using ap.ks), h.mx.frm hf (by simpa using ap.ms) (by simpa using ap.rs), hs, h.chl, h.len⟩
end
/-- The cells' heads stay where a chain is turned. -/
theorem cell_set2 {w : World} {c p o : Nat} {v x y : Value} (ho : o < 2 ∨ 130 ≤ o) (hp : p < 64) (h : w.cell? ⟨c, o, none⟩ = some v) : ((w.setCell ⟨c, 2 + p * 2, none⟩ x).setCell ⟨c, 2 + p * 2 + 1, none⟩ y).cell? ⟨c, o, none⟩ = some v := by
  rw [World.cell?_setCell_other _ _ _ _ (fun e => by have := congrArg Addr.off e; simp only at this; omega), World.cell?_setCell_other _ _ _ _ (fun e => by have := congrArg Addr.off e; simp only at this; omega)]
  exact h
theorem cell_setB {w : World} {c z o o1 o2 : Nat} {v x y : Value} (hc : c ≠ z) (h : w.cell? ⟨c, o, none⟩ = some v) : ((w.setCell ⟨z, o1, none⟩ x).setCell ⟨z, o2, none⟩ y).cell? ⟨c, o, none⟩ = some v := by
  rw [World.cell?_setCell_other _ _ _ _ (fun e => hc (congrArg Addr.block e).symm), World.cell?_setCell_other _ _ _ _ (fun e => hc (congrArg Addr.block e).symm)]
  exact h
theorem fillL_len2 (xs : List Int) (a n : Nat) (v : Int) : (fillL xs a n v).length = xs.length := fillL_len xs a n v
theorem buildL_len (xs : List Int) (p k : Int) : (buildL xs p k).length = xs.length := by unfold buildL; rw [linkL_len, fillL_len]
theorem takeK_len (ks : List Int) (c : Int) : (takeK ks c).length = ks.length := by unfold takeK; split <;> simp
theorem spanK_len (ks : List Int) (n : Int) : (spanK ks n).length = ks.length := by
  unfold spanK; split
  · unfold spanS; simp [fillL_len]
  · rfl
theorem freeL_len (ks : List Int) (p : Int) : (freeL ks p).length = ks.length := by unfold freeL; exact fillL_len _ _ _ _
theorem Frm.sub {fp fp' : List Nat} {w w' : World} (h : Frm fp w w') (hs : ∀ k ∈ fp, k ∈ fp') : Frm fp' w w' := ⟨h.os, h.tape, h.output, h.size, fun k hk hn => h.block k hk (fun hm => hn (hs k hm))⟩
end Go.Proofs.YtjoejjhgneccgaaGreatDoor

/- Cells: what is asked of them. -/
namespace Go.Proofs.YtjoejjhgneccgaaGreatDoor
open Go.RowKit

section
variable {w : World} {b : Bl} {C : Cs}
theorem cis_any (h : CX w b C) :
    Calls Tryz.prog 144 #[.pointer (some ⟨b.c, 0, none⟩)] w fun e w' => e = .returned (.bool true) ∧ w = w' := by
  obtain ⟨-, c1, -⟩ := h.cells
  clear h
  go_enter Tryz.func144, Tryz.ntmps144
  go_wp2_with fail
  go_ret
  exact ⟨rfl, rfl⟩
theorem pgkind_any (h : CX w b C) (p : Int) :
    Calls Tryz.prog 161 #[.agg #[.pointer (some ⟨b.t, 0, none⟩)], .int .i64 p] w fun e w' => e = .returned (.int .i64 (kindL C.ks p)) ∧ Below w.heap.size w w' := by
  have H := Lib.hid (h.tx.below (below_alloc0 w (.cells #[.pointer (some ⟨b.t, 0, none⟩)] 153)))
  clear h
  go_enter Tryz.func161, Tryz.ntmps161
  go_wp2_with (go_at_call 198; refine (pkind_any H.out p).mono ?_; rintro e w' ⟨rfl, rfl⟩)
  go_ret
  exact ⟨rfl, below_alloc0 _ _⟩
theorem pgfree_any (h : CX w b C) :
    Calls Tryz.prog 160 #[.agg #[.pointer (some ⟨b.t, 0, none⟩)]] w fun e w' => e = .returned (.int .i64 (countL C.ks)) ∧ Below w.heap.size w w' := by
  have B0 := Lib.hid (below_alloc0 w (.cells #[.pointer (some ⟨b.t, 0, none⟩)] 153))
  have H := Lib.hid (h.tx.below B0.out)
  clear h
  go_enter Tryz.func160, Tryz.ntmps160
  go_wp2_with (go_at_call 197; refine (pcount_any H.out).mono ?_; rintro e w' ⟨rfl, hb⟩)
  go_ret
  exact ⟨rfl, below_next B0.out hb⟩
theorem ckind_any (h : CX w b C) (p : Int) :
    Calls Tryz.prog 106 #[.pointer (some ⟨b.c, 0, none⟩), .int .i64 p] w fun e w' => e = .returned (.int .i64 (kindL C.ks p)) ∧ Below w.heap.size w w' := by
  have H := Lib.hid h
  obtain ⟨c0, c1, -⟩ := h.cells
  clear h
  go_enter Tryz.func106, Tryz.ntmps106
  go_wp2_with (first
    | (go_at_call 144; refine (cis_any H.out).mono ?_; rintro e w' ⟨rfl, rfl⟩)
    | (go_at_call 161; refine (pgkind_any H.out p).mono ?_; rintro e w' ⟨rfl, hb⟩))
  go_ret
  exact ⟨rfl, hb⟩
theorem csmall_any (h : CX w b C) (p : Int) :
    Calls Tryz.prog 156 #[.pointer (some ⟨b.c, 0, none⟩), .int .i64 p] w fun e w' => e = .returned (.bool (decide (0 < sizeI (kindL C.ks p)))) ∧ Below w.heap.size w w' := by
  have H := Lib.hid h
  clear h
  go_enter Tryz.func156, Tryz.ntmps156
  go_wp2_with (first
    | (go_at_call 106; refine (ckind_any H.out p).mono ?_; rintro e w' ⟨rfl, hb⟩)
    | (go_at_call 138; refine (size_any _ _).mono ?_; rintro e w' ⟨rfl, rfl⟩))
  go_ret
  exact ⟨rfl, hb⟩
/-- How many free cells are left. -/
def leftL (C : Cs) (p : Int) : Int := if 0 < sizeI (kindL C.ks p) then (C.ch.getD p.toNat (0, 0)).2 else 0
theorem small_in {ks : List Int} {p : Int} (h : 0 < sizeI (kindL ks p)) : 0 ≤ p ∧ p < ks.length := by
  apply Decidable.byContradiction; intro hc
  rw [kindL_out (by omega)] at h
  simp [sizeI] at h
set_option maxHeartbeats 1000000 in
theorem cleft_any (h : CX w b C) (p : Int) :
    Calls Tryz.prog 139 #[.pointer (some ⟨b.c, 0, none⟩), .int .i64 p] w fun e w' => e = .returned (.int .i64 (leftL C p)) ∧ Below w.heap.size w w' := by
  have H := Lib.hid h
  by_cases hs : 0 < sizeI (kindL C.ks p)
  · have hin := small_in hs
    obtain ⟨q, rfl⟩ := Int.eq_ofNat_of_zero_le hin.1
    have hq : q < 64 := by have := h.tx.le; omega
    have HL := Lib.hid (show leftL C q = (C.ch.getD q (0, 0)).2 by unfold leftL; rw [if_pos hs, Int.toNat_natCast])
    have HB := Lib.hid (show decide (0 < sizeI (kindL C.ks q)) = true by simpa using hs)
    have HQ := Lib.hid hq
    have hq1 : (q : Int) < 64 := by omega
    clear h hs hin hq
    go_enter Tryz.func139, Tryz.ntmps139
    go_wp2_with (go_at_call 156; refine (csmall_any H.out q).mono ?_; rw [HB.out]; rintro e w1 ⟨rfl, hb⟩; obtain ⟨-, c1, -⟩ := (H.out.below hb).chain HQ.out; rw [← HL.out] at c1; have HB1 := Lib.hid hb; clear hb)
    go_ret
    exact ⟨rfl, HB1.out⟩
  · have HL := Lib.hid (show leftL C p = 0 by unfold leftL; rw [if_neg hs])
    have HB := Lib.hid (show decide (0 < sizeI (kindL C.ks p)) = false by simpa using hs)
    clear h hs
    go_enter Tryz.func139, Tryz.ntmps139
    go_wp2_with (go_at_call 156; refine (csmall_any H.out p).mono ?_; rw [HB.out]; rintro e w1 ⟨rfl, hb⟩; have HB1 := Lib.hid hb; clear hb)
    go_ret
    exact ⟨ret_int HL.out.symm, HB1.out⟩
theorem cfree_any (h : CX w b C) :
    Calls Tryz.prog 105 #[.pointer (some ⟨b.c, 0, none⟩)] w fun e w' => e = .returned (.int .i64 (countL C.ks)) ∧ Below w.heap.size w w' := by
  have H := Lib.hid h
  obtain ⟨c0, c1, -⟩ := h.cells
  clear h
  go_enter Tryz.func105, Tryz.ntmps105
  go_wp2_with (first
    | (go_at_call 144; refine (cis_any H.out).mono ?_; rintro e w' ⟨rfl, rfl⟩)
    | (go_at_call 160; refine (pgfree_any H.out).mono ?_; rintro e w' ⟨rfl, hb⟩))
  go_ret
  exact ⟨rfl, hb⟩
theorem call_any (h : CX w b C) (ht : Tab64 w) (hg : 0 < w.heap.size) :
    Calls Tryz.prog 102 #[.pointer (some ⟨b.c, 0, none⟩)] w fun e w' => RowE w.heap.size (bitsI C.ws) e w' ∧ Below w.heap.size w w' := by
  have H := Lib.hid h
  have HT := Lib.hid ht
  have HG := Lib.hid hg
  obtain ⟨-, c1, c3⟩ := h.cells
  clear h ht hg
  go_enter Tryz.func102, Tryz.ntmps102
  go_wp2_with (first
    | (go_at_call 144; refine (cis_any H.out).mono ?_; rintro e w' ⟨rfl, rfl⟩)
    | (go_at_call 77; refine (all_any H.out.sx HT.out HG.out).mono ?_; rintro e w' ⟨⟨v, rfl, hr⟩, hb⟩; have HR := Lib.hid hr; have HB := Lib.hid hb; clear hr hb))
  go_ret
  exact ⟨⟨_, rfl, HR.out⟩, HB.out⟩
theorem cload_any (h : CX w b C) (a : Int) :
    Calls Tryz.prog 95 #[.pointer (some ⟨b.c, 0, none⟩), .int .i64 a] w fun e w' => e = .returned (.tuple #[.int .i64 (loadV C.xs a), .bool (fitB C.xs.length a 1)]) ∧ w = w' := by
  have H := Lib.hid h
  obtain ⟨-, c1, -⟩ := h.cells
  clear h
  go_enter Tryz.func95, Tryz.ntmps95
  go_wp2_with (first
    | (go_at_call 144; refine (cis_any H.out).mono ?_; rintro e w' ⟨rfl, rfl⟩)
    | (go_at_call 148; refine (load_any H.out.mx a).mono ?_; rintro e w' ⟨rfl, rfl⟩))
  go_ret2
  exact ⟨rfl, rfl⟩
theorem cisa_any (h : CX w b C) (a : Int) :
    Calls Tryz.prog 150 #[.pointer (some ⟨b.c, 0, none⟩), .int .i64 a] w fun e w' => e = .returned (.bool (hasB C.xs.length C.ws a)) ∧ w = w' := by
  have H := Lib.hid h
  obtain ⟨-, c1, c3⟩ := h.cells
  clear h
  go_enter Tryz.func150, Tryz.ntmps150
  go_wp2_with (first
    | (go_at_call 144; refine (cis_any H.out).mono ?_; rintro e w' ⟨rfl, rfl⟩)
    | (go_at_call 114; refine (has_any H.out.sx a).mono ?_; rintro e w' ⟨rfl, rfl⟩))
  go_ret
  exact ⟨rfl, rfl⟩
end
end Go.Proofs.YtjoejjhgneccgaaGreatDoor

/- Cells: made; a page carved. -/
namespace Go.Proofs.YtjoejjhgneccgaaGreatDoor
open Go.RowKit

def Cs.new (n : Nat) : Cs := ⟨List.replicate n 0, List.replicate (n * 32) 0, List.replicate 64 (0, 0), List.replicate 32 0#64⟩
def NewC (n : Nat) (B : Nat) (e : Ending) (w' : World) : Prop := ∃ b : Bl, e = .returned (.pointer (some ⟨b.c, 0, none⟩)) ∧ CX w' b (Cs.new n) ∧ ∀ x ∈ b.fp, B ≤ x
set_option maxHeartbeats 4000000 in
set_option maxRecDepth 100000 in
theorem cnew_any (n : Int) (w : World) :
    Calls Tryz.prog 109 #[.int .i64 n] w fun e w' => NewC (clampN n 0 64).toNat w.heap.size e w' ∧ Below w.heap.size w w' := by
  have hb := clampN_bd (a := n) (lo := 0) (hi := 64) (by omega)
  obtain ⟨p, hp⟩ := Int.eq_ofNat_of_zero_le hb.1
  have HP := Lib.hid hp
  have hp64 : p ≤ 64 := by omega
  have hc : clampN ((p : Int) * 32) 0 2048 = ((p * 32 : Nat) : Int) := by unfold clampN; rw [if_neg (by omega), if_neg (by omega)]; omega
  have HC := Lib.hid hc
  clear hb hp hc
  go_enter Tryz.func109, Tryz.ntmps109
  go_wp2_with (first
    | (go_at_call 163; refine (pnew_any n _).mono ?_; rw [HP.out, Int.toNat_natCast]; rintro e w1 ⟨rfl, ht, hb⟩; have T1 := Lib.hid ht; have B1 := Lib.hid hb; clear ht hb)
    | (go_at_call 164; refine (pall_any T1.out).mono ?_; rintro e w2 ⟨⟨v, rfl, hr⟩, hb⟩; obtain ⟨a, cap, rfl, -⟩ := hr.slice; rw [List.length_replicate]; have T2 := Lib.hid (T1.out.below hb); have B2 := Lib.hid (below_next B1.out hb); clear hr hb)
    | (go_at_call 165; refine (mnew_any _ _).mono ?_; rw [HC.out, Int.toNat_natCast]; rintro e w3 ⟨rfl, hm, hb⟩; have M3 := Lib.hid hm; have T3 := Lib.hid (T2.out.below hb); have B3 := Lib.hid (below_next B2.out hb); clear hm hb)
    | (go_at_call 112; refine (snew_any _ _).mono ?_; rw [HC.out, Int.toNat_natCast]; rintro e w4 ⟨rfl, hs, hb⟩; have S4 := Lib.hid hs; have M4 := Lib.hid (M3.out.below hb); have T4 := Lib.hid (T3.out.below hb); have B4 := Lib.hid (below_next B3.out hb); clear hs hb))
  go_ret
  rw [HP.out, Int.toNat_natCast]
  refine ⟨⟨⟨w4.heap.size, w.heap.size + 1, w.heap.size, w2.heap.size + 1, w2.heap.size, w3.heap.size⟩, rfl, ?_, ?_⟩, B4.out.alloc B4.out.size _⟩
  · refine ⟨heap_alloc_new w4 _, T4.out.below (below_alloc0 w4 _), M4.out.below (below_alloc0 w4 _), ?_, rfl, by simp [Cs.new]; omega⟩
    have e : (Cs.new p).xs.length = p * 32 := by simp [Cs.new]
    rw [e]
    exact S4.out.below (below_alloc0 w4 _)
  · have h1 := B2.out.size
    have h2 := B3.out.size
    have h3 := B4.out.size
    intro x hx
    simp only [Bl.fp, List.mem_cons, List.not_mem_nil, or_false] at hx
    omega
section
variable {w : World} {b : Bl} {C : Cs}
def carveC (C : Cs) (k : Int) : Cs := match takeT C.ks k with | some p => { C with ks := C.ks.set p k, ch := C.ch.set p (0, cellsI k), xs := buildL C.xs p k } | none => C
set_option maxHeartbeats 8000000 in
set_option maxRecDepth 100000 in
theorem ccarve_any (h : CX w b C) (k : Int) :
    Calls Tryz.prog 147 #[.pointer (some ⟨b.c, 0, none⟩), .int .i64 k] w fun e w' => TakeE (takeT C.ks k) e ∧ CX w' b (carveC C k) ∧ Frm b.fp w w' := by
  have H := Lib.hid h
  obtain ⟨c0, c1, -⟩ := h.cells
  cases ht : takeT C.ks k with
  | none =>
    have HT := Lib.hid ht
    have HC := Lib.hid (show carveC C k = C by unfold carveC; rw [ht])
    have HK := Lib.hid (show takeK C.ks k = C.ks by unfold takeK; rw [ht])
    clear h ht
    go_enter Tryz.func147, Tryz.ntmps147
    go_wp2_with (first
      | (go_at_call 144; refine (cis_any H.out).mono ?_; rintro e w' ⟨rfl, rfl⟩)
      | (go_at_call 188; refine (ptake_any H.out.tx k).mono ?_; rw [HT.out, HK.out]; rintro e w1 ⟨rfl, hx, hf⟩; have H1 := Lib.hid (H.out.withTx hf hx rfl); have F1 := Lib.hid hf; clear hx hf))
    go_ret2
    exact ⟨rfl, by rw [HC.out]; exact H1.out, F1.out.sub (by simp [Bl.fp])⟩
  | some p =>
    have hz : sizeI k ≠ 0 := by intro e; unfold takeT at ht; rw [if_pos e] at ht; cases ht
    have hk : 1 ≤ k ∧ k ≤ 4 := by
      apply Decidable.byContradiction; intro hc
      exact hz (sizeI_zero (by omega))
    have hpl : p < C.ks.length := by
      unfold takeT at ht; rw [if_neg hz] at ht; exact idx0_lt ht
    have hp64 : p < 64 := by have := h.tx.le; omega
    have HO := Lib.hid (show OpP C.xs.length p k from ⟨by omega, by omega, hk.1, hk.2, by rw [h.len]; omega⟩)
    have HT := Lib.hid ht
    have HP := Lib.hid hp64
    have HC := Lib.hid (show carveC C k = { C with ks := C.ks.set p k, ch := C.ch.set p (0, cellsI k), xs := buildL C.xs p k } by unfold carveC; rw [ht])
    have HK := Lib.hid (show takeK C.ks k = C.ks.set p k by unfold takeK; rw [ht])
    have q1 : (0 : Int) ≤ (p : Int) := by omega
    have q2 : (p : Int) < 64 := by omega
    clear h ht hz hk hpl hp64
    go_enter Tryz.func147, Tryz.ntmps147
    go_wp2_with (first
      | (go_at_call 144; refine (cis_any H.out).mono ?_; rintro e w' ⟨rfl, rfl⟩)
      | (go_at_call 188; refine (ptake_any H.out.tx k).mono ?_; rw [HT.out, HK.out]; rintro e w1 ⟨rfl, hx, hf⟩; have H1 := Lib.hid (H.out.withTx hf hx (by simp)); have F1 := Lib.hid hf; clear hx hf))
    have d1 : w1.cell? ⟨b.c, 1, none⟩ = some (.pointer (some ⟨b.m, 0, none⟩)) := H1.out.cells.2.1
    clear c0 c1
    have G1 : Hid (CX w1.drew b { C with ks := C.ks.set p k }) := Lib.hid (H1.out.below (Below.refl _ _).drew)
    have M1 := Lib.hid G1.out.mx
    go_region_held3 (fun w' => w'.cell? ⟨b.c, 1, none⟩ = some (.pointer (some ⟨b.m, 0, none⟩))) (first | assumption | exact cell_set2 (.inl (by decide)) HP.out (by assumption) | go_keep)
      ((go_at_call 189; refine (build_yes M1.out p k HO.out).mono ?_; rintro e w2 ⟨rfl, hm, hf⟩; have hx2 := G1.out.withMx hf hm (buildL_len _ _ _); have H2 := Lib.hid hx2; have F2 := Lib.hid hf; obtain ⟨-, d2, -⟩ := hx2.cells; obtain ⟨d3, d4, d5, d6⟩ := hx2.chain HP.out; clear hm hf hx2))
    go_wp2_with fail
    go_ret2
    refine ⟨rfl, ?_, ?_⟩
    · rw [HC.out]
      exact H2.out.setChain HP.out (0, cellsI k)
    · refine ((F1.out.sub (fp' := b.fp) (by simp [Bl.fp])).trans ((Frm.of_below b.fp (Below.refl _ _).drew).trans (F2.out.sub (fp' := b.fp) (by simp [Bl.fp])) (fun x hx => .inl hx)) (fun x hx => .inl hx)).trans ?_ (fun x hx => .inl hx)
      exact (Frm.setCell _ (fp := b.fp) (by simp [Bl.fp]) _).trans (Frm.setCell _ (fp := b.fp) (by simp [Bl.fp]) _) (fun x hx => .inl hx)
end
end Go.Proofs.YtjoejjhgneccgaaGreatDoor

/- Cells, in plain lists: what holds behind every call. -/
namespace Go.Proofs.YtjoejjhgneccgaaGreatDoor
open Go.RowKit

/-- Free cells, one behind the other, from the first on. -/
def Lnk (xs : List Int) (p k : Int) : Int → List Int → Prop
  | f, [] => f = cellsI k
  | f, i :: l => f = i ∧ 0 ≤ i ∧ i < cellsI k ∧ ∃ g, 0 ≤ g ∧ g ≤ cellsI k ∧ xs.getD (cad p k i).toNat 0 = -1 - g ∧ Lnk xs p k g l
theorem Lnk.keep {xs ys : List Int} {p k : Int} : ∀ {f : Int} {l : List Int}, Lnk xs p k f l → (∀ i ∈ l, ys.getD (cad p k i).toNat 0 = xs.getD (cad p k i).toNat 0) → Lnk ys p k f l
  | _, [], h, _ => h
  | _, i :: l, ⟨h1, h2, h3, g, h4, h5, h6, h7⟩, hx => ⟨h1, h2, h3, g, h4, h5, (hx i (by simp)).trans h6, h7.keep fun j hj => hx j (by simp [hj])⟩
theorem Lnk.mem {xs : List Int} {p k : Int} : ∀ {f : Int} {l : List Int}, Lnk xs p k f l → ∀ i ∈ l, 0 ≤ i ∧ i < cellsI k
  | _, [], _, i, hi => by simp at hi
  | _, j :: l, ⟨_, h2, h3, _, _, _, _, h7⟩, i, hi => by
    rcases List.mem_cons.1 hi with rfl | hi
    · exact ⟨h2, h3⟩
    · exact h7.mem i hi
theorem Lnk.first {xs : List Int} {p k : Int} {f : Int} {l : List Int} (h : Lnk xs p k f l) (hk : 1 ≤ k ∧ k ≤ 4) : 0 ≤ f ∧ f ≤ cellsI k := by
  have hc := cellsI_pos hk
  cases l with
  | nil => have : f = cellsI k := h; omega
  | cons i l => obtain ⟨h1, h2, h3, _⟩ := h; omega
/-- Is what begins at an address taken? -/
def tkB (C : Cs) (F : Nat → List Int) (a : Nat) : Bool :=
  if 1 ≤ C.ks.getD (a / 32) 0 ∧ C.ks.getD (a / 32) 0 ≤ 4 then decide ((a : Int) % 32 % sizeI (C.ks.getD (a / 32) 0) = 0 ∧ ((a : Int) % 32 / sizeI (C.ks.getD (a / 32) 0)) ∉ F (a / 32))
  else decide (C.ks.getD (a / 32) 0 = 5 ∧ a % 32 = 0)
structure Inv (C : Cs) (F : Nat → List Int) : Prop where
  le : C.ks.length ≤ 64
  len : C.xs.length = 32 * C.ks.length
  chl : C.ch.length = 64
  wl : C.ws.length = 32
  kd : ∀ p, p < C.ks.length → 0 ≤ C.ks.getD p 0 ∧ C.ks.getD p 0 ≤ 6
  sx : ∀ p, p < C.ks.length → C.ks.getD p 0 = 6 → 0 < p ∧ (C.ks.getD (p - 1) 0 = 5 ∨ C.ks.getD (p - 1) 0 = 6)
  ln : ∀ p, p < C.ks.length → 1 ≤ C.ks.getD p 0 → C.ks.getD p 0 ≤ 4 → Lnk C.xs p (C.ks.getD p 0) (C.ch.getD p (0, 0)).1 (F p) ∧ (C.ch.getD p (0, 0)).2 = (F p).length ∧ (F p).Nodup
  bt : ∀ a, a < 32 * C.ks.length → bit C.ws a = tkB C F a
  tp : ∀ a, 32 * C.ks.length ≤ a → a < 2048 → bit C.ws a = false
theorem inv_new {n : Nat} (hn : n ≤ 64) : Inv (Cs.new n) (fun _ => []) := by
  have hk : ∀ p, (Cs.new n).ks.getD p 0 = 0 := fun p => by
    simp only [Cs.new, List.getD_eq_getElem?_getD, List.getElem?_replicate]; split <;> rfl
  have hb : ∀ a, bit (Cs.new n).ws a = false := zero_bits
  refine ⟨by simpa [Cs.new] using hn, by simp [Cs.new]; omega, rfl, rfl, fun p _ => by rw [hk]; omega, fun p _ h => by rw [hk] at h; omega, fun p _ h => by rw [hk] at h; omega, fun a _ => ?_, fun a _ _ => hb a⟩
  rw [hb]
  unfold tkB
  rw [hk, if_neg (by omega)]
  simp
/-- Cells of a page lie apart, and in their page. -/
theorem cad_page {p : Nat} {k i : Int} (hk : 1 ≤ k ∧ k ≤ 4) (h0 : 0 ≤ i) (h1 : i < cellsI k) : 32 * p ≤ (cad p k i).toNat ∧ (cad p k i).toNat + (sizeI k).toNat ≤ 32 * p + 32 ∧ ((cad p k i).toNat : Int) = cad p k i := by
  have hc : k = 1 ∨ k = 2 ∨ k = 3 ∨ k = 4 := by omega
  unfold cad
  rcases hc with rfl | rfl | rfl | rfl <;> simp [cellsI, sizeI] at * <;> omega
theorem cad_ne {p : Int} {k i j : Int} (hp : 0 ≤ p) (hk : 1 ≤ k ∧ k ≤ 4) (hi : 0 ≤ i) (hj : 0 ≤ j) (h : i ≠ j) : (cad p k i).toNat + (sizeI k).toNat ≤ (cad p k j).toNat ∨ (cad p k j).toNat + (sizeI k).toNat ≤ (cad p k i).toNat := by
  have hc : k = 1 ∨ k = 2 ∨ k = 3 ∨ k = 4 := by omega
  unfold cad
  rcases hc with rfl | rfl | rfl | rfl <;> simp [sizeI] <;> omega
theorem putL_get {xs : List Int} {a v : Int} {j : Nat} (hj : j < xs.length) : (putL xs a v).getD j 0 = if (j : Int) = a then v else xs.getD j 0 := by
  unfold putL fitB
  by_cases h : (j : Int) = a
  · subst h
    rw [if_pos (by simp; omega), if_pos rfl, Int.toNat_natCast, getD_set_same hj]
  · rw [if_neg h]
    split
    · rename_i hf
      simp at hf
      rw [getD_set_other (by omega)]
    · rfl
end Go.Proofs.YtjoejjhgneccgaaGreatDoor

/- Cells, in plain lists: a page carved. -/
namespace Go.Proofs.YtjoejjhgneccgaaGreatDoor
open Go.RowKit

/-- All cells of a class's page. -/
def allC (k : Int) : List Int := (List.range' 0 (cellsI k).toNat).map Int.ofNat
def upd (F : Nat → List Int) (p : Nat) (l : List Int) : Nat → List Int := fun q => if q = p then l else F q
theorem upd_same (F : Nat → List Int) (p : Nat) (l : List Int) : upd F p l p = l := if_pos rfl
theorem upd_other {F : Nat → List Int} {p q : Nat} (l : List Int) (h : q ≠ p) : upd F p l q = F q := if_neg h
theorem allC_mem {k i : Int} : i ∈ allC k ↔ 0 ≤ i ∧ i < cellsI k := by
  unfold allC
  rw [List.mem_map]
  constructor
  · rintro ⟨j, hj, rfl⟩
    rw [List.mem_range'_1] at hj
    exact ⟨by simp, by have := hj.2; simp; omega⟩
  · rintro ⟨h0, h1⟩
    exact ⟨i.toNat, by rw [List.mem_range'_1]; omega, by simp; omega⟩
theorem allC_nodup (k : Int) : (allC k).Nodup := by
  unfold allC
  refine List.Pairwise.map _ (fun a b h => ?_) (List.nodup_range' (step := 1) (by decide))
  intro e; exact h (Int.ofNat.inj e)
theorem allC_len (k : Int) : (allC k).length = (cellsI k).toNat := by simp [allC]
theorem linkL_at {xs : List Int} {p : Nat} {k : Int} (hk : 1 ≤ k ∧ k ≤ 4) (hl : 32 * p + 32 ≤ xs.length) : ∀ j : Nat, (j : Int) ≤ cellsI k →
    (∀ i : Nat, i < j → (linkL xs p k j).getD (cad p k i).toNat 0 = -1 - ((i : Int) + 1)) ∧ (∀ a, a < xs.length → (a < 32 * p ∨ 32 * p + 32 ≤ a) → (linkL xs p k j).getD a 0 = xs.getD a 0)
  | 0, _ => ⟨fun i h => absurd h (by omega), fun _ _ _ => rfl⟩
  | j + 1, hj => by
    obtain ⟨h1, h2⟩ := linkL_at hk hl j (by omega)
    have hc := cad_page (p := p) hk (i := (j : Int)) (by omega) (by omega)
    have hs := sizeI_pos hk
    constructor
    · intro i hi
      have hci := cad_page (p := p) hk (i := (i : Int)) (by omega) (by omega)
      rw [linkL, putL_get (by rw [linkL_len]; omega)]
      by_cases e : i = j
      · subst e
        rw [if_pos hci.2.2]
      · have := cad_ne (p := (p : Int)) (k := k) (i := (i : Int)) (j := (j : Int)) (by omega) hk (by omega) (by omega) (by omega)
        rw [if_neg (by omega), h1 i (by omega)]
    · intro a ha hp
      rw [linkL, putL_get (by rw [linkL_len]; exact ha), if_neg (by omega), h2 a ha hp]
theorem buildL_at {xs : List Int} {p : Nat} {k : Int} (hk : 1 ≤ k ∧ k ≤ 4) (hl : 32 * p + 32 ≤ xs.length) :
    (∀ i : Nat, (i : Int) < cellsI k → (buildL xs p k).getD (cad p k i).toNat 0 = -1 - ((i : Int) + 1)) ∧ (∀ a, a < xs.length → (a < 32 * p ∨ 32 * p + 32 ≤ a) → (buildL xs p k).getD a 0 = xs.getD a 0) := by
  have hc := cellsI_pos hk
  have e : ((p : Int) * 32).toNat = 32 * p := by omega
  obtain ⟨h1, h2⟩ := linkL_at (xs := fillL xs (32 * p) 32 0) (p := p) hk (by rw [fillL_len]; exact hl) (cellsI k).toNat (by omega)
  unfold buildL
  rw [e]
  refine ⟨fun i hi => h1 i (by omega), fun a ha hp => ?_⟩
  rw [h2 a (by rw [fillL_len]; exact ha) hp, fillL_get _ _ _ _ _ ha, if_neg (by omega)]
theorem lnk_all {xs : List Int} {p : Nat} {k : Int} (hk : 1 ≤ k ∧ k ≤ 4) (h : ∀ i : Nat, (i : Int) < cellsI k → xs.getD (cad p k i).toNat 0 = -1 - ((i : Int) + 1)) :
    ∀ (d i : Nat), ((i + d : Nat) : Int) = cellsI k → Lnk xs p k i ((List.range' i d).map Int.ofNat)
  | 0, i, e => by show (i : Int) = cellsI k; omega
  | d + 1, i, e => by
    rw [List.range'_succ, List.map_cons]
    exact ⟨rfl, by simp, by simp; omega, (i : Int) + 1, by omega, by omega, h i (by omega), by
      have := lnk_all hk h d (i + 1) (by omega)
      simpa using this⟩
theorem idx_lt {k : Int} (hk : 1 ≤ k ∧ k ≤ 4) (a : Nat) : 0 ≤ (a : Int) % 32 / sizeI k ∧ (a : Int) % 32 / sizeI k < cellsI k := by
  have hc : k = 1 ∨ k = 2 ∨ k = 3 ∨ k = 4 := by omega
  rcases hc with rfl | rfl | rfl | rfl <;> simp [cellsI, sizeI] <;> omega
theorem tkB_same {C C' : Cs} {F F' : Nat → List Int} {a : Nat} (h1 : C'.ks.getD (a / 32) 0 = C.ks.getD (a / 32) 0) (h2 : F' (a / 32) = F (a / 32)) : tkB C' F' a = tkB C F a := by
  unfold tkB; rw [h1, h2]
theorem idx0_zero : ∀ {ks : List Int} {m : Nat}, idx0 ks = some m → ks.getD m 0 = 0
  | [], m, h => by simp [idx0] at h
  | x :: xs, m, h => by
    unfold idx0 at h
    split at h
    · rename_i hx
      obtain rfl : 0 = m := by simpa using h
      simpa using hx
    · cases h1 : idx0 xs with
      | none => rw [h1] at h; simp at h
      | some j =>
        rw [h1] at h
        obtain rfl : j + 1 = m := by simpa using h
        have := idx0_zero h1
        simpa using this
theorem inv_carve {C : Cs} {F : Nat → List Int} {k : Int} {p : Nat} (h : Inv C F) (ht : takeT C.ks k = some p) : Inv (carveC C k) (upd F p (allC k)) := by
  have hz : sizeI k ≠ 0 := by intro e; unfold takeT at ht; rw [if_pos e] at ht; cases ht
  have hk : 1 ≤ k ∧ k ≤ 4 := by
    apply Decidable.byContradiction; intro hc
    exact hz (sizeI_zero (by omega))
  have hi : idx0 C.ks = some p := by unfold takeT at ht; rw [if_neg hz] at ht; exact ht
  have hpl := idx0_lt hi
  have hp0 := idx0_zero hi
  have hc : carveC C k = { C with ks := C.ks.set p k, ch := C.ch.set p (0, cellsI k), xs := buildL C.xs p k } := by unfold carveC; rw [ht]
  have hcl := cellsI_pos hk
  have hlen := h.len
  have hle := h.le
  have hb := buildL_at (xs := C.xs) (p := p) hk (by omega)
  rw [hc]
  have kq : ∀ q, q ≠ p → (C.ks.set p k).getD q 0 = C.ks.getD q 0 := fun q hq => getD_set_other (fun e => hq e.symm) _ _
  have kp : (C.ks.set p k).getD p 0 = k := getD_set_same hpl _ _
  refine ⟨by simpa using hle, ?_, by simpa using h.chl, h.wl, fun q hq => ?_, fun q hq h6 => ?_, fun q hq k1 k4 => ?_, fun a ha => ?_, fun a ha ha2 => h.tp a (by simpa using ha) ha2⟩
  · show (buildL C.xs p k).length = 32 * (C.ks.set p k).length
    rw [buildL_len, List.length_set]; exact hlen
  · rw [List.length_set] at hq
    by_cases e : q = p
    · subst e; rw [kp]; omega
    · rw [kq q e]; exact h.kd q hq
  · rw [List.length_set] at hq
    have e : q ≠ p := by rintro rfl; rw [kp] at h6; omega
    rw [kq q e] at h6
    obtain ⟨g0, g1⟩ := h.sx q hq h6
    have e2 : q - 1 ≠ p := by intro e2; rw [e2, hp0] at g1; omega
    exact ⟨g0, by rw [kq _ e2]; exact g1⟩
  · rw [List.length_set] at hq
    by_cases e : q = p
    · subst e
      rw [kp] at k1 k4 ⊢
      rw [upd_same]
      refine ⟨?_, ?_, allC_nodup k⟩
      · rw [show (C.ch.set q (0, cellsI k)).getD q (0, 0) = (0, cellsI k) from getD_set_same (by rw [h.chl]; omega) _ _]
        exact lnk_all hk hb.1 (cellsI k).toNat 0 (by omega)
      · rw [show (C.ch.set q (0, cellsI k)).getD q (0, 0) = (0, cellsI k) from getD_set_same (by rw [h.chl]; omega) _ _, allC_len]
        omega
    · rw [kq q e] at k1 k4 ⊢
      rw [upd_other _ e, show (C.ch.set p (0, cellsI k)).getD q (0, 0) = C.ch.getD q (0, 0) from getD_set_other (fun e2 => e e2.symm) _ _]
      obtain ⟨g1, g2, g3⟩ := h.ln q hq k1 k4
      refine ⟨g1.keep fun i hi => ?_, g2, g3⟩
      have hm := g1.mem i hi
      have hcp := cad_page (p := q) ⟨k1, k4⟩ hm.1 hm.2
      have hs := sizeI_pos ⟨k1, k4⟩
      exact hb.2 _ (by omega) (by omega)
  · rw [List.length_set] at ha
    rw [show bit C.ws a = tkB C F a from h.bt a ha]
    by_cases e : a / 32 = p
    · unfold tkB
      rw [e, kp, hp0, if_neg (by omega), if_pos hk, upd_same]
      have := idx_lt hk a
      have hm : (a : Int) % 32 / sizeI k ∈ allC k := allC_mem.2 this
      simp [hm]
    · exact (tkB_same (kq _ e) (upd_other _ e)).symm
end Go.Proofs.YtjoejjhgneccgaaGreatDoor
