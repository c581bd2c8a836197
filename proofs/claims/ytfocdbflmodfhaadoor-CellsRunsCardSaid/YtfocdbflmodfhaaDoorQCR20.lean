/- Cells: given back, dropped, stored to: what is kept; the book's view. -/
import Derived.Test.YtfocdbflmodfhaaDoorQCR18
import Derived.Test.YtfocdbflmodfhaaDoorQCR19
namespace Go.Proofs.YtfocdbflmodfhaaDoor
open Go.RowKit

theorem give_kept {C : Cs} {F : Nat → List Int} {z : Nat} (h : Inv C F) (hb : z ∈ bitsN C.ws) (C' : Cs) (hks : C'.ks = C.ks) (hws : C'.ws = bitOff C.ws z) (hxs : ∀ x, x < C.xs.length → x ≠ z → C'.xs.getD x 0 = C.xs.getD x 0) :
    (∀ a, a ∈ bitsN C'.ws ↔ a ≠ z ∧ a ∈ bitsN C.ws) ∧ ∀ a ∈ bitsN C.ws, a ≠ z → Kept C C' a := by
  have hz := (bits_lt h hb).1
  have hle := h.le
  have hlen := h.len
  have hm : ∀ a, a ∈ bitsN C'.ws ↔ a ≠ z ∧ a ∈ bitsN C.ws := fun a => by rw [hws]; exact off_mem h (by omega)
  refine ⟨hm, fun a ha hne => ⟨(hm a).2 ⟨hne, ha⟩, by unfold endN; rw [hks], by rw [hks], fun x h1 h2 => ?_⟩⟩
  have hx := (pages_in h ha h1 h2).1
  refine hxs x (by omega) fun e => ?_
  have := (end_le h hb).1
  rcases apart_ne h ha hb hne h1 h2 with h3 | h3 <;> omega
theorem free_kept {C : Cs} {F : Nat → List Int} (h : Inv C F) (p m : Nat) (C' : Cs) (hks : C'.ks = fillL C.ks p m 0) (hxs : C'.xs = C.xs)
    {a : Nat} (ha : a ∈ bitsN C.ws) (hin : a ∈ bitsN C'.ws) (hne : ∀ x, a ≤ x → x < endN C a → ¬ (p ≤ x / 32 ∧ x / 32 < p + m)) : Kept C C' a := by
  have hlk : C'.ks.length = C.ks.length := by rw [hks, fillL_len]
  obtain ⟨he, hkd⟩ := end_turned (C' := C') h ha hlk (fun q hq hd => by
    have hin : p ≤ q ∧ q < p + m := by
      apply Decidable.byContradiction; intro hn
      rw [hks, fillL_get _ _ _ _ _ hq, if_neg hn] at hd
      exact hd rfl
    refine ⟨fun x h1 h2 e => hne x h1 h2 (by rw [e]; exact hin), .inl ?_⟩
    rw [hks, fillL_get _ _ _ _ _ hq, if_pos hin]; decide)
  exact ⟨hin, he, hkd, fun x _ _ => by rw [hxs]⟩
theorem giveL_kept {C : Cs} {F : Nat → List Int} {z : Nat} (h : Inv C F) (hb : z ∈ bitsN C.ws) (h5 : C.ks.getD (z / 32) 0 = 5) :
    (∀ a, a ∈ bitsN (giveL C z).ws ↔ a ≠ z ∧ a ∈ bitsN C.ws) ∧ (∀ a ∈ bitsN C.ws, a ≠ z → Kept C (giveL C z) a) ∧ (giveL C z).ks = fillL C.ks (z / 32) (sizeL C.ks ((z / 32 : Nat) : Int)).toNat 0 := by
  have hz := (bits_lt h hb).1
  have hle := h.le
  obtain ⟨-, h0, hend, -⟩ := apart_large h hb (by rw [h5]; simp [sizeI])
  have hpg : pageI (z : Int) = ((z / 32 : Nat) : Int) := by rw [pageI_in (by omega) (by omega)]; omega
  have hws : (giveL C z).ws = bitOff C.ws z := by unfold giveL; exact remL_off (has_of h hb)
  have hm : ∀ a, a ∈ bitsN (giveL C z).ws ↔ a ≠ z ∧ a ∈ bitsN C.ws := fun a => by rw [hws]; exact off_mem h (by omega)
  have hks : (giveL C z).ks = fillL C.ks (z / 32) (sizeL C.ks ((z / 32 : Nat) : Int)).toNat 0 := by unfold giveL freeL; rw [hpg, Int.toNat_natCast]
  have hsz : sizeL C.ks ((z / 32 : Nat) : Int) = 1 + (run6 C.ks (z / 32 + 1) : Int) := by
    unfold sizeL
    rw [kindL_in (by omega), h5, if_neg (by simp [sizeI]), if_neg (by simp), Int.toNat_natCast]
  refine ⟨hm, fun a ha hne => ?_, hks⟩
  refine free_kept h (z / 32) _ (giveL C z) hks rfl ha ((hm a).2 ⟨hne, ha⟩) fun x h1 h2 hc => ?_
  have hez : endN C z = z + 32 * (1 + run6 C.ks (z / 32 + 1)) := by
    unfold endN; rw [h5, if_neg (by simp [sizeI])]
  rcases apart_ne h ha hb hne h1 h2 with h3 | h3 <;> omega
theorem drop_all {C : Cs} {F : Nat → List Int} {p : Nat} (h : Inv C F) (hp : p < C.ks.length) (k1 : 1 ≤ C.ks.getD p 0) (k4 : C.ks.getD p 0 ≤ 4) (hl : cellsI (C.ks.getD p 0) ≤ ((F p).length : Int)) : ∀ i, 0 ≤ i → i < cellsI (C.ks.getD p 0) → i ∈ F p := by
  obtain ⟨g1, g2, g3⟩ := h.ln p hp k1 k4
  intro i h0 h1
  apply Decidable.byContradiction; intro hn
  have hfew := few_ints (cellsI (C.ks.getD p 0)).toNat (i :: F p) (List.nodup_cons.2 ⟨hn, g3⟩) (fun x hx => by
    rcases List.mem_cons.1 hx with rfl | hx
    · omega
    · have := g1.mem x hx; omega)
  rw [List.length_cons] at hfew
  omega
theorem drop_kept {C : Cs} {F : Nat → List Int} {p : Nat} (h : Inv C F) (hp : p < C.ks.length) (k1 : 1 ≤ C.ks.getD p 0) (k4 : C.ks.getD p 0 ≤ 4) (hl : cellsI (C.ks.getD p 0) ≤ ((F p).length : Int)) :
    freeL C.ks p = fillL C.ks p 1 0 ∧ (∀ a ∈ bitsN C.ws, a / 32 ≠ p) ∧ ∀ a ∈ bitsN C.ws, Kept C { C with ks := freeL C.ks p } a := by
  have hall := drop_all h hp k1 k4 hl
  have hsp := sizeI_pos ⟨k1, k4⟩
  have hs : sizeL C.ks p = 1 := by unfold sizeL; rw [kindL_in hp, if_pos (by omega)]
  have hf : freeL C.ks p = fillL C.ks p 1 0 := by unfold freeL; rw [hs, Int.toNat_natCast]; rfl
  have hnp : ∀ a ∈ bitsN C.ws, a / 32 ≠ p := fun a ha e => by
    rcases tk_cases (bits_lt h ha).2 with ⟨t1, t2, al, hn⟩ | ⟨t5, -⟩
    · rw [e] at hn
      have := idx_lt ⟨k1, k4⟩ a
      exact hn (hall _ this.1 this.2)
    · rw [e] at t5; omega
  refine ⟨hf, hnp, fun a ha => free_kept h p 1 { C with ks := freeL C.ks p } hf rfl ha ha fun x h1 h2 hc => ?_⟩
  have e : x / 32 = p := by omega
  rcases (pages_in h ha h1 h2).2.2 with ⟨-, e2⟩ | ⟨h5, e2 | h6⟩
  · exact hnp a ha (by omega)
  · rw [← e2, e] at h5; omega
  · rw [e] at h6; omega
/-- The book's size is what is taken's. -/
theorem bsize_end {C : Cs} {F : Nat → List Int} (h : Inv C F) {a : Nat} (ha : a ∈ bitsN C.ws) : (endN C a : Int) = a + bsize C.ks a := by
  have hl := (bits_lt h ha).1
  unfold bsize
  rw [kindL_in (by omega)]
  rcases tk_cases (bits_lt h ha).2 with ⟨t1, t2, -⟩ | ⟨t5, -⟩
  · have := sizeI_pos ⟨t1, t2⟩
    have e : endN C a = a + (sizeI (C.ks.getD (a / 32) 0)).toNat := by unfold endN; rw [if_pos (by omega)]
    rw [e, if_neg (by omega)]
    omega
  · have e : endN C a = a + 32 * (1 + run6 C.ks (a / 32 + 1)) := by unfold endN; rw [t5, if_neg (by simp [sizeI])]
    have e2 : sizeL C.ks ((a / 32 : Nat) : Int) = 1 + (run6 C.ks (a / 32 + 1) : Int) := by
      unfold sizeL
      rw [kindL_in (by omega), t5, if_neg (by simp [sizeI]), if_neg (by simp), Int.toNat_natCast]
    rw [e, e2, if_pos t5]
    omega
theorem mem_bitsI {ws : List (BitVec 64)} {x : Int} : x ∈ bitsI ws ↔ ∃ a : Nat, a ∈ bitsN ws ∧ x = a := by
  unfold bitsI
  rw [List.mem_map]
  exact ⟨fun ⟨a, h1, h2⟩ => ⟨a, h1, h2.symm⟩, fun ⟨a, h1, h2⟩ => ⟨a, h1, h2.symm⟩⟩
theorem bitsI_sorted (ws : List (BitVec 64)) : (bitsI ws).Pairwise (· < ·) := by
  unfold bitsI
  exact (bitsN_sorted ws).map _ fun a b h => Int.ofNat_lt.2 h
theorem bbase_eq {C : Cs} {F : Nat → List Int} (h : Inv C F) (x : Int) : bbase C.ks (bitsI C.ws) x = baseC C x := by
  unfold bbase
  cases hf : (bitsI C.ws).find? (inAt C.ks x) with
  | some y =>
    have h1 := List.find?_some hf
    obtain ⟨a, ha, rfl⟩ := mem_bitsI.1 (List.mem_of_find?_eq_some hf)
    unfold inAt at h1
    rw [decide_eq_true_eq, Int.toNat_natCast, ← bsize_end h ha] at h1
    rw [base_in h ha h1.1 h1.2]; rfl
  | none =>
    rw [List.find?_eq_none] at hf
    by_cases h0 : 0 ≤ baseC C x
    · obtain ⟨a, ha, e, h1, h2⟩ := base_back h h0
      refine absurd ?_ (hf (a : Int) (mem_bitsI.2 ⟨a, ha, rfl⟩))
      unfold inAt
      rw [decide_eq_true_eq, Int.toNat_natCast, ← bsize_end h ha]
      exact ⟨h1, h2⟩
    · unfold baseC at h0 ⊢
      split at h0
      · rename_i hb
        obtain ⟨a, e, -⟩ := has_tk h hb
        omega
      · rename_i hb
        rw [if_neg hb]; rfl
/-- The words of what is taken, as the book has them. -/
def WS (C : Cs) (ws : List Int) : Prop := ∀ a ∈ bitsN C.ws, ∀ x, a ≤ x → x < endN C a → ws.getD x 0 = C.xs.getD x 0
theorem WS.keep {C C' : Cs} {ws : List Int} (h : WS C ws) (hm : ∀ a ∈ bitsN C'.ws, a ∈ bitsN C.ws) (hk : ∀ a ∈ bitsN C'.ws, Kept C C' a) : WS C' ws := fun a ha x h1 h2 => by
  have k := hk a ha
  rw [k.end_] at h2
  rw [h a (hm a ha) x h1 h2, k.xs x h1 h2]
theorem WS.put {C C' : Cs} {F' : Nat → List Int} {ws : List Int} {z n : Nat} (h : WS C ws) (hi : Inv C' F') (hw : ws.length = 2048) (hm : ∀ a, a ∈ bitsN C'.ws ↔ a = z ∨ a ∈ bitsN C.ws) (hz : z ∉ bitsN C.ws) (hk : ∀ a ∈ bitsN C.ws, Kept C C' a)
    (he : endN C' z = z + n) (h0 : ∀ x, z ≤ x → x < endN C' z → C'.xs.getD x 0 = 0) : WS C' (fillL ws z n 0) := fun a ha x h1 h2 => by
  have hle := hi.le
  have hx := (pages_in hi ha h1 h2).1
  rcases (hm a).1 ha with rfl | hb
  · rw [h0 x h1 h2, fillL_get _ _ _ _ _ (by omega), if_pos (by omega)]
  · have k := hk a hb
    have hne : a ≠ z := fun e => hz (e ▸ hb)
    have hap := apart_ne hi ha ((hm z).2 (.inl rfl)) hne h1 h2
    rw [k.end_] at h2
    rw [fillL_get _ _ _ _ _ (by omega), if_neg (by omega), h a hb x h1 h2, k.xs x h1 h2]
theorem ris_bits {C C' : Cs} {z : Nat} (hm : ∀ a, a ∈ bitsN C'.ws ↔ a = z ∨ a ∈ bitsN C.ws) : risL (bitsI C.ws ++ [(z : Int)]) = bitsI C'.ws := by
  refine sorted_ext (risL_sorted _) (bitsI_sorted _) fun y => ?_
  rw [mem_risL, List.mem_append, List.mem_singleton, mem_bitsI, mem_bitsI]
  constructor
  · rintro (⟨a, ha, rfl⟩ | rfl)
    · exact ⟨a, (hm a).2 (.inr ha), rfl⟩
    · exact ⟨z, (hm z).2 (.inl rfl), rfl⟩
  · rintro ⟨a, ha, rfl⟩
    rcases (hm a).1 ha with rfl | hb
    · exact .inr rfl
    · exact .inl ⟨a, hb, rfl⟩
theorem filt_bits {C C' : Cs} {z : Nat} (hm : ∀ a, a ∈ bitsN C'.ws ↔ a ≠ z ∧ a ∈ bitsN C.ws) : ((bitsI C.ws).filter fun y => decide (y ≠ (z : Int))) = bitsI C'.ws := by
  refine sorted_ext ((bitsI_sorted _).filter _) (bitsI_sorted _) fun y => ?_
  rw [List.mem_filter, mem_bitsI, mem_bitsI]
  constructor
  · rintro ⟨⟨a, ha, rfl⟩, h2⟩
    exact ⟨a, (hm a).2 ⟨fun e => by simp [e] at h2, ha⟩, rfl⟩
  · rintro ⟨a, ha, rfl⟩
    obtain ⟨h1, h2⟩ := (hm a).1 ha
    exact ⟨⟨a, h2, rfl⟩, by simpa using fun e : (a : Int) = z => h1 (by omega)⟩
end Go.Proofs.YtfocdbflmodfhaaDoor

/- The law's book: take, of the program and by lists. -/
namespace Go.Proofs.YtfocdbflmodfhaaDoor
open Go.RowKit

/-- Cells, the reference and the book, alike. -/
structure CR (base : Nat) (b : Bl) (bk h : Nat) (C : Cs) (F : Nat → List Int) (ws : List Int) (w : World) : Prop where
  cx : CX w b C
  inv : Inv C F
  rs : RS base bk h (restN 0) C.ks F (bitsI C.ws) ws w
  wd : WS C ws
def CRE (base : Nat) (b : Bl) (bk h N m : Nat) (w : World) : Prop := ∃ C F ws, CR base b bk h C F ws w ∧ C.ks.length = N ∧ (bitsI C.ws).length ≤ m
section
variable {base bk h B0 N m : Nat} {b : Bl} {w w' : World} {C C' : Cs} {rest : List Value} {ks ts ws : List Int} {F F' : Nat → List Int}
theorem RS.frm {fp : List Nat} (H : RS base bk h rest ks F ts ws w) (hf : Frm fp w w') (hd : ∀ x ∈ fp, x < base) : RS base bk h rest ks F ts ws w' := by
  obtain ⟨kv, fv, tv, h1, h2, h3⟩ := H
  have k : ∀ g, base ≤ g → ∀ c, w.heap[g]? = some c → w'.heap[g]? = w.heap[g]? := fun g hg c hc => hf.block g (heap_lt hc) (fun hm => by have := hd g hm; omega)
  refine ⟨kv, fv, tv, h1.stays (k h h1.own _ h1.hd) (fun g hg => ?_), ⟨(k bk h2.own _ h2.hd).trans h2.hd, h2.own, h2.tk.stays (fun g hg => ?_), h2.tl, h2.wl⟩, h3⟩
  · obtain ⟨e1, cur, e2⟩ := h1.rows g hg
    exact k g e1 _ e2
  · obtain ⟨e1, cur, e2⟩ := h2.tk.oblk g hg
    exact k g e1 _ e2
theorem CX.belowBase (H : CX w b C) (hf : ∀ x ∈ b.fp, x < base) (hb : Below base w w') : CX w' b C := H.keep fun x hx => hb.block x (hf x hx)
theorem frm_below0 {fp : List Nat} (h : Frm fp w w') (hB : B0 ≤ w.heap.size) (hf : ∀ x ∈ fp, B0 ≤ x) : Below B0 w w' := h.below hB hf
/-- An operation as it lies in memory. -/
def opC (k n x : Int) : Obj := .cells #[.int .i64 k, .int .i64 n, .int .i64 x] 28 (0, 0)
theorem op_cells {z : Nat} {k n x : Int} (hz : w.heap[z]? = some (opC k n x)) : w.cell? ⟨z, 0, none⟩ = some (.int .i64 k) ∧ w.cell? ⟨z, 1, none⟩ = some (.int .i64 n) ∧ w.cell? ⟨z, 2, none⟩ = some (.int .i64 x) :=
  ⟨cell_of_row _ _ _ _ _ _ hz, cell_of_row _ _ _ _ _ _ hz, cell_of_row _ _ _ _ _ _ hz⟩
theorem op_frm {fp : List Nat} {z : Nat} {k n x : Int} (hz : w.heap[z]? = some (opC k n x)) (hf : Frm fp w w') (hd : ∀ y ∈ fp, y < z) : w'.heap[z]? = some (opC k n x) := (hf.block z (heap_lt hz) (fun hm => by have := hd z hm; omega)).trans hz
theorem CX.ref (H : CX w b C) (hf : ∀ x ∈ b.fp, x < base) (ho : base ≤ h) (hr : Frm [h] w w') : CX w' b C := H.frm hr fun x hx hm => by
  have := hf x hx
  rw [List.mem_singleton] at hm
  omega
/-- What stands when a call's argument has been boxed. -/
structure St0 (base : Nat) (b : Bl) (bk h B0 : Nat) (C : Cs) (F : Nat → List Int) (ws : List Int) (k n x : Int) (w W : World) : Prop where
  cr : CR base b bk h C F ws W
  z : W.heap[w.heap.size]? = some (opC k n x)
  bl : Below B0 w W
  hb : base ≤ w.heap.size
  hs : w.heap.size ≤ W.heap.size
  hf : ∀ y ∈ b.fp, y < base
  f0 : ∀ y ∈ b.fp, B0 ≤ y
  b0 : B0 ≤ base
theorem st0_start (H0 : CR base b bk h C F ws w) (hb : base ≤ w.heap.size) (hf : ∀ x ∈ b.fp, x < base) (hB : B0 ≤ base) (hf0 : ∀ x ∈ b.fp, B0 ≤ x) (k n x : Int) : St0 base b bk h B0 C F ws k n x w (w.alloc (opC k n x)) :=
  have bz := below_alloc0 w (opC k n x)
  ⟨⟨H0.cx.below bz, H0.inv, H0.rs.below bz, H0.wd⟩, heap_alloc_new w _, bz.mono (Nat.le_trans hB hb), hb, bz.size, hf, hf0, hB⟩
theorem St0.below {W W' : World} {k n x : Int} (H : St0 base b bk h B0 C F ws k n x w W) (hb : Below W.heap.size W W') : St0 base b bk h B0 C F ws k n x w W' :=
  ⟨⟨H.cr.cx.below hb, H.cr.inv, H.cr.rs.below hb, H.cr.wd⟩, keep hb H.z, H.bl.trans (hb.mono (Nat.le_trans (Nat.le_trans H.b0 H.hb) H.hs)), H.hb, Nat.le_trans H.hs hb.size, H.hf, H.f0, H.b0⟩
/-- Behind a call of the cells: the cells are other ones, the rest stands. -/
structure St1 (base : Nat) (b : Bl) (bk h B0 : Nat) (C C' : Cs) (F : Nat → List Int) (ws : List Int) (k n x : Int) (w W : World) (kv tv : Value) (fv : List Value) : Prop where
  cx : CX W b C'
  hp : Hp base W h kv fv (restN 0) C.ks F
  bk : Bk base W bk h tv (bitsI C.ws) ws
  sp : ∀ g, oblk tv = some g → g ∉ hrows kv fv
  z : W.heap[w.heap.size]? = some (opC k n x)
  bl : Below B0 w W
  hb : base ≤ W.heap.size
  hz : ∀ y ∈ b.fp, y < w.heap.size
  hf : ∀ y ∈ b.fp, y < base
  f0 : ∀ y ∈ b.fp, B0 ≤ y
  b0 : B0 ≤ base
theorem St0.call {W W' : World} {k n x : Int} (H : St0 base b bk h B0 C F ws k n x w W) (hx : CX W' b C') (hfr : Frm b.fp W W') : ∃ kv tv fv, St1 base b bk h B0 C C' F ws k n x w W' kv tv fv := by
  obtain ⟨kv, fv, tv, h1, h2, h3⟩ := H.cr.rs.frm hfr H.hf
  have hh := Nat.le_trans H.hb H.hs
  exact ⟨kv, tv, fv, hx, h1, h2, h3, op_frm H.z hfr (fun y hy => by have := H.hf y hy; have := H.hb; omega), H.bl.trans (frm_below0 hfr (Nat.le_trans H.b0 hh) H.f0), Nat.le_trans hh hfr.size, fun y hy => by have := H.hf y hy; have := H.hb; omega, H.hf, H.f0, H.b0⟩
theorem St1.below {W W' : World} {k n x : Int} {kv tv : Value} {fv : List Value} (H : St1 base b bk h B0 C C' F ws k n x w W kv tv fv) (hb : Below W.heap.size W W') : St1 base b bk h B0 C C' F ws k n x w W' kv tv fv :=
  ⟨H.cx.below hb, H.hp.below hb, H.bk.below hb, H.sp, keep hb H.z, H.bl.trans (hb.mono (Nat.le_trans H.b0 H.hb)), Nat.le_trans H.hb hb.size, H.hz, H.hf, H.f0, H.b0⟩
theorem St1.cells {W : World} {k n x : Int} {kv tv : Value} {fv : List Value} (H : St1 base b bk h B0 C C' F ws k n x w W kv tv fv) : W.cell? ⟨w.heap.size, 0, none⟩ = some (.int .i64 k) ∧ W.cell? ⟨w.heap.size, 1, none⟩ = some (.int .i64 n) ∧ W.cell? ⟨w.heap.size, 2, none⟩ = some (.int .i64 x) ∧ W.cell? ⟨bk, 0, none⟩ = some (.pointer (some ⟨h, 0, none⟩)) ∧ W.cell? ⟨bk, 1, none⟩ = some tv :=
  ⟨(op_cells H.z).1, (op_cells H.z).2.1, (op_cells H.z).2.2, H.bk.cells.1, H.bk.cells.2.1⟩
/-- Behind the reference's call too. -/
theorem St1.ref {W W' : World} {k n x : Int} {kv tv : Value} {fv : List Value} (H : St1 base b bk h B0 C C' F ws k n x w W kv tv fv) (hi : Inv C' F') (he : HpE base h (restN 0) C'.ks F' W.heap.size (hrows kv fv) W') (hfr : Frm [h] W W') (hw : C'.ws = C.ws) (hwd : WS C' ws) :
    CR base b bk h C' F' ws W' ∧ Below B0 w W' :=
  ⟨⟨H.cx.ref H.hf H.hp.own hfr, hi, by rw [hw]; exact RS.of_ref H.hp H.bk H.sp he hfr, hwd⟩, H.bl.trans (frm_below0 hfr (Nat.le_trans H.b0 H.hb) (fun y hy => by rw [List.mem_singleton.1 hy]; exact Nat.le_trans H.b0 H.hp.own))⟩
end
end Go.Proofs.YtfocdbflmodfhaaDoor
