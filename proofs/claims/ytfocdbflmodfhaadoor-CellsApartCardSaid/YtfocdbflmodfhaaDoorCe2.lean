/- Cells: made; a page carved. -/
import Derived.Test.YtfocdbflmodfhaaDoorCe1
namespace Go.Proofs.YtfocdbflmodfhaaDoor
open Go.RowKit

def Cs.new (n : Nat) : Cs := ⟨List.replicate n 0, List.replicate (n * 32) 0, List.replicate 64 (0, 0), List.replicate 32 0#64⟩
def NewC (n : Nat) (B : Nat) (e : Ending) (w' : World) : Prop := ∃ b : Bl, e = .returned (.pointer (some ⟨b.c, 0, none⟩)) ∧ CX w' b (Cs.new n) ∧ ∀ x ∈ b.fp, B ≤ x
set_option maxHeartbeats 4000000 in
set_option maxRecDepth 100000 in
theorem cnew_any (n : Int) (w : World) :
    Calls Tryd.prog 7 #[.int .i64 n] w fun e w' => NewC (clampN n 0 64).toNat w.heap.size e w' ∧ Below w.heap.size w w' := by
  have hb := clampN_bd (a := n) (lo := 0) (hi := 64) (by omega)
  obtain ⟨p, hp⟩ := Int.eq_ofNat_of_zero_le hb.1
  have HP := Lib.hid hp
  have hp64 : p ≤ 64 := by omega
  have hc : clampN ((p : Int) * 32) 0 2048 = ((p * 32 : Nat) : Int) := by unfold clampN; rw [if_neg (by omega), if_neg (by omega)]; omega
  have HC := Lib.hid hc
  clear hb hp hc
  go_enter Tryd.func7, Tryd.ntmps7
  go_wp2_with (first
    | (go_at_call 30; refine (pnew_any n _).mono ?_; rw [HP.out, Int.toNat_natCast]; rintro e w1 ⟨rfl, ht, hb⟩; have T1 := Lib.hid ht; have B1 := Lib.hid hb; clear ht hb)
    | (go_at_call 31; refine (pall_any T1.out).mono ?_; rintro e w2 ⟨⟨v, rfl, hr⟩, hb⟩; obtain ⟨a, cap, rfl, -⟩ := hr.slice; rw [List.length_replicate]; have T2 := Lib.hid (T1.out.below hb); have B2 := Lib.hid (below_next B1.out hb); clear hr hb)
    | (go_at_call 32; refine (mnew_any _ _).mono ?_; rw [HC.out, Int.toNat_natCast]; rintro e w3 ⟨rfl, hm, hb⟩; have M3 := Lib.hid hm; have T3 := Lib.hid (T2.out.below hb); have B3 := Lib.hid (below_next B2.out hb); clear hm hb)
    | (go_at_call 33; refine (snew_any _ _).mono ?_; rw [HC.out, Int.toNat_natCast]; rintro e w4 ⟨rfl, hs, hb⟩; have S4 := Lib.hid hs; have M4 := Lib.hid (M3.out.below hb); have T4 := Lib.hid (T3.out.below hb); have B4 := Lib.hid (below_next B3.out hb); clear hs hb))
  go_ret
  rw [HP.out, Int.toNat_natCast]
  refine ⟨⟨⟨w4.heap.size, w.heap.size + 1, w.heap.size, w2.heap.size + 1, w2.heap.size, w3.heap.size⟩, rfl, ?_, ?_⟩, B4.out.alloc B4.out.size _⟩
  · refine ⟨heap_alloc_new w4 _, T4.out.below (below_alloc0 w4 _), M4.out.below (below_alloc0 w4 _), ?_, rfl, by simp [Cs.new]; omega⟩
    have e : (Cs.new p).xs.length = p * 32 := by simp [Cs.new]
    rw [e]
    exact S4.out.below (below_alloc0 w4 _)
  · have h1 := B2.out.size
    have h2 := B3.out.size
    have h3 := B4.out.size
    intro x hx
    simp only [Bl.fp, List.mem_cons, List.not_mem_nil, or_false] at hx
    omega
section
variable {w : World} {b : Bl} {C : Cs}
def carveC (C : Cs) (k : Int) : Cs := match takeT C.ks k with | some p => { C with ks := C.ks.set p k, ch := C.ch.set p (0, cellsI k), xs := buildL C.xs p k } | none => C
set_option maxHeartbeats 8000000 in
set_option maxRecDepth 100000 in
theorem ccarve_any (h : CX w b C) (k : Int) :
    Calls Tryd.prog 9 #[.pointer (some ⟨b.c, 0, none⟩), .int .i64 k] w fun e w' => TakeE (takeT C.ks k) e ∧ CX w' b (carveC C k) ∧ Frm b.fp w w' := by
  have H := Lib.hid h
  obtain ⟨c0, c1, -⟩ := h.cells
  cases ht : takeT C.ks k with
  | none =>
    have HT := Lib.hid ht
    have HC := Lib.hid (show carveC C k = C by unfold carveC; rw [ht])
    have HK := Lib.hid (show takeK C.ks k = C.ks by unfold takeK; rw [ht])
    clear h ht
    go_enter Tryd.func9, Tryd.ntmps9
    go_wp2_with (first
      | (go_at_call 34; refine (cis_any H.out).mono ?_; rintro e w' ⟨rfl, rfl⟩)
      | (go_at_call 35; refine (ptake_any H.out.tx k).mono ?_; rw [HT.out, HK.out]; rintro e w1 ⟨rfl, hx, hf⟩; have H1 := Lib.hid (H.out.withTx hf hx rfl); have F1 := Lib.hid hf; clear hx hf))
    go_ret2
    exact ⟨rfl, by rw [HC.out]; exact H1.out, F1.out.sub (by simp [Bl.fp])⟩
  | some p =>
    have hz : sizeI k ≠ 0 := by intro e; unfold takeT at ht; rw [if_pos e] at ht; cases ht
    have hk : 1 ≤ k ∧ k ≤ 4 := by
      apply Decidable.byContradiction; intro hc
      exact hz (sizeI_zero (by omega))
    have hpl : p < C.ks.length := by
      unfold takeT at ht; rw [if_neg hz] at ht; exact idx0_lt ht
    have hp64 : p < 64 := by have := h.tx.le; omega
    have HO := Lib.hid (show OpP C.xs.length p k from ⟨by omega, by omega, hk.1, hk.2, by rw [h.len]; omega⟩)
    have HT := Lib.hid ht
    have HP := Lib.hid hp64
    have HC := Lib.hid (show carveC C k = { C with ks := C.ks.set p k, ch := C.ch.set p (0, cellsI k), xs := buildL C.xs p k } by unfold carveC; rw [ht])
    have HK := Lib.hid (show takeK C.ks k = C.ks.set p k by unfold takeK; rw [ht])
    have q1 : (0 : Int) ≤ (p : Int) := by omega
    have q2 : (p : Int) < 64 := by omega
    clear h ht hz hk hpl hp64
    go_enter Tryd.func9, Tryd.ntmps9
    go_wp2_with (first
      | (go_at_call 34; refine (cis_any H.out).mono ?_; rintro e w' ⟨rfl, rfl⟩)
      | (go_at_call 35; refine (ptake_any H.out.tx k).mono ?_; rw [HT.out, HK.out]; rintro e w1 ⟨rfl, hx, hf⟩; have H1 := Lib.hid (H.out.withTx hf hx (by simp)); have F1 := Lib.hid hf; clear hx hf))
    have d1 : w1.cell? ⟨b.c, 1, none⟩ = some (.pointer (some ⟨b.m, 0, none⟩)) := H1.out.cells.2.1
    clear c0 c1
    have G1 : Hid (CX w1.drew b { C with ks := C.ks.set p k }) := Lib.hid (H1.out.below (Below.refl _ _).drew)
    have M1 := Lib.hid G1.out.mx
    go_region_held3 (fun w' => w'.cell? ⟨b.c, 1, none⟩ = some (.pointer (some ⟨b.m, 0, none⟩))) (first | assumption | exact cell_set2 (.inl (by decide)) HP.out (by assumption) | go_keep)
      ((go_at_call 36; refine (build_yes M1.out p k HO.out).mono ?_; rintro e w2 ⟨rfl, hm, hf⟩; have hx2 := G1.out.withMx hf hm (buildL_len _ _ _); have H2 := Lib.hid hx2; have F2 := Lib.hid hf; obtain ⟨-, d2, -⟩ := hx2.cells; obtain ⟨d3, d4, d5, d6⟩ := hx2.chain HP.out; clear hm hf hx2))
    go_wp2_with fail
    go_ret2
    refine ⟨rfl, ?_, ?_⟩
    · rw [HC.out]
      exact H2.out.setChain HP.out (0, cellsI k)
    · refine ((F1.out.sub (fp' := b.fp) (by simp [Bl.fp])).trans ((Frm.of_below b.fp (Below.refl _ _).drew).trans (F2.out.sub (fp' := b.fp) (by simp [Bl.fp])) (fun x hx => .inl hx)) (fun x hx => .inl hx)).trans ?_ (fun x hx => .inl hx)
      exact (Frm.setCell _ (fp := b.fp) (by simp [Bl.fp]) _).trans (Frm.setCell _ (fp := b.fp) (by simp [Bl.fp]) _) (fun x hx => .inl hx)
end
end Go.Proofs.YtfocdbflmodfhaaDoor
