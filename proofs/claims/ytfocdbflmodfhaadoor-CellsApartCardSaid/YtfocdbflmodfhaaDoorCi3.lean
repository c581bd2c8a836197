/- Cells, in plain lists: given back; a page dropped; large ones. -/
import Derived.Test.YtfocdbflmodfhaaDoorCi2
import Derived.Test.YtfocdbflmodfhaaDoorCe4
namespace Go.Proofs.YtfocdbflmodfhaaDoor
open Go.RowKit

theorem has_tk {C : Cs} {F : Nat → List Int} {x : Int} (h : Inv C F) (hb : hasB C.xs.length C.ws x = true) : ∃ a : Nat, x = a ∧ a < 32 * C.ks.length ∧ bit C.ws a = true ∧ tkB C F a = true := by
  unfold hasB inB at hb
  simp only [Bool.and_eq_true, decide_eq_true_eq] at hb
  obtain ⟨a, rfl⟩ := Int.eq_ofNat_of_zero_le hb.1.1
  have hl := h.len
  have ha : a < 32 * C.ks.length := by omega
  rw [Int.toNat_natCast] at hb
  exact ⟨a, rfl, ha, hb.2, by rw [← h.bt a ha]; exact hb.2⟩
theorem tk_cases {C : Cs} {F : Nat → List Int} {a : Nat} (h : tkB C F a = true) : (1 ≤ C.ks.getD (a / 32) 0 ∧ C.ks.getD (a / 32) 0 ≤ 4 ∧ (a : Int) % 32 % sizeI (C.ks.getD (a / 32) 0) = 0 ∧ (a : Int) % 32 / sizeI (C.ks.getD (a / 32) 0) ∉ F (a / 32)) ∨ (C.ks.getD (a / 32) 0 = 5 ∧ a % 32 = 0) := by
  unfold tkB at h
  split at h
  · rename_i hk
    have := of_decide_eq_true h
    exact .inl ⟨hk.1, hk.2, this.1, this.2⟩
  · exact .inr (of_decide_eq_true h)
theorem mod_size {k : Int} (hk : 1 ≤ k ∧ k ≤ 4) {a : Int} (h : a % 32 % sizeI k = 0) : a % sizeI k = 0 := by
  have hc : k = 1 ∨ k = 2 ∨ k = 3 ∨ k = 4 := by omega
  rcases hc with rfl | rfl | rfl | rfl <;> simp [sizeI] at * <;> omega
/-- What is taken may be given back. -/
theorem give_ok {C : Cs} {F : Nat → List Int} {a : Nat} (h : Inv C F) (ha : a < 32 * C.ks.length) (k1 : 1 ≤ C.ks.getD (a / 32) 0) (k4 : C.ks.getD (a / 32) 0 ≤ 4) (hal : (a : Int) % 32 % sizeI (C.ks.getD (a / 32) 0) = 0)
    (hn : (a : Int) % 32 / sizeI (C.ks.getD (a / 32) 0) ∉ F (a / 32)) :
    GiveP C a (a / 32) (C.ks.getD (a / 32) 0) ((a : Int) % 32 / sizeI (C.ks.getD (a / 32) 0)) (C.ch.getD (a / 32) (0, 0)).1 (C.ch.getD (a / 32) (0, 0)).2 := by
  have hq : a / 32 < C.ks.length := by omega
  have hle := h.le
  obtain ⟨g1, g2, g3⟩ := h.ln _ hq k1 k4
  have hx := idx_lt ⟨k1, k4⟩ a
  have hf := g1.first ⟨k1, k4⟩
  have hc := cellsI_pos ⟨k1, k4⟩
  have hfew := few_ints (cellsI (C.ks.getD (a / 32) 0)).toNat ((a : Int) % 32 / sizeI (C.ks.getD (a / 32) 0) :: F (a / 32)) (List.nodup_cons.2 ⟨hn, g3⟩) (fun x hm => by
    rcases List.mem_cons.1 hm with rfl | hm
    · omega
    · have := g1.mem x hm; omega)
  rw [List.length_cons] at hfew
  exact ⟨hq, by rw [pageI_in (by omega) (by omega)]; omega, by omega, by omega, kindL_in hq, k1, k4, mod_size ⟨k1, k4⟩ hal, rfl, hx.1, hx.2, rfl, by rw [g2]; omega, by rw [g2]; omega, hf.1, hf.2⟩
theorem remL_off {C : Cs} {a : Nat} (h : hasB C.xs.length C.ws a = true) : remL C.xs.length C.ws a = bitOff C.ws a := by
  unfold remL; rw [if_pos h, Int.toNat_natCast]
theorem inv_give {C : Cs} {F : Nat → List Int} {a : Nat} (h : Inv C F) (hb : hasB C.xs.length C.ws a = true) (ha : a < 32 * C.ks.length) (k1 : 1 ≤ C.ks.getD (a / 32) 0) (k4 : C.ks.getD (a / 32) 0 ≤ 4) (hal : (a : Int) % 32 % sizeI (C.ks.getD (a / 32) 0) = 0)
    (hn : (a : Int) % 32 / sizeI (C.ks.getD (a / 32) 0) ∉ F (a / 32)) :
    Inv (giveS C a (a / 32) (C.ks.getD (a / 32) 0) ((a : Int) % 32 / sizeI (C.ks.getD (a / 32) 0)) (C.ch.getD (a / 32) (0, 0)).1 (C.ch.getD (a / 32) (0, 0)).2) (upd F (a / 32) ((a : Int) % 32 / sizeI (C.ks.getD (a / 32) 0) :: F (a / 32))) := by
  have hg := give_ok h ha k1 k4 hal hn
  have hq : a / 32 < C.ks.length := by omega
  obtain ⟨q, eq⟩ : ∃ q, q = a / 32 := ⟨_, rfl⟩
  rw [← eq] at k1 k4 hal hn hg hq ⊢
  obtain ⟨k, hk⟩ : ∃ k, k = C.ks.getD q 0 := ⟨_, rfl⟩
  rw [← hk] at k1 k4 hal hn hg ⊢
  have hkk : 1 ≤ k ∧ k ≤ 4 := ⟨k1, k4⟩
  obtain ⟨i, hi⟩ : ∃ i, i = (a : Int) % 32 / sizeI k := ⟨_, rfl⟩
  rw [← hi] at hn hg ⊢
  obtain ⟨f, hf⟩ : ∃ f, f = (C.ch.getD q (0, 0)).1 := ⟨_, rfl⟩
  obtain ⟨n, hnn⟩ : ∃ n, n = (C.ch.getD q (0, 0)).2 := ⟨_, rfl⟩
  rw [← hf, ← hnn] at hg ⊢
  have hlen := h.len
  have hle := h.le
  have hac : (a : Int) = cad q k i := by
    have := aligned hkk hal
    rw [← eq, ← hi] at this
    exact this
  have hcp := cad_page (p := q) hkk hg.i0 hg.i1
  unfold giveS
  rw [remL_off hb]
  have hx : ∀ b, b < C.xs.length → b ≠ a → (putL C.xs (cad q k i) (-1 - f)).getD b 0 = C.xs.getD b 0 := fun b hb2 hne => by
    rw [putL_get hb2, if_neg (by omega)]
  obtain ⟨C', hC'⟩ : ∃ C' : Cs, C' = { C with ws := bitOff C.ws a, ch := C.ch.set q (i, n + 1), xs := putL C.xs (cad q k i) (-1 - f) } := ⟨_, rfl⟩
  rw [← hC']
  have ks' : C'.ks = C.ks := by rw [hC']
  refine ⟨by rw [ks']; exact hle, by rw [ks', hC']; show (putL C.xs _ _).length = _; rw [putL_len]; exact hlen, by rw [hC']; simpa using h.chl, by rw [hC']; show (bitOff C.ws a).length = 32; rw [bitOff_len]; exact h.wl, by rw [ks']; exact h.kd, by rw [ks']; exact h.sx, fun p hp p1 p4 => ?_, fun b hb2 => ?_, fun b hb2 hb3 => ?_⟩
  · rw [ks'] at hp p1 p4 ⊢
    have ech : C'.ch = C.ch.set q (i, n + 1) := by rw [hC']
    have exs : C'.xs = putL C.xs (cad q k i) (-1 - f) := by rw [hC']
    rw [ech, exs]
    by_cases e : p = q
    · subst e
      obtain ⟨g1, g2, g3⟩ := h.ln p hp p1 p4
      rw [upd_same, getD_set_same (by rw [h.chl]; omega), ← hk]
      rw [← hk, ← hf] at g1
      refine ⟨⟨rfl, hg.i0, hg.i1, f, hg.f0, hg.f1, ?_, g1.keep fun j hj => ?_⟩, ?_, List.nodup_cons.2 ⟨hn, g3⟩⟩
      · rw [putL_get (by omega), if_pos (by omega)]
      · have hm := g1.mem j hj
        have hc2 := cad_page (p := p) hkk hm.1 hm.2
        have hs2 := sizeI_pos hkk
        have hd := cad_ne (p := (p : Int)) (k := k) (i := j) (j := i) (by omega) hkk hm.1 hg.i0 (by rintro rfl; exact hn hj)
        exact hx _ (by omega) (by omega)
      · rw [List.length_cons, hnn, g2]; simp
    · rw [upd_other _ e, getD_set_other (fun e2 => e e2.symm)]
      obtain ⟨g1, g2, g3⟩ := h.ln p hp p1 p4
      refine ⟨g1.keep fun j hj => ?_, g2, g3⟩
      have hm := g1.mem j hj
      have hc2 := cad_page (p := p) ⟨p1, p4⟩ hm.1 hm.2
      have hs2 := sizeI_pos (k := C.ks.getD p 0) ⟨p1, p4⟩
      exact hx _ (by omega) (by omega)
  · rw [ks'] at hb2
    have ews : C'.ws = bitOff C.ws a := by rw [hC']
    rw [ews, bitOff_get h.wl (show a < 2048 by omega), h.bt b hb2]
    by_cases e : b / 32 = q
    · rw [tkB_small (C := C) (F := F) (a := b) (k := k) (by rw [e]; exact hk.symm) hkk, tkB_small (C := C') (F := upd F q (i :: F q)) (a := b) (k := k) (by rw [ks', e]; exact hk.symm) hkk, e, upd_same]
      by_cases al : (b : Int) % 32 % sizeI k = 0
      · have hb4 := aligned hkk al
        rw [e] at hb4
        by_cases ef : (b : Int) % 32 / sizeI k = i
        · have : b = a := by rw [ef] at hb4; omega
          have hd : decide (b = a) = true := by simp [this]
          rw [hd, Bool.not_true, Bool.and_false]
          exact (decide_eq_false (fun hc => hc.2 (by rw [ef]; simp))).symm
        · have : ¬ b = a := by rintro rfl; exact ef hi.symm
          simp [al, ef, this]
      · simp [al]
    · rw [tkB_same (C := C) (F := F) (C' := C') (F' := upd F q (i :: F q)) (a := b) (by rw [ks']) (upd_other _ e)]
      have : ¬ b = a := by rintro rfl; exact e eq.symm
      simp [this]
  · rw [ks'] at hb2
    have ews : C'.ws = bitOff C.ws a := by rw [hC']
    rw [ews, bitOff_get h.wl (show a < 2048 by omega), h.tp b hb2 hb3]
    simp
end Go.Proofs.YtfocdbflmodfhaaDoor
