/- Cells, in plain lists: taken, and given back. -/
import Derived.Test.YtfocdbflmodfhaaDoorCi1
import Derived.Test.YtfocdbflmodfhaaDoorCe3
import Derived.Test.YtfocdbflmodfhaaDoorCe5
namespace Go.Proofs.YtfocdbflmodfhaaDoor
open Go.RowKit

theorem aligned {k : Int} (hk : 1 ≤ k ∧ k ≤ 4) {a : Nat} (h : (a : Int) % 32 % sizeI k = 0) : (a : Int) = cad ((a / 32 : Nat) : Int) k ((a : Int) % 32 / sizeI k) := by
  have hc : k = 1 ∨ k = 2 ∨ k = 3 ∨ k = 4 := by omega
  unfold cad
  rcases hc with rfl | rfl | rfl | rfl <;> simp [sizeI] at * <;> omega
theorem cad_idx {p : Nat} {k i : Int} (hk : 1 ≤ k ∧ k ≤ 4) (h0 : 0 ≤ i) (h1 : i < cellsI k) : (cad p k i).toNat / 32 = p ∧ (((cad p k i).toNat : Int) % 32 % sizeI k = 0) ∧ ((cad p k i).toNat : Int) % 32 / sizeI k = i := by
  have hc : k = 1 ∨ k = 2 ∨ k = 3 ∨ k = 4 := by omega
  unfold cad
  rcases hc with rfl | rfl | rfl | rfl <;> simp [cellsI, sizeI] at * <;> omega
theorem tkB_small {C : Cs} {F : Nat → List Int} {a : Nat} {k : Int} (h : C.ks.getD (a / 32) 0 = k) (hk : 1 ≤ k ∧ k ≤ 4) : tkB C F a = decide ((a : Int) % 32 % sizeI k = 0 ∧ (a : Int) % 32 / sizeI k ∉ F (a / 32)) := by
  unfold tkB; rw [h, if_pos hk]
theorem tkB_other {C : Cs} {F : Nat → List Int} {a : Nat} {k : Int} (h : C.ks.getD (a / 32) 0 = k) (hk : ¬ (1 ≤ k ∧ k ≤ 4)) : tkB C F a = decide (k = 5 ∧ a % 32 = 0) := by
  unfold tkB; rw [h, if_neg hk]
theorem few_ints : ∀ (n : Nat) (l : List Int), l.Nodup → (∀ x ∈ l, 0 ≤ x ∧ x < n) → l.length ≤ n
  | 0, l, _, h => by
    cases l with
    | nil => simp
    | cons x l => have := h x (by simp); omega
  | n + 1, l, hn, h => by
    have h1 := few_ints n (l.erase (n : Int)) (hn.erase _) (fun x hx => by
      have hm := (List.Nodup.mem_erase_iff hn).1 hx
      have := h x hm.2
      have : x ≠ (n : Int) := hm.1
      omega)
    have h2 := List.length_erase (l := l) (a := (n : Int))
    split at h2 <;> omega
/-- A free cell, as the chain tells it. -/
theorem take_ok {C : Cs} {F : Nat → List Int} {q : Nat} {f : Int} {l : List Int} (h : Inv C F) (hq : q < C.ks.length) (k1 : 1 ≤ C.ks.getD q 0) (k4 : C.ks.getD q 0 ≤ 4) (hf : F q = f :: l) :
    ∃ g, TakeP C q (C.ks.getD q 0) f ((l.length : Int) + 1) (-1 - g) ∧ Lnk C.xs q (C.ks.getD q 0) g l := by
  obtain ⟨h1, h2, h3⟩ := h.ln q hq k1 k4
  rw [hf] at h1 h2 h3
  obtain ⟨e1, e2, e3, g, e4, e5, e6, e7⟩ := h1
  have hc := cellsI_pos ⟨k1, k4⟩
  have hfew := few_ints (cellsI (C.ks.getD q 0)).toNat (f :: l) h3 (fun x hx => by
    rcases List.mem_cons.1 hx with rfl | hx
    · omega
    · have := e7.mem x hx; omega)
  rw [List.length_cons] at hfew
  have h2' : (C.ch.getD q (0, 0)).2 = (l.length : Int) + 1 := by rw [h2]; simp
  exact ⟨g, ⟨hq, kindL_in hq, k1, k4, Prod.ext e1 h2', by omega, by omega, e2, e3, e6, by omega, by omega⟩, e7⟩
theorem inv_take {C : Cs} {F : Nat → List Int} {q : Nat} {f g : Int} {l : List Int} (h : Inv C F) (hq : q < C.ks.length) (k1 : 1 ≤ C.ks.getD q 0) (k4 : C.ks.getD q 0 ≤ 4) (hf : F q = f :: l)
    (ht : TakeP C q (C.ks.getD q 0) f ((l.length : Int) + 1) (-1 - g)) (hl : Lnk C.xs q (C.ks.getD q 0) g l) : Inv (takeC C q (C.ks.getD q 0) f ((l.length : Int) + 1) (-1 - g)) (upd F q l) := by
  obtain ⟨k, hk⟩ : ∃ k, k = C.ks.getD q 0 := ⟨_, rfl⟩
  rw [← hk] at k1 k4 ht hl ⊢
  have hkk : 1 ≤ k ∧ k ≤ 4 := ⟨k1, k4⟩
  have hcp := cad_page (p := q) hkk ht.f0 ht.f1
  have hci := cad_idx (p := q) hkk ht.f0 ht.f1
  have hsz := sizeI_pos hkk
  have hlen := h.len
  have hle := h.le
  have hnd : (f :: l).Nodup := by rw [← hf]; exact (h.ln q hq (by rw [← hk]; exact k1) (by rw [← hk]; exact k4)).2.2
  have hfl : f ∉ l := (List.nodup_cons.1 hnd).1
  have hal : (cad q k f).toNat < 32 * C.ks.length := by omega
  have hold : bit C.ws (cad q k f).toNat = false := by
    rw [h.bt _ hal]
    unfold tkB
    rw [hci.1, ← hk, if_pos hkk, hci.2.1, hci.2.2, hf]
    simp
  have hadd : addL C.xs.length C.ws (cad q k f) = bitOn C.ws (cad q k f).toNat := by
    unfold addL
    rw [if_pos]
    simp [addB, inB, hold]; omega
  have hx : ∀ a, a < C.xs.length → (a + 1 ≤ (cad q k f).toNat ∨ (cad q k f).toNat + (sizeI k).toNat ≤ a) → (fillL C.xs (cad q k f).toNat (sizeI k).toNat 0).getD a 0 = C.xs.getD a 0 := fun a ha hd => by
    rw [fillL_get _ _ _ _ _ ha, if_neg (by omega)]
  unfold takeC
  rw [hadd]
  refine ⟨hle, by rw [← hlen]; exact fillL_len _ _ _ _, by simpa using h.chl, by rw [← h.wl]; exact bitOn_len _ _, h.kd, h.sx, fun p hp p1 p4 => ?_, fun a ha => ?_, fun a ha ha2 => ?_⟩
  · by_cases e : p = q
    · subst e
      show Lnk (fillL C.xs (cad p k f).toNat (sizeI k).toNat 0) p (C.ks.getD p 0) ((C.ch.set p (-1 - (-1 - g), (l.length : Int) + 1 - 1)).getD p (0, 0)).1 (upd F p l p) ∧ ((C.ch.set p (-1 - (-1 - g), (l.length : Int) + 1 - 1)).getD p (0, 0)).2 = ((upd F p l p).length : Int) ∧ (upd F p l p).Nodup
      rw [upd_same, getD_set_same (by rw [h.chl]; omega), ← hk]
      refine ⟨?_, by simp, (List.nodup_cons.1 hnd).2⟩
      rw [show -1 - (-1 - g) = g by omega]
      refine hl.keep fun i hi => ?_
      have hm := hl.mem i hi
      have hc2 := cad_page (p := p) hkk hm.1 hm.2
      have hd := cad_ne (p := (p : Int)) (k := k) (i := i) (j := f) (by omega) hkk hm.1 ht.f0 (by rintro rfl; exact hfl hi)
      exact hx _ (by omega) (by omega)
    · show Lnk (fillL C.xs (cad q k f).toNat (sizeI k).toNat 0) p (C.ks.getD p 0) ((C.ch.set q (-1 - (-1 - g), (l.length : Int) + 1 - 1)).getD p (0, 0)).1 (upd F q l p) ∧ ((C.ch.set q (-1 - (-1 - g), (l.length : Int) + 1 - 1)).getD p (0, 0)).2 = ((upd F q l p).length : Int) ∧ (upd F q l p).Nodup
      rw [upd_other _ e, getD_set_other (fun e2 => e e2.symm)]
      have p1' : 1 ≤ C.ks.getD p 0 := p1
      have p4' : C.ks.getD p 0 ≤ 4 := p4
      have hp' : p < C.ks.length := hp
      clear p1 p4 hp
      obtain ⟨g1, g2, g3⟩ := h.ln p hp' p1' p4'
      refine ⟨g1.keep fun i hi => ?_, g2, g3⟩
      have hm := g1.mem i hi
      have hc2 := cad_page (p := p) ⟨p1', p4'⟩ hm.1 hm.2
      have hs2 := sizeI_pos (k := C.ks.getD p 0) ⟨p1', p4'⟩
      exact hx _ (by omega) (by omega)
  · have ha' : a < 32 * C.ks.length := ha
    show bit (bitOn C.ws (cad q k f).toNat) a = tkB _ _ a
    rw [bitOn_get h.wl (by omega), h.bt a ha']
    by_cases e : a / 32 = q
    · rw [tkB_small (C := C) (F := F) (a := a) (k := k) (by rw [e]; exact hk.symm) hkk, tkB_small (C := { C with ch := C.ch.set q (-1 - (-1 - g), (l.length : Int) + 1 - 1), ws := bitOn C.ws (cad q k f).toNat, xs := fillL C.xs (cad q k f).toNat (sizeI k).toNat 0 }) (F := upd F q l) (a := a) (k := k) (by rw [e]; exact hk.symm) hkk, e, upd_same, hf]
      by_cases al : (a : Int) % 32 % sizeI k = 0
      · have ha3 := aligned hkk al
        rw [e] at ha3
        by_cases ef : (a : Int) % 32 / sizeI k = f
        · have : a = (cad q k f).toNat := by rw [ef] at ha3; omega
          have hd : decide (a = (cad q k f).toNat) = true := by simp [this]
          rw [hd, Bool.or_true]
          exact (decide_eq_true ⟨al, by rw [ef]; exact hfl⟩).symm
        · have : ¬ a = (cad q k f).toNat := by rintro rfl; exact ef hci.2.2
          simp [al, ef, this]
      · have : ¬ a = (cad q k f).toNat := by rintro rfl; exact al hci.2.1
        simp [al, this]
    · have hts := tkB_same (C := C) (F := F) (C' := { C with ch := C.ch.set q (-1 - (-1 - g), (l.length : Int) + 1 - 1), ws := bitOn C.ws (cad q k f).toNat, xs := fillL C.xs (cad q k f).toNat (sizeI k).toNat 0 }) (F' := upd F q l) (a := a) rfl (upd_other _ e)
      rw [hts]
      have : ¬ a = (cad q k f).toNat := by rintro rfl; exact e hci.1
      simp [this]
  · show bit (bitOn C.ws (cad q k f).toNat) a = false
    have ha3 : 32 * C.ks.length ≤ a := ha
    rw [bitOn_get h.wl (by omega), h.tp a ha3 ha2]
    simp; omega
end Go.Proofs.YtfocdbflmodfhaaDoor
