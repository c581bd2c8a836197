/- Cells, in plain lists: a page carved. -/
import Derived.Test.YtfocdbflmodfhaaDoorCi0
namespace Go.Proofs.YtfocdbflmodfhaaDoor
open Go.RowKit

/-- All cells of a class's page. -/
def allC (k : Int) : List Int := (List.range' 0 (cellsI k).toNat).map Int.ofNat
def upd (F : Nat → List Int) (p : Nat) (l : List Int) : Nat → List Int := fun q => if q = p then l else F q
theorem upd_same (F : Nat → List Int) (p : Nat) (l : List Int) : upd F p l p = l := if_pos rfl
theorem upd_other {F : Nat → List Int} {p q : Nat} (l : List Int) (h : q ≠ p) : upd F p l q = F q := if_neg h
theorem allC_mem {k i : Int} : i ∈ allC k ↔ 0 ≤ i ∧ i < cellsI k := by
  unfold allC
  rw [List.mem_map]
  constructor
  · rintro ⟨j, hj, rfl⟩
    rw [List.mem_range'_1] at hj
    exact ⟨by simp, by have := hj.2; simp; omega⟩
  · rintro ⟨h0, h1⟩
    exact ⟨i.toNat, by rw [List.mem_range'_1]; omega, by simp; omega⟩
theorem allC_nodup (k : Int) : (allC k).Nodup := by
  unfold allC
  refine List.Pairwise.map _ (fun a b h => ?_) (List.nodup_range' (step := 1) (by decide))
  intro e; exact h (Int.ofNat.inj e)
theorem allC_len (k : Int) : (allC k).length = (cellsI k).toNat := by simp [allC]
theorem linkL_at {xs : List Int} {p : Nat} {k : Int} (hk : 1 ≤ k ∧ k ≤ 4) (hl : 32 * p + 32 ≤ xs.length) : ∀ j : Nat, (j : Int) ≤ cellsI k →
    (∀ i : Nat, i < j → (linkL xs p k j).getD (cad p k i).toNat 0 = -1 - ((i : Int) + 1)) ∧ (∀ a, a < xs.length → (a < 32 * p ∨ 32 * p + 32 ≤ a) → (linkL xs p k j).getD a 0 = xs.getD a 0)
  | 0, _ => ⟨fun i h => absurd h (by omega), fun _ _ _ => rfl⟩
  | j + 1, hj => by
    obtain ⟨h1, h2⟩ := linkL_at hk hl j (by omega)
    have hc := cad_page (p := p) hk (i := (j : Int)) (by omega) (by omega)
    have hs := sizeI_pos hk
    constructor
    · intro i hi
      have hci := cad_page (p := p) hk (i := (i : Int)) (by omega) (by omega)
      rw [linkL, putL_get (by rw [linkL_len]; omega)]
      by_cases e : i = j
      · subst e
        rw [if_pos hci.2.2]
      · have := cad_ne (p := (p : Int)) (k := k) (i := (i : Int)) (j := (j : Int)) (by omega) hk (by omega) (by omega) (by omega)
        rw [if_neg (by omega), h1 i (by omega)]
    · intro a ha hp
      rw [linkL, putL_get (by rw [linkL_len]; exact ha), if_neg (by omega), h2 a ha hp]
theorem buildL_at {xs : List Int} {p : Nat} {k : Int} (hk : 1 ≤ k ∧ k ≤ 4) (hl : 32 * p + 32 ≤ xs.length) :
    (∀ i : Nat, (i : Int) < cellsI k → (buildL xs p k).getD (cad p k i).toNat 0 = -1 - ((i : Int) + 1)) ∧ (∀ a, a < xs.length → (a < 32 * p ∨ 32 * p + 32 ≤ a) → (buildL xs p k).getD a 0 = xs.getD a 0) := by
  have hc := cellsI_pos hk
  have e : ((p : Int) * 32).toNat = 32 * p := by omega
  obtain ⟨h1, h2⟩ := linkL_at (xs := fillL xs (32 * p) 32 0) (p := p) hk (by rw [fillL_len]; exact hl) (cellsI k).toNat (by omega)
  unfold buildL
  rw [e]
  refine ⟨fun i hi => h1 i (by omega), fun a ha hp => ?_⟩
  rw [h2 a (by rw [fillL_len]; exact ha) hp, fillL_get _ _ _ _ _ ha, if_neg (by omega)]
theorem lnk_all {xs : List Int} {p : Nat} {k : Int} (hk : 1 ≤ k ∧ k ≤ 4) (h : ∀ i : Nat, (i : Int) < cellsI k → xs.getD (cad p k i).toNat 0 = -1 - ((i : Int) + 1)) :
    ∀ (d i : Nat), ((i + d : Nat) : Int) = cellsI k → Lnk xs p k i ((List.range' i d).map Int.ofNat)
  | 0, i, e => by show (i : Int) = cellsI k; omega
  | d + 1, i, e => by
    rw [List.range'_succ, List.map_cons]
    exact ⟨rfl, by simp, by simp; omega, (i : Int) + 1, by omega, by omega, h i (by omega), by
      have := lnk_all hk h d (i + 1) (by omega)
      simpa using this⟩
theorem idx_lt {k : Int} (hk : 1 ≤ k ∧ k ≤ 4) (a : Nat) : 0 ≤ (a : Int) % 32 / sizeI k ∧ (a : Int) % 32 / sizeI k < cellsI k := by
  have hc : k = 1 ∨ k = 2 ∨ k = 3 ∨ k = 4 := by omega
  rcases hc with rfl | rfl | rfl | rfl <;> simp [cellsI, sizeI] <;> omega
theorem tkB_same {C C' : Cs} {F F' : Nat → List Int} {a : Nat} (h1 : C'.ks.getD (a / 32) 0 = C.ks.getD (a / 32) 0) (h2 : F' (a / 32) = F (a / 32)) : tkB C' F' a = tkB C F a := by
  unfold tkB; rw [h1, h2]
theorem idx0_zero : ∀ {ks : List Int} {m : Nat}, idx0 ks = some m → ks.getD m 0 = 0
  | [], m, h => by simp [idx0] at h
  | x :: xs, m, h => by
    unfold idx0 at h
    split at h
    · rename_i hx
      obtain rfl : 0 = m := by simpa using h
      simpa using hx
    · cases h1 : idx0 xs with
      | none => rw [h1] at h; simp at h
      | some j =>
        rw [h1] at h
        obtain rfl : j + 1 = m := by simpa using h
        have := idx0_zero h1
        simpa using this
theorem inv_carve {C : Cs} {F : Nat → List Int} {k : Int} {p : Nat} (h : Inv C F) (ht : takeT C.ks k = some p) : Inv (carveC C k) (upd F p (allC k)) := by
  have hz : sizeI k ≠ 0 := by intro e; unfold takeT at ht; rw [if_pos e] at ht; cases ht
  have hk : 1 ≤ k ∧ k ≤ 4 := by
    apply Decidable.byContradiction; intro hc
    exact hz (sizeI_zero (by omega))
  have hi : idx0 C.ks = some p := by unfold takeT at ht; rw [if_neg hz] at ht; exact ht
  have hpl := idx0_lt hi
  have hp0 := idx0_zero hi
  have hc : carveC C k = { C with ks := C.ks.set p k, ch := C.ch.set p (0, cellsI k), xs := buildL C.xs p k } := by unfold carveC; rw [ht]
  have hcl := cellsI_pos hk
  have hlen := h.len
  have hle := h.le
  have hb := buildL_at (xs := C.xs) (p := p) hk (by omega)
  rw [hc]
  have kq : ∀ q, q ≠ p → (C.ks.set p k).getD q 0 = C.ks.getD q 0 := fun q hq => getD_set_other (fun e => hq e.symm) _ _
  have kp : (C.ks.set p k).getD p 0 = k := getD_set_same hpl _ _
  refine ⟨by simpa using hle, ?_, by simpa using h.chl, h.wl, fun q hq => ?_, fun q hq h6 => ?_, fun q hq k1 k4 => ?_, fun a ha => ?_, fun a ha ha2 => h.tp a (by simpa using ha) ha2⟩
  · show (buildL C.xs p k).length = 32 * (C.ks.set p k).length
    rw [buildL_len, List.length_set]; exact hlen
  · rw [List.length_set] at hq
    by_cases e : q = p
    · subst e; rw [kp]; omega
    · rw [kq q e]; exact h.kd q hq
  · rw [List.length_set] at hq
    have e : q ≠ p := by rintro rfl; rw [kp] at h6; omega
    rw [kq q e] at h6
    obtain ⟨g0, g1⟩ := h.sx q hq h6
    have e2 : q - 1 ≠ p := by intro e2; rw [e2, hp0] at g1; omega
    exact ⟨g0, by rw [kq _ e2]; exact g1⟩
  · rw [List.length_set] at hq
    by_cases e : q = p
    · subst e
      rw [kp] at k1 k4 ⊢
      rw [upd_same]
      refine ⟨?_, ?_, allC_nodup k⟩
      · rw [show (C.ch.set q (0, cellsI k)).getD q (0, 0) = (0, cellsI k) from getD_set_same (by rw [h.chl]; omega) _ _]
        exact lnk_all hk hb.1 (cellsI k).toNat 0 (by omega)
      · rw [show (C.ch.set q (0, cellsI k)).getD q (0, 0) = (0, cellsI k) from getD_set_same (by rw [h.chl]; omega) _ _, allC_len]
        omega
    · rw [kq q e] at k1 k4 ⊢
      rw [upd_other _ e, show (C.ch.set p (0, cellsI k)).getD q (0, 0) = C.ch.getD q (0, 0) from getD_set_other (fun e2 => e e2.symm) _ _]
      obtain ⟨g1, g2, g3⟩ := h.ln q hq k1 k4
      refine ⟨g1.keep fun i hi => ?_, g2, g3⟩
      have hm := g1.mem i hi
      have hcp := cad_page (p := q) ⟨k1, k4⟩ hm.1 hm.2
      have hs := sizeI_pos ⟨k1, k4⟩
      exact hb.2 _ (by omega) (by omega)
  · rw [List.length_set] at ha
    rw [show bit C.ws a = tkB C F a from h.bt a ha]
    by_cases e : a / 32 = p
    · unfold tkB
      rw [e, kp, hp0, if_neg (by omega), if_pos hk, upd_same]
      have := idx_lt hk a
      have hm : (a : Int) % 32 / sizeI k ∈ allC k := allC_mem.2 this
      simp [hm]
    · exact (tkB_same (kq _ e) (upd_other _ e)).symm
end Go.Proofs.YtfocdbflmodfhaaDoor
