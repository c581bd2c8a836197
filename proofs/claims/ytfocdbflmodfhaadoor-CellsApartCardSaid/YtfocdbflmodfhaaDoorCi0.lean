/- Cells, in plain lists: what holds behind every call. -/
import Derived.Test.YtfocdbflmodfhaaDoorCe2
namespace Go.Proofs.YtfocdbflmodfhaaDoor
open Go.RowKit

/-- Free cells, one behind the other, from the first on. -/
def Lnk (xs : List Int) (p k : Int) : Int → List Int → Prop
  | f, [] => f = cellsI k
  | f, i :: l => f = i ∧ 0 ≤ i ∧ i < cellsI k ∧ ∃ g, 0 ≤ g ∧ g ≤ cellsI k ∧ xs.getD (cad p k i).toNat 0 = -1 - g ∧ Lnk xs p k g l
theorem Lnk.keep {xs ys : List Int} {p k : Int} : ∀ {f : Int} {l : List Int}, Lnk xs p k f l → (∀ i ∈ l, ys.getD (cad p k i).toNat 0 = xs.getD (cad p k i).toNat 0) → Lnk ys p k f l
  | _, [], h, _ => h
  | _, i :: l, ⟨h1, h2, h3, g, h4, h5, h6, h7⟩, hx => ⟨h1, h2, h3, g, h4, h5, (hx i (by simp)).trans h6, h7.keep fun j hj => hx j (by simp [hj])⟩
theorem Lnk.mem {xs : List Int} {p k : Int} : ∀ {f : Int} {l : List Int}, Lnk xs p k f l → ∀ i ∈ l, 0 ≤ i ∧ i < cellsI k
  | _, [], _, i, hi => by simp at hi
  | _, j :: l, ⟨_, h2, h3, _, _, _, _, h7⟩, i, hi => by
    rcases List.mem_cons.1 hi with rfl | hi
    · exact ⟨h2, h3⟩
    · exact h7.mem i hi
theorem Lnk.first {xs : List Int} {p k : Int} {f : Int} {l : List Int} (h : Lnk xs p k f l) (hk : 1 ≤ k ∧ k ≤ 4) : 0 ≤ f ∧ f ≤ cellsI k := by
  have hc := cellsI_pos hk
  cases l with
  | nil => have : f = cellsI k := h; omega
  | cons i l => obtain ⟨h1, h2, h3, _⟩ := h; omega
/-- Is what begins at an address taken? -/
def tkB (C : Cs) (F : Nat → List Int) (a : Nat) : Bool :=
  if 1 ≤ C.ks.getD (a / 32) 0 ∧ C.ks.getD (a / 32) 0 ≤ 4 then decide ((a : Int) % 32 % sizeI (C.ks.getD (a / 32) 0) = 0 ∧ ((a : Int) % 32 / sizeI (C.ks.getD (a / 32) 0)) ∉ F (a / 32))
  else decide (C.ks.getD (a / 32) 0 = 5 ∧ a % 32 = 0)
structure Inv (C : Cs) (F : Nat → List Int) : Prop where
  le : C.ks.length ≤ 64
  len : C.xs.length = 32 * C.ks.length
  chl : C.ch.length = 64
  wl : C.ws.length = 32
  kd : ∀ p, p < C.ks.length → 0 ≤ C.ks.getD p 0 ∧ C.ks.getD p 0 ≤ 6
  sx : ∀ p, p < C.ks.length → C.ks.getD p 0 = 6 → 0 < p ∧ (C.ks.getD (p - 1) 0 = 5 ∨ C.ks.getD (p - 1) 0 = 6)
  ln : ∀ p, p < C.ks.length → 1 ≤ C.ks.getD p 0 → C.ks.getD p 0 ≤ 4 → Lnk C.xs p (C.ks.getD p 0) (C.ch.getD p (0, 0)).1 (F p) ∧ (C.ch.getD p (0, 0)).2 = (F p).length ∧ (F p).Nodup
  bt : ∀ a, a < 32 * C.ks.length → bit C.ws a = tkB C F a
  tp : ∀ a, 32 * C.ks.length ≤ a → a < 2048 → bit C.ws a = false
theorem inv_new {n : Nat} (hn : n ≤ 64) : Inv (Cs.new n) (fun _ => []) := by
  have hk : ∀ p, (Cs.new n).ks.getD p 0 = 0 := fun p => by
    simp only [Cs.new, List.getD_eq_getElem?_getD, List.getElem?_replicate]; split <;> rfl
  have hb : ∀ a, bit (Cs.new n).ws a = false := zero_bits
  refine ⟨by simpa [Cs.new] using hn, by simp [Cs.new]; omega, rfl, rfl, fun p _ => by rw [hk]; omega, fun p _ h => by rw [hk] at h; omega, fun p _ h => by rw [hk] at h; omega, fun a _ => ?_, fun a _ _ => hb a⟩
  rw [hb]
  unfold tkB
  rw [hk, if_neg (by omega)]
  simp
/-- Cells of a page lie apart, and in their page. -/
theorem cad_page {p : Nat} {k i : Int} (hk : 1 ≤ k ∧ k ≤ 4) (h0 : 0 ≤ i) (h1 : i < cellsI k) : 32 * p ≤ (cad p k i).toNat ∧ (cad p k i).toNat + (sizeI k).toNat ≤ 32 * p + 32 ∧ ((cad p k i).toNat : Int) = cad p k i := by
  have hc : k = 1 ∨ k = 2 ∨ k = 3 ∨ k = 4 := by omega
  unfold cad
  rcases hc with rfl | rfl | rfl | rfl <;> simp [cellsI, sizeI] at * <;> omega
theorem cad_ne {p : Int} {k i j : Int} (hp : 0 ≤ p) (hk : 1 ≤ k ∧ k ≤ 4) (hi : 0 ≤ i) (hj : 0 ≤ j) (h : i ≠ j) : (cad p k i).toNat + (sizeI k).toNat ≤ (cad p k j).toNat ∨ (cad p k j).toNat + (sizeI k).toNat ≤ (cad p k i).toNat := by
  have hc : k = 1 ∨ k = 2 ∨ k = 3 ∨ k = 4 := by omega
  unfold cad
  rcases hc with rfl | rfl | rfl | rfl <;> simp [sizeI] <;> omega
theorem putL_get {xs : List Int} {a v : Int} {j : Nat} (hj : j < xs.length) : (putL xs a v).getD j 0 = if (j : Int) = a then v else xs.getD j 0 := by
  unfold putL fitB
  by_cases h : (j : Int) = a
  · subst h
    rw [if_pos (by simp; omega), if_pos rfl, Int.toNat_natCast, getD_set_same hj]
  · rw [if_neg h]
    split
    · rename_i hf
      simp at hf
      rw [getD_set_other (by omega)]
    · rfl
end Go.Proofs.YtfocdbflmodfhaaDoor
