/- Cells, in plain lists: what is taken lies apart. -/
import Derived.Test.YtfocdbflmodfhaaDoorCi4
namespace Go.Proofs.YtfocdbflmodfhaaDoor
open Go.RowKit

/-- Behind what begins at an address. -/
def endN (C : Cs) (a : Nat) : Nat := if 0 < sizeI (C.ks.getD (a / 32) 0) then a + (sizeI (C.ks.getD (a / 32) 0)).toNat else a + 32 * (1 + run6 C.ks (a / 32 + 1))
theorem bits_lt {C : Cs} {F : Nat → List Int} (h : Inv C F) {a : Nat} (ha : a ∈ bitsN C.ws) : a < 32 * C.ks.length ∧ tkB C F a = true := by
  unfold bitsN at ha
  rw [List.mem_filter, List.mem_range] at ha
  have hl : a < 32 * C.ks.length := by
    apply Decidable.byContradiction; intro hc
    rw [h.tp a (by omega) ha.1] at ha
    exact absurd ha.2 (by simp)
  exact ⟨hl, by rw [← h.bt a hl]; exact ha.2⟩
theorem down_to {ks : List Int} {p : Nat} (h5 : ks.getD p 0 ≠ 6) (hp : p < ks.length) : ∀ d, p + d < ks.length → (∀ j, 1 ≤ j → j ≤ d → ks.getD (p + j) 0 = 6) → downL ks (p + d) = p
  | 0, _, _ => downL_stop (by rw [Nat.add_zero, kindL_in hp]; exact h5)
  | d + 1, hl, hj => by
    rw [show p + (d + 1) = (p + d) + 1 by omega, downL_step (by rw [show ((p + d + 1 : Nat) : Int) = ((p + (d + 1) : Nat) : Int) by omega, kindL_in hl]; exact hj (d + 1) (by omega) (Nat.le_refl _))]
    exact down_to h5 hp d (by omega) (fun j h1 h2 => hj j h1 (by omega))
theorem has_of {C : Cs} {F : Nat → List Int} (h : Inv C F) {a : Nat} (ha : a ∈ bitsN C.ws) : hasB C.xs.length C.ws a = true := by
  have hl := (bits_lt h ha).1
  unfold bitsN at ha
  rw [List.mem_filter] at ha
  have := h.len
  unfold hasB inB
  rw [Int.toNat_natCast, ha.2]
  simp; omega
theorem size_div {k : Int} (hk : 1 ≤ k ∧ k ≤ 4) {a : Nat} (h : (a : Int) % 32 % sizeI k = 0) : (a : Int) % sizeI k = 0 ∧ a % 32 + (sizeI k).toNat ≤ 32 ∧ ((a : Int) + sizeI k - 1) % sizeI k = sizeI k - 1 := by
  have hc : k = 1 ∨ k = 2 ∨ k = 3 ∨ k = 4 := by omega
  rcases hc with rfl | rfl | rfl | rfl <;> simp [sizeI] at * <;> omega
/-- A small one: each address in it tells it. -/
theorem apart_small {C : Cs} {F : Nat → List Int} (h : Inv C F) {a : Nat} (ha : a ∈ bitsN C.ws) (hs : 0 < sizeI (C.ks.getD (a / 32) 0)) :
    (a : Int) % sizeI (C.ks.getD (a / 32) 0) = 0 ∧ baseC C a = a ∧ baseC C (a + sizeI (C.ks.getD (a / 32) 0) - 1) = a := by
  obtain ⟨hl, ht⟩ := bits_lt h ha
  have hle := h.le
  have hk : 1 ≤ C.ks.getD (a / 32) 0 ∧ C.ks.getD (a / 32) 0 ≤ 4 := by
    apply Decidable.byContradiction; intro hc
    rw [sizeI_zero (by omega)] at hs; omega
  obtain ⟨k, ek⟩ : ∃ k, k = C.ks.getD (a / 32) 0 := ⟨_, rfl⟩
  rcases tk_cases ht with ⟨k1, k4, al, _⟩ | ⟨h5, _⟩
  · rw [← ek] at hk al hs ⊢
    have hd := size_div hk al
    have hsz := sizeI_pos hk
    have hhas := has_of h ha
    have hb : ∀ x : Int, (a : Int) ≤ x → x < a + sizeI k → x - x % sizeI k = a → baseC C x = a := fun x h1 h2 h3 => by
      have hp : pageI x = ((a / 32 : Nat) : Int) := by rw [pageI_in (by omega) (by omega)]; omega
      have hkx : kindL C.ks (pageI x) = k := by rw [hp, kindL_in (by omega), ek]
      have hbx : baseI k x = a := by rw [baseI_in (by omega) (by omega) (by omega)]; exact h3
      have hg : begC C x = a := by unfold begC; rw [hkx, hbx, if_neg (by omega)]
      unfold baseC; rw [hg, if_pos hhas]
    refine ⟨hd.1, hb a (by omega) (by omega) (by omega), hb _ (by omega) (by omega) (by omega)⟩
  · omega
/-- A large one. -/
theorem apart_large {C : Cs} {F : Nat → List Int} (h : Inv C F) {a : Nat} (ha : a ∈ bitsN C.ws) (hs : ¬ 0 < sizeI (C.ks.getD (a / 32) 0)) :
    C.ks.getD (a / 32) 0 = 5 ∧ a % 32 = 0 ∧ a / 32 + (1 + run6 C.ks (a / 32 + 1)) ≤ C.ks.length ∧ baseC C a = a ∧ baseC C ((a + 32 * (1 + run6 C.ks (a / 32 + 1)) : Nat) - 1 : Int) = a := by
  obtain ⟨hl, ht⟩ := bits_lt h ha
  have hle := h.le
  have hhas := has_of h ha
  rcases tk_cases ht with ⟨k1, k4, _⟩ | ⟨h5, h0⟩
  · have := sizeI_pos ⟨k1, k4⟩; omega
  · obtain ⟨r, er⟩ : ∃ r, r = run6 C.ks (a / 32 + 1) := ⟨_, rfl⟩
    rw [← er]
    have hend := run6_end C.ks (a / 32 + 1) (by omega)
    rw [← er] at hend
    have h6 : ∀ j, j < r → C.ks.getD (a / 32 + 1 + j) 0 = 6 := fun j hj => run6_all _ _ _ (by rw [← er]; exact hj)
    have hb : ∀ d, d ≤ r → ∀ x : Int, pageI x = ((a / 32 + d : Nat) : Int) → baseC C x = a := fun d hd x hp => by
      have hkd : kindL C.ks ((a / 32 + d : Nat) : Int) = 5 ∨ kindL C.ks ((a / 32 + d : Nat) : Int) = 6 := by
        rw [kindL_in (by omega)]
        by_cases e : d = 0
        · subst e; left; exact h5
        · right
          have := h6 (d - 1) (by omega)
          rwa [show a / 32 + 1 + (d - 1) = a / 32 + d by omega] at this
      have hz : sizeI (kindL C.ks ((a / 32 + d : Nat) : Int)) = 0 := by rcases hkd with e | e <;> rw [e] <;> rfl
      have hbx : baseI (kindL C.ks ((a / 32 + d : Nat) : Int)) x = -1 := baseI_out (.inl hz)
      have hdn : downL C.ks (a / 32 + d) = ((a / 32 : Nat) : Int) := down_to (by rw [h5]; omega) (by omega) d (by omega) (fun j h1 h2 => by
        have := h6 (j - 1) (by omega)
        rwa [show a / 32 + 1 + (j - 1) = a / 32 + j by omega] at this)
      have hsz : sizeL C.ks ((a / 32 : Nat) : Int) ≠ 0 := by
        unfold sizeL
        rw [kindL_in (by omega), h5, if_neg (by simp [sizeI]), if_neg (by simp)]
        omega
      have hf : firstL C.ks ((a / 32 + d : Nat) : Int) = ((a / 32 : Nat) : Int) := by
        unfold firstL
        simp only [if_neg (show ¬ ((a / 32 + d : Nat) : Int) < 0 by omega), Int.toNat_natCast, hdn]
        rw [if_neg hsz]
      have hg : begC C x = a := by
        unfold begC
        rw [hp, hbx, hf, if_pos (by omega)]
        omega
      unfold baseC; rw [hg, if_pos hhas]
    refine ⟨h5, h0, by omega, hb 0 (by omega) _ (by rw [pageI_in (by omega) (by omega)]; omega), hb r (Nat.le_refl _) _ ?_⟩
    rw [pageI_in (by omega) (by omega)]
    omega
/-- No two meet. -/
theorem apart_next {C : Cs} {F : Nat → List Int} (h : Inv C F) {a b : Nat} (ha : a ∈ bitsN C.ws) (hb : b ∈ bitsN C.ws) (hab : a < b) : endN C a ≤ b := by
  obtain ⟨hla, hta⟩ := bits_lt h ha
  obtain ⟨hlb, htb⟩ := bits_lt h hb
  unfold endN
  by_cases hs : 0 < sizeI (C.ks.getD (a / 32) 0)
  · rw [if_pos hs]
    have hk : 1 ≤ C.ks.getD (a / 32) 0 ∧ C.ks.getD (a / 32) 0 ≤ 4 := by
      apply Decidable.byContradiction; intro hc
      rw [sizeI_zero (by omega)] at hs; omega
    rcases tk_cases hta with ⟨_, _, al, _⟩ | ⟨h5, _⟩
    · have hd := size_div hk al
      by_cases e : a / 32 = b / 32
      · rcases tk_cases htb with ⟨_, _, bl, _⟩ | ⟨h5, _⟩
        · rw [← e] at bl
          have hc : C.ks.getD (a / 32) 0 = 1 ∨ C.ks.getD (a / 32) 0 = 2 ∨ C.ks.getD (a / 32) 0 = 3 ∨ C.ks.getD (a / 32) 0 = 4 := by omega
          rcases hc with hc | hc | hc | hc <;> rw [hc] at al bl ⊢ <;> simp [sizeI] at al bl ⊢ <;> omega
        · rw [← e] at h5; omega
      · omega
    · omega
  · rw [if_neg hs]
    obtain ⟨h5, h0, hend, -⟩ := apart_large h ha hs
    apply Decidable.byContradiction; intro hc
    have hr : b / 32 - a / 32 ≤ run6 C.ks (a / 32 + 1) := by omega
    by_cases e : a / 32 = b / 32
    · rcases tk_cases htb with ⟨k1, k4, _⟩ | ⟨_, hb0⟩
      · rw [← e] at k1 k4; omega
      · omega
    · have h6 := run6_all C.ks (a / 32 + 1) (b / 32 - (a / 32 + 1)) (by omega)
      rw [show a / 32 + 1 + (b / 32 - (a / 32 + 1)) = b / 32 by omega] at h6
      rcases tk_cases htb with ⟨k1, k4, _⟩ | ⟨h55, _⟩
      · omega
      · omega
end Go.Proofs.YtfocdbflmodfhaaDoor
