/- Cells: each address in what is taken tells it, and no other. -/
import Derived.Test.YtjoejjhgneccgaaGreatQSK07
import Derived.Test.YtjoejjhgneccgaaGreatQSK10
import Derived.Test.YtjoejjhgneccgaaGreatQSK11
namespace Go.Proofs.YtjoejjhgneccgaaGreat
open Go.RowKit

theorem base_small {C : Cs} {F : Nat → List Int} (h : Inv C F) {a : Nat} (ha : a ∈ bitsN C.ws) (hs : 0 < sizeI (C.ks.getD (a / 32) 0)) {x : Int} (h1 : (a : Int) ≤ x) (h2 : x < a + sizeI (C.ks.getD (a / 32) 0)) : baseC C x = a := by
  obtain ⟨hl, ht⟩ := bits_lt h ha
  have hle := h.le
  have hk : 1 ≤ C.ks.getD (a / 32) 0 ∧ C.ks.getD (a / 32) 0 ≤ 4 := by
    apply Decidable.byContradiction; intro hc
    rw [sizeI_zero (by omega)] at hs; omega
  obtain ⟨k, ek⟩ : ∃ k, k = C.ks.getD (a / 32) 0 := ⟨_, rfl⟩
  rcases tk_cases ht with ⟨k1, k4, al, _⟩ | ⟨h5, _⟩
  · rw [← ek] at hk al hs h2
    have hd := size_div hk al
    have hsz := sizeI_pos hk
    have hhas := has_of h ha
    have h3 : x - x % sizeI k = a := by
      have hc : k = 1 ∨ k = 2 ∨ k = 3 ∨ k = 4 := by omega
      rcases hc with rfl | rfl | rfl | rfl <;> simp [sizeI] at * <;> omega
    have hp : pageI x = ((a / 32 : Nat) : Int) := by rw [pageI_in (by omega) (by omega)]; omega
    have hkx : kindL C.ks (pageI x) = k := by rw [hp, kindL_in (by omega), ek]
    have hbx : baseI k x = a := by rw [baseI_in (by omega) (by omega) (by omega)]; exact h3
    have hg : begC C x = a := by unfold begC; rw [hkx, hbx, if_neg (by omega)]
    unfold baseC; rw [hg, if_pos hhas]
  · omega
theorem base_large {C : Cs} {F : Nat → List Int} (h : Inv C F) {a : Nat} (ha : a ∈ bitsN C.ws) (hs : ¬ 0 < sizeI (C.ks.getD (a / 32) 0)) {x : Int} (h1 : (a : Int) ≤ x) (h2 : x < (a + 32 * (1 + run6 C.ks (a / 32 + 1)) : Nat)) : baseC C x = a := by
  obtain ⟨h5, h0, hend, -⟩ := apart_large h ha hs
  have hle := h.le
  have hhas := has_of h ha
  obtain ⟨r, er⟩ : ∃ r, r = run6 C.ks (a / 32 + 1) := ⟨_, rfl⟩
  rw [← er] at h2 hend
  have h6 : ∀ j, j < r → C.ks.getD (a / 32 + 1 + j) 0 = 6 := fun j hj => run6_all _ _ _ (by rw [← er]; exact hj)
  obtain ⟨d, hd⟩ : ∃ d : Nat, (x : Int) / 32 = ((a / 32 + d : Nat) : Int) := ⟨(x / 32 - a / 32).toNat, by omega⟩
  have hdr : d ≤ r := by omega
  have hp : pageI x = ((a / 32 + d : Nat) : Int) := by rw [pageI_in (by omega) (by omega)]; exact hd
  have hkd : kindL C.ks ((a / 32 + d : Nat) : Int) = 5 ∨ kindL C.ks ((a / 32 + d : Nat) : Int) = 6 := by
    rw [kindL_in (by omega)]
    by_cases e : d = 0
    · subst e; left; exact h5
    · right
      have := h6 (d - 1) (by omega)
      rwa [show a / 32 + 1 + (d - 1) = a / 32 + d by omega] at this
  have hz : sizeI (kindL C.ks ((a / 32 + d : Nat) : Int)) = 0 := by rcases hkd with e | e <;> rw [e] <;> rfl
  have hbx : baseI (kindL C.ks ((a / 32 + d : Nat) : Int)) x = -1 := baseI_out (.inl hz)
  have hdn : downL C.ks (a / 32 + d) = ((a / 32 : Nat) : Int) := down_to (by rw [h5]; omega) (by omega) d (by omega) (fun j h1 h2 => by
    have := h6 (j - 1) (by omega)
    rwa [show a / 32 + 1 + (j - 1) = a / 32 + j by omega] at this)
  have hsz : sizeL C.ks ((a / 32 : Nat) : Int) ≠ 0 := by
    unfold sizeL
    rw [kindL_in (by omega), h5, if_neg (by simp [sizeI]), if_neg (by simp)]
    omega
  have hf : firstL C.ks ((a / 32 + d : Nat) : Int) = ((a / 32 : Nat) : Int) := by
    unfold firstL
    simp only [if_neg (show ¬ ((a / 32 + d : Nat) : Int) < 0 by omega), Int.toNat_natCast, hdn]
    rw [if_neg hsz]
  have hg : begC C x = a := by
    unfold begC
    rw [hp, hbx, hf, if_pos (by omega)]
    omega
  unfold baseC; rw [hg, if_pos hhas]
theorem base_in {C : Cs} {F : Nat → List Int} (h : Inv C F) {a : Nat} (ha : a ∈ bitsN C.ws) {x : Int} (h1 : (a : Int) ≤ x) (h2 : x < endN C a) : baseC C x = a := by
  unfold endN at h2
  by_cases hs : 0 < sizeI (C.ks.getD (a / 32) 0)
  · rw [if_pos hs] at h2
    exact base_small h ha hs h1 (by omega)
  · rw [if_neg hs] at h2
    exact base_large h ha hs h1 h2
theorem down_back (ks : List Int) : ∀ p : Nat, 0 ≤ downL ks p → ∃ f d : Nat, downL ks p = f ∧ p = f + d ∧ kindL ks f ≠ 6 ∧ ∀ j, 1 ≤ j → j ≤ d → kindL ks ((f + j : Nat) : Int) = 6
  | 0, h => by
    by_cases e : kindL ks 0 = 6
    · rw [downL_zero e] at h; omega
    · exact ⟨0, 0, downL_stop (p := 0) e, rfl, e, fun j h1 h2 => by omega⟩
  | p + 1, h => by
    by_cases e : kindL ks ((p + 1 : Nat) : Int) = 6
    · rw [downL_step e] at h ⊢
      obtain ⟨f, d, h1, h2, h3, h4⟩ := down_back ks p h
      refine ⟨f, d + 1, h1, by omega, h3, fun j j1 j2 => ?_⟩
      by_cases ej : j = d + 1
      · subst ej
        rw [show f + (d + 1) = p + 1 by omega]; exact e
      · exact h4 j j1 (by omega)
    · exact ⟨p + 1, 0, downL_stop e, rfl, e, fun j h1 h2 => by omega⟩
theorem run6_ge {ks : List Int} : ∀ (d q : Nat), (∀ j, j < d → kindL ks ((q + j : Nat) : Int) = 6) → d ≤ run6 ks q
  | 0, _, _ => Nat.zero_le _
  | d + 1, q, h => by
    rw [run6_step (ks := ks) (q := q) (by have := h 0 (by omega); simpa using this)]
    have := run6_ge d (q + 1) (fun j hj => by
      have := h (j + 1) (by omega)
      rwa [show q + (j + 1) = q + 1 + j by omega] at this)
    omega
theorem base_back {C : Cs} {F : Nat → List Int} (h : Inv C F) {x : Int} (h0 : 0 ≤ baseC C x) : ∃ a : Nat, a ∈ bitsN C.ws ∧ baseC C x = a ∧ (a : Int) ≤ x ∧ x < endN C a := by
  have hle := h.le
  unfold baseC at h0 ⊢
  split at h0
  case isFalse => omega
  case isTrue hb =>
    rw [if_pos hb]
    obtain ⟨a, ea, hl, hbit, ht⟩ := has_tk h hb
    have ha : a ∈ bitsN C.ws := by
      unfold bitsN
      rw [List.mem_filter, List.mem_range]
      exact ⟨by omega, hbit⟩
    refine ⟨a, ha, ea, ?_⟩
    have hx : 0 ≤ x ∧ x < 2048 := by
      apply Decidable.byContradiction; intro hc
      have hp : pageI x = -1 := by unfold pageI; rw [if_pos (by omega)]
      unfold begC at ea
      rw [hp, kindL_out (.inl (by omega))] at ea
      have h1 : baseI (-1) x = -1 := baseI_out (.inl rfl)
      have h2 : firstL C.ks (-1) = -1 := by unfold firstL; simp
      rw [h1, h2, if_neg (by omega)] at ea
      omega
    obtain ⟨y, rfl⟩ := Int.eq_ofNat_of_zero_le hx.1
    have hp : pageI (y : Int) = ((y / 32 : Nat) : Int) := by rw [pageI_in (by omega) (by omega)]; omega
    unfold begC at ea
    rw [hp] at ea
    by_cases hz : sizeI (kindL C.ks ((y / 32 : Nat) : Int)) = 0
    · rw [show baseI (kindL C.ks ((y / 32 : Nat) : Int)) y = -1 from baseI_out (.inl hz)] at ea
      by_cases hf : 0 ≤ firstL C.ks ((y / 32 : Nat) : Int)
      · rw [if_pos (by omega)] at ea
        have hfd : firstL C.ks ((y / 32 : Nat) : Int) = downL C.ks (y / 32) := by
          unfold firstL at hf ⊢
          rw [if_neg (show ¬ ((y / 32 : Nat) : Int) < 0 by omega), Int.toNat_natCast] at hf ⊢
          simp only at hf ⊢
          split at hf
          · omega
          · rename_i hne
            rw [if_neg hne]
        rw [hfd] at ea hf
        obtain ⟨f, d, e1, e2, e3, e4⟩ := down_back C.ks (y / 32) hf
        rw [e1] at ea
        obtain rfl : a = f * 32 := by omega
        have hfl : f < C.ks.length := by omega
        have e5 : f * 32 / 32 = f := by omega
        rcases tk_cases ht with ⟨k1, k4, -⟩ | ⟨h5, -⟩
        · rw [e5] at k1 k4
          by_cases hd : d = 0
          · subst hd
            rw [show y / 32 = f by omega, kindL_in hfl] at hz
            have := sizeI_pos ⟨k1, k4⟩
            omega
          · have h6 := e4 1 (by omega) (by omega)
            have hl1 : f + 1 < C.ks.length := by
              apply Decidable.byContradiction; intro hc
              rw [kindL_out (.inr (by omega))] at h6; omega
            rw [kindL_in hl1] at h6
            have := (h.sx (f + 1) hl1 h6).2
            rw [show f + 1 - 1 = f by omega] at this
            omega
        · rw [e5] at h5
          have hr := run6_ge (ks := C.ks) d (f + 1) (fun j hj => by
            have := e4 (j + 1) (by omega) (by omega)
            rwa [show f + (j + 1) = f + 1 + j by omega] at this)
          have hend : endN C (f * 32) = f * 32 + 32 * (1 + run6 C.ks (f + 1)) := by
            unfold endN
            rw [e5, h5, if_neg (by simp [sizeI])]
          rw [hend]
          omega
      · rw [if_neg (by omega)] at ea
        omega
    · have hk : 1 ≤ kindL C.ks ((y / 32 : Nat) : Int) ∧ kindL C.ks ((y / 32 : Nat) : Int) ≤ 4 := by
        apply Decidable.byContradiction; intro hc
        exact hz (sizeI_zero (by omega))
      obtain ⟨k, ek⟩ : ∃ k, k = kindL C.ks ((y / 32 : Nat) : Int) := ⟨_, rfl⟩
      rw [← ek] at ea hk hz
      have hsz := sizeI_pos hk
      rw [baseI_in (by omega) (by omega) (by omega), if_neg (by
        have hc : k = 1 ∨ k = 2 ∨ k = 3 ∨ k = 4 := by omega
        have : 0 ≤ (y : Int) - y % sizeI k := by rcases hc with rfl | rfl | rfl | rfl <;> simp [sizeI] <;> omega
        omega)] at ea
      have hya : a / 32 = y / 32 ∧ (a : Int) ≤ y ∧ (y : Int) < a + sizeI k := by
        have hc : k = 1 ∨ k = 2 ∨ k = 3 ∨ k = 4 := by omega
        rcases hc with rfl | rfl | rfl | rfl <;> simp [sizeI] at * <;> omega
      have hyl : y / 32 < C.ks.length := by omega
      rw [kindL_in hyl] at ek
      have hend : endN C a = a + (sizeI k).toNat := by
        unfold endN
        rw [hya.1, ← ek, if_pos (by omega)]
      rw [hend]
      omega
end Go.Proofs.YtjoejjhgneccgaaGreat

/- Cells: what is taken stays as it is. -/
namespace Go.Proofs.YtjoejjhgneccgaaGreat
open Go.RowKit

/-- What begins at an address is there behind a call as ahead of it. -/
structure Kept (C C' : Cs) (a : Nat) : Prop where
  at_ : a ∈ bitsN C'.ws
  end_ : endN C' a = endN C a
  kd : C'.ks.getD (a / 32) 0 = C.ks.getD (a / 32) 0
  xs : ∀ x, a ≤ x → x < endN C a → C'.xs.getD x 0 = C.xs.getD x 0
theorem mem_bits {ws : List (BitVec 64)} {a : Nat} : a ∈ bitsN ws ↔ a < 2048 ∧ bit ws a = true := by unfold bitsN; rw [List.mem_filter, List.mem_range]
theorem run6_eq {K K' : List Int} {q : Nat} (hl : K'.length = K.length) (h1 : ∀ j, j < run6 K q → K'.getD (q + j) 0 = 6) (h2 : q + run6 K q < K.length → K'.getD (q + run6 K q) 0 ≠ 6) : run6 K' q = run6 K q := by
  have hlt : ∀ j, j < run6 K q → q + j < K.length := fun j hj => by
    apply Decidable.byContradiction; intro hc
    have := run6_all K q j hj
    rw [getD_out (by omega)] at this
    omega
  have h3 : run6 K q ≤ run6 K' q := run6_ge _ _ fun j hj => by rw [kindL_in (by rw [hl]; exact hlt j hj)]; exact h1 j hj
  apply Decidable.byContradiction; intro hc
  have h4 := run6_all K' q (run6 K q) (by omega)
  have h5 : q + run6 K q < K.length := by
    apply Decidable.byContradiction; intro hc2
    rw [getD_out (by rw [hl]; omega)] at h4
    omega
  exact h2 h5 h4
theorem endN_eq {C C' : Cs} {a : Nat} (hl : C'.ks.length = C.ks.length) (h0 : C'.ks.getD (a / 32) 0 = C.ks.getD (a / 32) 0)
    (h1 : ¬ 0 < sizeI (C.ks.getD (a / 32) 0) → (∀ j, j < run6 C.ks (a / 32 + 1) → C'.ks.getD (a / 32 + 1 + j) 0 = 6) ∧ (a / 32 + 1 + run6 C.ks (a / 32 + 1) < C.ks.length → C'.ks.getD (a / 32 + 1 + run6 C.ks (a / 32 + 1)) 0 ≠ 6)) : endN C' a = endN C a := by
  unfold endN
  rw [h0]
  by_cases hs : 0 < sizeI (C.ks.getD (a / 32) 0)
  · rw [if_pos hs, if_pos hs]
  · rw [if_neg hs, if_neg hs, run6_eq hl (h1 hs).1 (h1 hs).2]
/-- The pages of what is taken: none is free. -/
theorem pages_in {C : Cs} {F : Nat → List Int} (h : Inv C F) {a x : Nat} (ha : a ∈ bitsN C.ws) (h1 : a ≤ x) (h2 : x < endN C a) : x / 32 < C.ks.length ∧ C.ks.getD (x / 32) 0 ≠ 0 ∧ ((0 < sizeI (C.ks.getD (a / 32) 0) ∧ x / 32 = a / 32) ∨ (C.ks.getD (a / 32) 0 = 5 ∧ (x / 32 = a / 32 ∨ C.ks.getD (x / 32) 0 = 6))) := by
  obtain ⟨hl, ht⟩ := bits_lt h ha
  unfold endN at h2
  by_cases hs : 0 < sizeI (C.ks.getD (a / 32) 0)
  · rw [if_pos hs] at h2
    have hk : 1 ≤ C.ks.getD (a / 32) 0 ∧ C.ks.getD (a / 32) 0 ≤ 4 := by
      apply Decidable.byContradiction; intro hc
      rw [sizeI_zero (by omega)] at hs; omega
    rcases tk_cases ht with ⟨_, _, al, _⟩ | ⟨h5, _⟩
    · have hd := (size_div hk al).2.1
      have e : x / 32 = a / 32 := by omega
      rw [e]
      exact ⟨by omega, by omega, .inl ⟨hs, rfl⟩⟩
    · omega
  · rw [if_neg hs] at h2
    obtain ⟨h5, h0, hend, -⟩ := apart_large h ha hs
    by_cases e : x / 32 = a / 32
    · rw [e]; exact ⟨by omega, by omega, .inr ⟨h5, .inl rfl⟩⟩
    · have h6 := run6_all C.ks (a / 32 + 1) (x / 32 - (a / 32 + 1)) (by omega)
      rw [show a / 32 + 1 + (x / 32 - (a / 32 + 1)) = x / 32 by omega] at h6
      exact ⟨by omega, by omega, .inr ⟨h5, .inr h6⟩⟩
theorem end_le {C : Cs} {F : Nat → List Int} (h : Inv C F) {a : Nat} (ha : a ∈ bitsN C.ws) : a < endN C a ∧ endN C a ≤ 32 * C.ks.length := by
  have h1 : a < endN C a := by unfold endN; split <;> omega
  have := (pages_in h ha (x := endN C a - 1) (by omega) (by omega)).1
  omega
theorem kind_taken {C : Cs} {F : Nat → List Int} (h : Inv C F) {a : Nat} (ha : a ∈ bitsN C.ws) : C.ks.getD (a / 32) 0 ≠ 0 ∧ C.ks.getD (a / 32) 0 ≠ 6 := by
  rcases tk_cases (bits_lt h ha).2 with ⟨h1, h2, -⟩ | ⟨h1, -⟩ <;> omega
/-- Where kinds are turned at pages that are not what is taken's, and are not 6. -/
theorem end_turned {C C' : Cs} {F : Nat → List Int} (h : Inv C F) {a : Nat} (ha : a ∈ bitsN C.ws) (hl : C'.ks.length = C.ks.length) (hk : ∀ q, q < C.ks.length → C'.ks.getD q 0 ≠ C.ks.getD q 0 → (∀ x, a ≤ x → x < endN C a → x / 32 ≠ q) ∧ (C'.ks.getD q 0 ≠ 6 ∨ C.ks.getD (q - 1) 0 = 0)) : endN C' a = endN C a ∧ C'.ks.getD (a / 32) 0 = C.ks.getD (a / 32) 0 := by
  have hle := end_le h ha
  have hlt := (bits_lt h ha).1
  have h0 : C'.ks.getD (a / 32) 0 = C.ks.getD (a / 32) 0 := by
    apply Decidable.byContradiction; intro hc
    exact (hk (a / 32) (by omega) hc).1 a (Nat.le_refl _) hle.1 rfl
  refine ⟨endN_eq hl h0 fun hs => ⟨fun j hj => ?_, fun hj hc => ?_⟩, h0⟩
  · have h6 := run6_all C.ks (a / 32 + 1) j hj
    have he : endN C a = a + 32 * (1 + run6 C.ks (a / 32 + 1)) := by unfold endN; rw [if_neg hs]
    apply Decidable.byContradiction; intro hc
    have hq : a / 32 + 1 + j < C.ks.length := by
      apply Decidable.byContradiction; intro hc2
      rw [getD_out (by omega)] at h6; omega
    exact (hk (a / 32 + 1 + j) hq (by rw [h6]; exact hc)).1 (a + 32 * (1 + j)) (by omega) (by omega) (by omega)
  · have h6 := run6_after C.ks (a / 32 + 1)
    rw [kindL_in hj] at h6
    have hne := (hk _ hj (by rw [hc]; exact fun e => h6 e.symm)).2
    rcases hne with hne | hne
    · exact hne hc
    · have he : endN C a = a + 32 * (1 + run6 C.ks (a / 32 + 1)) := by unfold endN; rw [if_neg hs]
      have := (pages_in h ha (x := endN C a - 32) (by omega) (by omega)).2.1
      rw [show (endN C a - 32) / 32 = a / 32 + 1 + run6 C.ks (a / 32 + 1) - 1 by omega] at this
      exact this hne
end Go.Proofs.YtjoejjhgneccgaaGreat

/- Cells: each call keeps what holds. -/
namespace Go.Proofs.YtjoejjhgneccgaaGreat
open Go.RowKit

/-- What a call leaves: some heap of cells of as many pages, in which all holds. -/
def Holds (N : Nat) (b : Bl) (w' : World) : Prop := ∃ C F, CX w' b C ∧ Inv C F ∧ C.ks.length = N
section
variable {w : World} {b : Bl} {C : Cs} {F : Nat → List Int} {N : Nat}
theorem ocarve (h : CX w b C) (hi : Inv C F) (hN : C.ks.length = N) (k : Int) :
    Calls Tryz.prog 58 #[.pointer (some ⟨b.c, 0, none⟩), .int .i64 k] w fun e w' => (∃ v, e = .returned v) ∧ Holds N b w' ∧ Frm b.fp w w' := by
  refine (ccarve_any h k).mono ?_
  rintro e w' ⟨he, hx, hf⟩
  refine ⟨?_, ?_, hf⟩
  · exact ⟨_, he⟩
  · unfold Holds
    cases ht : takeT C.ks k with
    | none => rw [show carveC C k = C by unfold carveC; rw [ht]] at hx; exact ⟨_, _, hx, hi, hN⟩
    | some p => exact ⟨_, _, hx, inv_carve hi ht, by unfold carveC; rw [ht]; simpa using hN⟩
theorem otake (h : CX w b C) (hi : Inv C F) (hN : C.ks.length = N) (p : Int) :
    Calls Tryz.prog 36 #[.pointer (some ⟨b.c, 0, none⟩), .int .i64 p] w fun e w' => (∃ v, e = .returned v) ∧ Holds N b w' ∧ Frm b.fp w w' := by
  by_cases h0 : leftL C p = 0
  · refine (ctake_no h p h0).mono ?_
    rintro e w' ⟨rfl, hb⟩
    exact ⟨⟨_, rfl⟩, ⟨C, F, h.below hb, hi, hN⟩, Frm.of_below _ hb⟩
  · have hs : 0 < sizeI (kindL C.ks p) := by
      apply Decidable.byContradiction; intro hc
      exact h0 (by unfold leftL; rw [if_neg hc])
    obtain ⟨p0, p1⟩ := small_in hs
    obtain ⟨q, rfl⟩ := Int.eq_ofNat_of_zero_le p0
    have hq : q < C.ks.length := by omega
    rw [kindL_in hq] at hs
    have hk : 1 ≤ C.ks.getD q 0 ∧ C.ks.getD q 0 ≤ 4 := by
      apply Decidable.byContradiction; intro hc
      rw [sizeI_zero (by omega)] at hs; omega
    obtain ⟨-, h2, -⟩ := hi.ln q hq hk.1 hk.2
    cases hF : F q with
    | nil =>
      rw [hF] at h2
      exact absurd (by unfold leftL; rw [kindL_in hq, if_pos hs]; simpa using h2) h0
    | cons f l =>
      obtain ⟨g, ht, hl⟩ := take_ok hi hq hk.1 hk.2 hF
      refine (ctake_ok h q _ _ _ _ ht).mono ?_
      rintro e w' ⟨rfl, hx, hf⟩
      exact ⟨⟨_, rfl⟩, ⟨_, _, hx, inv_take hi hq hk.1 hk.2 hF ht hl, hN⟩, hf⟩
theorem olarge (h : CX w b C) (hi : Inv C F) (hN : C.ks.length = N) (n : Int) (hn : n ≤ 9223372036854775807) :
    Calls Tryz.prog 24 #[.pointer (some ⟨b.c, 0, none⟩), .int .i64 n] w fun e w' => (∃ v, e = .returned v) ∧ Holds N b w' ∧ Frm b.fp w w' := by
  refine (clarge_any h n hn).mono ?_
  rintro e w' ⟨he, hx, hf⟩
  refine ⟨⟨_, he⟩, ?_, hf⟩
  unfold Holds
  cases ht : spanL C.ks n with
  | none => rw [show largeC C n = C by unfold largeC; rw [ht]] at hx; exact ⟨_, _, hx, hi, hN⟩
  | some p =>
    refine ⟨_, _, hx, inv_large hi ht, ?_⟩
    have h1 := spanK_len C.ks n
    unfold spanK at h1
    unfold largeC
    simp only [ht] at h1 ⊢
    rw [← hN]; exact h1
theorem freeL_length (ks : List Int) (p : Int) : (freeL ks p).length = ks.length := by
  exact freeL_len ks p
theorem ogive (h : CX w b C) (hi : Inv C F) (hN : C.ks.length = N) (a : Int) :
    Calls Tryz.prog 45 #[.pointer (some ⟨b.c, 0, none⟩), .int .i64 a] w fun e w' => (∃ v, e = .returned v) ∧ Holds N b w' ∧ Frm b.fp w w' := by
  by_cases hb : hasB C.xs.length C.ws a = true
  · obtain ⟨x, rfl, hl, -, ht⟩ := has_tk hi hb
    have hle := hi.le
    rcases tk_cases ht with ⟨k1, k4, hal, hn⟩ | ⟨h5, h0⟩
    · refine (cgive_small h x hb _ _ _ _ _ (give_ok hi hl k1 k4 hal hn)).mono ?_
      rintro e w' ⟨rfl, hx, hf⟩
      exact ⟨⟨_, rfl⟩, ⟨_, _, hx, inv_give hi hb hl k1 k4 hal hn, hN⟩, hf⟩
    · have hp : kindL C.ks (pageI (x : Int)) = 5 := by
        rw [pageI_in (by omega) (by omega), show (x : Int) / 32 = ((x / 32 : Nat) : Int) by omega, kindL_in (by omega)]
        exact h5
      refine (cgive_large h x hb hp).mono ?_
      rintro e w' ⟨rfl, hx, hf⟩
      exact ⟨⟨_, rfl⟩, ⟨_, _, hx, inv_give_large hi hb hl h5 h0, (freeL_length _ _).trans hN⟩, hf⟩
  · refine (cgive_no h a (by simpa using hb)).mono ?_
    rintro e w' ⟨rfl, rfl⟩
    exact ⟨⟨_, rfl⟩, ⟨C, F, h, hi, hN⟩, Frm.refl _ _⟩
theorem odrop (h : CX w b C) (hi : Inv C F) (hN : C.ks.length = N) (p : Int) :
    Calls Tryz.prog 47 #[.pointer (some ⟨b.c, 0, none⟩), .int .i64 p] w fun e w' => (∃ v, e = .returned v) ∧ Holds N b w' ∧ Frm b.fp w w' := by
  by_cases hd : 0 < sizeI (kindL C.ks p) ∧ cellsI (kindL C.ks p) ≤ leftL C p
  · refine (cdrop_yes h p hd.1 hd.2).mono ?_
    rintro e w' ⟨rfl, hx, hf⟩
    obtain ⟨hs, hl⟩ := hd
    obtain ⟨p0, p1⟩ := small_in hs
    obtain ⟨q, rfl⟩ := Int.eq_ofNat_of_zero_le p0
    have hq : q < C.ks.length := by omega
    rw [kindL_in hq] at hs hl
    have hk : 1 ≤ C.ks.getD q 0 ∧ C.ks.getD q 0 ≤ 4 := by
      apply Decidable.byContradiction; intro hc
      rw [sizeI_zero (by omega)] at hs; omega
    exact ⟨⟨_, rfl⟩, ⟨_, _, hx, inv_drop hi hq hk.1 hk.2 hl, (freeL_length _ _).trans hN⟩, hf⟩
  · refine (cdrop_no h p hd).mono ?_
    rintro e w' ⟨rfl, hb⟩
    exact ⟨⟨_, rfl⟩, ⟨C, F, h.below hb, hi, hN⟩, Frm.of_below _ hb⟩
end
end Go.Proofs.YtjoejjhgneccgaaGreat

/- Cells: each call keeps what is taken. -/
namespace Go.Proofs.YtjoejjhgneccgaaGreat
open Go.RowKit

theorem carve_kept {C : Cs} {F : Nat → List Int} {k : Int} {p : Nat} (h : Inv C F) (ht : takeT C.ks k = some p) : (carveC C k).ws = C.ws ∧ ∀ a ∈ bitsN C.ws, Kept C (carveC C k) a := by
  have hz : sizeI k ≠ 0 := by intro e; unfold takeT at ht; rw [if_pos e] at ht; cases ht
  have hk : 1 ≤ k ∧ k ≤ 4 := by
    apply Decidable.byContradiction; intro hc
    exact hz (sizeI_zero (by omega))
  have hi : idx0 C.ks = some p := by unfold takeT at ht; rw [if_neg hz] at ht; exact ht
  have hp := idx0_lt hi
  have h0 := idx0_zero hi
  have hc : carveC C k = { C with ks := C.ks.set p k, ch := C.ch.set p (0, cellsI k), xs := buildL C.xs p k } := by unfold carveC; rw [ht]
  rw [hc]
  refine ⟨rfl, fun a ha => ?_⟩
  have hne : ∀ x, a ≤ x → x < endN C a → x / 32 ≠ p := fun x h1 h2 e => (pages_in h ha h1 h2).2.1 (by rw [e]; exact h0)
  obtain ⟨he, hkd⟩ := end_turned (C' := { C with ks := C.ks.set p k, ch := C.ch.set p (0, cellsI k), xs := buildL C.xs p k }) h ha (by simp) (fun q hq hd => by
    have e : q = p := by
      apply Decidable.byContradiction; intro hn
      exact hd (getD_set_other (fun e => hn e.symm) _ _)
    subst e
    refine ⟨hne, .inl ?_⟩
    show (C.ks.set q k).getD q 0 ≠ 6
    rw [getD_set_same hq]; omega)
  refine ⟨ha, he, hkd, fun x h1 h2 => ?_⟩
  have hx := (pages_in h ha h1 h2).1
  have hl := h.len
  have := hne x h1 h2
  exact (buildL_at hk (by omega)).2 x (by omega) (by omega)
theorem addL_mem {C : Cs} {F : Nat → List Int} (h : Inv C F) {z : Nat} (hz : z < 32 * C.ks.length) {a : Nat} : a ∈ bitsN (addL C.xs.length C.ws (z : Int)) ↔ a = z ∨ a ∈ bitsN C.ws := by
  have hle := h.le
  have hlen := h.len
  have hb := bitOn_get h.wl (show z < 2048 by omega)
  rw [mem_bits, mem_bits]
  unfold addL addB inB
  rw [Int.toNat_natCast]
  by_cases hbit : bit C.ws z = true
  · rw [hbit]
    simp only [Bool.not_true, Bool.and_false, Bool.false_eq_true, if_false]
    constructor
    · exact .inr
    · rintro (rfl | h1)
      · exact ⟨by omega, hbit⟩
      · exact h1
  · have hbit' : bit C.ws z = false := by simpa using hbit
    rw [hbit', decide_eq_true (by omega)]
    simp only [Bool.not_false, Bool.and_true, if_true]
    rw [hb]
    simp only [Bool.or_eq_true, decide_eq_true_eq]
    constructor
    · rintro ⟨h1, h2 | h2⟩
      · exact .inr ⟨h1, h2⟩
      · exact .inl h2
    · rintro (rfl | ⟨h1, h2⟩)
      · exact ⟨by omega, .inr rfl⟩
      · exact ⟨h1, .inl h2⟩
theorem off_mem {C : Cs} {F : Nat → List Int} (h : Inv C F) {z : Nat} (hz : z < 2048) {a : Nat} : a ∈ bitsN (bitOff C.ws z) ↔ a ≠ z ∧ a ∈ bitsN C.ws := by
  rw [mem_bits, mem_bits, bitOff_get h.wl hz]
  simp only [Bool.and_eq_true, Bool.not_eq_true', decide_eq_false_iff_not]
  constructor
  · rintro ⟨h1, h2, h3⟩; exact ⟨h3, h1, h2⟩
  · rintro ⟨h3, h1, h2⟩; exact ⟨h1, h2, h3⟩
/-- What lies in what is taken lies in nothing else that is. -/
theorem apart_ne {C : Cs} {F : Nat → List Int} (h : Inv C F) {a b x : Nat} (ha : a ∈ bitsN C.ws) (hb : b ∈ bitsN C.ws) (hne : a ≠ b) (h1 : a ≤ x) (h2 : x < endN C a) : x < b ∨ endN C b ≤ x := by
  rcases Nat.lt_or_gt_of_ne hne with hlt | hlt
  · have := apart_next h ha hb hlt; omega
  · have := apart_next h hb ha hlt; omega
theorem take_kept {C : Cs} {F : Nat → List Int} {q : Nat} {f g : Int} {l : List Int} (h : Inv C F) (hq : q < C.ks.length) (k1 : 1 ≤ C.ks.getD q 0) (k4 : C.ks.getD q 0 ≤ 4) (hf : F q = f :: l)
    (ht : TakeP C q (C.ks.getD q 0) f ((l.length : Int) + 1) (-1 - g)) (hl : Lnk C.xs q (C.ks.getD q 0) g l) (C' : Cs) (hC : C' = takeC C q (C.ks.getD q 0) f ((l.length : Int) + 1) (-1 - g)) (z : Nat) (hz : z = (cad q (C.ks.getD q 0) f).toNat) :
    z ∉ bitsN C.ws ∧ (∀ a, a ∈ bitsN C'.ws ↔ a = z ∨ a ∈ bitsN C.ws) ∧ (∀ a ∈ bitsN C.ws, Kept C C' a) ∧ endN C' z = z + (sizeI (C.ks.getD q 0)).toNat ∧ z / 32 = q ∧ C'.ks = C.ks ∧ ∀ x, z ≤ x → x < endN C' z → C'.xs.getD x 0 = 0 := by
  have hinv : Inv C' (upd F q l) := by rw [hC]; exact inv_take h hq k1 k4 hf ht hl
  have hks : C'.ks = C.ks := by rw [hC]; rfl
  obtain ⟨k, ek⟩ : ∃ k, k = C.ks.getD q 0 := ⟨_, rfl⟩
  rw [← ek] at k1 k4 ht hC hz ⊢
  have hkk : 1 ≤ k ∧ k ≤ 4 := ⟨k1, k4⟩
  have hcp := cad_page (p := q) hkk ht.f0 ht.f1
  have hci := cad_idx (p := q) hkk ht.f0 ht.f1
  rw [← hz] at hcp hci
  have hlen := h.len
  have hsz := sizeI_pos hkk
  have hzl : z < 32 * C.ks.length := by omega
  have hzc : cad q k f = (z : Int) := hcp.2.2.symm
  have hn : z ∉ bitsN C.ws := by
    rw [mem_bits, h.bt z hzl, tkB_small (k := k) (by rw [hci.1]; exact ek.symm) hkk, hci.1, hci.2.2, hf]
    simp
  have hm : ∀ a, a ∈ bitsN C'.ws ↔ a = z ∨ a ∈ bitsN C.ws := fun a => by
    have e : C'.ws = addL C.xs.length C.ws (z : Int) := by rw [hC, ← hzc]; rfl
    rw [e]; exact addL_mem h hzl
  have hend : ∀ a, endN C' a = endN C a := fun a => by unfold endN; rw [hks]
  have hez : endN C' z = z + (sizeI k).toNat := by
    unfold endN
    rw [hks, hci.1, ← ek, if_pos (by omega)]
  have hxs : C'.xs = fillL C.xs z (sizeI k).toNat 0 := by rw [hC, hz]; rfl
  refine ⟨hn, hm, fun a ha => ⟨(hm a).2 (.inr ha), hend a, by rw [hks], fun x h1 h2 => ?_⟩, hez, hci.1, hks, fun x h1 h2 => ?_⟩
  · have hne : a ≠ z := fun e => hn (e ▸ ha)
    have hap := apart_ne hinv ((hm a).2 (.inr ha)) ((hm z).2 (.inl rfl)) hne h1 (by rw [hend]; exact h2)
    have hx := (pages_in h ha h1 h2).1
    rw [hxs, fillL_get _ _ _ _ _ (by omega), if_neg (by omega)]
  · rw [hxs, fillL_get _ _ _ _ _ (by omega), if_pos (by omega)]
theorem large_kept {C : Cs} {F : Nat → List Int} {n : Int} {p : Nat} (h : Inv C F) (hs : spanL C.ks n = some p) (C' : Cs) (hC : C' = largeC C n) :
    32 * p ∉ bitsN C.ws ∧ (∀ a, a ∈ bitsN C'.ws ↔ a = 32 * p ∨ a ∈ bitsN C.ws) ∧ (∀ a ∈ bitsN C.ws, Kept C C' a) ∧ C'.ks = spanS C.ks p n.toNat ∧ endN C' (32 * p) = 32 * p + 32 * n.toNat ∧ p + n.toNat ≤ C.ks.length ∧ ∀ x, 32 * p ≤ x → x < endN C' (32 * p) → C'.xs.getD x 0 = 0 := by
  have hinv : Inv C' F := by rw [hC]; exact inv_large h hs
  obtain ⟨hn, hpl⟩ := spanL_lt hs
  have hz := span_zero hs
  have hle := h.le
  have hlen := h.len
  obtain ⟨m, rfl⟩ := Int.eq_ofNat_of_zero_le (show 0 ≤ n by omega)
  rw [Int.toNat_natCast] at hpl hz ⊢
  have hm1 : 1 ≤ m := by omega
  have hc : largeC C m = { C with ks := spanS C.ks p m, ws := addL C.xs.length C.ws ((32 * p : Nat) : Int), xs := fillL C.xs (32 * p) (32 * m) 0 } := by
    unfold largeC
    rw [hs]
    show ({ C with ks := _, ws := _, xs := fillL C.xs ((p : Int) * 32).toNat ((m : Int) * 32).toNat 0 } : Cs) = _
    rw [show ((p : Int) * 32).toNat = 32 * p by omega, show ((m : Int) * 32).toNat = 32 * m by omega, Int.toNat_natCast, show ((32 * p : Nat) : Int) = (p : Int) * 32 by omega]
  rw [hc] at hC
  have hks : C'.ks = spanS C.ks p m := by rw [hC]
  have hws : C'.ws = addL C.xs.length C.ws ((32 * p : Nat) : Int) := by rw [hC]
  have hxs : C'.xs = fillL C.xs (32 * p) (32 * m) 0 := by rw [hC]
  have hlk : C'.ks.length = C.ks.length := by rw [hks]; unfold spanS; simp [fillL_len]
  have hget : ∀ q, q < C.ks.length → C'.ks.getD q 0 = if q = p then 5 else if p ≤ q ∧ q < p + m then 6 else C.ks.getD q 0 := fun q hq => by
    rw [hks]; unfold spanS
    by_cases e : q = p
    · subst e; rw [getD_set_same (by rw [fillL_len]; exact hq), if_pos rfl]
    · rw [getD_set_other (fun c => e c.symm), fillL_get _ _ _ _ _ hq, if_neg e]
  have hold : 32 * p ∉ bitsN C.ws := by
    rw [mem_bits, h.bt _ (by omega), tkB_other (k := 0) (by rw [show 32 * p / 32 = p by omega]; exact hz p (Nat.le_refl _) (by omega)) (by omega)]
    simp
  have hm : ∀ a, a ∈ bitsN C'.ws ↔ a = 32 * p ∨ a ∈ bitsN C.ws := fun a => by rw [hws]; exact addL_mem h (by omega)
  have hne : ∀ a ∈ bitsN C.ws, ∀ x, a ≤ x → x < endN C a → ¬ (p ≤ x / 32 ∧ x / 32 < p + m) := fun a ha x h1 h2 hc => (pages_in h ha h1 h2).2.1 (hz _ hc.1 hc.2)
  have hrun : run6 C'.ks (p + 1) = m - 1 := by
    have h1 : m - 1 ≤ run6 C'.ks (p + 1) := run6_ge _ _ fun j hj => by
      rw [kindL_in (by rw [hlk]; omega), hget _ (by omega), if_neg (by omega), if_pos (by omega)]
    apply Decidable.byContradiction; intro hc
    have h6 := run6_all C'.ks (p + 1) (m - 1) (by omega)
    rw [show p + 1 + (m - 1) = p + m by omega] at h6
    by_cases hpm : p + m < C.ks.length
    · rw [hget _ hpm, if_neg (by omega), if_neg (by omega)] at h6
      have := (h.sx _ hpm h6).2
      rw [hz (p + m - 1) (by omega) (by omega)] at this
      omega
    · rw [getD_out (by rw [hlk]; omega)] at h6; omega
  have hez : endN C' (32 * p) = 32 * p + 32 * m := by
    unfold endN
    rw [show 32 * p / 32 = p by omega, hget p (by omega), if_pos rfl, if_neg (by simp [sizeI]), hrun]
    omega
  refine ⟨hold, hm, fun a ha => ?_, hks, hez, hpl, fun x h1 h2 => ?_⟩
  · obtain ⟨he, hkd⟩ := end_turned (C' := C') h ha hlk (fun q hq hd => by
      have hin : p ≤ q ∧ q < p + m := by
        apply Decidable.byContradiction; intro hn
        rw [hget q hq, if_neg (by omega), if_neg hn] at hd
        exact hd rfl
      refine ⟨fun x h1 h2 e => hne a ha x h1 h2 (by rw [e]; exact hin), ?_⟩
      by_cases e : q = p
      · left; rw [hget q hq, if_pos e]; decide
      · right; exact hz (q - 1) (by omega) (by omega))
    refine ⟨(hm a).2 (.inr ha), he, hkd, fun x h1 h2 => ?_⟩
    have hx := (pages_in h ha h1 h2).1
    have := hne a ha x h1 h2
    rw [hxs, fillL_get _ _ _ _ _ (by omega), if_neg (by omega)]
  · rw [hez] at h2
    rw [hxs, fillL_get _ _ _ _ _ (by omega), if_pos (by omega)]
end Go.Proofs.YtjoejjhgneccgaaGreat

/- Cells: given back, dropped, stored to: what is kept (plain). -/
namespace Go.Proofs.YtjoejjhgneccgaaGreat
open Go.RowKit

theorem give_kept {C : Cs} {F : Nat → List Int} {z : Nat} (h : Inv C F) (hb : z ∈ bitsN C.ws) (C' : Cs) (hks : C'.ks = C.ks) (hws : C'.ws = bitOff C.ws z) (hxs : ∀ x, x < C.xs.length → x ≠ z → C'.xs.getD x 0 = C.xs.getD x 0) :
    (∀ a, a ∈ bitsN C'.ws ↔ a ≠ z ∧ a ∈ bitsN C.ws) ∧ ∀ a ∈ bitsN C.ws, a ≠ z → Kept C C' a := by
  have hz := (bits_lt h hb).1
  have hle := h.le
  have hlen := h.len
  have hm : ∀ a, a ∈ bitsN C'.ws ↔ a ≠ z ∧ a ∈ bitsN C.ws := fun a => by rw [hws]; exact off_mem h (by omega)
  refine ⟨hm, fun a ha hne => ⟨(hm a).2 ⟨hne, ha⟩, by unfold endN; rw [hks], by rw [hks], fun x h1 h2 => ?_⟩⟩
  have hx := (pages_in h ha h1 h2).1
  refine hxs x (by omega) fun e => ?_
  have := (end_le h hb).1
  rcases apart_ne h ha hb hne h1 h2 with h3 | h3 <;> omega
theorem free_kept {C : Cs} {F : Nat → List Int} (h : Inv C F) (p m : Nat) (C' : Cs) (hks : C'.ks = fillL C.ks p m 0) (hxs : C'.xs = C.xs)
    {a : Nat} (ha : a ∈ bitsN C.ws) (hin : a ∈ bitsN C'.ws) (hne : ∀ x, a ≤ x → x < endN C a → ¬ (p ≤ x / 32 ∧ x / 32 < p + m)) : Kept C C' a := by
  have hlk : C'.ks.length = C.ks.length := by rw [hks, fillL_len]
  obtain ⟨he, hkd⟩ := end_turned (C' := C') h ha hlk (fun q hq hd => by
    have hin : p ≤ q ∧ q < p + m := by
      apply Decidable.byContradiction; intro hn
      rw [hks, fillL_get _ _ _ _ _ hq, if_neg hn] at hd
      exact hd rfl
    refine ⟨fun x h1 h2 e => hne x h1 h2 (by rw [e]; exact hin), .inl ?_⟩
    rw [hks, fillL_get _ _ _ _ _ hq, if_pos hin]; decide)
  exact ⟨hin, he, hkd, fun x _ _ => by rw [hxs]⟩
theorem giveL_kept {C : Cs} {F : Nat → List Int} {z : Nat} (h : Inv C F) (hb : z ∈ bitsN C.ws) (h5 : C.ks.getD (z / 32) 0 = 5) :
    (∀ a, a ∈ bitsN (giveL C z).ws ↔ a ≠ z ∧ a ∈ bitsN C.ws) ∧ (∀ a ∈ bitsN C.ws, a ≠ z → Kept C (giveL C z) a) ∧ (giveL C z).ks = fillL C.ks (z / 32) (sizeL C.ks ((z / 32 : Nat) : Int)).toNat 0 := by
  have hz := (bits_lt h hb).1
  have hle := h.le
  obtain ⟨-, h0, hend, -⟩ := apart_large h hb (by rw [h5]; simp [sizeI])
  have hpg : pageI (z : Int) = ((z / 32 : Nat) : Int) := by rw [pageI_in (by omega) (by omega)]; omega
  have hws : (giveL C z).ws = bitOff C.ws z := by unfold giveL; exact remL_off (has_of h hb)
  have hm : ∀ a, a ∈ bitsN (giveL C z).ws ↔ a ≠ z ∧ a ∈ bitsN C.ws := fun a => by rw [hws]; exact off_mem h (by omega)
  have hks : (giveL C z).ks = fillL C.ks (z / 32) (sizeL C.ks ((z / 32 : Nat) : Int)).toNat 0 := by unfold giveL freeL; rw [hpg, Int.toNat_natCast]
  have hsz : sizeL C.ks ((z / 32 : Nat) : Int) = 1 + (run6 C.ks (z / 32 + 1) : Int) := by
    unfold sizeL
    rw [kindL_in (by omega), h5, if_neg (by simp [sizeI]), if_neg (by simp), Int.toNat_natCast]
  refine ⟨hm, fun a ha hne => ?_, hks⟩
  refine free_kept h (z / 32) _ (giveL C z) hks rfl ha ((hm a).2 ⟨hne, ha⟩) fun x h1 h2 hc => ?_
  have hez : endN C z = z + 32 * (1 + run6 C.ks (z / 32 + 1)) := by
    unfold endN; rw [h5, if_neg (by simp [sizeI])]
  rcases apart_ne h ha hb hne h1 h2 with h3 | h3 <;> omega
theorem drop_all {C : Cs} {F : Nat → List Int} {p : Nat} (h : Inv C F) (hp : p < C.ks.length) (k1 : 1 ≤ C.ks.getD p 0) (k4 : C.ks.getD p 0 ≤ 4) (hl : cellsI (C.ks.getD p 0) ≤ ((F p).length : Int)) : ∀ i, 0 ≤ i → i < cellsI (C.ks.getD p 0) → i ∈ F p := by
  obtain ⟨g1, g2, g3⟩ := h.ln p hp k1 k4
  intro i h0 h1
  apply Decidable.byContradiction; intro hn
  have hfew := few_ints (cellsI (C.ks.getD p 0)).toNat (i :: F p) (List.nodup_cons.2 ⟨hn, g3⟩) (fun x hx => by
    rcases List.mem_cons.1 hx with rfl | hx
    · omega
    · have := g1.mem x hx; omega)
  rw [List.length_cons] at hfew
  omega
theorem drop_kept {C : Cs} {F : Nat → List Int} {p : Nat} (h : Inv C F) (hp : p < C.ks.length) (k1 : 1 ≤ C.ks.getD p 0) (k4 : C.ks.getD p 0 ≤ 4) (hl : cellsI (C.ks.getD p 0) ≤ ((F p).length : Int)) :
    freeL C.ks p = fillL C.ks p 1 0 ∧ (∀ a ∈ bitsN C.ws, a / 32 ≠ p) ∧ ∀ a ∈ bitsN C.ws, Kept C { C with ks := freeL C.ks p } a := by
  have hall := drop_all h hp k1 k4 hl
  have hsp := sizeI_pos ⟨k1, k4⟩
  have hs : sizeL C.ks p = 1 := by unfold sizeL; rw [kindL_in hp, if_pos (by omega)]
  have hf : freeL C.ks p = fillL C.ks p 1 0 := by unfold freeL; rw [hs, Int.toNat_natCast]; rfl
  have hnp : ∀ a ∈ bitsN C.ws, a / 32 ≠ p := fun a ha e => by
    rcases tk_cases (bits_lt h ha).2 with ⟨t1, t2, al, hn⟩ | ⟨t5, -⟩
    · rw [e] at hn
      have := idx_lt ⟨k1, k4⟩ a
      exact hn (hall _ this.1 this.2)
    · rw [e] at t5; omega
  refine ⟨hf, hnp, fun a ha => free_kept h p 1 { C with ks := freeL C.ks p } hf rfl ha ha fun x h1 h2 hc => ?_⟩
  have e : x / 32 = p := by omega
  rcases (pages_in h ha h1 h2).2.2 with ⟨-, e2⟩ | ⟨h5, e2 | h6⟩
  · exact hnp a ha (by omega)
  · rw [← e2, e] at h5; omega
  · rw [e] at h6; omega
theorem mem_bitsI {ws : List (BitVec 64)} {x : Int} : x ∈ bitsI ws ↔ ∃ a : Nat, a ∈ bitsN ws ∧ x = a := by
  unfold bitsI
  rw [List.mem_map]
  exact ⟨fun ⟨a, h1, h2⟩ => ⟨a, h1, h2.symm⟩, fun ⟨a, h1, h2⟩ => ⟨a, h1, h2.symm⟩⟩
theorem bitsI_sorted (ws : List (BitVec 64)) : (bitsI ws).Pairwise (· < ·) := by
  unfold bitsI
  exact (bitsN_sorted ws).map _ fun a b h => Int.ofNat_lt.2 h
theorem has_iff {C : Cs} {F : Nat → List Int} (h : Inv C F) (x : Int) : hasB C.xs.length C.ws x = decide (x ∈ bitsI C.ws) := by
  rw [Bool.eq_iff_iff, decide_eq_true_eq, mem_bitsI]
  constructor
  · intro hb
    obtain ⟨a, e, hl, hbit, -⟩ := has_tk h hb
    have := h.le
    exact ⟨a, mem_bits.2 ⟨by omega, hbit⟩, e⟩
  · rintro ⟨a, ha, rfl⟩
    exact has_of h ha
theorem free_few {C : Cs} {F : Nat → List Int} (h : Inv C F) {q : Nat} (hq : q < C.ks.length) (k1 : 1 ≤ C.ks.getD q 0) (k4 : C.ks.getD q 0 ≤ 4) : (F q).length ≤ 16 := by
  obtain ⟨g1, -, g3⟩ := h.ln q hq k1 k4
  have hf := few_ints (cellsI (C.ks.getD q 0)).toNat (F q) g3 (fun x hx => by
    have := g1.mem x hx
    omega)
  have hc : C.ks.getD q 0 = 1 ∨ C.ks.getD q 0 = 2 ∨ C.ks.getD q 0 = 3 ∨ C.ks.getD q 0 = 4 := by omega
  rcases hc with e | e | e | e <;> rw [e] at hf <;> simp [cellsI] at hf <;> omega
/-- A free cell's first word lies in nothing that is taken. -/
theorem free_out {C : Cs} {F : Nat → List Int} (h : Inv C F) {q : Nat} (hq : q < C.ks.length) (k1 : 1 ≤ C.ks.getD q 0) (k4 : C.ks.getD q 0 ≤ 4) {i : Int} (hi : i ∈ F q) {a : Nat} (ha : a ∈ bitsN C.ws) : ¬ (a ≤ (cad q (C.ks.getD q 0) i).toNat ∧ (cad q (C.ks.getD q 0) i).toNat < endN C a) := by
  rintro ⟨h1, h2⟩
  obtain ⟨g1, -, -⟩ := h.ln q hq k1 k4
  obtain ⟨i0, i1⟩ := g1.mem i hi
  obtain ⟨k, ek⟩ : ∃ k, k = C.ks.getD q 0 := ⟨_, rfl⟩
  rw [← ek] at k1 k4 i1 h1 h2
  have hci := cad_idx (p := q) ⟨k1, k4⟩ i0 i1
  have hp := (pages_in h ha h1 h2).2.2
  rw [hci.1] at hp
  rcases hp with ⟨hs, e⟩ | ⟨h5, e | h6⟩
  · have hak : C.ks.getD (a / 32) 0 = k := by rw [← e]; exact ek.symm
    rcases tk_cases (bits_lt h ha).2 with ⟨-, -, al, hn⟩ | ⟨t5, -⟩
    · rw [hak] at al hn
      rw [← e] at hn
      have hend : endN C a = a + (sizeI k).toNat := by unfold endN; rw [hak, if_pos (by rw [← hak]; exact hs)]
      rw [hend] at h2
      have hx := aligned ⟨k1, k4⟩ al
      have hcp := cad_page (p := q) ⟨k1, k4⟩ i0 i1
      rw [← e] at hx
      have hne : i ≠ (a : Int) % 32 / sizeI k := fun c => hn (c ▸ hi)
      have hid := idx_lt ⟨k1, k4⟩ a
      have := cad_ne (p := (q : Int)) (by omega) ⟨k1, k4⟩ i0 hid.1 hne
      have h3 : (cad (q : Int) k ((a : Int) % 32 / sizeI k)).toNat = a := by rw [← hx]; simp
      rw [h3] at this
      omega
    · rw [hak] at t5; omega
  · rw [← e, ← ek] at h5; omega
  · rw [← ek] at h6; omega
theorem inv_store {C : Cs} {F : Nat → List Int} (h : Inv C F) {a x : Nat} (ha : a ∈ bitsN C.ws) (h1 : a ≤ x) (h2 : x < endN C a) (v : Int) : Inv { C with xs := putL C.xs x v } F := by
  have hx := (pages_in h ha h1 h2).1
  have hlen := h.len
  refine ⟨h.le, by rw [putL_len]; exact hlen, h.chl, h.wl, h.kd, h.sx, fun p (hp : p < C.ks.length) (k1 : 1 ≤ C.ks.getD p 0) (k4 : C.ks.getD p 0 ≤ 4) => ?_, h.bt, h.tp⟩
  obtain ⟨g1, g2, g3⟩ := h.ln p hp k1 k4
  refine ⟨(show Lnk (putL C.xs x v) p (C.ks.getD p 0) (C.ch.getD p (0, 0)).1 (F p) from g1.keep fun i hi => ?_), g2, g3⟩
  obtain ⟨i0, i1⟩ := g1.mem i hi
  have hcp := cad_page (p := p) ⟨k1, k4⟩ i0 i1
  have hs := sizeI_pos ⟨k1, k4⟩
  rw [putL_get (by omega), if_neg fun e => free_out h hp k1 k4 hi ha ⟨by omega, by omega⟩]
theorem base_in_mem {C : Cs} {F : Nat → List Int} (h : Inv C F) {x : Int} (h0 : 0 ≤ baseC C x) : ∃ a y : Nat, x = (y : Int) ∧ a ∈ bitsN C.ws ∧ a ≤ y ∧ y < endN C a ∧ y < C.xs.length := by
  obtain ⟨a, ha, -, h1, h2⟩ := base_back h h0
  obtain ⟨y, rfl⟩ := Int.eq_ofNat_of_zero_le (show 0 ≤ x by omega)
  have := (pages_in h ha (x := y) (by omega) (by omega)).1
  have := h.len
  exact ⟨a, y, rfl, ha, by omega, by omega, by omega⟩
end Go.Proofs.YtjoejjhgneccgaaGreat
