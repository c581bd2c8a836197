/- Cells: each call keeps what holds. -/
import Derived.Test.YtfocdbflmodfhaaDoorCi4
import Derived.Test.YtfocdbflmodfhaaDoorCe3
import Derived.Test.YtfocdbflmodfhaaDoorCe4
import Derived.Test.YtfocdbflmodfhaaDoorCe5
namespace Go.Proofs.YtfocdbflmodfhaaDoor
open Go.RowKit

/-- What a call leaves: some heap of cells of as many pages, in which all holds. -/
def Holds (N : Nat) (b : Bl) (w' : World) : Prop := ∃ C F, CX w' b C ∧ Inv C F ∧ C.ks.length = N
section
variable {w : World} {b : Bl} {C : Cs} {F : Nat → List Int} {N : Nat}
theorem ocarve (h : CX w b C) (hi : Inv C F) (hN : C.ks.length = N) (k : Int) :
    Calls Tryd.prog 9 #[.pointer (some ⟨b.c, 0, none⟩), .int .i64 k] w fun e w' => (∃ v, e = .returned v) ∧ Holds N b w' ∧ Frm b.fp w w' := by
  refine (ccarve_any h k).mono ?_
  rintro e w' ⟨he, hx, hf⟩
  refine ⟨?_, ?_, hf⟩
  · exact ⟨_, he⟩
  · unfold Holds
    cases ht : takeT C.ks k with
    | none => rw [show carveC C k = C by unfold carveC; rw [ht]] at hx; exact ⟨_, _, hx, hi, hN⟩
    | some p => exact ⟨_, _, hx, inv_carve hi ht, by unfold carveC; rw [ht]; simpa using hN⟩
theorem otake (h : CX w b C) (hi : Inv C F) (hN : C.ks.length = N) (p : Int) :
    Calls Tryd.prog 10 #[.pointer (some ⟨b.c, 0, none⟩), .int .i64 p] w fun e w' => (∃ v, e = .returned v) ∧ Holds N b w' ∧ Frm b.fp w w' := by
  by_cases h0 : leftL C p = 0
  · refine (ctake_no h p h0).mono ?_
    rintro e w' ⟨rfl, hb⟩
    exact ⟨⟨_, rfl⟩, ⟨C, F, h.below hb, hi, hN⟩, Frm.of_below _ hb⟩
  · have hs : 0 < sizeI (kindL C.ks p) := by
      apply Decidable.byContradiction; intro hc
      exact h0 (by unfold leftL; rw [if_neg hc])
    obtain ⟨p0, p1⟩ := small_in hs
    obtain ⟨q, rfl⟩ := Int.eq_ofNat_of_zero_le p0
    have hq : q < C.ks.length := by omega
    rw [kindL_in hq] at hs
    have hk : 1 ≤ C.ks.getD q 0 ∧ C.ks.getD q 0 ≤ 4 := by
      apply Decidable.byContradiction; intro hc
      rw [sizeI_zero (by omega)] at hs; omega
    obtain ⟨-, h2, -⟩ := hi.ln q hq hk.1 hk.2
    cases hF : F q with
    | nil =>
      rw [hF] at h2
      exact absurd (by unfold leftL; rw [kindL_in hq, if_pos hs]; simpa using h2) h0
    | cons f l =>
      obtain ⟨g, ht, hl⟩ := take_ok hi hq hk.1 hk.2 hF
      refine (ctake_ok h q _ _ _ _ ht).mono ?_
      rintro e w' ⟨rfl, hx, hf⟩
      exact ⟨⟨_, rfl⟩, ⟨_, _, hx, inv_take hi hq hk.1 hk.2 hF ht hl, hN⟩, hf⟩
theorem olarge (h : CX w b C) (hi : Inv C F) (hN : C.ks.length = N) (n : Int) (hn : n ≤ 9223372036854775807) :
    Calls Tryd.prog 11 #[.pointer (some ⟨b.c, 0, none⟩), .int .i64 n] w fun e w' => (∃ v, e = .returned v) ∧ Holds N b w' ∧ Frm b.fp w w' := by
  refine (clarge_any h n hn).mono ?_
  rintro e w' ⟨he, hx, hf⟩
  refine ⟨⟨_, he⟩, ?_, hf⟩
  unfold Holds
  cases ht : spanL C.ks n with
  | none => rw [show largeC C n = C by unfold largeC; rw [ht]] at hx; exact ⟨_, _, hx, hi, hN⟩
  | some p =>
    refine ⟨_, _, hx, inv_large hi ht, ?_⟩
    have h1 := spanK_len C.ks n
    unfold spanK at h1
    unfold largeC
    simp only [ht] at h1 ⊢
    rw [← hN]; exact h1
theorem freeL_length (ks : List Int) (p : Int) : (freeL ks p).length = ks.length := by
  exact freeL_len ks p
theorem ogive (h : CX w b C) (hi : Inv C F) (hN : C.ks.length = N) (a : Int) :
    Calls Tryd.prog 12 #[.pointer (some ⟨b.c, 0, none⟩), .int .i64 a] w fun e w' => (∃ v, e = .returned v) ∧ Holds N b w' ∧ Frm b.fp w w' := by
  by_cases hb : hasB C.xs.length C.ws a = true
  · obtain ⟨x, rfl, hl, -, ht⟩ := has_tk hi hb
    have hle := hi.le
    rcases tk_cases ht with ⟨k1, k4, hal, hn⟩ | ⟨h5, h0⟩
    · refine (cgive_small h x hb _ _ _ _ _ (give_ok hi hl k1 k4 hal hn)).mono ?_
      rintro e w' ⟨rfl, hx, hf⟩
      exact ⟨⟨_, rfl⟩, ⟨_, _, hx, inv_give hi hb hl k1 k4 hal hn, hN⟩, hf⟩
    · have hp : kindL C.ks (pageI (x : Int)) = 5 := by
        rw [pageI_in (by omega) (by omega), show (x : Int) / 32 = ((x / 32 : Nat) : Int) by omega, kindL_in (by omega)]
        exact h5
      refine (cgive_large h x hb hp).mono ?_
      rintro e w' ⟨rfl, hx, hf⟩
      exact ⟨⟨_, rfl⟩, ⟨_, _, hx, inv_give_large hi hb hl h5 h0, (freeL_length _ _).trans hN⟩, hf⟩
  · refine (cgive_no h a (by simpa using hb)).mono ?_
    rintro e w' ⟨rfl, rfl⟩
    exact ⟨⟨_, rfl⟩, ⟨C, F, h, hi, hN⟩, Frm.refl _ _⟩
theorem odrop (h : CX w b C) (hi : Inv C F) (hN : C.ks.length = N) (p : Int) :
    Calls Tryd.prog 13 #[.pointer (some ⟨b.c, 0, none⟩), .int .i64 p] w fun e w' => (∃ v, e = .returned v) ∧ Holds N b w' ∧ Frm b.fp w w' := by
  by_cases hd : 0 < sizeI (kindL C.ks p) ∧ cellsI (kindL C.ks p) ≤ leftL C p
  · refine (cdrop_yes h p hd.1 hd.2).mono ?_
    rintro e w' ⟨rfl, hx, hf⟩
    obtain ⟨hs, hl⟩ := hd
    obtain ⟨p0, p1⟩ := small_in hs
    obtain ⟨q, rfl⟩ := Int.eq_ofNat_of_zero_le p0
    have hq : q < C.ks.length := by omega
    rw [kindL_in hq] at hs hl
    have hk : 1 ≤ C.ks.getD q 0 ∧ C.ks.getD q 0 ≤ 4 := by
      apply Decidable.byContradiction; intro hc
      rw [sizeI_zero (by omega)] at hs; omega
    exact ⟨⟨_, rfl⟩, ⟨_, _, hx, inv_drop hi hq hk.1 hk.2 hl, (freeL_length _ _).trans hN⟩, hf⟩
  · refine (cdrop_no h p hd).mono ?_
    rintro e w' ⟨rfl, hb⟩
    exact ⟨⟨_, rfl⟩, ⟨C, F, h.below hb, hi, hN⟩, Frm.of_below _ hb⟩
end
end Go.Proofs.YtfocdbflmodfhaaDoor
