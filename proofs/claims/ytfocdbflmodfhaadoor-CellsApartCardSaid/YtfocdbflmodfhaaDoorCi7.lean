/- Cells: what the law asks of each that is taken. -/
import Derived.Test.YtfocdbflmodfhaaDoorCi5
namespace Go.Proofs.YtfocdbflmodfhaaDoor
open Go.RowKit

theorem filt_sorted (f : Nat → Bool) (n : Nat) : ((List.range n).filter f).Pairwise (· < ·) := List.Pairwise.filter _ List.pairwise_lt_range
theorem bitsN_sorted (ws : List (BitVec 64)) : (bitsN ws).Pairwise (· < ·) := filt_sorted (bit ws) 2048
theorem sorted_at {l : List Nat} (hs : l.Pairwise (· < ·)) {k : Nat} (hk : k < l.length) : ∃ a, a ∈ l ∧ (l.map Int.ofNat).getD k 0 = (a : Int) ∧ (k + 1 < l.length → ∃ b, b ∈ l ∧ (l.map Int.ofNat).getD (k + 1) 0 = (b : Int) ∧ a < b) := by
  refine ⟨l[k], List.getElem_mem hk, ?_, fun h1 => ⟨l[k + 1], List.getElem_mem h1, ?_, List.pairwise_iff_getElem.1 hs k (k + 1) hk h1 (by omega)⟩⟩
  · rw [List.getD_eq_getElem?_getD, List.getElem?_map, List.getElem?_eq_getElem hk]; rfl
  · rw [List.getD_eq_getElem?_getD, List.getElem?_map, List.getElem?_eq_getElem h1]; rfl
/-- A small one at place k. -/
structure ApSm (C : Cs) (k : Nat) (z s : Int) : Prop where
  z0 : 0 ≤ z
  z1 : z < 2048
  at_ : (bitsI C.ws).getD k 0 = z
  s0 : 0 < s
  s1 : s ≤ 16
  kd : sizeI (kindL C.ks (z / 32)) = s
  al : z % s = 0
  b0 : baseC C z = z
  b1 : baseC C (z + s - 1) = z
  nx : k + 1 < (bitsI C.ws).length → z + s ≤ (bitsI C.ws).getD (k + 1) 0
/-- A large one at place k, of r pages behind its first. -/
structure ApLg (C : Cs) (k : Nat) (z : Int) (p r : Nat) : Prop where
  z0 : z = 32 * p
  r0 : p + (1 + r) ≤ C.ks.length
  p1 : C.ks.length ≤ 64
  at_ : (bitsI C.ws).getD k 0 = z
  kd : kindL C.ks p = 5
  run : r = run6 C.ks (p + 1)
  b0 : baseC C z = z
  b1 : baseC C (z + 32 + 32 * r - 1) = z
  nx : k + 1 < (bitsI C.ws).length → z + 32 + 32 * r ≤ (bitsI C.ws).getD (k + 1) 0
theorem ap_at {C : Cs} {F : Nat → List Int} (h : Inv C F) {k : Nat} (hk : k < (bitsI C.ws).length) : (∃ z s, ApSm C k z s) ∨ (∃ z p r, ApLg C k z p r) := by
  have hl : (bitsI C.ws).length = (bitsN C.ws).length := by unfold bitsI; rw [List.length_map]
  rw [hl] at hk
  obtain ⟨a, hm, hg, hn⟩ := sorted_at (bitsN_sorted C.ws) hk
  obtain ⟨hlt, htk⟩ := bits_lt h hm
  have hle := h.le
  have hnext : k + 1 < (bitsI C.ws).length → (endN C a : Int) ≤ (bitsI C.ws).getD (k + 1) 0 := fun h1 => by
    rw [hl] at h1
    obtain ⟨b, hb, hb2, hb3⟩ := hn h1
    refine Int.le_trans (Int.ofNat_le.2 (apart_next h hm hb hb3)) (Int.le_of_eq hb2.symm)
  have hkd : kindL C.ks ((a : Int) / 32) = C.ks.getD (a / 32) 0 := by
    rw [show (a : Int) / 32 = ((a / 32 : Nat) : Int) by omega, kindL_in (by omega)]
  by_cases hs : 0 < sizeI (C.ks.getD (a / 32) 0)
  · obtain ⟨h1, h2, h3⟩ := apart_small h hm hs
    refine .inl ⟨a, sizeI (C.ks.getD (a / 32) 0), by omega, by omega, hg, hs, (sizeI_bd _).2, by rw [hkd], h1, h2, h3, fun hn => ?_⟩
    have := hnext hn
    unfold endN at this
    rw [if_pos hs] at this
    omega
  · obtain ⟨h1, h2, h3, h4, h5⟩ := apart_large h hm hs
    refine .inr ⟨a, a / 32, run6 C.ks (a / 32 + 1), by omega, h3, hle, hg, by rw [kindL_in (by omega)]; exact h1, rfl, h4, ?_, fun hn => ?_⟩
    · have e : (a : Int) + 32 + 32 * (run6 C.ks (a / 32 + 1) : Int) - 1 = ((a + 32 * (1 + run6 C.ks (a / 32 + 1)) : Nat) : Int) - 1 := by
        generalize run6 C.ks (a / 32 + 1) = r
        omega
      rw [e]
      exact h5
    · refine Int.le_trans (Int.le_of_eq ?_) (hnext hn)
      unfold endN
      rw [if_neg hs]
      generalize run6 C.ks (a / 32 + 1) = r
      omega
end Go.Proofs.YtfocdbflmodfhaaDoor
