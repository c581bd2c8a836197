/- Sets: made; all of them. -/
import Derived.Test.YtfocdbflmodfhaaDoorBit3
import Derived.Test.YtfocdbflmodfhaaDoorInts
namespace Go.Proofs.YtfocdbflmodfhaaDoor
open Go.RowKit

def bitsN (ws : List (BitVec 64)) : List Nat := (List.range 2048).filter (bit ws)
def bitsI (ws : List (BitVec 64)) : List Int := (bitsN ws).map Int.ofNat
theorem bitsI_len (ws : List (BitVec 64)) : (bitsI ws).length ≤ 2048 := by
  unfold bitsI bitsN
  rw [List.length_map]
  exact Nat.le_trans (List.length_filter_le _ _) (by simp)
/-- How far it is. -/
def AllI (ws : List (BitVec 64)) (l : List Int) (v : Int) : Prop :=
  (v = -1 ∧ l = bitsI ws) ∨ (∃ m : Nat, v = m ∧ m < 2048 ∧ bit ws m = true ∧ l = ((List.range m).filter (bit ws)).map Int.ofNat)
theorem filter_gap (f : Nat → Bool) (a b : Nat) (h : a ≤ b) (hf : ∀ j, a ≤ j → j < b → f j = false) : (List.range b).filter f = (List.range a).filter f := by
  obtain ⟨d, rfl⟩ : ∃ d, b = a + d := ⟨b - a, by omega⟩
  clear h
  induction d with
  | zero => rfl
  | succ d ih =>
    rw [← Nat.add_assoc, List.range_succ, List.filter_append, ih (fun j h1 h2 => hf j h1 (by omega))]
    simp [hf (a + d) (by omega) (by omega)]
theorem alli_start {ws : List (BitVec 64)} {v : Int} (h : nextP ws 0 v) : AllI ws [] v := by
  rcases h with ⟨rfl, h⟩ | ⟨m, rfl, _, h1, h2, h3⟩
  · refine .inl ⟨rfl, ?_⟩
    unfold bitsI bitsN
    rw [filter_gap (bit ws) 0 2048 (by omega) (fun j _ h2 => h j (by omega) h2)]; rfl
  · refine .inr ⟨m, rfl, h1, h2, ?_⟩
    rw [filter_gap (bit ws) 0 m (by omega) (fun j _ h2 => h3 j (by omega) h2)]; rfl
theorem alli_next {ws : List (BitVec 64)} {m : Nat} {l : List Int} {v : Int} (hm : m < 2048) (hb : bit ws m = true) (hl : l = ((List.range m).filter (bit ws)).map Int.ofNat) (h : nextP ws (m + 1) v) : AllI ws (l ++ [(m : Int)]) v := by
  have e : l ++ [(m : Int)] = ((List.range (m + 1)).filter (bit ws)).map Int.ofNat := by
    rw [hl, List.range_succ, List.filter_append, List.map_append]
    simp [hb]
  rw [e]
  rcases h with ⟨rfl, h⟩ | ⟨k, rfl, h0, h1, h2, h3⟩
  · refine .inl ⟨rfl, ?_⟩
    unfold bitsI bitsN
    rw [filter_gap (bit ws) (m + 1) 2048 (by omega) h]
  · refine .inr ⟨k, rfl, h1, h2, ?_⟩
    rw [filter_gap (bit ws) (m + 1) k (by omega) (fun j h4 h5 => h3 j h4 h5)]
theorem alli_len {ws : List (BitVec 64)} {m : Nat} {l : List Int} (hm : m < 2048) (hl : l = ((List.range m).filter (bit ws)).map Int.ofNat) : l.length ≤ 2048 := by
  rw [hl, List.length_map]
  have := List.length_filter_le (bit ws) (List.range m)
  simp at this
  omega
def RowE (base : Nat) (xs : List Int) (e : Ending) (w' : World) : Prop := ∃ v, e = .returned v ∧ IRow base w' v xs
set_option maxHeartbeats 4000000 in
set_option maxRecDepth 100000 in
theorem all_any {w : World} {s n : Nat} {ws : List (BitVec 64)} (h : Sx w s n ws) (ht : Tab64 w) (hg : 0 < w.heap.size) :
    Calls Tryd.prog 51 #[.pointer (some ⟨s, 0, none⟩)] w fun e w' => RowE w.heap.size (bitsI ws) e w' ∧ Below w.heap.size w w' := by
  have H := Lib.hid h
  have HT := Lib.hid ht
  have B0 := Lib.hid (Below.refl w.heap.size w)
  have HG := Lib.hid hg
  clear h ht hg
  go_enter Tryd.func51, Tryd.ntmps51
  go_wp2_with (go_at_call 82; refine (next_any H.out HT.out 0 (by omega)).mono ?_; rintro e w' ⟨⟨v, rfl, hv⟩, rfl⟩; have HV := Lib.hid (alli_start hv); clear hv)
  go_loopw [3, 4] (fun a b wr => ∃ (l : List Int) (v : Int), b = .int .i64 v ∧ Hid (IRow w.heap.size wr a l) ∧ Hid (AllI ws l v) ∧ Hid (Below w.heap.size w wr)) (fun _ b _ => if intOf b < 0 then 0 else 2049 - (intOf b).toNat)
  case atStart => exact ⟨[], v, rfl, Lib.hid (IRow.nil _ _), HV, B0⟩
  case round =>
    clear HV B0
    obtain ⟨l, v, rfl, HR, HV, B0⟩ := hrel
    rcases HV.out with ⟨rfl, hl⟩ | ⟨m, rfl, hm, hb, hl⟩
    · subst hl
      clear HV
      go_wp2_with fail
      go_ret
      exact ⟨⟨_, rfl, HR.out⟩, B0.out⟩
    · have HM := Lib.hid hm
      have HB := Lib.hid hb
      have HL := Lib.hid hl
      have hll := alli_len hm hl
      have HLL := Lib.hid (show l.length + 1 ≤ 1000000 by omega)
      clear HV hm hb hl hll
      have hm0 : (0 : Int) ≤ (m : Int) := by omega
      have hm1 : (m : Int) ≤ 2047 := by have := HM.out; omega
      go_wp2_with (first
        | (at_builtin; refine wpList_append_num rfl _ _ (by rfl) w.heap.size w _ l (m : Int) (by rfl) HR.out (by rfl) HLL.out B0.out B0.out.size ?_; intro v' w1 hr1 hb1 hgrow; have HR1 := Lib.hid hr1; have HB1 := Lib.hid hb1; clear hr1 hb1 hgrow)
        | (go_at_call 82; refine (next_any (i := m + 1) (H.out.below HB1.out) (HT.out.below HB1.out HG.out) (by have := HM.out; omega)).mono ?_; rintro e w2 ⟨⟨v2, rfl, hv2⟩, rfl⟩; have HV2 := Lib.hid (alli_next HM.out HB.out HL.out hv2); have HN2 := Lib.hid hv2; clear hv2))
      go_roundw
      case rel => exact ⟨l ++ [(m : Int)], v2, rfl, HR1, HV2, HB1⟩
      case measure =>
        have e1 : ¬ ((m : Int) < 0) := by omega
        have hm2 := HM.out
        rcases HN2.out with ⟨rfl, _⟩ | ⟨k, rfl, hk, _⟩
        · simp only [intOf, e1, if_false, Int.toNat_natCast]
          exact (show (0 : Nat) < 2049 - m by omega)
        · have e2 : ¬ ((k : Int) < 0) := by omega
          simp only [intOf, e1, e2, if_false, Int.toNat_natCast]; omega
/-- A set of no numbers. -/
theorem zero_bits (j : Nat) : bit (List.replicate 32 0#64) j = false := by
  unfold bit
  rw [List.getD_eq_getElem?_getD, List.getElem?_replicate]
  split <;> simp
set_option maxRecDepth 100000 in
theorem snew_any (n : Int) (w : World) :
    Calls Tryd.prog 33 #[.int .i64 n] w fun e w' => e = .returned (.pointer (some ⟨w.heap.size, 0, none⟩)) ∧ Sx w' w.heap.size (clampN n 0 2048).toNat (List.replicate 32 0#64) ∧ Below w.heap.size w w' := by
  have hb := clampN_bd (a := n) (lo := 0) (hi := 2048) (by omega)
  obtain ⟨k, hk⟩ := Int.eq_ofNat_of_zero_le hb.1
  have HK := Lib.hid hk
  have HB := Lib.hid hb
  clear hk hb
  go_enter Tryd.func33, Tryd.ntmps33
  go_wp2_with (go_at_call 70; refine (clampn_any n 0 2048 _).mono ?_; rw [HK.out]; rintro e w' ⟨rfl, rfl⟩)
  go_ret
  refine ⟨rfl, ⟨?_, rfl, ?_, fun j _ _ => zero_bits j⟩, below_alloc0 _ _⟩
  · rw [heap_alloc_new, HK.out]
    rfl
  · have := HB.out; rw [HK.out] at this ⊢; omega
end Go.Proofs.YtfocdbflmodfhaaDoor
