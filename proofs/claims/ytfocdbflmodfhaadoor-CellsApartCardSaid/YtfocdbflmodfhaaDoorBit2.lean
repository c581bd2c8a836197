/- Sets: added, removed. -/
import Derived.Test.YtfocdbflmodfhaaDoorBit1
import Derived.IntWalk
namespace Go.Proofs.YtfocdbflmodfhaaDoor
open Go.RowKit

def addB (n : Nat) (ws : List (BitVec 64)) (i : Int) : Bool := inB n i && !bit ws i.toNat
def addL (n : Nat) (ws : List (BitVec 64)) (i : Int) : List (BitVec 64) := if addB n ws i = true then bitOn ws i.toNat else ws
def remL (n : Nat) (ws : List (BitVec 64)) (i : Int) : List (BitVec 64) := if hasB n ws i = true then bitOff ws i.toNat else ws
theorem or_word (x : BitVec 64) (r : Nat) (hr : r < 64) : bits .or .u64 (x.toNat : Int) (IntKind.u64.wrap (2 ^ r)) = ((x ||| (1#64 <<< r)).toNat : Int) := by
  rw [← Int.one_mul (2 ^ r), shl_one r hr, or_words]
theorem andnot_word (x : BitVec 64) (r : Nat) (hr : r < 64) : bits .andNot .u64 (x.toNat : Int) (IntKind.u64.wrap (2 ^ r)) = ((x &&& ~~~(1#64 <<< r)).toNat : Int) := by
  rw [← Int.one_mul (2 ^ r), shl_one r hr, andnot_words]
set_option maxHeartbeats 2000000 in
set_option maxRecDepth 100000 in
theorem add_no {w : World} {s n : Nat} {ws : List (BitVec 64)} (h : Sx w s n ws) (i : Int) (hb : addB n ws i = false) :
    Calls Tryd.prog 39 #[.pointer (some ⟨s, 0, none⟩), .int .i64 i] w fun e w' => e = .returned (.bool false) ∧ w = w' := by
  have H := Lib.hid h
  cases hi : inB n i with
  | false =>
    have HI := Lib.hid hi
    clear h hi hb
    go_enter Tryd.func39, Tryd.ntmps39
    go_wp2_with (go_at_call 77; refine (sin_any H.out i).mono ?_; rw [HI.out]; rintro e w' ⟨rfl, rfl⟩)
    go_ret
    exact ⟨rfl, rfl⟩
  | true =>
    have HI := Lib.hid hi
    have HB := Lib.hid (show hasB n ws i = true by simp [addB, hi] at hb; simp [hasB, hi, hb])
    clear h hi hb
    go_enter Tryd.func39, Tryd.ntmps39
    go_wp2_with (first | (go_at_call 77; refine (sin_any H.out i).mono ?_; rw [HI.out]; rintro e w' ⟨rfl, rfl⟩) | (go_at_call 67; refine (has_any H.out i).mono ?_; rw [HB.out]; rintro e w' ⟨rfl, rfl⟩))
    go_ret
    exact ⟨rfl, rfl⟩
set_option maxHeartbeats 2000000 in
set_option maxRecDepth 100000 in
theorem add_yes {w : World} {s n : Nat} {ws : List (BitVec 64)} (h : Sx w s n ws) (i : Int) (hb : addB n ws i = true) :
    Calls Tryd.prog 39 #[.pointer (some ⟨s, 0, none⟩), .int .i64 i] w fun e w' => e = .returned (.bool true) ∧ Sx w' s n (bitOn ws i.toNat) ∧ Frm [s] w w' := by
  have H := Lib.hid h
  have hd := hb
  simp only [addB, inB, Bool.and_eq_true, decide_eq_true_eq, Bool.not_eq_true'] at hd
  obtain ⟨⟨hd0, hd1⟩, hd2⟩ := hd
  obtain ⟨j, rfl⟩ := Int.eq_ofNat_of_zero_le hd0
  rw [Int.toNat_natCast] at hd2 ⊢
  have hin : inB n j = true := by simp [inB]; omega
  have HI := Lib.hid hin
  have HB := Lib.hid (show hasB n ws j = false by simp [hasB, hd2])
  have hn := h.le
  have hq : ((j : Int) / 64) = ((j / 64 : Nat) : Int) := by norm_cast
  have hr : ((j : Int) % 64) = ((j % 64 : Nat) : Int) := by norm_cast
  have hq2 : j / 64 < 32 := by omega
  have hr2 : j % 64 < 64 := by omega
  have cw := h.word hq2
  have ho := or_word (ws.getD (j / 64) 0#64) (j % 64) hr2
  have HT := Lib.hid (show ∀ k, n ≤ k → k < 2048 → bit (bitOn ws j) k = false from fun k h1 h2 => by rw [bitOn_get h.len (by omega), h.top k h1 h2]; simp; omega)
  have HL : Hid (bitOn ws j = ws.set (j / 64) (ws.getD (j / 64) 0#64 ||| (1#64 <<< (j % 64)))) := Lib.hid rfl
  obtain ⟨q, e1⟩ : ∃ q, q = j / 64 := ⟨_, rfl⟩
  obtain ⟨r, e2⟩ : ∃ r, r = j % 64 := ⟨_, rfl⟩
  rw [← e1] at hq cw ho hq2 HL
  rw [← e2] at hr ho hr2 HL
  have hr64 : (r : Int) ≤ 64 := by omega
  have hq32 : (q : Int) < 32 := by omega
  have hq0 : (0 : Int) ≤ (q : Int) := by omega
  have hr0 : (0 : Int) ≤ (r : Int) := by omega
  have hwq : IntKind.i64.wrap (q : Int) = q := IntWalk.i64_in _ (by omega)
  have hwr : IntKind.i64.wrap (r : Int) = r := IntWalk.i64_in _ (by omega)
  have htr : (j : Int).tmod 64 = r := by rw [Int.tmod_eq_emod_of_nonneg (by omega)]; exact hr
  obtain ⟨x, hx⟩ : ∃ x, x = ws.getD q 0#64 := ⟨_, rfl⟩
  rw [← hx] at cw ho HL
  have cw' : w.cell? ⟨s, 2 + q, none⟩ = some (.int .u64 x.toNat) := cw
  have fz := frozen_of_row w s (2 + q) _ _ h.hd
  obtain ⟨y, hy⟩ : ∃ y, y = x ||| 1#64 <<< r := ⟨_, rfl⟩
  rw [← hy] at ho HL
  clear h hb hd0 hd1 hd2 hin cw hx hy e1 e2 hn
  go_enter Tryd.func39, Tryd.ntmps39
  go_wp2_with (first | (go_at_call 77; refine (sin_any H.out j).mono ?_; rw [HI.out]; rintro e w' ⟨rfl, rfl⟩) | (go_at_call 67; refine (has_any H.out j).mono ?_; rw [HB.out]; rintro e w' ⟨rfl, rfl⟩))
  refine region_tail 14 (by kernel_rfl) (by kernel_rfl) ?_
  simp only [List.take_succ_cons, List.take_zero, List.drop_succ_cons, List.drop_zero]
  repeat still_step
  refine wpStill_nil ?_
  go_wp2_with fail
  go_ret
  exact ⟨rfl, by have ht := HT.out; rw [HL.out] at ht ⊢; exact (H.out.put y ht).below (Below.refl _ _).drew, (Frm.setCell w (by simp) _).trans (Frm.of_below [s] (Below.refl _ _).drew) (fun x hx => .inl hx)⟩
theorem add_any {w : World} {s n : Nat} {ws : List (BitVec 64)} (h : Sx w s n ws) (i : Int) :
    Calls Tryd.prog 39 #[.pointer (some ⟨s, 0, none⟩), .int .i64 i] w fun e w' => e = .returned (.bool (addB n ws i)) ∧ Sx w' s n (addL n ws i) ∧ Frm [s] w w' := by
  unfold addL
  cases hb : addB n ws i with
  | false => exact (add_no h i hb).mono fun e w' ⟨he, hw⟩ => ⟨he, by subst hw; exact h, by subst hw; exact Frm.refl _ _⟩
  | true => exact (add_yes h i hb).mono fun e w' ⟨he, hs, hf⟩ => ⟨he, hs, hf⟩
set_option maxHeartbeats 2000000 in
set_option maxRecDepth 100000 in
theorem rem_no {w : World} {s n : Nat} {ws : List (BitVec 64)} (h : Sx w s n ws) (i : Int) (hb : hasB n ws i = false) :
    Calls Tryd.prog 44 #[.pointer (some ⟨s, 0, none⟩), .int .i64 i] w fun e w' => e = .returned (.bool false) ∧ w = w' := by
  have H := Lib.hid h
  have HB := Lib.hid hb
  clear h hb
  go_enter Tryd.func44, Tryd.ntmps44
  go_wp2_with (go_at_call 67; refine (has_any H.out i).mono ?_; rw [HB.out]; rintro e w' ⟨rfl, rfl⟩)
  go_ret
  exact ⟨rfl, rfl⟩
set_option maxHeartbeats 2000000 in
set_option maxRecDepth 100000 in
theorem rem_yes {w : World} {s n : Nat} {ws : List (BitVec 64)} (h : Sx w s n ws) (i : Int) (hb : hasB n ws i = true) :
    Calls Tryd.prog 44 #[.pointer (some ⟨s, 0, none⟩), .int .i64 i] w fun e w' => e = .returned (.bool true) ∧ Sx w' s n (bitOff ws i.toNat) ∧ Frm [s] w w' := by
  have H := Lib.hid h
  have HB := Lib.hid hb
  have hd := hb
  simp only [hasB, inB, Bool.and_eq_true, decide_eq_true_eq] at hd
  obtain ⟨⟨hd0, hd1⟩, hd2⟩ := hd
  obtain ⟨j, rfl⟩ := Int.eq_ofNat_of_zero_le hd0
  rw [Int.toNat_natCast]
  have hn := h.le
  have hq : ((j : Int) / 64) = ((j / 64 : Nat) : Int) := by norm_cast
  have hr : ((j : Int) % 64) = ((j % 64 : Nat) : Int) := by norm_cast
  have hq2 : j / 64 < 32 := by omega
  have hr2 : j % 64 < 64 := by omega
  have cw := h.word hq2
  have ho := andnot_word (ws.getD (j / 64) 0#64) (j % 64) hr2
  have HT := Lib.hid (show ∀ k, n ≤ k → k < 2048 → bit (bitOff ws j) k = false from fun k h1 h2 => by rw [bitOff_get h.len (by omega), h.top k h1 h2]; simp)
  have HL : Hid (bitOff ws j = ws.set (j / 64) (ws.getD (j / 64) 0#64 &&& ~~~(1#64 <<< (j % 64)))) := Lib.hid rfl
  obtain ⟨q, e1⟩ : ∃ q, q = j / 64 := ⟨_, rfl⟩
  obtain ⟨r, e2⟩ : ∃ r, r = j % 64 := ⟨_, rfl⟩
  rw [← e1] at hq cw ho hq2 HL
  rw [← e2] at hr ho hr2 HL
  have hr64 : (r : Int) ≤ 64 := by omega
  have hq32 : (q : Int) < 32 := by omega
  have hq0 : (0 : Int) ≤ (q : Int) := by omega
  have hr0 : (0 : Int) ≤ (r : Int) := by omega
  have hwq : IntKind.i64.wrap (q : Int) = q := IntWalk.i64_in _ (by omega)
  have hwr : IntKind.i64.wrap (r : Int) = r := IntWalk.i64_in _ (by omega)
  have htr : (j : Int).tmod 64 = r := by rw [Int.tmod_eq_emod_of_nonneg (by omega)]; exact hr
  obtain ⟨x, hx⟩ : ∃ x, x = ws.getD q 0#64 := ⟨_, rfl⟩
  rw [← hx] at cw ho HL
  have cw' : w.cell? ⟨s, 2 + q, none⟩ = some (.int .u64 x.toNat) := cw
  have fz := frozen_of_row w s (2 + q) _ _ h.hd
  obtain ⟨y, hy⟩ : ∃ y, y = x &&& ~~~(1#64 <<< r) := ⟨_, rfl⟩
  rw [← hy] at ho HL
  clear h hb hd0 hd1 hd2 cw hx hy e1 e2 hn
  go_enter Tryd.func44, Tryd.ntmps44
  go_wp2_with (go_at_call 67; refine (has_any H.out j).mono ?_; rw [HB.out]; rintro e w' ⟨rfl, rfl⟩)
  refine region_tail 14 (by kernel_rfl) (by kernel_rfl) ?_
  simp only [List.take_succ_cons, List.take_zero, List.drop_succ_cons, List.drop_zero]
  repeat still_step
  refine wpStill_nil ?_
  go_wp2_with fail
  go_ret
  exact ⟨rfl, by have ht := HT.out; rw [HL.out] at ht ⊢; exact (H.out.put y ht).below (Below.refl _ _).drew, (Frm.setCell w (by simp) _).trans (Frm.of_below [s] (Below.refl _ _).drew) (fun x hx => .inl hx)⟩
theorem rem_any {w : World} {s n : Nat} {ws : List (BitVec 64)} (h : Sx w s n ws) (i : Int) :
    Calls Tryd.prog 44 #[.pointer (some ⟨s, 0, none⟩), .int .i64 i] w fun e w' => e = .returned (.bool (hasB n ws i)) ∧ Sx w' s n (remL n ws i) ∧ Frm [s] w w' := by
  unfold remL
  cases hb : hasB n ws i with
  | false => exact (rem_no h i hb).mono fun e w' ⟨he, hw⟩ => ⟨he, by subst hw; exact h, by subst hw; exact Frm.refl _ _⟩
  | true => exact (rem_yes h i hb).mono fun e w' ⟨he, hs, hf⟩ => ⟨he, hs, hf⟩
end Go.Proofs.YtfocdbflmodfhaaDoor
