/- Sets of small numbers, as words of 64 bits. -/
import Derived.Test.YtfocdbflmodfhaaDoorQCR02
import Derived.Test.YtfocdbflmodfhaaDoorQCR03
import Derived.Test.YtfocdbflmodfhaaDoorProg
import Derived.IntWalk
import Derived.Shelf.Spec.TrailingZeros
namespace Go.Proofs.YtfocdbflmodfhaaDoor
open Go.RowKit

def u64 (x : BitVec 64) : Value := .int .u64 x.toNat
/-- Is a number in it? -/
def bit (ws : List (BitVec 64)) (i : Nat) : Bool := (ws.getD (i / 64) 0#64).getLsbD (i % 64)
def bitOn (ws : List (BitVec 64)) (i : Nat) : List (BitVec 64) := ws.set (i / 64) (ws.getD (i / 64) 0#64 ||| (1#64 <<< (i % 64)))
def bitOff (ws : List (BitVec 64)) (i : Nat) : List (BitVec 64) := ws.set (i / 64) (ws.getD (i / 64) 0#64 &&& ~~~(1#64 <<< (i % 64)))
theorem one_bit (r j : Nat) (hr : r < 64) (hj : j < 64) : (1#64 <<< r).getLsbD j = decide (j = r) := by
  rw [BitVec.getLsbD_shiftLeft]
  by_cases e : j = r
  · subst e; simp [hr]
  · simp only [e, decide_false, hj, decide_true, Bool.true_and]
    by_cases h : j < r
    · simp [h]
    · simp only [h, decide_false, Bool.not_false, Bool.true_and]
      have : j - r ≠ 0 := by omega
      simp [BitVec.getLsbD_one, this]
theorem bitOn_get {ws : List (BitVec 64)} {i : Nat} (hl : ws.length = 32) (hi : i < 2048) (j : Nat) : bit (bitOn ws i) j = (bit ws j || decide (j = i)) := by
  unfold bit bitOn
  by_cases e : i / 64 = j / 64
  · rw [e, getD_set_same (by omega), BitVec.getLsbD_or, one_bit _ _ (by omega) (by omega)]
    congr 1
    rw [decide_eq_decide]; omega
  · rw [getD_set_other e]
    have : ¬ j = i := by rintro rfl; exact e rfl
    simp [this]
theorem bitOff_get {ws : List (BitVec 64)} {i : Nat} (hl : ws.length = 32) (hi : i < 2048) (j : Nat) : bit (bitOff ws i) j = (bit ws j && !decide (j = i)) := by
  unfold bit bitOff
  by_cases e : i / 64 = j / 64
  · rw [e, getD_set_same (by omega), BitVec.getLsbD_and, BitVec.getLsbD_not, one_bit _ _ (by omega) (by omega)]
    have : (decide (j % 64 = i % 64)) = decide (j = i) := by rw [decide_eq_decide]; omega
    rw [this]
    have h64 : j % 64 < 64 := by omega
    simp [h64]
  · rw [getD_set_other e]
    have : ¬ j = i := by rintro rfl; exact e rfl
    simp [this]
theorem bitOn_len (ws : List (BitVec 64)) (i : Nat) : (bitOn ws i).length = ws.length := by simp [bitOn]
theorem bitOff_len (ws : List (BitVec 64)) (i : Nat) : (bitOff ws i).length = ws.length := by simp [bitOff]
/-- A set's block. -/
structure Sx (w : World) (s n : Nat) (ws : List (BitVec 64)) : Prop where
  hd : w.heap[s]? = some (.cells (.bool true :: .int .i64 n :: ws.map u64).toArray 95 (0, 0))
  len : ws.length = 32
  le : n ≤ 2048
  top : ∀ j, n ≤ j → j < 2048 → bit ws j = false
theorem Sx.keep {w w' : World} {s n : Nat} {ws : List (BitVec 64)} (h : Sx w s n ws) (h1 : w'.heap[s]? = w.heap[s]?) : Sx w' s n ws := ⟨h1.trans h.hd, h.len, h.le, h.top⟩
theorem Sx.below {w w' : World} {s n : Nat} {ws : List (BitVec 64)} (h : Sx w s n ws) (hb : Below w.heap.size w w') : Sx w' s n ws := h.keep (hb.block s (heap_lt h.hd))
theorem Sx.frm {w w' : World} {s n : Nat} {ws : List (BitVec 64)} {fp : List Nat} (h : Sx w s n ws) (hf : Frm fp w w') (h1 : s ∉ fp) : Sx w' s n ws := h.keep (hf.block s (heap_lt h.hd) h1)
theorem Sx.cells {w : World} {s n : Nat} {ws : List (BitVec 64)} (h : Sx w s n ws) : w.cell? ⟨s, 0, none⟩ = some (.bool true) ∧ w.cell? ⟨s, 1, none⟩ = some (.int .i64 n) :=
  ⟨cell_of_row _ _ _ _ _ _ h.hd, cell_of_row _ _ _ _ _ _ h.hd⟩
theorem Sx.word {w : World} {s n : Nat} {ws : List (BitVec 64)} (h : Sx w s n ws) {q : Nat} (hq : q < 32) : w.cell? ⟨s, 2 + q, none⟩ = some (u64 (ws.getD q 0#64)) := by
  have hl := h.len
  rw [cell_of_row _ _ _ _ _ _ h.hd, show 2 + q = q + 1 + 1 by omega]
  simp [List.getD_eq_getElem?_getD, List.getElem?_eq_getElem (show q < ws.length by omega)]
theorem Sx.put {w : World} {s n : Nat} {ws : List (BitVec 64)} (h : Sx w s n ws) {q : Nat} (x : BitVec 64) (ht : ∀ j, n ≤ j → j < 2048 → bit (ws.set q x) j = false) : Sx (w.setCell ⟨s, 2 + q, none⟩ (.int .u64 x.toNat)) s n (ws.set q x) := by
  refine ⟨?_, by simpa using h.len, h.le, ht⟩
  rw [heap_setCell_same w s (2 + q) _ _ _ h.hd, show 2 + q = q + 1 + 1 by omega]
  simp [List.map_set, u64]
/-- What the machine's words on whole numbers come to. -/
theorem shr_and (x : BitVec 64) (r : Nat) : bits .and .u64 ((x.toNat : Int) / 2 ^ r) 1 = if x.getLsbD r then 1 else 0 := by
  have e : ((x.toNat : Int) / 2 ^ r) = ((x.toNat / 2 ^ r : Nat) : Int) := by norm_cast
  rw [e]
  have h1 : x.toNat / 2 ^ r < 2 ^ 64 := Nat.lt_of_le_of_lt (Nat.div_le_self _ _) x.isLt
  have h2 := (bits_nat .u64 64 (by decide) (fun n h0 h1 => by simp [IntKind.wrap, IntKind.bits, IntKind.signed]; omega) (x.toNat / 2 ^ r) 1 h1 (by decide)).1
  rw [show ((1 : Nat) : Int) = 1 from rfl] at h2
  rw [h2, Nat.and_one_is_mod, BitVec.getLsbD, Nat.testBit_eq_decide_div_mod_eq]
  have := Nat.mod_two_eq_zero_or_one (x.toNat / 2 ^ r)
  rcases this with h | h <;> simp [h]
theorem u64_wrap (n : Nat) (h : n < 2 ^ 64) : IntKind.u64.wrap (n : Int) = n := by
  simp [IntKind.wrap, IntKind.bits, IntKind.signed]; omega
theorem shl_one (r : Nat) (hr : r < 64) : IntKind.u64.wrap (1 * 2 ^ r) = (((1#64 <<< r) : BitVec 64).toNat : Int) := by
  have h1 : (2 : Nat) ^ r < 2 ^ 64 := Nat.pow_lt_pow_right (by decide) hr
  rw [Int.one_mul, show ((2 : Int) ^ r) = ((2 ^ r : Nat) : Int) by norm_cast, u64_wrap _ h1]
  simp [BitVec.toNat_shiftLeft, Nat.shiftLeft_eq, Nat.mod_eq_of_lt h1]
theorem or_words (x y : BitVec 64) : bits .or .u64 (x.toNat : Int) (y.toNat : Int) = ((x ||| y).toNat : Int) := by
  rw [(bits_nat .u64 64 (by decide) (fun n h0 h1 => by simp [IntKind.wrap, IntKind.bits, IntKind.signed]; omega) x.toNat y.toNat x.isLt y.isLt).2, BitVec.toNat_or]
theorem andnot_words (x y : BitVec 64) : bits .andNot .u64 (x.toNat : Int) (y.toNat : Int) = ((x &&& ~~~y).toNat : Int) := by
  simp only [bits, BitVec.ofInt_natCast, BitVec.ofNat_toNat, IntKind.bits]
  rw [BitVec.setWidth_eq, BitVec.setWidth_eq]
  exact u64_wrap _ (BitVec.isLt _)
end Go.Proofs.YtfocdbflmodfhaaDoor

/- What the functions of package bitmap come to. -/
namespace Go.Proofs.YtfocdbflmodfhaaDoor
open Go.RowKit

def inB (n : Nat) (i : Int) : Bool := decide (0 ≤ i ∧ i < n)
set_option maxHeartbeats 1000000 in
theorem sin_any {w : World} {s n : Nat} {ws : List (BitVec 64)} (h : Sx w s n ws) (i : Int) :
    Calls Tryd.prog 77 #[.pointer (some ⟨s, 0, none⟩), .int .i64 i] w fun e w' => e = .returned (.bool (inB n i)) ∧ w = w' := by
  obtain ⟨c0, c1⟩ := h.cells
  clear h
  by_cases h0 : i < 0
  · have hs := Lib.hid (show inB n i = false by simp [inB]; omega)
    have d0 : decide (0 ≤ i) = false := by simp; omega
    go_enter Tryd.func77, Tryd.ntmps77
    go_wp2_with fail
    go_ret
    exact ⟨ret_bool hs.out.symm, rfl⟩
  · have h0' : 0 ≤ i := by omega
    have hs := Lib.hid (show inB n i = decide (i < n) by simp [inB, h0'])
    go_enter Tryd.func77, Tryd.ntmps77
    go_wp2_with fail
    go_ret
    exact ⟨ret_bool hs.out.symm, rfl⟩
/-- Is it in it? -/
def hasB (n : Nat) (ws : List (BitVec 64)) (i : Int) : Bool := inB n i && bit ws i.toNat
set_option maxHeartbeats 1000000 in
theorem has_any {w : World} {s n : Nat} {ws : List (BitVec 64)} (h : Sx w s n ws) (i : Int) :
    Calls Tryd.prog 67 #[.pointer (some ⟨s, 0, none⟩), .int .i64 i] w fun e w' => e = .returned (.bool (hasB n ws i)) ∧ w = w' := by
  have H := Lib.hid h
  cases hi : inB n i with
  | false =>
    have hs := Lib.hid (show hasB n ws i = false by simp [hasB, hi])
    have HI := Lib.hid hi
    clear h hi
    go_enter Tryd.func67, Tryd.ntmps67
    go_wp2_with (go_at_call 77; refine (sin_any H.out i).mono ?_; rw [HI.out]; rintro e w' ⟨rfl, rfl⟩)
    go_ret
    exact ⟨ret_bool hs.out.symm, rfl⟩
  | true =>
    have hd := hi
    simp only [inB, decide_eq_true_eq] at hd
    obtain ⟨j, rfl⟩ := Int.eq_ofNat_of_zero_le hd.1
    have hn := h.le
    have hq : ((j : Int) / 64) = ((j / 64 : Nat) : Int) := by norm_cast
    have hr : ((j : Int) % 64) = ((j % 64 : Nat) : Int) := by norm_cast
    have cw := h.word (q := j / 64) (by omega)
    have hs := show hasB n ws j = (ws.getD (j / 64) 0#64).getLsbD (j % 64) by simp [hasB, hi, bit]
    obtain ⟨q, e1⟩ : ∃ q, q = j / 64 := ⟨_, rfl⟩
    obtain ⟨r, e2⟩ : ∃ r, r = j % 64 := ⟨_, rfl⟩
    rw [← e1] at hq cw hs
    rw [← e2] at hr hs
    have hr64 : (r : Int) ≤ 64 := by omega
    have hq32 : (q : Int) < 32 := by omega
    obtain ⟨x, hx⟩ : ∃ x, x = ws.getD q 0#64 := ⟨_, rfl⟩
    rw [← hx] at cw hs
    have cw' : w.cell? ⟨s, 2 + q, none⟩ = some (.int .u64 x.toNat) := cw
    have HA := shr_and x r
    have hs' := Lib.hid hs
    have HI := Lib.hid hi
    clear h hi hd hs cw hx e1 e2 hn
    cases hb : x.getLsbD r with
    | true =>
      rw [hb, if_pos rfl] at HA
      rw [hb] at hs'
      clear hb
      go_enter Tryd.func67, Tryd.ntmps67
      go_wp2_with (go_at_call 77; refine (sin_any H.out j).mono ?_; rw [HI.out]; rintro e w' ⟨rfl, rfl⟩)
      go_ret
      exact ⟨ret_bool hs'.out.symm, rfl⟩
    | false =>
      rw [hb] at HA hs'
      simp only [Bool.false_eq_true, if_false] at HA
      clear hb
      go_enter Tryd.func67, Tryd.ntmps67
      go_wp2_with (go_at_call 77; refine (sin_any H.out j).mono ?_; rw [HI.out]; rintro e w' ⟨rfl, rfl⟩)
      go_ret
      exact ⟨ret_bool hs'.out.symm, rfl⟩
end Go.Proofs.YtfocdbflmodfhaaDoor

/- Sets: added, removed. -/
namespace Go.Proofs.YtfocdbflmodfhaaDoor
open Go.RowKit

def addB (n : Nat) (ws : List (BitVec 64)) (i : Int) : Bool := inB n i && !bit ws i.toNat
def addL (n : Nat) (ws : List (BitVec 64)) (i : Int) : List (BitVec 64) := if addB n ws i = true then bitOn ws i.toNat else ws
def remL (n : Nat) (ws : List (BitVec 64)) (i : Int) : List (BitVec 64) := if hasB n ws i = true then bitOff ws i.toNat else ws
theorem or_word (x : BitVec 64) (r : Nat) (hr : r < 64) : bits .or .u64 (x.toNat : Int) (IntKind.u64.wrap (2 ^ r)) = ((x ||| (1#64 <<< r)).toNat : Int) := by
  rw [← Int.one_mul (2 ^ r), shl_one r hr, or_words]
theorem andnot_word (x : BitVec 64) (r : Nat) (hr : r < 64) : bits .andNot .u64 (x.toNat : Int) (IntKind.u64.wrap (2 ^ r)) = ((x &&& ~~~(1#64 <<< r)).toNat : Int) := by
  rw [← Int.one_mul (2 ^ r), shl_one r hr, andnot_words]
set_option maxHeartbeats 2000000 in
set_option maxRecDepth 100000 in
theorem add_no {w : World} {s n : Nat} {ws : List (BitVec 64)} (h : Sx w s n ws) (i : Int) (hb : addB n ws i = false) :
    Calls Tryd.prog 39 #[.pointer (some ⟨s, 0, none⟩), .int .i64 i] w fun e w' => e = .returned (.bool false) ∧ w = w' := by
  have H := Lib.hid h
  cases hi : inB n i with
  | false =>
    have HI := Lib.hid hi
    clear h hi hb
    go_enter Tryd.func39, Tryd.ntmps39
    go_wp2_with (go_at_call 77; refine (sin_any H.out i).mono ?_; rw [HI.out]; rintro e w' ⟨rfl, rfl⟩)
    go_ret
    exact ⟨rfl, rfl⟩
  | true =>
    have HI := Lib.hid hi
    have HB := Lib.hid (show hasB n ws i = true by simp [addB, hi] at hb; simp [hasB, hi, hb])
    clear h hi hb
    go_enter Tryd.func39, Tryd.ntmps39
    go_wp2_with (first | (go_at_call 77; refine (sin_any H.out i).mono ?_; rw [HI.out]; rintro e w' ⟨rfl, rfl⟩) | (go_at_call 67; refine (has_any H.out i).mono ?_; rw [HB.out]; rintro e w' ⟨rfl, rfl⟩))
    go_ret
    exact ⟨rfl, rfl⟩
set_option maxHeartbeats 2000000 in
set_option maxRecDepth 100000 in
theorem add_yes {w : World} {s n : Nat} {ws : List (BitVec 64)} (h : Sx w s n ws) (i : Int) (hb : addB n ws i = true) :
    Calls Tryd.prog 39 #[.pointer (some ⟨s, 0, none⟩), .int .i64 i] w fun e w' => e = .returned (.bool true) ∧ Sx w' s n (bitOn ws i.toNat) ∧ Frm [s] w w' := by
  have H := Lib.hid h
  have hd := hb
  simp only [addB, inB, Bool.and_eq_true, decide_eq_true_eq, Bool.not_eq_true'] at hd
  obtain ⟨⟨hd0, hd1⟩, hd2⟩ := hd
  obtain ⟨j, rfl⟩ := Int.eq_ofNat_of_zero_le hd0
  rw [Int.toNat_natCast] at hd2 ⊢
  have hin : inB n j = true := by simp [inB]; omega
  have HI := Lib.hid hin
  have HB := Lib.hid (show hasB n ws j = false by simp [hasB, hd2])
  have hn := h.le
  have hq : ((j : Int) / 64) = ((j / 64 : Nat) : Int) := by norm_cast
  have hr : ((j : Int) % 64) = ((j % 64 : Nat) : Int) := by norm_cast
  have hq2 : j / 64 < 32 := by omega
  have hr2 : j % 64 < 64 := by omega
  have cw := h.word hq2
  have ho := or_word (ws.getD (j / 64) 0#64) (j % 64) hr2
  have HT := Lib.hid (show ∀ k, n ≤ k → k < 2048 → bit (bitOn ws j) k = false from fun k h1 h2 => by rw [bitOn_get h.len (by omega), h.top k h1 h2]; simp; omega)
  have HL : Hid (bitOn ws j = ws.set (j / 64) (ws.getD (j / 64) 0#64 ||| (1#64 <<< (j % 64)))) := Lib.hid rfl
  obtain ⟨q, e1⟩ : ∃ q, q = j / 64 := ⟨_, rfl⟩
  obtain ⟨r, e2⟩ : ∃ r, r = j % 64 := ⟨_, rfl⟩
  rw [← e1] at hq cw ho hq2 HL
  rw [← e2] at hr ho hr2 HL
  have hr64 : (r : Int) ≤ 64 := by omega
  have hq32 : (q : Int) < 32 := by omega
  have hq0 : (0 : Int) ≤ (q : Int) := by omega
  have hr0 : (0 : Int) ≤ (r : Int) := by omega
  have hwq : IntKind.i64.wrap (q : Int) = q := IntWalk.i64_in _ (by omega)
  have hwr : IntKind.i64.wrap (r : Int) = r := IntWalk.i64_in _ (by omega)
  have htr : (j : Int).tmod 64 = r := by rw [Int.tmod_eq_emod_of_nonneg (by omega)]; exact hr
  obtain ⟨x, hx⟩ : ∃ x, x = ws.getD q 0#64 := ⟨_, rfl⟩
  rw [← hx] at cw ho HL
  have cw' : w.cell? ⟨s, 2 + q, none⟩ = some (.int .u64 x.toNat) := cw
  have fz := frozen_of_row w s (2 + q) _ _ h.hd
  obtain ⟨y, hy⟩ : ∃ y, y = x ||| 1#64 <<< r := ⟨_, rfl⟩
  rw [← hy] at ho HL
  clear h hb hd0 hd1 hd2 hin cw hx hy e1 e2 hn
  go_enter Tryd.func39, Tryd.ntmps39
  go_wp2_with (first | (go_at_call 77; refine (sin_any H.out j).mono ?_; rw [HI.out]; rintro e w' ⟨rfl, rfl⟩) | (go_at_call 67; refine (has_any H.out j).mono ?_; rw [HB.out]; rintro e w' ⟨rfl, rfl⟩))
  refine region_tail 14 (by kernel_rfl) (by kernel_rfl) ?_
  simp only [List.take_succ_cons, List.take_zero, List.drop_succ_cons, List.drop_zero]
  repeat still_step
  refine wpStill_nil ?_
  go_wp2_with fail
  go_ret
  exact ⟨rfl, by have ht := HT.out; rw [HL.out] at ht ⊢; exact (H.out.put y ht).below (Below.refl _ _).drew, (Frm.setCell w (by simp) _).trans (Frm.of_below [s] (Below.refl _ _).drew) (fun x hx => .inl hx)⟩
theorem add_any {w : World} {s n : Nat} {ws : List (BitVec 64)} (h : Sx w s n ws) (i : Int) :
    Calls Tryd.prog 39 #[.pointer (some ⟨s, 0, none⟩), .int .i64 i] w fun e w' => e = .returned (.bool (addB n ws i)) ∧ Sx w' s n (addL n ws i) ∧ Frm [s] w w' := by
  unfold addL
  cases hb : addB n ws i with
  | false => exact (add_no h i hb).mono fun e w' ⟨he, hw⟩ => ⟨he, by subst hw; exact h, by subst hw; exact Frm.refl _ _⟩
  | true => exact (add_yes h i hb).mono fun e w' ⟨he, hs, hf⟩ => ⟨he, hs, hf⟩
set_option maxHeartbeats 2000000 in
set_option maxRecDepth 100000 in
theorem rem_no {w : World} {s n : Nat} {ws : List (BitVec 64)} (h : Sx w s n ws) (i : Int) (hb : hasB n ws i = false) :
    Calls Tryd.prog 44 #[.pointer (some ⟨s, 0, none⟩), .int .i64 i] w fun e w' => e = .returned (.bool false) ∧ w = w' := by
  have H := Lib.hid h
  have HB := Lib.hid hb
  clear h hb
  go_enter Tryd.func44, Tryd.ntmps44
  go_wp2_with (go_at_call 67; refine (has_any H.out i).mono ?_; rw [HB.out]; rintro e w' ⟨rfl, rfl⟩)
  go_ret
  exact ⟨rfl, rfl⟩
set_option maxHeartbeats 2000000 in
set_option maxRecDepth 100000 in
theorem rem_yes {w : World} {s n : Nat} {ws : List (BitVec 64)} (h : Sx w s n ws) (i : Int) (hb : hasB n ws i = true) :
    Calls Tryd.prog 44 #[.pointer (some ⟨s, 0, none⟩), .int .i64 i] w fun e w' => e = .returned (.bool true) ∧ Sx w' s n (bitOff ws i.toNat) ∧ Frm [s] w w' := by
  have H := Lib.hid h
  have HB := Lib.hid hb
  have hd := hb
  simp only [hasB, inB, Bool.and_eq_true, decide_eq_true_eq] at hd
  obtain ⟨⟨hd0, hd1⟩, hd2⟩ := hd
  obtain ⟨j, rfl⟩ := Int.eq_ofNat_of_zero_le hd0
  rw [Int.toNat_natCast]
  have hn := h.le
  have hq : ((j : Int) / 64) = ((j / 64 : Nat) : Int) := by norm_cast
  have hr : ((j : Int) % 64) = ((j % 64 : Nat) : Int) := by norm_cast
  have hq2 : j / 64 < 32 := by omega
  have hr2 : j % 64 < 64 := by omega
  have cw := h.word hq2
  have ho := andnot_word (ws.getD (j / 64) 0#64) (j % 64) hr2
  have HT := Lib.hid (show ∀ k, n ≤ k → k < 2048 → bit (bitOff ws j) k = false from fun k h1 h2 => by rw [bitOff_get h.len (by omega), h.top k h1 h2]; simp)
  have HL : Hid (bitOff ws j = ws.set (j / 64) (ws.getD (j / 64) 0#64 &&& ~~~(1#64 <<< (j % 64)))) := Lib.hid rfl
  obtain ⟨q, e1⟩ : ∃ q, q = j / 64 := ⟨_, rfl⟩
  obtain ⟨r, e2⟩ : ∃ r, r = j % 64 := ⟨_, rfl⟩
  rw [← e1] at hq cw ho hq2 HL
  rw [← e2] at hr ho hr2 HL
  have hr64 : (r : Int) ≤ 64 := by omega
  have hq32 : (q : Int) < 32 := by omega
  have hq0 : (0 : Int) ≤ (q : Int) := by omega
  have hr0 : (0 : Int) ≤ (r : Int) := by omega
  have hwq : IntKind.i64.wrap (q : Int) = q := IntWalk.i64_in _ (by omega)
  have hwr : IntKind.i64.wrap (r : Int) = r := IntWalk.i64_in _ (by omega)
  have htr : (j : Int).tmod 64 = r := by rw [Int.tmod_eq_emod_of_nonneg (by omega)]; exact hr
  obtain ⟨x, hx⟩ : ∃ x, x = ws.getD q 0#64 := ⟨_, rfl⟩
  rw [← hx] at cw ho HL
  have cw' : w.cell? ⟨s, 2 + q, none⟩ = some (.int .u64 x.toNat) := cw
  have fz := frozen_of_row w s (2 + q) _ _ h.hd
  obtain ⟨y, hy⟩ : ∃ y, y = x &&& ~~~(1#64 <<< r) := ⟨_, rfl⟩
  rw [← hy] at ho HL
  clear h hb hd0 hd1 hd2 cw hx hy e1 e2 hn
  go_enter Tryd.func44, Tryd.ntmps44
  go_wp2_with (go_at_call 67; refine (has_any H.out j).mono ?_; rw [HB.out]; rintro e w' ⟨rfl, rfl⟩)
  refine region_tail 14 (by kernel_rfl) (by kernel_rfl) ?_
  simp only [List.take_succ_cons, List.take_zero, List.drop_succ_cons, List.drop_zero]
  repeat still_step
  refine wpStill_nil ?_
  go_wp2_with fail
  go_ret
  exact ⟨rfl, by have ht := HT.out; rw [HL.out] at ht ⊢; exact (H.out.put y ht).below (Below.refl _ _).drew, (Frm.setCell w (by simp) _).trans (Frm.of_below [s] (Below.refl _ _).drew) (fun x hx => .inl hx)⟩
theorem rem_any {w : World} {s n : Nat} {ws : List (BitVec 64)} (h : Sx w s n ws) (i : Int) :
    Calls Tryd.prog 44 #[.pointer (some ⟨s, 0, none⟩), .int .i64 i] w fun e w' => e = .returned (.bool (hasB n ws i)) ∧ Sx w' s n (remL n ws i) ∧ Frm [s] w w' := by
  unfold remL
  cases hb : hasB n ws i with
  | false => exact (rem_no h i hb).mono fun e w' ⟨he, hw⟩ => ⟨he, by subst hw; exact h, by subst hw; exact Frm.refl _ _⟩
  | true => exact (rem_yes h i hb).mono fun e w' ⟨he, hs, hf⟩ => ⟨he, hs, hf⟩
end Go.Proofs.YtfocdbflmodfhaaDoor

/- Sets: made; the next one; all of them. -/
namespace Go.Proofs.YtfocdbflmodfhaaDoor
open Go.RowKit

/-- math/bits' table, as the program's text lays it. -/
def Tab64 (w : World) : Prop := TabAt 0 Lib.deBruijn64tab w
theorem Tab64.below {B : Nat} {w w' : World} (h : Tab64 w) (hb : Below B w w') (hg : 0 < B) : Tab64 w' := fun j hj => (hb.cell (p := ⟨0, j, none⟩) hg).trans (h j hj)
theorem Tab64.frm {fp : List Nat} {w w' : World} (h : Tab64 w) (hf : Frm fp w w') (hg : 0 ∉ fp) : Tab64 w' := fun j hj => by
  have h1 := h j hj
  have hl := World.block_lt_of_cell? w _ h1
  unfold World.cell? at h1 ⊢
  rw [hf.block _ hl hg]
  exact h1
set_option maxHeartbeats 1000000 in
theorem tz_core (x k idx : Nat) (w : World) (hx0 : ((x : Int) == 0) = false)
    (key : IntKind.u64.wrap (bits BinOp.and IntKind.u64 (x : Int) (IntKind.u64.wrap (-(x : Int))) * 285870213051353865) / 288230376151711744 = (idx : Int))
    (hi : idx < 64) (hk : k < 64) (hcell : w.cell? ⟨0, idx, none⟩ = some (.int .u8 k)) :
    Calls Tryd.prog 94 #[.int .u64 x] w fun e w' => e = .returned (.int .i64 k) ∧ w = w' := by
  go_enter Tryd.func94, Tryd.ntmps94
  go_wp2_with (simp only [key])
  go_ret
  exact ⟨rfl, rfl⟩
theorem tz_any (x : Nat) (h0 : x ≠ 0) (hx : x < 18446744073709551616) (w : World) (ht : Tab64 w) :
    Calls Tryd.prog 94 #[.int .u64 x] w fun e w' => e = .returned (.int .i64 (Lib.ctz 64 x)) ∧ w = w' := by
  obtain ⟨hlow, hk⟩ := Lib.lowest_bit 64 x h0 hx
  obtain ⟨hi, htab⟩ := Lib.deBruijn64_at _ hk
  have hcell := ht _ hi
  rw [htab] at hcell
  exact tz_core x _ _ w (by simp; omega) (tz64_key x _ hx h0 hlow) hi hk hcell
theorem ctz_low {x : Nat} (h0 : x ≠ 0) (hx : x < 2 ^ 64) : Lib.ctz 64 x < 64 ∧ x.testBit (Lib.ctz 64 x) = true ∧ ∀ j, j < Lib.ctz 64 x → x.testBit j = false := by
  obtain ⟨m, hm, hk⟩ := Lib.ctzFrom_spec 64 x (by omega) hx
  have e : Lib.ctz 64 x = Lib.ctzFrom 64 x := by unfold Lib.ctz; rw [if_neg h0]
  rw [e]
  refine ⟨hk, ?_, fun j hj => ?_⟩
  · have h2 : (2 ^ Lib.ctzFrom 64 x * (2 * m + 1)).testBit (Lib.ctzFrom 64 x) = true := by
      rw [Nat.mul_comm, Nat.testBit_mul_two_pow]
      simp
    rw [← hm] at h2
    exact h2
  · have h2 : (2 ^ Lib.ctzFrom 64 x * (2 * m + 1)).testBit j = false := by
      rw [Nat.mul_comm, Nat.testBit_mul_two_pow]
      simp; omega
    rw [← hm] at h2
    exact h2
/-- The least one from a number on; -1: there is none. -/
def nextP (ws : List (BitVec 64)) (i : Nat) (v : Int) : Prop :=
  (v = -1 ∧ ∀ j, i ≤ j → j < 2048 → bit ws j = false) ∨ (∃ m : Nat, v = m ∧ i ≤ m ∧ m < 2048 ∧ bit ws m = true ∧ ∀ j, i ≤ j → j < m → bit ws j = false)
def NextE (ws : List (BitVec 64)) (i : Nat) (e : Ending) : Prop := ∃ v : Int, e = .returned (.int .i64 v) ∧ nextP ws i v
theorem rest_bit (x r j : Nat) : (x / 2 ^ r * 2 ^ r).testBit j = (decide (r ≤ j) && x.testBit j) := by
  rw [Nat.testBit_mul_two_pow]
  by_cases h : r ≤ j
  · rw [Nat.testBit_div_two_pow, show j - r + r = j by omega]
  · simp [h]
/-- What is left of a word. -/
def RestP (ws : List (BitVec 64)) (i k y : Nat) : Prop := y < 2 ^ 64 ∧ (∀ b, b < 64 → y.testBit b = (decide (i ≤ 64 * k + b) && bit ws (64 * k + b))) ∧ (∀ j, i ≤ j → j < 64 * k → bit ws j = false)
theorem rest_start (ws : List (BitVec 64)) (i : Nat) : RestP ws i (i / 64) ((ws.getD (i / 64) 0#64).toNat / 2 ^ (i % 64) * 2 ^ (i % 64)) := by
  refine ⟨Nat.lt_of_le_of_lt (Nat.div_mul_le_self _ _) (BitVec.isLt _), fun b hb => ?_, fun j h1 h2 => by omega⟩
  rw [rest_bit]
  unfold bit
  rw [show (64 * (i / 64) + b) / 64 = i / 64 by omega, show (64 * (i / 64) + b) % 64 = b by omega, BitVec.getLsbD]
  congr 1
  rw [decide_eq_decide]; omega
theorem rest_next {ws : List (BitVec 64)} {i k : Nat} (h : RestP ws i k 0) (hi : i < 64 * (k + 1)) : RestP ws i (k + 1) (ws.getD (k + 1) 0#64).toNat := by
  obtain ⟨-, h1, h2⟩ := h
  refine ⟨BitVec.isLt _, fun b hb => ?_, fun j h3 h4 => ?_⟩
  · have : decide (i ≤ 64 * (k + 1) + b) = true := by simp; omega
    rw [this, Bool.true_and]
    unfold bit
    rw [show (64 * (k + 1) + b) / 64 = k + 1 by omega, show (64 * (k + 1) + b) % 64 = b by omega, BitVec.getLsbD]
  · by_cases h5 : j < 64 * k
    · exact h2 j h3 h5
    · have := h1 (j - 64 * k) (by omega)
      rw [Nat.zero_testBit, show 64 * k + (j - 64 * k) = j by omega] at this
      simpa [h3] using this.symm
theorem rest_found {ws : List (BitVec 64)} {i k y : Nat} (h : RestP ws i k y) (h0 : y ≠ 0) (hk : k < 32) : nextP ws i ((k * 64 + Lib.ctz 64 y : Nat) : Int) := by
  obtain ⟨h1, h2, h3⟩ := h
  obtain ⟨c1, c2, c3⟩ := ctz_low h0 h1
  have h4 := h2 _ c1
  rw [c2] at h4
  have h5 := h4.symm
  rw [Bool.and_eq_true, decide_eq_true_eq] at h5
  refine .inr ⟨_, rfl, by omega, by omega, by rw [Nat.mul_comm]; exact h5.2, fun j hj1 hj2 => ?_⟩
  by_cases h6 : j < 64 * k
  · exact h3 j hj1 h6
  · have h7 := h2 (j - 64 * k) (by omega)
    rw [c3 _ (by omega), show 64 * k + (j - 64 * k) = j by omega] at h7
    simpa [hj1] using h7.symm
theorem rest_none {ws : List (BitVec 64)} {i : Nat} (h : RestP ws i 31 0) : nextP ws i (-1) := by
  obtain ⟨-, h1, h2⟩ := h
  refine .inl ⟨rfl, fun j h3 h4 => ?_⟩
  by_cases h5 : j < 64 * 31
  · exact h2 j h3 h5
  · have := h1 (j - 64 * 31) (by omega)
    rw [Nat.zero_testBit, show 64 * 31 + (j - 64 * 31) = j by omega] at this
    simpa [h3] using this.symm
set_option maxHeartbeats 2000000 in
set_option maxRecDepth 100000 in
theorem next_any {w : World} {s n : Nat} {ws : List (BitVec 64)} (h : Sx w s n ws) (ht : Tab64 w) (i : Nat) (hi : i ≤ 2048) :
    Calls Tryd.prog 82 #[.pointer (some ⟨s, 0, none⟩), .int .i64 i] w fun e w' => NextE ws i e ∧ w = w' := by
  obtain ⟨c0, c1⟩ := h.cells
  have hn := h.le
  by_cases hin : n ≤ i
  · have HN := Lib.hid (show nextP ws i (-1) from .inl ⟨rfl, fun j h1 h2 => h.top j (by omega) h2⟩)
    have hin' : (n : Int) ≤ i := by omega
    clear h hin
    go_enter Tryd.func82, Tryd.ntmps82
    go_wp2_with fail
    go_ret
    exact ⟨⟨_, rfl, HN.out⟩, rfl⟩
  · have hq : ((i : Int) / 64) = ((i / 64 : Nat) : Int) := by norm_cast
    have hr : ((i : Int) % 64) = ((i % 64 : Nat) : Int) := by norm_cast
    have hi64 : i / 64 < 32 := by omega
    have cw := h.word (q := i / 64) hi64
    have hs := rest_start ws i
    have hil : i < 64 * (i / 64 + 1) := by omega
    have hlt : (i : Int) < n := by omega
    have hi0 : (0 : Int) ≤ (i : Int) := by omega
    obtain ⟨q, e1⟩ : ∃ q, q = i / 64 := ⟨_, rfl⟩
    obtain ⟨r, e2⟩ : ∃ r, r = i % 64 := ⟨_, rfl⟩
    rw [← e1] at hq cw hs hi64 hil
    rw [← e2] at hr hs
    have hr64 : (r : Int) ≤ 64 := by omega
    have hq32 : (q : Int) < 32 := by omega
    obtain ⟨x, hx⟩ : ∃ x, x = ws.getD q 0#64 := ⟨_, rfl⟩
    rw [← hx] at cw hs
    have cw' : w.cell? ⟨s, 2 + q, none⟩ = some (.int .u64 x.toNat) := cw
    obtain ⟨y, hy⟩ : ∃ y, y = x.toNat / 2 ^ r * 2 ^ r := ⟨_, rfl⟩
    rw [← hy] at hs
    have hwy : IntKind.u64.wrap ((x.toNat : Int) / 2 ^ r * 2 ^ r) = y := by
      have e : ((x.toNat : Int) / 2 ^ r * 2 ^ r) = ((x.toNat / 2 ^ r * 2 ^ r : Nat) : Int) := by norm_cast
      rw [e, ← hy, u64_wrap y hs.1]
    have HS := Lib.hid hs
    have H := Lib.hid h
    have HT := Lib.hid ht
    have HIL := Lib.hid hil
    have HQ := Lib.hid hi64
    clear h hs cw hx hy e1 e2 ht hin hil hi64
    go_enter Tryd.func82, Tryd.ntmps82
    go_wp2_with fail
    go_loop [5, 6] (fun a b => ∃ (k z : Nat), k < 32 ∧ i < 64 * (k + 1) ∧ a = .int .u64 z ∧ b = .int .i64 k ∧ Hid (RestP ws i k z)) (fun _ b => 32 - (intOf b).toNat)
    case atStart => exact ⟨q, y, HQ.out, HIL.out, rfl, rfl, HS⟩
    case round =>
      clear HQ HIL HS hwy cw' hr64 hq32 hq hr
      obtain ⟨k, z, hk, hik, rfl, rfl, HS⟩ := hrel
      by_cases hz : z = 0
      · subst hz
        by_cases hk31 : k = 31
        · subst hk31
          have HN := Lib.hid (rest_none HS.out)
          go_wp2_with fail
          go_ret
          exact ⟨⟨_, rfl, HN.out⟩, rfl⟩
        · have hk1 : k + 1 < 32 := by omega
          have cw := H.out.word (q := k + 1) hk1
          have HS' := Lib.hid (rest_next HS.out hik)
          obtain ⟨x, hx⟩ : ∃ x, x = ws.getD (k + 1) 0#64 := ⟨_, rfl⟩
          rw [← hx] at cw HS'
          have cw' : w.cell? ⟨s, 2 + (k + 1), none⟩ = some (.int .u64 x.toNat) := cw
          have hne : ((k : Int) + 1 == 32) = false := by simp; omega
          clear hx cw
          go_wp2_with fail
          go_round
          case rel => exact ⟨k + 1, x.toNat, hk1, by omega, rfl, by go_num, HS'⟩
          case measure => simp [intOf]; omega
      · have hz0 : ((z : Int) != 0) = true := by simpa using hz
        have HN := Lib.hid (rest_found HS.out hz hk)
        have hc := (ctz_low hz HS.out.1).1
        have HZ := Lib.hid hz
        clear hz
        go_wp2_with (go_at_call 94; refine (tz_any z HZ.out HS.out.1 _ HT.out).mono ?_; rintro e w' ⟨rfl, rfl⟩)
        go_ret
        exact ⟨⟨_, rfl, HN.out⟩, rfl⟩
end Go.Proofs.YtfocdbflmodfhaaDoor
