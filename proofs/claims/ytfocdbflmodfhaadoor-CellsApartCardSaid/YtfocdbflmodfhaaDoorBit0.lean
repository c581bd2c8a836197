/- Sets of small numbers, as words of 64 bits. -/
import Derived.Test.YtfocdbflmodfhaaDoorOwn
import Derived.Test.YtfocdbflmodfhaaDoorProg
namespace Go.Proofs.YtfocdbflmodfhaaDoor
open Go.RowKit

def u64 (x : BitVec 64) : Value := .int .u64 x.toNat
/-- Is a number in it? -/
def bit (ws : List (BitVec 64)) (i : Nat) : Bool := (ws.getD (i / 64) 0#64).getLsbD (i % 64)
def bitOn (ws : List (BitVec 64)) (i : Nat) : List (BitVec 64) := ws.set (i / 64) (ws.getD (i / 64) 0#64 ||| (1#64 <<< (i % 64)))
def bitOff (ws : List (BitVec 64)) (i : Nat) : List (BitVec 64) := ws.set (i / 64) (ws.getD (i / 64) 0#64 &&& ~~~(1#64 <<< (i % 64)))
theorem one_bit (r j : Nat) (hr : r < 64) (hj : j < 64) : (1#64 <<< r).getLsbD j = decide (j = r) := by
  rw [BitVec.getLsbD_shiftLeft]
  by_cases e : j = r
  · subst e; simp [hr]
  · simp only [e, decide_false, hj, decide_true, Bool.true_and]
    by_cases h : j < r
    · simp [h]
    · simp only [h, decide_false, Bool.not_false, Bool.true_and]
      have : j - r ≠ 0 := by omega
      simp [BitVec.getLsbD_one, this]
theorem bitOn_get {ws : List (BitVec 64)} {i : Nat} (hl : ws.length = 32) (hi : i < 2048) (j : Nat) : bit (bitOn ws i) j = (bit ws j || decide (j = i)) := by
  unfold bit bitOn
  by_cases e : i / 64 = j / 64
  · rw [e, getD_set_same (by omega), BitVec.getLsbD_or, one_bit _ _ (by omega) (by omega)]
    congr 1
    rw [decide_eq_decide]; omega
  · rw [getD_set_other e]
    have : ¬ j = i := by rintro rfl; exact e rfl
    simp [this]
theorem bitOff_get {ws : List (BitVec 64)} {i : Nat} (hl : ws.length = 32) (hi : i < 2048) (j : Nat) : bit (bitOff ws i) j = (bit ws j && !decide (j = i)) := by
  unfold bit bitOff
  by_cases e : i / 64 = j / 64
  · rw [e, getD_set_same (by omega), BitVec.getLsbD_and, BitVec.getLsbD_not, one_bit _ _ (by omega) (by omega)]
    have : (decide (j % 64 = i % 64)) = decide (j = i) := by rw [decide_eq_decide]; omega
    rw [this]
    have h64 : j % 64 < 64 := by omega
    simp [h64]
  · rw [getD_set_other e]
    have : ¬ j = i := by rintro rfl; exact e rfl
    simp [this]
theorem bitOn_len (ws : List (BitVec 64)) (i : Nat) : (bitOn ws i).length = ws.length := by simp [bitOn]
theorem bitOff_len (ws : List (BitVec 64)) (i : Nat) : (bitOff ws i).length = ws.length := by simp [bitOff]
/-- A set's block. -/
structure Sx (w : World) (s n : Nat) (ws : List (BitVec 64)) : Prop where
  hd : w.heap[s]? = some (.cells (.bool true :: .int .i64 n :: ws.map u64).toArray 95 (0, 0))
  len : ws.length = 32
  le : n ≤ 2048
  top : ∀ j, n ≤ j → j < 2048 → bit ws j = false
theorem Sx.keep {w w' : World} {s n : Nat} {ws : List (BitVec 64)} (h : Sx w s n ws) (h1 : w'.heap[s]? = w.heap[s]?) : Sx w' s n ws := ⟨h1.trans h.hd, h.len, h.le, h.top⟩
theorem Sx.below {w w' : World} {s n : Nat} {ws : List (BitVec 64)} (h : Sx w s n ws) (hb : Below w.heap.size w w') : Sx w' s n ws := h.keep (hb.block s (heap_lt h.hd))
theorem Sx.frm {w w' : World} {s n : Nat} {ws : List (BitVec 64)} {fp : List Nat} (h : Sx w s n ws) (hf : Frm fp w w') (h1 : s ∉ fp) : Sx w' s n ws := h.keep (hf.block s (heap_lt h.hd) h1)
theorem Sx.cells {w : World} {s n : Nat} {ws : List (BitVec 64)} (h : Sx w s n ws) : w.cell? ⟨s, 0, none⟩ = some (.bool true) ∧ w.cell? ⟨s, 1, none⟩ = some (.int .i64 n) :=
  ⟨cell_of_row _ _ _ _ _ _ h.hd, cell_of_row _ _ _ _ _ _ h.hd⟩
theorem Sx.word {w : World} {s n : Nat} {ws : List (BitVec 64)} (h : Sx w s n ws) {q : Nat} (hq : q < 32) : w.cell? ⟨s, 2 + q, none⟩ = some (u64 (ws.getD q 0#64)) := by
  have hl := h.len
  rw [cell_of_row _ _ _ _ _ _ h.hd, show 2 + q = q + 1 + 1 by omega]
  simp [List.getD_eq_getElem?_getD, List.getElem?_eq_getElem (show q < ws.length by omega)]
theorem Sx.put {w : World} {s n : Nat} {ws : List (BitVec 64)} (h : Sx w s n ws) {q : Nat} (x : BitVec 64) (ht : ∀ j, n ≤ j → j < 2048 → bit (ws.set q x) j = false) : Sx (w.setCell ⟨s, 2 + q, none⟩ (.int .u64 x.toNat)) s n (ws.set q x) := by
  refine ⟨?_, by simpa using h.len, h.le, ht⟩
  rw [heap_setCell_same w s (2 + q) _ _ _ h.hd, show 2 + q = q + 1 + 1 by omega]
  simp [List.map_set, u64]
/-- What the machine's words on whole numbers come to. -/
theorem shr_and (x : BitVec 64) (r : Nat) : bits .and .u64 ((x.toNat : Int) / 2 ^ r) 1 = if x.getLsbD r then 1 else 0 := by
  have e : ((x.toNat : Int) / 2 ^ r) = ((x.toNat / 2 ^ r : Nat) : Int) := by norm_cast
  rw [e]
  have h1 : x.toNat / 2 ^ r < 2 ^ 64 := Nat.lt_of_le_of_lt (Nat.div_le_self _ _) x.isLt
  have h2 := (bits_nat .u64 64 (by decide) (fun n h0 h1 => by simp [IntKind.wrap, IntKind.bits, IntKind.signed]; omega) (x.toNat / 2 ^ r) 1 h1 (by decide)).1
  rw [show ((1 : Nat) : Int) = 1 from rfl] at h2
  rw [h2, Nat.and_one_is_mod, BitVec.getLsbD, Nat.testBit_eq_decide_div_mod_eq]
  have := Nat.mod_two_eq_zero_or_one (x.toNat / 2 ^ r)
  rcases this with h | h <;> simp [h]
theorem u64_wrap (n : Nat) (h : n < 2 ^ 64) : IntKind.u64.wrap (n : Int) = n := by
  simp [IntKind.wrap, IntKind.bits, IntKind.signed]; omega
theorem shl_one (r : Nat) (hr : r < 64) : IntKind.u64.wrap (1 * 2 ^ r) = (((1#64 <<< r) : BitVec 64).toNat : Int) := by
  have h1 : (2 : Nat) ^ r < 2 ^ 64 := Nat.pow_lt_pow_right (by decide) hr
  rw [Int.one_mul, show ((2 : Int) ^ r) = ((2 ^ r : Nat) : Int) by norm_cast, u64_wrap _ h1]
  simp [BitVec.toNat_shiftLeft, Nat.shiftLeft_eq, Nat.mod_eq_of_lt h1]
theorem or_words (x y : BitVec 64) : bits .or .u64 (x.toNat : Int) (y.toNat : Int) = ((x ||| y).toNat : Int) := by
  rw [(bits_nat .u64 64 (by decide) (fun n h0 h1 => by simp [IntKind.wrap, IntKind.bits, IntKind.signed]; omega) x.toNat y.toNat x.isLt y.isLt).2, BitVec.toNat_or]
theorem andnot_words (x y : BitVec 64) : bits .andNot .u64 (x.toNat : Int) (y.toNat : Int) = ((x &&& ~~~y).toNat : Int) := by
  simp only [bits, BitVec.ofInt_natCast, BitVec.ofNat_toNat, IntKind.bits]
  rw [BitVec.setWidth_eq, BitVec.setWidth_eq]
  exact u64_wrap _ (BitVec.isLt _)
end Go.Proofs.YtfocdbflmodfhaaDoor
