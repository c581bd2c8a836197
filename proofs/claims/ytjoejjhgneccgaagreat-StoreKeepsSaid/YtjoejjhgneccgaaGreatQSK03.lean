/- Sets: added, removed. -/
import Derived.Test.YtjoejjhgneccgaaGreatQSK02
import Derived.Test.YtjoejjhgneccgaaGreatProg
import Derived.IntWalk
import Derived.Shelf.Spec.TrailingZeros
import Derived.Laws.Cover3
namespace Go.Proofs.YtjoejjhgneccgaaGreat
open Go.RowKit

def addB (n : Nat) (ws : List (BitVec 64)) (i : Int) : Bool := inB n i && !bit ws i.toNat
def addL (n : Nat) (ws : List (BitVec 64)) (i : Int) : List (BitVec 64) := if addB n ws i = true then bitOn ws i.toNat else ws
def remL (n : Nat) (ws : List (BitVec 64)) (i : Int) : List (BitVec 64) := if hasB n ws i = true then bitOff ws i.toNat else ws
theorem or_word (x : BitVec 64) (r : Nat) (hr : r < 64) : bits .or .u64 (x.toNat : Int) (IntKind.u64.wrap (2 ^ r)) = ((x ||| (1#64 <<< r)).toNat : Int) := by
  rw [← Int.one_mul (2 ^ r), shl_one r hr, or_words]
theorem andnot_word (x : BitVec 64) (r : Nat) (hr : r < 64) : bits .andNot .u64 (x.toNat : Int) (IntKind.u64.wrap (2 ^ r)) = ((x &&& ~~~(1#64 <<< r)).toNat : Int) := by
  rw [← Int.one_mul (2 ^ r), shl_one r hr, andnot_words]
set_option maxHeartbeats 2000000 in
set_option maxRecDepth 100000 in
theorem add_no {w : World} {s n : Nat} {ws : List (BitVec 64)} (h : Sx w s n ws) (i : Int) (hb : addB n ws i = false) :
    Calls Tryz.prog 52 #[.pointer (some ⟨s, 0, none⟩), .int .i64 i] w fun e w' => e = .returned (.bool false) ∧ w = w' := by
  have H := Lib.hid h
  cases hi : inB n i with
  | false =>
    have HI := Lib.hid hi
    clear h hi hb
    go_enter Tryz.func52, Tryz.ntmps52
    go_wp2_with (go_at_call 78; refine (sin_any H.out i).mono ?_; rw [HI.out]; rintro e w' ⟨rfl, rfl⟩)
    go_ret
    exact ⟨rfl, rfl⟩
  | true =>
    have HI := Lib.hid hi
    have HB := Lib.hid (show hasB n ws i = true by simp [addB, hi] at hb; simp [hasB, hi, hb])
    clear h hi hb
    go_enter Tryz.func52, Tryz.ntmps52
    go_wp2_with (first | (go_at_call 78; refine (sin_any H.out i).mono ?_; rw [HI.out]; rintro e w' ⟨rfl, rfl⟩) | (go_at_call 79; refine (has_any H.out i).mono ?_; rw [HB.out]; rintro e w' ⟨rfl, rfl⟩))
    go_ret
    exact ⟨rfl, rfl⟩
set_option maxHeartbeats 2000000 in
set_option maxRecDepth 100000 in
theorem add_yes {w : World} {s n : Nat} {ws : List (BitVec 64)} (h : Sx w s n ws) (i : Int) (hb : addB n ws i = true) :
    Calls Tryz.prog 52 #[.pointer (some ⟨s, 0, none⟩), .int .i64 i] w fun e w' => e = .returned (.bool true) ∧ Sx w' s n (bitOn ws i.toNat) ∧ Frm [s] w w' := by
  have H := Lib.hid h
  have hd := hb
  simp only [addB, inB, Bool.and_eq_true, decide_eq_true_eq, Bool.not_eq_true'] at hd
  obtain ⟨⟨hd0, hd1⟩, hd2⟩ := hd
  obtain ⟨j, rfl⟩ := Int.eq_ofNat_of_zero_le hd0
  rw [Int.toNat_natCast] at hd2 ⊢
  have hin : inB n j = true := by simp [inB]; omega
  have HI := Lib.hid hin
  have HB := Lib.hid (show hasB n ws j = false by simp [hasB, hd2])
  have hn := h.le
  have hq : ((j : Int) / 64) = ((j / 64 : Nat) : Int) := by norm_cast
  have hr : ((j : Int) % 64) = ((j % 64 : Nat) : Int) := by norm_cast
  have hq2 : j / 64 < 32 := by omega
  have hr2 : j % 64 < 64 := by omega
  have cw := h.word hq2
  have ho := or_word (ws.getD (j / 64) 0#64) (j % 64) hr2
  have HT := Lib.hid (show ∀ k, n ≤ k → k < 2048 → bit (bitOn ws j) k = false from fun k h1 h2 => by rw [bitOn_get h.len (by omega), h.top k h1 h2]; simp; omega)
  have HL : Hid (bitOn ws j = ws.set (j / 64) (ws.getD (j / 64) 0#64 ||| (1#64 <<< (j % 64)))) := Lib.hid rfl
  obtain ⟨q, e1⟩ : ∃ q, q = j / 64 := ⟨_, rfl⟩
  obtain ⟨r, e2⟩ : ∃ r, r = j % 64 := ⟨_, rfl⟩
  rw [← e1] at hq cw ho hq2 HL
  rw [← e2] at hr ho hr2 HL
  have hr64 : (r : Int) ≤ 64 := by omega
  have hq32 : (q : Int) < 32 := by omega
  have hq0 : (0 : Int) ≤ (q : Int) := by omega
  have hr0 : (0 : Int) ≤ (r : Int) := by omega
  have hwq : IntKind.i64.wrap (q : Int) = q := IntWalk.i64_in _ (by omega)
  have hwr : IntKind.i64.wrap (r : Int) = r := IntWalk.i64_in _ (by omega)
  have htr : (j : Int).tmod 64 = r := by rw [Int.tmod_eq_emod_of_nonneg (by omega)]; exact hr
  obtain ⟨x, hx⟩ : ∃ x, x = ws.getD q 0#64 := ⟨_, rfl⟩
  rw [← hx] at cw ho HL
  have cw' : w.cell? ⟨s, 2 + q, none⟩ = some (.int .u64 x.toNat) := cw
  have fz := frozen_of_row w s (2 + q) _ _ h.hd
  obtain ⟨y, hy⟩ : ∃ y, y = x ||| 1#64 <<< r := ⟨_, rfl⟩
  rw [← hy] at ho HL
  clear h hb hd0 hd1 hd2 hin cw hx hy e1 e2 hn
  go_enter Tryz.func52, Tryz.ntmps52
  go_wp2_with (first | (go_at_call 78; refine (sin_any H.out j).mono ?_; rw [HI.out]; rintro e w' ⟨rfl, rfl⟩) | (go_at_call 79; refine (has_any H.out j).mono ?_; rw [HB.out]; rintro e w' ⟨rfl, rfl⟩))
  refine region_tail 14 (by kernel_rfl) (by kernel_rfl) ?_
  simp only [List.take_succ_cons, List.take_zero, List.drop_succ_cons, List.drop_zero]
  repeat still_step
  refine wpStill_nil ?_
  go_wp2_with fail
  go_ret
  exact ⟨rfl, by have ht := HT.out; rw [HL.out] at ht ⊢; exact (H.out.put y ht).below (Below.refl _ _).drew, (Frm.setCell w (by simp) _).trans (Frm.of_below [s] (Below.refl _ _).drew) (fun x hx => .inl hx)⟩
theorem add_any {w : World} {s n : Nat} {ws : List (BitVec 64)} (h : Sx w s n ws) (i : Int) :
    Calls Tryz.prog 52 #[.pointer (some ⟨s, 0, none⟩), .int .i64 i] w fun e w' => e = .returned (.bool (addB n ws i)) ∧ Sx w' s n (addL n ws i) ∧ Frm [s] w w' := by
  unfold addL
  cases hb : addB n ws i with
  | false => exact (add_no h i hb).mono fun e w' ⟨he, hw⟩ => ⟨he, by subst hw; exact h, by subst hw; exact Frm.refl _ _⟩
  | true => exact (add_yes h i hb).mono fun e w' ⟨he, hs, hf⟩ => ⟨he, hs, hf⟩
set_option maxHeartbeats 2000000 in
set_option maxRecDepth 100000 in
theorem rem_no {w : World} {s n : Nat} {ws : List (BitVec 64)} (h : Sx w s n ws) (i : Int) (hb : hasB n ws i = false) :
    Calls Tryz.prog 69 #[.pointer (some ⟨s, 0, none⟩), .int .i64 i] w fun e w' => e = .returned (.bool false) ∧ w = w' := by
  have H := Lib.hid h
  have HB := Lib.hid hb
  clear h hb
  go_enter Tryz.func69, Tryz.ntmps69
  go_wp2_with (go_at_call 79; refine (has_any H.out i).mono ?_; rw [HB.out]; rintro e w' ⟨rfl, rfl⟩)
  go_ret
  exact ⟨rfl, rfl⟩
set_option maxHeartbeats 2000000 in
set_option maxRecDepth 100000 in
theorem rem_yes {w : World} {s n : Nat} {ws : List (BitVec 64)} (h : Sx w s n ws) (i : Int) (hb : hasB n ws i = true) :
    Calls Tryz.prog 69 #[.pointer (some ⟨s, 0, none⟩), .int .i64 i] w fun e w' => e = .returned (.bool true) ∧ Sx w' s n (bitOff ws i.toNat) ∧ Frm [s] w w' := by
  have H := Lib.hid h
  have HB := Lib.hid hb
  have hd := hb
  simp only [hasB, inB, Bool.and_eq_true, decide_eq_true_eq] at hd
  obtain ⟨⟨hd0, hd1⟩, hd2⟩ := hd
  obtain ⟨j, rfl⟩ := Int.eq_ofNat_of_zero_le hd0
  rw [Int.toNat_natCast]
  have hn := h.le
  have hq : ((j : Int) / 64) = ((j / 64 : Nat) : Int) := by norm_cast
  have hr : ((j : Int) % 64) = ((j % 64 : Nat) : Int) := by norm_cast
  have hq2 : j / 64 < 32 := by omega
  have hr2 : j % 64 < 64 := by omega
  have cw := h.word hq2
  have ho := andnot_word (ws.getD (j / 64) 0#64) (j % 64) hr2
  have HT := Lib.hid (show ∀ k, n ≤ k → k < 2048 → bit (bitOff ws j) k = false from fun k h1 h2 => by rw [bitOff_get h.len (by omega), h.top k h1 h2]; simp)
  have HL : Hid (bitOff ws j = ws.set (j / 64) (ws.getD (j / 64) 0#64 &&& ~~~(1#64 <<< (j % 64)))) := Lib.hid rfl
  obtain ⟨q, e1⟩ : ∃ q, q = j / 64 := ⟨_, rfl⟩
  obtain ⟨r, e2⟩ : ∃ r, r = j % 64 := ⟨_, rfl⟩
  rw [← e1] at hq cw ho hq2 HL
  rw [← e2] at hr ho hr2 HL
  have hr64 : (r : Int) ≤ 64 := by omega
  have hq32 : (q : Int) < 32 := by omega
  have hq0 : (0 : Int) ≤ (q : Int) := by omega
  have hr0 : (0 : Int) ≤ (r : Int) := by omega
  have hwq : IntKind.i64.wrap (q : Int) = q := IntWalk.i64_in _ (by omega)
  have hwr : IntKind.i64.wrap (r : Int) = r := IntWalk.i64_in _ (by omega)
  have htr : (j : Int).tmod 64 = r := by rw [Int.tmod_eq_emod_of_nonneg (by omega)]; exact hr
  obtain ⟨x, hx⟩ : ∃ x, x = ws.getD q 0#64 := ⟨_, rfl⟩
  rw [← hx] at cw ho HL
  have cw' : w.cell? ⟨s, 2 + q, none⟩ = some (.int .u64 x.toNat) := cw
  have fz := frozen_of_row w s (2 + q) _ _ h.hd
  obtain ⟨y, hy⟩ : ∃ y, y = x &&& ~~~(1#64 <<< r) := ⟨_, rfl⟩
  rw [← hy] at ho HL
  clear h hb hd0 hd1 hd2 cw hx hy e1 e2 hn
  go_enter Tryz.func69, Tryz.ntmps69
  go_wp2_with (go_at_call 79; refine (has_any H.out j).mono ?_; rw [HB.out]; rintro e w' ⟨rfl, rfl⟩)
  refine region_tail 14 (by kernel_rfl) (by kernel_rfl) ?_
  simp only [List.take_succ_cons, List.take_zero, List.drop_succ_cons, List.drop_zero]
  repeat still_step
  refine wpStill_nil ?_
  go_wp2_with fail
  go_ret
  exact ⟨rfl, by have ht := HT.out; rw [HL.out] at ht ⊢; exact (H.out.put y ht).below (Below.refl _ _).drew, (Frm.setCell w (by simp) _).trans (Frm.of_below [s] (Below.refl _ _).drew) (fun x hx => .inl hx)⟩
theorem rem_any {w : World} {s n : Nat} {ws : List (BitVec 64)} (h : Sx w s n ws) (i : Int) :
    Calls Tryz.prog 69 #[.pointer (some ⟨s, 0, none⟩), .int .i64 i] w fun e w' => e = .returned (.bool (hasB n ws i)) ∧ Sx w' s n (remL n ws i) ∧ Frm [s] w w' := by
  unfold remL
  cases hb : hasB n ws i with
  | false => exact (rem_no h i hb).mono fun e w' ⟨he, hw⟩ => ⟨he, by subst hw; exact h, by subst hw; exact Frm.refl _ _⟩
  | true => exact (rem_yes h i hb).mono fun e w' ⟨he, hs, hf⟩ => ⟨he, hs, hf⟩
end Go.Proofs.YtjoejjhgneccgaaGreat

/- Sets: made; the next one; all of them. -/
namespace Go.Proofs.YtjoejjhgneccgaaGreat
open Go.RowKit

theorem ctz_low {x : Nat} (h0 : x ≠ 0) (hx : x < 2 ^ 64) : Lib.ctz 64 x < 64 ∧ x.testBit (Lib.ctz 64 x) = true ∧ ∀ j, j < Lib.ctz 64 x → x.testBit j = false := by
  obtain ⟨m, hm, hk⟩ := Lib.ctzFrom_spec 64 x (by omega) hx
  have e : Lib.ctz 64 x = Lib.ctzFrom 64 x := by unfold Lib.ctz; rw [if_neg h0]
  rw [e]
  refine ⟨hk, ?_, fun j hj => ?_⟩
  · have h2 : (2 ^ Lib.ctzFrom 64 x * (2 * m + 1)).testBit (Lib.ctzFrom 64 x) = true := by
      rw [Nat.mul_comm, Nat.testBit_mul_two_pow]
      simp
    rw [← hm] at h2
    exact h2
  · have h2 : (2 ^ Lib.ctzFrom 64 x * (2 * m + 1)).testBit j = false := by
      rw [Nat.mul_comm, Nat.testBit_mul_two_pow]
      simp; omega
    rw [← hm] at h2
    exact h2
/-- The least one from a number on; -1: there is none. -/
def nextP (ws : List (BitVec 64)) (i : Nat) (v : Int) : Prop :=
  (v = -1 ∧ ∀ j, i ≤ j → j < 2048 → bit ws j = false) ∨ (∃ m : Nat, v = m ∧ i ≤ m ∧ m < 2048 ∧ bit ws m = true ∧ ∀ j, i ≤ j → j < m → bit ws j = false)
def NextE (ws : List (BitVec 64)) (i : Nat) (e : Ending) : Prop := ∃ v : Int, e = .returned (.int .i64 v) ∧ nextP ws i v
theorem rest_bit (x r j : Nat) : (x / 2 ^ r * 2 ^ r).testBit j = (decide (r ≤ j) && x.testBit j) := by
  rw [Nat.testBit_mul_two_pow]
  by_cases h : r ≤ j
  · rw [Nat.testBit_div_two_pow, show j - r + r = j by omega]
  · simp [h]
/-- What is left of a word. -/
def RestP (ws : List (BitVec 64)) (i k y : Nat) : Prop := y < 2 ^ 64 ∧ (∀ b, b < 64 → y.testBit b = (decide (i ≤ 64 * k + b) && bit ws (64 * k + b))) ∧ (∀ j, i ≤ j → j < 64 * k → bit ws j = false)
theorem rest_start (ws : List (BitVec 64)) (i : Nat) : RestP ws i (i / 64) ((ws.getD (i / 64) 0#64).toNat / 2 ^ (i % 64) * 2 ^ (i % 64)) := by
  refine ⟨Nat.lt_of_le_of_lt (Nat.div_mul_le_self _ _) (BitVec.isLt _), fun b hb => ?_, fun j h1 h2 => by omega⟩
  rw [rest_bit]
  unfold bit
  rw [show (64 * (i / 64) + b) / 64 = i / 64 by omega, show (64 * (i / 64) + b) % 64 = b by omega, BitVec.getLsbD]
  congr 1
  rw [decide_eq_decide]; omega
theorem rest_next {ws : List (BitVec 64)} {i k : Nat} (h : RestP ws i k 0) (hi : i < 64 * (k + 1)) : RestP ws i (k + 1) (ws.getD (k + 1) 0#64).toNat := by
  obtain ⟨-, h1, h2⟩ := h
  refine ⟨BitVec.isLt _, fun b hb => ?_, fun j h3 h4 => ?_⟩
  · have : decide (i ≤ 64 * (k + 1) + b) = true := by simp; omega
    rw [this, Bool.true_and]
    unfold bit
    rw [show (64 * (k + 1) + b) / 64 = k + 1 by omega, show (64 * (k + 1) + b) % 64 = b by omega, BitVec.getLsbD]
  · by_cases h5 : j < 64 * k
    · exact h2 j h3 h5
    · have := h1 (j - 64 * k) (by omega)
      rw [Nat.zero_testBit, show 64 * k + (j - 64 * k) = j by omega] at this
      simpa [h3] using this.symm
theorem rest_found {ws : List (BitVec 64)} {i k y : Nat} (h : RestP ws i k y) (h0 : y ≠ 0) (hk : k < 32) : nextP ws i ((k * 64 + Lib.ctz 64 y : Nat) : Int) := by
  obtain ⟨h1, h2, h3⟩ := h
  obtain ⟨c1, c2, c3⟩ := ctz_low h0 h1
  have h4 := h2 _ c1
  rw [c2] at h4
  have h5 := h4.symm
  rw [Bool.and_eq_true, decide_eq_true_eq] at h5
  refine .inr ⟨_, rfl, by omega, by omega, by rw [Nat.mul_comm]; exact h5.2, fun j hj1 hj2 => ?_⟩
  by_cases h6 : j < 64 * k
  · exact h3 j hj1 h6
  · have h7 := h2 (j - 64 * k) (by omega)
    rw [c3 _ (by omega), show 64 * k + (j - 64 * k) = j by omega] at h7
    simpa [hj1] using h7.symm
theorem rest_none {ws : List (BitVec 64)} {i : Nat} (h : RestP ws i 31 0) : nextP ws i (-1) := by
  obtain ⟨-, h1, h2⟩ := h
  refine .inl ⟨rfl, fun j h3 h4 => ?_⟩
  by_cases h5 : j < 64 * 31
  · exact h2 j h3 h5
  · have := h1 (j - 64 * 31) (by omega)
    rw [Nat.zero_testBit, show 64 * 31 + (j - 64 * 31) = j by omega] at this
    simpa [h3] using this.symm
end Go.Proofs.YtjoejjhgneccgaaGreat

/- Words in memory, as lists. -/
namespace Go.Proofs.YtjoejjhgneccgaaGreat
open Go.RowKit

/-- Numbers, as cells. -/
def ints (xs : List Int) : Array Value := (xs.map (Value.int .i64)).toArray
theorem ints_size (xs : List Int) : (ints xs).size = xs.length := by simp [ints]
theorem ints_get {xs : List Int} {i : Nat} (h : i < xs.length) : (ints xs)[i]? = some (.int .i64 (xs.getD i 0)) := by
  simp [ints, List.getD_eq_getElem?_getD, List.getElem?_eq_getElem h]
theorem ints_set (xs : List Int) (i : Nat) (v : Int) : (ints xs).setIfInBounds i (.int .i64 v) = ints (xs.set i v) := by
  simp [ints, List.map_set]
/-- Some words become one. -/
def fillL (xs : List Int) (a : Nat) : Nat → Int → List Int
  | 0, _ => xs
  | n + 1, v => (fillL xs a n v).set (a + n) v
theorem fillL_len (xs : List Int) (a n : Nat) (v : Int) : (fillL xs a n v).length = xs.length := by
  induction n with
  | zero => rfl
  | succ n ih => simp [fillL, ih]
theorem fillL_get (xs : List Int) (a n : Nat) (v : Int) (i : Nat) (hi : i < xs.length) : (fillL xs a n v).getD i 0 = if a ≤ i ∧ i < a + n then v else xs.getD i 0 := by
  induction n with
  | zero => simp [fillL]; intro h1 h2; omega
  | succ n ih =>
    simp only [fillL]
    by_cases e : a + n = i
    · rw [e, getD_set_same (by rw [fillL_len]; exact hi), if_pos (by omega)]
    · rw [getD_set_other e, ih]
      by_cases h : a ≤ i ∧ i < a + n
      · rw [if_pos h, if_pos (by omega)]
      · rw [if_neg h, if_neg (by omega)]
/-- A memory: its block, and its words. -/
structure Mx (w : World) (m r : Nat) (xs : List Int) : Prop where
  hd : ∃ c, xs.length ≤ c ∧ c ≤ maxLen ∧ w.heap[m]? = some (.cells #[.bool true, .slice (some ⟨r, 0, none⟩) xs.length c] 104 (0, 0))
  row : ∃ zs, w.heap[r]? = some (.cells (xs.map (Value.int .i64) ++ zs).toArray 2 (0, 0))
  le : xs.length ≤ 2048
theorem Mx.keep {w w' : World} {m r : Nat} {xs : List Int} (h : Mx w m r xs) (h1 : w'.heap[m]? = w.heap[m]?) (h2 : w'.heap[r]? = w.heap[r]?) : Mx w' m r xs := by
  obtain ⟨⟨c, hc, hc2, hd⟩, ⟨zs, hr⟩, hl⟩ := h
  exact ⟨⟨c, hc, hc2, h1.trans hd⟩, ⟨zs, h2.trans hr⟩, hl⟩
theorem Mx.lt {w : World} {m r : Nat} {xs : List Int} (h : Mx w m r xs) : m < w.heap.size ∧ r < w.heap.size := by
  obtain ⟨⟨c, hc, hc2, hd⟩, ⟨zs, hr⟩, hl⟩ := h
  exact ⟨heap_lt hd, heap_lt hr⟩
theorem Mx.below {w w' : World} {m r : Nat} {xs : List Int} (h : Mx w m r xs) (hb : Below w.heap.size w w') : Mx w' m r xs := h.keep (hb.block m h.lt.1) (hb.block r h.lt.2)
theorem Mx.frm {w w' : World} {m r : Nat} {xs : List Int} {fp : List Nat} (h : Mx w m r xs) (hf : Frm fp w w') (h1 : m ∉ fp) (h2 : r ∉ fp) : Mx w' m r xs := h.keep (hf.block m h.lt.1 h1) (hf.block r h.lt.2 h2)
theorem Mx.ne {w : World} {m r : Nat} {xs : List Int} (h : Mx w m r xs) : m ≠ r := by
  rintro rfl
  obtain ⟨⟨c, hc, hc2, hd⟩, ⟨zs, hr⟩, hl⟩ := h
  have := hd.symm.trans hr
  simp at this
theorem Mx.put {w : World} {m r : Nat} {xs : List Int} (h : Mx w m r xs) {i : Nat} (hi : i < xs.length) (v : Int) : Mx (w.setCell ⟨r, i, none⟩ (.int .i64 v)) m r (xs.set i v) := by
  have hne := h.ne
  obtain ⟨⟨c, hc, hc2, hd⟩, ⟨zs, hr⟩, hl⟩ := h
  refine ⟨⟨c, by simpa using hc, hc2, ?_⟩, ⟨zs, ?_⟩, by simpa using hl⟩
  · rw [heap_setCell_other _ _ _ _ hne, hd, List.length_set]
  · rw [heap_setCell_same w r i _ _ _ hr]
    simp only [List.setIfInBounds_toArray, List.map_set]
    rw [List.set_append_left _ _ (by simpa using hi)]
theorem Mx.cells {w : World} {m r : Nat} {xs : List Int} (h : Mx w m r xs) : ∃ c, xs.length ≤ c ∧ c ≤ maxLen ∧ w.cell? ⟨m, 0, none⟩ = some (.bool true) ∧ w.cell? ⟨m, 1, none⟩ = some (.slice (some ⟨r, 0, none⟩) xs.length c) := by
  obtain ⟨⟨c, hc, hc2, hd⟩, ⟨zs, hr⟩, hl⟩ := h
  exact ⟨c, hc, hc2, cell_of_row _ _ _ _ _ _ hd, cell_of_row _ _ _ _ _ _ hd⟩
theorem Mx.word {w : World} {m r : Nat} {xs : List Int} (h : Mx w m r xs) {i : Nat} (hi : i < xs.length) : w.cell? ⟨r, i, none⟩ = some (.int .i64 (xs.getD i 0)) ∧ w.frozen? ⟨r, i, none⟩ = false := by
  obtain ⟨⟨c, hc, hc2, hd⟩, ⟨zs, hr⟩, hl⟩ := h
  refine ⟨?_, frozen_of_row _ _ _ _ _ hr⟩
  rw [cell_of_row _ _ _ _ _ _ hr, List.getElem?_toArray, List.getElem?_append_left (by simpa using hi), List.getElem?_map, List.getD_eq_getElem?_getD, List.getElem?_eq_getElem hi]
  rfl
theorem Mx.of_block {w : World} {m r : Nat} {xs : List Int} (h1 : w.heap[m]? = some (.cells #[.bool true, .slice (some ⟨r, 0, none⟩) xs.length xs.length] 104 (0, 0))) (h2 : w.heap[r]? = some (.cells (ints xs) 2 (0, 0))) (hl : xs.length ≤ 2048) : Mx w m r xs :=
  ⟨⟨_, Nat.le_refl _, by unfold maxLen; omega, h1⟩, ⟨[], by rw [List.append_nil]; exact h2⟩, hl⟩
/-- Are so many words there, from an address on? -/
def fitB (n : Nat) (a k : Int) : Bool := decide (0 ≤ a) && decide (0 ≤ k) && decide (a + k ≤ n)
end Go.Proofs.YtjoejjhgneccgaaGreat

/- Rows of whole numbers: appended to, read, cloned. -/
namespace Go.Proofs.YtjoejjhgneccgaaGreat
open Go.RowKit

theorem info_num : (Tryz.prog.info? 3).map (fun i => (i.zero, i.size, i.bytes)) = some (some (.int .i64 0), 1, 8) := by kernel_rfl
/-- A row of numbers of the call's own. -/
def IRow (base : Nat) (w : World) (v : Value) (xs : List Int) : Prop := w.ownsRow base 3 1 v xs.length (xs.map (Value.int .i64))
theorem IRow.nil (base : Nat) (w : World) : IRow base w (.slice none 0 0) [] := ⟨rfl, .inl ⟨rfl, rfl⟩⟩
theorem IRow.below {base : Nat} {w w' : World} {v : Value} {xs : List Int} (h : IRow base w v xs) (hb : Below w.heap.size w w') : IRow base w' v xs := pw_own_keep h hb
theorem IRow.frm {base : Nat} {w w' : World} {v : Value} {xs : List Int} {fp : List Nat} (h : IRow base w v xs) (hf : Frm fp w w') (hd : ∀ k ∈ fp, k < base) : IRow base w' v xs :=
  ⟨h.1, h.2.imp id fun ⟨g, cap, cur, hv, hg, hh, r⟩ => ⟨g, cap, cur, hv, hg, (hf.block g (heap_lt hh) (fun hm => by have := hd g hm; omega)).trans hh, r⟩⟩
theorem IRow.mono {base base' : Nat} {w : World} {v : Value} {xs : List Int} (h : IRow base w v xs) (hb : base' ≤ base) : IRow base' w v xs := own_mono h hb
theorem IRow.slice {base : Nat} {w : World} {v : Value} {xs : List Int} (h : IRow base w v xs) : ∃ p cap, v = .slice p xs.length cap ∧ xs.length ≤ cap ∧ xs.length ≤ maxLen ∧ (∀ j, j < xs.length → ∃ b, p = some ⟨b, 0, none⟩ ∧ base ≤ b ∧ w.cell? ⟨b, j, none⟩ = some (.int .i64 (xs.getD j 0))) := by
  have h' := h
  rcases h.2 with ⟨rfl, h0⟩ | ⟨g, cap, cur, rfl, hg, hh, hc, hm, _⟩
  · refine ⟨none, 0, ?_, by omega, by rw [h0]; exact Nat.zero_le _, fun j hj => by omega⟩
    rw [h0]
  · refine ⟨_, cap, rfl, hc, by omega, fun j hj => ⟨g, rfl, hg, ?_⟩⟩
    rw [h'.cellAt j (by omega), List.getElem?_map, List.getD_eq_getElem?_getD, List.getElem?_eq_getElem hj]; rfl
/-- One more. -/
theorem wpList_append_num {w : World} {ops : Array Oper} {rest : List Oper} {o : Oper} {a : Act} {Q : Exit → Act → World → Prop} (hgd : o.guard = none) (s x : Operand)
    (ho : o.op = .call { callee := .builtin .append, args := #[s, x], argTypes := #[66, 66] }) (base : Nat) (w0 : World) (v : Value) (xs : List Int) (y : Int)
    (hs : a.eval s = v) (hown : IRow base w v xs) (hx : a.eval x = .slice (some ⟨w.heap.size, 0, none⟩) 1 1) (hn : xs.length + 1 ≤ 1000000) (hB : Below base w0 w) (hb : base ≤ w.heap.size)
    (h : ∀ v' w', IRow base w' v' (xs ++ [y]) → Below base w0 w' → (w.alloc (.cells #[.int .i64 y] 3 (0, 0))).grownBy w' v.ownBlock → wpList Tryz.prog ops Q rest (a.put o.dst v') w') : wpList Tryz.prog ops Q (o :: rest) a (w.alloc (.cells #[.int .i64 y] 3 (0, 0))) := by
  obtain ⟨i0, hi, hz0, hz1, hz2⟩ := info_parts info_num
  refine wpList_append_own _ hgd s x 66 ho base 3 i0 (.int .i64 0) 1 8 Tryz.underlying66 hi hz0 hz1 hz2 rfl (by decide) v xs.length _ hs (World.ownsRow.alloc hown _) ⟨w.heap.size, 0, none⟩ 1 1 [.int .i64 y] hx rfl
    (cell_new1 _ _ _ _) (by simp [Value.oneCell']) (by unfold maxLen; omega) (by omega) (by simp; omega) ?_
  intro v' w1 hown' hgrow _
  have h1 : Below base w0 (w.alloc (.cells #[.int .i64 y] 3 (0, 0))) := hB.alloc hb _
  refine h v' w1 ?_ (h1.grown hgrow (by simp; omega) (own_base hown)) hgrow
  unfold IRow
  rw [List.length_append, List.map_append]
  exact hown'
/-- A row that is whole, not nil, becomes one of the call's own. -/
theorem ints_news {w : World} {b : Nat} {xs : List Int} {T : TypeId} (h : w.heap[b]? = some (.cells (ints xs) T (0, 0))) : ∀ j u, (xs.map (Value.int .i64))[j]? = some u → w.cell? ((⟨b, 0, none⟩ : Addr).add j) = some u := by
  intro j u hj
  have hadd : (⟨b, 0, none⟩ : Addr).add j = ⟨b, j, none⟩ := by unfold Addr.add; split <;> simp_all
  rw [hadd, cell_of_row _ _ _ _ _ _ h]
  simpa [ints] using hj
theorem ints_one (xs : List Int) : ∀ u ∈ xs.map (Value.int .i64), u.oneCell' = true := by
  intro u hu
  obtain ⟨x, _, rfl⟩ := List.mem_map.1 hu
  rfl
/-- Two lists of a call's own. -/
theorem eql_slice_nil0 {P : Program} (t e : TypeId) (a : Option Addr) (l c : Nat) (h : P.underlying t = some (.slice e)) (w : World) : (binOp .eql t (.slice a l c) (.slice none 0 0)).run P w = .ok (.bool a.isNone) w := by
  simp only [binOp]
  simp [run_equal_slice_nil w t e a l c h]
end Go.Proofs.YtjoejjhgneccgaaGreat

/- Sets: made; all of them. -/
namespace Go.Proofs.YtjoejjhgneccgaaGreat
open Go.RowKit

def bitsN (ws : List (BitVec 64)) : List Nat := (List.range 2048).filter (bit ws)
def bitsI (ws : List (BitVec 64)) : List Int := (bitsN ws).map Int.ofNat
theorem bitsI_len (ws : List (BitVec 64)) : (bitsI ws).length ≤ 2048 := by
  unfold bitsI bitsN
  rw [List.length_map]
  exact Nat.le_trans (List.length_filter_le _ _) (by simp)
/-- How far it is. -/
def AllI (ws : List (BitVec 64)) (l : List Int) (v : Int) : Prop :=
  (v = -1 ∧ l = bitsI ws) ∨ (∃ m : Nat, v = m ∧ m < 2048 ∧ bit ws m = true ∧ l = ((List.range m).filter (bit ws)).map Int.ofNat)
theorem filter_gap (f : Nat → Bool) (a b : Nat) (h : a ≤ b) (hf : ∀ j, a ≤ j → j < b → f j = false) : (List.range b).filter f = (List.range a).filter f := by
  obtain ⟨d, rfl⟩ : ∃ d, b = a + d := ⟨b - a, by omega⟩
  clear h
  induction d with
  | zero => rfl
  | succ d ih =>
    rw [← Nat.add_assoc, List.range_succ, List.filter_append, ih (fun j h1 h2 => hf j h1 (by omega))]
    simp [hf (a + d) (by omega) (by omega)]
theorem alli_start {ws : List (BitVec 64)} {v : Int} (h : nextP ws 0 v) : AllI ws [] v := by
  rcases h with ⟨rfl, h⟩ | ⟨m, rfl, _, h1, h2, h3⟩
  · refine .inl ⟨rfl, ?_⟩
    unfold bitsI bitsN
    rw [filter_gap (bit ws) 0 2048 (by omega) (fun j _ h2 => h j (by omega) h2)]; rfl
  · refine .inr ⟨m, rfl, h1, h2, ?_⟩
    rw [filter_gap (bit ws) 0 m (by omega) (fun j _ h2 => h3 j (by omega) h2)]; rfl
theorem alli_next {ws : List (BitVec 64)} {m : Nat} {l : List Int} {v : Int} (hm : m < 2048) (hb : bit ws m = true) (hl : l = ((List.range m).filter (bit ws)).map Int.ofNat) (h : nextP ws (m + 1) v) : AllI ws (l ++ [(m : Int)]) v := by
  have e : l ++ [(m : Int)] = ((List.range (m + 1)).filter (bit ws)).map Int.ofNat := by
    rw [hl, List.range_succ, List.filter_append, List.map_append]
    simp [hb]
  rw [e]
  rcases h with ⟨rfl, h⟩ | ⟨k, rfl, h0, h1, h2, h3⟩
  · refine .inl ⟨rfl, ?_⟩
    unfold bitsI bitsN
    rw [filter_gap (bit ws) (m + 1) 2048 (by omega) h]
  · refine .inr ⟨k, rfl, h1, h2, ?_⟩
    rw [filter_gap (bit ws) (m + 1) k (by omega) (fun j h4 h5 => h3 j h4 h5)]
theorem alli_len {ws : List (BitVec 64)} {m : Nat} {l : List Int} (hm : m < 2048) (hl : l = ((List.range m).filter (bit ws)).map Int.ofNat) : l.length ≤ 2048 := by
  rw [hl, List.length_map]
  have := List.length_filter_le (bit ws) (List.range m)
  simp at this
  omega
def RowE (base : Nat) (xs : List Int) (e : Ending) (w' : World) : Prop := ∃ v, e = .returned v ∧ IRow base w' v xs
/-- A set of no numbers. -/
theorem zero_bits (j : Nat) : bit (List.replicate 32 0#64) j = false := by
  unfold bit
  rw [List.getD_eq_getElem?_getD, List.getElem?_replicate]
  split <;> simp
set_option maxRecDepth 100000 in
theorem snew_any (n : Int) (w : World) :
    Calls Tryz.prog 41 #[.int .i64 n] w fun e w' => e = .returned (.pointer (some ⟨w.heap.size, 0, none⟩)) ∧ Sx w' w.heap.size (clampN n 0 2048).toNat (List.replicate 32 0#64) ∧ Below w.heap.size w w' := by
  have hb := clampN_bd (a := n) (lo := 0) (hi := 2048) (by omega)
  obtain ⟨k, hk⟩ := Int.eq_ofNat_of_zero_le hb.1
  have HK := Lib.hid hk
  have HB := Lib.hid hb
  clear hk hb
  go_enter Tryz.func41, Tryz.ntmps41
  go_wp2_with (go_at_call 42; refine (clampn_any n 0 2048 _).mono ?_; rw [HK.out]; rintro e w' ⟨rfl, rfl⟩)
  go_ret
  refine ⟨rfl, ⟨?_, rfl, ?_, fun j _ _ => zero_bits j⟩, below_alloc0 _ _⟩
  · rw [heap_alloc_new, HK.out]
    rfl
  · have := HB.out; rw [HK.out] at this ⊢; omega
end Go.Proofs.YtjoejjhgneccgaaGreat

/- Pages' kinds, as lists. -/
namespace Go.Proofs.YtjoejjhgneccgaaGreat
open Go.RowKit

/-- Of a page. -/
def kindL (ks : List Int) (p : Int) : Int := if p < 0 ∨ (ks.length : Int) ≤ p then -1 else ks.getD p.toNat 0
theorem kindL_out {ks : List Int} {p : Int} (h : p < 0 ∨ (ks.length : Int) ≤ p) : kindL ks p = -1 := by unfold kindL; rw [if_pos h]
theorem kindL_in {ks : List Int} {p : Nat} (h : p < ks.length) : kindL ks p = ks.getD p 0 := by
  unfold kindL; rw [if_neg (by omega), Int.toNat_natCast]
/-- The first free one. -/
def idx0 : List Int → Option Nat
  | [] => none
  | x :: xs => if x = 0 then some 0 else (idx0 xs).map (· + 1)
theorem idx0_some : ∀ {ks : List Int} {m : Nat}, m < ks.length → ks.getD m 0 = 0 → (∀ j, j < m → ks.getD j 0 ≠ 0) → idx0 ks = some m
  | [], m, h, _, _ => absurd h (by simp)
  | x :: xs, 0, _, h, _ => by unfold idx0; rw [if_pos (by simpa using h)]
  | x :: xs, m + 1, h, h0, hj => by
    unfold idx0
    rw [if_neg (by have := hj 0 (by omega); simpa using this), idx0_some (ks := xs) (m := m) (by simpa using h) (by simpa using h0) (fun j h1 => by have := hj (j + 1) (by omega); simpa using this)]
    rfl
theorem idx0_none : ∀ {ks : List Int}, (∀ j, j < ks.length → ks.getD j 0 ≠ 0) → idx0 ks = none
  | [], _ => rfl
  | x :: xs, h => by
    unfold idx0
    rw [if_neg (by have := h 0 (by simp); simpa using this), idx0_none (ks := xs) (fun j h1 => by have := h (j + 1) (by simpa using h1); simpa using this)]
    rfl
/-- How many that belong to a large one follow one another, from a page on. -/
def run6 (ks : List Int) (q : Nat) : Nat := ((ks.drop q).takeWhile (· == 6)).length
theorem run6_step {ks : List Int} {q : Nat} (h : kindL ks q = 6) : run6 ks q = run6 ks (q + 1) + 1 := by
  have hl : q < ks.length := by
    apply Decidable.byContradiction; intro hc
    rw [kindL_out (.inr (by omega))] at h; omega
  rw [kindL_in hl, List.getD_eq_getElem?_getD, List.getElem?_eq_getElem hl] at h
  unfold run6
  rw [List.drop_eq_getElem_cons hl, List.takeWhile_cons, if_pos (by simpa using h), List.length_cons]
theorem run6_stop {ks : List Int} {q : Nat} (h : kindL ks q ≠ 6) : run6 ks q = 0 := by
  unfold run6
  by_cases hl : q < ks.length
  · rw [kindL_in hl, List.getD_eq_getElem?_getD, List.getElem?_eq_getElem hl] at h
    rw [List.drop_eq_getElem_cons hl, List.takeWhile_cons, if_neg (by simpa using h)]; rfl
  · rw [List.drop_of_length_le (by omega)]; rfl
theorem run6_le (ks : List Int) (q : Nat) : run6 ks q ≤ ks.length := by
  unfold run6
  have := List.takeWhile_sublist (l := ks.drop q) (· == 6) |>.length_le
  simp at this; omega
theorem run6_end (ks : List Int) (q : Nat) (h : q ≤ ks.length) : q + run6 ks q ≤ ks.length := by
  unfold run6
  have := List.takeWhile_sublist (l := ks.drop q) (· == 6) |>.length_le
  simp at this; omega
/-- How many begin at a page. -/
def sizeL (ks : List Int) (p : Int) : Int := if 0 < sizeI (kindL ks p) then 1 else if kindL ks p ≠ 5 then 0 else 1 + (run6 ks (p.toNat + 1) : Int)
theorem sizeL_bd (ks : List Int) (p : Int) : 0 ≤ sizeL ks p ∧ sizeL ks p ≤ ks.length + 1 := by
  unfold sizeL
  have := run6_le ks (p.toNat + 1)
  split
  · omega
  · split <;> omega
theorem sizeL_in {ks : List Int} {p : Int} (h : 0 < sizeL ks p) : 0 ≤ p ∧ p + sizeL ks p ≤ ks.length := by
  have hin : 0 ≤ p ∧ p < ks.length := by
    apply Decidable.byContradiction; intro hc
    have hk := kindL_out (ks := ks) (p := p) (by omega)
    unfold sizeL at h
    rw [hk] at h
    simp [sizeI] at h
  unfold sizeL at h ⊢
  split
  · omega
  · rename_i h1
    rw [if_neg h1] at h
    split
    · omega
    · have := run6_end ks (p.toNat + 1) (by omega)
      omega
/-- The page where what a page belongs to begins. -/
def downL (ks : List Int) : Nat → Int
  | 0 => if kindL ks 0 = 6 then -1 else 0
  | p + 1 => if kindL ks ((p + 1 : Nat) : Int) = 6 then downL ks p else ((p + 1 : Nat) : Int)
def firstL (ks : List Int) (p : Int) : Int :=
  let q := if p < 0 then p else downL ks p.toNat
  if sizeL ks q = 0 then -1 else q
theorem downL_stop {ks : List Int} {p : Nat} (h : kindL ks p ≠ 6) : downL ks p = p := by
  cases p with
  | zero =>
    have h' : kindL ks 0 ≠ 6 := h
    unfold downL; rw [if_neg h']; rfl
  | succ p => unfold downL; rw [if_neg h]
theorem downL_step {ks : List Int} {p : Nat} (h : kindL ks ((p + 1 : Nat) : Int) = 6) : downL ks (p + 1) = downL ks p := by
  rw [downL, if_pos h]
theorem downL_zero {ks : List Int} (h : kindL ks 0 = 6) : downL ks 0 = -1 := by rw [downL, if_pos h]
/-- Each run of free ones: from where on, and how long. -/
def runsFrom : List Int → Nat → Nat → List (Nat × Nat)
  | [], p, n => if 0 < n then [(p - n, n)] else []
  | x :: xs, p, n => if x = 0 then runsFrom xs (p + 1) (n + 1) else if 0 < n then (p - n, n) :: runsFrom xs (p + 1) 0 else runsFrom xs (p + 1) 0
def runsL (ks : List Int) : List (Nat × Nat) := runsFrom ks 0 0
/-- Pages, taken and given back. -/
def spanL (ks : List Int) (n : Int) : Option Nat := if n < 1 then none else ((runsL ks).find? fun r => decide (n ≤ (r.2 : Int))).map (·.1)
def countL (ks : List Int) : Nat := ((runsL ks).map (·.2)).sum
def freeL (ks : List Int) (p : Int) : List Int := fillL ks p.toNat (sizeL ks p).toNat 0
/-- A table: its block, and its kinds. -/
structure Tx (w : World) (t k : Nat) (ks : List Int) : Prop where
  hd : w.heap[t]? = some (.cells #[.bool true, .slice (some ⟨k, 0, none⟩) ks.length ks.length] 100 (0, 0))
  row : w.heap[k]? = some (.cells (ints ks) 3 (0, 0))
  le : ks.length ≤ 64
theorem Tx.keep {w w' : World} {t k : Nat} {ks : List Int} (h : Tx w t k ks) (h1 : w'.heap[t]? = w.heap[t]?) (h2 : w'.heap[k]? = w.heap[k]?) : Tx w' t k ks := ⟨h1.trans h.hd, h2.trans h.row, h.le⟩
theorem Tx.below {w w' : World} {t k : Nat} {ks : List Int} (h : Tx w t k ks) (hb : Below w.heap.size w w') : Tx w' t k ks := h.keep (hb.block t (heap_lt h.hd)) (hb.block k (heap_lt h.row))
theorem Tx.frm {w w' : World} {t k : Nat} {ks : List Int} {fp : List Nat} (h : Tx w t k ks) (hf : Frm fp w w') (h1 : t ∉ fp) (h2 : k ∉ fp) : Tx w' t k ks := h.keep (hf.block t (heap_lt h.hd) h1) (hf.block k (heap_lt h.row) h2)
theorem Tx.ne {w : World} {t k : Nat} {ks : List Int} (h : Tx w t k ks) : t ≠ k := by
  rintro rfl
  have := h.hd.symm.trans h.row
  simp at this
theorem Tx.put {w : World} {t k : Nat} {ks : List Int} (h : Tx w t k ks) (i : Nat) (v : Int) : Tx (w.setCell ⟨k, i, none⟩ (.int .i64 v)) t k (ks.set i v) := by
  refine ⟨?_, ?_, by simpa using h.le⟩
  · rw [heap_setCell_other _ _ _ _ h.ne, h.hd, List.length_set]
  · rw [heap_setCell_same w k i _ _ _ h.row, ints_set]
theorem Tx.cells {w : World} {t k : Nat} {ks : List Int} (h : Tx w t k ks) : w.cell? ⟨t, 0, none⟩ = some (.bool true) ∧ w.cell? ⟨t, 1, none⟩ = some (.slice (some ⟨k, 0, none⟩) ks.length ks.length) := ⟨cell_of_row _ _ _ _ _ _ h.hd, cell_of_row _ _ _ _ _ _ h.hd⟩
theorem Tx.kind {w : World} {t k : Nat} {ks : List Int} (h : Tx w t k ks) {i : Nat} (hi : i < ks.length) : w.cell? ⟨k, i, none⟩ = some (.int .i64 (ks.getD i 0)) := by
  rw [cell_of_row _ _ _ _ _ _ h.row, ints_get hi]
end Go.Proofs.YtjoejjhgneccgaaGreat
