/- Where things are: package geo, and a number between two. -/
import Derived.Test.YtjoejjhgneccgaaGreatDoorQSN01
import Derived.Test.YtjoejjhgneccgaaGreatDoorQSN02
import Derived.IntWalk
namespace Go.Proofs.YtjoejjhgneccgaaGreatDoor
open Go.RowKit

def clampN (a lo hi : Int) : Int := if a < lo then lo else if hi < a then hi else a
theorem clampN_bd {a lo hi : Int} (h : lo ≤ hi) : lo ≤ clampN a lo hi ∧ clampN a lo hi ≤ hi := by unfold clampN; omega
theorem clampn_any (a lo hi : Int) (w : World) :
    Calls Tryz.prog 58 #[.int .i64 a, .int .i64 lo, .int .i64 hi] w fun e w' => e = .returned (.int .i64 (clampN a lo hi)) ∧ w = w' := by
  by_cases h1 : a < lo
  · have hs := Lib.hid (show clampN a lo hi = lo by unfold clampN; rw [if_pos h1])
    go_enter Tryz.func58, Tryz.ntmps58
    go_wp2_with fail
    go_ret
    exact ⟨ret_int hs.out.symm, rfl⟩
  by_cases h2 : hi < a
  · have hs := Lib.hid (show clampN a lo hi = hi by unfold clampN; rw [if_neg h1, if_pos h2])
    go_enter Tryz.func58, Tryz.ntmps58
    go_wp2_with fail
    go_ret
    exact ⟨ret_int hs.out.symm, rfl⟩
  · have hs := Lib.hid (show clampN a lo hi = a by unfold clampN; rw [if_neg h1, if_neg h2])
    go_enter Tryz.func58, Tryz.ntmps58
    go_wp2_with fail
    go_ret
    exact ⟨ret_int hs.out.symm, rfl⟩

/-- The page that an address is in. -/
def pageI (a : Int) : Int := if a < 0 ∨ 2048 ≤ a then -1 else a / 32
theorem pageI_in {a : Int} (h0 : 0 ≤ a) (h1 : a < 2048) : pageI a = a / 32 := by unfold pageI; rw [if_neg (by omega)]
theorem pageI_out {a : Int} (h : a < 0 ∨ 2048 ≤ a) : pageI a = -1 := by unfold pageI; rw [if_pos h]
theorem pageI_bd (a : Int) : -1 ≤ pageI a ∧ pageI a < 64 := by unfold pageI; split <;> omega
theorem gpage_any (a : Int) (w : World) :
    Calls Tryz.prog 103 #[.int .i64 a] w fun e w' => e = .returned (.int .i64 (pageI a)) ∧ w = w' := by
  by_cases h1 : a < 0
  · have hs := Lib.hid (pageI_out (a := a) (.inl h1))
    go_enter Tryz.func103, Tryz.ntmps103
    go_wp2_with fail
    go_ret
    exact ⟨ret_int hs.out.symm, rfl⟩
  by_cases h2 : 2048 ≤ a
  · have hs := Lib.hid (pageI_out (a := a) (.inr h2))
    go_enter Tryz.func103, Tryz.ntmps103
    go_wp2_with fail
    go_ret
    exact ⟨ret_int hs.out.symm, rfl⟩
  · have hs := Lib.hid (pageI_in (a := a) (by omega) (by omega))
    have h3 : 0 ≤ a := by omega
    go_enter Tryz.func103, Tryz.ntmps103
    go_wp2_with fail
    go_ret
    exact ⟨ret_int hs.out.symm, rfl⟩
theorem goff_any (a : Int) (h0 : 0 ≤ a) (h1 : a < 2048) (w : World) :
    Calls Tryz.prog 192 #[.int .i64 a] w fun e w' => e = .returned (.int .i64 (a % 32)) ∧ w = w' := by
  have hs := pageI_in h0 h1
  have hp : 0 ≤ pageI a := by rw [hs]; omega
  clear hs
  go_enter Tryz.func192, Tryz.ntmps192
  go_wp2_with (go_at_call 103; refine (gpage_any a _).mono ?_; rintro e w' ⟨rfl, rfl⟩)
  go_ret
  exact ⟨rfl, rfl⟩
/-- Is it a cell of a page? -/
def atB (p k i : Int) : Bool := decide (0 ≤ p ∧ p < 64 ∧ 0 ≤ i ∧ i < cellsI k)
set_option maxHeartbeats 1000000 in
theorem at_yes (p k i : Int) (h : atB p k i = true) (w : World) :
    Calls Tryz.prog 141 #[.int .i64 p, .int .i64 k, .int .i64 i] w fun e w' => e = .returned (.tuple #[.int .i64 (p * 32 + i * sizeI k), .bool true]) ∧ w = w' := by
  simp only [atB, decide_eq_true_eq] at h
  obtain ⟨h0, h1, h2, h3⟩ := h
  have hc : cellsI k ≤ 16 := by unfold cellsI; omega
  have hs := sizeI_bd k
  have hm : 0 ≤ i * sizeI k ∧ i * sizeI k ≤ 16 * 16 := ⟨Int.mul_nonneg h2 hs.1, Int.mul_le_mul (by omega) hs.2 hs.1 (by omega)⟩
  obtain ⟨hm0, hm1⟩ := hm
  clear hc
  go_enter Tryz.func141, Tryz.ntmps141
  go_wp2_with (first | (go_at_call 157; refine (cells_any k _).mono ?_; rintro e w' ⟨rfl, rfl⟩) | (go_at_call 138; refine (size_any k _).mono ?_; rintro e w' ⟨rfl, rfl⟩))
  go_ret2
  exact ⟨rfl, rfl⟩
set_option maxHeartbeats 1000000 in
theorem at_no (p k i : Int) (h : atB p k i = false) (w : World) :
    Calls Tryz.prog 141 #[.int .i64 p, .int .i64 k, .int .i64 i] w fun e w' => e = .returned (.tuple #[.int .i64 0, .bool false]) ∧ w = w' := by
  simp only [atB, decide_eq_false_iff_not] at h
  by_cases h0 : p < 0
  · clear h
    go_enter Tryz.func141, Tryz.ntmps141
    go_wp2_with fail
    go_ret2
    exact ⟨rfl, rfl⟩
  by_cases h1 : 64 ≤ p
  · clear h
    go_enter Tryz.func141, Tryz.ntmps141
    go_wp2_with fail
    go_ret2
    exact ⟨rfl, rfl⟩
  by_cases h2 : i < 0
  · clear h
    go_enter Tryz.func141, Tryz.ntmps141
    go_wp2_with fail
    go_ret2
    exact ⟨rfl, rfl⟩
  have h3 : cellsI k ≤ i := by omega
  clear h
  go_enter Tryz.func141, Tryz.ntmps141
  go_wp2_with (go_at_call 157; refine (cells_any k _).mono ?_; rintro e w' ⟨rfl, rfl⟩)
  go_ret2
  exact ⟨rfl, rfl⟩
/-- Where the cell begins that an address is in. -/
def baseI (k a : Int) : Int := if sizeI k = 0 ∨ a < 0 ∨ 2048 ≤ a then -1 else a - a % sizeI k
theorem baseI_in {k a : Int} (hs : sizeI k ≠ 0) (h0 : 0 ≤ a) (h1 : a < 2048) : baseI k a = a - a % sizeI k := by unfold baseI; rw [if_neg (by omega)]
theorem baseI_out {k a : Int} (h : sizeI k = 0 ∨ a < 0 ∨ 2048 ≤ a) : baseI k a = -1 := by unfold baseI; rw [if_pos h]
set_option maxHeartbeats 1000000 in
theorem gbase_any (k a : Int) (w : World) :
    Calls Tryz.prog 191 #[.int .i64 k, .int .i64 a] w fun e w' => e = .returned (.int .i64 (baseI k a)) ∧ w = w' := by
  have hb := sizeI_bd k
  by_cases hz : sizeI k = 0
  · have hs := Lib.hid (baseI_out (k := k) (a := a) (.inl hz))
    have h1 : (sizeI k == 0) = true := by simp [hz]
    clear hz
    go_enter Tryz.func191, Tryz.ntmps191
    go_wp2_with (go_at_call 138; refine (size_any k _).mono ?_; rintro e w1 ⟨rfl, rfl⟩)
    go_ret
    exact ⟨ret_int hs.out.symm, rfl⟩
  have h1 : (sizeI k == 0) = false := by simp [hz]
  by_cases ha : a < 0 ∨ 2048 ≤ a
  · have hs := Lib.hid (baseI_out (k := k) (a := a) (.inr ha))
    have hp : pageI a < 0 := by rw [pageI_out ha]; omega
    clear hz ha
    go_enter Tryz.func191, Tryz.ntmps191
    go_wp2_with (first | (go_at_call 138; refine (size_any k _).mono ?_; rintro e w1 ⟨rfl, rfl⟩) | (go_at_call 103; refine (gpage_any a _).mono ?_; rintro e w' ⟨rfl, rfl⟩))
    go_ret
    exact ⟨ret_int hs.out.symm, rfl⟩
  · have h0 : 0 ≤ a := by omega
    have h2 : a < 2048 := by omega
    have hs := Lib.hid (baseI_in hz h0 h2)
    have hp : 0 ≤ pageI a := by rw [pageI_in h0 h2]; omega
    have hpos : 0 < sizeI k := by omega
    have hm0 := Int.emod_nonneg a hz
    have hm1 := Int.emod_lt_of_pos a hpos
    clear ha hz
    go_enter Tryz.func191, Tryz.ntmps191
    go_wp2_with (first | (go_at_call 138; refine (size_any k _).mono ?_; rintro e w1 ⟨rfl, rfl⟩) | (go_at_call 103; refine (gpage_any a _).mono ?_; rintro e w' ⟨rfl, rfl⟩))
    go_ret
    exact ⟨ret_int hs.out.symm, rfl⟩
set_option maxHeartbeats 1000000 in
/-- Which cell begins at an address. -/
theorem gcell_yes (k a : Int) (hz : sizeI k ≠ 0) (h0 : 0 ≤ a) (h2 : a < 2048) (hm : a % sizeI k = 0) (w : World) :
    Calls Tryz.prog 152 #[.int .i64 k, .int .i64 a] w fun e w' => e = .returned (.tuple #[.int .i64 (a % 32 / sizeI k), .bool true]) ∧ w = w' := by
  have hb := sizeI_bd k
  have hs : baseI k a = a := by rw [baseI_in hz h0 h2]; omega
  have hpos : 0 < sizeI k := by omega
  have HS := Lib.hid hs
  clear hs hm hz
  go_enter Tryz.func152, Tryz.ntmps152
  go_wp2_with (first | (go_at_call 191; refine (gbase_any k a _).mono ?_; rintro e w1 ⟨rfl, rfl⟩; rw [HS.out]) | (go_at_call 138; refine (size_any k _).mono ?_; rintro e w1 ⟨rfl, rfl⟩) | (go_at_call 192; refine (goff_any a h0 h2 _).mono ?_; rintro e w' ⟨rfl, rfl⟩))
  go_ret2
  exact ⟨rfl, rfl⟩
/-- Are they pages? -/
def endB (p n : Int) : Bool := decide (0 ≤ p ∧ 1 ≤ n ∧ p < 64 ∧ n ≤ 64 - p)
set_option maxHeartbeats 1000000 in
theorem ends_yes (p n : Int) (h : endB p n = true) (w : World) :
    Calls Tryz.prog 146 #[.int .i64 p, .int .i64 n] w fun e w' => e = .returned (.tuple #[.int .i64 (p * 32), .int .i64 ((p + n) * 32 - 1), .bool true]) ∧ w = w' := by
  simp only [endB, decide_eq_true_eq] at h
  obtain ⟨h0, h1, h2, h3⟩ := h
  go_enter Tryz.func146, Tryz.ntmps146
  go_wp2_with fail
  go_ret3
  exact ⟨rfl, rfl⟩
set_option maxHeartbeats 1000000 in
theorem ends_no (p n : Int) (h : endB p n = false) (w : World) :
    Calls Tryz.prog 146 #[.int .i64 p, .int .i64 n] w fun e w' => e = .returned (.tuple #[.int .i64 0, .int .i64 0, .bool false]) ∧ w = w' := by
  simp only [endB, decide_eq_false_iff_not] at h
  by_cases h0 : p < 0
  · clear h
    go_enter Tryz.func146, Tryz.ntmps146
    go_wp2_with fail
    go_ret3
    exact ⟨rfl, rfl⟩
  by_cases h1 : n < 1
  · clear h
    go_enter Tryz.func146, Tryz.ntmps146
    go_wp2_with fail
    go_ret3
    exact ⟨rfl, rfl⟩
  by_cases h2 : 64 ≤ p
  · clear h
    go_enter Tryz.func146, Tryz.ntmps146
    go_wp2_with fail
    go_ret3
    exact ⟨rfl, rfl⟩
  have h3 : 64 - p < n := by omega
  clear h
  go_enter Tryz.func146, Tryz.ntmps146
  go_wp2_with fail
  go_ret3
  exact ⟨rfl, rfl⟩
end Go.Proofs.YtjoejjhgneccgaaGreatDoor

/- What the functions of package bitmap come to. -/
namespace Go.Proofs.YtjoejjhgneccgaaGreatDoor
open Go.RowKit

def inB (n : Nat) (i : Int) : Bool := decide (0 ≤ i ∧ i < n)
set_option maxHeartbeats 1000000 in
theorem sin_any {w : World} {s n : Nat} {ws : List (BitVec 64)} (h : Sx w s n ws) (i : Int) :
    Calls Tryz.prog 166 #[.pointer (some ⟨s, 0, none⟩), .int .i64 i] w fun e w' => e = .returned (.bool (inB n i)) ∧ w = w' := by
  obtain ⟨c0, c1⟩ := h.cells
  clear h
  by_cases h0 : i < 0
  · have hs := Lib.hid (show inB n i = false by simp [inB]; omega)
    have d0 : decide (0 ≤ i) = false := by simp; omega
    go_enter Tryz.func166, Tryz.ntmps166
    go_wp2_with fail
    go_ret
    exact ⟨ret_bool hs.out.symm, rfl⟩
  · have h0' : 0 ≤ i := by omega
    have hs := Lib.hid (show inB n i = decide (i < n) by simp [inB, h0'])
    go_enter Tryz.func166, Tryz.ntmps166
    go_wp2_with fail
    go_ret
    exact ⟨ret_bool hs.out.symm, rfl⟩
/-- Is it in it? -/
def hasB (n : Nat) (ws : List (BitVec 64)) (i : Int) : Bool := inB n i && bit ws i.toNat
set_option maxHeartbeats 1000000 in
theorem has_any {w : World} {s n : Nat} {ws : List (BitVec 64)} (h : Sx w s n ws) (i : Int) :
    Calls Tryz.prog 114 #[.pointer (some ⟨s, 0, none⟩), .int .i64 i] w fun e w' => e = .returned (.bool (hasB n ws i)) ∧ w = w' := by
  have H := Lib.hid h
  cases hi : inB n i with
  | false =>
    have hs := Lib.hid (show hasB n ws i = false by simp [hasB, hi])
    have HI := Lib.hid hi
    clear h hi
    go_enter Tryz.func114, Tryz.ntmps114
    go_wp2_with (go_at_call 166; refine (sin_any H.out i).mono ?_; rw [HI.out]; rintro e w' ⟨rfl, rfl⟩)
    go_ret
    exact ⟨ret_bool hs.out.symm, rfl⟩
  | true =>
    have hd := hi
    simp only [inB, decide_eq_true_eq] at hd
    obtain ⟨j, rfl⟩ := Int.eq_ofNat_of_zero_le hd.1
    have hn := h.le
    have hq : ((j : Int) / 64) = ((j / 64 : Nat) : Int) := by norm_cast
    have hr : ((j : Int) % 64) = ((j % 64 : Nat) : Int) := by norm_cast
    have cw := h.word (q := j / 64) (by omega)
    have hs := show hasB n ws j = (ws.getD (j / 64) 0#64).getLsbD (j % 64) by simp [hasB, hi, bit]
    obtain ⟨q, e1⟩ : ∃ q, q = j / 64 := ⟨_, rfl⟩
    obtain ⟨r, e2⟩ : ∃ r, r = j % 64 := ⟨_, rfl⟩
    rw [← e1] at hq cw hs
    rw [← e2] at hr hs
    have hr64 : (r : Int) ≤ 64 := by omega
    have hq32 : (q : Int) < 32 := by omega
    obtain ⟨x, hx⟩ : ∃ x, x = ws.getD q 0#64 := ⟨_, rfl⟩
    rw [← hx] at cw hs
    have cw' : w.cell? ⟨s, 2 + q, none⟩ = some (.int .u64 x.toNat) := cw
    have HA := shr_and x r
    have hs' := Lib.hid hs
    have HI := Lib.hid hi
    clear h hi hd hs cw hx e1 e2 hn
    cases hb : x.getLsbD r with
    | true =>
      rw [hb, if_pos rfl] at HA
      rw [hb] at hs'
      clear hb
      go_enter Tryz.func114, Tryz.ntmps114
      go_wp2_with (go_at_call 166; refine (sin_any H.out j).mono ?_; rw [HI.out]; rintro e w' ⟨rfl, rfl⟩)
      go_ret
      exact ⟨ret_bool hs'.out.symm, rfl⟩
    | false =>
      rw [hb] at HA hs'
      simp only [Bool.false_eq_true, if_false] at HA
      clear hb
      go_enter Tryz.func114, Tryz.ntmps114
      go_wp2_with (go_at_call 166; refine (sin_any H.out j).mono ?_; rw [HI.out]; rintro e w' ⟨rfl, rfl⟩)
      go_ret
      exact ⟨ret_bool hs'.out.symm, rfl⟩
end Go.Proofs.YtjoejjhgneccgaaGreatDoor

/- Sets: added, removed. -/
namespace Go.Proofs.YtjoejjhgneccgaaGreatDoor
open Go.RowKit

def addB (n : Nat) (ws : List (BitVec 64)) (i : Int) : Bool := inB n i && !bit ws i.toNat
def addL (n : Nat) (ws : List (BitVec 64)) (i : Int) : List (BitVec 64) := if addB n ws i = true then bitOn ws i.toNat else ws
def remL (n : Nat) (ws : List (BitVec 64)) (i : Int) : List (BitVec 64) := if hasB n ws i = true then bitOff ws i.toNat else ws
theorem or_word (x : BitVec 64) (r : Nat) (hr : r < 64) : bits .or .u64 (x.toNat : Int) (IntKind.u64.wrap (2 ^ r)) = ((x ||| (1#64 <<< r)).toNat : Int) := by
  rw [← Int.one_mul (2 ^ r), shl_one r hr, or_words]
theorem andnot_word (x : BitVec 64) (r : Nat) (hr : r < 64) : bits .andNot .u64 (x.toNat : Int) (IntKind.u64.wrap (2 ^ r)) = ((x &&& ~~~(1#64 <<< r)).toNat : Int) := by
  rw [← Int.one_mul (2 ^ r), shl_one r hr, andnot_words]
set_option maxHeartbeats 2000000 in
set_option maxRecDepth 100000 in
theorem add_no {w : World} {s n : Nat} {ws : List (BitVec 64)} (h : Sx w s n ws) (i : Int) (hb : addB n ws i = false) :
    Calls Tryz.prog 113 #[.pointer (some ⟨s, 0, none⟩), .int .i64 i] w fun e w' => e = .returned (.bool false) ∧ w = w' := by
  have H := Lib.hid h
  cases hi : inB n i with
  | false =>
    have HI := Lib.hid hi
    clear h hi hb
    go_enter Tryz.func113, Tryz.ntmps113
    go_wp2_with (go_at_call 166; refine (sin_any H.out i).mono ?_; rw [HI.out]; rintro e w' ⟨rfl, rfl⟩)
    go_ret
    exact ⟨rfl, rfl⟩
  | true =>
    have HI := Lib.hid hi
    have HB := Lib.hid (show hasB n ws i = true by simp [addB, hi] at hb; simp [hasB, hi, hb])
    clear h hi hb
    go_enter Tryz.func113, Tryz.ntmps113
    go_wp2_with (first | (go_at_call 166; refine (sin_any H.out i).mono ?_; rw [HI.out]; rintro e w' ⟨rfl, rfl⟩) | (go_at_call 114; refine (has_any H.out i).mono ?_; rw [HB.out]; rintro e w' ⟨rfl, rfl⟩))
    go_ret
    exact ⟨rfl, rfl⟩
set_option maxHeartbeats 2000000 in
set_option maxRecDepth 100000 in
theorem add_yes {w : World} {s n : Nat} {ws : List (BitVec 64)} (h : Sx w s n ws) (i : Int) (hb : addB n ws i = true) :
    Calls Tryz.prog 113 #[.pointer (some ⟨s, 0, none⟩), .int .i64 i] w fun e w' => e = .returned (.bool true) ∧ Sx w' s n (bitOn ws i.toNat) ∧ Frm [s] w w' := by
  have H := Lib.hid h
  have hd := hb
  simp only [addB, inB, Bool.and_eq_true, decide_eq_true_eq, Bool.not_eq_true'] at hd
  obtain ⟨⟨hd0, hd1⟩, hd2⟩ := hd
  obtain ⟨j, rfl⟩ := Int.eq_ofNat_of_zero_le hd0
  rw [Int.toNat_natCast] at hd2 ⊢
  have hin : inB n j = true := by simp [inB]; omega
  have HI := Lib.hid hin
  have HB := Lib.hid (show hasB n ws j = false by simp [hasB, hd2])
  have hn := h.le
  have hq : ((j : Int) / 64) = ((j / 64 : Nat) : Int) := by norm_cast
  have hr : ((j : Int) % 64) = ((j % 64 : Nat) : Int) := by norm_cast
  have hq2 : j / 64 < 32 := by omega
  have hr2 : j % 64 < 64 := by omega
  have cw := h.word hq2
  have ho := or_word (ws.getD (j / 64) 0#64) (j % 64) hr2
  have HT := Lib.hid (show ∀ k, n ≤ k → k < 2048 → bit (bitOn ws j) k = false from fun k h1 h2 => by rw [bitOn_get h.len (by omega), h.top k h1 h2]; simp; omega)
  have HL : Hid (bitOn ws j = ws.set (j / 64) (ws.getD (j / 64) 0#64 ||| (1#64 <<< (j % 64)))) := Lib.hid rfl
  obtain ⟨q, e1⟩ : ∃ q, q = j / 64 := ⟨_, rfl⟩
  obtain ⟨r, e2⟩ : ∃ r, r = j % 64 := ⟨_, rfl⟩
  rw [← e1] at hq cw ho hq2 HL
  rw [← e2] at hr ho hr2 HL
  have hr64 : (r : Int) ≤ 64 := by omega
  have hq32 : (q : Int) < 32 := by omega
  have hq0 : (0 : Int) ≤ (q : Int) := by omega
  have hr0 : (0 : Int) ≤ (r : Int) := by omega
  have hwq : IntKind.i64.wrap (q : Int) = q := IntWalk.i64_in _ (by omega)
  have hwr : IntKind.i64.wrap (r : Int) = r := IntWalk.i64_in _ (by omega)
  have htr : (j : Int).tmod 64 = r := by rw [Int.tmod_eq_emod_of_nonneg (by omega)]; exact hr
  obtain ⟨x, hx⟩ : ∃ x, x = ws.getD q 0#64 := ⟨_, rfl⟩
  rw [← hx] at cw ho HL
  have cw' : w.cell? ⟨s, 2 + q, none⟩ = some (.int .u64 x.toNat) := cw
  have fz := frozen_of_row w s (2 + q) _ _ h.hd
  obtain ⟨y, hy⟩ : ∃ y, y = x ||| 1#64 <<< r := ⟨_, rfl⟩
  rw [← hy] at ho HL
  clear h hb hd0 hd1 hd2 hin cw hx hy e1 e2 hn
  go_enter Tryz.func113, Tryz.ntmps113
  go_wp2_with (first | (go_at_call 166; refine (sin_any H.out j).mono ?_; rw [HI.out]; rintro e w' ⟨rfl, rfl⟩) | (go_at_call 114; refine (has_any H.out j).mono ?_; rw [HB.out]; rintro e w' ⟨rfl, rfl⟩))
  refine region_tail 14 (by kernel_rfl) (by kernel_rfl) ?_
  simp only [List.take_succ_cons, List.take_zero, List.drop_succ_cons, List.drop_zero]
  repeat still_step
  refine wpStill_nil ?_
  go_wp2_with fail
  go_ret
  exact ⟨rfl, by have ht := HT.out; rw [HL.out] at ht ⊢; exact (H.out.put y ht).below (Below.refl _ _).drew, (Frm.setCell w (by simp) _).trans (Frm.of_below [s] (Below.refl _ _).drew) (fun x hx => .inl hx)⟩
theorem add_any {w : World} {s n : Nat} {ws : List (BitVec 64)} (h : Sx w s n ws) (i : Int) :
    Calls Tryz.prog 113 #[.pointer (some ⟨s, 0, none⟩), .int .i64 i] w fun e w' => e = .returned (.bool (addB n ws i)) ∧ Sx w' s n (addL n ws i) ∧ Frm [s] w w' := by
  unfold addL
  cases hb : addB n ws i with
  | false => exact (add_no h i hb).mono fun e w' ⟨he, hw⟩ => ⟨he, by subst hw; exact h, by subst hw; exact Frm.refl _ _⟩
  | true => exact (add_yes h i hb).mono fun e w' ⟨he, hs, hf⟩ => ⟨he, hs, hf⟩
set_option maxHeartbeats 2000000 in
set_option maxRecDepth 100000 in
theorem rem_no {w : World} {s n : Nat} {ws : List (BitVec 64)} (h : Sx w s n ws) (i : Int) (hb : hasB n ws i = false) :
    Calls Tryz.prog 115 #[.pointer (some ⟨s, 0, none⟩), .int .i64 i] w fun e w' => e = .returned (.bool false) ∧ w = w' := by
  have H := Lib.hid h
  have HB := Lib.hid hb
  clear h hb
  go_enter Tryz.func115, Tryz.ntmps115
  go_wp2_with (go_at_call 114; refine (has_any H.out i).mono ?_; rw [HB.out]; rintro e w' ⟨rfl, rfl⟩)
  go_ret
  exact ⟨rfl, rfl⟩
set_option maxHeartbeats 2000000 in
set_option maxRecDepth 100000 in
theorem rem_yes {w : World} {s n : Nat} {ws : List (BitVec 64)} (h : Sx w s n ws) (i : Int) (hb : hasB n ws i = true) :
    Calls Tryz.prog 115 #[.pointer (some ⟨s, 0, none⟩), .int .i64 i] w fun e w' => e = .returned (.bool true) ∧ Sx w' s n (bitOff ws i.toNat) ∧ Frm [s] w w' := by
  have H := Lib.hid h
  have HB := Lib.hid hb
  have hd := hb
  simp only [hasB, inB, Bool.and_eq_true, decide_eq_true_eq] at hd
  obtain ⟨⟨hd0, hd1⟩, hd2⟩ := hd
  obtain ⟨j, rfl⟩ := Int.eq_ofNat_of_zero_le hd0
  rw [Int.toNat_natCast]
  have hn := h.le
  have hq : ((j : Int) / 64) = ((j / 64 : Nat) : Int) := by norm_cast
  have hr : ((j : Int) % 64) = ((j % 64 : Nat) : Int) := by norm_cast
  have hq2 : j / 64 < 32 := by omega
  have hr2 : j % 64 < 64 := by omega
  have cw := h.word hq2
  have ho := andnot_word (ws.getD (j / 64) 0#64) (j % 64) hr2
  have HT := Lib.hid (show ∀ k, n ≤ k → k < 2048 → bit (bitOff ws j) k = false from fun k h1 h2 => by rw [bitOff_get h.len (by omega), h.top k h1 h2]; simp)
  have HL : Hid (bitOff ws j = ws.set (j / 64) (ws.getD (j / 64) 0#64 &&& ~~~(1#64 <<< (j % 64)))) := Lib.hid rfl
  obtain ⟨q, e1⟩ : ∃ q, q = j / 64 := ⟨_, rfl⟩
  obtain ⟨r, e2⟩ : ∃ r, r = j % 64 := ⟨_, rfl⟩
  rw [← e1] at hq cw ho hq2 HL
  rw [← e2] at hr ho hr2 HL
  have hr64 : (r : Int) ≤ 64 := by omega
  have hq32 : (q : Int) < 32 := by omega
  have hq0 : (0 : Int) ≤ (q : Int) := by omega
  have hr0 : (0 : Int) ≤ (r : Int) := by omega
  have hwq : IntKind.i64.wrap (q : Int) = q := IntWalk.i64_in _ (by omega)
  have hwr : IntKind.i64.wrap (r : Int) = r := IntWalk.i64_in _ (by omega)
  have htr : (j : Int).tmod 64 = r := by rw [Int.tmod_eq_emod_of_nonneg (by omega)]; exact hr
  obtain ⟨x, hx⟩ : ∃ x, x = ws.getD q 0#64 := ⟨_, rfl⟩
  rw [← hx] at cw ho HL
  have cw' : w.cell? ⟨s, 2 + q, none⟩ = some (.int .u64 x.toNat) := cw
  have fz := frozen_of_row w s (2 + q) _ _ h.hd
  obtain ⟨y, hy⟩ : ∃ y, y = x &&& ~~~(1#64 <<< r) := ⟨_, rfl⟩
  rw [← hy] at ho HL
  clear h hb hd0 hd1 hd2 cw hx hy e1 e2 hn
  go_enter Tryz.func115, Tryz.ntmps115
  go_wp2_with (go_at_call 114; refine (has_any H.out j).mono ?_; rw [HB.out]; rintro e w' ⟨rfl, rfl⟩)
  refine region_tail 14 (by kernel_rfl) (by kernel_rfl) ?_
  simp only [List.take_succ_cons, List.take_zero, List.drop_succ_cons, List.drop_zero]
  repeat still_step
  refine wpStill_nil ?_
  go_wp2_with fail
  go_ret
  exact ⟨rfl, by have ht := HT.out; rw [HL.out] at ht ⊢; exact (H.out.put y ht).below (Below.refl _ _).drew, (Frm.setCell w (by simp) _).trans (Frm.of_below [s] (Below.refl _ _).drew) (fun x hx => .inl hx)⟩
theorem rem_any {w : World} {s n : Nat} {ws : List (BitVec 64)} (h : Sx w s n ws) (i : Int) :
    Calls Tryz.prog 115 #[.pointer (some ⟨s, 0, none⟩), .int .i64 i] w fun e w' => e = .returned (.bool (hasB n ws i)) ∧ Sx w' s n (remL n ws i) ∧ Frm [s] w w' := by
  unfold remL
  cases hb : hasB n ws i with
  | false => exact (rem_no h i hb).mono fun e w' ⟨he, hw⟩ => ⟨he, by subst hw; exact h, by subst hw; exact Frm.refl _ _⟩
  | true => exact (rem_yes h i hb).mono fun e w' ⟨he, hs, hf⟩ => ⟨he, hs, hf⟩
end Go.Proofs.YtjoejjhgneccgaaGreatDoor
