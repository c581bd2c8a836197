/- Where things are: package geo, and a number between two. -/
import Derived.Test.YtfocdbflmodfhaaDoorClsS
namespace Go.Proofs.YtfocdbflmodfhaaDoor
open Go.RowKit

def clampN (a lo hi : Int) : Int := if a < lo then lo else if hi < a then hi else a
theorem clampN_bd {a lo hi : Int} (h : lo ≤ hi) : lo ≤ clampN a lo hi ∧ clampN a lo hi ≤ hi := by unfold clampN; omega
theorem clampn_any (a lo hi : Int) (w : World) :
    Calls Tryd.prog 70 #[.int .i64 a, .int .i64 lo, .int .i64 hi] w fun e w' => e = .returned (.int .i64 (clampN a lo hi)) ∧ w = w' := by
  by_cases h1 : a < lo
  · have hs := Lib.hid (show clampN a lo hi = lo by unfold clampN; rw [if_pos h1])
    go_enter Tryd.func70, Tryd.ntmps70
    go_wp2_with fail
    go_ret
    exact ⟨ret_int hs.out.symm, rfl⟩
  by_cases h2 : hi < a
  · have hs := Lib.hid (show clampN a lo hi = hi by unfold clampN; rw [if_neg h1, if_pos h2])
    go_enter Tryd.func70, Tryd.ntmps70
    go_wp2_with fail
    go_ret
    exact ⟨ret_int hs.out.symm, rfl⟩
  · have hs := Lib.hid (show clampN a lo hi = a by unfold clampN; rw [if_neg h1, if_neg h2])
    go_enter Tryd.func70, Tryd.ntmps70
    go_wp2_with fail
    go_ret
    exact ⟨ret_int hs.out.symm, rfl⟩

/-- The page that an address is in. -/
def pageI (a : Int) : Int := if a < 0 ∨ 2048 ≤ a then -1 else a / 32
theorem pageI_in {a : Int} (h0 : 0 ≤ a) (h1 : a < 2048) : pageI a = a / 32 := by unfold pageI; rw [if_neg (by omega)]
theorem pageI_out {a : Int} (h : a < 0 ∨ 2048 ≤ a) : pageI a = -1 := by unfold pageI; rw [if_pos h]
theorem pageI_bd (a : Int) : -1 ≤ pageI a ∧ pageI a < 64 := by unfold pageI; split <;> omega
theorem gpage_any (a : Int) (w : World) :
    Calls Tryd.prog 45 #[.int .i64 a] w fun e w' => e = .returned (.int .i64 (pageI a)) ∧ w = w' := by
  by_cases h1 : a < 0
  · have hs := Lib.hid (pageI_out (a := a) (.inl h1))
    go_enter Tryd.func45, Tryd.ntmps45
    go_wp2_with fail
    go_ret
    exact ⟨ret_int hs.out.symm, rfl⟩
  by_cases h2 : 2048 ≤ a
  · have hs := Lib.hid (pageI_out (a := a) (.inr h2))
    go_enter Tryd.func45, Tryd.ntmps45
    go_wp2_with fail
    go_ret
    exact ⟨ret_int hs.out.symm, rfl⟩
  · have hs := Lib.hid (pageI_in (a := a) (by omega) (by omega))
    have h3 : 0 ≤ a := by omega
    go_enter Tryd.func45, Tryd.ntmps45
    go_wp2_with fail
    go_ret
    exact ⟨ret_int hs.out.symm, rfl⟩
theorem goff_any (a : Int) (h0 : 0 ≤ a) (h1 : a < 2048) (w : World) :
    Calls Tryd.prog 81 #[.int .i64 a] w fun e w' => e = .returned (.int .i64 (a % 32)) ∧ w = w' := by
  have hs := pageI_in h0 h1
  have hp : 0 ≤ pageI a := by rw [hs]; omega
  clear hs
  go_enter Tryd.func81, Tryd.ntmps81
  go_wp2_with (go_at_call 45; refine (gpage_any a _).mono ?_; rintro e w' ⟨rfl, rfl⟩)
  go_ret
  exact ⟨rfl, rfl⟩
/-- Is it a cell of a page? -/
def atB (p k i : Int) : Bool := decide (0 ≤ p ∧ p < 64 ∧ 0 ≤ i ∧ i < cellsI k)
set_option maxHeartbeats 1000000 in
theorem at_yes (p k i : Int) (h : atB p k i = true) (w : World) :
    Calls Tryd.prog 38 #[.int .i64 p, .int .i64 k, .int .i64 i] w fun e w' => e = .returned (.tuple #[.int .i64 (p * 32 + i * sizeI k), .bool true]) ∧ w = w' := by
  simp only [atB, decide_eq_true_eq] at h
  obtain ⟨h0, h1, h2, h3⟩ := h
  have hc : cellsI k ≤ 16 := by unfold cellsI; omega
  have hs := sizeI_bd k
  have hm : 0 ≤ i * sizeI k ∧ i * sizeI k ≤ 16 * 16 := ⟨Int.mul_nonneg h2 hs.1, Int.mul_le_mul (by omega) hs.2 hs.1 (by omega)⟩
  obtain ⟨hm0, hm1⟩ := hm
  clear hc
  go_enter Tryd.func38, Tryd.ntmps38
  go_wp2_with (first | (go_at_call 50; refine (cells_any k _).mono ?_; rintro e w' ⟨rfl, rfl⟩) | (go_at_call 41; refine (size_any k _).mono ?_; rintro e w' ⟨rfl, rfl⟩))
  go_ret2
  exact ⟨rfl, rfl⟩
set_option maxHeartbeats 1000000 in
theorem at_no (p k i : Int) (h : atB p k i = false) (w : World) :
    Calls Tryd.prog 38 #[.int .i64 p, .int .i64 k, .int .i64 i] w fun e w' => e = .returned (.tuple #[.int .i64 0, .bool false]) ∧ w = w' := by
  simp only [atB, decide_eq_false_iff_not] at h
  by_cases h0 : p < 0
  · clear h
    go_enter Tryd.func38, Tryd.ntmps38
    go_wp2_with fail
    go_ret2
    exact ⟨rfl, rfl⟩
  by_cases h1 : 64 ≤ p
  · clear h
    go_enter Tryd.func38, Tryd.ntmps38
    go_wp2_with fail
    go_ret2
    exact ⟨rfl, rfl⟩
  by_cases h2 : i < 0
  · clear h
    go_enter Tryd.func38, Tryd.ntmps38
    go_wp2_with fail
    go_ret2
    exact ⟨rfl, rfl⟩
  have h3 : cellsI k ≤ i := by omega
  clear h
  go_enter Tryd.func38, Tryd.ntmps38
  go_wp2_with (go_at_call 50; refine (cells_any k _).mono ?_; rintro e w' ⟨rfl, rfl⟩)
  go_ret2
  exact ⟨rfl, rfl⟩
/-- Where the cell begins that an address is in. -/
def baseI (k a : Int) : Int := if sizeI k = 0 ∨ a < 0 ∨ 2048 ≤ a then -1 else a - a % sizeI k
theorem baseI_in {k a : Int} (hs : sizeI k ≠ 0) (h0 : 0 ≤ a) (h1 : a < 2048) : baseI k a = a - a % sizeI k := by unfold baseI; rw [if_neg (by omega)]
theorem baseI_out {k a : Int} (h : sizeI k = 0 ∨ a < 0 ∨ 2048 ≤ a) : baseI k a = -1 := by unfold baseI; rw [if_pos h]
set_option maxHeartbeats 1000000 in
theorem gbase_any (k a : Int) (w : World) :
    Calls Tryd.prog 53 #[.int .i64 k, .int .i64 a] w fun e w' => e = .returned (.int .i64 (baseI k a)) ∧ w = w' := by
  have hb := sizeI_bd k
  by_cases hz : sizeI k = 0
  · have hs := Lib.hid (baseI_out (k := k) (a := a) (.inl hz))
    have h1 : (sizeI k == 0) = true := by simp [hz]
    clear hz
    go_enter Tryd.func53, Tryd.ntmps53
    go_wp2_with (go_at_call 41; refine (size_any k _).mono ?_; rintro e w1 ⟨rfl, rfl⟩)
    go_ret
    exact ⟨ret_int hs.out.symm, rfl⟩
  have h1 : (sizeI k == 0) = false := by simp [hz]
  by_cases ha : a < 0 ∨ 2048 ≤ a
  · have hs := Lib.hid (baseI_out (k := k) (a := a) (.inr ha))
    have hp : pageI a < 0 := by rw [pageI_out ha]; omega
    clear hz ha
    go_enter Tryd.func53, Tryd.ntmps53
    go_wp2_with (first | (go_at_call 41; refine (size_any k _).mono ?_; rintro e w1 ⟨rfl, rfl⟩) | (go_at_call 45; refine (gpage_any a _).mono ?_; rintro e w' ⟨rfl, rfl⟩))
    go_ret
    exact ⟨ret_int hs.out.symm, rfl⟩
  · have h0 : 0 ≤ a := by omega
    have h2 : a < 2048 := by omega
    have hs := Lib.hid (baseI_in hz h0 h2)
    have hp : 0 ≤ pageI a := by rw [pageI_in h0 h2]; omega
    have hpos : 0 < sizeI k := by omega
    have hm0 := Int.emod_nonneg a hz
    have hm1 := Int.emod_lt_of_pos a hpos
    clear ha hz
    go_enter Tryd.func53, Tryd.ntmps53
    go_wp2_with (first | (go_at_call 41; refine (size_any k _).mono ?_; rintro e w1 ⟨rfl, rfl⟩) | (go_at_call 45; refine (gpage_any a _).mono ?_; rintro e w' ⟨rfl, rfl⟩))
    go_ret
    exact ⟨ret_int hs.out.symm, rfl⟩
set_option maxHeartbeats 1000000 in
/-- Which cell begins at an address. -/
theorem gcell_yes (k a : Int) (hz : sizeI k ≠ 0) (h0 : 0 ≤ a) (h2 : a < 2048) (hm : a % sizeI k = 0) (w : World) :
    Calls Tryd.prog 47 #[.int .i64 k, .int .i64 a] w fun e w' => e = .returned (.tuple #[.int .i64 (a % 32 / sizeI k), .bool true]) ∧ w = w' := by
  have hb := sizeI_bd k
  have hs : baseI k a = a := by rw [baseI_in hz h0 h2]; omega
  have hpos : 0 < sizeI k := by omega
  have HS := Lib.hid hs
  clear hs hm hz
  go_enter Tryd.func47, Tryd.ntmps47
  go_wp2_with (first | (go_at_call 53; refine (gbase_any k a _).mono ?_; rintro e w1 ⟨rfl, rfl⟩; rw [HS.out]) | (go_at_call 41; refine (size_any k _).mono ?_; rintro e w1 ⟨rfl, rfl⟩) | (go_at_call 81; refine (goff_any a h0 h2 _).mono ?_; rintro e w' ⟨rfl, rfl⟩))
  go_ret2
  exact ⟨rfl, rfl⟩
/-- Are they pages? -/
def endB (p n : Int) : Bool := decide (0 ≤ p ∧ 1 ≤ n ∧ p < 64 ∧ n ≤ 64 - p)
set_option maxHeartbeats 1000000 in
theorem ends_yes (p n : Int) (h : endB p n = true) (w : World) :
    Calls Tryd.prog 43 #[.int .i64 p, .int .i64 n] w fun e w' => e = .returned (.tuple #[.int .i64 (p * 32), .int .i64 ((p + n) * 32 - 1), .bool true]) ∧ w = w' := by
  simp only [endB, decide_eq_true_eq] at h
  obtain ⟨h0, h1, h2, h3⟩ := h
  go_enter Tryd.func43, Tryd.ntmps43
  go_wp2_with fail
  go_ret3
  exact ⟨rfl, rfl⟩
set_option maxHeartbeats 1000000 in
theorem ends_no (p n : Int) (h : endB p n = false) (w : World) :
    Calls Tryd.prog 43 #[.int .i64 p, .int .i64 n] w fun e w' => e = .returned (.tuple #[.int .i64 0, .int .i64 0, .bool false]) ∧ w = w' := by
  simp only [endB, decide_eq_false_iff_not] at h
  by_cases h0 : p < 0
  · clear h
    go_enter Tryd.func43, Tryd.ntmps43
    go_wp2_with fail
    go_ret3
    exact ⟨rfl, rfl⟩
  by_cases h1 : n < 1
  · clear h
    go_enter Tryd.func43, Tryd.ntmps43
    go_wp2_with fail
    go_ret3
    exact ⟨rfl, rfl⟩
  by_cases h2 : 64 ≤ p
  · clear h
    go_enter Tryd.func43, Tryd.ntmps43
    go_wp2_with fail
    go_ret3
    exact ⟨rfl, rfl⟩
  have h3 : 64 - p < n := by omega
  clear h
  go_enter Tryd.func43, Tryd.ntmps43
  go_wp2_with fail
  go_ret3
  exact ⟨rfl, rfl⟩
end Go.Proofs.YtfocdbflmodfhaaDoor
