/- Classes of cells, in plain numbers. -/
import Derived.Test.YtfocdbflmodfhaaDoorQCR01
import Derived.Test.YtfocdbflmodfhaaDoorQCR02
import Derived.Test.YtfocdbflmodfhaaDoorRows
namespace Go.Proofs.YtfocdbflmodfhaaDoor
open Go.RowKit

def sizeI (k : Int) : Int := if k = 1 then 2 else if k = 2 then 4 else if k = 3 then 8 else if k = 4 then 16 else 0
def ofI (n : Int) : Int := if n < 0 ∨ 127 < n then 0 else if n ≤ 1 then 1 else if n ≤ 3 then 2 else if n ≤ 7 then 3 else if n ≤ 15 then 4 else 5
def cellsI (k : Int) : Int := if k = 1 then 16 else if k = 2 then 8 else if k = 3 then 4 else if k = 4 then 2 else 0
def pagesI (n : Int) : Int := if ofI n = 5 then (n + 32) / 32 else 0
theorem sizeI_pos {k : Int} (h : 1 ≤ k ∧ k ≤ 4) : 2 ≤ sizeI k ∧ sizeI k ≤ 16 := by unfold sizeI; omega
theorem sizeI_zero {k : Int} (h : k < 1 ∨ 5 ≤ k) : sizeI k = 0 := by unfold sizeI; omega
theorem sizeI_bd (k : Int) : 0 ≤ sizeI k ∧ sizeI k ≤ 16 := by unfold sizeI; omega
theorem ofI_bd (n : Int) : 0 ≤ ofI n ∧ ofI n ≤ 5 := by unfold ofI; omega
theorem ofI_out {n : Int} (h : n < 0 ∨ 127 < n) : ofI n = 0 := by unfold ofI; rw [if_pos h]
/-- The first class that is great enough. -/
theorem ofI_first {n k : Int} (h0 : 0 ≤ n) (h1 : n ≤ 127) (hk : 1 ≤ k) (hk5 : k ≤ 5) (hb : ∀ j : Int, 1 ≤ j → j < k → sizeI j < n + 1) (he : k = 5 ∨ n + 1 ≤ sizeI k) : ofI n = k := by
  have b1 : 1 < k → 2 < n + 1 := fun h => by have := hb 1 (by omega) h; simpa [sizeI] using this
  have b2 : 2 < k → 4 < n + 1 := fun h => by have := hb 2 (by omega) h; simpa [sizeI] using this
  have b3 : 3 < k → 8 < n + 1 := fun h => by have := hb 3 (by omega) h; simpa [sizeI] using this
  have b4 : 4 < k → 16 < n + 1 := fun h => by have := hb 4 (by omega) h; simpa [sizeI] using this
  unfold sizeI at he
  unfold ofI
  omega
theorem cellsI_eq (k : Int) : cellsI k = if sizeI k = 0 then 0 else 32 / sizeI k := by
  unfold cellsI sizeI
  by_cases h1 : k = 1
  · subst h1; decide
  by_cases h2 : k = 2
  · subst h2; decide
  by_cases h3 : k = 3
  · subst h3; decide
  by_cases h4 : k = 4
  · subst h4; decide
  simp [h1, h2, h3, h4]
theorem cellsI_pos {k : Int} (h : 1 ≤ k ∧ k ≤ 4) : 2 ≤ cellsI k ∧ cellsI k ≤ 16 := by unfold cellsI; omega
theorem pagesI_bd (n : Int) : 0 ≤ pagesI n ∧ pagesI n ≤ 4 := by unfold pagesI ofI; omega
theorem pagesI_five {n : Int} (h : ofI n = 5) : 16 ≤ n ∧ n ≤ 127 := by unfold ofI at h; omega
end Go.Proofs.YtfocdbflmodfhaaDoor

/- What package class says of a class of cells. -/
namespace Go.Proofs.YtfocdbflmodfhaaDoor
open Go.RowKit

set_option maxHeartbeats 1000000 in
theorem size_any (k : Int) (w : World) :
    Calls Tryd.prog 41 #[.int .i64 k] w fun e w' => e = .returned (.int .i64 (sizeI k)) ∧ w = w' := by
  by_cases h : 1 ≤ k ∧ k ≤ 4
  · have hc : k = 1 ∨ k = 2 ∨ k = 3 ∨ k = 4 := by omega
    clear h
    rcases hc with rfl | rfl | rfl | rfl
    all_goals
      go_enter Tryd.func41, Tryd.ntmps41
      go_wp2_with fail
      go_ret
      exact ⟨rfl, rfl⟩
  · have hs := Lib.hid (sizeI_zero (k := k) (by omega))
    by_cases h1 : k < 1
    · clear h
      go_enter Tryd.func41, Tryd.ntmps41
      go_wp2_with fail
      go_ret
      exact ⟨ret_int hs.out.symm, rfl⟩
    · have h2 : 5 ≤ k := by omega
      clear h
      go_enter Tryd.func41, Tryd.ntmps41
      go_wp2_with fail
      go_ret
      exact ⟨ret_int hs.out.symm, rfl⟩

set_option maxHeartbeats 1000000 in
theorem cells_any (k : Int) (w : World) :
    Calls Tryd.prog 50 #[.int .i64 k] w fun e w' => e = .returned (.int .i64 (cellsI k)) ∧ w = w' := by
  have HE := Lib.hid (cellsI_eq k)
  by_cases h : 1 ≤ k ∧ k ≤ 4
  · have hs := sizeI_pos h
    have h1 : (sizeI k == 0) = false := by simp; omega
    have HE2 := Lib.hid (show cellsI k = 32 / sizeI k from by rw [HE.out, if_neg (by omega)])
    clear h
    go_enter Tryd.func50, Tryd.ntmps50
    go_wp2_with (go_at_call 41; refine (size_any k _).mono ?_; rintro e w1 ⟨rfl, rfl⟩)
    go_ret
    exact ⟨ret_int HE2.out.symm, rfl⟩
  · have hs := sizeI_zero (k := k) (by omega)
    have h1 : (sizeI k == 0) = true := by simp [hs]
    have HE2 := Lib.hid (show cellsI k = 0 from by rw [HE.out, if_pos hs])
    clear h hs
    go_enter Tryd.func50, Tryd.ntmps50
    go_wp2_with (go_at_call 41; refine (size_any k _).mono ?_; rintro e w1 ⟨rfl, rfl⟩)
    go_ret
    exact ⟨ret_int HE2.out.symm, rfl⟩
end Go.Proofs.YtfocdbflmodfhaaDoor

/- Where things are: package geo, and a number between two. -/
namespace Go.Proofs.YtfocdbflmodfhaaDoor
open Go.RowKit

def clampN (a lo hi : Int) : Int := if a < lo then lo else if hi < a then hi else a
theorem clampN_bd {a lo hi : Int} (h : lo ≤ hi) : lo ≤ clampN a lo hi ∧ clampN a lo hi ≤ hi := by unfold clampN; omega
theorem clampn_any (a lo hi : Int) (w : World) :
    Calls Tryd.prog 70 #[.int .i64 a, .int .i64 lo, .int .i64 hi] w fun e w' => e = .returned (.int .i64 (clampN a lo hi)) ∧ w = w' := by
  by_cases h1 : a < lo
  · have hs := Lib.hid (show clampN a lo hi = lo by unfold clampN; rw [if_pos h1])
    go_enter Tryd.func70, Tryd.ntmps70
    go_wp2_with fail
    go_ret
    exact ⟨ret_int hs.out.symm, rfl⟩
  by_cases h2 : hi < a
  · have hs := Lib.hid (show clampN a lo hi = hi by unfold clampN; rw [if_neg h1, if_pos h2])
    go_enter Tryd.func70, Tryd.ntmps70
    go_wp2_with fail
    go_ret
    exact ⟨ret_int hs.out.symm, rfl⟩
  · have hs := Lib.hid (show clampN a lo hi = a by unfold clampN; rw [if_neg h1, if_neg h2])
    go_enter Tryd.func70, Tryd.ntmps70
    go_wp2_with fail
    go_ret
    exact ⟨ret_int hs.out.symm, rfl⟩

/-- The page that an address is in. -/
def pageI (a : Int) : Int := if a < 0 ∨ 2048 ≤ a then -1 else a / 32
theorem pageI_in {a : Int} (h0 : 0 ≤ a) (h1 : a < 2048) : pageI a = a / 32 := by unfold pageI; rw [if_neg (by omega)]
theorem pageI_out {a : Int} (h : a < 0 ∨ 2048 ≤ a) : pageI a = -1 := by unfold pageI; rw [if_pos h]
theorem pageI_bd (a : Int) : -1 ≤ pageI a ∧ pageI a < 64 := by unfold pageI; split <;> omega
theorem gpage_any (a : Int) (w : World) :
    Calls Tryd.prog 45 #[.int .i64 a] w fun e w' => e = .returned (.int .i64 (pageI a)) ∧ w = w' := by
  by_cases h1 : a < 0
  · have hs := Lib.hid (pageI_out (a := a) (.inl h1))
    go_enter Tryd.func45, Tryd.ntmps45
    go_wp2_with fail
    go_ret
    exact ⟨ret_int hs.out.symm, rfl⟩
  by_cases h2 : 2048 ≤ a
  · have hs := Lib.hid (pageI_out (a := a) (.inr h2))
    go_enter Tryd.func45, Tryd.ntmps45
    go_wp2_with fail
    go_ret
    exact ⟨ret_int hs.out.symm, rfl⟩
  · have hs := Lib.hid (pageI_in (a := a) (by omega) (by omega))
    have h3 : 0 ≤ a := by omega
    go_enter Tryd.func45, Tryd.ntmps45
    go_wp2_with fail
    go_ret
    exact ⟨ret_int hs.out.symm, rfl⟩
theorem goff_any (a : Int) (h0 : 0 ≤ a) (h1 : a < 2048) (w : World) :
    Calls Tryd.prog 81 #[.int .i64 a] w fun e w' => e = .returned (.int .i64 (a % 32)) ∧ w = w' := by
  have hs := pageI_in h0 h1
  have hp : 0 ≤ pageI a := by rw [hs]; omega
  clear hs
  go_enter Tryd.func81, Tryd.ntmps81
  go_wp2_with (go_at_call 45; refine (gpage_any a _).mono ?_; rintro e w' ⟨rfl, rfl⟩)
  go_ret
  exact ⟨rfl, rfl⟩
/-- Is it a cell of a page? -/
def atB (p k i : Int) : Bool := decide (0 ≤ p ∧ p < 64 ∧ 0 ≤ i ∧ i < cellsI k)
set_option maxHeartbeats 1000000 in
theorem at_yes (p k i : Int) (h : atB p k i = true) (w : World) :
    Calls Tryd.prog 38 #[.int .i64 p, .int .i64 k, .int .i64 i] w fun e w' => e = .returned (.tuple #[.int .i64 (p * 32 + i * sizeI k), .bool true]) ∧ w = w' := by
  simp only [atB, decide_eq_true_eq] at h
  obtain ⟨h0, h1, h2, h3⟩ := h
  have hc : cellsI k ≤ 16 := by unfold cellsI; omega
  have hs := sizeI_bd k
  have hm : 0 ≤ i * sizeI k ∧ i * sizeI k ≤ 16 * 16 := ⟨Int.mul_nonneg h2 hs.1, Int.mul_le_mul (by omega) hs.2 hs.1 (by omega)⟩
  obtain ⟨hm0, hm1⟩ := hm
  clear hc
  go_enter Tryd.func38, Tryd.ntmps38
  go_wp2_with (first | (go_at_call 50; refine (cells_any k _).mono ?_; rintro e w' ⟨rfl, rfl⟩) | (go_at_call 41; refine (size_any k _).mono ?_; rintro e w' ⟨rfl, rfl⟩))
  go_ret2
  exact ⟨rfl, rfl⟩
set_option maxHeartbeats 1000000 in
theorem at_no (p k i : Int) (h : atB p k i = false) (w : World) :
    Calls Tryd.prog 38 #[.int .i64 p, .int .i64 k, .int .i64 i] w fun e w' => e = .returned (.tuple #[.int .i64 0, .bool false]) ∧ w = w' := by
  simp only [atB, decide_eq_false_iff_not] at h
  by_cases h0 : p < 0
  · clear h
    go_enter Tryd.func38, Tryd.ntmps38
    go_wp2_with fail
    go_ret2
    exact ⟨rfl, rfl⟩
  by_cases h1 : 64 ≤ p
  · clear h
    go_enter Tryd.func38, Tryd.ntmps38
    go_wp2_with fail
    go_ret2
    exact ⟨rfl, rfl⟩
  by_cases h2 : i < 0
  · clear h
    go_enter Tryd.func38, Tryd.ntmps38
    go_wp2_with fail
    go_ret2
    exact ⟨rfl, rfl⟩
  have h3 : cellsI k ≤ i := by omega
  clear h
  go_enter Tryd.func38, Tryd.ntmps38
  go_wp2_with (go_at_call 50; refine (cells_any k _).mono ?_; rintro e w' ⟨rfl, rfl⟩)
  go_ret2
  exact ⟨rfl, rfl⟩
/-- Where the cell begins that an address is in. -/
def baseI (k a : Int) : Int := if sizeI k = 0 ∨ a < 0 ∨ 2048 ≤ a then -1 else a - a % sizeI k
theorem baseI_in {k a : Int} (hs : sizeI k ≠ 0) (h0 : 0 ≤ a) (h1 : a < 2048) : baseI k a = a - a % sizeI k := by unfold baseI; rw [if_neg (by omega)]
theorem baseI_out {k a : Int} (h : sizeI k = 0 ∨ a < 0 ∨ 2048 ≤ a) : baseI k a = -1 := by unfold baseI; rw [if_pos h]
set_option maxHeartbeats 1000000 in
theorem gbase_any (k a : Int) (w : World) :
    Calls Tryd.prog 53 #[.int .i64 k, .int .i64 a] w fun e w' => e = .returned (.int .i64 (baseI k a)) ∧ w = w' := by
  have hb := sizeI_bd k
  by_cases hz : sizeI k = 0
  · have hs := Lib.hid (baseI_out (k := k) (a := a) (.inl hz))
    have h1 : (sizeI k == 0) = true := by simp [hz]
    clear hz
    go_enter Tryd.func53, Tryd.ntmps53
    go_wp2_with (go_at_call 41; refine (size_any k _).mono ?_; rintro e w1 ⟨rfl, rfl⟩)
    go_ret
    exact ⟨ret_int hs.out.symm, rfl⟩
  have h1 : (sizeI k == 0) = false := by simp [hz]
  by_cases ha : a < 0 ∨ 2048 ≤ a
  · have hs := Lib.hid (baseI_out (k := k) (a := a) (.inr ha))
    have hp : pageI a < 0 := by rw [pageI_out ha]; omega
    clear hz ha
    go_enter Tryd.func53, Tryd.ntmps53
    go_wp2_with (first | (go_at_call 41; refine (size_any k _).mono ?_; rintro e w1 ⟨rfl, rfl⟩) | (go_at_call 45; refine (gpage_any a _).mono ?_; rintro e w' ⟨rfl, rfl⟩))
    go_ret
    exact ⟨ret_int hs.out.symm, rfl⟩
  · have h0 : 0 ≤ a := by omega
    have h2 : a < 2048 := by omega
    have hs := Lib.hid (baseI_in hz h0 h2)
    have hp : 0 ≤ pageI a := by rw [pageI_in h0 h2]; omega
    have hpos : 0 < sizeI k := by omega
    have hm0 := Int.emod_nonneg a hz
    have hm1 := Int.emod_lt_of_pos a hpos
    clear ha hz
    go_enter Tryd.func53, Tryd.ntmps53
    go_wp2_with (first | (go_at_call 41; refine (size_any k _).mono ?_; rintro e w1 ⟨rfl, rfl⟩) | (go_at_call 45; refine (gpage_any a _).mono ?_; rintro e w' ⟨rfl, rfl⟩))
    go_ret
    exact ⟨ret_int hs.out.symm, rfl⟩
set_option maxHeartbeats 1000000 in
/-- Which cell begins at an address. -/
theorem gcell_yes (k a : Int) (hz : sizeI k ≠ 0) (h0 : 0 ≤ a) (h2 : a < 2048) (hm : a % sizeI k = 0) (w : World) :
    Calls Tryd.prog 47 #[.int .i64 k, .int .i64 a] w fun e w' => e = .returned (.tuple #[.int .i64 (a % 32 / sizeI k), .bool true]) ∧ w = w' := by
  have hb := sizeI_bd k
  have hs : baseI k a = a := by rw [baseI_in hz h0 h2]; omega
  have hpos : 0 < sizeI k := by omega
  have HS := Lib.hid hs
  clear hs hm hz
  go_enter Tryd.func47, Tryd.ntmps47
  go_wp2_with (first | (go_at_call 53; refine (gbase_any k a _).mono ?_; rintro e w1 ⟨rfl, rfl⟩; rw [HS.out]) | (go_at_call 41; refine (size_any k _).mono ?_; rintro e w1 ⟨rfl, rfl⟩) | (go_at_call 81; refine (goff_any a h0 h2 _).mono ?_; rintro e w' ⟨rfl, rfl⟩))
  go_ret2
  exact ⟨rfl, rfl⟩
/-- Are they pages? -/
def endB (p n : Int) : Bool := decide (0 ≤ p ∧ 1 ≤ n ∧ p < 64 ∧ n ≤ 64 - p)
set_option maxHeartbeats 1000000 in
theorem ends_yes (p n : Int) (h : endB p n = true) (w : World) :
    Calls Tryd.prog 43 #[.int .i64 p, .int .i64 n] w fun e w' => e = .returned (.tuple #[.int .i64 (p * 32), .int .i64 ((p + n) * 32 - 1), .bool true]) ∧ w = w' := by
  simp only [endB, decide_eq_true_eq] at h
  obtain ⟨h0, h1, h2, h3⟩ := h
  go_enter Tryd.func43, Tryd.ntmps43
  go_wp2_with fail
  go_ret3
  exact ⟨rfl, rfl⟩
set_option maxHeartbeats 1000000 in
theorem ends_no (p n : Int) (h : endB p n = false) (w : World) :
    Calls Tryd.prog 43 #[.int .i64 p, .int .i64 n] w fun e w' => e = .returned (.tuple #[.int .i64 0, .int .i64 0, .bool false]) ∧ w = w' := by
  simp only [endB, decide_eq_false_iff_not] at h
  by_cases h0 : p < 0
  · clear h
    go_enter Tryd.func43, Tryd.ntmps43
    go_wp2_with fail
    go_ret3
    exact ⟨rfl, rfl⟩
  by_cases h1 : n < 1
  · clear h
    go_enter Tryd.func43, Tryd.ntmps43
    go_wp2_with fail
    go_ret3
    exact ⟨rfl, rfl⟩
  by_cases h2 : 64 ≤ p
  · clear h
    go_enter Tryd.func43, Tryd.ntmps43
    go_wp2_with fail
    go_ret3
    exact ⟨rfl, rfl⟩
  have h3 : 64 - p < n := by omega
  clear h
  go_enter Tryd.func43, Tryd.ntmps43
  go_wp2_with fail
  go_ret3
  exact ⟨rfl, rfl⟩
end Go.Proofs.YtfocdbflmodfhaaDoor

/- Pages' kinds, as lists. -/
namespace Go.Proofs.YtfocdbflmodfhaaDoor
open Go.RowKit

/-- Of a page. -/
def kindL (ks : List Int) (p : Int) : Int := if p < 0 ∨ (ks.length : Int) ≤ p then -1 else ks.getD p.toNat 0
theorem kindL_out {ks : List Int} {p : Int} (h : p < 0 ∨ (ks.length : Int) ≤ p) : kindL ks p = -1 := by unfold kindL; rw [if_pos h]
theorem kindL_in {ks : List Int} {p : Nat} (h : p < ks.length) : kindL ks p = ks.getD p 0 := by
  unfold kindL; rw [if_neg (by omega), Int.toNat_natCast]
/-- The first free one. -/
def idx0 : List Int → Option Nat
  | [] => none
  | x :: xs => if x = 0 then some 0 else (idx0 xs).map (· + 1)
theorem idx0_some : ∀ {ks : List Int} {m : Nat}, m < ks.length → ks.getD m 0 = 0 → (∀ j, j < m → ks.getD j 0 ≠ 0) → idx0 ks = some m
  | [], m, h, _, _ => absurd h (by simp)
  | x :: xs, 0, _, h, _ => by unfold idx0; rw [if_pos (by simpa using h)]
  | x :: xs, m + 1, h, h0, hj => by
    unfold idx0
    rw [if_neg (by have := hj 0 (by omega); simpa using this), idx0_some (ks := xs) (m := m) (by simpa using h) (by simpa using h0) (fun j h1 => by have := hj (j + 1) (by omega); simpa using this)]
    rfl
theorem idx0_none : ∀ {ks : List Int}, (∀ j, j < ks.length → ks.getD j 0 ≠ 0) → idx0 ks = none
  | [], _ => rfl
  | x :: xs, h => by
    unfold idx0
    rw [if_neg (by have := h 0 (by simp); simpa using this), idx0_none (ks := xs) (fun j h1 => by have := h (j + 1) (by simpa using h1); simpa using this)]
    rfl
/-- How many that belong to a large one follow one another, from a page on. -/
def run6 (ks : List Int) (q : Nat) : Nat := ((ks.drop q).takeWhile (· == 6)).length
theorem run6_step {ks : List Int} {q : Nat} (h : kindL ks q = 6) : run6 ks q = run6 ks (q + 1) + 1 := by
  have hl : q < ks.length := by
    apply Decidable.byContradiction; intro hc
    rw [kindL_out (.inr (by omega))] at h; omega
  rw [kindL_in hl, List.getD_eq_getElem?_getD, List.getElem?_eq_getElem hl] at h
  unfold run6
  rw [List.drop_eq_getElem_cons hl, List.takeWhile_cons, if_pos (by simpa using h), List.length_cons]
theorem run6_stop {ks : List Int} {q : Nat} (h : kindL ks q ≠ 6) : run6 ks q = 0 := by
  unfold run6
  by_cases hl : q < ks.length
  · rw [kindL_in hl, List.getD_eq_getElem?_getD, List.getElem?_eq_getElem hl] at h
    rw [List.drop_eq_getElem_cons hl, List.takeWhile_cons, if_neg (by simpa using h)]; rfl
  · rw [List.drop_of_length_le (by omega)]; rfl
theorem run6_le (ks : List Int) (q : Nat) : run6 ks q ≤ ks.length := by
  unfold run6
  have := List.takeWhile_sublist (l := ks.drop q) (· == 6) |>.length_le
  simp at this; omega
theorem run6_end (ks : List Int) (q : Nat) (h : q ≤ ks.length) : q + run6 ks q ≤ ks.length := by
  unfold run6
  have := List.takeWhile_sublist (l := ks.drop q) (· == 6) |>.length_le
  simp at this; omega
/-- How many begin at a page. -/
def sizeL (ks : List Int) (p : Int) : Int := if 0 < sizeI (kindL ks p) then 1 else if kindL ks p ≠ 5 then 0 else 1 + (run6 ks (p.toNat + 1) : Int)
theorem sizeL_bd (ks : List Int) (p : Int) : 0 ≤ sizeL ks p ∧ sizeL ks p ≤ ks.length + 1 := by
  unfold sizeL
  have := run6_le ks (p.toNat + 1)
  split
  · omega
  · split <;> omega
theorem sizeL_in {ks : List Int} {p : Int} (h : 0 < sizeL ks p) : 0 ≤ p ∧ p + sizeL ks p ≤ ks.length := by
  have hin : 0 ≤ p ∧ p < ks.length := by
    apply Decidable.byContradiction; intro hc
    have hk := kindL_out (ks := ks) (p := p) (by omega)
    unfold sizeL at h
    rw [hk] at h
    simp [sizeI] at h
  unfold sizeL at h ⊢
  split
  · omega
  · rename_i h1
    rw [if_neg h1] at h
    split
    · omega
    · have := run6_end ks (p.toNat + 1) (by omega)
      omega
/-- The page where what a page belongs to begins. -/
def downL (ks : List Int) : Nat → Int
  | 0 => if kindL ks 0 = 6 then -1 else 0
  | p + 1 => if kindL ks ((p + 1 : Nat) : Int) = 6 then downL ks p else ((p + 1 : Nat) : Int)
def firstL (ks : List Int) (p : Int) : Int :=
  let q := if p < 0 then p else downL ks p.toNat
  if sizeL ks q = 0 then -1 else q
theorem downL_stop {ks : List Int} {p : Nat} (h : kindL ks p ≠ 6) : downL ks p = p := by
  cases p with
  | zero =>
    have h' : kindL ks 0 ≠ 6 := h
    unfold downL; rw [if_neg h']; rfl
  | succ p => unfold downL; rw [if_neg h]
theorem downL_step {ks : List Int} {p : Nat} (h : kindL ks ((p + 1 : Nat) : Int) = 6) : downL ks (p + 1) = downL ks p := by
  rw [downL, if_pos h]
theorem downL_zero {ks : List Int} (h : kindL ks 0 = 6) : downL ks 0 = -1 := by rw [downL, if_pos h]
/-- Each run of free ones: from where on, and how long. -/
def runsFrom : List Int → Nat → Nat → List (Nat × Nat)
  | [], p, n => if 0 < n then [(p - n, n)] else []
  | x :: xs, p, n => if x = 0 then runsFrom xs (p + 1) (n + 1) else if 0 < n then (p - n, n) :: runsFrom xs (p + 1) 0 else runsFrom xs (p + 1) 0
def runsL (ks : List Int) : List (Nat × Nat) := runsFrom ks 0 0
/-- Pages, taken and given back. -/
def spanL (ks : List Int) (n : Int) : Option Nat := if n < 1 then none else ((runsL ks).find? fun r => decide (n ≤ (r.2 : Int))).map (·.1)
def countL (ks : List Int) : Nat := ((runsL ks).map (·.2)).sum
def freeL (ks : List Int) (p : Int) : List Int := fillL ks p.toNat (sizeL ks p).toNat 0
/-- A table: its block, and its kinds. -/
structure Tx (w : World) (t k : Nat) (ks : List Int) : Prop where
  hd : w.heap[t]? = some (.cells #[.bool true, .slice (some ⟨k, 0, none⟩) ks.length ks.length] 90 (0, 0))
  row : w.heap[k]? = some (.cells (ints ks) 3 (0, 0))
  le : ks.length ≤ 64
theorem Tx.keep {w w' : World} {t k : Nat} {ks : List Int} (h : Tx w t k ks) (h1 : w'.heap[t]? = w.heap[t]?) (h2 : w'.heap[k]? = w.heap[k]?) : Tx w' t k ks := ⟨h1.trans h.hd, h2.trans h.row, h.le⟩
theorem Tx.below {w w' : World} {t k : Nat} {ks : List Int} (h : Tx w t k ks) (hb : Below w.heap.size w w') : Tx w' t k ks := h.keep (hb.block t (heap_lt h.hd)) (hb.block k (heap_lt h.row))
theorem Tx.frm {w w' : World} {t k : Nat} {ks : List Int} {fp : List Nat} (h : Tx w t k ks) (hf : Frm fp w w') (h1 : t ∉ fp) (h2 : k ∉ fp) : Tx w' t k ks := h.keep (hf.block t (heap_lt h.hd) h1) (hf.block k (heap_lt h.row) h2)
theorem Tx.ne {w : World} {t k : Nat} {ks : List Int} (h : Tx w t k ks) : t ≠ k := by
  rintro rfl
  have := h.hd.symm.trans h.row
  simp at this
theorem Tx.put {w : World} {t k : Nat} {ks : List Int} (h : Tx w t k ks) (i : Nat) (v : Int) : Tx (w.setCell ⟨k, i, none⟩ (.int .i64 v)) t k (ks.set i v) := by
  refine ⟨?_, ?_, by simpa using h.le⟩
  · rw [heap_setCell_other _ _ _ _ h.ne, h.hd, List.length_set]
  · rw [heap_setCell_same w k i _ _ _ h.row, ints_set]
theorem Tx.cells {w : World} {t k : Nat} {ks : List Int} (h : Tx w t k ks) : w.cell? ⟨t, 0, none⟩ = some (.bool true) ∧ w.cell? ⟨t, 1, none⟩ = some (.slice (some ⟨k, 0, none⟩) ks.length ks.length) := ⟨cell_of_row _ _ _ _ _ _ h.hd, cell_of_row _ _ _ _ _ _ h.hd⟩
theorem Tx.kind {w : World} {t k : Nat} {ks : List Int} (h : Tx w t k ks) {i : Nat} (hi : i < ks.length) : w.cell? ⟨k, i, none⟩ = some (.int .i64 (ks.getD i 0)) := by
  rw [cell_of_row _ _ _ _ _ _ h.row, ints_get hi]
end Go.Proofs.YtfocdbflmodfhaaDoor

/- The reference's lists of pages: read. -/
namespace Go.Proofs.YtfocdbflmodfhaaDoor
open Go.RowKit

theorem IRow.at_ {base : Nat} {w : World} {A : Option Addr} {n cap : Nat} {xs : List Int} (h : IRow base w (.slice A n cap) xs) : n = xs.length ∧ ∀ j, j < n → ∃ b, A = some ⟨b, 0, none⟩ ∧ w.cell? ⟨b, j, none⟩ = some (.int .i64 (xs.getD j 0)) := by
  obtain ⟨p', c', he, -, -, hcell⟩ := h.slice
  simp only [Value.slice.injEq] at he
  obtain ⟨e1, e2, -⟩ := he
  refine ⟨e2, fun j hj => ?_⟩
  obtain ⟨g, h1, -, h3⟩ := hcell j (Nat.lt_of_lt_of_eq hj e2)
  exact ⟨g, e1.trans h1, h3⟩
section
variable {base : Nat} {w : World} {A : Option Addr} {n cap : Nat} {xs : List Int}
theorem fkind_any (h : IRow base w (.slice A n cap) xs) (p : Int) :
    Calls Tryd.prog 62 #[.slice A n cap, .int .i64 p] w fun e w' => e = .returned (.int .i64 (kindL xs p)) ∧ w = w' := by
  obtain ⟨hn, hc⟩ := h.at_
  by_cases h0 : p < 0
  · have hs := Lib.hid (kindL_out (ks := xs) (.inl h0))
    clear h hc hn
    go_enter Tryd.func62, Tryd.ntmps62
    go_wp2_with fail
    go_ret
    exact ⟨ret_int hs.out.symm, rfl⟩
  obtain ⟨i, rfl⟩ := Int.eq_ofNat_of_zero_le (show 0 ≤ p by omega)
  by_cases h1 : n ≤ i
  · have hs := Lib.hid (kindL_out (ks := xs) (p := (i : Int)) (.inr (by omega)))
    have h1' : (n : Int) ≤ i := by omega
    clear h h0 h1 hn hc
    go_enter Tryd.func62, Tryd.ntmps62
    go_wp2_with fail
    go_ret
    exact ⟨ret_int hs.out.symm, rfl⟩
  · have hi : i < n := by omega
    obtain ⟨g, rfl, c2⟩ := hc i hi
    rw [kindL_in (by omega)]
    obtain ⟨v, hv⟩ : ∃ v, v = xs.getD i 0 := ⟨_, rfl⟩
    rw [← hv] at c2 ⊢
    clear h h0 h1 hv hn hc
    go_enter Tryd.func62, Tryd.ntmps62
    go_wp2_with fail
    go_ret
    exact ⟨rfl, rfl⟩
def nearI (a lo hi : Int) : Int := if a < lo then lo else if hi < a then hi else a
theorem near_any (a lo hi : Int) (w : World) :
    Calls Tryd.prog 18 #[.int .i64 a, .int .i64 lo, .int .i64 hi] w fun e w' => e = .returned (.int .i64 (nearI a lo hi)) ∧ w = w' := by
  obtain ⟨r, hr⟩ : ∃ r, r = nearI a lo hi := ⟨_, rfl⟩
  rw [← hr]
  have HR := Lib.hid hr
  unfold nearI at hr
  by_cases h1 : a < lo
  · rw [if_pos h1] at hr
    subst hr
    clear HR
    go_enter Tryd.func18, Tryd.ntmps18
    go_wp2_with fail
    go_ret
    exact ⟨rfl, rfl⟩
  · rw [if_neg h1] at hr
    by_cases h2 : hi < a
    · rw [if_pos h2] at hr
      subst hr
      clear HR
      go_enter Tryd.func18, Tryd.ntmps18
      go_wp2_with fail
      go_ret
      exact ⟨rfl, rfl⟩
    · rw [if_neg h2] at hr
      subst hr
      clear HR
      go_enter Tryd.func18, Tryd.ntmps18
      go_wp2_with fail
      go_ret
      exact ⟨rfl, rfl⟩
set_option maxHeartbeats 1000000 in
theorem in_any (h : IRow base w (.slice A n cap) xs) (x : Int) (hm : n ≤ 1000000) :
    Calls Tryd.prog 57 #[.slice A n cap, .int .i64 x] w fun e w' => e = .returned (.bool (decide (x ∈ xs))) ∧ w = w' := by
  obtain ⟨hn, hc⟩ := h.at_
  have HN := Lib.hid hn
  have HC := Lib.hid hc
  obtain ⟨r, hr⟩ : ∃ r, r = decide (x ∈ xs) := ⟨_, rfl⟩
  rw [← hr]
  have HR := Lib.hid hr
  clear h hn hc hr
  go_enter Tryd.func57, Tryd.ntmps57
  go_wp2_with fail
  go_loop [5] (fun a => ∃ i : Nat, i ≤ n ∧ a = .int .i64 i ∧ Hid (∀ j, j < i → xs.getD j 0 ≠ x)) (fun a => n - (intOf a).toNat)
  case atStart => exact ⟨0, Nat.zero_le _, rfl, Lib.hid (fun j hj => by omega)⟩
  case round =>
    obtain ⟨i, hi, rfl, HJ⟩ := hrel
    by_cases hlt : i < n
    · obtain ⟨g, rfl, c2⟩ := HC.out i hlt
      obtain ⟨v, hv⟩ : ∃ v, v = xs.getD i 0 := ⟨_, rfl⟩
      rw [← hv] at c2
      have hd : decide ((i : Int) < (n : Int)) = true := by simpa using hlt
      have i1 : (0 : Int) ≤ (i : Int) := by omega
      have i2 : (i : Int) < (n : Int) := by omega
      by_cases h0 : v = x
      · have HT := Lib.hid (show r = true by
          rw [HR.out, decide_eq_true_eq, ← h0, hv, List.getD_eq_getElem?_getD, List.getElem?_eq_getElem (by rw [← HN.out]; exact hlt)]
          exact List.getElem_mem _)
        have h0' : (v == x) = true := by simpa using h0
        clear hv HJ h0
        go_wp2_with fail
        go_ret
        exact ⟨by rw [HT.out]; rfl, rfl⟩
      · have h0' : (v == x) = false := by simpa using h0
        have HJ' := Lib.hid (show ∀ j, j < i + 1 → xs.getD j 0 ≠ x from fun j hj => by
          by_cases e : j = i
          · rw [e, ← hv]; exact h0
          · exact HJ.out j (by omega))
        clear hv HJ h0
        go_wp2_with fail
        go_round
        case rel => exact ⟨i + 1, by omega, by go_num, HJ'⟩
        case measure => simp [intOf]; omega
    · have hd : decide ((i : Int) < (n : Int)) = false := by simpa using hlt
      have HF := Lib.hid (show r = false by
        rw [HR.out, decide_eq_false_iff_not]
        intro hx
        obtain ⟨j, hj, e⟩ := List.getElem_of_mem hx
        refine HJ.out j (by have := HN.out; omega) ?_
        rw [List.getD_eq_getElem?_getD, List.getElem?_eq_getElem hj]; exact e)
      go_wp2_with fail
      go_ret
      exact ⟨by rw [HF.out]; rfl, rfl⟩
end
end Go.Proofs.YtfocdbflmodfhaaDoor
