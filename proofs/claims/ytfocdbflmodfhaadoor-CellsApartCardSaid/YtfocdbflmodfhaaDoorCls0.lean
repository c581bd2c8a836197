/- Classes of cells, in plain numbers. -/
import Derived.Test.YtfocdbflmodfhaaDoorKit2
namespace Go.Proofs.YtfocdbflmodfhaaDoor
open Go.RowKit

def sizeI (k : Int) : Int := if k = 1 then 2 else if k = 2 then 4 else if k = 3 then 8 else if k = 4 then 16 else 0
def ofI (n : Int) : Int := if n < 0 ∨ 127 < n then 0 else if n ≤ 1 then 1 else if n ≤ 3 then 2 else if n ≤ 7 then 3 else if n ≤ 15 then 4 else 5
def cellsI (k : Int) : Int := if k = 1 then 16 else if k = 2 then 8 else if k = 3 then 4 else if k = 4 then 2 else 0
def pagesI (n : Int) : Int := if ofI n = 5 then (n + 32) / 32 else 0
theorem sizeI_pos {k : Int} (h : 1 ≤ k ∧ k ≤ 4) : 2 ≤ sizeI k ∧ sizeI k ≤ 16 := by unfold sizeI; omega
theorem sizeI_zero {k : Int} (h : k < 1 ∨ 5 ≤ k) : sizeI k = 0 := by unfold sizeI; omega
theorem sizeI_bd (k : Int) : 0 ≤ sizeI k ∧ sizeI k ≤ 16 := by unfold sizeI; omega
theorem ofI_bd (n : Int) : 0 ≤ ofI n ∧ ofI n ≤ 5 := by unfold ofI; omega
theorem ofI_out {n : Int} (h : n < 0 ∨ 127 < n) : ofI n = 0 := by unfold ofI; rw [if_pos h]
/-- The first class that is great enough. -/
theorem ofI_first {n k : Int} (h0 : 0 ≤ n) (h1 : n ≤ 127) (hk : 1 ≤ k) (hk5 : k ≤ 5) (hb : ∀ j : Int, 1 ≤ j → j < k → sizeI j < n + 1) (he : k = 5 ∨ n + 1 ≤ sizeI k) : ofI n = k := by
  have b1 : 1 < k → 2 < n + 1 := fun h => by have := hb 1 (by omega) h; simpa [sizeI] using this
  have b2 : 2 < k → 4 < n + 1 := fun h => by have := hb 2 (by omega) h; simpa [sizeI] using this
  have b3 : 3 < k → 8 < n + 1 := fun h => by have := hb 3 (by omega) h; simpa [sizeI] using this
  have b4 : 4 < k → 16 < n + 1 := fun h => by have := hb 4 (by omega) h; simpa [sizeI] using this
  unfold sizeI at he
  unfold ofI
  omega
theorem cellsI_eq (k : Int) : cellsI k = if sizeI k = 0 then 0 else 32 / sizeI k := by
  unfold cellsI sizeI
  by_cases h1 : k = 1
  · subst h1; decide
  by_cases h2 : k = 2
  · subst h2; decide
  by_cases h3 : k = 3
  · subst h3; decide
  by_cases h4 : k = 4
  · subst h4; decide
  simp [h1, h2, h3, h4]
theorem cellsI_pos {k : Int} (h : 1 ≤ k ∧ k ≤ 4) : 2 ≤ cellsI k ∧ cellsI k ≤ 16 := by unfold cellsI; omega
theorem pagesI_bd (n : Int) : 0 ≤ pagesI n ∧ pagesI n ≤ 4 := by unfold pagesI ofI; omega
theorem pagesI_five {n : Int} (h : ofI n = 5) : 16 ≤ n ∧ n ≤ 127 := by unfold ofI at h; omega
end Go.Proofs.YtfocdbflmodfhaaDoor
