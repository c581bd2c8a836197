/- What is needed, in plain numbers; and a slice of numbers that is read. -/
import Derived.Test.YtaefcmmjeloccaaCls0
import Derived.Maps.Own
import Derived.Maps.OwnOps
import Derived.Maps.OwnSet
import Derived.Maps.Views
namespace Go.Proofs.Ytaefcmmjeloccaa
open Go.RowKit Go.Maps

/-- How many of the first j have class k. -/
def cntI (xs : List Int) (k : Int) : Nat → Int
  | 0 => 0
  | j + 1 => cntI xs k j + if ofI (xs.getD j 0) = k then 1 else 0
def pgI (xs : List Int) : Nat → Int
  | 0 => 0
  | j + 1 => pgI xs j + pagesI (xs.getD j 0)
def termI (xs : List Int) (t : Int) (n : Nat) (k : Int) : Int := if 0 < cntI xs k n then cntI xs k n / cellsI k + t else 0
def sumI (xs : List Int) (t : Int) (n : Nat) : Nat → Int
  | 0 => 0
  | k + 1 => sumI xs t n k + termI xs t n ((k : Int) + 1)
def needI (xs : List Int) (t : Int) (n : Nat) : Int := 1 + pgI xs n + sumI xs t n 4

theorem cntI_bd (xs : List Int) (k : Int) : ∀ j : Nat, 0 ≤ cntI xs k j ∧ cntI xs k j ≤ j
  | 0 => by simp [cntI]
  | j + 1 => by
    have := cntI_bd xs k j
    simp only [cntI]
    split <;> omega
theorem pgI_bd (xs : List Int) : ∀ j : Nat, 0 ≤ pgI xs j ∧ pgI xs j ≤ 4 * j
  | 0 => by simp [pgI]
  | j + 1 => by
    have := pgI_bd xs j
    have := pagesI_bd (xs.getD j 0)
    simp only [pgI]
    omega
theorem termI_bd (xs : List Int) {t : Int} (n : Nat) {k : Int} (ht : 0 ≤ t) (hk : 1 ≤ k ∧ k ≤ 4) : 0 ≤ termI xs t n k ∧ termI xs t n k ≤ n + t := by
  have h1 := cntI_bd xs k n
  have h2 := cellsI_pos hk
  unfold termI
  split
  · have h3 : 0 ≤ cntI xs k n / cellsI k := Int.ediv_nonneg h1.1 (by omega)
    have h4 : cntI xs k n / cellsI k ≤ cntI xs k n := Int.ediv_le_self _ h1.1
    omega
  · omega
theorem sumI_bd (xs : List Int) {t : Int} (n : Nat) (ht : 0 ≤ t) : ∀ k : Nat, k ≤ 4 → 0 ≤ sumI xs t n k ∧ sumI xs t n k ≤ k * (n + t)
  | 0, _ => by simp [sumI]
  | k + 1, hk => by
    have h1 := sumI_bd xs n ht k (by omega)
    have h2 := termI_bd xs (t := t) n (k := (k : Int) + 1) ht (by omega)
    simp only [sumI]
    have e : ((k + 1 : Nat) : Int) * (n + t) = k * (n + t) + (n + t) := by rw [Int.natCast_add, Int.add_mul]; simp
    omega

/-- A slice of numbers, as a call reads it. -/
structure RdI (w : World) (A : Option Addr) (n : Nat) (xs : List Int) : Prop where
  len : xs.length = n
  max : n * 8 ≤ 140737488355328
  cell : 0 < n → ∃ b o, A = some ⟨b, o, none⟩ ∧ b < w.heap.size ∧ ∀ j, j < n → w.cell? ⟨b, o + j, none⟩ = some (.int .i64 (xs.getD j 0))
theorem RdI.below {w w' : World} {A : Option Addr} {n : Nat} {xs : List Int} (h : RdI w A n xs) (hb : Below w.heap.size w w') : RdI w' A n xs :=
  ⟨h.len, h.max, fun h0 => by
    obtain ⟨b, o, e, hlt, hc⟩ := h.cell h0
    exact ⟨b, o, e, by have := hb.size; omega, fun j hj => cell_keep hb (hc j hj)⟩⟩
theorem RdI.drew {w : World} {A : Option Addr} {n : Nat} {xs : List Int} (h : RdI w A n xs) : RdI w.drew A n xs := h.below (Below.refl _ _).drew
theorem RdI.alloc {w : World} {A : Option Addr} {n : Nat} {xs : List Int} (h : RdI w A n xs) (o : Obj) : RdI (w.alloc o) A n xs := h.below (below_alloc0 w o)
theorem RdI.nil (w : World) (A : Option Addr) : RdI w A 0 [] := ⟨rfl, by omega, fun h => absurd h (by omega)⟩

/-- What a map of counts reads as. -/
def CntD {H : Type} (D : DataW H) (xs : List Int) (j : Nat) : Prop := ∀ k : Int, D.atKey (.int .i64 k) (.lit (.int .i64 0)) = .lit (.int .i64 (cntI xs k j))
theorem CntD.start {H : Type} (xs : List Int) : CntD (.map [] : DataW H) xs 0 := fun _ => rfl
theorem CntD.step {H : Type} {D : DataW H} {xs : List Int} {j : Nat} (h : CntD D xs j) (hD : IsMap D) :
    CntD (D.put (.int .i64 (ofI (xs.getD j 0))) (.lit (.int .i64 (cntI xs (ofI (xs.getD j 0)) j + 1)))) xs (j + 1) := by
  intro k
  by_cases hk : ofI (xs.getD j 0) = k
  · subst hk
    rw [atKey_put_same hD (by have := ofI_bd (xs.getD j 0); trivial)]
    simp [cntI]
  · rw [atKey_put_other (by intro e; cases e; exact hk rfl), h k]
    simp only [cntI]
    rw [if_neg hk, Int.add_zero]
end Go.Proofs.Ytaefcmmjeloccaa
