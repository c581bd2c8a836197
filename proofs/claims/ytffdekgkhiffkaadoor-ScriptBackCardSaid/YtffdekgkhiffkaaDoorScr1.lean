/- script: rows, fields, decimals. -/
import Derived.Test.YtffdekgkhiffkaaDoorScr0
import Derived.Test.YtffdekgkhiffkaaDoorShelfB
namespace Go.Proofs.YtffdekgkhiffkaaDoor
open Go.RowKit

theorem fmt_any (n : Int) (h : Rng n) (w : World) (ht : Tab w) :
    Calls Tryd.prog 17 #[.int .i64 n] w fun e w' => e = .returned (.string (S (Lib.itoa n))) ∧ Below w.heap.size w w' := by
  have HT := Lib.hid ht
  clear ht
  go_enter Tryd.func17, Tryd.ntmps17
  go_wp2_with (go_at_call 33; refine (Tryd.strconv_FormatInt_10 n h.1 h.2 _ HT.out).mono ?_; rintro e w1 ⟨rfl, k, os, hw⟩)
  go_ret
  exact ⟨rfl, Lib.below_grow _ _ (Nat.le_refl _) k os⟩

/-- All kinds' words and letters, as cells. -/
def rowC : Array Value := #[.string (S (wordI 1)), .string (S (letsI 1)), .string (S (wordI 2)), .string (S (letsI 2)), .string (S (wordI 3)), .string (S (letsI 3)), .string (S (wordI 4)), .string (S (letsI 4)), .string (S (wordI 5)), .string (S (letsI 5)), .string (S (wordI 6)), .string (S (letsI 6)), .string (S (wordI 7)), .string (S (letsI 7)), .string (S (wordI 8)), .string (S (letsI 8)), .string (S (wordI 9)), .string (S (letsI 9)), .string (S (wordI 10)), .string (S (letsI 10)), .string (S (wordI 11)), .string (S (letsI 11)), .string (S (wordI 12)), .string (S (letsI 12)), .string (S (wordI 13)), .string (S (letsI 13)), .string (S (wordI 14)), .string (S (letsI 14)), .string (S (wordI 15)), .string (S (letsI 15)), .string (S (wordI 16)), .string (S (letsI 16)), .string (S (wordI 17)), .string (S (letsI 17))]
theorem rowC_get : ∀ k : Nat, k < 17 → rowC[k * 2]? = some (.string (S (wordI (k + 1)))) ∧ rowC[k * 2 + 1]? = some (.string (S (letsI (k + 1))))
  | 0, _ | 1, _ | 2, _ | 3, _ | 4, _ | 5, _ | 6, _ | 7, _ | 8, _ | 9, _ | 10, _ | 11, _ | 12, _ | 13, _ | 14, _ | 15, _ | 16, _ => ⟨rfl, rfl⟩
  | j + 17, h => absurd h (by omega)
theorem rows_any (w : World) :
    Calls Tryd.prog 16 #[] w fun e w' => e = .returned (.slice (some ⟨w.heap.size, 0, none⟩) 17 17) ∧ w' = w.alloc (.cells rowC 44) := by
  go_enter Tryd.func16, Tryd.ntmps16
  go_wp2_with fail
  go_ret
  exact ⟨rfl, rfl⟩

theorem rows_some (w : World) :
    Calls Tryd.prog 16 #[] w fun e w' => ∃ R, e = .returned (.slice (some ⟨R, 0, none⟩) 17 17) ∧ w'.heap[R]? = some (.cells rowC 44 (0, 0)) ∧ Below w.heap.size w w' :=
  (rows_any w).mono fun e w' ⟨he, hw⟩ => ⟨w.heap.size, he, by rw [hw]; exact heap_alloc_new w _, by rw [hw]; exact below_alloc0 w _⟩

/-- Where a letter's field lies. -/
def offI (l : UInt8) : Nat := if l = 84 then 1 else if l = 73 then 2 else if l = 70 then 3 else if l = 74 then 4 else 5
theorem field_any (b : Nat) (l : UInt8) (w : World) :
    Calls Tryd.prog 18 #[.pointer (some ⟨b, 0, none⟩), .int .u8 l.toNat] w fun e w' => e = .returned (.pointer (some ⟨b, offI l, none⟩)) ∧ w' = w := by
  have hl : l = 84 ∨ l = 73 ∨ l = 70 ∨ l = 74 ∨ (l ≠ 84 ∧ l ≠ 73 ∧ l ≠ 70 ∧ l ≠ 74) := by
    by_cases h1 : l = 84
    · exact .inl h1
    by_cases h2 : l = 73
    · exact .inr (.inl h2)
    by_cases h3 : l = 70
    · exact .inr (.inr (.inl h3))
    by_cases h4 : l = 74
    · exact .inr (.inr (.inr (.inl h4)))
    exact .inr (.inr (.inr (.inr ⟨h1, h2, h3, h4⟩)))
  rcases hl with rfl | rfl | rfl | rfl | ⟨h1, h2, h3, h4⟩
  case inr.inr.inr.inr =>
    have e : offI l = 5 := by unfold offI; rw [if_neg h1, if_neg h2, if_neg h3, if_neg h4]
    have n1 : ((l.toNat : Int) == 84) = false := by simp; intro h; exact h1 (UInt8.toNat_inj.1 (by show l.toNat = 84; omega))
    have n2 : ((l.toNat : Int) == 73) = false := by simp; intro h; exact h2 (UInt8.toNat_inj.1 (by show l.toNat = 73; omega))
    have n3 : ((l.toNat : Int) == 70) = false := by simp; intro h; exact h3 (UInt8.toNat_inj.1 (by show l.toNat = 70; omega))
    have n4 : ((l.toNat : Int) == 74) = false := by simp; intro h; exact h4 (UInt8.toNat_inj.1 (by show l.toNat = 74; omega))
    rw [e]
    clear e h1 h2 h3 h4
    obtain ⟨z, hz⟩ : ∃ z : Int, z = (l.toNat : Int) := ⟨_, rfl⟩
    rw [← hz] at n1 n2 n3 n4
    rw [← hz]
    clear hz
    go_enter Tryd.func18, Tryd.ntmps18
    go_wp2_with fail
    go_ret
    exact ⟨rfl, rfl⟩
  all_goals
    go_enter Tryd.func18, Tryd.ntmps18
    go_wp2_with fail
    go_ret
    exact ⟨rfl, rfl⟩
end Go.Proofs.YtffdekgkhiffkaaDoor
