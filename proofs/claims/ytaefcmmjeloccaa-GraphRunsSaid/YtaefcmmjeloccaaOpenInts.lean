/- A slice of numbers that comes in, opened. -/
import Derived.Test.YtaefcmmjeloccaaOpen
import Derived.Test.YtaefcmmjeloccaaBnd0
namespace Go.Proofs.Ytaefcmmjeloccaa
open Go.ChangeShapes Go.WideShapes Go.ChangeAt Go.RowKit Go.Deep

section
variable {H : Type} {enc : TypeId × Value → H} {P : Program} {w : World} {base : Nat} {spare : Nat → Bool} {held : Bool}

theorem cell_lt {w : World} {b j : Nat} {v : Value} (h : w.cell? ⟨b, j, none⟩ = some v) : b < w.heap.size := by
  rcases Nat.lt_or_ge b w.heap.size with h1 | h1
  · exact h1
  · simp [World.cell?, Array.getElem?_eq_none h1] at h

theorem open_nums {r : Reach} {b0 : Nat} {t e : TypeId} {v : Value} {d : DataW H} {p : List MemPlace} (ht : P.underlying t = some (.slice e)) (he : P.underlying e = some (.int .i64)) (hc : P.cellsOf e = 1)
    (hv : Value.okWide P w r b0 t v) (h : DataW.Trod enc P w base spare held t v d p) :
    ∃ A n cap xs, v = .slice A n cap ∧ ((∃ es sp, d = .slice es sp ∧ es.length = n) ∨ n = 0) ∧ (n * 8 ≤ 140737488351232 → RdI w A n xs) := by
  obtain ⟨a, n, cap, rfl⟩ := okWide_slice ht hv
  obtain ⟨fuel, hf⟩ := h
  rcases open_ints ht he hc hf with ⟨hcs, _⟩ | ⟨x, l, c, zs, hcs, _, hl, hm, hz, hd, hcell, hwz⟩
  · simp [Value.cells] at hcs
    obtain ⟨rfl, rfl, rfl⟩ := hcs
    exact ⟨_, _, _, [], rfl, .inr rfl, fun _ => RdI.nil _ _⟩
  · simp [Value.cells] at hcs
    obtain ⟨rfl, rfl, rfl⟩ := hcs
    simp only [Prod.mk.injEq] at hd
    obtain ⟨rfl, _⟩ := hd
    have hzl : n ≤ zs.length := by rw [hz]; split <;> omega
    refine ⟨_, n, cap, zs.take n, rfl, .inl ⟨_, _, rfl, by simp [lits]; omega⟩, fun hr => ⟨by simp; omega, by omega, fun h0 => ?_⟩⟩
    obtain ⟨b, off, spot⟩ := x
    have hspot : spot = none := by simpa [Addr.add] using World.cell?_spot (hcell 0 (by omega))
    subst hspot
    refine ⟨b, off, rfl, ?_, fun j hj => ?_⟩
    · have := hcell 0 (by omega)
      rw [add_plain] at this
      exact cell_lt this
    · have := hcell j (by omega)
      rw [add_plain] at this
      rw [this]
      simp [List.getD_eq_getElem?_getD, hj]
end

/-- It is not longer than the reach. -/
theorem nums_reach {H : Type} {P : Program} {ts : List TypeId} {ds : List (DataW H)} {d : DataW H} {n : Nat} (hsz : (DataW.weightsEach P ts ds).all (· ≤ reachBytes) = true) {j : Nat} {t e : TypeId} (ht : ts[j]? = some t) (hj : ds[j]? = some d)
    (hu : P.underlying t = some (.slice e)) (hb : P.bytesOf e = 8) (hd : (∃ es sp, d = .slice es sp ∧ es.length = n) ∨ n = 0) : n * 8 ≤ 140737488351232 := by
  rcases hd with ⟨es, sp, rfl, rfl⟩ | rfl
  · have := sized_slice hsz ht hj hu
    rw [hb] at this
    simp only [reachBytes] at this
    omega
  · omega
end Go.Proofs.Ytaefcmmjeloccaa
