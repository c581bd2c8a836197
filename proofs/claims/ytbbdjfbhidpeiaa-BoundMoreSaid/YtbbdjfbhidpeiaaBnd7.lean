/- One more object: what is needed, in plain numbers. -/
import Derived.Test.YtbbdjfbhidpeiaaBnd3
namespace Go.Proofs.Ytbbdjfbhidpeiaa
open Go.RowKit

theorem cntI_more (xs : List Int) (x k : Int) : ∀ j : Nat, j ≤ xs.length → cntI (xs ++ [x]) k j = cntI xs k j
  | 0, _ => rfl
  | j + 1, h => by
    have e : (xs ++ [x]).getD j 0 = xs.getD j 0 := by simp [List.getD_eq_getElem?_getD, List.getElem?_append_left (show j < xs.length by omega)]
    simp only [cntI, e, cntI_more xs x k j (by omega)]
theorem pgI_more (xs : List Int) (x : Int) : ∀ j : Nat, j ≤ xs.length → pgI (xs ++ [x]) j = pgI xs j
  | 0, _ => rfl
  | j + 1, h => by
    have e : (xs ++ [x]).getD j 0 = xs.getD j 0 := by simp [List.getD_eq_getElem?_getD, List.getElem?_append_left (show j < xs.length by omega)]
    simp only [pgI, e, pgI_more xs x j (by omega)]
theorem getD_last (xs : List Int) (x : Int) : (xs ++ [x]).getD xs.length 0 = x := by simp [List.getD_eq_getElem?_getD]

theorem termI_more (xs : List Int) (x t : Int) (ht : 0 ≤ t) {k : Int} (hk : 1 ≤ k ∧ k ≤ 4) :
    termI xs t xs.length k ≤ termI (xs ++ [x]) t (xs.length + 1) k ∧ termI (xs ++ [x]) t (xs.length + 1) k ≤ termI xs t xs.length k + if ofI x = k then t + 1 else 0 := by
  have h1 := cntI_bd xs k xs.length
  have h2 := cellsI_pos hk
  have e : cntI (xs ++ [x]) k (xs.length + 1) = cntI xs k xs.length + if ofI x = k then 1 else 0 := by
    simp only [cntI, getD_last, cntI_more xs x k xs.length (Nat.le_refl _)]
  have e2 : cntI (xs ++ [x]) k (xs.length + 1) = if ofI x = k then cntI xs k xs.length + 1 else cntI xs k xs.length := by rw [e]; split <;> omega
  clear e
  unfold termI
  rw [e2]
  generalize cntI xs k xs.length = m at *
  generalize cellsI k = s at *
  by_cases hx : ofI x = k
  · rw [if_pos hx, if_pos hx]
    have hm1 : 0 < m + 1 := by omega
    simp only [hm1, if_true]
    by_cases h0 : 0 < m
    · simp only [h0, if_true]
      have a1 : m / s ≤ (m + 1) / s := Int.ediv_le_ediv (by omega) (by omega)
      have a2 : (m + 1) / s ≤ (m + s) / s := Int.ediv_le_ediv (by omega) (by omega)
      have a3 : (m + s) / s = m / s + 1 := by rw [Int.add_ediv_of_dvd_right ⟨1, by simp⟩, Int.ediv_self (by omega)]
      omega
    · simp only [h0, if_false]
      have : m = 0 := by omega
      subst this
      have : ((0 : Int) + 1) / s = 0 := Int.ediv_eq_zero_of_lt (by omega) (by omega)
      omega
  · rw [if_neg hx, if_neg hx]
    omega

theorem need_more (c : Cfg) (hw : c.wrong = 0) (xs : List Int) (x : Int) :
    c.need xs xs.length ≤ c.need (xs ++ [x]) (xs.length + 1) ∧ c.need (xs ++ [x]) (xs.length + 1) ≤ c.need xs xs.length + pagesI x + c.t + 1 := by
  have ht := (Cfg.wrong_zero hw).1.t
  have hp := pagesI_bd x
  have hpg : pgI (xs ++ [x]) (xs.length + 1) = pgI xs xs.length + pagesI x := by simp only [pgI, getD_last, pgI_more xs x xs.length (Nat.le_refl _)]
  have t1 := termI_more xs x c.t (by omega) (k := 1) (by omega)
  have t2 := termI_more xs x c.t (by omega) (k := 2) (by omega)
  have t3 := termI_more xs x c.t (by omega) (k := 3) (by omega)
  have t4 := termI_more xs x c.t (by omega) (k := 4) (by omega)
  unfold Cfg.need
  rw [if_pos hw, if_pos hw]
  unfold needI
  rw [hpg]
  have s1 : ∀ ys m, sumI ys c.t m 4 = termI ys c.t m 1 + termI ys c.t m 2 + termI ys c.t m 3 + termI ys c.t m 4 := fun ys m => by simp [sumI]
  rw [s1, s1]
  have hof := ofI_bd x
  have h5 : ofI x = 0 ∨ ofI x = 1 ∨ ofI x = 2 ∨ ofI x = 3 ∨ ofI x = 4 ∨ ofI x = 5 := by omega
  rcases h5 with h | h | h | h | h | h <;> rw [h] at t1 t2 t3 t4 <;> simp at t1 t2 t3 t4 <;> omega

theorem RdI.of_own {w : World} {base e n : Nat} {v : Value} {xs : List Int} (h : w.ownsRow base e 1 v n (xs.map (Value.int .i64))) (hn : n * 8 ≤ 140737488355328) :
    ∃ A cap, v = .slice A n cap ∧ RdI w A n xs := by
  have hl : xs.length = n := by have := h.1; simpa using this
  rcases h.2 with ⟨rfl, rfl⟩ | ⟨g, cap, cur, rfl, hg, hh, hc, hm, hs, ht⟩
  · exact ⟨none, 0, rfl, hl, hn, fun h0 => absurd h0 (by omega)⟩
  · refine ⟨_, cap, rfl, hl, hn, fun _ => ⟨g, 0, rfl, heap_lt hh, fun j hj => ?_⟩⟩
    rw [Nat.zero_add, h.cellAt j (by omega)]
    rw [List.getElem?_map, List.getD_eq_getElem?_getD, List.getElem?_eq_getElem (by omega)]
    rfl
theorem RdI.cells {w : World} {ad : Addr} {n : Nat} {xs : List Int} (h : RdI w (some ad) n xs) : ∀ j u, (xs.map (Value.int .i64))[j]? = some u → w.cell? (ad.add j) = some u := by
  intro j u hu
  have hj : j < xs.length := by
    rcases Nat.lt_or_ge j xs.length with h1 | h1
    · exact h1
    · rw [List.getElem?_eq_none (by simpa using h1)] at hu; cases hu
  have hl := h.len
  obtain ⟨b, o, e, _, hc⟩ := h.cell (by omega)
  cases e
  have hadd : (⟨b, o, none⟩ : Addr).add j = ⟨b, o + j, none⟩ := by unfold Addr.add; split <;> simp_all
  rw [hadd, hc j (by omega), ← hu, List.getElem?_map, List.getD_eq_getElem?_getD, List.getElem?_eq_getElem hj]
  rfl
end Go.Proofs.Ytbbdjfbhidpeiaa
