/- A text cut at a letter, in plain lists. -/
import Derived.Test.YtffdekgkhiffkaaDoorLin0
import Derived.Lib.SplitLaws
namespace Go.Proofs.YtffdekgkhiffkaaDoor
open Go.RowKit

theorem index_cons (b c : UInt8) (l : List UInt8) : Lib.index (b :: l) [c] = if c = b then 0 else if Lib.index l [c] == -1 then -1 else Lib.index l [c] + 1 := by
  by_cases h : c = b
  · subst h; simp [Lib.index, List.isPrefixOf]
  · rw [if_neg h]
    have hp : ([c] : List UInt8).isPrefixOf (b :: l) = false := by simp [List.isPrefixOf, h]
    rw [Lib.index, hp]; simp
theorem index_no {c : UInt8} : ∀ {l : List UInt8}, Lib.index l [c] = -1 → c ∉ l
  | [], _ => by simp
  | b :: l, h => by
    rw [index_cons] at h
    split at h
    · omega
    · rename_i hb
      split at h
      · rename_i hm
        have ih := index_no (beq_iff_eq.1 hm)
        rw [List.mem_cons, not_or]
        exact ⟨hb, ih⟩
      · have := Lib.index_ge l [c]; omega
theorem index_yes {c : UInt8} : ∀ {l : List UInt8} {i : Nat}, Lib.index l [c] = (i : Int) → l = l.take i ++ c :: l.drop (i + 1) ∧ c ∉ l.take i ∧ i < l.length
  | [], i, h => by simp [Lib.index] at h
  | b :: l, i, h => by
    rw [index_cons] at h
    split at h
    · rename_i hb
      have : i = 0 := by omega
      subst this hb
      simp
    · rename_i hb
      split at h
      · omega
      · rename_i hm
        have hge := Lib.index_ge l [c]
        obtain ⟨j, rfl⟩ : ∃ j, i = j + 1 := ⟨i - 1, by have : ¬ Lib.index l [c] = -1 := fun e => hm (beq_iff_eq.2 e); omega⟩
        obtain ⟨h1, h2, h3⟩ := index_yes (c := c) (l := l) (i := j) (by omega)
        refine ⟨?_, ?_, by simp; omega⟩
        · rw [List.take_succ_cons, List.drop_succ_cons, List.cons_append, ← h1]
        · rw [List.take_succ_cons, List.mem_cons, not_or]; exact ⟨hb, h2⟩
theorem index_or (c : UInt8) (l : List UInt8) : Lib.index l [c] = -1 ∨ ∃ i : Nat, Lib.index l [c] = (i : Int) := by
  have hge := Lib.index_ge l [c]
  by_cases h : Lib.index l [c] = -1
  · exact .inl h
  · exact .inr ⟨(Lib.index l [c]).toNat, by omega⟩
theorem split_pieces (c : UInt8) : ∀ (k : Nat) (l : List UInt8), Lib.count l [c] = k → Pieces c l (Lib.splitK [c] 0 k l)
  | 0, l, hk => by
    rcases index_or c l with h | ⟨i, h⟩
    · exact Pieces.one (index_no h)
    · have := Lib.count_hit (sub := [c]) (by simp) h
      omega
  | k + 1, l, hk => by
    rcases index_or c l with h | ⟨i, h⟩
    · have := Lib.count_miss (sub := [c]) h
      omega
    · have hc := Lib.count_hit (sub := [c]) (by simp) h
      have ih := split_pieces c k (l.drop (i + 1)) (by simp at hc; omega)
      obtain ⟨h1, h2, _⟩ := index_yes h
      have e : Lib.splitK [c] 0 (k + 1) l = l.take i :: Lib.splitK [c] 0 k (l.drop (i + 1)) := by
        rw [Lib.splitK, if_neg (by rw [h]; simp), h]; simp
      rw [e]
      have := ih.front h2
      rw [← h1] at this
      exact this
/-- The pieces that strings.Split comes to. -/
def pcs (l : List UInt8) : List (List UInt8) := Lib.splitK [32] 0 (Lib.count l [32]) l
theorem pcs_pieces (l : List UInt8) : Pieces 32 l (pcs l) := split_pieces 32 _ l rfl
theorem pcs_count (l : List UInt8) : Lib.countB (S l) (S [32]) + 1 = (pcs l).length := by
  have h := Lib.splitB_all (S [32]) (by decide) 0 (Lib.countB (S l) (S [32])) (S l) rfl
  have e := congrArg List.length (Lib.splitB_data (S [32]) 0 (Lib.countB (S l) (S [32])) (S l))
  rw [List.length_map] at e
  rw [← h, e]
  rfl
theorem pcs_cells (l : List UInt8) : (Lib.splitB (S [32]) 0 (Lib.countB (S l) (S [32])) (S l)).map Value.string = strs (pcs l) := by
  have e := Lib.splitB_data (S [32]) 0 (Lib.countB (S l) (S [32])) (S l)
  have e2 : pcs l = (Lib.splitB (S [32]) 0 (Lib.countB (S l) (S [32])) (S l)).map (·.data.toList) := e.symm
  rw [e2, strs, List.map_map]
  rfl
theorem pieces_len {c : UInt8} : ∀ {ps : List (List UInt8)} {l : List UInt8}, Pieces c l ps → ps.length ≤ l.length + 1 ∧ ∀ p ∈ ps, p.length ≤ l.length
  | [], l, h => absurd rfl h.1
  | [a], l, h => by
    have : a = l := by rw [← h.2.1, Lib.join_one]
    subst this
    simp
  | a :: b :: r, l, h => by
    obtain ⟨_, h1, h2⟩ := h
    have hr : Pieces c (Lib.join (b :: r) [c]) (b :: r) := ⟨by simp, rfl, fun p hp => h2 p (by simp [hp])⟩
    obtain ⟨i1, i2⟩ := pieces_len hr
    have e : l.length = a.length + 1 + (Lib.join (b :: r) [c]).length := by
      rw [← h1, Lib.join_cons, Lib.join_cons]
      simp [Lib.joinTail]; omega
    simp only [List.length_cons] at i1 ⊢
    refine ⟨by omega, ?_⟩
    intro p hp
    rcases List.mem_cons.1 hp with rfl | hp
    · omega
    · have := i2 p hp; omega
/-- The first line of a text that has one. -/
theorem cut_yes {l : List UInt8} {i : Nat} (h : Lib.index l [10] = (i : Int)) : Lib.cut l [10] = (l.take i, l.drop (i + 1), true) := by
  unfold Lib.cut
  rw [h, if_pos (by omega)]
  simp
theorem cut_no {l : List UInt8} (h : Lib.index l [10] = -1) : Lib.cut l [10] = (l, [], false) := by
  unfold Lib.cut
  rw [h, if_neg (by omega)]
end Go.Proofs.YtffdekgkhiffkaaDoor
