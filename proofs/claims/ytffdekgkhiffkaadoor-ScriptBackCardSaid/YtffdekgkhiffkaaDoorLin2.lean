/- What has been read of a line's pieces, in plain lists. -/
import Derived.Test.YtffdekgkhiffkaaDoorLin0
namespace Go.Proofs.YtffdekgkhiffkaaDoor
open Go.RowKit

def ord6 : List UInt8 := [84, 73, 70, 74, 78, 67]
theorem lets_filter : ∀ k : Nat, 1 ≤ k → k ≤ 17 → letsI k = ord6.filter fun l => Stp.has (k : Int) (Stp.idx l) := by
  have h : ∀ k : Fin 18, 1 ≤ k.val → letsI k = ord6.filter fun l => Stp.has (k.val : Int) (Stp.idx l) := by decide +kernel
  intro k h1 h2
  exact h ⟨k, by omega⟩ h1
theorem filter_at (p : UInt8 → Bool) (l : List UInt8) (k : Nat) (h : k < l.length) (hp : p (l.getD k 0) = true) :
    (l.filter p).getD ((l.take k).filter p).length 0 = l.getD k 0 ∧ ((l.take k).filter p).length < (l.filter p).length ∧ ((l.take (k + 1)).filter p).length = ((l.take k).filter p).length + 1 := by
  have e : l = l.take k ++ (l.getD k 0 :: l.drop (k + 1)) := by
    rw [List.getD_eq_getElem?_getD, List.getElem?_eq_getElem h]
    simp
  have e2 : l.filter p = (l.take k).filter p ++ (l.getD k 0 :: (l.drop (k + 1)).filter p) := by
    conv => lhs; rw [e]
    rw [List.filter_append, List.filter_cons, if_pos hp]
  have e3 : l.take (k + 1) = l.take k ++ [l.getD k 0] := by
    rw [List.getD_eq_getElem?_getD, List.getElem?_eq_getElem h, List.take_succ_eq_append_getElem h]; rfl
  refine ⟨?_, ?_, ?_⟩
  · rw [e2, List.getD_eq_getElem?_getD, List.getElem?_append_right (Nat.le_refl _)]
    simp
  · rw [e2]; simp
  · rw [e3, List.filter_append, List.filter_cons, if_pos hp]; simp
theorem filter_no (p : UInt8 → Bool) (l : List UInt8) (k : Nat) (h : k < l.length) (hp : p (l.getD k 0) = false) :
    ((l.take (k + 1)).filter p).length = ((l.take k).filter p).length := by
  have e3 : l.take (k + 1) = l.take k ++ [l.getD k 0] := by
    rw [List.getD_eq_getElem?_getD, List.getElem?_eq_getElem h, List.take_succ_eq_append_getElem h]; rfl
  rw [e3, List.filter_append, List.filter_cons, if_neg (by rw [hp]; simp)]; simp

/-- The first m of a line's numbers have been read into a step. -/
structure Got (x : Stp) (ls : List UInt8) (rest : List (List UInt8)) (m : Nat) : Prop where
  le : m ≤ ls.length
  le2 : m ≤ rest.length
  num : ∀ j, j < m → numT (rest.getD j []) = some (x.letF (ls.getD j 0))
  zero : ∀ l, Stp.Let l → l ∉ ls.take m → x.letF l = 0
theorem got_zero (k : Int) (ls : List UInt8) (rest : List (List UInt8)) : Got { Stp.zero with k := k } ls rest 0 :=
  ⟨Nat.zero_le _, Nat.zero_le _, fun j hj => absurd hj (by omega), fun l hl _ => by rcases hl with rfl | rfl | rfl | rfl | rfl | rfl <;> rfl⟩
theorem getD_in {ls : List UInt8} {m : Nat} (h : m < ls.length) : ls.getD m 0 ∈ ls := by
  rw [List.getD_eq_getElem?_getD, List.getElem?_eq_getElem h]; exact List.getElem_mem h
theorem getD_ne {ls : List UInt8} (hd : ls.Nodup) {i j : Nat} (hi : i < ls.length) (hj : j < ls.length) (h : i ≠ j) : ls.getD i 0 ≠ ls.getD j 0 := by
  intro e
  rw [List.getD_eq_getElem?_getD, List.getElem?_eq_getElem hi, List.getD_eq_getElem?_getD, List.getElem?_eq_getElem hj] at e
  exact h ((List.getElem_inj hd).1 e)
theorem take_more {ls : List UInt8} {m : Nat} (h : m < ls.length) : ls.take (m + 1) = ls.take m ++ [ls.getD m 0] := by
  rw [List.getD_eq_getElem?_getD, List.getElem?_eq_getElem h, List.take_succ_eq_append_getElem h]; rfl
theorem got_step {x : Stp} {ls : List UInt8} {rest : List (List UInt8)} {m : Nat} {v : Int} (h : Got x ls rest m) (hm : m < ls.length) (hr : m < rest.length) (hl : ∀ l ∈ ls, Stp.Let l) (hd : ls.Nodup) (hv : numT (rest.getD m []) = some v) :
    Got (x.setF (ls.getD m 0) v) ls rest (m + 1) := by
  have hlm := hl _ (getD_in hm)
  refine ⟨hm, hr, ?_, ?_⟩
  · intro j hj
    by_cases e : j = m
    · subst e; rw [Stp.setF_same x v hlm]; exact hv
    · rw [Stp.setF_other x v hlm (hl _ (getD_in (by omega))) (getD_ne hd (by omega) hm e)]
      exact h.num j (by omega)
  · intro l hll hn
    rw [take_more hm, List.mem_append, List.mem_singleton, not_or] at hn
    rw [Stp.setF_other x v hlm hll hn.2]
    exact h.zero l hll hn.1
theorem got_rng {x : Stp} {ls : List UInt8} {rest : List (List UInt8)} {m : Nat} (h : Got x ls rest m) : ∀ l, Stp.Let l → Rng (x.letF l) := by
  intro l hl
  by_cases hm : l ∈ ls.take m
  · obtain ⟨j, hj, e⟩ := List.getElem_of_mem hm
    rw [List.length_take] at hj
    have hn := h.num j (by omega)
    have e2 : ls.getD j 0 = l := by
      rw [List.getElem_take] at e
      rw [List.getD_eq_getElem?_getD, List.getElem?_eq_getElem (by omega)]; exact e
    rw [e2] at hn
    exact (numT_some hn).2
  · rw [h.zero l hl hm]; exact ⟨by decide, by decide⟩
theorem got_done {x : Stp} {ls : List UInt8} {rest : List (List UInt8)} (h : Got x ls rest ls.length) (hr : rest.length = ls.length) : ls.map (fun c => Lib.itoa (x.letF c)) = rest := by
  apply List.ext_getElem
  · simp [hr]
  · intro j h1 h2
    have hj : j < ls.length := by simpa using h1
    have hn := (numT_some (h.num j hj)).1
    rw [List.getD_eq_getElem?_getD, List.getElem?_eq_getElem hj, List.getD_eq_getElem?_getD, List.getElem?_eq_getElem h2] at hn
    rw [List.getElem_map]; exact hn
/-- All numbers read, and the step may be: the line is the step's. -/
theorem got_lin {x : Stp} {kk : Nat} {l p : List UInt8} {rest : List (List UInt8)} (hp : Pieces 32 l (p :: rest)) (hk : x.k = (kk : Int)) (hw : wordI kk = p) (h : Got x (letsI kk) rest (letsI kk).length) (hr : rest.length = (letsI kk).length) (hc : x.check = 0) : Lin l x := by
  have e : x.k.toNat = kk := by omega
  exact lin_of hc (got_rng h 78 (.inr (.inr (.inr (.inr (.inl rfl)))))) hp (by rw [e]; exact hw) (by rw [e]; exact got_done h hr)
theorem lin_kind {l : List UInt8} {y : Stp} (h : Lin l y) : 1 ≤ y.k ∧ y.k ≤ 17 := (Stp.check_zero h.1).1
theorem lin_word {l p : List UInt8} {y : Stp} {kk : Nat} {rest : List (List UInt8)} (hp : Pieces 32 l (p :: rest)) (h : Lin l y) (hk : y.k = (kk : Int)) : wordI kk = p ∧ rest.length = (letsI kk).length := by
  have e : y.k.toNat = kk := by omega
  obtain ⟨h1, h2⟩ := lin_parts h hp
  rw [e] at h1 h2
  exact ⟨h1, by rw [← h2, List.length_map]⟩
theorem lin_num {l p : List UInt8} {y : Stp} {kk : Nat} {rest : List (List UInt8)} (hp : Pieces 32 l (p :: rest)) (h : Lin l y) (hk : y.k = (kk : Int)) {j : Nat} (hj : j < (letsI kk).length) : numT (rest.getD j []) = some (y.letF ((letsI kk).getD j 0)) := by
  have e : y.k.toNat = kk := by omega
  obtain ⟨h1, h2⟩ := lin_parts h hp
  rw [e] at h2
  rw [← h2, List.getD_eq_getElem?_getD, List.getElem?_map, List.getD_eq_getElem?_getD, List.getElem?_eq_getElem hj]
  exact numT_itoa (Stp.check_rngs h.1 h.2.1 _)
theorem got_only {x y : Stp} {kk : Nat} {l p : List UInt8} {rest : List (List UInt8)} (hp : Pieces 32 l (p :: rest)) (hk : x.k = (kk : Int)) (h : Got x (letsI kk) rest (letsI kk).length) (hy : Lin l y) (hyk : y.k = (kk : Int)) : y = x := by
  refine Stp.ext_let (by rw [hk, hyk]) fun c hc => ?_
  by_cases hm : c ∈ letsI kk
  · obtain ⟨j, hj, e⟩ := List.getElem_of_mem hm
    have e2 : (letsI kk).getD j 0 = c := by rw [List.getD_eq_getElem?_getD, List.getElem?_eq_getElem hj]; exact e
    have h1 := lin_num hp hy hyk hj
    have h2 := h.num j hj
    rw [h2, e2] at h1
    exact (Option.some.inj h1).symm
  · rw [Stp.check_zero' hy.1 hyk c hc hm, h.zero c hc (by rw [List.take_length]; exact hm)]
theorem got_check {x : Stp} {kk : Nat} {rest : List (List UInt8)} (h1 : 1 ≤ kk) (h2 : kk ≤ 17) (hk : x.k = (kk : Int)) (h : Got x (letsI kk) rest (letsI kk).length) (hs : ∀ l, Stp.Let l → l ≠ 78 → 0 ≤ x.letF l ∧ x.letF l ≤ 255) : x.check = 0 := by
  have z : ∀ l, Stp.Let l → x.letF l = 0 ∨ Stp.has x.k (Stp.idx l) = true := by
    intro l hl
    by_cases hm : l ∈ letsI kk
    · right; rw [hk]; exact (Stp.lets_has kk h1 h2 l hl).1 hm
    · left; exact h.zero l hl (by rw [List.take_length]; exact hm)
  have l84 : Stp.Let 84 := .inl rfl
  have l73 : Stp.Let 73 := .inr (.inl rfl)
  have l70 : Stp.Let 70 := .inr (.inr (.inl rfl))
  have l74 : Stp.Let 74 := .inr (.inr (.inr (.inl rfl)))
  have l78 : Stp.Let 78 := .inr (.inr (.inr (.inr (.inl rfl))))
  have l67 : Stp.Let 67 := .inr (.inr (.inr (.inr (.inr rfl))))
  refine Stp.check_ok ⟨by omega, by omega⟩ ?_ ?_ ?_
  · intro j hj
    match j, hj with
    | 0, _ => exact hs 84 l84 (by decide)
    | 1, _ => exact hs 73 l73 (by decide)
    | 2, _ => exact hs 70 l70 (by decide)
    | 3, _ => exact hs 74 l74 (by decide)
    | 4, _ => exact hs 67 l67 (by decide)
  · intro j hj
    match j, hj with
    | 0, _ => exact z 84 l84
    | 1, _ => exact z 73 l73
    | 2, _ => exact z 70 l70
    | 3, _ => exact z 74 l74
    | 4, _ => exact z 67 l67
  · rintro ⟨hn, hf⟩
    rcases z 78 l78 with h0 | h0
    · exact hn h0
    · have : Stp.has x.k 5 = true := h0
      rw [hf] at this; cases this
/-- Parsed: the line's step, or none. -/
def Parsed (l : List UInt8) (x : Stp) (ok : Bool) : Prop := if ok then Lin l x else x = Stp.zero ∧ ∀ y, ¬ Lin l y
theorem parsed_yes {l : List UInt8} {x : Stp} (h : Lin l x) : Parsed l x true := h
theorem parsed_no {l : List UInt8} (h : ∀ y, ¬ Lin l y) : Parsed l Stp.zero false := ⟨rfl, h⟩
theorem parsed_unique {l : List UInt8} {x y : Stp} {a b : Bool} (h : Parsed l x a) (k : Parsed l y b) : x = y ∧ a = b := by
  cases a <;> cases b
  · exact ⟨h.1.trans k.1.symm, rfl⟩
  · exact absurd k (h.2 y)
  · exact absurd h (k.2 x)
  · exact ⟨lin_unique h k, rfl⟩
end Go.Proofs.YtffdekgkhiffkaaDoor
