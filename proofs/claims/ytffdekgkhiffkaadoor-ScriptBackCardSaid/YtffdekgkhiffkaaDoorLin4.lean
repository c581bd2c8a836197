/- Many lines, in plain lists. -/
import Derived.Test.YtffdekgkhiffkaaDoorLin2
import Derived.Test.YtffdekgkhiffkaaDoorLin3
namespace Go.Proofs.YtffdekgkhiffkaaDoor
open Go.RowKit

/-- A step that has a line. -/
def Ok (x : Stp) : Prop := x.check = 0 ∧ Rng x.n
/-- All lines, each with a line feed behind. -/
def textOf (xs : List Stp) : List UInt8 := xs.flatMap fun x => x.line ++ [10]
/-- A text is these steps' lines. -/
def Lines (l : List UInt8) (xs : List Stp) : Prop := (∀ x ∈ xs, Ok x) ∧ textOf xs = l
theorem textOf_nil : textOf [] = [] := rfl
theorem textOf_cons (x : Stp) (xs : List Stp) : textOf (x :: xs) = x.line ++ 10 :: textOf xs := by simp [textOf]
theorem textOf_snoc (xs : List Stp) (x : Stp) : textOf (xs ++ [x]) = textOf xs ++ x.line ++ [10] := by simp [textOf]
theorem textOf_app (xs ys : List Stp) : textOf (xs ++ ys) = textOf xs ++ textOf ys := by simp [textOf]
theorem line_len2 (x : Stp) : 0 < x.line.length + 1 := by omega
theorem textOf_len : ∀ xs : List Stp, xs.length ≤ (textOf xs).length
  | [] => Nat.le_refl _
  | x :: xs => by
    have := textOf_len xs
    rw [textOf_cons]
    simp; omega
theorem head_ten {a b T U : List UInt8} (ha : (10 : UInt8) ∉ a) (hb : (10 : UInt8) ∉ b) (h : a ++ 10 :: T = b ++ 10 :: U) : a = b ∧ T = U := by
  obtain ⟨h1, h2⟩ := head_same (c := 10) (T := 10 :: T) (U := 10 :: U) ha hb (.inr ⟨_, rfl⟩) (.inr ⟨_, rfl⟩) h
  injection h2 with _ h2
  exact ⟨h1, h2⟩
/-- What stands behind the steps that were read. -/
theorem lines_behind {xs : List Stp} : ∀ {done : List Stp} {l : List UInt8}, (∀ x ∈ done, Ok x) → Lines (textOf done ++ l) xs → ∃ ys, xs = done ++ ys ∧ Lines l ys
  | [], l, _, h => ⟨xs, rfl, h⟩
  | d :: done, l, hd, h => by
    cases xs with
    | nil =>
      have := h.2
      rw [textOf_nil, textOf_cons] at this
      simp at this
    | cons x xs =>
      have e := h.2
      rw [textOf_cons, textOf_cons, List.append_assoc, List.cons_append] at e
      obtain ⟨e1, e2⟩ := head_ten (line_free x) (line_free d) e
      have hx : Ok x := h.1 x (by simp)
      have hdd : Ok d := hd d (by simp)
      have : x = d := lin_unique (l := d.line) ⟨hx.1, hx.2, e1⟩ ⟨hdd.1, hdd.2, rfl⟩
      subst this
      obtain ⟨ys, h1, h2⟩ := lines_behind (xs := xs) (done := done) (l := l) (fun y hy => hd y (by simp [hy])) ⟨fun y hy => h.1 y (by simp [hy]), e2⟩
      exact ⟨ys, by rw [h1]; rfl, h2⟩
theorem lines_unique {l : List UInt8} {xs ys : List Stp} (hx : Lines l xs) (hy : Lines l ys) : xs = ys := by
  have : Lines (textOf ys ++ []) xs := by rw [List.append_nil, hy.2]; exact hx
  obtain ⟨zs, h1, h2⟩ := lines_behind hy.1 this
  have : zs = [] := by
    cases zs with
    | nil => rfl
    | cons z zs => have := h2.2; rw [textOf_cons] at this; simp at this
  rw [h1, this, List.append_nil]
theorem lines_snoc {l p : List UInt8} {xs : List Stp} {x : Stp} (h : Lines l xs) (hx : Lin p x) : Lines (l ++ p ++ [10]) (xs ++ [x]) := by
  refine ⟨?_, ?_⟩
  · intro y hy
    rcases List.mem_append.1 hy with hy | hy
    · exact h.1 y hy
    · rw [List.mem_singleton] at hy; subst hy; exact ⟨hx.1, hx.2.1⟩
  · rw [textOf_snoc, h.2, hx.2.2]
/-- No line feed, but letters: no lines. -/
theorem lines_no {l : List UInt8} (hl : l ≠ []) (h : Lib.index l [10] = -1) : ∀ ys, ¬ Lines l ys := by
  intro ys hy
  cases ys with
  | nil => exact hl hy.2.symm
  | cons y ys =>
    have := index_no h
    rw [← hy.2, textOf_cons] at this
    simp at this
/-- The first line is a step's. -/
theorem lines_first {l : List UInt8} {i : Nat} (h : Lib.index l [10] = (i : Int)) {ys : List Stp} (hy : Lines l ys) : ∃ y ys', ys = y :: ys' ∧ Lin (l.take i) y := by
  obtain ⟨e, hn, hi⟩ := index_yes h
  cases ys with
  | nil => have := hy.2; rw [textOf_nil] at this; rw [← this] at hi; simp at hi
  | cons y ys =>
    have h2 := hy.2
    rw [textOf_cons, e] at h2
    obtain ⟨h3, _⟩ := head_ten (line_free y) hn h2
    have := hy.1 y (by simp)
    exact ⟨y, ys, rfl, this.1, this.2, h3⟩
/-- The steps read so far, and what is left. -/
def Sofar (l : List UInt8) (done : List Stp) (left : List UInt8) : Prop := (∀ x ∈ done, Ok x) ∧ l = textOf done ++ left
theorem sofar_zero (l : List UInt8) : Sofar l [] l := ⟨by simp, by simp [textOf]⟩
theorem sofar_step {l left : List UInt8} {done : List Stp} {i : Nat} {x : Stp} (h : Sofar l done left) (hi : Lib.index left [10] = (i : Int)) (hx : Lin (left.take i) x) : Sofar l (done ++ [x]) (left.drop (i + 1)) := by
  obtain ⟨e, _, _⟩ := index_yes hi
  refine ⟨?_, ?_⟩
  · intro y hy
    rcases List.mem_append.1 hy with hy | hy
    · exact h.1 y hy
    · rw [List.mem_singleton] at hy; subst hy; exact ⟨hx.1, hx.2.1⟩
  · rw [textOf_snoc, hx.2.2]
    conv => lhs; rw [h.2, e]
    simp
theorem sofar_no {l left : List UInt8} {done : List Stp} (h : Sofar l done left) (hn : ∀ ys, ¬ Lines left ys) : ∀ xs, ¬ Lines l xs := by
  intro xs hx
  rw [h.2] at hx
  obtain ⟨ys, _, h2⟩ := lines_behind h.1 hx
  exact hn ys h2
theorem sofar_end {l : List UInt8} {done : List Stp} (h : Sofar l done []) : Lines l done := ⟨h.1, by rw [h.2, List.append_nil]⟩
theorem sofar_len {l left : List UInt8} {done : List Stp} (h : Sofar l done left) : done.length ≤ l.length ∧ left.length ≤ l.length := by
  have := textOf_len done
  rw [h.2]
  simp; omega
end Go.Proofs.YtffdekgkhiffkaaDoor
