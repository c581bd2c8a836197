/- The plain graph stays good. -/
import Derived.Test.YtaefcmmjeloccaaGr0
namespace Go.Proofs.Ytaefcmmjeloccaa
open Go.RowKit

theorem VlOk.up {n m : Nat} {v : Vl} (h : VlOk n v) (hm : n ≤ m) : VlOk m v := ⟨h.1, fun h2 => by have := h.2 h2; omega⟩
theorem vl_zero (n : Nat) : VlOk n (0, 0) := ⟨⟨by decide, by decide⟩, fun h => absurd h (by decide)⟩
namespace Gr
theorem at_ok {n : Nat} {l : List Vl} (h : ∀ v ∈ l, VlOk n v) (i : Int) : VlOk n (at? l i) := by
  unfold at?
  rw [List.getD_eq_getElem?_getD]
  cases hx : l[i.toNat]? with
  | none => exact vl_zero n
  | some v => exact h v (List.mem_of_getElem? hx)
theorem Good.th {G : Gr} (h : G.Good) (t : Int) : (G.held t).length ≤ 16 ∧ ∀ v ∈ G.held t, VlOk G.nod.length v := by
  unfold held Gr.th
  rw [List.getD_eq_getElem?_getD]
  cases hx : G.thr[t.toNat]? with
  | none => exact ⟨Nat.zero_le _, fun v hv => absurd hv (by simp [Th.none])⟩
  | some x => exact ⟨h.roots x (List.mem_of_getElem? hx), h.vals x (List.mem_of_getElem? hx)⟩
theorem Good.nd {G : Gr} (h : G.Good) (s : Int) : (G.node s).length ≤ 127 ∧ ∀ v ∈ G.node s, VlOk G.nod.length v := by
  unfold node
  rw [List.getD_eq_getElem?_getD]
  cases hx : G.nod[s.toNat]? with
  | none => exact ⟨Nat.zero_le _, fun v hv => absurd hv (by simp)⟩
  | some x => exact ⟨h.fields x (List.mem_of_getElem? hx), h.writ x (List.mem_of_getElem? hx)⟩
theorem Good.setT {G : Gr} (h : G.Good) (t : Int) {x : Th} (h1 : x.held.length ≤ 16) (h2 : ∀ v ∈ x.held, VlOk G.nod.length v) : (G.setT t x).Good :=
  ⟨by rw [show (G.setT t x).thr = G.thr.set t.toNat x from rfl, List.length_set]; exact h.one, by rw [show (G.setT t x).thr = G.thr.set t.toNat x from rfl, List.length_set]; exact h.few,
   fun y hy => by
    rcases List.mem_or_eq_of_mem_set hy with h' | rfl
    · exact h.roots y h'
    · exact h1,
   fun y hy => by
    rcases List.mem_or_eq_of_mem_set hy with h' | rfl
    · exact h.vals y h'
    · exact h2, h.some, h.most, h.fields, h.writ⟩
theorem Good.hold {G : Gr} (h : G.Good) (t : Int) {v : Vl} (hv : VlOk G.nod.length v) (hr : (G.held t).length < 16) : (G.hold t v).Good := by
  refine h.setT t ?_ ?_
  · simp; omega
  · intro u hu
    rcases List.mem_append.1 hu with h' | h'
    · exact (h.th t).2 u h'
    · rw [List.mem_singleton.1 h']; exact hv
theorem Good.drop1 {G : Gr} (h : G.Good) (t : Int) : (G.drop1 t).Good :=
  h.setT t (by have := (h.th t).1; simp; omega) (fun v hv => (h.th t).2 v ((List.dropLast_sublist _).subset hv))
theorem Good.addN {G : Gr} (h : G.Good) {n : Int} (h1 : n ≤ 127) (hm : G.nod.length < 1000000) : (G.addN n).Good := by
  have hl : (G.addN n).nod.length = G.nod.length + 1 := by simp [Gr.addN]
  refine ⟨h.one, h.few, h.roots, fun y hy v hv => (h.vals y hy v hv).up (by omega), by omega, by omega, fun l hl' => ?_, fun l hl' v hv => ?_⟩
  · rcases List.mem_append.1 hl' with h' | h'
    · exact h.fields l h'
    · rw [List.mem_singleton.1 h', List.length_replicate]; omega
  · rcases List.mem_append.1 hl' with h' | h'
    · exact (h.writ l h' v hv).up (by omega)
    · rw [List.mem_singleton.1 h'] at hv
      rw [List.eq_of_mem_replicate hv]; exact vl_zero _
theorem Good.setF {G : Gr} (h : G.Good) (s f : Int) {v : Vl} (hv : VlOk G.nod.length v) : (G.setF s f v).Good := by
  have hl : (G.setF s f v).nod.length = G.nod.length := by simp [Gr.setF]
  refine ⟨h.one, h.few, h.roots, fun y hy u hu => by rw [hl]; exact h.vals y hy u hu, by rw [hl]; exact h.some, by rw [hl]; exact h.most, fun l hl' => ?_, fun l hl' u hu => ?_⟩
  · rcases List.mem_or_eq_of_mem_set hl' with h' | rfl
    · exact h.fields l h'
    · rw [List.length_set]; exact (h.nd s).1
  · rw [hl]
    rcases List.mem_or_eq_of_mem_set hl' with h' | rfl
    · exact h.writ l h' u hu
    · rcases List.mem_or_eq_of_mem_set hu with h' | rfl
      · exact (h.nd s).2 u h'
      · exact hv
/-- .. and has one object more at most. -/
def Next (G G' : Gr) : Prop := G'.Good ∧ G'.nod.length ≤ G.nod.length + 1 ∧ G'.thr.length = G.thr.length
theorem Next.same {G : Gr} (h : G.Good) : G.Next G := ⟨h, by omega, rfl⟩
theorem next_setT {G : Gr} {t : Int} {x : Th} (h : (G.setT t x).Good) : G.Next (G.setT t x) := ⟨h, by simp [Gr.setT], by simp [Gr.setT]⟩
theorem Good.push {G : Gr} (h : G.Good) (t : Int) {v : Vl} (hv : VlOk G.nod.length v) : G.Next (G.push t v).2 := by
  unfold Gr.push
  split
  · exact Next.same h
  · exact next_setT (h.hold t hv (by omega))
theorem Good.kind {G : Gr} (h : G.Good) (hm : G.nod.length < 1000000) (q no : Int) (x : Stp) : ∀ k, G.Next (G.kind q x no k).2 := by
  intro k
  match k with
  | 1 => exact next_setT (h.setT _ (by simp) (by simp))
  | 2 => exact next_setT (h.setT _ (by simp) (by simp))
  | 3 =>
    show G.Next (if badCost q x || badN x 0 127 then (err 4, G) else if 16 ≤ (G.held x.t).length then (err 3, G) else if no ≠ 0 then (err no, G) else (told (2, (G.nod.length : Int)), (G.addN x.n).hold x.t (2, (G.nod.length : Int)))).2
    split
    · exact Next.same h
    · split
      · exact Next.same h
      · split
        · exact Next.same h
        · rename_i h1 h2 h3
          have hn : x.n ≤ 127 := by
            rcases Int.lt_or_le 127 x.n with h' | h'
            · exact absurd (by unfold badN; simp [h']) h1
            · exact h'
          have hg := h.addN hn hm
          have hl : (G.addN x.n).nod.length = G.nod.length + 1 := by simp [Gr.addN]
          have hmost := h.most
          have hh := hg.hold x.t (v := (2, (G.nod.length : Int))) ⟨⟨by simp only; omega, by simp only; omega⟩, fun _ => ⟨by simp only; omega, by simp only; omega⟩⟩ (by show (G.held x.t).length < 16; omega)
          exact ⟨hh, by show (G.addN x.n).nod.length ≤ _; omega, by simp [Gr.hold, Gr.setT, Gr.addN]⟩
  | 4 =>
    show G.Next (if badN x (-1099511627776) 1099511627775 then (err 4, G) else G.push x.t (1, x.n)).2
    split
    · exact Next.same h
    · rename_i h1
      have hn : -1099511627776 ≤ x.n ∧ x.n ≤ 1099511627775 := by
        simp only [badN, Bool.or_eq_true, decide_eq_true_eq] at h1
        omega
      exact h.push x.t ⟨⟨by simp only; omega, by simp only; omega⟩, fun h2 => absurd h2 (by simp)⟩
  | 5 => exact h.push x.t (vl_zero _)
  | 6 =>
    have := h.some
    exact h.push x.t ⟨⟨by decide, by decide⟩, fun _ => ⟨by decide, by simp only; omega⟩⟩
  | 7 =>
    show G.Next (if ((G.held x.t).length : Int) ≤ x.i then (err 4, G) else G.push x.t (at? (G.held x.t) x.i)).2
    split
    · exact Next.same h
    · exact h.push x.t (at_ok (h.th x.t).2 _)
  | 8 =>
    show G.Next (if (G.held x.t).length = 0 then (err 4, G) else (told (at? (G.held x.t) ((G.held x.t).length - 1)), G.drop1 x.t)).2
    split
    · exact Next.same h
    · exact next_setT (h.drop1 x.t)
  | 9 =>
    show G.Next (if G.object x true ≠ 0 then (err (G.object x true), G) else G.push x.t (at? (G.node (at? (G.held x.t) x.i).2) x.f)).2
    split
    · exact Next.same h
    · exact h.push x.t (at_ok (h.nd _).2 _)
  | 10 =>
    show G.Next (if G.object x true ≠ 0 then (err (G.object x true), G) else if ((G.held x.t).length : Int) ≤ x.j then (err 4, G) else (Ans.zero, G.setF (at? (G.held x.t) x.i).2 x.f (at? (G.held x.t) x.j))).2
    split
    · exact Next.same h
    · split
      · exact Next.same h
      · exact ⟨h.setF _ _ (at_ok (h.th x.t).2 _), by simp [Gr.setF], rfl⟩
  | 11 =>
    show G.Next (if ((G.held x.t).length : Int) ≤ x.i ∨ ((G.held x.t).length : Int) ≤ x.j then (err 4, G) else (⟨0, 1, if at? (G.held x.t) x.i = at? (G.held x.t) x.j then 1 else 0, 0, 0⟩, G)).2
    split <;> exact Next.same h
  | 12 =>
    show G.Next (if G.object x false ≠ 0 then (err (G.object x false), G) else (⟨0, 1, ((G.node (at? (G.held x.t) x.i).2).length : Int), 0, 0⟩, G)).2
    split <;> exact Next.same h
  | 13 =>
    show G.Next (if badN x 1 64 then (err 4, G) else (Ans.zero, G)).2
    split <;> exact Next.same h
  | 14 => exact Next.same h
  | 15 =>
    show G.Next (if badCost q x || badN x 1 64 then (err 4, G) else if no ≠ 0 then (err no, G) else (Ans.zero, G)).2
    split
    · exact Next.same h
    · split <;> exact Next.same h
  | 16 =>
    show G.Next (if badN x 1 64 then (err 4, G) else (Ans.zero, G)).2
    split <;> exact Next.same h
  | 0 =>
    show G.Next (if no ≠ 0 then (err no, G) else (Ans.zero, G)).2
    split <;> exact Next.same h
  | k + 17 =>
    show G.Next (if no ≠ 0 then (err no, G) else (Ans.zero, G)).2
    split <;> exact Next.same h
/-- A step leaves a good graph. -/
theorem Good.out {G : Gr} (h : G.Good) (hm : G.nod.length < 1000000) (q : Int) (x : Stp) (no : Int) : G.Next (G.out q x no).2 := by
  unfold Gr.out
  split
  · exact Next.same h
  · split
    · exact Next.same h
    · exact h.kind hm q no x _
end Gr
end Go.Proofs.Ytaefcmmjeloccaa
