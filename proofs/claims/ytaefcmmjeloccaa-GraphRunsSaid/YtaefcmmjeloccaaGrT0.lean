/- A step with an error changes nothing. -/
import Derived.Test.YtaefcmmjeloccaaGrJ
namespace Go.Proofs.Ytaefcmmjeloccaa
open Go.RowKit
namespace Gr
/-- An error leaves all as it was; without one, nothing was refused. -/
def ErrR (G : Gr) (r r0 : Ans × Gr) : Prop := (r.1.e ≠ 0 → r = (err r.1.e, G)) ∧ (r.1.e = 0 → r0 = r)
theorem ErrR.err (G : Gr) (c : Int) (hc : c ≠ 0) (r0 : Ans × Gr) : ErrR G (Gr.err c, G) r0 := ⟨fun _ => rfl, fun h => absurd h hc⟩
theorem ErrR.fine (G : Gr) (r : Ans × Gr) (h : r.1.e = 0) : ErrR G r r := ⟨fun h2 => absurd h h2, fun _ => rfl⟩
theorem ErrR.same {G : Gr} {r : Ans × Gr} (h : r.1.e ≠ 0 → r = (Gr.err r.1.e, G)) : ErrR G r r := ⟨h, fun _ => rfl⟩
theorem push_err (G : Gr) (t : Int) (v : Vl) : (G.push t v).1.e ≠ 0 → G.push t v = (Gr.err (G.push t v).1.e, G) := by
  unfold Gr.push
  split
  · intro _; rfl
  · intro h; exact absurd rfl h
theorem kind_err (q : Int) (G : Gr) (x : Stp) (no : Int) : ∀ k, ErrR G (G.kind q x no k) (G.kind q x 0 k) := by
  intro k
  match k with
  | 1 => exact ErrR.fine _ _ rfl
  | 2 => exact ErrR.fine _ _ rfl
  | 3 =>
    show ErrR G (if badCost q x || badN x 0 127 then (Gr.err 4, G) else if 16 ≤ (G.held x.t).length then (Gr.err 3, G) else if no ≠ 0 then (Gr.err no, G) else (told (2, (G.nod.length : Int)), (G.addN x.n).hold x.t (2, (G.nod.length : Int)))) (if badCost q x || badN x 0 127 then (Gr.err 4, G) else if 16 ≤ (G.held x.t).length then (Gr.err 3, G) else if (0 : Int) ≠ 0 then (Gr.err 0, G) else (told (2, (G.nod.length : Int)), (G.addN x.n).hold x.t (2, (G.nod.length : Int))))
    split
    · exact ErrR.err _ _ (by decide) _
    · split
      · exact ErrR.err _ _ (by decide) _
      · rw [if_neg (c := (0 : Int) ≠ 0) (by simp)]
        split
        · rename_i h; exact ErrR.err _ _ h _
        · exact ErrR.fine _ _ rfl
  | 4 =>
    refine ErrR.same ?_
    show (if badN x (-1099511627776) 1099511627775 then (Gr.err 4, G) else G.push x.t (1, x.n)).1.e ≠ 0 → (if badN x (-1099511627776) 1099511627775 then (Gr.err 4, G) else G.push x.t (1, x.n)) = (Gr.err (if badN x (-1099511627776) 1099511627775 then (Gr.err 4, G) else G.push x.t (1, x.n)).1.e, G)
    split
    · intro _; rfl
    · exact push_err _ _ _
  | 5 => exact ErrR.same (push_err _ _ _)
  | 6 => exact ErrR.same (push_err _ _ _)
  | 7 =>
    refine ErrR.same ?_
    show (if ((G.held x.t).length : Int) ≤ x.i then (Gr.err 4, G) else G.push x.t (at? (G.held x.t) x.i)).1.e ≠ 0 → (if ((G.held x.t).length : Int) ≤ x.i then (Gr.err 4, G) else G.push x.t (at? (G.held x.t) x.i)) = (Gr.err (if ((G.held x.t).length : Int) ≤ x.i then (Gr.err 4, G) else G.push x.t (at? (G.held x.t) x.i)).1.e, G)
    split
    · intro _; rfl
    · exact push_err _ _ _
  | 8 =>
    show ErrR G (if (G.held x.t).length = 0 then (Gr.err 4, G) else (told (at? (G.held x.t) ((G.held x.t).length - 1)), G.drop1 x.t)) (if (G.held x.t).length = 0 then (Gr.err 4, G) else (told (at? (G.held x.t) ((G.held x.t).length - 1)), G.drop1 x.t))
    split
    · exact ErrR.err _ _ (by decide) _
    · exact ErrR.fine _ _ rfl
  | 9 =>
    show ErrR G (if G.object x true ≠ 0 then (Gr.err (G.object x true), G) else G.push x.t (at? (G.node (at? (G.held x.t) x.i).2) x.f)) (if G.object x true ≠ 0 then (Gr.err (G.object x true), G) else G.push x.t (at? (G.node (at? (G.held x.t) x.i).2) x.f))
    split
    · rename_i h; exact ErrR.err _ _ h _
    · exact ErrR.same (push_err _ _ _)
  | 10 =>
    show ErrR G (if G.object x true ≠ 0 then (Gr.err (G.object x true), G) else if ((G.held x.t).length : Int) ≤ x.j then (Gr.err 4, G) else (Ans.zero, G.setF (at? (G.held x.t) x.i).2 x.f (at? (G.held x.t) x.j))) (if G.object x true ≠ 0 then (Gr.err (G.object x true), G) else if ((G.held x.t).length : Int) ≤ x.j then (Gr.err 4, G) else (Ans.zero, G.setF (at? (G.held x.t) x.i).2 x.f (at? (G.held x.t) x.j)))
    split
    · rename_i h; exact ErrR.err _ _ h _
    · split
      · exact ErrR.err _ _ (by decide) _
      · exact ErrR.fine _ _ rfl
  | 11 =>
    show ErrR G (if ((G.held x.t).length : Int) ≤ x.i ∨ ((G.held x.t).length : Int) ≤ x.j then (Gr.err 4, G) else (⟨0, 1, if at? (G.held x.t) x.i = at? (G.held x.t) x.j then 1 else 0, 0, 0⟩, G)) (if ((G.held x.t).length : Int) ≤ x.i ∨ ((G.held x.t).length : Int) ≤ x.j then (Gr.err 4, G) else (⟨0, 1, if at? (G.held x.t) x.i = at? (G.held x.t) x.j then 1 else 0, 0, 0⟩, G))
    split
    · exact ErrR.err _ _ (by decide) _
    · exact ErrR.fine _ _ rfl
  | 12 =>
    show ErrR G (if G.object x false ≠ 0 then (Gr.err (G.object x false), G) else (⟨0, 1, ((G.node (at? (G.held x.t) x.i).2).length : Int), 0, 0⟩, G)) (if G.object x false ≠ 0 then (Gr.err (G.object x false), G) else (⟨0, 1, ((G.node (at? (G.held x.t) x.i).2).length : Int), 0, 0⟩, G))
    split
    · rename_i h; exact ErrR.err _ _ h _
    · exact ErrR.fine _ _ rfl
  | 13 =>
    show ErrR G (if badN x 1 64 then (Gr.err 4, G) else (Ans.zero, G)) (if badN x 1 64 then (Gr.err 4, G) else (Ans.zero, G))
    split
    · exact ErrR.err _ _ (by decide) _
    · exact ErrR.fine _ _ rfl
  | 14 => exact ErrR.fine _ _ rfl
  | 15 =>
    show ErrR G (if badCost q x || badN x 1 64 then (Gr.err 4, G) else if no ≠ 0 then (Gr.err no, G) else (Ans.zero, G)) (if badCost q x || badN x 1 64 then (Gr.err 4, G) else if (0 : Int) ≠ 0 then (Gr.err 0, G) else (Ans.zero, G))
    split
    · exact ErrR.err _ _ (by decide) _
    · rw [if_neg (c := (0 : Int) ≠ 0) (by simp)]
      split
      · rename_i h; exact ErrR.err _ _ h _
      · exact ErrR.fine _ _ rfl
  | 16 =>
    show ErrR G (if badN x 1 64 then (Gr.err 4, G) else (Ans.zero, G)) (if badN x 1 64 then (Gr.err 4, G) else (Ans.zero, G))
    split
    · exact ErrR.err _ _ (by decide) _
    · exact ErrR.fine _ _ rfl
  | 0 =>
    show ErrR G (if no ≠ 0 then (Gr.err no, G) else (Ans.zero, G)) (if (0 : Int) ≠ 0 then (Gr.err 0, G) else (Ans.zero, G))
    rw [if_neg (c := (0 : Int) ≠ 0) (by simp)]
    split
    · rename_i h; exact ErrR.err _ _ h _
    · exact ErrR.fine _ _ rfl
  | k + 17 =>
    show ErrR G (if no ≠ 0 then (Gr.err no, G) else (Ans.zero, G)) (if (0 : Int) ≠ 0 then (Gr.err 0, G) else (Ans.zero, G))
    rw [if_neg (c := (0 : Int) ≠ 0) (by simp)]
    split
    · rename_i h; exact ErrR.err _ _ h _
    · exact ErrR.fine _ _ rfl
theorem out_err (q : Int) (G : Gr) (x : Stp) (no : Int) : ErrR G (G.out q x no) (G.out q x 0) := by
  unfold Gr.out
  split
  · rename_i h; exact ErrR.err _ _ h _
  · split
    · rename_i h; exact ErrR.err _ _ h _
    · exact kind_err q G x no _
end Gr
end Go.Proofs.Ytaefcmmjeloccaa
