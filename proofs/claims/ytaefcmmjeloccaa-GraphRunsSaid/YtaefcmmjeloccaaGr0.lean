/- Objects without a collector, in plain lists: what each step comes to. -/
import Derived.Test.YtaefcmmjeloccaaStp0
import Derived.Test.YtaefcmmjeloccaaAns0
namespace Go.Proofs.Ytaefcmmjeloccaa
open Go.RowKit

def Rng (n : Int) : Prop := -9223372036854775808 ≤ n ∧ n ≤ 9223372036854775807
abbrev Vl := Int × Int
structure Th where
  live : Bool
  held : List Vl
structure Gr where
  thr : List Th
  nod : List (List Vl)
def Th.none : Th := ⟨false, []⟩
/-- A value that may be, where there are so many objects. -/
def VlOk (n : Nat) (v : Vl) : Prop := Rng v.2 ∧ (v.1 = 2 → 0 ≤ v.2 ∧ v.2 < (n : Int))
namespace Gr
def th (G : Gr) (t : Int) : Th := G.thr.getD t.toNat Th.none
def held (G : Gr) (t : Int) : List Vl := (G.th t).held
def node (G : Gr) (s : Int) : List Vl := G.nod.getD s.toNat []
def setT (G : Gr) (t : Int) (x : Th) : Gr := { G with thr := G.thr.set t.toNat x }
/-- One more value on top. -/
def hold (G : Gr) (t : Int) (v : Vl) : Gr := G.setT t ⟨(G.th t).live, G.held t ++ [v]⟩
def drop1 (G : Gr) (t : Int) : Gr := G.setT t ⟨(G.th t).live, (G.held t).dropLast⟩
def addN (G : Gr) (n : Int) : Gr := { G with nod := G.nod ++ [List.replicate n.toNat (0, 0)] }
def setF (G : Gr) (s f : Int) (v : Vl) : Gr := { G with nod := G.nod.set s.toNat ((G.node s).set f.toNat v) }
/-- An error of a step's thread. -/
def who (G : Gr) (x : Stp) : Int :=
  if 16 ≤ x.k then 0 else if (G.thr.length : Int) ≤ x.t then 4 else if x.k = 1 ∧ (G.th x.t).live = true then 9 else if x.k ≠ 1 ∧ (G.th x.t).live = false then 14 else 0
def at? (l : List Vl) (i : Int) : Vl := l.getD i.toNat (0, 0)
/-- An error of the object that a step names, and of its field. -/
def object (G : Gr) (x : Stp) (field : Bool) : Int :=
  if ((G.held x.t).length : Int) ≤ x.i then 4 else if (at? (G.held x.t) x.i).1 ≠ 2 then 12 else if field = true ∧ ((G.node (at? (G.held x.t) x.i).2).length : Int) ≤ x.f then 4 else 0
def err (c : Int) : Ans := ⟨c, 0, 0, 0, 0⟩
def told (v : Vl) : Ans := ⟨0, v.1, v.2, 0, 0⟩
def badCost (q : Int) (x : Stp) : Bool := decide (x.c < 1) || decide (q < x.c)
def badN (x : Stp) (lo hi : Int) : Bool := decide (x.n < lo) || decide (hi < x.n)
/-- A value is pushed, if there is room. -/
def push (G : Gr) (t : Int) (v : Vl) : Ans × Gr := if 16 ≤ (G.held t).length then (err 3, G) else (told v, G.hold t v)
/-- A step of its kind, whose fields and thread may be. -/
def kind (q : Int) (G : Gr) (x : Stp) (no : Int) : Nat → Ans × Gr
  | 1 => (Ans.zero, G.setT x.t ⟨true, []⟩)
  | 2 => (Ans.zero, G.setT x.t ⟨false, []⟩)
  | 3 => if badCost q x || badN x 0 127 then (err 4, G) else if 16 ≤ (G.held x.t).length then (err 3, G) else if no ≠ 0 then (err no, G) else (told (2, (G.nod.length : Int)), (G.addN x.n).hold x.t (2, (G.nod.length : Int)))
  | 4 => if badN x (-1099511627776) 1099511627775 then (err 4, G) else G.push x.t (1, x.n)
  | 5 => G.push x.t (0, 0)
  | 6 => G.push x.t (2, 0)
  | 7 => if ((G.held x.t).length : Int) ≤ x.i then (err 4, G) else G.push x.t (at? (G.held x.t) x.i)
  | 8 => if (G.held x.t).length = 0 then (err 4, G) else (told (at? (G.held x.t) ((G.held x.t).length - 1)), G.drop1 x.t)
  | 9 => if G.object x true ≠ 0 then (err (G.object x true), G) else G.push x.t (at? (G.node (at? (G.held x.t) x.i).2) x.f)
  | 10 => if G.object x true ≠ 0 then (err (G.object x true), G) else if ((G.held x.t).length : Int) ≤ x.j then (err 4, G) else (Ans.zero, G.setF (at? (G.held x.t) x.i).2 x.f (at? (G.held x.t) x.j))
  | 11 => if ((G.held x.t).length : Int) ≤ x.i ∨ ((G.held x.t).length : Int) ≤ x.j then (err 4, G) else (⟨0, 1, if at? (G.held x.t) x.i = at? (G.held x.t) x.j then 1 else 0, 0, 0⟩, G)
  | 12 => if G.object x false ≠ 0 then (err (G.object x false), G) else (⟨0, 1, ((G.node (at? (G.held x.t) x.i).2).length : Int), 0, 0⟩, G)
  | 13 => if badN x 1 64 then (err 4, G) else (Ans.zero, G)
  | 14 => (Ans.zero, G)
  | 15 => if badCost q x || badN x 1 64 then (err 4, G) else if no ≠ 0 then (err no, G) else (Ans.zero, G)
  | 16 => if badN x 1 64 then (err 4, G) else (Ans.zero, G)
  | _ => if no ≠ 0 then (err no, G) else (Ans.zero, G)
/-- A step; no: what a collector said of it. -/
def out (q : Int) (G : Gr) (x : Stp) (no : Int) : Ans × Gr :=
  if x.check ≠ 0 then (err x.check, G) else if G.who x ≠ 0 then (err (G.who x), G) else G.kind q x no x.k.toNat
/-- All that is held and written may be. -/
structure Good (G : Gr) : Prop where
  one : 1 ≤ G.thr.length
  few : G.thr.length ≤ 8
  roots : ∀ h ∈ G.thr, h.held.length ≤ 16
  vals : ∀ h ∈ G.thr, ∀ v ∈ h.held, VlOk G.nod.length v
  some : 1 ≤ G.nod.length
  most : G.nod.length ≤ 1000000
  fields : ∀ l ∈ G.nod, l.length ≤ 127
  writ : ∀ l ∈ G.nod, ∀ v ∈ l, VlOk G.nod.length v
end Gr
end Go.Proofs.Ytaefcmmjeloccaa
