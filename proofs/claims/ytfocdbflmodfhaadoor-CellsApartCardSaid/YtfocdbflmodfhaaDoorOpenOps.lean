/- A slice of operations on the cells that came in, opened. -/
import Derived.Test.YtfocdbflmodfhaaDoorRows
import Derived.Test.YtfocdbflmodfhaaDoorKit2
import Derived.Deep.SlicePairs
import Derived.Test.YtfocdbflmodfhaaDoorOpen
import Derived.Deep.DeepHandedRow
import Derived.Deep.Slices
import Derived.OpenShut
namespace Go.Proofs.YtfocdbflmodfhaaDoor
open Go.ChangeShapes Go.WideShapes Go.ChangeAt Go.RowKit Go.Deep

structure Opr where
  k : Int
  n : Int
  x : Int
def Opr.cells (x : Opr) : Array Value := #[.int .i64 x.k, .int .i64 x.n, .int .i64 x.x]
abbrev Opr.zero : Opr := ⟨0, 0, 0⟩
instance : Inhabited Opr := ⟨Opr.zero⟩
structure OpX (w : World) (A : Option Addr) (n : Nat) (xs : List Opr) : Prop where
  len : xs.length = n
  max : n * 24 ≤ 140737488355328
  cell : 0 < n → ∃ b o, A = some ⟨b, o, none⟩ ∧ ∀ j, j < n → (xs.getD j Opr.zero).n ≤ 9223372036854775807 ∧ ∀ k v, (xs.getD j Opr.zero).cells[k]? = some v → w.cell? ⟨b, o + j * 3 + k, none⟩ = some v
theorem OpX.below {w w' : World} {A : Option Addr} {n : Nat} {xs : List Opr} (h : OpX w A n xs) (hb : Below w.heap.size w w') : OpX w' A n xs :=
  ⟨h.len, h.max, fun h0 => by
    obtain ⟨b, o, e, hc⟩ := h.cell h0
    exact ⟨b, o, e, fun j hj => ⟨(hc j hj).1, fun k v hv => cell_keep hb ((hc j hj).2 k v hv)⟩⟩⟩
theorem OpX.take {w : World} {A : Option Addr} {n m : Nat} {xs : List Opr} (h : OpX w A n xs) (hm : m ≤ n) : OpX w A m (xs.take m) :=
  ⟨by have := h.len; simp; omega, by have := h.max; omega, fun h0 => by
    obtain ⟨b, o, e, hc⟩ := h.cell (by omega)
    refine ⟨b, o, e, fun j hj => ?_⟩
    have he : (xs.take m).getD j Opr.zero = xs.getD j Opr.zero := by simp only [List.getD_eq_getElem?_getD, List.getElem?_take, hj, if_true]
    rw [he]
    exact hc j (by omega)⟩
theorem opr_cells_at {w : World} {b o j : Nat} {x : Opr} (h : ∀ k v, x.cells[k]? = some v → w.cell? ⟨b, o + j * 3 + k, none⟩ = some v) :
    w.cell? ⟨b, o + j * 3, none⟩ = some (.int .i64 x.k) ∧ w.cell? ⟨b, o + j * 3 + 1, none⟩ = some (.int .i64 x.n) ∧ w.cell? ⟨b, o + j * 3 + 2, none⟩ = some (.int .i64 x.x) :=
  ⟨h 0 _ rfl, h 1 _ rfl, h 2 _ rfl⟩
section
variable {H : Type} {enc : TypeId × Value → H} {w : World} {base : Nat} {spare : Nat → Bool} {held : Bool} {r : Reach} {b0 : Nat} {v : Value} {d : DataW H} {p : List MemPlace}
set_option maxRecDepth 100000 in
theorem opr_of_cells {fuel : Nat} {cs : List Value} {x : DataW H × List MemPlace} (h : DataW.trod enc Tryd.prog w base spare held fuel 28 cs = some x) (hl : cs.length = 3) : ∃ c : Opr, cs = c.cells.toList ∧ c.n ≤ 9223372036854775807 := by
  obtain ⟨ys, n, _, _, _, hlen, hg⟩ := DataW.trod_struct Tryd.underlying28 h
  have hone : oneCellFields Tryd.prog (match Tryd.prog.underlying 28 with | some (.struct fs) => fs | _ => #[]) = true := by kernel_rfl
  rw [Tryd.underlying28] at hone
  have key : ∀ (j : Nat) (f : Field), (match Tryd.prog.underlying 28 with | some (.struct fs) => fs | _ => #[])[j]? = some f → Tryd.prog.underlying f.type = some (.int .i64) → ∃ z : Int, cs[j]? = some (.int .i64 z) ∧ (Lit.int .i64 z).wf = true := by
    intro j f hf hk
    rw [Tryd.underlying28] at hf
    obtain ⟨ho, hk1⟩ := hone_of hone j f hf
    have h1 := hg j f hf
    rw [ho, hk1] at h1
    have hj7 : j < 3 := (Array.getElem?_eq_some_iff.1 hf).1
    have hys : ys[j]? = some (ys[j]'(by rw [hlen]; exact hj7)) := List.getElem?_eq_getElem (by rw [hlen]; exact hj7)
    rw [hys] at h1
    obtain ⟨z, e1, _, hwf⟩ := DataW.trod_int hk h1
    refine ⟨z, ?_, hwf⟩
    have hjc : j < cs.length := by omega
    have e4 : (cs.drop j).take 1 = [cs[j]] := by rw [List.drop_eq_getElem_cons hjc]; rfl
    rw [e4] at e1
    have e2 : cs[j] = Value.int .i64 z := by simpa using e1
    rw [List.getElem?_eq_getElem hjc, e2]
  rw [Tryd.underlying28] at key
  obtain ⟨z0, h0, _⟩ := key 0 _ rfl Tryd.underlying3
  obtain ⟨z1, h1, hw1⟩ := key 1 _ rfl Tryd.underlying3
  obtain ⟨z2, h2, _⟩ := key 2 _ rfl Tryd.underlying2
  have hr : z1 ≤ 9223372036854775807 := (bounds_i64 hw1).2
  refine ⟨⟨z0, z1, z2⟩, ?_, hr⟩
  match cs, hl with
  | [c0, c1, c2], _ =>
    simp at h0 h1 h2
    subst h0 h1 h2
    rfl
set_option maxRecDepth 100000 in
theorem open_ops (hv : Value.okWide Tryd.prog w r b0 22 v) (h : DataW.Trod enc Tryd.prog w base spare held 22 v d p) :
    ∃ A n cap, v = .slice A n cap ∧ n ≤ cap ∧ n ≤ 9223372036854775807 ∧ ((∀ m ∈ d.weights Tryd.prog 22, m ≤ reachBytes) → ∃ xs, OpX w A n xs) := by
  obtain ⟨a0, n0, cap0, rfl⟩ := okWide_slice Tryd.underlying22 hv
  obtain ⟨fuel, hf⟩ := h
  rcases open_slice Tryd.underlying22 hf with ⟨hcs, _⟩ | ⟨a, len, cap, m, n, D, Pl, hcs, _, hl, hm, hmm, hd, hx⟩
  · simp [Value.cells] at hcs
    obtain ⟨rfl, rfl, rfl⟩ := hcs
    exact ⟨none, 0, 0, rfl, Nat.le_refl _, by omega, fun _ => ⟨[], rfl, by omega, fun h => absurd h (by omega)⟩⟩
  · simp [Value.cells] at hcs
    obtain ⟨rfl, rfl, rfl⟩ := hcs
    simp only [Prod.mk.injEq] at hd
    obtain ⟨rfl, _⟩ := hd
    have hlm : n0 ≤ m := by rw [hmm]; split <;> omega
    refine ⟨some a, n0, cap0, rfl, hl, by unfold maxLen at hm; omega, fun hw => ?_⟩
    have hbytes : Tryd.prog.bytesOf 28 = 24 := by kernel_rfl
    have hc7 : Tryd.prog.cellsOf 28 = 3 := by kernel_rfl
    have hlen : n0 * 24 ≤ 140737488351232 := by
      have := hw ((n0 + (m - n0)) * 24) (by simp [DataW.weights, Tryd.underlying22, hbytes])
      simp only [reachBytes] at this
      omega
    have each : ∀ i, i < n0 → ∃ c : Opr, c.n ≤ 9223372036854775807 ∧ ∀ k u, c.cells[k]? = some u → w.cell? (a.add (i * 3 + k)) = some u := by
      intro i hi
      obtain ⟨cs', h1, h2⟩ := hx i (by omega)
      rw [hc7] at h1
      obtain ⟨_, hlen', hcell⟩ := World.cells?_some h1
      obtain ⟨c, rfl, hcn⟩ := opr_of_cells h2 hlen'
      refine ⟨c, hcn, fun k u hu => ?_⟩
      have hk : k < 3 := (Array.getElem?_eq_some_iff.1 hu).1
      have := hcell k hk
      rw [add_add] at this
      rw [this, Array.getElem?_toList]; exact hu
    obtain ⟨f, hff⟩ := choose_lt each
    refine ⟨(List.range n0).map f, by simp, by omega, fun h0 => ?_⟩
    · obtain ⟨b, off, spot⟩ := a
      have hspot : spot = none := by simpa [Addr.add] using World.cell?_spot ((hff 0 h0).2 0 _ rfl)
      subst hspot
      refine ⟨b, off, rfl, fun j hj => ?_⟩
      have hd : ((List.range n0).map f).getD j Opr.zero = f j := by simp [List.getD_eq_getElem?_getD, hj]
      rw [hd]
      refine ⟨(hff j hj).1, fun k u hu => ?_⟩
      have := (hff j hj).2 k u hu
      rw [add_plain] at this
      rw [Nat.add_assoc]; exact this
end
end Go.Proofs.YtfocdbflmodfhaaDoor
