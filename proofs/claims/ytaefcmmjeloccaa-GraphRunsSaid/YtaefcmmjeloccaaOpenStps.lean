/- A slice of steps that came in, opened. -/
import Derived.Test.YtaefcmmjeloccaaRows
import Derived.Test.YtaefcmmjeloccaaRdx
import Derived.Deep.SlicePairs
import Derived.Test.YtaefcmmjeloccaaOpen
import Derived.Deep.DeepHandedRow
import Derived.Deep.Slices
namespace Go.Proofs.Ytaefcmmjeloccaa
open Go.ChangeShapes Go.WideShapes Go.ChangeAt Go.RowKit Go.Deep

instance : Inhabited Stp := ⟨Stp.zero⟩
section
variable {H : Type} {enc : TypeId × Value → H} {w : World} {base : Nat} {spare : Nat → Bool} {held : Bool} {r : Reach} {b0 : Nat} {v : Value} {d : DataW H} {p : List MemPlace}
set_option maxRecDepth 100000 in
theorem stp_of_cells {fuel : Nat} {cs : List Value} {x : DataW H × List MemPlace} (h : DataW.trod enc Try.prog w base spare held fuel 39 cs = some x) (hl : cs.length = 7) : ∃ c : Stp, cs = c.cells.toList := by
  obtain ⟨ys, n, _, _, _, hlen, hg⟩ := DataW.trod_struct Try.underlying39 h
  have hone : oneCellFields Try.prog (match Try.prog.underlying 39 with | some (.struct fs) => fs | _ => #[]) = true := by kernel_rfl
  rw [Try.underlying39] at hone
  have key : ∀ (j : Nat) (f : Field), (match Try.prog.underlying 39 with | some (.struct fs) => fs | _ => #[])[j]? = some f → Try.prog.underlying f.type = some (.int .i64) → ∃ z : Int, cs[j]? = some (.int .i64 z) := by
    intro j f hf hk
    rw [Try.underlying39] at hf
    obtain ⟨ho, hk1⟩ := hone_of hone j f hf
    have h1 := hg j f hf
    rw [ho, hk1] at h1
    have hj7 : j < 7 := (Array.getElem?_eq_some_iff.1 hf).1
    have hys : ys[j]? = some (ys[j]'(by rw [hlen]; exact hj7)) := List.getElem?_eq_getElem (by rw [hlen]; exact hj7)
    rw [hys] at h1
    obtain ⟨z, e1, _, _⟩ := DataW.trod_int hk h1
    refine ⟨z, ?_⟩
    have hjc : j < cs.length := by omega
    have e4 : (cs.drop j).take 1 = [cs[j]] := by rw [List.drop_eq_getElem_cons hjc]; rfl
    rw [e4] at e1
    have e2 : cs[j] = Value.int .i64 z := by simpa using e1
    rw [List.getElem?_eq_getElem hjc, e2]
  rw [Try.underlying39] at key
  obtain ⟨z0, h0⟩ := key 0 _ rfl Try.underlying3
  obtain ⟨z1, h1⟩ := key 1 _ rfl Try.underlying3
  obtain ⟨z2, h2⟩ := key 2 _ rfl Try.underlying3
  obtain ⟨z3, h3⟩ := key 3 _ rfl Try.underlying3
  obtain ⟨z4, h4⟩ := key 4 _ rfl Try.underlying3
  obtain ⟨z5, h5⟩ := key 5 _ rfl Try.underlying3
  obtain ⟨z6, h6⟩ := key 6 _ rfl Try.underlying2
  refine ⟨⟨z0, z1, z2, z3, z4, z5, z6⟩, ?_⟩
  match cs, hl with
  | [c0, c1, c2, c3, c4, c5, c6], _ =>
    simp at h0 h1 h2 h3 h4 h5 h6
    subst h0 h1 h2 h3 h4 h5 h6
    rfl
set_option maxRecDepth 100000 in
theorem open_steps (hv : Value.okWide Try.prog w r b0 24 v) (h : DataW.Trod enc Try.prog w base spare held 24 v d p) :
    ∃ A n cap, v = .slice A n cap ∧ n ≤ cap ∧ n ≤ 9223372036854775807 ∧ ((∀ m ∈ d.weights Try.prog 24, m ≤ reachBytes) → ∃ xs, RdX w A n xs) := by
  obtain ⟨a0, n0, cap0, rfl⟩ := okWide_slice Try.underlying24 hv
  obtain ⟨fuel, hf⟩ := h
  rcases open_slice Try.underlying24 hf with ⟨hcs, _⟩ | ⟨a, len, cap, m, n, D, Pl, hcs, _, hl, hm, hmm, hd, hx⟩
  · simp [Value.cells] at hcs
    obtain ⟨rfl, rfl, rfl⟩ := hcs
    exact ⟨none, 0, 0, rfl, Nat.le_refl _, by omega, fun _ => ⟨[], rfl, by omega, fun h => absurd h (by omega)⟩⟩
  · simp [Value.cells] at hcs
    obtain ⟨rfl, rfl, rfl⟩ := hcs
    simp only [Prod.mk.injEq] at hd
    obtain ⟨rfl, _⟩ := hd
    have hlm : n0 ≤ m := by rw [hmm]; split <;> omega
    refine ⟨some a, n0, cap0, rfl, hl, by unfold maxLen at hm; omega, fun hw => ?_⟩
    have hbytes : Try.prog.bytesOf 39 = 56 := by kernel_rfl
    have hc7 : Try.prog.cellsOf 39 = 7 := by kernel_rfl
    have hlen : n0 * 56 ≤ 140737488351232 := by
      have := hw ((n0 + (m - n0)) * 56) (by simp [DataW.weights, Try.underlying24, hbytes])
      simp only [reachBytes] at this
      omega
    have each : ∀ i, i < n0 → ∃ c : Stp, ∀ k u, c.cells[k]? = some u → w.cell? (a.add (i * 7 + k)) = some u := by
      intro i hi
      obtain ⟨cs', h1, h2⟩ := hx i (by omega)
      rw [hc7] at h1
      obtain ⟨_, hlen', hcell⟩ := World.cells?_some h1
      obtain ⟨c, rfl⟩ := stp_of_cells h2 hlen'
      refine ⟨c, fun k u hu => ?_⟩
      have hk : k < 7 := (Array.getElem?_eq_some_iff.1 hu).1
      have := hcell k hk
      rw [add_add] at this
      rw [this, Array.getElem?_toList]; exact hu
    obtain ⟨f, hff⟩ := choose_lt each
    refine ⟨(List.range n0).map f, by simp, by omega, fun h0 => ?_⟩
    · obtain ⟨b, off, spot⟩ := a
      have hspot : spot = none := by simpa [Addr.add] using World.cell?_spot (hff 0 h0 0 _ rfl)
      subst hspot
      refine ⟨b, off, rfl, fun j hj k u hu => ?_⟩
      have hd : ((List.range n0).map f).getD j Stp.zero = f j := by simp [List.getD_eq_getElem?_getD, hj]
      rw [hd] at hu
      have := hff j hj k u hu
      rw [add_plain] at this
      rw [Nat.add_assoc]; exact this
end
end Go.Proofs.Ytaefcmmjeloccaa
