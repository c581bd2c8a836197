/- A view that came in, opened. -/
import Derived.Test.YtbbdjfbhidpeiaaDoorOpenOut
import Derived.Test.YtbbdjfbhidpeiaaDoorOut7
import Derived.Deep.SlicePairs
namespace Go.Proofs.YtbbdjfbhidpeiaaDoor
open Go.ChangeShapes Go.WideShapes Go.ChangeAt Go.RowKit Go.Deep

theorem weights_all {H : Type} {P : Program} {e : TypeId} : ∀ {l : List (DataW H)} {d : DataW H}, d ∈ l → ∀ n ∈ d.weights P e, n ∈ DataW.weightsAll P e l
  | x :: r, d, hd, n, hn => by
    simp only [DataW.weightsAll, List.mem_append]
    rcases List.mem_cons.1 hd with rfl | h
    · exact .inl hn
    · exact .inr (weights_all h n hn)

section
variable {H : Type} {enc : TypeId × Value → H} {w : World} {base : Nat} {spare : Nat → Bool} {held : Bool} {r : Reach} {b0 : Nat}
theorem vals_of_trod {v : Value} {fuel : Nat} {x : DataW H × List MemPlace} (h : DataW.trod enc Tryd.prog w base spare held fuel 38 [v] = some x) (hw : ∀ m ∈ x.1.weights Tryd.prog 38, m ≤ reachBytes) :
    ∃ A n cap vs, v = .slice A n cap ∧ RdV w A n vs := by
  rcases open_slice_pairs Tryd.underlying38 Tryd.underlying26 (by kernel_rfl) rfl rfl (by kernel_rfl) (by kernel_rfl) h with ⟨hcs, _⟩ | ⟨a, len, cap, m, n, V0, V1, D0, D1, P0, P1, hcs, _, hl, hm, hmm, rfl, hx⟩
  · cases hcs
    exact ⟨none, 0, 0, [], rfl, RdV.nil _ _⟩
  · cases hcs
    have hlm : len ≤ m := by rw [hmm]; split <;> omega
    have hbytes : Tryd.prog.bytesOf 26 = 16 := by kernel_rfl
    have hlen : len * 16 ≤ 140737488351232 := by
      have := hw ((len + (m - len)) * 16) (by simp [DataW.weights, Tryd.underlying38, hbytes])
      simp only [reachBytes] at this
      omega
    have hint : ∀ i, i < len → ∃ p : Int × Int, V0 i = .int .i64 p.1 ∧ V1 i = .int .i64 p.2 ∧ Rng p.2 := by
      intro i hi
      obtain ⟨_, _, h0, h1⟩ := hx i (by omega)
      obtain ⟨k, e0, _, _⟩ := DataW.trod_int Tryd.underlying3 h0
      obtain ⟨y, e1, _, w1⟩ := DataW.trod_int Tryd.underlying2 h1
      exact ⟨(k, y), by simpa using e0, by simpa using e1, rng_of_wf w1⟩
    obtain ⟨f, hf⟩ := choose_lt hint
    refine ⟨some a, len, cap, (List.range len).map f, rfl, by simp, by omega, ?_, fun h0 => ?_⟩
    · intro v hv
      obtain ⟨i, hi, rfl⟩ := List.mem_map.1 hv
      exact (hf i (List.mem_range.1 hi)).2.2
    · obtain ⟨b, off, spot⟩ := a
      have hspot : spot = none := by simpa [Addr.add] using World.cell?_spot (hx 0 (by omega)).1
      subst hspot
      have hcell : ∀ j, j < len → w.cell? ⟨b, off + j * 2, none⟩ = some (.int .i64 (((List.range len).map f).getD j (0, 0)).1) ∧ w.cell? ⟨b, off + j * 2 + 1, none⟩ = some (.int .i64 (((List.range len).map f).getD j (0, 0)).2) := by
        intro j hj
        obtain ⟨g0, g1, _, _⟩ := hx j (by omega)
        rw [add_plain] at g0 g1
        have hd : ((List.range len).map f).getD j (0, 0) = f j := by simp [List.getD_eq_getElem?_getD, hj]
        rw [hd, ← (hf j hj).1, ← (hf j hj).2.1]
        exact ⟨g0, by rw [Nat.add_assoc]; exact g1⟩
      exact ⟨b, off, rfl, cell_lt (hcell 0 h0).1, hcell⟩

theorem open_view {v : Value} {d : DataW H} {p : List MemPlace} (hv : Value.okWide Tryd.prog w r b0 35 v) (h : DataW.Trod enc Tryd.prog w base spare held 35 v d p) :
    ∃ A n cap A2 n2 cap2, v = .agg #[.slice A n cap, .slice A2 n2 cap2] ∧ ((∀ m ∈ d.weights Tryd.prog 35, m ≤ reachBytes) → ∃ rs ns, RdR w A n rs ∧ RdN w A2 n2 ns) := by
  obtain ⟨cs, rfl, hsz⟩ := okWide_struct Tryd.underlying35 hv
  obtain ⟨fuel, hf⟩ := h
  obtain ⟨ys, n0, _, hxy, hcl, hlen, hg⟩ := DataW.trod_struct Tryd.underlying35 hf
  have hcl2 : cs.size = 2 := hsz.trans (by kernel_rfl)
  obtain ⟨l⟩ := cs
  match l, hcl2, ys, hlen with
  | [c0, c1], _, [y0, y1], _ =>
    have g0 := hg 0 _ rfl
    have g1 := hg 1 _ rfl
    have o1 : Tryd.prog.cellsOf 32 = 1 := by kernel_rfl
    have o2 : Tryd.prog.cellsOf 33 = 1 := by kernel_rfl
    have t0 : DataW.trod enc Tryd.prog w base spare held n0 32 [c0] = some y0 := by simpa [o1, Value.cells] using g0
    have t1 : DataW.trod enc Tryd.prog w base spare held n0 33 [c1] = some y1 := by simpa [o2, Value.cells] using g1
    simp only [Prod.mk.injEq] at hxy
    obtain ⟨rfl, _⟩ := hxy
    have hwR : (∀ m ∈ (DataW.agg ([y0, y1].map (·.1)) : DataW H).weights Tryd.prog 35, m ≤ reachBytes) → (∀ m ∈ y0.1.weights Tryd.prog 32, m ≤ reachBytes) ∧ (∀ m ∈ y1.1.weights Tryd.prog 33, m ≤ reachBytes) := by
      intro hw
      refine ⟨fun m hm => hw m ?_, fun m hm => hw m ?_⟩
      · simp only [DataW.weights, Tryd.underlying35]
        exact DataW.weights_mem_each (j := 0) rfl rfl m hm
      · simp only [DataW.weights, Tryd.underlying35]
        exact DataW.weights_mem_each (j := 1) rfl rfl m hm
    have hroots : ∃ A n cap, c0 = .slice A n cap ∧ ((∀ m ∈ y0.1.weights Tryd.prog 32, m ≤ reachBytes) → ∃ rs, RdR w A n rs) := by
      rcases open_slice1 Tryd.underlying32 (by kernel_rfl) t0 with ⟨hcs, _⟩ | ⟨a, len, cap, m, n, V, D, Pl, hcs, _, hl, hm, hmm, rfl, hx⟩
      · cases hcs
        exact ⟨none, 0, 0, rfl, fun _ => ⟨[], rfl, by omega, fun h => absurd h (by omega)⟩⟩
      · cases hcs
        refine ⟨some a, len, cap, rfl, fun hw => ?_⟩
        have hlm : len ≤ m := by rw [hmm]; split <;> omega
        have hbytes : Tryd.prog.bytesOf 38 = 24 := by kernel_rfl
        have hlen : len * 24 ≤ 140737488351232 := by
          have := hw ((len + (m - len)) * 24) (by simp [DataW.weights, Tryd.underlying32, hbytes])
          simp only [reachBytes] at this
          omega
        have each : ∀ i, i < len → ∃ q : Option Addr × Nat × Nat × List (Int × Int), V i = .slice q.1 q.2.1 q.2.2.1 ∧ RdV w q.1 q.2.1 q.2.2.2 := by
          intro i hi
          obtain ⟨A', n', cap', vs, e, hr⟩ := vals_of_trod (hx i (by omega)).2 fun k hk => hw k (by
            simp only [DataW.weights, Tryd.underlying32, List.mem_cons, List.mem_append]
            exact .inr (.inl (weights_all (List.mem_map.2 ⟨i, List.mem_range.2 hi, rfl⟩) k hk)))
          exact ⟨(A', n', cap', vs), e, hr⟩
        obtain ⟨f, hff⟩ := choose_lt each
        refine ⟨(List.range len).map fun i => (f i).2.2.2, by simp, by omega, fun h0 => ?_⟩
        obtain ⟨b, off, spot⟩ := a
        have hspot : spot = none := by simpa [Addr.add] using World.cell?_spot (hx 0 (by omega)).1
        subst hspot
        have c00 := (hx 0 (by omega)).1
        rw [add_plain] at c00
        refine ⟨b, off, rfl, cell_lt c00, fun j hj => ⟨(f j).1, (f j).2.1, (f j).2.2.1, ?_, ?_⟩⟩
        · have := (hx j (by omega)).1
          rw [add_plain] at this
          rw [this, (hff j hj).1]
        · have hd : ((List.range len).map fun i => (f i).2.2.2).getD j [] = (f j).2.2.2 := by simp [List.getD_eq_getElem?_getD, hj]
          rw [hd]; exact (hff j hj).2
    have hnodes : ∃ A n cap, c1 = .slice A n cap ∧ ((∀ m ∈ y1.1.weights Tryd.prog 33, m ≤ reachBytes) → ∃ ns, RdN w A n ns) := by
      rcases open_slice_pairs Tryd.underlying33 Tryd.underlying40 (by kernel_rfl) rfl rfl (by kernel_rfl) (by kernel_rfl) t1 with ⟨hcs, _⟩ | ⟨a, len, cap, m, n, V0, V1, D0, D1, P0, P1, hcs, _, hl, hm, hmm, rfl, hx⟩
      · cases hcs
        exact ⟨none, 0, 0, rfl, fun _ => ⟨[], rfl, by omega, by simp, fun h => absurd h (by omega)⟩⟩
      · cases hcs
        refine ⟨some a, len, cap, rfl, fun hw => ?_⟩
        have hlm : len ≤ m := by rw [hmm]; split <;> omega
        have hbytes : Tryd.prog.bytesOf 40 = 32 := by kernel_rfl
        have hlen : len * 32 ≤ 140737488351232 := by
          have := hw ((len + (m - len)) * 32) (by simp [DataW.weights, Tryd.underlying33, hbytes])
          simp only [reachBytes] at this
          omega
        have each : ∀ i, i < len → ∃ q : Option Addr × Nat × Nat × Int × List (Int × Int), V0 i = .int .i64 q.2.2.2.1 ∧ Rng q.2.2.2.1 ∧ V1 i = .slice q.1 q.2.1 q.2.2.1 ∧ RdV w q.1 q.2.1 q.2.2.2.2 := by
          intro i hi
          obtain ⟨_, _, h0, h1⟩ := hx i (by omega)
          obtain ⟨s, e0, _, w0⟩ := DataW.trod_int Tryd.underlying2 h0
          obtain ⟨A', n', cap', vs, e, hr⟩ := vals_of_trod h1 fun k hk => hw k (by
            simp only [DataW.weights, Tryd.underlying33, List.mem_cons, List.mem_append]
            refine .inr (.inl (weights_all (List.mem_map.2 ⟨i, List.mem_range.2 hi, rfl⟩) k ?_))
            simp only [DataW.weights, Tryd.underlying40]
            exact DataW.weights_mem_each (j := 1) rfl rfl k hk)
          exact ⟨(A', n', cap', s, vs), by simpa using e0, rng_of_wf w0, e, hr⟩
        obtain ⟨f, hff⟩ := choose_lt each
        refine ⟨(List.range len).map fun i => ((f i).2.2.2.1, (f i).2.2.2.2), by simp, by omega, ?_, fun h0 => ?_⟩
        · intro x hx
          obtain ⟨i, hi, rfl⟩ := List.mem_map.1 hx
          exact (hff i (List.mem_range.1 hi)).2.1
        obtain ⟨b, off, spot⟩ := a
        have hspot : spot = none := by simpa [Addr.add] using World.cell?_spot (hx 0 (by omega)).1
        subst hspot
        have c00 := (hx 0 (by omega)).1
        rw [add_plain] at c00
        refine ⟨b, off, rfl, cell_lt c00, fun j hj => ?_⟩
        have hd : ((List.range len).map fun i => ((f i).2.2.2.1, (f i).2.2.2.2)).getD j (0, []) = ((f j).2.2.2.1, (f j).2.2.2.2) := by simp [List.getD_eq_getElem?_getD, hj]
        obtain ⟨g0, g1, _, _⟩ := hx j (by omega)
        rw [add_plain] at g0 g1
        rw [hd]
        exact ⟨by rw [g0, (hff j hj).1], (f j).1, (f j).2.1, (f j).2.2.1, by rw [Nat.add_assoc, g1, (hff j hj).2.2.1], (hff j hj).2.2.2⟩
    obtain ⟨A, n, cap, rfl, kR⟩ := hroots
    obtain ⟨A2, n2, cap2, rfl, kN⟩ := hnodes
    refine ⟨A, n, cap, A2, n2, cap2, rfl, fun hw => ?_⟩
    obtain ⟨h1, h2⟩ := hwR hw
    obtain ⟨rs, hr⟩ := kR h1
    obtain ⟨ns, hn⟩ := kN h2
    exact ⟨rs, ns, hr, hn⟩
end
end Go.Proofs.YtbbdjfbhidpeiaaDoor
