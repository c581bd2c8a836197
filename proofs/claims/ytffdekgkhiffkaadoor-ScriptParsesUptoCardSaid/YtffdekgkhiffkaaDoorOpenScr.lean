/- What comes in with a script's laws, opened; what the rows' list gives; a world that fits. -/
import Derived.Test.YtffdekgkhiffkaaDoorRows
import Derived.Test.YtffdekgkhiffkaaDoorScrD
import Derived.Deep.SlicePairs
import Derived.Test.YtffdekgkhiffkaaDoorOpen
import Derived.Deep.DeepHandedRow
import Derived.Deep.Slices
import Derived.Lib.LaidTab
import Derived.Stop.LaidErr
import Derived.LaidMore
import Derived.Lay
namespace Go.Proofs.YtffdekgkhiffkaaDoor
open Go.ChangeShapes Go.WideShapes Go.ChangeAt Go.RowKit Go.Deep

theorem own : ownKnob Tryd.prog.godebug = none := by kernel_rfl
theorem gPow : Tryd.prog.globalNamed "internal/strconv.uint64pow10" = some 1 := by kernel_rfl
theorem tPow : (Tryd.prog.globals[1]?).map (·.type) = some 110 := by kernel_rfl
theorem gRan : Tryd.prog.globalNamed "strconv.ErrRange" = some 3 := by kernel_rfl
theorem tRan : (Tryd.prog.globals[3]?).map (·.type) = some 71 := by kernel_rfl
theorem gSyn : Tryd.prog.globalNamed "strconv.ErrSyntax" = some 2 := by kernel_rfl
theorem tSyn : (Tryd.prog.globals[2]?).map (·.type) = some 71 := by kernel_rfl
abbrev laid7 : List (String × DataW Unit) := [("math/bits.deBruijn32tab", Rows.laid_math_bits_deBruijn32tab), ("math/bits.deBruijn64tab", Rows.laid_math_bits_deBruijn64tab), ("internal/strconv.uint64pow10", Rows.laid_internal_strconv_uint64pow10), ("unicode/utf8.acceptRanges", Rows.laid_unicode_utf8_acceptRanges), ("strconv.ErrRange", Rows.laid_strconv_ErrRange), ("strconv.ErrSyntax", Rows.laid_strconv_ErrSyntax), ("unicode/utf8.first", Rows.laid_unicode_utf8_first)]
instance : Inhabited Stp := ⟨Stp.zero⟩
theorem star : "*" ++ "errors.errorString" = "*errors.errorString" := by decide
theorem errRow : ∀ u, Tryd.prog.typeName? 3 u = some "*errors.errorString" → u = 127 := fun u h =>
  typeName_ptr_named (nm := "errors.errorString") (by rw [star]; kernel_rfl) (by kernel_rfl) (by decide) u (by rw [star]; exact h)
theorem env_of_laid {W : World} (h : laidMetH Tryd.prog laid7 W) (hs : W.ShapedOpen Tryd.prog) : Env W := by
  rw [MakeChecks.laidMetH_plain _ _ _ (by kernel_rfl)] at h
  have h2 := h.tail.tail
  have h5 := h2.tail.tail
  obtain ⟨a, _, ha, _⟩ := laid_sentinel h5 gRan tRan Tryd.underlying71 errRow Tryd.underlying127 Tryd.underlying129 rfl rfl Tryd.underlying9 (by kernel_rfl) (by kernel_rfl)
  obtain ⟨b, _, hb, _⟩ := laid_sentinel h5.tail gSyn tSyn Tryd.underlying71 errRow Tryd.underlying127 Tryd.underlying129 rfl rfl Tryd.underlying9 (by kernel_rfl) (by kernel_rfl)
  exact ⟨Lib.tabIs_of_head gPow tPow Tryd.underlying110 Tryd.underlying92 (by kernel_rfl) (by kernel_rfl) h2, ⟨_, _, hb⟩, ⟨_, _, ha⟩, Tryd.laysM146.s1_3 W hs⟩
/-- A world that holds what the list says. -/
theorem lay_met (os : Os) (args : Array Value) : laidMetH Tryd.prog laid7 ((World.laidAll Tryd.prog os laid7).forCall (fun _ _ => 0) ⟨#[], args, []⟩).memory := by
  rw [MakeChecks.laidMetH_plain _ _ _ (by kernel_rfl)]
  exact laidMet_laidAll _ (by kernel_rfl) (by kernel_rfl)
theorem witness_row_shaped {H : Type} {enc : TypeId × Value → H} {C : Checked} {os : Os} {f : FuncId} {fn : Func} {s : OpenSpec} {conds : List PathCond} {apart : Bool} {laid : List (String × DataW Unit)} (w0 : World) (args : Array Value) (hos : w0.os = os)
    (hsh : (w0.forCall (fun _ _ => 0) ⟨#[], args, []⟩).Shaped C.prog)
    (hok : Input.okWideB C.prog (w0.forCall (fun _ _ => 0) ⟨#[], args, []⟩) f ⟨#[], args, []⟩ = true)
    (hrow : s.preRow enc C.prog fn conds apart laid (w0.forCall (fun _ _ => 0) ⟨#[], args, []⟩).memory args) :
    ∃ (w : World) (tape : Tape) (i : Input), w.os = os ∧ (w.forCall tape i).Shaped C.prog ∧ i.vars = [] ∧ Input.okWide C.prog (w.forCall tape i) .any w.heap.size f i ∧
      s.preRow enc C.prog fn conds apart laid (w.forCall tape i).memory i.args ∧ (({} : Assume)).holds C.prog (lone (Frame.enter C.prog f i.args .normal) [] (w.forCall tape i)) :=
  ⟨w0, fun _ _ => 0, ⟨#[], args, []⟩, hos, hsh, (Input.okWide_of_okWideB (base := 0) hok).1, (Input.okWide_of_okWideB hok).2, hrow, by
    simp only [Assume.holds]
    exact ⟨by simp, by simp, fun _ => Modest.zero, by simp, by simp⟩⟩

section
variable {H : Type} {enc : TypeId × Value → H} {w : World} {base : Nat} {spare : Nat → Bool} {held : Bool} {r : Reach} {b0 : Nat} {v : Value} {d : DataW H} {p : List MemPlace}
theorem rng_of_wf {x : Int} (h : (Lit.int .i64 x).wf = true) : Rng x := by
  simp only [Lit.wf, Bool.and_eq_true, decide_eq_true_eq] at h
  exact ⟨h.1, h.2⟩
theorem stp_of_list {xs : List Int} (h : xs.length = 7) : ∃ c : Stp, (xs.map (Value.int .i64)).toArray = c.cells ∧ c.n ∈ xs := by
  match xs, h with
  | [a, b, c, d, e, f, g], _ => exact ⟨⟨a, b, c, d, e, f, g⟩, rfl, by simp⟩
set_option maxRecDepth 100000 in
theorem open_stpn (hv : Value.okWide Tryd.prog w r b0 23 v) (h : DataW.Trod enc Tryd.prog w base spare held 23 v d p) : ∃ c : Stp, v = .agg c.cells ∧ Rng c.n := by
  obtain ⟨xs, hl, rfl, hw⟩ := open_ints_struct Tryd.underlying23 (by kernel_rfl) (by kernel_rfl) (fun i f hf => by
    match i, hf with
    | 0, hf | 1, hf | 2, hf | 3, hf | 4, hf | 5, hf => cases hf; exact Tryd.underlying3
    | 6, hf => cases hf; exact Tryd.underlying2
    | i + 7, hf => simp at hf) hv h
  obtain ⟨c, hc, hn⟩ := stp_of_list (xs := xs) hl
  exact ⟨c, by rw [hc], rng_of_wf (hw _ hn)⟩
set_option maxRecDepth 100000 in
theorem stp_of_cells {fuel : Nat} {cs : List Value} {x : DataW H × List MemPlace} (h : DataW.trod enc Tryd.prog w base spare held fuel 23 cs = some x) (hl : cs.length = 7) : ∃ c : Stp, Rng c.n ∧ cs = c.cells.toList := by
  obtain ⟨ys, n, _, _, _, hlen, hg⟩ := DataW.trod_struct Tryd.underlying23 h
  have hone : oneCellFields Tryd.prog (match Tryd.prog.underlying 23 with | some (.struct fs) => fs | _ => #[]) = true := by kernel_rfl
  rw [Tryd.underlying23] at hone
  have key : ∀ (j : Nat) (f : Field), (match Tryd.prog.underlying 23 with | some (.struct fs) => fs | _ => #[])[j]? = some f → Tryd.prog.underlying f.type = some (.int .i64) → ∃ z : Int, cs[j]? = some (.int .i64 z) ∧ Rng z := by
    intro j f hf hk
    rw [Tryd.underlying23] at hf
    obtain ⟨ho, hk1⟩ := hone_of hone j f hf
    have h1 := hg j f hf
    rw [ho, hk1] at h1
    have hj7 : j < 7 := (Array.getElem?_eq_some_iff.1 hf).1
    have hys : ys[j]? = some (ys[j]'(by rw [hlen]; exact hj7)) := List.getElem?_eq_getElem (by rw [hlen]; exact hj7)
    rw [hys] at h1
    obtain ⟨z, e1, _, e3⟩ := DataW.trod_int hk h1
    refine ⟨z, ?_, rng_of_wf e3⟩
    have hjc : j < cs.length := by omega
    have e4 : (cs.drop j).take 1 = [cs[j]] := by rw [List.drop_eq_getElem_cons hjc]; rfl
    rw [e4] at e1
    have e2 : cs[j] = Value.int .i64 z := by simpa using e1
    rw [List.getElem?_eq_getElem hjc, e2]
  rw [Tryd.underlying23] at key
  obtain ⟨z0, h0, _⟩ := key 0 _ rfl Tryd.underlying3
  obtain ⟨z1, h1, _⟩ := key 1 _ rfl Tryd.underlying3
  obtain ⟨z2, h2, _⟩ := key 2 _ rfl Tryd.underlying3
  obtain ⟨z3, h3, _⟩ := key 3 _ rfl Tryd.underlying3
  obtain ⟨z4, h4, _⟩ := key 4 _ rfl Tryd.underlying3
  obtain ⟨z5, h5, _⟩ := key 5 _ rfl Tryd.underlying3
  obtain ⟨z6, h6, hr⟩ := key 6 _ rfl Tryd.underlying2
  refine ⟨⟨z0, z1, z2, z3, z4, z5, z6⟩, hr, ?_⟩
  match cs, hl with
  | [c0, c1, c2, c3, c4, c5, c6], _ =>
    simp at h0 h1 h2 h3 h4 h5 h6
    subst h0 h1 h2 h3 h4 h5 h6
    rfl
set_option maxRecDepth 100000 in
theorem open_steps (hv : Value.okWide Tryd.prog w r b0 36 v) (h : DataW.Trod enc Tryd.prog w base spare held 36 v d p) :
    ∃ A n cap, v = .slice A n cap ∧ n ≤ cap ∧ n ≤ 9223372036854775807 ∧ ((∀ m ∈ d.weights Tryd.prog 36, m ≤ reachBytes) → ∃ xs, RdX w A n xs) := by
  obtain ⟨a0, n0, cap0, rfl⟩ := okWide_slice Tryd.underlying36 hv
  obtain ⟨fuel, hf⟩ := h
  rcases open_slice Tryd.underlying36 hf with ⟨hcs, _⟩ | ⟨a, len, cap, m, n, D, Pl, hcs, _, hl, hm, hmm, hd, hx⟩
  · simp [Value.cells] at hcs
    obtain ⟨rfl, rfl, rfl⟩ := hcs
    exact ⟨none, 0, 0, rfl, Nat.le_refl _, by omega, fun _ => ⟨[], rfl, by omega, by simp, fun h => absurd h (by omega)⟩⟩
  · simp [Value.cells] at hcs
    obtain ⟨rfl, rfl, rfl⟩ := hcs
    simp only [Prod.mk.injEq] at hd
    obtain ⟨rfl, _⟩ := hd
    have hlm : n0 ≤ m := by rw [hmm]; split <;> omega
    refine ⟨some a, n0, cap0, rfl, hl, by unfold maxLen at hm; omega, fun hw => ?_⟩
    have hbytes : Tryd.prog.bytesOf 23 = 56 := by kernel_rfl
    have hc7 : Tryd.prog.cellsOf 23 = 7 := by kernel_rfl
    have hlen : n0 * 56 ≤ 140737488351232 := by
      have := hw ((n0 + (m - n0)) * 56) (by simp [DataW.weights, Tryd.underlying36, hbytes])
      simp only [reachBytes] at this
      omega
    have each : ∀ i, i < n0 → ∃ c : Stp, Rng c.n ∧ ∀ k u, c.cells[k]? = some u → w.cell? (a.add (i * 7 + k)) = some u := by
      intro i hi
      obtain ⟨cs', h1, h2⟩ := hx i (by omega)
      rw [hc7] at h1
      obtain ⟨_, hlen', hcell⟩ := World.cells?_some h1
      obtain ⟨c, hr, rfl⟩ := stp_of_cells h2 hlen'
      refine ⟨c, hr, fun k u hu => ?_⟩
      have hk : k < 7 := (Array.getElem?_eq_some_iff.1 hu).1
      have := hcell k hk
      rw [add_add] at this
      rw [this, Array.getElem?_toList]; exact hu
    obtain ⟨f, hff⟩ := choose_lt each
    refine ⟨(List.range n0).map f, by simp, by omega, ?_, fun h0 => ?_⟩
    · intro x hx
      obtain ⟨i, hi, rfl⟩ := List.mem_map.1 hx
      exact (hff i (List.mem_range.1 hi)).1
    · obtain ⟨b, off, spot⟩ := a
      have hspot : spot = none := by simpa [Addr.add] using World.cell?_spot ((hff 0 h0).2 0 _ rfl)
      subst hspot
      refine ⟨b, off, rfl, fun j hj k u hu => ?_⟩
      have hd : ((List.range n0).map f).getD j Stp.zero = f j := by simp [List.getD_eq_getElem?_getD, hj]
      rw [hd] at hu
      have := (hff j hj).2 k u hu
      rw [add_plain] at this
      rw [Nat.add_assoc]; exact this
end
end Go.Proofs.YtffdekgkhiffkaaDoor
