/- script: what the library's variables hold; a number of its letters; a step that may not be. -/
import Derived.Test.YtffdekgkhiffkaaDoorScr2
import Derived.Lib.AtoiErrMem
import Derived.Lib.ParseIntBTie
namespace Go.Proofs.YtffdekgkhiffkaaDoor
open Go.RowKit

theorem var_keep {P : Program} {w w1 : World} {name : String} {cs : Array Value} (h : w.var? P name = some cs) (hb : Below w.heap.size w w1) : w1.var? P name = some cs := by
  unfold World.var? at *
  cases hg : P.globalNamed name with
  | none => simp [hg] at h
  | some g =>
    simp only [hg, Option.bind_some] at h ⊢
    have hlt : g < w.heap.size := by
      rcases Nat.lt_or_ge g w.heap.size with h' | h'
      · exact h'
      · rw [Array.getElem?_eq_none h'] at h; simp at h
    rw [hb.block g hlt]
    exact h
/-- What the library's own variables hold. -/
structure Env (w : World) : Prop where
  tab : Tab w
  syn : ∃ tp p, w.var? Tryd.prog "strconv.ErrSyntax" = some #[.iface tp p]
  ran : ∃ tp p, w.var? Tryd.prog "strconv.ErrRange" = some #[.iface tp p]
  len : ∃ m, w.cell? ⟨0, 0, none⟩ = some (.int .i64 m)
theorem Env.keep {w w1 : World} (h : Env w) (hb : Below w.heap.size w w1) : Env w1 := by
  obtain ⟨t, ⟨tp, p, hs⟩, ⟨tq, q, hr⟩, ⟨m, hm⟩⟩ := h
  exact ⟨t.keep hb, ⟨tp, p, var_keep hs hb⟩, ⟨tq, q, var_keep hr hb⟩, ⟨m, cell_keep hb hm⟩⟩

/-- The number that letters are the numeral of. -/
def numT (l : List UInt8) : Option Int := match Lib.parseIntB 64 l with
  | .ok v => if Lib.itoa v = l then some v else none
  | _ => none
theorem toList_S (l : List UInt8) : (S l).toList = l := by
  show (⟨l.toArray⟩ : ByteArray).toList = l
  rw [ByteArray.toList_eq]
set_option maxHeartbeats 2000000 in
set_option maxRecDepth 100000 in
theorem number_any (l : List UInt8) (hl : l.length ≤ 281474976710656) (w : World) (he : Env w) :
    Calls Tryd.prog 25 #[.string (S l)] w fun e w' => ∃ v, e = .returned (.tuple #[.int .i64 v, .bool (numT l).isSome]) ∧ (∀ n, numT l = some n → v = n ∧ Rng n) ∧ Below w.heap.size w w' := by
  obtain ⟨t, ⟨tp, p, hs⟩, ⟨tq, q, hr⟩, _⟩ := he
  have HT := Lib.hid t
  have HS := Lib.hid hs
  have HR := Lib.hid hr
  clear t hs hr
  cases hp : Lib.parseIntB 64 l with
  | ok v =>
    have hv : Rng v := by
      have := Lib.parseIntB_bounds hp
      simp at this
      exact ⟨by omega, by omega⟩
    have HP : Hid (numT l = if Lib.itoa v = l then some v else none) := Lib.hid (by unfold numT; rw [hp])
    have HC := Lib.hid (Tryd.strconv_ParseInt_10_at64_ok (S l) (by rw [S_size]; omega) v hp w)
    clear hp
    have HV := Lib.hid hv
    clear hv
    by_cases hvl : Lib.itoa v = l
    · have hb : ((S (Lib.itoa v)).toList == (S l).toList) = true := by rw [hvl]; simp
      have HN : Hid (numT l = some v) := Lib.hid (by rw [HP.out, if_pos hvl])
      clear hvl
      go_enter Tryd.func25, Tryd.ntmps25
      go_wp2_with (first
        | (go_at_call 36; refine HC.out.mono ?_; rintro e w1 ⟨rfl, hw⟩; have B1 : Hid (Below w.heap.size w w1) := Lib.hid (by rcases hw with rfl | ⟨t, rfl⟩; exact Below.refl _ _; exact Lib.bytesWorld_below _ _ _); clear hw)
        | (go_at_call 17; refine (fmt_any v HV.out _ (HT.out.keep B1.out)).mono ?_; rintro e w2 ⟨rfl, hb2⟩))
      go_ret2
      exact ⟨v, by rw [HN.out]; rfl, fun n hn => ⟨by rw [HN.out] at hn; exact (Option.some.inj hn), by rw [HN.out] at hn; cases hn; exact HV.out⟩, below_next B1.out hb2⟩
    · have hb : ((S (Lib.itoa v)).toList == (S l).toList) = false := by rw [toList_S, toList_S]; simpa using hvl
      have HN : Hid (numT l = none) := Lib.hid (by rw [HP.out, if_neg hvl])
      clear hvl
      go_enter Tryd.func25, Tryd.ntmps25
      go_wp2_with (first
        | (go_at_call 36; refine HC.out.mono ?_; rintro e w1 ⟨rfl, hw⟩; have B1 : Hid (Below w.heap.size w w1) := Lib.hid (by rcases hw with rfl | ⟨t, rfl⟩; exact Below.refl _ _; exact Lib.bytesWorld_below _ _ _); clear hw)
        | (go_at_call 17; refine (fmt_any v HV.out _ (HT.out.keep B1.out)).mono ?_; rintro e w2 ⟨rfl, hb2⟩))
      go_ret2
      exact ⟨v, by rw [HN.out]; rfl, (fun n hn => by rw [HN.out] at hn; cases hn), below_next B1.out hb2⟩
  | «syntax» =>
    have HN : Hid (numT l = none) := Lib.hid (by unfold numT; rw [hp])
    have HC := Lib.hid (Tryd.strconv_ParseInt_10_at64_syntax_var (S l) (by rw [S_size]; omega) hp tp p w HS.out)
    clear hp
    go_enter Tryd.func25, Tryd.ntmps25
    go_wp2_with (go_at_call 36; refine HC.out.mono ?_; rintro e w1 ⟨N, rfl, _, _, hb1⟩)
    go_ret2
    exact ⟨0, by rw [HN.out]; rfl, (fun n hn => by rw [HN.out] at hn; cases hn), hb1⟩
  | range =>
    have HN : Hid (numT l = none) := Lib.hid (by unfold numT; rw [hp])
    have HC := Lib.hid (Tryd.strconv_ParseInt_10_at64_range_var (S l) (by rw [S_size]; omega) hp tq q w HR.out)
    clear hp
    go_enter Tryd.func25, Tryd.ntmps25
    go_wp2_with (go_at_call 36; refine HC.out.mono ?_; rintro e w1 ⟨N, rfl, _, _, hb1⟩)
    go_ret2
    exact ⟨_, by rw [HN.out]; rfl, (fun n hn => by rw [HN.out] at hn; cases hn), hb1⟩

theorem line_bad (x : Stp) (h : x.check ≠ 0) (w : World) :
    Calls Tryd.prog 8 #[.agg x.cells] w fun e w' => e = .returned (.tuple #[.string (S []), .int .i64 x.check]) ∧ Below w.heap.size w w' := by
  have A0 := Lib.hid (heap_alloc_new w (.cells x.cells 23))
  have B0 := Lib.hid (below_alloc0 w (.cells x.cells 23))
  have hn : (x.check != 0) = true := by simpa using h
  clear h
  go_enter Tryd.func8, Tryd.ntmps8
  go_wp2_with (first
    | (go_at_call 15; refine (ccheck_any x _).mono ?_; rintro e w1 ⟨rfl, hb1⟩; have B1 := Lib.hid (below_next B0.out hb1); clear hb1)
    | (refine wpList_load_row rfl 23 _ rfl w.heap.size rfl 23 x.cells (0, 0) _ ?_ Tryd.underlying23 rfl (by kernel_rfl) ?_; exact Hid.out (by assumption)))
  go_ret2
  exact ⟨rfl, B1.out⟩
end Go.Proofs.YtffdekgkhiffkaaDoor
