/- The law ScriptBack, as a walk. -/
import Derived.Test.YtffdekgkhiffkaaDoorScrF
namespace Go.Proofs.YtffdekgkhiffkaaDoor
open Go.RowKit

/-- What All says of steps: their text, or the first error. -/
def ARes (xs : List Stp) (t : List UInt8) (en : Int) : Prop :=
  ((∀ x ∈ xs, Ok x) ∧ t = textOf xs ∧ en = 0) ∨ (∃ m, m < xs.length ∧ (∀ x ∈ xs.take m, Ok x) ∧ (xs.getD m Stp.zero).check ≠ 0 ∧ t = [] ∧ en = (xs.getD m Stp.zero).check)
theorem ARes.bad {xs : List Stp} {t : List UInt8} {en : Int} (h : ARes xs t en) {j : Nat} (hj : j < xs.length) (hb : ∀ x ∈ xs.take j, Ok x) {x : Stp} (hx : x = xs.getD j Stp.zero) (hc : x.check ≠ 0) : t = [] ∧ en = x.check := by
  subst hx
  rcases h with ⟨h, _⟩ | ⟨m, hm, h1, h2, h3, h4⟩
  · exact absurd (h _ (getD_memX hj)).1 hc
  · by_cases e : j = m
    · subst e; exact ⟨h3, h4⟩
    · by_cases hlt : j < m
      · exfalso
        have : xs.getD j Stp.zero ∈ xs.take m := by
          rw [List.getD_eq_getElem?_getD, List.getElem?_eq_getElem hj]
          exact List.mem_iff_getElem.2 ⟨j, by rw [List.length_take]; omega, by rw [List.getElem_take]; rfl⟩
        exact hc (h1 _ this).1
      · exfalso
        have : xs.getD m Stp.zero ∈ xs.take j := by
          rw [List.getD_eq_getElem?_getD, List.getElem?_eq_getElem hm]
          exact List.mem_iff_getElem.2 ⟨m, by rw [List.length_take]; omega, by rw [List.getElem_take]; rfl⟩
        exact h2 (hb _ this).1
theorem ARes.good {xs : List Stp} {t : List UInt8} {en : Int} (h : ARes xs t en) (hb : ∀ x ∈ xs, Ok x) : t = textOf xs ∧ en = 0 := by
  rcases h with ⟨_, h⟩ | ⟨m, hm, _, h2, _⟩
  · exact h
  · exact absurd (hb _ (getD_memX hm)).1 h2
theorem all_res (A : Option Addr) (n cap : Nat) (xs : List Stp) (hn : n ≤ 256) (w : World) (he : Env w) (hr : RdX w A n xs) :
    Calls Tryd.prog 14 #[.slice A n cap] w fun e w' => ∃ t en, e = .returned (.tuple #[.string (S t), .int .i64 en]) ∧ Hid (ARes xs t en) ∧ Hid (Below w.heap.size w w') :=
  (all_any A n cap xs hn w he hr).mono fun e w' h => by
    rcases h with ⟨h1, h2, h3⟩ | ⟨m, hm, h1, h2, h3, h4⟩
    · exact ⟨_, _, h2, Lib.hid (.inl ⟨h1, rfl, rfl⟩), Lib.hid h3⟩
    · exact ⟨_, _, h3, Lib.hid (.inr ⟨m, hm, h1, h2, rfl, rfl⟩), Lib.hid h4⟩
theorem ok_more {xs : List Stp} {j : Nat} (hj : j < xs.length) (h : ∀ y ∈ xs.take j, Ok y) {x : Stp} (hx : x = xs.getD j Stp.zero) (ho : Ok x) : ∀ y ∈ xs.take (j + 1), Ok y := by
  intro y hy
  rw [List.take_succ_eq_append_getElem hj] at hy
  rcases List.mem_append.1 hy with hy | hy
  · exact h y hy
  · rw [List.mem_singleton] at hy
    have hxx : xs.getD j Stp.zero = xs[j]'hj := by rw [List.getD_eq_getElem?_getD, List.getElem?_eq_getElem hj]; rfl
    rw [hy, ← hxx, ← hx]; exact ho

set_option maxHeartbeats 8000000 in
set_option maxRecDepth 100000 in
theorem back_many (A : Option Addr) (n cap : Nat) (hn : 256 < n) (hc : n ≤ cap) (hm : n ≤ 9223372036854775807) (w : World) (he : Env w) :
    Calls Tryd.prog 6 #[.slice A n cap] w fun e w' => e = .returned (.bool true) ∧ Below w.heap.size w w' := by
  have EW := Lib.hid he
  clear he
  by_cases h3 : 300 < n
  · have d0 : decide (300 < (n : Int)) = true := decide_eq_true (by omega)
    have HC : Hid (300 ≤ cap) := Lib.hid (by omega)
    have c1 : (300 : Int) ≤ (cap : Int) := by omega
    have c2 : 300 ≤ cap := by omega
    have c3 : ¬ cap = 0 := by omega
    clear hn hc h3
    go_enter Tryd.func6, Tryd.ntmps6
    go_wp2_with (first
      | (go_at_call 7; refine (salive _ EW.out).mono ?_; rintro e w1 ⟨rfl, hb1⟩; have B1 := Lib.hid hb1; clear hb1)
      | (go_at_call 14; refine (all_many _ 300 cap (by omega) _).mono ?_; rintro e w2 ⟨rfl, rfl⟩))
    go_ret
    exact ⟨ret_bool (a := (S []).toList.isEmpty) (by rw [str_empty]; rfl), B1.out⟩
  · have d0 : decide (300 < (n : Int)) = false := decide_eq_false (by omega)
    have d1 : decide (256 < (n : Int)) = true := decide_eq_true (by omega)
    have HN := Lib.hid hn
    clear hn h3
    go_enter Tryd.func6, Tryd.ntmps6
    go_wp2_with (first
      | (go_at_call 7; refine (salive _ EW.out).mono ?_; rintro e w1 ⟨rfl, hb1⟩; have B1 := Lib.hid hb1; clear hb1)
      | (go_at_call 14; refine (all_many _ n cap HN.out _).mono ?_; rintro e w2 ⟨rfl, rfl⟩))
    go_ret
    exact ⟨ret_bool (a := (S []).toList.isEmpty) (by rw [str_empty]; rfl), B1.out⟩

set_option maxHeartbeats 8000000 in
set_option maxRecDepth 100000 in
theorem back_few (A : Option Addr) (n cap : Nat) (xs : List Stp) (hn : n ≤ 256) (w : World) (he : Env w) (hr : RdX w A n xs) :
    Calls Tryd.prog 6 #[.slice A n cap] w fun e w' => e = .returned (.bool true) ∧ Below w.heap.size w w' := by
  have EW := Lib.hid he
  have HR := Lib.hid hr
  have HLEN := Lib.hid hr.len
  have HN := Lib.hid hn
  clear he hr
  have d0 : decide (300 < (n : Int)) = false := decide_eq_false (by omega)
  have d1 : decide (256 < (n : Int)) = false := decide_eq_false (by omega)
  go_enter Tryd.func6, Tryd.ntmps6
  go_wp2_with (first
    | (go_at_call 7; refine (salive _ EW.out).mono ?_; rintro e w1 ⟨rfl, hb1⟩; have B1 := Lib.hid hb1; clear hb1)
    | (go_at_call 14; refine (all_res A n cap xs HN.out _ (EW.out.keep B1.out) (HR.out.below B1.out)).mono ?_; rintro e w2 ⟨t, en, rfl, HRS, HB⟩; have B2 := Lib.hid (below_next B1.out HB.out); clear HB))
  go_loopw [5, 6] (fun v i wr => ∃ j : Nat, j ≤ n ∧ i = .int .i64 j ∧ v = .string (S (textOf (xs.take j))) ∧ Hid (∀ x ∈ xs.take j, Ok x) ∧ Hid (Below w.heap.size w wr)) (fun _ i _ => n - (intOf i).toNat)
  case atStart => exact ⟨0, Nat.zero_le _, rfl, rfl, Lib.hid (by simp), B2⟩
  case round =>
    obtain ⟨j, hj, rfl, rfl, HOK, B3⟩ := hrel
    by_cases hlt : j < n
    · have d2 : decide ((j : Int) < (n : Int)) = true := decide_eq_true (by omega)
      have hjl : j < xs.length := by rw [HLEN.out]; exact hlt
      have HT := Lib.hid (take_text hjl)
      have HRN : Hid (Rng (xs.getD j Stp.zero).n) := Lib.hid (HR.out.rng _ (getD_memX hjl))
      have HLT := Lib.hid hlt
      have HJL := Lib.hid hjl
      have HTL : Hid ((textOf (xs.take j)).length ≤ 111 * 256) := Lib.hid (by
        have := textOf_le _ HOK.out
        rw [List.length_take] at this
        have := HN.out
        omega)
      have HRX := Lib.hid (HR.out.below B3.out)
      obtain ⟨b, o, rfl, hcell⟩ := HRX.out.cell (by omega)
      have HCE := Lib.hid (hcell j hlt)
      obtain ⟨g0, g1, g2, g3, g4, g5, g6⟩ := stp_cells_at (hcell j hlt)
      clear hcell
      obtain ⟨x, hx⟩ : ∃ x, x = xs.getD j Stp.zero := ⟨_, rfl⟩
      rw [← hx] at g0 g1 g2 g3 g4 g5 g6 HT HRN HCE
      have HX := Lib.hid hx
      have j0 : (0 : Int) ≤ (j : Int) := by omega
      have j1 : (j : Int) < (n : Int) := by omega
      clear hx hjl hlt
      by_cases hc : x.check = 0
      · have HO : Hid (Ok x) := Lib.hid ⟨hc, HRN.out⟩
        have HOK2 := Lib.hid (ok_more HJL.out HOK.out HX.out HO.out)
        have hll := line_len x (Stp.check_rngs hc HRN.out)
        have HLL : Hid (x.line.length ≤ 1073741824) := Lib.hid (by omega)
        have HLIN : Hid (Lin x.line x) := Lib.hid ⟨hc, HRN.out, rfl⟩
        obtain ⟨cur, hcur⟩ : ∃ cur, cur = textOf (xs.take j) := ⟨_, rfl⟩
        obtain ⟨c1, hc1⟩ : ∃ c1, c1 = cur ++ x.line := ⟨_, rfl⟩
        rw [← hcur] at HT HTL
        have q1 : S cur ++ S x.line = S c1 := by rw [hc1]; exact S_app _ _
        have q2 : S c1 ++ (⟨#[10]⟩ : ByteArray) = S (c1 ++ [10]) := S_app _ _
        have q3 : ¬ 9223372036854775807 < (S cur).size + (S x.line).size := by rw [S_size, S_size]; have := HTL.out; omega
        have q4 : ¬ 9223372036854775807 < (S c1).size + 1 := by rw [S_size, hc1, List.length_append]; have := HTL.out; omega
        have HE : Hid (textOf (xs.take (j + 1)) = c1 ++ [10]) := Lib.hid (by rw [HT.out, hc1]; simp)
        have hne := stp_neqX x
        rw [← hcur]
        clear hc hll hcur hc1
        go_wp2_with (first
          | (go_at_call 9; refine (rline_ok2 x HO.out _).mono ?_; rintro e w5 ⟨rfl, hb5⟩; have B5 := Lib.hid (below_next B3.out hb5); have W5 := Lib.hid hb5; clear hb5)
          | (go_at_call 10; refine (parse_yes x.line HLL.out HLIN.out _ (EW.out.keep B5.out)).mono ?_; rintro e w6 ⟨rfl, hb6⟩; have B6 := Lib.hid (below_new (below_next B5.out hb6) (.cells x.cells 23)); obtain ⟨h0, h1, h2, h3, h4, h5, h6⟩ := stp_cells_at fun k v hv => cell_keep (below_new (below_next W5.out hb6) (.cells x.cells 23)) (HCE.out k v hv); obtain ⟨z0, z1, z2, z3, z4, z5, z6⟩ := stp_cell (x := x) (heap_alloc_new w6 (.cells x.cells 23)); unfold Stp.cells at h0 h1 h2 h3 h4 h5 h6 z0 z1 z2 z3 z4 z5 z6; clear hb6))
        go_quiet (fail)
        go_wp2_with fail
        go_roundw
        case rel => exact ⟨j + 1, HLT.out, by go_num, by rw [HE.out], HOK2, Lib.hid (below_drewN B6.out _)⟩
        case measure => simp [intOf]; have := HLT.out; omega
      · have k1 : (x.check != 0) = true := by simpa using hc
        have HC := Lib.hid hc
        obtain ⟨rfl, rfl⟩ := HRS.out.bad HJL.out HOK.out HX.out hc
        clear hc
        go_wp2_with (go_at_call 9; refine (rline_bad2 x HC.out _).mono ?_; rintro e w5 ⟨rfl, hb5⟩; have B5 := Lib.hid (below_next B3.out hb5); clear hb5)
        go_ret
        exact ⟨ret_bool (a := (S []).toList.isEmpty) (by rw [str_empty]; rfl), B5.out⟩
    · obtain rfl : j = n := by omega
      have d2 : decide ((j : Int) < (j : Int)) = false := decide_eq_false (by omega)
      have HTK : Hid (xs.take j = xs) := Lib.hid (by rw [← HLEN.out, List.take_length])
      have HOK2 : Hid (∀ x ∈ xs, Ok x) := Lib.hid (by have := HOK.out; rw [HTK.out] at this; exact this)
      obtain ⟨rfl, rfl⟩ := HRS.out.good HOK2.out
      rw [HTK.out]
      have HLN : Hid (Lines (textOf xs) xs) := Lib.hid ⟨HOK2.out, rfl⟩
      have HXL : Hid (xs.length ≤ 256) := Lib.hid (by rw [HLEN.out]; exact HN.out)
      obtain ⟨t, ht⟩ : ∃ t, t = textOf xs := ⟨_, rfl⟩
      rw [← ht] at HLN ⊢
      clear hj hlt ht
      by_cases hl : 16384 < t.length
      · have d3 : decide (16384 < ((S t).size : Int)) = true := by rw [S_size]; exact decide_eq_true (by omega)
        have HL := Lib.hid hl
        clear hl
        go_wp2_with (go_at_call 12; refine (read_long t HL.out _).mono ?_; rintro e w5 ⟨rfl, rfl⟩)
        go_ret
        exact ⟨rfl, B3.out⟩
      · have d3 : decide (16384 < ((S t).size : Int)) = false := by rw [S_size]; exact decide_eq_false (by omega)
        have HL : Hid (t.length ≤ 16384) := Lib.hid (by omega)
        have HRG : Hid (∀ y ∈ xs, Rng y.n) := Lib.hid (fun y hy => (HOK2.out y hy).2)
        have hxl := HLEN.out
        clear hl
        go_wp2_with (first
          | (go_at_call 12; refine (read_yes t HL.out HLN.out HXL.out _ (EW.out.keep B3.out)).mono ?_; rintro e w5 ⟨v, rfl, ho5, hb5⟩; rw [HLEN.out] at ho5; obtain ⟨A1, c1, rfl, hr1⟩ := RdX.of_own ho5 (by have := HN.out; omega) HRG.out; have B5 := Lib.hid (below_next B3.out hb5); have R5 := Lib.hid hr1; have Q5 := Lib.hid (HR.out.below B5.out); clear hb5 ho5 hr1)
          | (go_at_call 13; refine (steps_same _ _ _ _ _ xs _ R5.out Q5.out).mono ?_; rintro e w6 ⟨rfl, hb6⟩; have B6 := Lib.hid (below_next B5.out hb6); clear hb6))
        go_ret
        exact ⟨rfl, B6.out⟩
end Go.Proofs.YtffdekgkhiffkaaDoor
