/- scutageplain.Steps, where they are alike; the example. -/
import Derived.Test.YtffdekgkhiffkaaDoorScrC
import Derived.Test.YtffdekgkhiffkaaDoorScr8
namespace Go.Proofs.YtffdekgkhiffkaaDoor
open Go.RowKit

theorem stp_eqlX (c : Stp) (w : World) : (binOp .eql 23 (.agg #[.int .i64 c.k, .int .i64 c.t, .int .i64 c.i, .int .i64 c.f, .int .i64 c.j, .int .i64 c.c, .int .i64 c.n]) (.agg #[.int .i64 c.k, .int .i64 c.t, .int .i64 c.i, .int .i64 c.f, .int .i64 c.j, .int .i64 c.c, .int .i64 c.n])).run Tryd.prog w = .ok (.bool true) w := by
  obtain ⟨k, t, i, f, j, c, n⟩ := c
  go_simp
theorem stp_neqX (c : Stp) (w : World) : (binOp .neq 23 (.agg #[.int .i64 c.k, .int .i64 c.t, .int .i64 c.i, .int .i64 c.f, .int .i64 c.j, .int .i64 c.c, .int .i64 c.n]) (.agg #[.int .i64 c.k, .int .i64 c.t, .int .i64 c.i, .int .i64 c.f, .int .i64 c.j, .int .i64 c.c, .int .i64 c.n])).run Tryd.prog w = .ok (.bool false) w := by
  obtain ⟨k, t, i, f, j, c, n⟩ := c
  go_simp

set_option maxHeartbeats 4000000 in
set_option maxRecDepth 100000 in
theorem steps_same (A B : Option Addr) (n cap cap2 : Nat) (xs : List Stp) (w : World) (ha : RdX w A n xs) (hb : RdX w B n xs) :
    Calls Tryd.prog 13 #[.slice A n cap, .slice B n cap2] w fun e w' => e = .returned (.bool true) ∧ Below w.heap.size w w' := by
  have HA := Lib.hid ha
  have HB := Lib.hid hb
  have hm := ha.max
  clear ha hb
  go_enter Tryd.func13, Tryd.ntmps13
  go_wp2_with fail
  go_loopw [5] (fun i wr => ∃ j : Nat, j ≤ n ∧ i = .int .i64 j ∧ Hid (Below w.heap.size w wr)) (fun i _ => n - (intOf i).toNat)
  case atStart => exact ⟨0, Nat.zero_le _, rfl, Lib.hid (Below.refl _ _)⟩
  case round =>
    obtain ⟨j, hj, rfl, HW⟩ := hrel
    by_cases hlt : j < n
    · have d1 : decide ((j : Int) < (n : Int)) = true := decide_eq_true (by omega)
      obtain ⟨b, o, rfl, hcell⟩ := (HA.out.below HW.out).cell (by omega)
      obtain ⟨g0, g1, g2, g3, g4, g5, g6⟩ := stp_cells_at (hcell j hlt)
      clear hcell
      obtain ⟨b2, o2, rfl, hcell⟩ := (HB.out.below HW.out).cell (by omega)
      obtain ⟨k0, k1, k2, k3, k4, k5, k6⟩ := stp_cells_at (hcell j hlt)
      clear hcell
      have HLT := Lib.hid hlt
      generalize xs.getD j Stp.zero = x at *
      have hne := stp_neqX x
      have j0 : (0 : Int) ≤ (j : Int) := by omega
      have j1 : (j : Int) < (n : Int) := by omega
      go_wp2_with fail
      go_quiet (fail)
      go_wp2_with fail
      go_roundw
      case rel => exact ⟨j + 1, HLT.out, by go_num, Lib.hid (below_drewN HW.out _)⟩
      case measure => simp [intOf]; have := HLT.out; omega
    · obtain rfl : j = n := by omega
      have d1 : decide ((j : Int) < (j : Int)) = false := decide_eq_false (by omega)
      clear hj hlt
      go_wp2_with fail
      go_ret
      exact ⟨rfl, HW.out⟩

def exA : Stp := ⟨3, 0, 0, 0, 0, 1, 3⟩
def exB : Stp := ⟨9, 1, 2, 3, 0, 0, 0⟩
def exC : Stp := ⟨17, 0, 0, 0, 0, 0, 0⟩
theorem exA_line : exA.line = [97, 108, 108, 111, 99, 32, 48, 32, 51, 32, 49] := by decide +kernel
theorem exB_lin : Lin [114, 101, 97, 100, 32, 49, 32, 50, 32, 51] exB := ⟨by decide +kernel, ⟨by decide, by decide⟩, by decide +kernel⟩
theorem exC_lines : Lines [98, 101, 103, 105, 110, 10, 98, 101, 103, 105, 110, 10] [exC, exC] := by
  refine ⟨?_, by decide +kernel⟩
  intro x hx
  have : x = exC := by simpa using hx
  subst this
  exact ⟨by decide +kernel, ⟨by decide, by decide⟩⟩
theorem exA_ok : Ok exA := ⟨by decide +kernel, ⟨by decide, by decide⟩⟩
theorem read_yes (l : List UInt8) (hl : l.length ≤ 16384) {xs : List Stp} (h : Lines l xs) (hn : xs.length ≤ 256) (w : World) (he : Env w) :
    Calls Tryd.prog 12 #[.string (S l)] w fun e w' => ∃ v, e = .returned (.tuple #[v, .int .i64 0]) ∧ w'.ownsRow w.heap.size 23 7 v xs.length (stpsV xs) ∧ Below w.heap.size w w' :=
  (read_any l hl w he).mono fun e w' hr => by
    rcases hr with ⟨ys, v, h1, _, he, ho, hb⟩ | ⟨ys, h1, h2, _⟩ | ⟨h1, _⟩
    · obtain rfl := lines_unique h h1
      exact ⟨v, he, ho, hb⟩
    · obtain rfl := lines_unique h h1
      omega
    · exact absurd h (h1 xs)
theorem read_many (l : List UInt8) (hl : l.length ≤ 16384) {xs : List Stp} (h : Lines l xs) (hn : 256 < xs.length) (w : World) (he : Env w) :
    Calls Tryd.prog 12 #[.string (S l)] w fun e w' => e = .returned (.tuple #[.slice none 0 0, .int .i64 3]) ∧ Below w.heap.size w w' :=
  (read_any l hl w he).mono fun e w' hr => by
    rcases hr with ⟨ys, v, h1, h2, _⟩ | ⟨ys, h1, _, he, hb⟩ | ⟨h1, _⟩
    · obtain rfl := lines_unique h h1
      omega
    · exact ⟨he, hb⟩
    · exact absurd h (h1 xs)
theorem read_none (l : List UInt8) (hl : l.length ≤ 16384) (h : ∀ xs, ¬ Lines l xs) (w : World) (he : Env w) :
    Calls Tryd.prog 12 #[.string (S l)] w fun e w' => e = .returned (.tuple #[.slice none 0 0, .int .i64 16]) ∧ Below w.heap.size w w' :=
  (read_any l hl w he).mono fun e w' hr => by
    rcases hr with ⟨ys, v, h1, _⟩ | ⟨ys, h1, _⟩ | ⟨_, he, hb⟩
    · exact absurd h1 (h ys)
    · exact absurd h1 (h ys)
    · exact ⟨he, hb⟩

set_option maxHeartbeats 4000000 in
set_option maxRecDepth 100000 in
theorem salive (w : World) (he : Env w) :
    Calls Tryd.prog 7 #[] w fun e w' => e = .returned (.bool true) ∧ Below w.heap.size w w' := by
  have EW := Lib.hid he
  clear he
  have h1 := fun wx hx => line_ok2 exA exA_ok wx hx
  rw [exA_line] at h1
  have h2 := fun wx hx => parse_yes [114, 101, 97, 100, 32, 49, 32, 50, 32, 51] (by decide) exB_lin wx hx
  have h3 := fun wx hx => read_yes [98, 101, 103, 105, 110, 10, 98, 101, 103, 105, 110, 10] (by decide) exC_lines (by decide) wx hx
  have H1 := Lib.hid h1
  have H2 := Lib.hid h2
  have H3 := Lib.hid h3
  clear h1 h2 h3
  have hq := stp_eqlX exB
  simp only [exB] at hq
  have ht : ((S [97, 108, 108, 111, 99, 32, 48, 32, 51, 32, 49]).toList == [97, 108, 108, 111, 99, 32, 48, 32, 51, 32, 49]) = true := by rw [toList_S]; rfl
  go_enter Tryd.func7, Tryd.ntmps7
  go_wp2_with (first
    | (go_at_call 8; refine (H1.out _ EW.out.tab).mono ?_; rintro e w5 ⟨rfl, hb5⟩; have B5 := Lib.hid hb5; clear hb5)
    | (go_at_call 10; refine (H2.out _ (EW.out.keep B5.out)).mono ?_; rintro e w6 ⟨rfl, hb6⟩; simp only [exB]; have B6 := Lib.hid (below_next B5.out hb6); clear hb6)
    | (go_at_call 12; refine (H3.out _ (EW.out.keep (below_new B6.out _))).mono ?_; rintro e w7 ⟨v, rfl, ho, hb7⟩; obtain ⟨p, cap, rfl, _⟩ := own_slice ho; have hrow := keep hb7 (heap_alloc_new w6 _); have B7 := Lib.hid (below_next (below_new B6.out _) hb7); clear hb7 ho; obtain ⟨c0, c1, c2, c3, c4, c5, c6⟩ := stp_cell (x := exB) hrow; simp only [exB] at c0 c1 c2 c3 c4 c5 c6; clear hrow))
  go_ret
  exact ⟨rfl, B7.out⟩
end Go.Proofs.YtffdekgkhiffkaaDoor
