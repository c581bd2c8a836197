/- The law's own examples of texts. -/
import Derived.Test.YtbbdjfbhidpeiaaDoorOut2
import Derived.Test.YtbbdjfbhidpeiaaDoorOut4
import Derived.Test.YtbbdjfbhidpeiaaDoorOut7
namespace Go.Proofs.YtbbdjfbhidpeiaaDoor
open Go.RowKit

def c7 : Cfg := ⟨7, 0, 0, 0, 0, 0, 0, 0, 0, 0⟩
theorem c7_text : S c7.text = (⟨#[55, 32, 48, 32, 48, 32, 48, 32, 48, 32, 48, 32, 48, 32, 48, 32, 48, 32, 48]⟩ : ByteArray) := by decide +kernel
theorem a_text : S (ansText 0 2 5 1 0) = (⟨#[111, 107, 32, 35, 53, 32, 100, 111, 110, 101, 32, 49, 32, 99, 114, 101, 100, 105, 116, 32, 48]⟩ : ByteArray) := by decide +kernel
theorem RdI.four (w : World) (a b c d : Int) (t : TypeId) : RdI (w.alloc (.cells #[.int .i64 a, .int .i64 b, .int .i64 c, .int .i64 d] t)) (some ⟨w.heap.size, 0, none⟩) 4 [a, b, c, d] :=
  ⟨rfl, by omega, fun _ => ⟨w.heap.size, 0, rfl, by show w.heap.size < (w.heap.push _).size; simp, fun j hj => by
    rw [cell_of_row _ _ _ _ _ _ (heap_alloc_new w _)]
    match j, hj with
    | 0, _ => rfl
    | 1, _ => rfl
    | 2, _ => rfl
    | 3, _ => rfl⟩⟩
theorem RdR.two (w : World) (t : TypeId) : RdR (w.alloc (.cells #[.slice none 0 0, .slice none 0 0] t)) (some ⟨w.heap.size, 0, none⟩) 2 [[], []] :=
  ⟨rfl, by omega, fun _ => ⟨w.heap.size, 0, rfl, by show w.heap.size < (w.heap.push _).size; simp, fun j hj => by
    rw [cell_of_row _ _ _ _ _ _ (heap_alloc_new w _)]
    match j, hj with
    | 0, _ => exact ⟨none, 0, 0, rfl, RdV.nil _ _⟩
    | 1, _ => exact ⟨none, 0, 0, rfl, RdV.nil _ _⟩⟩⟩
theorem RdN.nil (w : World) (A : Option Addr) : RdN w A 0 [] := ⟨rfl, by omega, by simp, fun h => absurd h (by omega)⟩
theorem rng0 {n : Int} (h : 0 ≤ n ∧ n ≤ 1000) : Rng n := ⟨by omega, by omega⟩
theorem own_two {w : World} {base e : Nat} {v : Value} {xs : List Value} (h : w.ownsRow base e 1 v (2 + 0) xs) : ∃ g cap, v = .slice (some ⟨g, 0, none⟩) 2 cap := by
  rcases h.2 with ⟨_, h0⟩ | ⟨g, cap, cur, hv, _⟩
  · omega
  · exact ⟨g, cap, hv⟩

theorem info_vals : (Tryd.prog.info? 38).map (fun i => (i.zero, i.size, i.bytes)) = some (some (.slice none 0 0), 1, 24) := by kernel_rfl
theorem make_two (w : World) : (Instr.makeSlice 32 (.int .i64 2) (.int .i64 2)).run Tryd.prog w = .ok (.slice (some ⟨w.heap.size, 0, none⟩) 2 2) (w.alloc (.cells #[.slice none 0 0, .slice none 0 0] 38)) := by
  obtain ⟨i0, hi, hz0, hz1, hz2⟩ := info_parts info_vals
  have h := run_makeSlice (P := Tryd.prog) w 32 38 i0 _ Tryd.underlying32 hi hz0 .i64 .i64 2 2 (by decide) (by decide) (by rw [hz1]; decide) (by rw [hz2]; decide) (by decide)
  rw [hz1] at h
  have e : madeCells (Value.slice none 0 0).cells (Int.toNat 2 * 1) = #[.slice none 0 0, .slice none 0 0] := by first | kernel_rfl | simp [madeCells]
  rw [e] at h
  exact h

set_option maxHeartbeats 4000000 in
set_option maxRecDepth 100000 in
theorem oalive_any (w : World) (ht : Tab w) :
    Calls Tryd.prog 6 #[] w fun e w' => e = .returned (.bool true) ∧ Below w.heap.size w w' := by
  have T0 := Lib.hid ht
  clear ht
  have k1 : S ([0, 2, 5, 6].map ltr) = (⟨#[46, 50, 76, 108]⟩ : ByteArray) := by decide
  have k2 := c7_text
  have k3 := a_text
  have k4 := make_two
  go_enter Tryd.func6, Tryd.ntmps6
  go_wp2_with (first
    | (go_at_call 14; refine (pagetext_any _ 4 4 [0, 2, 5, 6] _ (RdI.four w 0 2 5 6 _)).mono ?_; rintro e w1 ⟨rfl, hb1⟩; rw [k1]; have B1 := Lib.hid (below_next (below_alloc0 w _) hb1); clear hb1)
    | (go_at_call 15; refine (cfgtext_any c7 (fun x hx => by simp [Cfg.nums, c7] at hx; exact rng0 (by omega)) _ (T0.out.keep B1.out)).mono ?_; rintro e w2 ⟨rfl, hb2⟩; have B2 := Lib.hid (below_next B1.out hb2); clear hb2)
    | (go_at_call 9; refine (answer_any 0 2 5 1 0 (rng0 (by omega)) (rng0 (by omega)) (rng0 (by omega)) (rng0 (by omega)) _ (T0.out.keep B2.out)).mono ?_; rintro e w3 ⟨rfl, hb3⟩; have B3 := Lib.hid (below_next B2.out hb3); clear hb3)
    | (go_at_call 13; refine (view_any _ 2 2 [[], []] none 0 0 [] _ (RdR.two w3 _) (RdN.nil _ _) (T0.out.keep (below_new B3.out _))).mono ?_; rintro e w4 ⟨v, rfl, ho, hb4⟩; obtain ⟨g, cap, rfl⟩ := own_two ho; have B4 := Lib.hid (below_next (below_new B3.out _) hb4); clear hb4 ho))
  go_ret
  exact ⟨rfl, B4.out⟩
end Go.Proofs.YtbbdjfbhidpeiaaDoor
