/- scutageref40.Line. -/
import Derived.Test.YtffdekgkhiffkaaDoorScr4
import Derived.Test.YtffdekgkhiffkaaDoorLin2
import Derived.Deep.Cut
import Derived.Deep.RegionHeld3
import Derived.Deep.RegionWith
namespace Go.Proofs.YtffdekgkhiffkaaDoor
open Go.RowKit

/-- The line so far. -/
def lacc (x : Stp) (kk m : Nat) : List UInt8 := wordI kk ++ ((ord6.take m).filter fun l => Stp.has (kk : Int) (Stp.idx l)).flatMap fun l => 32 :: Lib.itoa (x.letF l)
theorem lacc_zero (x : Stp) (kk : Nat) : lacc x kk 0 = wordI kk := by simp [lacc]
theorem lacc_yes (x : Stp) (kk : Nat) {m : Nat} (hm : m < 6) (h : Stp.has (kk : Int) (Stp.idx (ord6.getD m 0)) = true) : lacc x kk (m + 1) = lacc x kk m ++ [32] ++ Lib.itoa (x.letF (ord6.getD m 0)) := by
  unfold lacc
  have e : ord6.take (m + 1) = ord6.take m ++ [ord6.getD m 0] := by
    match m, hm with
    | 0, _ | 1, _ | 2, _ | 3, _ | 4, _ | 5, _ => rfl
  rw [e, List.filter_append, List.flatMap_append]
  simp [h, -List.getD_eq_getElem?_getD]
theorem lacc_no (x : Stp) (kk : Nat) {m : Nat} (hm : m < 6) (h : Stp.has (kk : Int) (Stp.idx (ord6.getD m 0)) = false) : lacc x kk (m + 1) = lacc x kk m := by
  unfold lacc
  have e : ord6.take (m + 1) = ord6.take m ++ [ord6.getD m 0] := by
    match m, hm with
    | 0, _ | 1, _ | 2, _ | 3, _ | 4, _ | 5, _ => rfl
  rw [e, List.filter_append]
  simp [h, -List.getD_eq_getElem?_getD]
theorem lacc_line (x : Stp) (kk : Nat) (h : x.k = (kk : Int)) (h1 : 1 ≤ kk) (h2 : kk ≤ 17) : lacc x kk 6 = x.line := by
  unfold lacc Stp.line Stp.lineT
  rw [show x.k.toNat = kk by omega, lets_filter kk h1 h2, Lib.join_cons, show ord6.take 6 = ord6 from rfl]
  congr 1
  unfold Lib.joinTail
  rw [List.flatMap_def, List.map_map]
  rfl
theorem lacc_len (x : Stp) (hr : ∀ l, Rng (x.letF l)) (kk : Nat) : ∀ m, m ≤ 6 → (lacc x kk m).length ≤ 7 + 22 * m := by
  intro m
  induction m with
  | zero =>
    intro _
    rw [lacc_zero]
    unfold wordI
    split <;> decide
  | succ m ih =>
    intro hm
    have := ih (by omega)
    have hl := itoa_len (hr (ord6.getD m 0))
    cases h : Stp.has (kk : Int) (Stp.idx (ord6.getD m 0)) with
    | true => rw [lacc_yes x kk (by omega) h]; simp only [List.length_append, List.length_cons, List.length_nil]; omega
    | false => rw [lacc_no x kk (by omega) h]; omega
/-- What it is to add a field to a text. -/
theorem cat_facts {a b : List UInt8} (ha : a.length ≤ 1000) (hb : b.length ≤ 21) : S a ++ ⟨#[32]⟩ = S (a ++ [32]) ∧ S (a ++ [32]) ++ S b = S (a ++ [32] ++ b) ∧ ¬ 9223372036854775807 < (S a).size + 1 ∧ ¬ 9223372036854775807 < (S (a ++ [32])).size + (S b).size := by
  refine ⟨S_app a [32], S_app _ _, ?_, ?_⟩
  · rw [S_size]; omega
  · rw [S_size, S_size, List.length_append]; simp; omega
theorem four_get (x : Stp) : ∀ j : Nat, j < 4 → (#[Value.int .i64 x.t, .int .i64 x.i, .int .i64 x.f, .int .i64 x.j] : Array Value)[j]? = some (.int .i64 (x.letF (ord6.getD j 0)))
  | 0, _ | 1, _ | 2, _ | 3, _ => rfl
  | _ + 4, h => absurd h (by omega)
theorem idx4 : ∀ j : Nat, j < 4 → Stp.idx (ord6.getD j 0) = j
  | 0, _ | 1, _ | 2, _ | 3, _ => rfl
  | _ + 4, h => absurd h (by omega)
theorem heap_alloc_at {w : World} {k : Nat} (o : Obj) (h : k = w.heap.size) : (w.alloc o).heap[k]? = some o := by rw [h]; exact heap_alloc_new w o
theorem heap_drew {w : World} {k : Nat} {o : Obj} (h : w.heap[k]? = some o) : w.drew.heap[k]? = some o := h
theorem alloc_cell {w : World} {a : Addr} {v : Value} (o : Obj) (h : w.cell? a = some v) : (w.alloc o).cell? a = some v := cell_keep (below_alloc0 w o) h
theorem drew_cell {w : World} {a : Addr} {v : Value} (h : w.cell? a = some v) : w.drew.cell? a = some v := h
theorem set_far {w : World} {p a : Addr} {v u : Value} (hp : p.block ≠ a.block) (h : w.cell? a = some v) : (w.setCell p u).cell? a = some v := by rw [World.cell?_setCell_far _ _ _ _ hp]; exact h
theorem three_at2 (w : World) (a b c : Obj) : (((w.alloc a).alloc b).alloc c).drew.heap[w.heap.size + 1 + 1]? = some c := heap_alloc_at c (by show w.heap.size + 1 + 1 = ((w.heap.push a).push b).size; rw [Array.size_push, Array.size_push])
theorem three_at1 (w : World) (a b c : Obj) : (((w.alloc a).alloc b).alloc c).drew.heap[w.heap.size + 1]? = some b := keep_alloc c (heap_alloc_at b (by show w.heap.size + 1 = (w.heap.push a).size; rw [Array.size_push]))
theorem three_at0 (w : World) (a b c : Obj) : (((w.alloc a).alloc b).alloc c).drew.heap[w.heap.size]? = some a := keep_alloc c (keep_alloc b (heap_alloc_new w a))
set_option maxHeartbeats 8000000 in
set_option maxRecDepth 100000 in
theorem rline_ok (x : Stp) (h : x.check = 0) (hr : ∀ l, Rng (x.letF l)) (w : World) :
    Calls Tryd.prog 9 #[.agg x.cells] w fun e w' => e = .returned (.tuple #[.string (S x.line), .int .i64 0]) ∧ Below w.heap.size w w' := by
  obtain ⟨hk, _, _⟩ := Stp.check_zero h
  have HR := Lib.hid hr
  have HK := Lib.hid hk
  have A0 := Lib.hid (heap_alloc_new w (.cells x.cells 23))
  have B0 := Lib.hid (below_alloc0 w (.cells x.cells 23))
  obtain ⟨kk, hkk⟩ : ∃ kk : Nat, x.k = (kk : Int) := ⟨x.k.toNat, by omega⟩
  have hk18 : kk < 18 := by omega
  clear hr
  go_enter Tryd.func9, Tryd.ntmps9
  go_wp2_with (first
    | (go_at_call 20; refine (rcheck_any x _).mono ?_; rintro e w1 ⟨rfl, hb1⟩; rw [h]; have A1 := Lib.hid (keep hb1 A0.out); have B1 := Lib.hid (below_next B0.out hb1); clear hb1)
    | (refine wpList_load_row rfl 23 _ rfl w.heap.size rfl 23 x.cells (0, 0) _ ?_ Tryd.underlying23 rfl (by kernel_rfl) ?_; exact Hid.out (by assumption)))
  clear A0 B0
  have HKK := Lib.hid hkk
  have c0 : w1.cell? ⟨w.heap.size, 0, none⟩ = some (.int .i64 (kk : Int)) := by rw [cell_of_row _ _ _ _ _ _ A1.out, ← hkk]; rfl
  have hlt : w.heap.size < w1.heap.size := heap_lt A1.out
  have HK2 : Hid (1 ≤ (kk : Int) ∧ (kk : Int) ≤ 17) := Lib.hid (by omega)
  clear hkk hk
  go_cut [5, 6] from 14 (fun q v wc => ∃ Q, q = .pointer (some ⟨Q, 0, none⟩) ∧ v = .string (S (wordI kk)) ∧ Hid (wc.heap[Q]? = some (.cells (Stp.hasV kk) 54 (0, 0))) ∧ Hid (Below w1.heap.size w1 wc))
  case first =>
    go_region_held3 (fun w' => w'.cell? ⟨w.heap.size, 0, none⟩ = some (.int .i64 (kk : Int))) (repeat (first | exact c0 | refine drew_cell ?_ | refine alloc_cell _ ?_ | (refine set_far ?_ ?_; (simp [World.alloc] <;> omega)))) (first
      | (go_at_call 21; refine (rhas_eq kk HK2.out _).mono ?_; rintro e w5 ⟨rfl, rfl⟩; unfold Stp.hasV)
      | (go_at_call 22; refine (word_eq kk hk18 _).mono ?_; rintro e w6 ⟨rfl, rfl⟩))
    all_goals
      go_wp2_with fail
      go_meet
      refine ⟨_, rfl, rfl, Lib.hid ?_, Lib.hid ?_⟩
      · first
          | ((with_reducible refine (three_at2 w1 _ _ _).trans ?_); rfl)
          | ((with_reducible refine (three_at1 w1 _ _ _).trans ?_); rfl)
          | ((with_reducible refine (three_at0 w1 _ _ _).trans ?_); rfl)
      · exact (below_new (below_new (below_new (Below.refl _ _) _) _) _).drew
  case rest =>
    obtain ⟨Q, rfl, rfl, HQ, HB⟩ := hcut
    have A2 := Lib.hid (keep HB.out A1.out)
    have B2 := Lib.hid (below_next B1.out HB.out)
    obtain ⟨g0, g1, g2, g3, g4, g5, g6⟩ := stp_cell A2.out
    clear A1 B1 HB c0 hlt
    go_wp2_with fail
    go_loopw [6, 8] (fun v i wr => ∃ j : Nat, j ≤ 4 ∧ i = .int .i64 j ∧ v = .string (S (lacc x kk j)) ∧ Hid (wr.heap[Q]? = some (.cells (Stp.hasV kk) 54 (0, 0))) ∧ Hid (wr.heap[wc.heap.size]? = some (.cells #[Value.int .i64 x.t, .int .i64 x.i, .int .i64 x.f, .int .i64 x.j] 57 (0, 0))) ∧ Hid (wr.heap[w.heap.size]? = some (.cells x.cells 23 (0, 0))) ∧ Hid (Below w.heap.size w wr)) (fun _ i _ => 4 - (intOf i).toNat)
    case atStart => exact ⟨0, by omega, rfl, by rw [lacc_zero], Lib.hid (keep_alloc _ HQ.out), Lib.hid (heap_alloc_new wc _), Lib.hid (keep_alloc _ A2.out), Lib.hid (below_new B2.out _)⟩
    case round =>
      obtain ⟨j, hj, rfl, rfl, HQ2, HF2, A3, B3⟩ := hrel
      clear A2 B2 g0 g1 g2 g3 g4 g5 g6 HQ
      by_cases hlt : j < 4
      · have d1 : decide ((j : Int) < 4) = true := decide_eq_true (by omega)
        have i1 : (0 : Int) ≤ (j : Int) := by omega
        have i2 : (j : Int) < 6 := by omega
        have i3 : (j : Int) < 4 := by omega
        have hw : wrap64 ((j : Int) + 1) = ((j + 1 : Nat) : Int) := by unfold wrap64; omega
        have q0 : wr.cell? ⟨Q, j, none⟩ = some (.bool (Stp.has kk j)) := by rw [cell_of_row _ _ _ _ _ _ HQ2.out]; exact Stp.hasV_get _ j (by omega)
        have f0 : wr.cell? ⟨wc.heap.size, j, none⟩ = some (.int .i64 (x.letF (ord6.getD j 0))) := by rw [cell_of_row _ _ _ _ _ _ HF2.out]; exact four_get x j hlt
        cases hb : Stp.has (kk : Int) j with
        | false =>
          rw [hb] at q0
          have HL := Lib.hid (lacc_no x kk (m := j) (by omega) (by rw [idx4 j hlt]; exact hb))
          have HJ := Lib.hid hlt
          clear hb hlt
          go_wp2_with fail
          refine ⟨⟨j + 1, HJ.out, ?_, by rw [HL.out], HQ2, HF2, A3, B3⟩, ?_⟩
          · rfl
          · have := HJ.out
            show 4 - ((j + 1 : Nat) : Int).toNat < 4 - (j : Int).toNat
            omega
        | true =>
          rw [hb] at q0
          have HL := Lib.hid (lacc_yes x kk (m := j) (by omega) (by rw [idx4 j hlt]; exact hb))
          have hal := lacc_len x HR.out kk j (by omega)
          have HRN := Lib.hid (HR.out (ord6.getD j 0))
          have hbl := itoa_len HRN.out
          have HJ := Lib.hid hlt
          generalize lacc x kk j = a at *
          generalize x.letF (ord6.getD j 0) = z at *
          obtain ⟨c1, c2, c3, c4⟩ := cat_facts (a := a) (b := Lib.itoa z) (by omega) hbl
          clear hb hlt hal hbl
          go_wp2_with (go_at_call 23; refine (dec_any z HRN.out _).mono ?_; rintro e w5 ⟨rfl, hb5⟩; have HQ3 := Lib.hid (keep hb5 HQ2.out); have HF3 := Lib.hid (keep hb5 HF2.out); have A4 := Lib.hid (keep hb5 A3.out); have B4 := Lib.hid (below_next B3.out hb5); clear hb5)
          refine ⟨⟨j + 1, HJ.out, ?_, by rw [HL.out]; simp, HQ3, HF3, A4, B4⟩, ?_⟩
          · rfl
          · have := HJ.out
            show 4 - ((j + 1 : Nat) : Int).toNat < 4 - (j : Int).toNat
            omega
      · have d1 : decide ((j : Int) < 4) = false := decide_eq_false (by omega)
        obtain rfl : j = 4 := by omega
        have q4 : wr.cell? ⟨Q, 4, none⟩ = some (.bool (Stp.has kk 4)) := by rw [cell_of_row _ _ _ _ _ _ HQ2.out]; exact Stp.hasV_get _ 4 (by omega)
        have q5 : wr.cell? ⟨Q, 5, none⟩ = some (.bool (Stp.has kk 5)) := by rw [cell_of_row _ _ _ _ _ _ HQ2.out]; exact Stp.hasV_get _ 5 (by omega)
        obtain ⟨g0, g1, g2, g3, g4, g5, g6⟩ := stp_cell A3.out
        have hal4 := lacc_len x HR.out kk 4 (by omega)
        have hal5 := lacc_len x HR.out kk 5 (by omega)
        have HEND := Lib.hid (lacc_line x kk HKK.out (by have := HK2.out.1; omega) (by have := HK2.out.2; omega))
        have HRN : Hid (Rng x.n) := Lib.hid (HR.out 78)
        have HRC : Hid (Rng x.c) := Lib.hid (HR.out 67)
        have hbn := itoa_len HRN.out
        have hbc := itoa_len HRC.out
        clear hj
        cases h5 : Stp.has (kk : Int) 5 with
        | false =>
          have L5 := lacc_no x kk (m := 4) (by omega) (by rw [← h5]; rfl)
          rw [h5] at q5
          cases h4 : Stp.has (kk : Int) 4 with
          | false =>
            have L6 := lacc_no x kk (m := 5) (by omega) (by rw [← h4]; rfl)
            rw [h4] at q4
            have HF : Hid (lacc x kk 4 = x.line) := Lib.hid (by rw [← HEND.out, L6, L5])
            clear h4 h5 L5 L6 hal4 hal5 hbn hbc
            go_wp2_with fail
            go_ret2
            exact ⟨by rw [HF.out]; rfl, B3.out⟩
          | true =>
            have L6 := lacc_yes x kk (m := 5) (by omega) (by rw [← h4]; rfl)
            rw [h4] at q4
            have HF : Hid (lacc x kk 4 ++ [32] ++ Lib.itoa x.c = x.line) := Lib.hid (by rw [← HEND.out, L6, L5]; rfl)
            generalize lacc x kk 4 = a at *
            obtain ⟨c1, c2, c3, c4⟩ := cat_facts (a := a) (b := Lib.itoa x.c) (by omega) hbc
            clear h4 h5 L5 L6 hal4 hal5 hbn hbc
            go_wp2_with (go_at_call 23; refine (dec_any x.c HRC.out _).mono ?_; rintro e w5 ⟨rfl, hb5⟩; have B4 := Lib.hid (below_next B3.out hb5); clear hb5)
            go_ret2
            exact ⟨by rw [← HF.out]; simp, B4.out⟩
        | true =>
          have L5 := lacc_yes x kk (m := 4) (by omega) (by rw [← h5]; rfl)
          rw [h5] at q5
          cases h4 : Stp.has (kk : Int) 4 with
          | false =>
            have L6 := lacc_no x kk (m := 5) (by omega) (by rw [← h4]; rfl)
            rw [h4] at q4
            have HF : Hid (lacc x kk 4 ++ [32] ++ Lib.itoa x.n = x.line) := Lib.hid (by rw [← HEND.out, L6, L5]; rfl)
            generalize lacc x kk 4 = a at *
            obtain ⟨c1, c2, c3, c4⟩ := cat_facts (a := a) (b := Lib.itoa x.n) (by omega) hbn
            clear h4 h5 L5 L6 hal4 hal5 hbn hbc
            go_wp2_with (go_at_call 23; refine (dec_any x.n HRN.out _).mono ?_; rintro e w5 ⟨rfl, hb5⟩; have B4 := Lib.hid (below_next B3.out hb5); have q6 := cell_keep hb5 q4; clear hb5)
            go_ret2
            exact ⟨by rw [← HF.out]; simp, B4.out⟩
          | true =>
            have L6 := lacc_yes x kk (m := 5) (by omega) (by rw [← h4]; rfl)
            rw [h4] at q4
            have HF : Hid (lacc x kk 4 ++ [32] ++ Lib.itoa x.n ++ [32] ++ Lib.itoa x.c = x.line) := Lib.hid (by rw [← HEND.out, L6, L5]; rfl)
            generalize lacc x kk 4 = a at *
            obtain ⟨c1, c2, c3, c4⟩ := cat_facts (a := a) (b := Lib.itoa x.n) (by omega) hbn
            obtain ⟨b, hb⟩ : ∃ b, b = a ++ [32] ++ Lib.itoa x.n := ⟨_, rfl⟩
            have hbl : b.length ≤ 1000 := by rw [hb]; simp; omega
            rw [← hb] at c2
            have HF2 : Hid (b ++ [32] ++ Lib.itoa x.c = x.line) := Lib.hid (by rw [← HF.out, hb])
            obtain ⟨e1, e2, e3, e4⟩ := cat_facts (a := b) (b := Lib.itoa x.c) hbl hbc
            clear hb hbl HF
            clear h4 h5 L5 L6 hal4 hal5 hbn hbc
            go_wp2_with (first
              | (go_at_call_of 23 (Value.int .i64 x.n); refine (dec_any x.n HRN.out _).mono ?_; rintro e w5 ⟨rfl, hb5⟩; have B4 := Lib.hid (below_next B3.out hb5); have q6 := cell_keep hb5 q4; have q7 := cell_keep hb5 g5; clear hb5)
              | (go_at_call_of 23 (Value.int .i64 x.c); refine (dec_any x.c HRC.out _).mono ?_; rintro e w6 ⟨rfl, hb6⟩; have B5 := Lib.hid (below_next B4.out hb6); clear hb6))
            go_ret2
            exact ⟨by rw [← HF2.out]; simp, B5.out⟩

theorem rline_bad (x : Stp) (h : x.check ≠ 0) (w : World) :
    Calls Tryd.prog 9 #[.agg x.cells] w fun e w' => e = .returned (.tuple #[.string (S []), .int .i64 x.check]) ∧ Below w.heap.size w w' := by
  have A0 := Lib.hid (heap_alloc_new w (.cells x.cells 23))
  have B0 := Lib.hid (below_alloc0 w (.cells x.cells 23))
  have hn : (x.check != 0) = true := by simpa using h
  clear h
  go_enter Tryd.func9, Tryd.ntmps9
  go_wp2_with (first
    | (go_at_call 20; refine (rcheck_any x _).mono ?_; rintro e w1 ⟨rfl, hb1⟩; have B1 := Lib.hid (below_next B0.out hb1); clear hb1)
    | (refine wpList_load_row rfl 23 _ rfl w.heap.size rfl 23 x.cells (0, 0) _ ?_ Tryd.underlying23 rfl (by kernel_rfl) ?_; exact Hid.out (by assumption)))
  go_ret2
  exact ⟨rfl, B1.out⟩
end Go.Proofs.YtffdekgkhiffkaaDoor
