/- An answer's text. -/
import Derived.Test.YtbbdjfbhidpeiaaDoorOut1
namespace Go.Proofs.YtbbdjfbhidpeiaaDoor
open Go.RowKit

def headText (e : Int) : List UInt8 := if e = 0 then [111, 107] else [101, 114, 114, 111, 114, 32] ++ Lib.itoa e
def midText (k n : Int) : List UInt8 := if k = 0 then [] else 32 :: valText k n
def endText (d c : Int) : List UInt8 := if d = 0 ∧ c = 0 then [] else [32, 100, 111, 110, 101, 32] ++ Lib.itoa d ++ [32, 99, 114, 101, 100, 105, 116, 32] ++ Lib.itoa c
def ansText (e k n d c : Int) : List UInt8 := headText e ++ midText k n ++ endText d c
theorem head_len {e : Int} (h : Rng e) : (headText e).length ≤ 30 := by
  have := itoa_len h
  unfold headText
  split <;> simp <;> omega
theorem mid_len {k n : Int} (h : Rng n) : (midText k n).length ≤ 30 := by
  have := val_len (k := k) h
  unfold midText
  split <;> simp <;> omega
theorem end_len {d c : Int} (h : Rng d) (h2 : Rng c) : (endText d c).length ≤ 100 := by
  have := itoa_len h
  have := itoa_len h2
  unfold endText
  split <;> simp <;> omega
theorem size_le {l : List UInt8} {m : Nat} (h : l.length ≤ m) (hm : m ≤ 1000000) : (S l).size ≤ 1000000 := by rw [S_size]; omega

set_option maxHeartbeats 8000000 in
set_option maxRecDepth 100000 in
theorem answer_any (e k n d c : Int) (he : Rng e) (hn : Rng n) (hd : Rng d) (hc : Rng c) (w : World) (ht : Tab w) :
    Calls Tryd.prog 9 #[.agg #[.int .i64 e, .int .i64 k, .int .i64 n, .int .i64 d, .int .i64 c]] w fun r w' => r = .returned (.string (S (ansText e k n d c))) ∧ Below w.heap.size w w' := by
  have A0 := Lib.hid (heap_alloc_new w (.cells #[.int .i64 e, .int .i64 k, .int .i64 n, .int .i64 d, .int .i64 c] 24))
  have B0 := Lib.hid (below_alloc0 w (.cells #[.int .i64 e, .int .i64 k, .int .i64 n, .int .i64 d, .int .i64 c] 24))
  have T0 := Lib.hid (ht.keep (below_alloc0 w (.cells #[.int .i64 e, .int .i64 k, .int .i64 n, .int .i64 d, .int .i64 c] 24)))
  have c0 : (w.alloc (.cells #[.int .i64 e, .int .i64 k, .int .i64 n, .int .i64 d, .int .i64 c] 24)).cell? ⟨w.heap.size, 0, none⟩ = some (.int .i64 e) := cell_of_row _ _ _ _ _ _ (heap_alloc_new w _)
  have c1 : (w.alloc (.cells #[.int .i64 e, .int .i64 k, .int .i64 n, .int .i64 d, .int .i64 c] 24)).cell? ⟨w.heap.size, 1, none⟩ = some (.int .i64 k) := cell_of_row _ _ _ _ _ _ (heap_alloc_new w _)
  have c2 : (w.alloc (.cells #[.int .i64 e, .int .i64 k, .int .i64 n, .int .i64 d, .int .i64 c] 24)).cell? ⟨w.heap.size, 2, none⟩ = some (.int .i64 n) := cell_of_row _ _ _ _ _ _ (heap_alloc_new w _)
  have c3 : (w.alloc (.cells #[.int .i64 e, .int .i64 k, .int .i64 n, .int .i64 d, .int .i64 c] 24)).cell? ⟨w.heap.size, 3, none⟩ = some (.int .i64 d) := cell_of_row _ _ _ _ _ _ (heap_alloc_new w _)
  have c4 : (w.alloc (.cells #[.int .i64 e, .int .i64 k, .int .i64 n, .int .i64 d, .int .i64 c] 24)).cell? ⟨w.heap.size, 4, none⟩ = some (.int .i64 c) := cell_of_row _ _ _ _ _ _ (heap_alloc_new w _)
  have HE := Lib.hid he
  have HN := Lib.hid hn
  have HD := Lib.hid hd
  have HC := Lib.hid hc
  have le := size_le (itoa_len he) (by decide)
  have lv := size_le (val_len (k := k) hn) (by decide)
  have ld := size_le (itoa_len hd) (by decide)
  have lc := size_le (itoa_len hc) (by decide)
  obtain ⟨s1, hs1⟩ : ∃ s, s = headText e := ⟨_, rfl⟩
  obtain ⟨v1, hv1⟩ : ∃ s, s = 32 :: valText k n := ⟨_, rfl⟩
  obtain ⟨d1, hd1⟩ : ∃ s, s = [32, 100, 111, 110, 101, 32] ++ Lib.itoa d := ⟨_, rfl⟩
  obtain ⟨d2, hd2⟩ : ∃ s, s = d1 ++ [32, 99, 114, 101, 100, 105, 116, 32] := ⟨_, rfl⟩
  obtain ⟨d3, hd3⟩ : ∃ s, s = d2 ++ Lib.itoa c := ⟨_, rfl⟩
  have l1 : (S s1).size ≤ 1000000 := by rw [hs1]; exact size_le (head_len he) (by decide)
  have l2 : (S v1).size ≤ 1000000 := by rw [hv1]; exact size_le (m := 23) (by have := val_len (k := k) hn; simp; omega) (by decide)
  have l3 : (S d1).size ≤ 1000000 := by rw [hd1]; exact size_le (m := 40) (by have := itoa_len hd; simp; omega) (by decide)
  have l4 : (S d2).size ≤ 1000000 := by rw [hd2, hd1]; exact size_le (m := 60) (by have := itoa_len hd; simp; omega) (by decide)
  have l5 : (S d3).size ≤ 1000000 := by rw [hd3, hd2, hd1]; exact size_le (m := 90) (by have := itoa_len hd; have := itoa_len hc; simp; omega) (by decide)
  have l6 : (S (s1 ++ v1)).size ≤ 1000000 := by rw [hs1, hv1]; exact size_le (m := 90) (by have := head_len he; have := val_len (k := k) hn; simp; omega) (by decide)
  have g1 : ¬ 9223372036854775807 < 6 + (S (Lib.itoa e)).size := by omega
  have g2 : ¬ 9223372036854775807 < 1 + (S (valText k n)).size := by omega
  have g3 : ¬ 9223372036854775807 < (S s1).size + (S v1).size := cat_le l1 l2
  have g4 : ¬ 9223372036854775807 < 6 + (S (Lib.itoa d)).size := by omega
  have g5 : ¬ 9223372036854775807 < (S d1).size + 8 := by omega
  have g6 : ¬ 9223372036854775807 < (S d2).size + (S (Lib.itoa c)).size := cat_le l4 lc
  have g7 : ¬ 9223372036854775807 < (S s1).size + (S d3).size := cat_le l1 l5
  have g8 : ¬ 9223372036854775807 < (S (s1 ++ v1)).size + (S d3).size := cat_le l6 l5
  have q2 : (⟨#[32]⟩ : ByteArray) ++ S (valText k n) = S v1 := by rw [hv1]; exact S_app [32] _
  have q3 : S s1 ++ S v1 = S (s1 ++ v1) := S_app _ _
  have q4 : (⟨#[32, 100, 111, 110, 101, 32]⟩ : ByteArray) ++ S (Lib.itoa d) = S d1 := by rw [hd1]; exact S_app _ _
  have q5 : S d1 ++ (⟨#[32, 99, 114, 101, 100, 105, 116, 32]⟩ : ByteArray) = S d2 := by rw [hd2]; exact S_app _ _
  have q6 : S d2 ++ S (Lib.itoa c) = S d3 := by rw [hd3]; exact S_app _ _
  have q7 : S s1 ++ S d3 = S (s1 ++ d3) := S_app _ _
  have q8 : S (s1 ++ v1) ++ S d3 = S (s1 ++ (v1 ++ d3)) := by rw [S_app, List.append_assoc]
  have H3 : Hid (d3 = [32, 100, 111, 110, 101, 32] ++ Lib.itoa d ++ [32, 99, 114, 101, 100, 105, 116, 32] ++ Lib.itoa c) := Lib.hid (by rw [hd3, hd2, hd1])
  have H1 := Lib.hid hs1
  have H2 := Lib.hid hv1
  clear he hn hd hc ht le lv ld lc l1 l2 l3 l4 l5 l6 hs1 hv1 hd1 hd2 hd3
  have b4 : ∀ wx, (binOp .add 9 (.string (⟨#[32, 100, 111, 110, 101, 32]⟩ : ByteArray)) (.string (S (Lib.itoa d)))).run Tryd.prog wx = .ok (.string (S d1)) wx := fun wx => by go_simp
  have b5 : ∀ wx, (binOp .add 9 (.string (S d1)) (.string (⟨#[32, 99, 114, 101, 100, 105, 116, 32]⟩ : ByteArray))).run Tryd.prog wx = .ok (.string (S d2)) wx := fun wx => by go_simp
  have b6 : ∀ wx, (binOp .add 9 (.string (S d2)) (.string (S (Lib.itoa c)))).run Tryd.prog wx = .ok (.string (S d3)) wx := fun wx => by go_simp
  have b7 : ∀ wx, (binOp .add 9 (.string (S s1)) (.string (S d3))).run Tryd.prog wx = .ok (.string (S (s1 ++ d3))) wx := fun wx => by go_simp
  have b8 : ∀ wx, (binOp .add 9 (.string (S (s1 ++ v1))) (.string (S d3))).run Tryd.prog wx = .ok (.string (S (s1 ++ (v1 ++ d3)))) wx := fun wx => by go_simp
  by_cases e0 : e = 0
  · have f0 : (e != 0) = false := by simp [e0]
    have q1 : (⟨#[111, 107]⟩ : ByteArray) = S s1 := by rw [H1.out, headText, if_pos e0]; rfl
    clear e0
    by_cases k0 : k = 0
    · have f1 : (k != 0) = false := by simp [k0]
      have hm : Hid (midText k n = []) := Lib.hid (by unfold midText; rw [if_pos k0])
      clear k0
      by_cases d0 : d = 0
      · by_cases c0' : c = 0
        · have f2 : (d != 0) = false := by simp [d0]
          have f3 : (c != 0) = false := by simp [c0']
          have hx : Hid (ansText e k n d c = s1) := Lib.hid (by unfold ansText; rw [← H1.out, hm.out, endText, if_pos ⟨d0, c0'⟩]; simp)
          clear d0 c0'
          go_enter Tryd.func9, Tryd.ntmps9
          go_wp2_with (first
            | (go_at_call 16; refine (num_any e HE.out _ (Hid.out (by assumption))).mono ?_; rintro r w4 ⟨rfl, hb4⟩; have A4 := Lib.hid (keep hb4 (k := w.heap.size) (o := .cells #[.int .i64 e, .int .i64 k, .int .i64 n, .int .i64 d, .int .i64 c] 24 (0, 0)) (Hid.out (by assumption))); have B4 := Lib.hid (below_next (w := w) (Hid.out (by assumption)) hb4); have T4 := Lib.hid (Tab.keep (Hid.out (by assumption)) hb4); clear hb4; have c0 : w4.cell? ⟨w.heap.size, 0, none⟩ = some (.int .i64 e) := cell_of_row _ _ _ _ _ _ A4.out; have c1 : w4.cell? ⟨w.heap.size, 1, none⟩ = some (.int .i64 k) := cell_of_row _ _ _ _ _ _ A4.out; have c2 : w4.cell? ⟨w.heap.size, 2, none⟩ = some (.int .i64 n) := cell_of_row _ _ _ _ _ _ A4.out; have c3 : w4.cell? ⟨w.heap.size, 3, none⟩ = some (.int .i64 d) := cell_of_row _ _ _ _ _ _ A4.out; have c4 : w4.cell? ⟨w.heap.size, 4, none⟩ = some (.int .i64 c) := cell_of_row _ _ _ _ _ _ A4.out)
            | (go_at_call 10; refine (value_any k n HN.out _ (Hid.out (by assumption))).mono ?_; rintro r w4 ⟨rfl, hb4⟩; have A4 := Lib.hid (keep hb4 (k := w.heap.size) (o := .cells #[.int .i64 e, .int .i64 k, .int .i64 n, .int .i64 d, .int .i64 c] 24 (0, 0)) (Hid.out (by assumption))); have B4 := Lib.hid (below_next (w := w) (Hid.out (by assumption)) hb4); have T4 := Lib.hid (Tab.keep (Hid.out (by assumption)) hb4); clear hb4; have c0 : w4.cell? ⟨w.heap.size, 0, none⟩ = some (.int .i64 e) := cell_of_row _ _ _ _ _ _ A4.out; have c1 : w4.cell? ⟨w.heap.size, 1, none⟩ = some (.int .i64 k) := cell_of_row _ _ _ _ _ _ A4.out; have c2 : w4.cell? ⟨w.heap.size, 2, none⟩ = some (.int .i64 n) := cell_of_row _ _ _ _ _ _ A4.out; have c3 : w4.cell? ⟨w.heap.size, 3, none⟩ = some (.int .i64 d) := cell_of_row _ _ _ _ _ _ A4.out; have c4 : w4.cell? ⟨w.heap.size, 4, none⟩ = some (.int .i64 c) := cell_of_row _ _ _ _ _ _ A4.out))
          go_ret
          exact ⟨ret_str (by rw [hx.out]; first | done | rfl | exact q1), Hid.out (by assumption)⟩
        · have f2 : (d != 0) = false := by simp [d0]
          have f3 : (c != 0) = true := by simp [c0']
          have hx : Hid (ansText e k n d c = s1 ++ d3) := Lib.hid (by unfold ansText; rw [← H1.out, hm.out, endText, if_neg (fun h => c0' h.2), ← H3.out]; try simp)
          clear d0 c0'
          go_enter Tryd.func9, Tryd.ntmps9
          go_wp2_with (first
            | (go_at_call 16; refine (num_any e HE.out _ (Hid.out (by assumption))).mono ?_; rintro r w4 ⟨rfl, hb4⟩; have A4 := Lib.hid (keep hb4 (k := w.heap.size) (o := .cells #[.int .i64 e, .int .i64 k, .int .i64 n, .int .i64 d, .int .i64 c] 24 (0, 0)) (Hid.out (by assumption))); have B4 := Lib.hid (below_next (w := w) (Hid.out (by assumption)) hb4); have T4 := Lib.hid (Tab.keep (Hid.out (by assumption)) hb4); clear hb4; have c0 : w4.cell? ⟨w.heap.size, 0, none⟩ = some (.int .i64 e) := cell_of_row _ _ _ _ _ _ A4.out; have c1 : w4.cell? ⟨w.heap.size, 1, none⟩ = some (.int .i64 k) := cell_of_row _ _ _ _ _ _ A4.out; have c2 : w4.cell? ⟨w.heap.size, 2, none⟩ = some (.int .i64 n) := cell_of_row _ _ _ _ _ _ A4.out; have c3 : w4.cell? ⟨w.heap.size, 3, none⟩ = some (.int .i64 d) := cell_of_row _ _ _ _ _ _ A4.out; have c4 : w4.cell? ⟨w.heap.size, 4, none⟩ = some (.int .i64 c) := cell_of_row _ _ _ _ _ _ A4.out)
            | (go_at_call 10; refine (value_any k n HN.out _ (Hid.out (by assumption))).mono ?_; rintro r w4 ⟨rfl, hb4⟩; have A4 := Lib.hid (keep hb4 (k := w.heap.size) (o := .cells #[.int .i64 e, .int .i64 k, .int .i64 n, .int .i64 d, .int .i64 c] 24 (0, 0)) (Hid.out (by assumption))); have B4 := Lib.hid (below_next (w := w) (Hid.out (by assumption)) hb4); have T4 := Lib.hid (Tab.keep (Hid.out (by assumption)) hb4); clear hb4; have c0 : w4.cell? ⟨w.heap.size, 0, none⟩ = some (.int .i64 e) := cell_of_row _ _ _ _ _ _ A4.out; have c1 : w4.cell? ⟨w.heap.size, 1, none⟩ = some (.int .i64 k) := cell_of_row _ _ _ _ _ _ A4.out; have c2 : w4.cell? ⟨w.heap.size, 2, none⟩ = some (.int .i64 n) := cell_of_row _ _ _ _ _ _ A4.out; have c3 : w4.cell? ⟨w.heap.size, 3, none⟩ = some (.int .i64 d) := cell_of_row _ _ _ _ _ _ A4.out; have c4 : w4.cell? ⟨w.heap.size, 4, none⟩ = some (.int .i64 c) := cell_of_row _ _ _ _ _ _ A4.out))
          go_region_held3 (fun w' => w'.cell? ⟨w.heap.size, 3, none⟩ = some (.int .i64 d) ∧ w'.cell? ⟨w.heap.size, 4, none⟩ = some (.int .i64 c) ∧ Tab w' ∧ Below w.heap.size w w')
            (first
              | exact ⟨c3, c4, Tab.keep (Hid.out (by assumption)) (Below.refl _ _).drew, Below.drew (Hid.out (by assumption))⟩
              | (go_split_ands; exact ⟨cell_keep hb5 (by assumption), cell_keep hb5 (by assumption), Tab.keep (by assumption) hb5, below_next (by assumption) hb5⟩))
            (first
              | (go_split_ands; go_at_call 16; (first
                  | ((with_reducible refine (num_any d HD.out _ (by assumption)).mono ?_); rintro r w5 ⟨rfl, hb5⟩)
                  | ((with_reducible refine (num_any c HC.out _ (by assumption)).mono ?_); rintro r w5 ⟨rfl, hb5⟩))))
          go_wp2_with fail
          go_split_ands
          go_ret
          exact ⟨ret_str (by rw [hx.out]; first | done | rfl | exact q1), by assumption⟩
      · have f2 : (d != 0) = true := by simp [d0]
        have hx : Hid (ansText e k n d c = s1 ++ d3) := Lib.hid (by unfold ansText; rw [← H1.out, hm.out, endText, if_neg (fun h => d0 h.1), ← H3.out]; try simp)
        clear d0
        go_enter Tryd.func9, Tryd.ntmps9
        go_wp2_with (first
          | (go_at_call 16; refine (num_any e HE.out _ (Hid.out (by assumption))).mono ?_; rintro r w4 ⟨rfl, hb4⟩; have A4 := Lib.hid (keep hb4 (k := w.heap.size) (o := .cells #[.int .i64 e, .int .i64 k, .int .i64 n, .int .i64 d, .int .i64 c] 24 (0, 0)) (Hid.out (by assumption))); have B4 := Lib.hid (below_next (w := w) (Hid.out (by assumption)) hb4); have T4 := Lib.hid (Tab.keep (Hid.out (by assumption)) hb4); clear hb4; have c0 : w4.cell? ⟨w.heap.size, 0, none⟩ = some (.int .i64 e) := cell_of_row _ _ _ _ _ _ A4.out; have c1 : w4.cell? ⟨w.heap.size, 1, none⟩ = some (.int .i64 k) := cell_of_row _ _ _ _ _ _ A4.out; have c2 : w4.cell? ⟨w.heap.size, 2, none⟩ = some (.int .i64 n) := cell_of_row _ _ _ _ _ _ A4.out; have c3 : w4.cell? ⟨w.heap.size, 3, none⟩ = some (.int .i64 d) := cell_of_row _ _ _ _ _ _ A4.out; have c4 : w4.cell? ⟨w.heap.size, 4, none⟩ = some (.int .i64 c) := cell_of_row _ _ _ _ _ _ A4.out)
          | (go_at_call 10; refine (value_any k n HN.out _ (Hid.out (by assumption))).mono ?_; rintro r w4 ⟨rfl, hb4⟩; have A4 := Lib.hid (keep hb4 (k := w.heap.size) (o := .cells #[.int .i64 e, .int .i64 k, .int .i64 n, .int .i64 d, .int .i64 c] 24 (0, 0)) (Hid.out (by assumption))); have B4 := Lib.hid (below_next (w := w) (Hid.out (by assumption)) hb4); have T4 := Lib.hid (Tab.keep (Hid.out (by assumption)) hb4); clear hb4; have c0 : w4.cell? ⟨w.heap.size, 0, none⟩ = some (.int .i64 e) := cell_of_row _ _ _ _ _ _ A4.out; have c1 : w4.cell? ⟨w.heap.size, 1, none⟩ = some (.int .i64 k) := cell_of_row _ _ _ _ _ _ A4.out; have c2 : w4.cell? ⟨w.heap.size, 2, none⟩ = some (.int .i64 n) := cell_of_row _ _ _ _ _ _ A4.out; have c3 : w4.cell? ⟨w.heap.size, 3, none⟩ = some (.int .i64 d) := cell_of_row _ _ _ _ _ _ A4.out; have c4 : w4.cell? ⟨w.heap.size, 4, none⟩ = some (.int .i64 c) := cell_of_row _ _ _ _ _ _ A4.out))
        go_region_held3 (fun w' => w'.cell? ⟨w.heap.size, 3, none⟩ = some (.int .i64 d) ∧ w'.cell? ⟨w.heap.size, 4, none⟩ = some (.int .i64 c) ∧ Tab w' ∧ Below w.heap.size w w')
          (first
            | exact ⟨c3, c4, Tab.keep (Hid.out (by assumption)) (Below.refl _ _).drew, Below.drew (Hid.out (by assumption))⟩
            | (go_split_ands; exact ⟨cell_keep hb5 (by assumption), cell_keep hb5 (by assumption), Tab.keep (by assumption) hb5, below_next (by assumption) hb5⟩))
          (first
            | (go_split_ands; go_at_call 16; (first
                | ((with_reducible refine (num_any d HD.out _ (by assumption)).mono ?_); rintro r w5 ⟨rfl, hb5⟩)
                | ((with_reducible refine (num_any c HC.out _ (by assumption)).mono ?_); rintro r w5 ⟨rfl, hb5⟩))))
        go_wp2_with fail
        go_split_ands
        go_ret
        exact ⟨ret_str (by rw [hx.out]; first | done | rfl | exact q1), by assumption⟩
    · have f1 : (k != 0) = true := by simp [k0]
      have hm : Hid (midText k n = v1) := Lib.hid (by unfold midText; rw [if_neg k0, H2.out])
      clear k0
      by_cases d0 : d = 0
      · by_cases c0' : c = 0
        · have f2 : (d != 0) = false := by simp [d0]
          have f3 : (c != 0) = false := by simp [c0']
          have hx : Hid (ansText e k n d c = (s1 ++ v1)) := Lib.hid (by unfold ansText; rw [← H1.out, hm.out, endText, if_pos ⟨d0, c0'⟩]; simp)
          clear d0 c0'
          go_enter Tryd.func9, Tryd.ntmps9
          go_wp2_with (first
            | (go_at_call 16; refine (num_any e HE.out _ (Hid.out (by assumption))).mono ?_; rintro r w4 ⟨rfl, hb4⟩; have A4 := Lib.hid (keep hb4 (k := w.heap.size) (o := .cells #[.int .i64 e, .int .i64 k, .int .i64 n, .int .i64 d, .int .i64 c] 24 (0, 0)) (Hid.out (by assumption))); have B4 := Lib.hid (below_next (w := w) (Hid.out (by assumption)) hb4); have T4 := Lib.hid (Tab.keep (Hid.out (by assumption)) hb4); clear hb4; have c0 : w4.cell? ⟨w.heap.size, 0, none⟩ = some (.int .i64 e) := cell_of_row _ _ _ _ _ _ A4.out; have c1 : w4.cell? ⟨w.heap.size, 1, none⟩ = some (.int .i64 k) := cell_of_row _ _ _ _ _ _ A4.out; have c2 : w4.cell? ⟨w.heap.size, 2, none⟩ = some (.int .i64 n) := cell_of_row _ _ _ _ _ _ A4.out; have c3 : w4.cell? ⟨w.heap.size, 3, none⟩ = some (.int .i64 d) := cell_of_row _ _ _ _ _ _ A4.out; have c4 : w4.cell? ⟨w.heap.size, 4, none⟩ = some (.int .i64 c) := cell_of_row _ _ _ _ _ _ A4.out)
            | (go_at_call 10; refine (value_any k n HN.out _ (Hid.out (by assumption))).mono ?_; rintro r w4 ⟨rfl, hb4⟩; have A4 := Lib.hid (keep hb4 (k := w.heap.size) (o := .cells #[.int .i64 e, .int .i64 k, .int .i64 n, .int .i64 d, .int .i64 c] 24 (0, 0)) (Hid.out (by assumption))); have B4 := Lib.hid (below_next (w := w) (Hid.out (by assumption)) hb4); have T4 := Lib.hid (Tab.keep (Hid.out (by assumption)) hb4); clear hb4; have c0 : w4.cell? ⟨w.heap.size, 0, none⟩ = some (.int .i64 e) := cell_of_row _ _ _ _ _ _ A4.out; have c1 : w4.cell? ⟨w.heap.size, 1, none⟩ = some (.int .i64 k) := cell_of_row _ _ _ _ _ _ A4.out; have c2 : w4.cell? ⟨w.heap.size, 2, none⟩ = some (.int .i64 n) := cell_of_row _ _ _ _ _ _ A4.out; have c3 : w4.cell? ⟨w.heap.size, 3, none⟩ = some (.int .i64 d) := cell_of_row _ _ _ _ _ _ A4.out; have c4 : w4.cell? ⟨w.heap.size, 4, none⟩ = some (.int .i64 c) := cell_of_row _ _ _ _ _ _ A4.out))
          go_ret
          exact ⟨ret_str (by rw [hx.out]; first | done | rfl | exact q1), Hid.out (by assumption)⟩
        · have f2 : (d != 0) = false := by simp [d0]
          have f3 : (c != 0) = true := by simp [c0']
          have hx : Hid (ansText e k n d c = s1 ++ (v1 ++ d3)) := Lib.hid (by unfold ansText; rw [← H1.out, hm.out, endText, if_neg (fun h => c0' h.2), ← H3.out]; try simp)
          clear d0 c0'
          go_enter Tryd.func9, Tryd.ntmps9
          go_wp2_with (first
            | (go_at_call 16; refine (num_any e HE.out _ (Hid.out (by assumption))).mono ?_; rintro r w4 ⟨rfl, hb4⟩; have A4 := Lib.hid (keep hb4 (k := w.heap.size) (o := .cells #[.int .i64 e, .int .i64 k, .int .i64 n, .int .i64 d, .int .i64 c] 24 (0, 0)) (Hid.out (by assumption))); have B4 := Lib.hid (below_next (w := w) (Hid.out (by assumption)) hb4); have T4 := Lib.hid (Tab.keep (Hid.out (by assumption)) hb4); clear hb4; have c0 : w4.cell? ⟨w.heap.size, 0, none⟩ = some (.int .i64 e) := cell_of_row _ _ _ _ _ _ A4.out; have c1 : w4.cell? ⟨w.heap.size, 1, none⟩ = some (.int .i64 k) := cell_of_row _ _ _ _ _ _ A4.out; have c2 : w4.cell? ⟨w.heap.size, 2, none⟩ = some (.int .i64 n) := cell_of_row _ _ _ _ _ _ A4.out; have c3 : w4.cell? ⟨w.heap.size, 3, none⟩ = some (.int .i64 d) := cell_of_row _ _ _ _ _ _ A4.out; have c4 : w4.cell? ⟨w.heap.size, 4, none⟩ = some (.int .i64 c) := cell_of_row _ _ _ _ _ _ A4.out)
            | (go_at_call 10; refine (value_any k n HN.out _ (Hid.out (by assumption))).mono ?_; rintro r w4 ⟨rfl, hb4⟩; have A4 := Lib.hid (keep hb4 (k := w.heap.size) (o := .cells #[.int .i64 e, .int .i64 k, .int .i64 n, .int .i64 d, .int .i64 c] 24 (0, 0)) (Hid.out (by assumption))); have B4 := Lib.hid (below_next (w := w) (Hid.out (by assumption)) hb4); have T4 := Lib.hid (Tab.keep (Hid.out (by assumption)) hb4); clear hb4; have c0 : w4.cell? ⟨w.heap.size, 0, none⟩ = some (.int .i64 e) := cell_of_row _ _ _ _ _ _ A4.out; have c1 : w4.cell? ⟨w.heap.size, 1, none⟩ = some (.int .i64 k) := cell_of_row _ _ _ _ _ _ A4.out; have c2 : w4.cell? ⟨w.heap.size, 2, none⟩ = some (.int .i64 n) := cell_of_row _ _ _ _ _ _ A4.out; have c3 : w4.cell? ⟨w.heap.size, 3, none⟩ = some (.int .i64 d) := cell_of_row _ _ _ _ _ _ A4.out; have c4 : w4.cell? ⟨w.heap.size, 4, none⟩ = some (.int .i64 c) := cell_of_row _ _ _ _ _ _ A4.out))
          go_region_held3 (fun w' => w'.cell? ⟨w.heap.size, 3, none⟩ = some (.int .i64 d) ∧ w'.cell? ⟨w.heap.size, 4, none⟩ = some (.int .i64 c) ∧ Tab w' ∧ Below w.heap.size w w')
            (first
              | exact ⟨c3, c4, Tab.keep (Hid.out (by assumption)) (Below.refl _ _).drew, Below.drew (Hid.out (by assumption))⟩
              | (go_split_ands; exact ⟨cell_keep hb5 (by assumption), cell_keep hb5 (by assumption), Tab.keep (by assumption) hb5, below_next (by assumption) hb5⟩))
            (first
              | (go_split_ands; go_at_call 16; (first
                  | ((with_reducible refine (num_any d HD.out _ (by assumption)).mono ?_); rintro r w5 ⟨rfl, hb5⟩)
                  | ((with_reducible refine (num_any c HC.out _ (by assumption)).mono ?_); rintro r w5 ⟨rfl, hb5⟩))))
          go_wp2_with fail
          go_split_ands
          go_ret
          exact ⟨ret_str (by rw [hx.out]; first | done | rfl | exact q1), by assumption⟩
      · have f2 : (d != 0) = true := by simp [d0]
        have hx : Hid (ansText e k n d c = s1 ++ (v1 ++ d3)) := Lib.hid (by unfold ansText; rw [← H1.out, hm.out, endText, if_neg (fun h => d0 h.1), ← H3.out]; try simp)
        clear d0
        go_enter Tryd.func9, Tryd.ntmps9
        go_wp2_with (first
          | (go_at_call 16; refine (num_any e HE.out _ (Hid.out (by assumption))).mono ?_; rintro r w4 ⟨rfl, hb4⟩; have A4 := Lib.hid (keep hb4 (k := w.heap.size) (o := .cells #[.int .i64 e, .int .i64 k, .int .i64 n, .int .i64 d, .int .i64 c] 24 (0, 0)) (Hid.out (by assumption))); have B4 := Lib.hid (below_next (w := w) (Hid.out (by assumption)) hb4); have T4 := Lib.hid (Tab.keep (Hid.out (by assumption)) hb4); clear hb4; have c0 : w4.cell? ⟨w.heap.size, 0, none⟩ = some (.int .i64 e) := cell_of_row _ _ _ _ _ _ A4.out; have c1 : w4.cell? ⟨w.heap.size, 1, none⟩ = some (.int .i64 k) := cell_of_row _ _ _ _ _ _ A4.out; have c2 : w4.cell? ⟨w.heap.size, 2, none⟩ = some (.int .i64 n) := cell_of_row _ _ _ _ _ _ A4.out; have c3 : w4.cell? ⟨w.heap.size, 3, none⟩ = some (.int .i64 d) := cell_of_row _ _ _ _ _ _ A4.out; have c4 : w4.cell? ⟨w.heap.size, 4, none⟩ = some (.int .i64 c) := cell_of_row _ _ _ _ _ _ A4.out)
          | (go_at_call 10; refine (value_any k n HN.out _ (Hid.out (by assumption))).mono ?_; rintro r w4 ⟨rfl, hb4⟩; have A4 := Lib.hid (keep hb4 (k := w.heap.size) (o := .cells #[.int .i64 e, .int .i64 k, .int .i64 n, .int .i64 d, .int .i64 c] 24 (0, 0)) (Hid.out (by assumption))); have B4 := Lib.hid (below_next (w := w) (Hid.out (by assumption)) hb4); have T4 := Lib.hid (Tab.keep (Hid.out (by assumption)) hb4); clear hb4; have c0 : w4.cell? ⟨w.heap.size, 0, none⟩ = some (.int .i64 e) := cell_of_row _ _ _ _ _ _ A4.out; have c1 : w4.cell? ⟨w.heap.size, 1, none⟩ = some (.int .i64 k) := cell_of_row _ _ _ _ _ _ A4.out; have c2 : w4.cell? ⟨w.heap.size, 2, none⟩ = some (.int .i64 n) := cell_of_row _ _ _ _ _ _ A4.out; have c3 : w4.cell? ⟨w.heap.size, 3, none⟩ = some (.int .i64 d) := cell_of_row _ _ _ _ _ _ A4.out; have c4 : w4.cell? ⟨w.heap.size, 4, none⟩ = some (.int .i64 c) := cell_of_row _ _ _ _ _ _ A4.out))
        go_region_held3 (fun w' => w'.cell? ⟨w.heap.size, 3, none⟩ = some (.int .i64 d) ∧ w'.cell? ⟨w.heap.size, 4, none⟩ = some (.int .i64 c) ∧ Tab w' ∧ Below w.heap.size w w')
          (first
            | exact ⟨c3, c4, Tab.keep (Hid.out (by assumption)) (Below.refl _ _).drew, Below.drew (Hid.out (by assumption))⟩
            | (go_split_ands; exact ⟨cell_keep hb5 (by assumption), cell_keep hb5 (by assumption), Tab.keep (by assumption) hb5, below_next (by assumption) hb5⟩))
          (first
            | (go_split_ands; go_at_call 16; (first
                | ((with_reducible refine (num_any d HD.out _ (by assumption)).mono ?_); rintro r w5 ⟨rfl, hb5⟩)
                | ((with_reducible refine (num_any c HC.out _ (by assumption)).mono ?_); rintro r w5 ⟨rfl, hb5⟩))))
        go_wp2_with fail
        go_split_ands
        go_ret
        exact ⟨ret_str (by rw [hx.out]; first | done | rfl | exact q1), by assumption⟩
  · have f0 : (e != 0) = true := by simp [e0]
    have q1 : (⟨#[101, 114, 114, 111, 114, 32]⟩ : ByteArray) ++ S (Lib.itoa e) = S s1 := by rw [H1.out, headText, if_neg e0]; exact S_app _ _
    clear e0
    by_cases k0 : k = 0
    · have f1 : (k != 0) = false := by simp [k0]
      have hm : Hid (midText k n = []) := Lib.hid (by unfold midText; rw [if_pos k0])
      clear k0
      by_cases d0 : d = 0
      · by_cases c0' : c = 0
        · have f2 : (d != 0) = false := by simp [d0]
          have f3 : (c != 0) = false := by simp [c0']
          have hx : Hid (ansText e k n d c = s1) := Lib.hid (by unfold ansText; rw [← H1.out, hm.out, endText, if_pos ⟨d0, c0'⟩]; simp)
          clear d0 c0'
          go_enter Tryd.func9, Tryd.ntmps9
          go_wp2_with (first
            | (go_at_call 16; refine (num_any e HE.out _ (Hid.out (by assumption))).mono ?_; rintro r w4 ⟨rfl, hb4⟩; have A4 := Lib.hid (keep hb4 (k := w.heap.size) (o := .cells #[.int .i64 e, .int .i64 k, .int .i64 n, .int .i64 d, .int .i64 c] 24 (0, 0)) (Hid.out (by assumption))); have B4 := Lib.hid (below_next (w := w) (Hid.out (by assumption)) hb4); have T4 := Lib.hid (Tab.keep (Hid.out (by assumption)) hb4); clear hb4; have c0 : w4.cell? ⟨w.heap.size, 0, none⟩ = some (.int .i64 e) := cell_of_row _ _ _ _ _ _ A4.out; have c1 : w4.cell? ⟨w.heap.size, 1, none⟩ = some (.int .i64 k) := cell_of_row _ _ _ _ _ _ A4.out; have c2 : w4.cell? ⟨w.heap.size, 2, none⟩ = some (.int .i64 n) := cell_of_row _ _ _ _ _ _ A4.out; have c3 : w4.cell? ⟨w.heap.size, 3, none⟩ = some (.int .i64 d) := cell_of_row _ _ _ _ _ _ A4.out; have c4 : w4.cell? ⟨w.heap.size, 4, none⟩ = some (.int .i64 c) := cell_of_row _ _ _ _ _ _ A4.out)
            | (go_at_call 10; refine (value_any k n HN.out _ (Hid.out (by assumption))).mono ?_; rintro r w4 ⟨rfl, hb4⟩; have A4 := Lib.hid (keep hb4 (k := w.heap.size) (o := .cells #[.int .i64 e, .int .i64 k, .int .i64 n, .int .i64 d, .int .i64 c] 24 (0, 0)) (Hid.out (by assumption))); have B4 := Lib.hid (below_next (w := w) (Hid.out (by assumption)) hb4); have T4 := Lib.hid (Tab.keep (Hid.out (by assumption)) hb4); clear hb4; have c0 : w4.cell? ⟨w.heap.size, 0, none⟩ = some (.int .i64 e) := cell_of_row _ _ _ _ _ _ A4.out; have c1 : w4.cell? ⟨w.heap.size, 1, none⟩ = some (.int .i64 k) := cell_of_row _ _ _ _ _ _ A4.out; have c2 : w4.cell? ⟨w.heap.size, 2, none⟩ = some (.int .i64 n) := cell_of_row _ _ _ _ _ _ A4.out; have c3 : w4.cell? ⟨w.heap.size, 3, none⟩ = some (.int .i64 d) := cell_of_row _ _ _ _ _ _ A4.out; have c4 : w4.cell? ⟨w.heap.size, 4, none⟩ = some (.int .i64 c) := cell_of_row _ _ _ _ _ _ A4.out))
          go_ret
          exact ⟨ret_str (by rw [hx.out]; first | done | rfl | exact q1), Hid.out (by assumption)⟩
        · have f2 : (d != 0) = false := by simp [d0]
          have f3 : (c != 0) = true := by simp [c0']
          have hx : Hid (ansText e k n d c = s1 ++ d3) := Lib.hid (by unfold ansText; rw [← H1.out, hm.out, endText, if_neg (fun h => c0' h.2), ← H3.out]; try simp)
          clear d0 c0'
          go_enter Tryd.func9, Tryd.ntmps9
          go_wp2_with (first
            | (go_at_call 16; refine (num_any e HE.out _ (Hid.out (by assumption))).mono ?_; rintro r w4 ⟨rfl, hb4⟩; have A4 := Lib.hid (keep hb4 (k := w.heap.size) (o := .cells #[.int .i64 e, .int .i64 k, .int .i64 n, .int .i64 d, .int .i64 c] 24 (0, 0)) (Hid.out (by assumption))); have B4 := Lib.hid (below_next (w := w) (Hid.out (by assumption)) hb4); have T4 := Lib.hid (Tab.keep (Hid.out (by assumption)) hb4); clear hb4; have c0 : w4.cell? ⟨w.heap.size, 0, none⟩ = some (.int .i64 e) := cell_of_row _ _ _ _ _ _ A4.out; have c1 : w4.cell? ⟨w.heap.size, 1, none⟩ = some (.int .i64 k) := cell_of_row _ _ _ _ _ _ A4.out; have c2 : w4.cell? ⟨w.heap.size, 2, none⟩ = some (.int .i64 n) := cell_of_row _ _ _ _ _ _ A4.out; have c3 : w4.cell? ⟨w.heap.size, 3, none⟩ = some (.int .i64 d) := cell_of_row _ _ _ _ _ _ A4.out; have c4 : w4.cell? ⟨w.heap.size, 4, none⟩ = some (.int .i64 c) := cell_of_row _ _ _ _ _ _ A4.out)
            | (go_at_call 10; refine (value_any k n HN.out _ (Hid.out (by assumption))).mono ?_; rintro r w4 ⟨rfl, hb4⟩; have A4 := Lib.hid (keep hb4 (k := w.heap.size) (o := .cells #[.int .i64 e, .int .i64 k, .int .i64 n, .int .i64 d, .int .i64 c] 24 (0, 0)) (Hid.out (by assumption))); have B4 := Lib.hid (below_next (w := w) (Hid.out (by assumption)) hb4); have T4 := Lib.hid (Tab.keep (Hid.out (by assumption)) hb4); clear hb4; have c0 : w4.cell? ⟨w.heap.size, 0, none⟩ = some (.int .i64 e) := cell_of_row _ _ _ _ _ _ A4.out; have c1 : w4.cell? ⟨w.heap.size, 1, none⟩ = some (.int .i64 k) := cell_of_row _ _ _ _ _ _ A4.out; have c2 : w4.cell? ⟨w.heap.size, 2, none⟩ = some (.int .i64 n) := cell_of_row _ _ _ _ _ _ A4.out; have c3 : w4.cell? ⟨w.heap.size, 3, none⟩ = some (.int .i64 d) := cell_of_row _ _ _ _ _ _ A4.out; have c4 : w4.cell? ⟨w.heap.size, 4, none⟩ = some (.int .i64 c) := cell_of_row _ _ _ _ _ _ A4.out))
          go_region_held3 (fun w' => w'.cell? ⟨w.heap.size, 3, none⟩ = some (.int .i64 d) ∧ w'.cell? ⟨w.heap.size, 4, none⟩ = some (.int .i64 c) ∧ Tab w' ∧ Below w.heap.size w w')
            (first
              | exact ⟨c3, c4, Tab.keep (Hid.out (by assumption)) (Below.refl _ _).drew, Below.drew (Hid.out (by assumption))⟩
              | (go_split_ands; exact ⟨cell_keep hb5 (by assumption), cell_keep hb5 (by assumption), Tab.keep (by assumption) hb5, below_next (by assumption) hb5⟩))
            (first
              | (go_split_ands; go_at_call 16; (first
                  | ((with_reducible refine (num_any d HD.out _ (by assumption)).mono ?_); rintro r w5 ⟨rfl, hb5⟩)
                  | ((with_reducible refine (num_any c HC.out _ (by assumption)).mono ?_); rintro r w5 ⟨rfl, hb5⟩))))
          go_wp2_with fail
          go_split_ands
          go_ret
          exact ⟨ret_str (by rw [hx.out]; first | done | rfl | exact q1), by assumption⟩
      · have f2 : (d != 0) = true := by simp [d0]
        have hx : Hid (ansText e k n d c = s1 ++ d3) := Lib.hid (by unfold ansText; rw [← H1.out, hm.out, endText, if_neg (fun h => d0 h.1), ← H3.out]; try simp)
        clear d0
        go_enter Tryd.func9, Tryd.ntmps9
        go_wp2_with (first
          | (go_at_call 16; refine (num_any e HE.out _ (Hid.out (by assumption))).mono ?_; rintro r w4 ⟨rfl, hb4⟩; have A4 := Lib.hid (keep hb4 (k := w.heap.size) (o := .cells #[.int .i64 e, .int .i64 k, .int .i64 n, .int .i64 d, .int .i64 c] 24 (0, 0)) (Hid.out (by assumption))); have B4 := Lib.hid (below_next (w := w) (Hid.out (by assumption)) hb4); have T4 := Lib.hid (Tab.keep (Hid.out (by assumption)) hb4); clear hb4; have c0 : w4.cell? ⟨w.heap.size, 0, none⟩ = some (.int .i64 e) := cell_of_row _ _ _ _ _ _ A4.out; have c1 : w4.cell? ⟨w.heap.size, 1, none⟩ = some (.int .i64 k) := cell_of_row _ _ _ _ _ _ A4.out; have c2 : w4.cell? ⟨w.heap.size, 2, none⟩ = some (.int .i64 n) := cell_of_row _ _ _ _ _ _ A4.out; have c3 : w4.cell? ⟨w.heap.size, 3, none⟩ = some (.int .i64 d) := cell_of_row _ _ _ _ _ _ A4.out; have c4 : w4.cell? ⟨w.heap.size, 4, none⟩ = some (.int .i64 c) := cell_of_row _ _ _ _ _ _ A4.out)
          | (go_at_call 10; refine (value_any k n HN.out _ (Hid.out (by assumption))).mono ?_; rintro r w4 ⟨rfl, hb4⟩; have A4 := Lib.hid (keep hb4 (k := w.heap.size) (o := .cells #[.int .i64 e, .int .i64 k, .int .i64 n, .int .i64 d, .int .i64 c] 24 (0, 0)) (Hid.out (by assumption))); have B4 := Lib.hid (below_next (w := w) (Hid.out (by assumption)) hb4); have T4 := Lib.hid (Tab.keep (Hid.out (by assumption)) hb4); clear hb4; have c0 : w4.cell? ⟨w.heap.size, 0, none⟩ = some (.int .i64 e) := cell_of_row _ _ _ _ _ _ A4.out; have c1 : w4.cell? ⟨w.heap.size, 1, none⟩ = some (.int .i64 k) := cell_of_row _ _ _ _ _ _ A4.out; have c2 : w4.cell? ⟨w.heap.size, 2, none⟩ = some (.int .i64 n) := cell_of_row _ _ _ _ _ _ A4.out; have c3 : w4.cell? ⟨w.heap.size, 3, none⟩ = some (.int .i64 d) := cell_of_row _ _ _ _ _ _ A4.out; have c4 : w4.cell? ⟨w.heap.size, 4, none⟩ = some (.int .i64 c) := cell_of_row _ _ _ _ _ _ A4.out))
        go_region_held3 (fun w' => w'.cell? ⟨w.heap.size, 3, none⟩ = some (.int .i64 d) ∧ w'.cell? ⟨w.heap.size, 4, none⟩ = some (.int .i64 c) ∧ Tab w' ∧ Below w.heap.size w w')
          (first
            | exact ⟨c3, c4, Tab.keep (Hid.out (by assumption)) (Below.refl _ _).drew, Below.drew (Hid.out (by assumption))⟩
            | (go_split_ands; exact ⟨cell_keep hb5 (by assumption), cell_keep hb5 (by assumption), Tab.keep (by assumption) hb5, below_next (by assumption) hb5⟩))
          (first
            | (go_split_ands; go_at_call 16; (first
                | ((with_reducible refine (num_any d HD.out _ (by assumption)).mono ?_); rintro r w5 ⟨rfl, hb5⟩)
                | ((with_reducible refine (num_any c HC.out _ (by assumption)).mono ?_); rintro r w5 ⟨rfl, hb5⟩))))
        go_wp2_with fail
        go_split_ands
        go_ret
        exact ⟨ret_str (by rw [hx.out]; first | done | rfl | exact q1), by assumption⟩
    · have f1 : (k != 0) = true := by simp [k0]
      have hm : Hid (midText k n = v1) := Lib.hid (by unfold midText; rw [if_neg k0, H2.out])
      clear k0
      by_cases d0 : d = 0
      · by_cases c0' : c = 0
        · have f2 : (d != 0) = false := by simp [d0]
          have f3 : (c != 0) = false := by simp [c0']
          have hx : Hid (ansText e k n d c = (s1 ++ v1)) := Lib.hid (by unfold ansText; rw [← H1.out, hm.out, endText, if_pos ⟨d0, c0'⟩]; simp)
          clear d0 c0'
          go_enter Tryd.func9, Tryd.ntmps9
          go_wp2_with (first
            | (go_at_call 16; refine (num_any e HE.out _ (Hid.out (by assumption))).mono ?_; rintro r w4 ⟨rfl, hb4⟩; have A4 := Lib.hid (keep hb4 (k := w.heap.size) (o := .cells #[.int .i64 e, .int .i64 k, .int .i64 n, .int .i64 d, .int .i64 c] 24 (0, 0)) (Hid.out (by assumption))); have B4 := Lib.hid (below_next (w := w) (Hid.out (by assumption)) hb4); have T4 := Lib.hid (Tab.keep (Hid.out (by assumption)) hb4); clear hb4; have c0 : w4.cell? ⟨w.heap.size, 0, none⟩ = some (.int .i64 e) := cell_of_row _ _ _ _ _ _ A4.out; have c1 : w4.cell? ⟨w.heap.size, 1, none⟩ = some (.int .i64 k) := cell_of_row _ _ _ _ _ _ A4.out; have c2 : w4.cell? ⟨w.heap.size, 2, none⟩ = some (.int .i64 n) := cell_of_row _ _ _ _ _ _ A4.out; have c3 : w4.cell? ⟨w.heap.size, 3, none⟩ = some (.int .i64 d) := cell_of_row _ _ _ _ _ _ A4.out; have c4 : w4.cell? ⟨w.heap.size, 4, none⟩ = some (.int .i64 c) := cell_of_row _ _ _ _ _ _ A4.out)
            | (go_at_call 10; refine (value_any k n HN.out _ (Hid.out (by assumption))).mono ?_; rintro r w4 ⟨rfl, hb4⟩; have A4 := Lib.hid (keep hb4 (k := w.heap.size) (o := .cells #[.int .i64 e, .int .i64 k, .int .i64 n, .int .i64 d, .int .i64 c] 24 (0, 0)) (Hid.out (by assumption))); have B4 := Lib.hid (below_next (w := w) (Hid.out (by assumption)) hb4); have T4 := Lib.hid (Tab.keep (Hid.out (by assumption)) hb4); clear hb4; have c0 : w4.cell? ⟨w.heap.size, 0, none⟩ = some (.int .i64 e) := cell_of_row _ _ _ _ _ _ A4.out; have c1 : w4.cell? ⟨w.heap.size, 1, none⟩ = some (.int .i64 k) := cell_of_row _ _ _ _ _ _ A4.out; have c2 : w4.cell? ⟨w.heap.size, 2, none⟩ = some (.int .i64 n) := cell_of_row _ _ _ _ _ _ A4.out; have c3 : w4.cell? ⟨w.heap.size, 3, none⟩ = some (.int .i64 d) := cell_of_row _ _ _ _ _ _ A4.out; have c4 : w4.cell? ⟨w.heap.size, 4, none⟩ = some (.int .i64 c) := cell_of_row _ _ _ _ _ _ A4.out))
          go_ret
          exact ⟨ret_str (by rw [hx.out]; first | done | rfl | exact q1), Hid.out (by assumption)⟩
        · have f2 : (d != 0) = false := by simp [d0]
          have f3 : (c != 0) = true := by simp [c0']
          have hx : Hid (ansText e k n d c = s1 ++ (v1 ++ d3)) := Lib.hid (by unfold ansText; rw [← H1.out, hm.out, endText, if_neg (fun h => c0' h.2), ← H3.out]; try simp)
          clear d0 c0'
          go_enter Tryd.func9, Tryd.ntmps9
          go_wp2_with (first
            | (go_at_call 16; refine (num_any e HE.out _ (Hid.out (by assumption))).mono ?_; rintro r w4 ⟨rfl, hb4⟩; have A4 := Lib.hid (keep hb4 (k := w.heap.size) (o := .cells #[.int .i64 e, .int .i64 k, .int .i64 n, .int .i64 d, .int .i64 c] 24 (0, 0)) (Hid.out (by assumption))); have B4 := Lib.hid (below_next (w := w) (Hid.out (by assumption)) hb4); have T4 := Lib.hid (Tab.keep (Hid.out (by assumption)) hb4); clear hb4; have c0 : w4.cell? ⟨w.heap.size, 0, none⟩ = some (.int .i64 e) := cell_of_row _ _ _ _ _ _ A4.out; have c1 : w4.cell? ⟨w.heap.size, 1, none⟩ = some (.int .i64 k) := cell_of_row _ _ _ _ _ _ A4.out; have c2 : w4.cell? ⟨w.heap.size, 2, none⟩ = some (.int .i64 n) := cell_of_row _ _ _ _ _ _ A4.out; have c3 : w4.cell? ⟨w.heap.size, 3, none⟩ = some (.int .i64 d) := cell_of_row _ _ _ _ _ _ A4.out; have c4 : w4.cell? ⟨w.heap.size, 4, none⟩ = some (.int .i64 c) := cell_of_row _ _ _ _ _ _ A4.out)
            | (go_at_call 10; refine (value_any k n HN.out _ (Hid.out (by assumption))).mono ?_; rintro r w4 ⟨rfl, hb4⟩; have A4 := Lib.hid (keep hb4 (k := w.heap.size) (o := .cells #[.int .i64 e, .int .i64 k, .int .i64 n, .int .i64 d, .int .i64 c] 24 (0, 0)) (Hid.out (by assumption))); have B4 := Lib.hid (below_next (w := w) (Hid.out (by assumption)) hb4); have T4 := Lib.hid (Tab.keep (Hid.out (by assumption)) hb4); clear hb4; have c0 : w4.cell? ⟨w.heap.size, 0, none⟩ = some (.int .i64 e) := cell_of_row _ _ _ _ _ _ A4.out; have c1 : w4.cell? ⟨w.heap.size, 1, none⟩ = some (.int .i64 k) := cell_of_row _ _ _ _ _ _ A4.out; have c2 : w4.cell? ⟨w.heap.size, 2, none⟩ = some (.int .i64 n) := cell_of_row _ _ _ _ _ _ A4.out; have c3 : w4.cell? ⟨w.heap.size, 3, none⟩ = some (.int .i64 d) := cell_of_row _ _ _ _ _ _ A4.out; have c4 : w4.cell? ⟨w.heap.size, 4, none⟩ = some (.int .i64 c) := cell_of_row _ _ _ _ _ _ A4.out))
          go_region_held3 (fun w' => w'.cell? ⟨w.heap.size, 3, none⟩ = some (.int .i64 d) ∧ w'.cell? ⟨w.heap.size, 4, none⟩ = some (.int .i64 c) ∧ Tab w' ∧ Below w.heap.size w w')
            (first
              | exact ⟨c3, c4, Tab.keep (Hid.out (by assumption)) (Below.refl _ _).drew, Below.drew (Hid.out (by assumption))⟩
              | (go_split_ands; exact ⟨cell_keep hb5 (by assumption), cell_keep hb5 (by assumption), Tab.keep (by assumption) hb5, below_next (by assumption) hb5⟩))
            (first
              | (go_split_ands; go_at_call 16; (first
                  | ((with_reducible refine (num_any d HD.out _ (by assumption)).mono ?_); rintro r w5 ⟨rfl, hb5⟩)
                  | ((with_reducible refine (num_any c HC.out _ (by assumption)).mono ?_); rintro r w5 ⟨rfl, hb5⟩))))
          go_wp2_with fail
          go_split_ands
          go_ret
          exact ⟨ret_str (by rw [hx.out]; first | done | rfl | exact q1), by assumption⟩
      · have f2 : (d != 0) = true := by simp [d0]
        have hx : Hid (ansText e k n d c = s1 ++ (v1 ++ d3)) := Lib.hid (by unfold ansText; rw [← H1.out, hm.out, endText, if_neg (fun h => d0 h.1), ← H3.out]; try simp)
        clear d0
        go_enter Tryd.func9, Tryd.ntmps9
        go_wp2_with (first
          | (go_at_call 16; refine (num_any e HE.out _ (Hid.out (by assumption))).mono ?_; rintro r w4 ⟨rfl, hb4⟩; have A4 := Lib.hid (keep hb4 (k := w.heap.size) (o := .cells #[.int .i64 e, .int .i64 k, .int .i64 n, .int .i64 d, .int .i64 c] 24 (0, 0)) (Hid.out (by assumption))); have B4 := Lib.hid (below_next (w := w) (Hid.out (by assumption)) hb4); have T4 := Lib.hid (Tab.keep (Hid.out (by assumption)) hb4); clear hb4; have c0 : w4.cell? ⟨w.heap.size, 0, none⟩ = some (.int .i64 e) := cell_of_row _ _ _ _ _ _ A4.out; have c1 : w4.cell? ⟨w.heap.size, 1, none⟩ = some (.int .i64 k) := cell_of_row _ _ _ _ _ _ A4.out; have c2 : w4.cell? ⟨w.heap.size, 2, none⟩ = some (.int .i64 n) := cell_of_row _ _ _ _ _ _ A4.out; have c3 : w4.cell? ⟨w.heap.size, 3, none⟩ = some (.int .i64 d) := cell_of_row _ _ _ _ _ _ A4.out; have c4 : w4.cell? ⟨w.heap.size, 4, none⟩ = some (.int .i64 c) := cell_of_row _ _ _ _ _ _ A4.out)
          | (go_at_call 10; refine (value_any k n HN.out _ (Hid.out (by assumption))).mono ?_; rintro r w4 ⟨rfl, hb4⟩; have A4 := Lib.hid (keep hb4 (k := w.heap.size) (o := .cells #[.int .i64 e, .int .i64 k, .int .i64 n, .int .i64 d, .int .i64 c] 24 (0, 0)) (Hid.out (by assumption))); have B4 := Lib.hid (below_next (w := w) (Hid.out (by assumption)) hb4); have T4 := Lib.hid (Tab.keep (Hid.out (by assumption)) hb4); clear hb4; have c0 : w4.cell? ⟨w.heap.size, 0, none⟩ = some (.int .i64 e) := cell_of_row _ _ _ _ _ _ A4.out; have c1 : w4.cell? ⟨w.heap.size, 1, none⟩ = some (.int .i64 k) := cell_of_row _ _ _ _ _ _ A4.out; have c2 : w4.cell? ⟨w.heap.size, 2, none⟩ = some (.int .i64 n) := cell_of_row _ _ _ _ _ _ A4.out; have c3 : w4.cell? ⟨w.heap.size, 3, none⟩ = some (.int .i64 d) := cell_of_row _ _ _ _ _ _ A4.out; have c4 : w4.cell? ⟨w.heap.size, 4, none⟩ = some (.int .i64 c) := cell_of_row _ _ _ _ _ _ A4.out))
        go_region_held3 (fun w' => w'.cell? ⟨w.heap.size, 3, none⟩ = some (.int .i64 d) ∧ w'.cell? ⟨w.heap.size, 4, none⟩ = some (.int .i64 c) ∧ Tab w' ∧ Below w.heap.size w w')
          (first
            | exact ⟨c3, c4, Tab.keep (Hid.out (by assumption)) (Below.refl _ _).drew, Below.drew (Hid.out (by assumption))⟩
            | (go_split_ands; exact ⟨cell_keep hb5 (by assumption), cell_keep hb5 (by assumption), Tab.keep (by assumption) hb5, below_next (by assumption) hb5⟩))
          (first
            | (go_split_ands; go_at_call 16; (first
                | ((with_reducible refine (num_any d HD.out _ (by assumption)).mono ?_); rintro r w5 ⟨rfl, hb5⟩)
                | ((with_reducible refine (num_any c HC.out _ (by assumption)).mono ?_); rintro r w5 ⟨rfl, hb5⟩))))
        go_wp2_with fail
        go_split_ands
        go_ret
        exact ⟨ret_str (by rw [hx.out]; first | done | rfl | exact q1), by assumption⟩
end Go.Proofs.YtbbdjfbhidpeiaaDoor
