/- What OutlineAnswers answers. -/
import Derived.Test.YtbbdjfbhidpeiaaDoorOut8
namespace Go.Proofs.YtbbdjfbhidpeiaaDoor
open Go.RowKit

theorem alloc_two (w : World) (o1 o2 : Obj) : ((w.alloc o1).alloc o2).heap[w.heap.size + 1]? = some o2 := by
  have h := heap_alloc_new (w.alloc o1) o2
  have e : (w.alloc o1).heap.size = w.heap.size + 1 := by show (w.heap.push o1).size = _; simp
  rwa [e] at h

set_option maxHeartbeats 16000000 in
set_option maxRecDepth 100000 in
theorem answers_law (e k n d c vk vn : Int) (he : Rng e) (hn : Rng n) (hd : Rng d) (hc : Rng c) (hvn : Rng vn) (w : World) (ht : Tab w) :
    Calls Tryd.prog 3 #[.agg #[.int .i64 e, .int .i64 k, .int .i64 n, .int .i64 d, .int .i64 c], .agg #[.int .i64 vk, .int .i64 vn]] w fun r w' => r = .returned (.bool true) ∧ Below w.heap.size w w' := by
  have A0 : Hid (((w.alloc (.cells #[.int .i64 e, .int .i64 k, .int .i64 n, .int .i64 d, .int .i64 c] 24)).alloc (.cells #[.int .i64 vk, .int .i64 vn] 26)).heap[w.heap.size]? = some (.cells #[.int .i64 e, .int .i64 k, .int .i64 n, .int .i64 d, .int .i64 c] 24 (0, 0))) := Lib.hid (keep_alloc _ (heap_alloc_new w _))
  have V0 : Hid (((w.alloc (.cells #[.int .i64 e, .int .i64 k, .int .i64 n, .int .i64 d, .int .i64 c] 24)).alloc (.cells #[.int .i64 vk, .int .i64 vn] 26)).heap[w.heap.size + 1]? = some (.cells #[.int .i64 vk, .int .i64 vn] 26 (0, 0))) := Lib.hid (alloc_two w _ _)
  have B0 := Lib.hid (below_new (below_alloc0 w (.cells #[.int .i64 e, .int .i64 k, .int .i64 n, .int .i64 d, .int .i64 c] 24)) (.cells #[.int .i64 vk, .int .i64 vn] 26))
  have T0 := Lib.hid (ht.keep B0.out)
  have HE := Lib.hid he
  have HN := Lib.hid hn
  have HD := Lib.hid hd
  have HC := Lib.hid hc
  have HV := Lib.hid hvn
  have le := size_le (itoa_len he) (by decide)
  have lv := size_le (val_len (k := k) hn) (by decide)
  have ld := size_le (itoa_len hd) (by decide)
  have lc := size_le (itoa_len hc) (by decide)
  have m1 := head_len he
  have m2 := val_len (k := k) hn
  have m3 := itoa_len hd
  have m4 := itoa_len hc
  obtain ⟨s1, hs1⟩ : ∃ s, s = headText e := ⟨_, rfl⟩
  obtain ⟨u1, hu1⟩ : ∃ s, s = s1 ++ [32] := ⟨_, rfl⟩
  obtain ⟨x2, hx2⟩ : ∃ s, s = s1 ++ 32 :: valText k n := ⟨_, rfl⟩
  have n1 : s1.length ≤ 30 := by rw [hs1]; exact m1
  have n2 : u1.length ≤ 31 := by rw [hu1]; simp; omega
  have n3 : x2.length ≤ 60 := by rw [hx2]; simp; omega
  have l1 := size_le n1 (by decide)
  have l2 := size_le n2 (by decide)
  have l3 := size_le n3 (by decide)
  have g1 : ¬ 9223372036854775807 < 6 + (S (Lib.itoa e)).size := by omega
  have g2 : ¬ 9223372036854775807 < (S s1).size + 1 := by omega
  have g3 : ¬ 9223372036854775807 < (S u1).size + (S (valText k n)).size := cat_le l2 lv
  have q2 : S s1 ++ (⟨#[32]⟩ : ByteArray) = S u1 := by rw [hu1]; exact S_app _ _
  have q3 : S u1 ++ S (valText k n) = S x2 := by rw [hx2, hu1, S_app, List.append_assoc]; rfl
  have H1 := Lib.hid hs1
  have H2 := Lib.hid hx2
  clear he hn hd hc hvn ht le lv l1 l2 l3 m1 m2 hs1 hu1 hx2 n2
  by_cases e0 : e = 0
  · have f0 : (e != 0) = false := by simp [e0]
    have q1 : (⟨#[111, 107]⟩ : ByteArray) = S s1 := by rw [H1.out, headText, if_pos e0]; rfl
    have qk : ((S s1).toList == [111, 107]) = true := by rw [← q1]; first | decide +kernel | simp
    clear e0
    by_cases k0 : k = 0
    · have f1 : (k != 0) = false := by simp [k0]
      have hm : Hid (headText e ++ midText k n = s1) := Lib.hid (by unfold midText; rw [if_pos k0, ← H1.out, List.append_nil])
      clear k0
      by_cases d0 : d = 0
      · by_cases c0' : c = 0
        · have f2 : (d != 0) = false := by simp [d0]
          have f3 : (c != 0) = false := by simp [c0']
          have hx : Hid (ansText e k n d c = s1) := Lib.hid (by unfold ansText; rw [hm.out, endText, if_pos ⟨d0, c0'⟩, List.append_nil])
          clear d0 c0'
          go_enter Tryd.func3, Tryd.ntmps3
          go_wp2_with (first
            | (go_at_call 6; refine (oalive_any _ (Hid.out (by assumption))).mono ?_; rintro r w4 ⟨rfl, hb4⟩; have A4 := Lib.hid (keep hb4 (k := w.heap.size) (o := .cells #[.int .i64 e, .int .i64 k, .int .i64 n, .int .i64 d, .int .i64 c] 24 (0, 0)) (Hid.out (by assumption))); have V4 := Lib.hid (keep hb4 (k := w.heap.size + 1) (o := .cells #[.int .i64 vk, .int .i64 vn] 26 (0, 0)) (Hid.out (by assumption))); have B4 := Lib.hid (below_next (w := w) (Hid.out (by assumption)) hb4); have T4 := Lib.hid (Tab.keep (Hid.out (by assumption)) hb4); clear hb4; have c0 : w4.cell? ⟨w.heap.size, 0, none⟩ = some (.int .i64 e) := cell_of_row _ _ _ _ _ _ A4.out; have c1 : w4.cell? ⟨w.heap.size, 1, none⟩ = some (.int .i64 k) := cell_of_row _ _ _ _ _ _ A4.out; have c2 : w4.cell? ⟨w.heap.size, 2, none⟩ = some (.int .i64 n) := cell_of_row _ _ _ _ _ _ A4.out; have c3 : w4.cell? ⟨w.heap.size, 3, none⟩ = some (.int .i64 d) := cell_of_row _ _ _ _ _ _ A4.out; have c4 : w4.cell? ⟨w.heap.size, 4, none⟩ = some (.int .i64 c) := cell_of_row _ _ _ _ _ _ A4.out; have v0 : w4.cell? ⟨w.heap.size + 1, 0, none⟩ = some (.int .i64 vk) := cell_of_row _ _ _ _ _ _ V4.out; have v1 : w4.cell? ⟨w.heap.size + 1, 1, none⟩ = some (.int .i64 vn) := cell_of_row _ _ _ _ _ _ V4.out)
            | (go_at_call 7; refine (dec_any e HE.out _).mono ?_; rintro r w4 ⟨rfl, hb4⟩; have A4 := Lib.hid (keep hb4 (k := w.heap.size) (o := .cells #[.int .i64 e, .int .i64 k, .int .i64 n, .int .i64 d, .int .i64 c] 24 (0, 0)) (Hid.out (by assumption))); have V4 := Lib.hid (keep hb4 (k := w.heap.size + 1) (o := .cells #[.int .i64 vk, .int .i64 vn] 26 (0, 0)) (Hid.out (by assumption))); have B4 := Lib.hid (below_next (w := w) (Hid.out (by assumption)) hb4); have T4 := Lib.hid (Tab.keep (Hid.out (by assumption)) hb4); clear hb4; have c0 : w4.cell? ⟨w.heap.size, 0, none⟩ = some (.int .i64 e) := cell_of_row _ _ _ _ _ _ A4.out; have c1 : w4.cell? ⟨w.heap.size, 1, none⟩ = some (.int .i64 k) := cell_of_row _ _ _ _ _ _ A4.out; have c2 : w4.cell? ⟨w.heap.size, 2, none⟩ = some (.int .i64 n) := cell_of_row _ _ _ _ _ _ A4.out; have c3 : w4.cell? ⟨w.heap.size, 3, none⟩ = some (.int .i64 d) := cell_of_row _ _ _ _ _ _ A4.out; have c4 : w4.cell? ⟨w.heap.size, 4, none⟩ = some (.int .i64 c) := cell_of_row _ _ _ _ _ _ A4.out; have v0 : w4.cell? ⟨w.heap.size + 1, 0, none⟩ = some (.int .i64 vk) := cell_of_row _ _ _ _ _ _ V4.out; have v1 : w4.cell? ⟨w.heap.size + 1, 1, none⟩ = some (.int .i64 vn) := cell_of_row _ _ _ _ _ _ V4.out)
            | (go_at_call 8; refine (lvalue_any k n HN.out _).mono ?_; rintro r w4 ⟨rfl, hb4⟩; have A4 := Lib.hid (keep hb4 (k := w.heap.size) (o := .cells #[.int .i64 e, .int .i64 k, .int .i64 n, .int .i64 d, .int .i64 c] 24 (0, 0)) (Hid.out (by assumption))); have V4 := Lib.hid (keep hb4 (k := w.heap.size + 1) (o := .cells #[.int .i64 vk, .int .i64 vn] 26 (0, 0)) (Hid.out (by assumption))); have B4 := Lib.hid (below_next (w := w) (Hid.out (by assumption)) hb4); have T4 := Lib.hid (Tab.keep (Hid.out (by assumption)) hb4); clear hb4; have c0 : w4.cell? ⟨w.heap.size, 0, none⟩ = some (.int .i64 e) := cell_of_row _ _ _ _ _ _ A4.out; have c1 : w4.cell? ⟨w.heap.size, 1, none⟩ = some (.int .i64 k) := cell_of_row _ _ _ _ _ _ A4.out; have c2 : w4.cell? ⟨w.heap.size, 2, none⟩ = some (.int .i64 n) := cell_of_row _ _ _ _ _ _ A4.out; have c3 : w4.cell? ⟨w.heap.size, 3, none⟩ = some (.int .i64 d) := cell_of_row _ _ _ _ _ _ A4.out; have c4 : w4.cell? ⟨w.heap.size, 4, none⟩ = some (.int .i64 c) := cell_of_row _ _ _ _ _ _ A4.out; have v0 : w4.cell? ⟨w.heap.size + 1, 0, none⟩ = some (.int .i64 vk) := cell_of_row _ _ _ _ _ _ V4.out; have v1 : w4.cell? ⟨w.heap.size + 1, 1, none⟩ = some (.int .i64 vn) := cell_of_row _ _ _ _ _ _ V4.out))
          go_region_held3 (fun w' => w'.cell? ⟨w.heap.size, 0, none⟩ = some (.int .i64 e) ∧ w'.cell? ⟨w.heap.size, 1, none⟩ = some (.int .i64 k) ∧ w'.cell? ⟨w.heap.size, 2, none⟩ = some (.int .i64 n) ∧ w'.cell? ⟨w.heap.size, 3, none⟩ = some (.int .i64 d) ∧ w'.cell? ⟨w.heap.size, 4, none⟩ = some (.int .i64 c) ∧ w'.cell? ⟨w.heap.size + 1, 0, none⟩ = some (.int .i64 vk) ∧ w'.cell? ⟨w.heap.size + 1, 1, none⟩ = some (.int .i64 vn) ∧ Tab w' ∧ Below w.heap.size w w')
            (first
              | exact ⟨c0, c1, c2, c3, c4, v0, v1, Tab.keep (Hid.out (by assumption)) (Below.refl _ _).drew, Below.drew (Hid.out (by assumption))⟩
              | (go_split_ands; exact ⟨cell_keep hb5 (by assumption), cell_keep hb5 (by assumption), cell_keep hb5 (by assumption), cell_keep hb5 (by assumption), cell_keep hb5 (by assumption), cell_keep hb5 (by assumption), cell_keep hb5 (by assumption), Tab.keep (by assumption) hb5, below_next (by assumption) hb5⟩))
            (first
              | (go_split_ands; go_at_call 9; refine (answer_any e k n d c HE.out HN.out HD.out HC.out _ (by assumption)).mono ?_; rintro r w5 ⟨rfl, hb5⟩; rw [hx.out])
              | (go_split_ands; go_at_call 10; refine (value_any vk vn HV.out _ (by assumption)).mono ?_; rintro r w5 ⟨rfl, hb5⟩)
              | (go_at_call 8; refine (lvalue_any vk vn HV.out _).mono ?_; rintro r w5 ⟨rfl, hb5⟩))
          go_wp2_with fail
          go_split_ands
          go_ret
          exact ⟨rfl, by assumption⟩
        · have f2 : (d != 0) = false := by simp [d0]
          have f3 : (c != 0) = true := by simp [c0']
          obtain ⟨p1, hp1⟩ : ∃ s, s = s1 ++ [32, 100, 111, 110, 101, 32] := ⟨_, rfl⟩
          obtain ⟨p2, hp2⟩ : ∃ s, s = p1 ++ Lib.itoa d := ⟨_, rfl⟩
          obtain ⟨p3, hp3⟩ : ∃ s, s = p2 ++ [32, 99, 114, 101, 100, 105, 116, 32] := ⟨_, rfl⟩
          obtain ⟨p4, hp4⟩ : ∃ s, s = p3 ++ Lib.itoa c := ⟨_, rfl⟩
          have z0 := size_le (l := s1) (m := 60) (by omega) (by decide)
          have z1 := size_le (l := p1) (m := 70) (by rw [hp1]; simp; omega) (by decide)
          have z2 := size_le (l := p2) (m := 100) (by rw [hp2, hp1]; simp; omega) (by decide)
          have z3 := size_le (l := p3) (m := 120) (by rw [hp3, hp2, hp1]; simp; omega) (by decide)
          have g4 : ¬ 9223372036854775807 < (S s1).size + 6 := by omega
          have g5 : ¬ 9223372036854775807 < (S p1).size + (S (Lib.itoa d)).size := cat_le z1 ld
          have g6 : ¬ 9223372036854775807 < (S p2).size + 8 := by omega
          have g7 : ¬ 9223372036854775807 < (S p3).size + (S (Lib.itoa c)).size := cat_le z3 lc
          have q4 : S s1 ++ (⟨#[32, 100, 111, 110, 101, 32]⟩ : ByteArray) = S p1 := by rw [hp1]; exact S_app _ _
          have q5 : S p1 ++ S (Lib.itoa d) = S p2 := by rw [hp2]; exact S_app _ _
          have q6 : S p2 ++ (⟨#[32, 99, 114, 101, 100, 105, 116, 32]⟩ : ByteArray) = S p3 := by rw [hp3]; exact S_app _ _
          have q7 : S p3 ++ S (Lib.itoa c) = S p4 := by rw [hp4]; exact S_app _ _
          have H4 : Hid (p4 = s1 ++ ([32, 100, 111, 110, 101, 32] ++ Lib.itoa d ++ [32, 99, 114, 101, 100, 105, 116, 32] ++ Lib.itoa c)) := Lib.hid (by rw [hp4, hp3, hp2, hp1]; simp)
          clear hp1 hp2 hp3 hp4 z0 z1 z2 z3 ld lc m3 m4 n1 n3
          have hx : Hid (ansText e k n d c = p4) := Lib.hid (by unfold ansText; rw [hm.out, endText, if_neg (fun h => c0' h.2), H4.out])
          clear d0 c0'
          have b4 : ∀ wx, (binOp .add 9 (.string (S s1)) (.string (⟨#[32, 100, 111, 110, 101, 32]⟩ : ByteArray))).run Tryd.prog wx = .ok (.string (S p1)) wx := fun wx => by go_simp
          have b5 : ∀ wx, (binOp .add 9 (.string (S p1)) (.string (S (Lib.itoa d)))).run Tryd.prog wx = .ok (.string (S p2)) wx := fun wx => by go_simp
          have b6 : ∀ wx, (binOp .add 9 (.string (S p2)) (.string (⟨#[32, 99, 114, 101, 100, 105, 116, 32]⟩ : ByteArray))).run Tryd.prog wx = .ok (.string (S p3)) wx := fun wx => by go_simp
          have b7 : ∀ wx, (binOp .add 9 (.string (S p3)) (.string (S (Lib.itoa c)))).run Tryd.prog wx = .ok (.string (S p4)) wx := fun wx => by go_simp
          go_enter Tryd.func3, Tryd.ntmps3
          go_wp2_with (first
            | (go_at_call 6; refine (oalive_any _ (Hid.out (by assumption))).mono ?_; rintro r w4 ⟨rfl, hb4⟩; have A4 := Lib.hid (keep hb4 (k := w.heap.size) (o := .cells #[.int .i64 e, .int .i64 k, .int .i64 n, .int .i64 d, .int .i64 c] 24 (0, 0)) (Hid.out (by assumption))); have V4 := Lib.hid (keep hb4 (k := w.heap.size + 1) (o := .cells #[.int .i64 vk, .int .i64 vn] 26 (0, 0)) (Hid.out (by assumption))); have B4 := Lib.hid (below_next (w := w) (Hid.out (by assumption)) hb4); have T4 := Lib.hid (Tab.keep (Hid.out (by assumption)) hb4); clear hb4; have c0 : w4.cell? ⟨w.heap.size, 0, none⟩ = some (.int .i64 e) := cell_of_row _ _ _ _ _ _ A4.out; have c1 : w4.cell? ⟨w.heap.size, 1, none⟩ = some (.int .i64 k) := cell_of_row _ _ _ _ _ _ A4.out; have c2 : w4.cell? ⟨w.heap.size, 2, none⟩ = some (.int .i64 n) := cell_of_row _ _ _ _ _ _ A4.out; have c3 : w4.cell? ⟨w.heap.size, 3, none⟩ = some (.int .i64 d) := cell_of_row _ _ _ _ _ _ A4.out; have c4 : w4.cell? ⟨w.heap.size, 4, none⟩ = some (.int .i64 c) := cell_of_row _ _ _ _ _ _ A4.out; have v0 : w4.cell? ⟨w.heap.size + 1, 0, none⟩ = some (.int .i64 vk) := cell_of_row _ _ _ _ _ _ V4.out; have v1 : w4.cell? ⟨w.heap.size + 1, 1, none⟩ = some (.int .i64 vn) := cell_of_row _ _ _ _ _ _ V4.out)
            | (go_at_call 7; refine (dec_any e HE.out _).mono ?_; rintro r w4 ⟨rfl, hb4⟩; have A4 := Lib.hid (keep hb4 (k := w.heap.size) (o := .cells #[.int .i64 e, .int .i64 k, .int .i64 n, .int .i64 d, .int .i64 c] 24 (0, 0)) (Hid.out (by assumption))); have V4 := Lib.hid (keep hb4 (k := w.heap.size + 1) (o := .cells #[.int .i64 vk, .int .i64 vn] 26 (0, 0)) (Hid.out (by assumption))); have B4 := Lib.hid (below_next (w := w) (Hid.out (by assumption)) hb4); have T4 := Lib.hid (Tab.keep (Hid.out (by assumption)) hb4); clear hb4; have c0 : w4.cell? ⟨w.heap.size, 0, none⟩ = some (.int .i64 e) := cell_of_row _ _ _ _ _ _ A4.out; have c1 : w4.cell? ⟨w.heap.size, 1, none⟩ = some (.int .i64 k) := cell_of_row _ _ _ _ _ _ A4.out; have c2 : w4.cell? ⟨w.heap.size, 2, none⟩ = some (.int .i64 n) := cell_of_row _ _ _ _ _ _ A4.out; have c3 : w4.cell? ⟨w.heap.size, 3, none⟩ = some (.int .i64 d) := cell_of_row _ _ _ _ _ _ A4.out; have c4 : w4.cell? ⟨w.heap.size, 4, none⟩ = some (.int .i64 c) := cell_of_row _ _ _ _ _ _ A4.out; have v0 : w4.cell? ⟨w.heap.size + 1, 0, none⟩ = some (.int .i64 vk) := cell_of_row _ _ _ _ _ _ V4.out; have v1 : w4.cell? ⟨w.heap.size + 1, 1, none⟩ = some (.int .i64 vn) := cell_of_row _ _ _ _ _ _ V4.out)
            | (go_at_call 8; refine (lvalue_any k n HN.out _).mono ?_; rintro r w4 ⟨rfl, hb4⟩; have A4 := Lib.hid (keep hb4 (k := w.heap.size) (o := .cells #[.int .i64 e, .int .i64 k, .int .i64 n, .int .i64 d, .int .i64 c] 24 (0, 0)) (Hid.out (by assumption))); have V4 := Lib.hid (keep hb4 (k := w.heap.size + 1) (o := .cells #[.int .i64 vk, .int .i64 vn] 26 (0, 0)) (Hid.out (by assumption))); have B4 := Lib.hid (below_next (w := w) (Hid.out (by assumption)) hb4); have T4 := Lib.hid (Tab.keep (Hid.out (by assumption)) hb4); clear hb4; have c0 : w4.cell? ⟨w.heap.size, 0, none⟩ = some (.int .i64 e) := cell_of_row _ _ _ _ _ _ A4.out; have c1 : w4.cell? ⟨w.heap.size, 1, none⟩ = some (.int .i64 k) := cell_of_row _ _ _ _ _ _ A4.out; have c2 : w4.cell? ⟨w.heap.size, 2, none⟩ = some (.int .i64 n) := cell_of_row _ _ _ _ _ _ A4.out; have c3 : w4.cell? ⟨w.heap.size, 3, none⟩ = some (.int .i64 d) := cell_of_row _ _ _ _ _ _ A4.out; have c4 : w4.cell? ⟨w.heap.size, 4, none⟩ = some (.int .i64 c) := cell_of_row _ _ _ _ _ _ A4.out; have v0 : w4.cell? ⟨w.heap.size + 1, 0, none⟩ = some (.int .i64 vk) := cell_of_row _ _ _ _ _ _ V4.out; have v1 : w4.cell? ⟨w.heap.size + 1, 1, none⟩ = some (.int .i64 vn) := cell_of_row _ _ _ _ _ _ V4.out))
          go_region_held3 (fun w' => w'.cell? ⟨w.heap.size, 0, none⟩ = some (.int .i64 e) ∧ w'.cell? ⟨w.heap.size, 1, none⟩ = some (.int .i64 k) ∧ w'.cell? ⟨w.heap.size, 2, none⟩ = some (.int .i64 n) ∧ w'.cell? ⟨w.heap.size, 3, none⟩ = some (.int .i64 d) ∧ w'.cell? ⟨w.heap.size, 4, none⟩ = some (.int .i64 c) ∧ w'.cell? ⟨w.heap.size + 1, 0, none⟩ = some (.int .i64 vk) ∧ w'.cell? ⟨w.heap.size + 1, 1, none⟩ = some (.int .i64 vn) ∧ Tab w' ∧ Below w.heap.size w w')
            (first
              | exact ⟨c0, c1, c2, c3, c4, v0, v1, Tab.keep (Hid.out (by assumption)) (Below.refl _ _).drew, Below.drew (Hid.out (by assumption))⟩
              | (go_split_ands; exact ⟨cell_keep hb5 (by assumption), cell_keep hb5 (by assumption), cell_keep hb5 (by assumption), cell_keep hb5 (by assumption), cell_keep hb5 (by assumption), cell_keep hb5 (by assumption), cell_keep hb5 (by assumption), Tab.keep (by assumption) hb5, below_next (by assumption) hb5⟩))
            (first
              | (go_at_call 7; (first
                  | ((with_reducible refine (dec_any d HD.out _).mono ?_); rintro r w5 ⟨rfl, hb5⟩)
                  | ((with_reducible refine (dec_any c HC.out _).mono ?_); rintro r w5 ⟨rfl, hb5⟩))))
          go_wp2_with fail
          go_region_held3 (fun w' => w'.cell? ⟨w.heap.size, 0, none⟩ = some (.int .i64 e) ∧ w'.cell? ⟨w.heap.size, 1, none⟩ = some (.int .i64 k) ∧ w'.cell? ⟨w.heap.size, 2, none⟩ = some (.int .i64 n) ∧ w'.cell? ⟨w.heap.size, 3, none⟩ = some (.int .i64 d) ∧ w'.cell? ⟨w.heap.size, 4, none⟩ = some (.int .i64 c) ∧ w'.cell? ⟨w.heap.size + 1, 0, none⟩ = some (.int .i64 vk) ∧ w'.cell? ⟨w.heap.size + 1, 1, none⟩ = some (.int .i64 vn) ∧ Tab w' ∧ Below w.heap.size w w')
            (first
              | (go_split_ands; exact ⟨by assumption, by assumption, by assumption, by assumption, by assumption, by assumption, by assumption, Tab.keep (by assumption) (Below.refl _ _).drew, Below.drew (by assumption)⟩)
              | (go_split_ands; exact ⟨cell_keep hb5 (by assumption), cell_keep hb5 (by assumption), cell_keep hb5 (by assumption), cell_keep hb5 (by assumption), cell_keep hb5 (by assumption), cell_keep hb5 (by assumption), cell_keep hb5 (by assumption), Tab.keep (by assumption) hb5, below_next (by assumption) hb5⟩))
            (first
              | (go_split_ands; go_at_call 9; refine (answer_any e k n d c HE.out HN.out HD.out HC.out _ (by assumption)).mono ?_; rintro r w5 ⟨rfl, hb5⟩; rw [hx.out])
              | (go_split_ands; go_at_call 10; refine (value_any vk vn HV.out _ (by assumption)).mono ?_; rintro r w5 ⟨rfl, hb5⟩)
              | (go_at_call 8; refine (lvalue_any vk vn HV.out _).mono ?_; rintro r w5 ⟨rfl, hb5⟩))
          go_wp2_with fail
          go_split_ands
          go_ret
          exact ⟨rfl, by assumption⟩
      · have f2 : (d != 0) = true := by simp [d0]
        obtain ⟨p1, hp1⟩ : ∃ s, s = s1 ++ [32, 100, 111, 110, 101, 32] := ⟨_, rfl⟩
        obtain ⟨p2, hp2⟩ : ∃ s, s = p1 ++ Lib.itoa d := ⟨_, rfl⟩
        obtain ⟨p3, hp3⟩ : ∃ s, s = p2 ++ [32, 99, 114, 101, 100, 105, 116, 32] := ⟨_, rfl⟩
        obtain ⟨p4, hp4⟩ : ∃ s, s = p3 ++ Lib.itoa c := ⟨_, rfl⟩
        have z0 := size_le (l := s1) (m := 60) (by omega) (by decide)
        have z1 := size_le (l := p1) (m := 70) (by rw [hp1]; simp; omega) (by decide)
        have z2 := size_le (l := p2) (m := 100) (by rw [hp2, hp1]; simp; omega) (by decide)
        have z3 := size_le (l := p3) (m := 120) (by rw [hp3, hp2, hp1]; simp; omega) (by decide)
        have g4 : ¬ 9223372036854775807 < (S s1).size + 6 := by omega
        have g5 : ¬ 9223372036854775807 < (S p1).size + (S (Lib.itoa d)).size := cat_le z1 ld
        have g6 : ¬ 9223372036854775807 < (S p2).size + 8 := by omega
        have g7 : ¬ 9223372036854775807 < (S p3).size + (S (Lib.itoa c)).size := cat_le z3 lc
        have q4 : S s1 ++ (⟨#[32, 100, 111, 110, 101, 32]⟩ : ByteArray) = S p1 := by rw [hp1]; exact S_app _ _
        have q5 : S p1 ++ S (Lib.itoa d) = S p2 := by rw [hp2]; exact S_app _ _
        have q6 : S p2 ++ (⟨#[32, 99, 114, 101, 100, 105, 116, 32]⟩ : ByteArray) = S p3 := by rw [hp3]; exact S_app _ _
        have q7 : S p3 ++ S (Lib.itoa c) = S p4 := by rw [hp4]; exact S_app _ _
        have H4 : Hid (p4 = s1 ++ ([32, 100, 111, 110, 101, 32] ++ Lib.itoa d ++ [32, 99, 114, 101, 100, 105, 116, 32] ++ Lib.itoa c)) := Lib.hid (by rw [hp4, hp3, hp2, hp1]; simp)
        clear hp1 hp2 hp3 hp4 z0 z1 z2 z3 ld lc m3 m4 n1 n3
        have hx : Hid (ansText e k n d c = p4) := Lib.hid (by unfold ansText; rw [hm.out, endText, if_neg (fun h => d0 h.1), H4.out])
        clear d0
        have b4 : ∀ wx, (binOp .add 9 (.string (S s1)) (.string (⟨#[32, 100, 111, 110, 101, 32]⟩ : ByteArray))).run Tryd.prog wx = .ok (.string (S p1)) wx := fun wx => by go_simp
        have b5 : ∀ wx, (binOp .add 9 (.string (S p1)) (.string (S (Lib.itoa d)))).run Tryd.prog wx = .ok (.string (S p2)) wx := fun wx => by go_simp
        have b6 : ∀ wx, (binOp .add 9 (.string (S p2)) (.string (⟨#[32, 99, 114, 101, 100, 105, 116, 32]⟩ : ByteArray))).run Tryd.prog wx = .ok (.string (S p3)) wx := fun wx => by go_simp
        have b7 : ∀ wx, (binOp .add 9 (.string (S p3)) (.string (S (Lib.itoa c)))).run Tryd.prog wx = .ok (.string (S p4)) wx := fun wx => by go_simp
        go_enter Tryd.func3, Tryd.ntmps3
        go_wp2_with (first
          | (go_at_call 6; refine (oalive_any _ (Hid.out (by assumption))).mono ?_; rintro r w4 ⟨rfl, hb4⟩; have A4 := Lib.hid (keep hb4 (k := w.heap.size) (o := .cells #[.int .i64 e, .int .i64 k, .int .i64 n, .int .i64 d, .int .i64 c] 24 (0, 0)) (Hid.out (by assumption))); have V4 := Lib.hid (keep hb4 (k := w.heap.size + 1) (o := .cells #[.int .i64 vk, .int .i64 vn] 26 (0, 0)) (Hid.out (by assumption))); have B4 := Lib.hid (below_next (w := w) (Hid.out (by assumption)) hb4); have T4 := Lib.hid (Tab.keep (Hid.out (by assumption)) hb4); clear hb4; have c0 : w4.cell? ⟨w.heap.size, 0, none⟩ = some (.int .i64 e) := cell_of_row _ _ _ _ _ _ A4.out; have c1 : w4.cell? ⟨w.heap.size, 1, none⟩ = some (.int .i64 k) := cell_of_row _ _ _ _ _ _ A4.out; have c2 : w4.cell? ⟨w.heap.size, 2, none⟩ = some (.int .i64 n) := cell_of_row _ _ _ _ _ _ A4.out; have c3 : w4.cell? ⟨w.heap.size, 3, none⟩ = some (.int .i64 d) := cell_of_row _ _ _ _ _ _ A4.out; have c4 : w4.cell? ⟨w.heap.size, 4, none⟩ = some (.int .i64 c) := cell_of_row _ _ _ _ _ _ A4.out; have v0 : w4.cell? ⟨w.heap.size + 1, 0, none⟩ = some (.int .i64 vk) := cell_of_row _ _ _ _ _ _ V4.out; have v1 : w4.cell? ⟨w.heap.size + 1, 1, none⟩ = some (.int .i64 vn) := cell_of_row _ _ _ _ _ _ V4.out)
          | (go_at_call 7; refine (dec_any e HE.out _).mono ?_; rintro r w4 ⟨rfl, hb4⟩; have A4 := Lib.hid (keep hb4 (k := w.heap.size) (o := .cells #[.int .i64 e, .int .i64 k, .int .i64 n, .int .i64 d, .int .i64 c] 24 (0, 0)) (Hid.out (by assumption))); have V4 := Lib.hid (keep hb4 (k := w.heap.size + 1) (o := .cells #[.int .i64 vk, .int .i64 vn] 26 (0, 0)) (Hid.out (by assumption))); have B4 := Lib.hid (below_next (w := w) (Hid.out (by assumption)) hb4); have T4 := Lib.hid (Tab.keep (Hid.out (by assumption)) hb4); clear hb4; have c0 : w4.cell? ⟨w.heap.size, 0, none⟩ = some (.int .i64 e) := cell_of_row _ _ _ _ _ _ A4.out; have c1 : w4.cell? ⟨w.heap.size, 1, none⟩ = some (.int .i64 k) := cell_of_row _ _ _ _ _ _ A4.out; have c2 : w4.cell? ⟨w.heap.size, 2, none⟩ = some (.int .i64 n) := cell_of_row _ _ _ _ _ _ A4.out; have c3 : w4.cell? ⟨w.heap.size, 3, none⟩ = some (.int .i64 d) := cell_of_row _ _ _ _ _ _ A4.out; have c4 : w4.cell? ⟨w.heap.size, 4, none⟩ = some (.int .i64 c) := cell_of_row _ _ _ _ _ _ A4.out; have v0 : w4.cell? ⟨w.heap.size + 1, 0, none⟩ = some (.int .i64 vk) := cell_of_row _ _ _ _ _ _ V4.out; have v1 : w4.cell? ⟨w.heap.size + 1, 1, none⟩ = some (.int .i64 vn) := cell_of_row _ _ _ _ _ _ V4.out)
          | (go_at_call 8; refine (lvalue_any k n HN.out _).mono ?_; rintro r w4 ⟨rfl, hb4⟩; have A4 := Lib.hid (keep hb4 (k := w.heap.size) (o := .cells #[.int .i64 e, .int .i64 k, .int .i64 n, .int .i64 d, .int .i64 c] 24 (0, 0)) (Hid.out (by assumption))); have V4 := Lib.hid (keep hb4 (k := w.heap.size + 1) (o := .cells #[.int .i64 vk, .int .i64 vn] 26 (0, 0)) (Hid.out (by assumption))); have B4 := Lib.hid (below_next (w := w) (Hid.out (by assumption)) hb4); have T4 := Lib.hid (Tab.keep (Hid.out (by assumption)) hb4); clear hb4; have c0 : w4.cell? ⟨w.heap.size, 0, none⟩ = some (.int .i64 e) := cell_of_row _ _ _ _ _ _ A4.out; have c1 : w4.cell? ⟨w.heap.size, 1, none⟩ = some (.int .i64 k) := cell_of_row _ _ _ _ _ _ A4.out; have c2 : w4.cell? ⟨w.heap.size, 2, none⟩ = some (.int .i64 n) := cell_of_row _ _ _ _ _ _ A4.out; have c3 : w4.cell? ⟨w.heap.size, 3, none⟩ = some (.int .i64 d) := cell_of_row _ _ _ _ _ _ A4.out; have c4 : w4.cell? ⟨w.heap.size, 4, none⟩ = some (.int .i64 c) := cell_of_row _ _ _ _ _ _ A4.out; have v0 : w4.cell? ⟨w.heap.size + 1, 0, none⟩ = some (.int .i64 vk) := cell_of_row _ _ _ _ _ _ V4.out; have v1 : w4.cell? ⟨w.heap.size + 1, 1, none⟩ = some (.int .i64 vn) := cell_of_row _ _ _ _ _ _ V4.out))
        go_region_held3 (fun w' => w'.cell? ⟨w.heap.size, 0, none⟩ = some (.int .i64 e) ∧ w'.cell? ⟨w.heap.size, 1, none⟩ = some (.int .i64 k) ∧ w'.cell? ⟨w.heap.size, 2, none⟩ = some (.int .i64 n) ∧ w'.cell? ⟨w.heap.size, 3, none⟩ = some (.int .i64 d) ∧ w'.cell? ⟨w.heap.size, 4, none⟩ = some (.int .i64 c) ∧ w'.cell? ⟨w.heap.size + 1, 0, none⟩ = some (.int .i64 vk) ∧ w'.cell? ⟨w.heap.size + 1, 1, none⟩ = some (.int .i64 vn) ∧ Tab w' ∧ Below w.heap.size w w')
          (first
            | exact ⟨c0, c1, c2, c3, c4, v0, v1, Tab.keep (Hid.out (by assumption)) (Below.refl _ _).drew, Below.drew (Hid.out (by assumption))⟩
            | (go_split_ands; exact ⟨cell_keep hb5 (by assumption), cell_keep hb5 (by assumption), cell_keep hb5 (by assumption), cell_keep hb5 (by assumption), cell_keep hb5 (by assumption), cell_keep hb5 (by assumption), cell_keep hb5 (by assumption), Tab.keep (by assumption) hb5, below_next (by assumption) hb5⟩))
          (first
            | (go_at_call 7; (first
                | ((with_reducible refine (dec_any d HD.out _).mono ?_); rintro r w5 ⟨rfl, hb5⟩)
                | ((with_reducible refine (dec_any c HC.out _).mono ?_); rintro r w5 ⟨rfl, hb5⟩))))
        go_wp2_with fail
        go_region_held3 (fun w' => w'.cell? ⟨w.heap.size, 0, none⟩ = some (.int .i64 e) ∧ w'.cell? ⟨w.heap.size, 1, none⟩ = some (.int .i64 k) ∧ w'.cell? ⟨w.heap.size, 2, none⟩ = some (.int .i64 n) ∧ w'.cell? ⟨w.heap.size, 3, none⟩ = some (.int .i64 d) ∧ w'.cell? ⟨w.heap.size, 4, none⟩ = some (.int .i64 c) ∧ w'.cell? ⟨w.heap.size + 1, 0, none⟩ = some (.int .i64 vk) ∧ w'.cell? ⟨w.heap.size + 1, 1, none⟩ = some (.int .i64 vn) ∧ Tab w' ∧ Below w.heap.size w w')
          (first
            | (go_split_ands; exact ⟨by assumption, by assumption, by assumption, by assumption, by assumption, by assumption, by assumption, Tab.keep (by assumption) (Below.refl _ _).drew, Below.drew (by assumption)⟩)
            | (go_split_ands; exact ⟨cell_keep hb5 (by assumption), cell_keep hb5 (by assumption), cell_keep hb5 (by assumption), cell_keep hb5 (by assumption), cell_keep hb5 (by assumption), cell_keep hb5 (by assumption), cell_keep hb5 (by assumption), Tab.keep (by assumption) hb5, below_next (by assumption) hb5⟩))
          (first
            | (go_split_ands; go_at_call 9; refine (answer_any e k n d c HE.out HN.out HD.out HC.out _ (by assumption)).mono ?_; rintro r w5 ⟨rfl, hb5⟩; rw [hx.out])
            | (go_split_ands; go_at_call 10; refine (value_any vk vn HV.out _ (by assumption)).mono ?_; rintro r w5 ⟨rfl, hb5⟩)
            | (go_at_call 8; refine (lvalue_any vk vn HV.out _).mono ?_; rintro r w5 ⟨rfl, hb5⟩))
        go_wp2_with fail
        go_split_ands
        go_ret
        exact ⟨rfl, by assumption⟩
    · have f1 : (k != 0) = true := by simp [k0]
      have hm : Hid (headText e ++ midText k n = x2) := Lib.hid (by unfold midText; rw [if_neg k0, H2.out, ← H1.out])
      clear k0
      by_cases d0 : d = 0
      · by_cases c0' : c = 0
        · have f2 : (d != 0) = false := by simp [d0]
          have f3 : (c != 0) = false := by simp [c0']
          have hx : Hid (ansText e k n d c = x2) := Lib.hid (by unfold ansText; rw [hm.out, endText, if_pos ⟨d0, c0'⟩, List.append_nil])
          clear d0 c0'
          go_enter Tryd.func3, Tryd.ntmps3
          go_wp2_with (first
            | (go_at_call 6; refine (oalive_any _ (Hid.out (by assumption))).mono ?_; rintro r w4 ⟨rfl, hb4⟩; have A4 := Lib.hid (keep hb4 (k := w.heap.size) (o := .cells #[.int .i64 e, .int .i64 k, .int .i64 n, .int .i64 d, .int .i64 c] 24 (0, 0)) (Hid.out (by assumption))); have V4 := Lib.hid (keep hb4 (k := w.heap.size + 1) (o := .cells #[.int .i64 vk, .int .i64 vn] 26 (0, 0)) (Hid.out (by assumption))); have B4 := Lib.hid (below_next (w := w) (Hid.out (by assumption)) hb4); have T4 := Lib.hid (Tab.keep (Hid.out (by assumption)) hb4); clear hb4; have c0 : w4.cell? ⟨w.heap.size, 0, none⟩ = some (.int .i64 e) := cell_of_row _ _ _ _ _ _ A4.out; have c1 : w4.cell? ⟨w.heap.size, 1, none⟩ = some (.int .i64 k) := cell_of_row _ _ _ _ _ _ A4.out; have c2 : w4.cell? ⟨w.heap.size, 2, none⟩ = some (.int .i64 n) := cell_of_row _ _ _ _ _ _ A4.out; have c3 : w4.cell? ⟨w.heap.size, 3, none⟩ = some (.int .i64 d) := cell_of_row _ _ _ _ _ _ A4.out; have c4 : w4.cell? ⟨w.heap.size, 4, none⟩ = some (.int .i64 c) := cell_of_row _ _ _ _ _ _ A4.out; have v0 : w4.cell? ⟨w.heap.size + 1, 0, none⟩ = some (.int .i64 vk) := cell_of_row _ _ _ _ _ _ V4.out; have v1 : w4.cell? ⟨w.heap.size + 1, 1, none⟩ = some (.int .i64 vn) := cell_of_row _ _ _ _ _ _ V4.out)
            | (go_at_call 7; refine (dec_any e HE.out _).mono ?_; rintro r w4 ⟨rfl, hb4⟩; have A4 := Lib.hid (keep hb4 (k := w.heap.size) (o := .cells #[.int .i64 e, .int .i64 k, .int .i64 n, .int .i64 d, .int .i64 c] 24 (0, 0)) (Hid.out (by assumption))); have V4 := Lib.hid (keep hb4 (k := w.heap.size + 1) (o := .cells #[.int .i64 vk, .int .i64 vn] 26 (0, 0)) (Hid.out (by assumption))); have B4 := Lib.hid (below_next (w := w) (Hid.out (by assumption)) hb4); have T4 := Lib.hid (Tab.keep (Hid.out (by assumption)) hb4); clear hb4; have c0 : w4.cell? ⟨w.heap.size, 0, none⟩ = some (.int .i64 e) := cell_of_row _ _ _ _ _ _ A4.out; have c1 : w4.cell? ⟨w.heap.size, 1, none⟩ = some (.int .i64 k) := cell_of_row _ _ _ _ _ _ A4.out; have c2 : w4.cell? ⟨w.heap.size, 2, none⟩ = some (.int .i64 n) := cell_of_row _ _ _ _ _ _ A4.out; have c3 : w4.cell? ⟨w.heap.size, 3, none⟩ = some (.int .i64 d) := cell_of_row _ _ _ _ _ _ A4.out; have c4 : w4.cell? ⟨w.heap.size, 4, none⟩ = some (.int .i64 c) := cell_of_row _ _ _ _ _ _ A4.out; have v0 : w4.cell? ⟨w.heap.size + 1, 0, none⟩ = some (.int .i64 vk) := cell_of_row _ _ _ _ _ _ V4.out; have v1 : w4.cell? ⟨w.heap.size + 1, 1, none⟩ = some (.int .i64 vn) := cell_of_row _ _ _ _ _ _ V4.out)
            | (go_at_call 8; refine (lvalue_any k n HN.out _).mono ?_; rintro r w4 ⟨rfl, hb4⟩; have A4 := Lib.hid (keep hb4 (k := w.heap.size) (o := .cells #[.int .i64 e, .int .i64 k, .int .i64 n, .int .i64 d, .int .i64 c] 24 (0, 0)) (Hid.out (by assumption))); have V4 := Lib.hid (keep hb4 (k := w.heap.size + 1) (o := .cells #[.int .i64 vk, .int .i64 vn] 26 (0, 0)) (Hid.out (by assumption))); have B4 := Lib.hid (below_next (w := w) (Hid.out (by assumption)) hb4); have T4 := Lib.hid (Tab.keep (Hid.out (by assumption)) hb4); clear hb4; have c0 : w4.cell? ⟨w.heap.size, 0, none⟩ = some (.int .i64 e) := cell_of_row _ _ _ _ _ _ A4.out; have c1 : w4.cell? ⟨w.heap.size, 1, none⟩ = some (.int .i64 k) := cell_of_row _ _ _ _ _ _ A4.out; have c2 : w4.cell? ⟨w.heap.size, 2, none⟩ = some (.int .i64 n) := cell_of_row _ _ _ _ _ _ A4.out; have c3 : w4.cell? ⟨w.heap.size, 3, none⟩ = some (.int .i64 d) := cell_of_row _ _ _ _ _ _ A4.out; have c4 : w4.cell? ⟨w.heap.size, 4, none⟩ = some (.int .i64 c) := cell_of_row _ _ _ _ _ _ A4.out; have v0 : w4.cell? ⟨w.heap.size + 1, 0, none⟩ = some (.int .i64 vk) := cell_of_row _ _ _ _ _ _ V4.out; have v1 : w4.cell? ⟨w.heap.size + 1, 1, none⟩ = some (.int .i64 vn) := cell_of_row _ _ _ _ _ _ V4.out))
          go_region_held3 (fun w' => w'.cell? ⟨w.heap.size, 0, none⟩ = some (.int .i64 e) ∧ w'.cell? ⟨w.heap.size, 1, none⟩ = some (.int .i64 k) ∧ w'.cell? ⟨w.heap.size, 2, none⟩ = some (.int .i64 n) ∧ w'.cell? ⟨w.heap.size, 3, none⟩ = some (.int .i64 d) ∧ w'.cell? ⟨w.heap.size, 4, none⟩ = some (.int .i64 c) ∧ w'.cell? ⟨w.heap.size + 1, 0, none⟩ = some (.int .i64 vk) ∧ w'.cell? ⟨w.heap.size + 1, 1, none⟩ = some (.int .i64 vn) ∧ Tab w' ∧ Below w.heap.size w w')
            (first
              | exact ⟨c0, c1, c2, c3, c4, v0, v1, Tab.keep (Hid.out (by assumption)) (Below.refl _ _).drew, Below.drew (Hid.out (by assumption))⟩
              | (go_split_ands; exact ⟨cell_keep hb5 (by assumption), cell_keep hb5 (by assumption), cell_keep hb5 (by assumption), cell_keep hb5 (by assumption), cell_keep hb5 (by assumption), cell_keep hb5 (by assumption), cell_keep hb5 (by assumption), Tab.keep (by assumption) hb5, below_next (by assumption) hb5⟩))
            (first
              | (go_split_ands; go_at_call 9; refine (answer_any e k n d c HE.out HN.out HD.out HC.out _ (by assumption)).mono ?_; rintro r w5 ⟨rfl, hb5⟩; rw [hx.out])
              | (go_split_ands; go_at_call 10; refine (value_any vk vn HV.out _ (by assumption)).mono ?_; rintro r w5 ⟨rfl, hb5⟩)
              | (go_at_call 8; refine (lvalue_any vk vn HV.out _).mono ?_; rintro r w5 ⟨rfl, hb5⟩))
          go_wp2_with fail
          go_split_ands
          go_ret
          exact ⟨rfl, by assumption⟩
        · have f2 : (d != 0) = false := by simp [d0]
          have f3 : (c != 0) = true := by simp [c0']
          obtain ⟨p1, hp1⟩ : ∃ s, s = x2 ++ [32, 100, 111, 110, 101, 32] := ⟨_, rfl⟩
          obtain ⟨p2, hp2⟩ : ∃ s, s = p1 ++ Lib.itoa d := ⟨_, rfl⟩
          obtain ⟨p3, hp3⟩ : ∃ s, s = p2 ++ [32, 99, 114, 101, 100, 105, 116, 32] := ⟨_, rfl⟩
          obtain ⟨p4, hp4⟩ : ∃ s, s = p3 ++ Lib.itoa c := ⟨_, rfl⟩
          have z0 := size_le (l := x2) (m := 60) (by omega) (by decide)
          have z1 := size_le (l := p1) (m := 70) (by rw [hp1]; simp; omega) (by decide)
          have z2 := size_le (l := p2) (m := 100) (by rw [hp2, hp1]; simp; omega) (by decide)
          have z3 := size_le (l := p3) (m := 120) (by rw [hp3, hp2, hp1]; simp; omega) (by decide)
          have g4 : ¬ 9223372036854775807 < (S x2).size + 6 := by omega
          have g5 : ¬ 9223372036854775807 < (S p1).size + (S (Lib.itoa d)).size := cat_le z1 ld
          have g6 : ¬ 9223372036854775807 < (S p2).size + 8 := by omega
          have g7 : ¬ 9223372036854775807 < (S p3).size + (S (Lib.itoa c)).size := cat_le z3 lc
          have q4 : S x2 ++ (⟨#[32, 100, 111, 110, 101, 32]⟩ : ByteArray) = S p1 := by rw [hp1]; exact S_app _ _
          have q5 : S p1 ++ S (Lib.itoa d) = S p2 := by rw [hp2]; exact S_app _ _
          have q6 : S p2 ++ (⟨#[32, 99, 114, 101, 100, 105, 116, 32]⟩ : ByteArray) = S p3 := by rw [hp3]; exact S_app _ _
          have q7 : S p3 ++ S (Lib.itoa c) = S p4 := by rw [hp4]; exact S_app _ _
          have H4 : Hid (p4 = x2 ++ ([32, 100, 111, 110, 101, 32] ++ Lib.itoa d ++ [32, 99, 114, 101, 100, 105, 116, 32] ++ Lib.itoa c)) := Lib.hid (by rw [hp4, hp3, hp2, hp1]; simp)
          clear hp1 hp2 hp3 hp4 z0 z1 z2 z3 ld lc m3 m4 n1 n3
          have hx : Hid (ansText e k n d c = p4) := Lib.hid (by unfold ansText; rw [hm.out, endText, if_neg (fun h => c0' h.2), H4.out])
          clear d0 c0'
          have b4 : ∀ wx, (binOp .add 9 (.string (S x2)) (.string (⟨#[32, 100, 111, 110, 101, 32]⟩ : ByteArray))).run Tryd.prog wx = .ok (.string (S p1)) wx := fun wx => by go_simp
          have b5 : ∀ wx, (binOp .add 9 (.string (S p1)) (.string (S (Lib.itoa d)))).run Tryd.prog wx = .ok (.string (S p2)) wx := fun wx => by go_simp
          have b6 : ∀ wx, (binOp .add 9 (.string (S p2)) (.string (⟨#[32, 99, 114, 101, 100, 105, 116, 32]⟩ : ByteArray))).run Tryd.prog wx = .ok (.string (S p3)) wx := fun wx => by go_simp
          have b7 : ∀ wx, (binOp .add 9 (.string (S p3)) (.string (S (Lib.itoa c)))).run Tryd.prog wx = .ok (.string (S p4)) wx := fun wx => by go_simp
          go_enter Tryd.func3, Tryd.ntmps3
          go_wp2_with (first
            | (go_at_call 6; refine (oalive_any _ (Hid.out (by assumption))).mono ?_; rintro r w4 ⟨rfl, hb4⟩; have A4 := Lib.hid (keep hb4 (k := w.heap.size) (o := .cells #[.int .i64 e, .int .i64 k, .int .i64 n, .int .i64 d, .int .i64 c] 24 (0, 0)) (Hid.out (by assumption))); have V4 := Lib.hid (keep hb4 (k := w.heap.size + 1) (o := .cells #[.int .i64 vk, .int .i64 vn] 26 (0, 0)) (Hid.out (by assumption))); have B4 := Lib.hid (below_next (w := w) (Hid.out (by assumption)) hb4); have T4 := Lib.hid (Tab.keep (Hid.out (by assumption)) hb4); clear hb4; have c0 : w4.cell? ⟨w.heap.size, 0, none⟩ = some (.int .i64 e) := cell_of_row _ _ _ _ _ _ A4.out; have c1 : w4.cell? ⟨w.heap.size, 1, none⟩ = some (.int .i64 k) := cell_of_row _ _ _ _ _ _ A4.out; have c2 : w4.cell? ⟨w.heap.size, 2, none⟩ = some (.int .i64 n) := cell_of_row _ _ _ _ _ _ A4.out; have c3 : w4.cell? ⟨w.heap.size, 3, none⟩ = some (.int .i64 d) := cell_of_row _ _ _ _ _ _ A4.out; have c4 : w4.cell? ⟨w.heap.size, 4, none⟩ = some (.int .i64 c) := cell_of_row _ _ _ _ _ _ A4.out; have v0 : w4.cell? ⟨w.heap.size + 1, 0, none⟩ = some (.int .i64 vk) := cell_of_row _ _ _ _ _ _ V4.out; have v1 : w4.cell? ⟨w.heap.size + 1, 1, none⟩ = some (.int .i64 vn) := cell_of_row _ _ _ _ _ _ V4.out)
            | (go_at_call 7; refine (dec_any e HE.out _).mono ?_; rintro r w4 ⟨rfl, hb4⟩; have A4 := Lib.hid (keep hb4 (k := w.heap.size) (o := .cells #[.int .i64 e, .int .i64 k, .int .i64 n, .int .i64 d, .int .i64 c] 24 (0, 0)) (Hid.out (by assumption))); have V4 := Lib.hid (keep hb4 (k := w.heap.size + 1) (o := .cells #[.int .i64 vk, .int .i64 vn] 26 (0, 0)) (Hid.out (by assumption))); have B4 := Lib.hid (below_next (w := w) (Hid.out (by assumption)) hb4); have T4 := Lib.hid (Tab.keep (Hid.out (by assumption)) hb4); clear hb4; have c0 : w4.cell? ⟨w.heap.size, 0, none⟩ = some (.int .i64 e) := cell_of_row _ _ _ _ _ _ A4.out; have c1 : w4.cell? ⟨w.heap.size, 1, none⟩ = some (.int .i64 k) := cell_of_row _ _ _ _ _ _ A4.out; have c2 : w4.cell? ⟨w.heap.size, 2, none⟩ = some (.int .i64 n) := cell_of_row _ _ _ _ _ _ A4.out; have c3 : w4.cell? ⟨w.heap.size, 3, none⟩ = some (.int .i64 d) := cell_of_row _ _ _ _ _ _ A4.out; have c4 : w4.cell? ⟨w.heap.size, 4, none⟩ = some (.int .i64 c) := cell_of_row _ _ _ _ _ _ A4.out; have v0 : w4.cell? ⟨w.heap.size + 1, 0, none⟩ = some (.int .i64 vk) := cell_of_row _ _ _ _ _ _ V4.out; have v1 : w4.cell? ⟨w.heap.size + 1, 1, none⟩ = some (.int .i64 vn) := cell_of_row _ _ _ _ _ _ V4.out)
            | (go_at_call 8; refine (lvalue_any k n HN.out _).mono ?_; rintro r w4 ⟨rfl, hb4⟩; have A4 := Lib.hid (keep hb4 (k := w.heap.size) (o := .cells #[.int .i64 e, .int .i64 k, .int .i64 n, .int .i64 d, .int .i64 c] 24 (0, 0)) (Hid.out (by assumption))); have V4 := Lib.hid (keep hb4 (k := w.heap.size + 1) (o := .cells #[.int .i64 vk, .int .i64 vn] 26 (0, 0)) (Hid.out (by assumption))); have B4 := Lib.hid (below_next (w := w) (Hid.out (by assumption)) hb4); have T4 := Lib.hid (Tab.keep (Hid.out (by assumption)) hb4); clear hb4; have c0 : w4.cell? ⟨w.heap.size, 0, none⟩ = some (.int .i64 e) := cell_of_row _ _ _ _ _ _ A4.out; have c1 : w4.cell? ⟨w.heap.size, 1, none⟩ = some (.int .i64 k) := cell_of_row _ _ _ _ _ _ A4.out; have c2 : w4.cell? ⟨w.heap.size, 2, none⟩ = some (.int .i64 n) := cell_of_row _ _ _ _ _ _ A4.out; have c3 : w4.cell? ⟨w.heap.size, 3, none⟩ = some (.int .i64 d) := cell_of_row _ _ _ _ _ _ A4.out; have c4 : w4.cell? ⟨w.heap.size, 4, none⟩ = some (.int .i64 c) := cell_of_row _ _ _ _ _ _ A4.out; have v0 : w4.cell? ⟨w.heap.size + 1, 0, none⟩ = some (.int .i64 vk) := cell_of_row _ _ _ _ _ _ V4.out; have v1 : w4.cell? ⟨w.heap.size + 1, 1, none⟩ = some (.int .i64 vn) := cell_of_row _ _ _ _ _ _ V4.out))
          go_region_held3 (fun w' => w'.cell? ⟨w.heap.size, 0, none⟩ = some (.int .i64 e) ∧ w'.cell? ⟨w.heap.size, 1, none⟩ = some (.int .i64 k) ∧ w'.cell? ⟨w.heap.size, 2, none⟩ = some (.int .i64 n) ∧ w'.cell? ⟨w.heap.size, 3, none⟩ = some (.int .i64 d) ∧ w'.cell? ⟨w.heap.size, 4, none⟩ = some (.int .i64 c) ∧ w'.cell? ⟨w.heap.size + 1, 0, none⟩ = some (.int .i64 vk) ∧ w'.cell? ⟨w.heap.size + 1, 1, none⟩ = some (.int .i64 vn) ∧ Tab w' ∧ Below w.heap.size w w')
            (first
              | exact ⟨c0, c1, c2, c3, c4, v0, v1, Tab.keep (Hid.out (by assumption)) (Below.refl _ _).drew, Below.drew (Hid.out (by assumption))⟩
              | (go_split_ands; exact ⟨cell_keep hb5 (by assumption), cell_keep hb5 (by assumption), cell_keep hb5 (by assumption), cell_keep hb5 (by assumption), cell_keep hb5 (by assumption), cell_keep hb5 (by assumption), cell_keep hb5 (by assumption), Tab.keep (by assumption) hb5, below_next (by assumption) hb5⟩))
            (first
              | (go_at_call 7; (first
                  | ((with_reducible refine (dec_any d HD.out _).mono ?_); rintro r w5 ⟨rfl, hb5⟩)
                  | ((with_reducible refine (dec_any c HC.out _).mono ?_); rintro r w5 ⟨rfl, hb5⟩))))
          go_wp2_with fail
          go_region_held3 (fun w' => w'.cell? ⟨w.heap.size, 0, none⟩ = some (.int .i64 e) ∧ w'.cell? ⟨w.heap.size, 1, none⟩ = some (.int .i64 k) ∧ w'.cell? ⟨w.heap.size, 2, none⟩ = some (.int .i64 n) ∧ w'.cell? ⟨w.heap.size, 3, none⟩ = some (.int .i64 d) ∧ w'.cell? ⟨w.heap.size, 4, none⟩ = some (.int .i64 c) ∧ w'.cell? ⟨w.heap.size + 1, 0, none⟩ = some (.int .i64 vk) ∧ w'.cell? ⟨w.heap.size + 1, 1, none⟩ = some (.int .i64 vn) ∧ Tab w' ∧ Below w.heap.size w w')
            (first
              | (go_split_ands; exact ⟨by assumption, by assumption, by assumption, by assumption, by assumption, by assumption, by assumption, Tab.keep (by assumption) (Below.refl _ _).drew, Below.drew (by assumption)⟩)
              | (go_split_ands; exact ⟨cell_keep hb5 (by assumption), cell_keep hb5 (by assumption), cell_keep hb5 (by assumption), cell_keep hb5 (by assumption), cell_keep hb5 (by assumption), cell_keep hb5 (by assumption), cell_keep hb5 (by assumption), Tab.keep (by assumption) hb5, below_next (by assumption) hb5⟩))
            (first
              | (go_split_ands; go_at_call 9; refine (answer_any e k n d c HE.out HN.out HD.out HC.out _ (by assumption)).mono ?_; rintro r w5 ⟨rfl, hb5⟩; rw [hx.out])
              | (go_split_ands; go_at_call 10; refine (value_any vk vn HV.out _ (by assumption)).mono ?_; rintro r w5 ⟨rfl, hb5⟩)
              | (go_at_call 8; refine (lvalue_any vk vn HV.out _).mono ?_; rintro r w5 ⟨rfl, hb5⟩))
          go_wp2_with fail
          go_split_ands
          go_ret
          exact ⟨rfl, by assumption⟩
      · have f2 : (d != 0) = true := by simp [d0]
        obtain ⟨p1, hp1⟩ : ∃ s, s = x2 ++ [32, 100, 111, 110, 101, 32] := ⟨_, rfl⟩
        obtain ⟨p2, hp2⟩ : ∃ s, s = p1 ++ Lib.itoa d := ⟨_, rfl⟩
        obtain ⟨p3, hp3⟩ : ∃ s, s = p2 ++ [32, 99, 114, 101, 100, 105, 116, 32] := ⟨_, rfl⟩
        obtain ⟨p4, hp4⟩ : ∃ s, s = p3 ++ Lib.itoa c := ⟨_, rfl⟩
        have z0 := size_le (l := x2) (m := 60) (by omega) (by decide)
        have z1 := size_le (l := p1) (m := 70) (by rw [hp1]; simp; omega) (by decide)
        have z2 := size_le (l := p2) (m := 100) (by rw [hp2, hp1]; simp; omega) (by decide)
        have z3 := size_le (l := p3) (m := 120) (by rw [hp3, hp2, hp1]; simp; omega) (by decide)
        have g4 : ¬ 9223372036854775807 < (S x2).size + 6 := by omega
        have g5 : ¬ 9223372036854775807 < (S p1).size + (S (Lib.itoa d)).size := cat_le z1 ld
        have g6 : ¬ 9223372036854775807 < (S p2).size + 8 := by omega
        have g7 : ¬ 9223372036854775807 < (S p3).size + (S (Lib.itoa c)).size := cat_le z3 lc
        have q4 : S x2 ++ (⟨#[32, 100, 111, 110, 101, 32]⟩ : ByteArray) = S p1 := by rw [hp1]; exact S_app _ _
        have q5 : S p1 ++ S (Lib.itoa d) = S p2 := by rw [hp2]; exact S_app _ _
        have q6 : S p2 ++ (⟨#[32, 99, 114, 101, 100, 105, 116, 32]⟩ : ByteArray) = S p3 := by rw [hp3]; exact S_app _ _
        have q7 : S p3 ++ S (Lib.itoa c) = S p4 := by rw [hp4]; exact S_app _ _
        have H4 : Hid (p4 = x2 ++ ([32, 100, 111, 110, 101, 32] ++ Lib.itoa d ++ [32, 99, 114, 101, 100, 105, 116, 32] ++ Lib.itoa c)) := Lib.hid (by rw [hp4, hp3, hp2, hp1]; simp)
        clear hp1 hp2 hp3 hp4 z0 z1 z2 z3 ld lc m3 m4 n1 n3
        have hx : Hid (ansText e k n d c = p4) := Lib.hid (by unfold ansText; rw [hm.out, endText, if_neg (fun h => d0 h.1), H4.out])
        clear d0
        have b4 : ∀ wx, (binOp .add 9 (.string (S x2)) (.string (⟨#[32, 100, 111, 110, 101, 32]⟩ : ByteArray))).run Tryd.prog wx = .ok (.string (S p1)) wx := fun wx => by go_simp
        have b5 : ∀ wx, (binOp .add 9 (.string (S p1)) (.string (S (Lib.itoa d)))).run Tryd.prog wx = .ok (.string (S p2)) wx := fun wx => by go_simp
        have b6 : ∀ wx, (binOp .add 9 (.string (S p2)) (.string (⟨#[32, 99, 114, 101, 100, 105, 116, 32]⟩ : ByteArray))).run Tryd.prog wx = .ok (.string (S p3)) wx := fun wx => by go_simp
        have b7 : ∀ wx, (binOp .add 9 (.string (S p3)) (.string (S (Lib.itoa c)))).run Tryd.prog wx = .ok (.string (S p4)) wx := fun wx => by go_simp
        go_enter Tryd.func3, Tryd.ntmps3
        go_wp2_with (first
          | (go_at_call 6; refine (oalive_any _ (Hid.out (by assumption))).mono ?_; rintro r w4 ⟨rfl, hb4⟩; have A4 := Lib.hid (keep hb4 (k := w.heap.size) (o := .cells #[.int .i64 e, .int .i64 k, .int .i64 n, .int .i64 d, .int .i64 c] 24 (0, 0)) (Hid.out (by assumption))); have V4 := Lib.hid (keep hb4 (k := w.heap.size + 1) (o := .cells #[.int .i64 vk, .int .i64 vn] 26 (0, 0)) (Hid.out (by assumption))); have B4 := Lib.hid (below_next (w := w) (Hid.out (by assumption)) hb4); have T4 := Lib.hid (Tab.keep (Hid.out (by assumption)) hb4); clear hb4; have c0 : w4.cell? ⟨w.heap.size, 0, none⟩ = some (.int .i64 e) := cell_of_row _ _ _ _ _ _ A4.out; have c1 : w4.cell? ⟨w.heap.size, 1, none⟩ = some (.int .i64 k) := cell_of_row _ _ _ _ _ _ A4.out; have c2 : w4.cell? ⟨w.heap.size, 2, none⟩ = some (.int .i64 n) := cell_of_row _ _ _ _ _ _ A4.out; have c3 : w4.cell? ⟨w.heap.size, 3, none⟩ = some (.int .i64 d) := cell_of_row _ _ _ _ _ _ A4.out; have c4 : w4.cell? ⟨w.heap.size, 4, none⟩ = some (.int .i64 c) := cell_of_row _ _ _ _ _ _ A4.out; have v0 : w4.cell? ⟨w.heap.size + 1, 0, none⟩ = some (.int .i64 vk) := cell_of_row _ _ _ _ _ _ V4.out; have v1 : w4.cell? ⟨w.heap.size + 1, 1, none⟩ = some (.int .i64 vn) := cell_of_row _ _ _ _ _ _ V4.out)
          | (go_at_call 7; refine (dec_any e HE.out _).mono ?_; rintro r w4 ⟨rfl, hb4⟩; have A4 := Lib.hid (keep hb4 (k := w.heap.size) (o := .cells #[.int .i64 e, .int .i64 k, .int .i64 n, .int .i64 d, .int .i64 c] 24 (0, 0)) (Hid.out (by assumption))); have V4 := Lib.hid (keep hb4 (k := w.heap.size + 1) (o := .cells #[.int .i64 vk, .int .i64 vn] 26 (0, 0)) (Hid.out (by assumption))); have B4 := Lib.hid (below_next (w := w) (Hid.out (by assumption)) hb4); have T4 := Lib.hid (Tab.keep (Hid.out (by assumption)) hb4); clear hb4; have c0 : w4.cell? ⟨w.heap.size, 0, none⟩ = some (.int .i64 e) := cell_of_row _ _ _ _ _ _ A4.out; have c1 : w4.cell? ⟨w.heap.size, 1, none⟩ = some (.int .i64 k) := cell_of_row _ _ _ _ _ _ A4.out; have c2 : w4.cell? ⟨w.heap.size, 2, none⟩ = some (.int .i64 n) := cell_of_row _ _ _ _ _ _ A4.out; have c3 : w4.cell? ⟨w.heap.size, 3, none⟩ = some (.int .i64 d) := cell_of_row _ _ _ _ _ _ A4.out; have c4 : w4.cell? ⟨w.heap.size, 4, none⟩ = some (.int .i64 c) := cell_of_row _ _ _ _ _ _ A4.out; have v0 : w4.cell? ⟨w.heap.size + 1, 0, none⟩ = some (.int .i64 vk) := cell_of_row _ _ _ _ _ _ V4.out; have v1 : w4.cell? ⟨w.heap.size + 1, 1, none⟩ = some (.int .i64 vn) := cell_of_row _ _ _ _ _ _ V4.out)
          | (go_at_call 8; refine (lvalue_any k n HN.out _).mono ?_; rintro r w4 ⟨rfl, hb4⟩; have A4 := Lib.hid (keep hb4 (k := w.heap.size) (o := .cells #[.int .i64 e, .int .i64 k, .int .i64 n, .int .i64 d, .int .i64 c] 24 (0, 0)) (Hid.out (by assumption))); have V4 := Lib.hid (keep hb4 (k := w.heap.size + 1) (o := .cells #[.int .i64 vk, .int .i64 vn] 26 (0, 0)) (Hid.out (by assumption))); have B4 := Lib.hid (below_next (w := w) (Hid.out (by assumption)) hb4); have T4 := Lib.hid (Tab.keep (Hid.out (by assumption)) hb4); clear hb4; have c0 : w4.cell? ⟨w.heap.size, 0, none⟩ = some (.int .i64 e) := cell_of_row _ _ _ _ _ _ A4.out; have c1 : w4.cell? ⟨w.heap.size, 1, none⟩ = some (.int .i64 k) := cell_of_row _ _ _ _ _ _ A4.out; have c2 : w4.cell? ⟨w.heap.size, 2, none⟩ = some (.int .i64 n) := cell_of_row _ _ _ _ _ _ A4.out; have c3 : w4.cell? ⟨w.heap.size, 3, none⟩ = some (.int .i64 d) := cell_of_row _ _ _ _ _ _ A4.out; have c4 : w4.cell? ⟨w.heap.size, 4, none⟩ = some (.int .i64 c) := cell_of_row _ _ _ _ _ _ A4.out; have v0 : w4.cell? ⟨w.heap.size + 1, 0, none⟩ = some (.int .i64 vk) := cell_of_row _ _ _ _ _ _ V4.out; have v1 : w4.cell? ⟨w.heap.size + 1, 1, none⟩ = some (.int .i64 vn) := cell_of_row _ _ _ _ _ _ V4.out))
        go_region_held3 (fun w' => w'.cell? ⟨w.heap.size, 0, none⟩ = some (.int .i64 e) ∧ w'.cell? ⟨w.heap.size, 1, none⟩ = some (.int .i64 k) ∧ w'.cell? ⟨w.heap.size, 2, none⟩ = some (.int .i64 n) ∧ w'.cell? ⟨w.heap.size, 3, none⟩ = some (.int .i64 d) ∧ w'.cell? ⟨w.heap.size, 4, none⟩ = some (.int .i64 c) ∧ w'.cell? ⟨w.heap.size + 1, 0, none⟩ = some (.int .i64 vk) ∧ w'.cell? ⟨w.heap.size + 1, 1, none⟩ = some (.int .i64 vn) ∧ Tab w' ∧ Below w.heap.size w w')
          (first
            | exact ⟨c0, c1, c2, c3, c4, v0, v1, Tab.keep (Hid.out (by assumption)) (Below.refl _ _).drew, Below.drew (Hid.out (by assumption))⟩
            | (go_split_ands; exact ⟨cell_keep hb5 (by assumption), cell_keep hb5 (by assumption), cell_keep hb5 (by assumption), cell_keep hb5 (by assumption), cell_keep hb5 (by assumption), cell_keep hb5 (by assumption), cell_keep hb5 (by assumption), Tab.keep (by assumption) hb5, below_next (by assumption) hb5⟩))
          (first
            | (go_at_call 7; (first
                | ((with_reducible refine (dec_any d HD.out _).mono ?_); rintro r w5 ⟨rfl, hb5⟩)
                | ((with_reducible refine (dec_any c HC.out _).mono ?_); rintro r w5 ⟨rfl, hb5⟩))))
        go_wp2_with fail
        go_region_held3 (fun w' => w'.cell? ⟨w.heap.size, 0, none⟩ = some (.int .i64 e) ∧ w'.cell? ⟨w.heap.size, 1, none⟩ = some (.int .i64 k) ∧ w'.cell? ⟨w.heap.size, 2, none⟩ = some (.int .i64 n) ∧ w'.cell? ⟨w.heap.size, 3, none⟩ = some (.int .i64 d) ∧ w'.cell? ⟨w.heap.size, 4, none⟩ = some (.int .i64 c) ∧ w'.cell? ⟨w.heap.size + 1, 0, none⟩ = some (.int .i64 vk) ∧ w'.cell? ⟨w.heap.size + 1, 1, none⟩ = some (.int .i64 vn) ∧ Tab w' ∧ Below w.heap.size w w')
          (first
            | (go_split_ands; exact ⟨by assumption, by assumption, by assumption, by assumption, by assumption, by assumption, by assumption, Tab.keep (by assumption) (Below.refl _ _).drew, Below.drew (by assumption)⟩)
            | (go_split_ands; exact ⟨cell_keep hb5 (by assumption), cell_keep hb5 (by assumption), cell_keep hb5 (by assumption), cell_keep hb5 (by assumption), cell_keep hb5 (by assumption), cell_keep hb5 (by assumption), cell_keep hb5 (by assumption), Tab.keep (by assumption) hb5, below_next (by assumption) hb5⟩))
          (first
            | (go_split_ands; go_at_call 9; refine (answer_any e k n d c HE.out HN.out HD.out HC.out _ (by assumption)).mono ?_; rintro r w5 ⟨rfl, hb5⟩; rw [hx.out])
            | (go_split_ands; go_at_call 10; refine (value_any vk vn HV.out _ (by assumption)).mono ?_; rintro r w5 ⟨rfl, hb5⟩)
            | (go_at_call 8; refine (lvalue_any vk vn HV.out _).mono ?_; rintro r w5 ⟨rfl, hb5⟩))
        go_wp2_with fail
        go_split_ands
        go_ret
        exact ⟨rfl, by assumption⟩
  · have f0 : (e != 0) = true := by simp [e0]
    have q1 : (⟨#[101, 114, 114, 111, 114, 32]⟩ : ByteArray) ++ S (Lib.itoa e) = S s1 := by rw [H1.out, headText, if_neg e0]; exact S_app _ _
    clear e0
    by_cases k0 : k = 0
    · have f1 : (k != 0) = false := by simp [k0]
      have hm : Hid (headText e ++ midText k n = s1) := Lib.hid (by unfold midText; rw [if_pos k0, ← H1.out, List.append_nil])
      clear k0
      by_cases d0 : d = 0
      · by_cases c0' : c = 0
        · have f2 : (d != 0) = false := by simp [d0]
          have f3 : (c != 0) = false := by simp [c0']
          have hx : Hid (ansText e k n d c = s1) := Lib.hid (by unfold ansText; rw [hm.out, endText, if_pos ⟨d0, c0'⟩, List.append_nil])
          clear d0 c0'
          go_enter Tryd.func3, Tryd.ntmps3
          go_wp2_with (first
            | (go_at_call 6; refine (oalive_any _ (Hid.out (by assumption))).mono ?_; rintro r w4 ⟨rfl, hb4⟩; have A4 := Lib.hid (keep hb4 (k := w.heap.size) (o := .cells #[.int .i64 e, .int .i64 k, .int .i64 n, .int .i64 d, .int .i64 c] 24 (0, 0)) (Hid.out (by assumption))); have V4 := Lib.hid (keep hb4 (k := w.heap.size + 1) (o := .cells #[.int .i64 vk, .int .i64 vn] 26 (0, 0)) (Hid.out (by assumption))); have B4 := Lib.hid (below_next (w := w) (Hid.out (by assumption)) hb4); have T4 := Lib.hid (Tab.keep (Hid.out (by assumption)) hb4); clear hb4; have c0 : w4.cell? ⟨w.heap.size, 0, none⟩ = some (.int .i64 e) := cell_of_row _ _ _ _ _ _ A4.out; have c1 : w4.cell? ⟨w.heap.size, 1, none⟩ = some (.int .i64 k) := cell_of_row _ _ _ _ _ _ A4.out; have c2 : w4.cell? ⟨w.heap.size, 2, none⟩ = some (.int .i64 n) := cell_of_row _ _ _ _ _ _ A4.out; have c3 : w4.cell? ⟨w.heap.size, 3, none⟩ = some (.int .i64 d) := cell_of_row _ _ _ _ _ _ A4.out; have c4 : w4.cell? ⟨w.heap.size, 4, none⟩ = some (.int .i64 c) := cell_of_row _ _ _ _ _ _ A4.out; have v0 : w4.cell? ⟨w.heap.size + 1, 0, none⟩ = some (.int .i64 vk) := cell_of_row _ _ _ _ _ _ V4.out; have v1 : w4.cell? ⟨w.heap.size + 1, 1, none⟩ = some (.int .i64 vn) := cell_of_row _ _ _ _ _ _ V4.out)
            | (go_at_call 7; refine (dec_any e HE.out _).mono ?_; rintro r w4 ⟨rfl, hb4⟩; have A4 := Lib.hid (keep hb4 (k := w.heap.size) (o := .cells #[.int .i64 e, .int .i64 k, .int .i64 n, .int .i64 d, .int .i64 c] 24 (0, 0)) (Hid.out (by assumption))); have V4 := Lib.hid (keep hb4 (k := w.heap.size + 1) (o := .cells #[.int .i64 vk, .int .i64 vn] 26 (0, 0)) (Hid.out (by assumption))); have B4 := Lib.hid (below_next (w := w) (Hid.out (by assumption)) hb4); have T4 := Lib.hid (Tab.keep (Hid.out (by assumption)) hb4); clear hb4; have c0 : w4.cell? ⟨w.heap.size, 0, none⟩ = some (.int .i64 e) := cell_of_row _ _ _ _ _ _ A4.out; have c1 : w4.cell? ⟨w.heap.size, 1, none⟩ = some (.int .i64 k) := cell_of_row _ _ _ _ _ _ A4.out; have c2 : w4.cell? ⟨w.heap.size, 2, none⟩ = some (.int .i64 n) := cell_of_row _ _ _ _ _ _ A4.out; have c3 : w4.cell? ⟨w.heap.size, 3, none⟩ = some (.int .i64 d) := cell_of_row _ _ _ _ _ _ A4.out; have c4 : w4.cell? ⟨w.heap.size, 4, none⟩ = some (.int .i64 c) := cell_of_row _ _ _ _ _ _ A4.out; have v0 : w4.cell? ⟨w.heap.size + 1, 0, none⟩ = some (.int .i64 vk) := cell_of_row _ _ _ _ _ _ V4.out; have v1 : w4.cell? ⟨w.heap.size + 1, 1, none⟩ = some (.int .i64 vn) := cell_of_row _ _ _ _ _ _ V4.out)
            | (go_at_call 8; refine (lvalue_any k n HN.out _).mono ?_; rintro r w4 ⟨rfl, hb4⟩; have A4 := Lib.hid (keep hb4 (k := w.heap.size) (o := .cells #[.int .i64 e, .int .i64 k, .int .i64 n, .int .i64 d, .int .i64 c] 24 (0, 0)) (Hid.out (by assumption))); have V4 := Lib.hid (keep hb4 (k := w.heap.size + 1) (o := .cells #[.int .i64 vk, .int .i64 vn] 26 (0, 0)) (Hid.out (by assumption))); have B4 := Lib.hid (below_next (w := w) (Hid.out (by assumption)) hb4); have T4 := Lib.hid (Tab.keep (Hid.out (by assumption)) hb4); clear hb4; have c0 : w4.cell? ⟨w.heap.size, 0, none⟩ = some (.int .i64 e) := cell_of_row _ _ _ _ _ _ A4.out; have c1 : w4.cell? ⟨w.heap.size, 1, none⟩ = some (.int .i64 k) := cell_of_row _ _ _ _ _ _ A4.out; have c2 : w4.cell? ⟨w.heap.size, 2, none⟩ = some (.int .i64 n) := cell_of_row _ _ _ _ _ _ A4.out; have c3 : w4.cell? ⟨w.heap.size, 3, none⟩ = some (.int .i64 d) := cell_of_row _ _ _ _ _ _ A4.out; have c4 : w4.cell? ⟨w.heap.size, 4, none⟩ = some (.int .i64 c) := cell_of_row _ _ _ _ _ _ A4.out; have v0 : w4.cell? ⟨w.heap.size + 1, 0, none⟩ = some (.int .i64 vk) := cell_of_row _ _ _ _ _ _ V4.out; have v1 : w4.cell? ⟨w.heap.size + 1, 1, none⟩ = some (.int .i64 vn) := cell_of_row _ _ _ _ _ _ V4.out))
          go_region_held3 (fun w' => w'.cell? ⟨w.heap.size, 0, none⟩ = some (.int .i64 e) ∧ w'.cell? ⟨w.heap.size, 1, none⟩ = some (.int .i64 k) ∧ w'.cell? ⟨w.heap.size, 2, none⟩ = some (.int .i64 n) ∧ w'.cell? ⟨w.heap.size, 3, none⟩ = some (.int .i64 d) ∧ w'.cell? ⟨w.heap.size, 4, none⟩ = some (.int .i64 c) ∧ w'.cell? ⟨w.heap.size + 1, 0, none⟩ = some (.int .i64 vk) ∧ w'.cell? ⟨w.heap.size + 1, 1, none⟩ = some (.int .i64 vn) ∧ Tab w' ∧ Below w.heap.size w w')
            (first
              | exact ⟨c0, c1, c2, c3, c4, v0, v1, Tab.keep (Hid.out (by assumption)) (Below.refl _ _).drew, Below.drew (Hid.out (by assumption))⟩
              | (go_split_ands; exact ⟨cell_keep hb5 (by assumption), cell_keep hb5 (by assumption), cell_keep hb5 (by assumption), cell_keep hb5 (by assumption), cell_keep hb5 (by assumption), cell_keep hb5 (by assumption), cell_keep hb5 (by assumption), Tab.keep (by assumption) hb5, below_next (by assumption) hb5⟩))
            (first
              | (go_split_ands; go_at_call 9; refine (answer_any e k n d c HE.out HN.out HD.out HC.out _ (by assumption)).mono ?_; rintro r w5 ⟨rfl, hb5⟩; rw [hx.out])
              | (go_split_ands; go_at_call 10; refine (value_any vk vn HV.out _ (by assumption)).mono ?_; rintro r w5 ⟨rfl, hb5⟩)
              | (go_at_call 8; refine (lvalue_any vk vn HV.out _).mono ?_; rintro r w5 ⟨rfl, hb5⟩))
          go_wp2_with fail
          go_split_ands
          go_ret
          exact ⟨rfl, by assumption⟩
        · have f2 : (d != 0) = false := by simp [d0]
          have f3 : (c != 0) = true := by simp [c0']
          obtain ⟨p1, hp1⟩ : ∃ s, s = s1 ++ [32, 100, 111, 110, 101, 32] := ⟨_, rfl⟩
          obtain ⟨p2, hp2⟩ : ∃ s, s = p1 ++ Lib.itoa d := ⟨_, rfl⟩
          obtain ⟨p3, hp3⟩ : ∃ s, s = p2 ++ [32, 99, 114, 101, 100, 105, 116, 32] := ⟨_, rfl⟩
          obtain ⟨p4, hp4⟩ : ∃ s, s = p3 ++ Lib.itoa c := ⟨_, rfl⟩
          have z0 := size_le (l := s1) (m := 60) (by omega) (by decide)
          have z1 := size_le (l := p1) (m := 70) (by rw [hp1]; simp; omega) (by decide)
          have z2 := size_le (l := p2) (m := 100) (by rw [hp2, hp1]; simp; omega) (by decide)
          have z3 := size_le (l := p3) (m := 120) (by rw [hp3, hp2, hp1]; simp; omega) (by decide)
          have g4 : ¬ 9223372036854775807 < (S s1).size + 6 := by omega
          have g5 : ¬ 9223372036854775807 < (S p1).size + (S (Lib.itoa d)).size := cat_le z1 ld
          have g6 : ¬ 9223372036854775807 < (S p2).size + 8 := by omega
          have g7 : ¬ 9223372036854775807 < (S p3).size + (S (Lib.itoa c)).size := cat_le z3 lc
          have q4 : S s1 ++ (⟨#[32, 100, 111, 110, 101, 32]⟩ : ByteArray) = S p1 := by rw [hp1]; exact S_app _ _
          have q5 : S p1 ++ S (Lib.itoa d) = S p2 := by rw [hp2]; exact S_app _ _
          have q6 : S p2 ++ (⟨#[32, 99, 114, 101, 100, 105, 116, 32]⟩ : ByteArray) = S p3 := by rw [hp3]; exact S_app _ _
          have q7 : S p3 ++ S (Lib.itoa c) = S p4 := by rw [hp4]; exact S_app _ _
          have H4 : Hid (p4 = s1 ++ ([32, 100, 111, 110, 101, 32] ++ Lib.itoa d ++ [32, 99, 114, 101, 100, 105, 116, 32] ++ Lib.itoa c)) := Lib.hid (by rw [hp4, hp3, hp2, hp1]; simp)
          clear hp1 hp2 hp3 hp4 z0 z1 z2 z3 ld lc m3 m4 n1 n3
          have hx : Hid (ansText e k n d c = p4) := Lib.hid (by unfold ansText; rw [hm.out, endText, if_neg (fun h => c0' h.2), H4.out])
          clear d0 c0'
          have b4 : ∀ wx, (binOp .add 9 (.string (S s1)) (.string (⟨#[32, 100, 111, 110, 101, 32]⟩ : ByteArray))).run Tryd.prog wx = .ok (.string (S p1)) wx := fun wx => by go_simp
          have b5 : ∀ wx, (binOp .add 9 (.string (S p1)) (.string (S (Lib.itoa d)))).run Tryd.prog wx = .ok (.string (S p2)) wx := fun wx => by go_simp
          have b6 : ∀ wx, (binOp .add 9 (.string (S p2)) (.string (⟨#[32, 99, 114, 101, 100, 105, 116, 32]⟩ : ByteArray))).run Tryd.prog wx = .ok (.string (S p3)) wx := fun wx => by go_simp
          have b7 : ∀ wx, (binOp .add 9 (.string (S p3)) (.string (S (Lib.itoa c)))).run Tryd.prog wx = .ok (.string (S p4)) wx := fun wx => by go_simp
          go_enter Tryd.func3, Tryd.ntmps3
          go_wp2_with (first
            | (go_at_call 6; refine (oalive_any _ (Hid.out (by assumption))).mono ?_; rintro r w4 ⟨rfl, hb4⟩; have A4 := Lib.hid (keep hb4 (k := w.heap.size) (o := .cells #[.int .i64 e, .int .i64 k, .int .i64 n, .int .i64 d, .int .i64 c] 24 (0, 0)) (Hid.out (by assumption))); have V4 := Lib.hid (keep hb4 (k := w.heap.size + 1) (o := .cells #[.int .i64 vk, .int .i64 vn] 26 (0, 0)) (Hid.out (by assumption))); have B4 := Lib.hid (below_next (w := w) (Hid.out (by assumption)) hb4); have T4 := Lib.hid (Tab.keep (Hid.out (by assumption)) hb4); clear hb4; have c0 : w4.cell? ⟨w.heap.size, 0, none⟩ = some (.int .i64 e) := cell_of_row _ _ _ _ _ _ A4.out; have c1 : w4.cell? ⟨w.heap.size, 1, none⟩ = some (.int .i64 k) := cell_of_row _ _ _ _ _ _ A4.out; have c2 : w4.cell? ⟨w.heap.size, 2, none⟩ = some (.int .i64 n) := cell_of_row _ _ _ _ _ _ A4.out; have c3 : w4.cell? ⟨w.heap.size, 3, none⟩ = some (.int .i64 d) := cell_of_row _ _ _ _ _ _ A4.out; have c4 : w4.cell? ⟨w.heap.size, 4, none⟩ = some (.int .i64 c) := cell_of_row _ _ _ _ _ _ A4.out; have v0 : w4.cell? ⟨w.heap.size + 1, 0, none⟩ = some (.int .i64 vk) := cell_of_row _ _ _ _ _ _ V4.out; have v1 : w4.cell? ⟨w.heap.size + 1, 1, none⟩ = some (.int .i64 vn) := cell_of_row _ _ _ _ _ _ V4.out)
            | (go_at_call 7; refine (dec_any e HE.out _).mono ?_; rintro r w4 ⟨rfl, hb4⟩; have A4 := Lib.hid (keep hb4 (k := w.heap.size) (o := .cells #[.int .i64 e, .int .i64 k, .int .i64 n, .int .i64 d, .int .i64 c] 24 (0, 0)) (Hid.out (by assumption))); have V4 := Lib.hid (keep hb4 (k := w.heap.size + 1) (o := .cells #[.int .i64 vk, .int .i64 vn] 26 (0, 0)) (Hid.out (by assumption))); have B4 := Lib.hid (below_next (w := w) (Hid.out (by assumption)) hb4); have T4 := Lib.hid (Tab.keep (Hid.out (by assumption)) hb4); clear hb4; have c0 : w4.cell? ⟨w.heap.size, 0, none⟩ = some (.int .i64 e) := cell_of_row _ _ _ _ _ _ A4.out; have c1 : w4.cell? ⟨w.heap.size, 1, none⟩ = some (.int .i64 k) := cell_of_row _ _ _ _ _ _ A4.out; have c2 : w4.cell? ⟨w.heap.size, 2, none⟩ = some (.int .i64 n) := cell_of_row _ _ _ _ _ _ A4.out; have c3 : w4.cell? ⟨w.heap.size, 3, none⟩ = some (.int .i64 d) := cell_of_row _ _ _ _ _ _ A4.out; have c4 : w4.cell? ⟨w.heap.size, 4, none⟩ = some (.int .i64 c) := cell_of_row _ _ _ _ _ _ A4.out; have v0 : w4.cell? ⟨w.heap.size + 1, 0, none⟩ = some (.int .i64 vk) := cell_of_row _ _ _ _ _ _ V4.out; have v1 : w4.cell? ⟨w.heap.size + 1, 1, none⟩ = some (.int .i64 vn) := cell_of_row _ _ _ _ _ _ V4.out)
            | (go_at_call 8; refine (lvalue_any k n HN.out _).mono ?_; rintro r w4 ⟨rfl, hb4⟩; have A4 := Lib.hid (keep hb4 (k := w.heap.size) (o := .cells #[.int .i64 e, .int .i64 k, .int .i64 n, .int .i64 d, .int .i64 c] 24 (0, 0)) (Hid.out (by assumption))); have V4 := Lib.hid (keep hb4 (k := w.heap.size + 1) (o := .cells #[.int .i64 vk, .int .i64 vn] 26 (0, 0)) (Hid.out (by assumption))); have B4 := Lib.hid (below_next (w := w) (Hid.out (by assumption)) hb4); have T4 := Lib.hid (Tab.keep (Hid.out (by assumption)) hb4); clear hb4; have c0 : w4.cell? ⟨w.heap.size, 0, none⟩ = some (.int .i64 e) := cell_of_row _ _ _ _ _ _ A4.out; have c1 : w4.cell? ⟨w.heap.size, 1, none⟩ = some (.int .i64 k) := cell_of_row _ _ _ _ _ _ A4.out; have c2 : w4.cell? ⟨w.heap.size, 2, none⟩ = some (.int .i64 n) := cell_of_row _ _ _ _ _ _ A4.out; have c3 : w4.cell? ⟨w.heap.size, 3, none⟩ = some (.int .i64 d) := cell_of_row _ _ _ _ _ _ A4.out; have c4 : w4.cell? ⟨w.heap.size, 4, none⟩ = some (.int .i64 c) := cell_of_row _ _ _ _ _ _ A4.out; have v0 : w4.cell? ⟨w.heap.size + 1, 0, none⟩ = some (.int .i64 vk) := cell_of_row _ _ _ _ _ _ V4.out; have v1 : w4.cell? ⟨w.heap.size + 1, 1, none⟩ = some (.int .i64 vn) := cell_of_row _ _ _ _ _ _ V4.out))
          go_region_held3 (fun w' => w'.cell? ⟨w.heap.size, 0, none⟩ = some (.int .i64 e) ∧ w'.cell? ⟨w.heap.size, 1, none⟩ = some (.int .i64 k) ∧ w'.cell? ⟨w.heap.size, 2, none⟩ = some (.int .i64 n) ∧ w'.cell? ⟨w.heap.size, 3, none⟩ = some (.int .i64 d) ∧ w'.cell? ⟨w.heap.size, 4, none⟩ = some (.int .i64 c) ∧ w'.cell? ⟨w.heap.size + 1, 0, none⟩ = some (.int .i64 vk) ∧ w'.cell? ⟨w.heap.size + 1, 1, none⟩ = some (.int .i64 vn) ∧ Tab w' ∧ Below w.heap.size w w')
            (first
              | exact ⟨c0, c1, c2, c3, c4, v0, v1, Tab.keep (Hid.out (by assumption)) (Below.refl _ _).drew, Below.drew (Hid.out (by assumption))⟩
              | (go_split_ands; exact ⟨cell_keep hb5 (by assumption), cell_keep hb5 (by assumption), cell_keep hb5 (by assumption), cell_keep hb5 (by assumption), cell_keep hb5 (by assumption), cell_keep hb5 (by assumption), cell_keep hb5 (by assumption), Tab.keep (by assumption) hb5, below_next (by assumption) hb5⟩))
            (first
              | (go_at_call 7; (first
                  | ((with_reducible refine (dec_any d HD.out _).mono ?_); rintro r w5 ⟨rfl, hb5⟩)
                  | ((with_reducible refine (dec_any c HC.out _).mono ?_); rintro r w5 ⟨rfl, hb5⟩))))
          go_wp2_with fail
          go_region_held3 (fun w' => w'.cell? ⟨w.heap.size, 0, none⟩ = some (.int .i64 e) ∧ w'.cell? ⟨w.heap.size, 1, none⟩ = some (.int .i64 k) ∧ w'.cell? ⟨w.heap.size, 2, none⟩ = some (.int .i64 n) ∧ w'.cell? ⟨w.heap.size, 3, none⟩ = some (.int .i64 d) ∧ w'.cell? ⟨w.heap.size, 4, none⟩ = some (.int .i64 c) ∧ w'.cell? ⟨w.heap.size + 1, 0, none⟩ = some (.int .i64 vk) ∧ w'.cell? ⟨w.heap.size + 1, 1, none⟩ = some (.int .i64 vn) ∧ Tab w' ∧ Below w.heap.size w w')
            (first
              | (go_split_ands; exact ⟨by assumption, by assumption, by assumption, by assumption, by assumption, by assumption, by assumption, Tab.keep (by assumption) (Below.refl _ _).drew, Below.drew (by assumption)⟩)
              | (go_split_ands; exact ⟨cell_keep hb5 (by assumption), cell_keep hb5 (by assumption), cell_keep hb5 (by assumption), cell_keep hb5 (by assumption), cell_keep hb5 (by assumption), cell_keep hb5 (by assumption), cell_keep hb5 (by assumption), Tab.keep (by assumption) hb5, below_next (by assumption) hb5⟩))
            (first
              | (go_split_ands; go_at_call 9; refine (answer_any e k n d c HE.out HN.out HD.out HC.out _ (by assumption)).mono ?_; rintro r w5 ⟨rfl, hb5⟩; rw [hx.out])
              | (go_split_ands; go_at_call 10; refine (value_any vk vn HV.out _ (by assumption)).mono ?_; rintro r w5 ⟨rfl, hb5⟩)
              | (go_at_call 8; refine (lvalue_any vk vn HV.out _).mono ?_; rintro r w5 ⟨rfl, hb5⟩))
          go_wp2_with fail
          go_split_ands
          go_ret
          exact ⟨rfl, by assumption⟩
      · have f2 : (d != 0) = true := by simp [d0]
        obtain ⟨p1, hp1⟩ : ∃ s, s = s1 ++ [32, 100, 111, 110, 101, 32] := ⟨_, rfl⟩
        obtain ⟨p2, hp2⟩ : ∃ s, s = p1 ++ Lib.itoa d := ⟨_, rfl⟩
        obtain ⟨p3, hp3⟩ : ∃ s, s = p2 ++ [32, 99, 114, 101, 100, 105, 116, 32] := ⟨_, rfl⟩
        obtain ⟨p4, hp4⟩ : ∃ s, s = p3 ++ Lib.itoa c := ⟨_, rfl⟩
        have z0 := size_le (l := s1) (m := 60) (by omega) (by decide)
        have z1 := size_le (l := p1) (m := 70) (by rw [hp1]; simp; omega) (by decide)
        have z2 := size_le (l := p2) (m := 100) (by rw [hp2, hp1]; simp; omega) (by decide)
        have z3 := size_le (l := p3) (m := 120) (by rw [hp3, hp2, hp1]; simp; omega) (by decide)
        have g4 : ¬ 9223372036854775807 < (S s1).size + 6 := by omega
        have g5 : ¬ 9223372036854775807 < (S p1).size + (S (Lib.itoa d)).size := cat_le z1 ld
        have g6 : ¬ 9223372036854775807 < (S p2).size + 8 := by omega
        have g7 : ¬ 9223372036854775807 < (S p3).size + (S (Lib.itoa c)).size := cat_le z3 lc
        have q4 : S s1 ++ (⟨#[32, 100, 111, 110, 101, 32]⟩ : ByteArray) = S p1 := by rw [hp1]; exact S_app _ _
        have q5 : S p1 ++ S (Lib.itoa d) = S p2 := by rw [hp2]; exact S_app _ _
        have q6 : S p2 ++ (⟨#[32, 99, 114, 101, 100, 105, 116, 32]⟩ : ByteArray) = S p3 := by rw [hp3]; exact S_app _ _
        have q7 : S p3 ++ S (Lib.itoa c) = S p4 := by rw [hp4]; exact S_app _ _
        have H4 : Hid (p4 = s1 ++ ([32, 100, 111, 110, 101, 32] ++ Lib.itoa d ++ [32, 99, 114, 101, 100, 105, 116, 32] ++ Lib.itoa c)) := Lib.hid (by rw [hp4, hp3, hp2, hp1]; simp)
        clear hp1 hp2 hp3 hp4 z0 z1 z2 z3 ld lc m3 m4 n1 n3
        have hx : Hid (ansText e k n d c = p4) := Lib.hid (by unfold ansText; rw [hm.out, endText, if_neg (fun h => d0 h.1), H4.out])
        clear d0
        have b4 : ∀ wx, (binOp .add 9 (.string (S s1)) (.string (⟨#[32, 100, 111, 110, 101, 32]⟩ : ByteArray))).run Tryd.prog wx = .ok (.string (S p1)) wx := fun wx => by go_simp
        have b5 : ∀ wx, (binOp .add 9 (.string (S p1)) (.string (S (Lib.itoa d)))).run Tryd.prog wx = .ok (.string (S p2)) wx := fun wx => by go_simp
        have b6 : ∀ wx, (binOp .add 9 (.string (S p2)) (.string (⟨#[32, 99, 114, 101, 100, 105, 116, 32]⟩ : ByteArray))).run Tryd.prog wx = .ok (.string (S p3)) wx := fun wx => by go_simp
        have b7 : ∀ wx, (binOp .add 9 (.string (S p3)) (.string (S (Lib.itoa c)))).run Tryd.prog wx = .ok (.string (S p4)) wx := fun wx => by go_simp
        go_enter Tryd.func3, Tryd.ntmps3
        go_wp2_with (first
          | (go_at_call 6; refine (oalive_any _ (Hid.out (by assumption))).mono ?_; rintro r w4 ⟨rfl, hb4⟩; have A4 := Lib.hid (keep hb4 (k := w.heap.size) (o := .cells #[.int .i64 e, .int .i64 k, .int .i64 n, .int .i64 d, .int .i64 c] 24 (0, 0)) (Hid.out (by assumption))); have V4 := Lib.hid (keep hb4 (k := w.heap.size + 1) (o := .cells #[.int .i64 vk, .int .i64 vn] 26 (0, 0)) (Hid.out (by assumption))); have B4 := Lib.hid (below_next (w := w) (Hid.out (by assumption)) hb4); have T4 := Lib.hid (Tab.keep (Hid.out (by assumption)) hb4); clear hb4; have c0 : w4.cell? ⟨w.heap.size, 0, none⟩ = some (.int .i64 e) := cell_of_row _ _ _ _ _ _ A4.out; have c1 : w4.cell? ⟨w.heap.size, 1, none⟩ = some (.int .i64 k) := cell_of_row _ _ _ _ _ _ A4.out; have c2 : w4.cell? ⟨w.heap.size, 2, none⟩ = some (.int .i64 n) := cell_of_row _ _ _ _ _ _ A4.out; have c3 : w4.cell? ⟨w.heap.size, 3, none⟩ = some (.int .i64 d) := cell_of_row _ _ _ _ _ _ A4.out; have c4 : w4.cell? ⟨w.heap.size, 4, none⟩ = some (.int .i64 c) := cell_of_row _ _ _ _ _ _ A4.out; have v0 : w4.cell? ⟨w.heap.size + 1, 0, none⟩ = some (.int .i64 vk) := cell_of_row _ _ _ _ _ _ V4.out; have v1 : w4.cell? ⟨w.heap.size + 1, 1, none⟩ = some (.int .i64 vn) := cell_of_row _ _ _ _ _ _ V4.out)
          | (go_at_call 7; refine (dec_any e HE.out _).mono ?_; rintro r w4 ⟨rfl, hb4⟩; have A4 := Lib.hid (keep hb4 (k := w.heap.size) (o := .cells #[.int .i64 e, .int .i64 k, .int .i64 n, .int .i64 d, .int .i64 c] 24 (0, 0)) (Hid.out (by assumption))); have V4 := Lib.hid (keep hb4 (k := w.heap.size + 1) (o := .cells #[.int .i64 vk, .int .i64 vn] 26 (0, 0)) (Hid.out (by assumption))); have B4 := Lib.hid (below_next (w := w) (Hid.out (by assumption)) hb4); have T4 := Lib.hid (Tab.keep (Hid.out (by assumption)) hb4); clear hb4; have c0 : w4.cell? ⟨w.heap.size, 0, none⟩ = some (.int .i64 e) := cell_of_row _ _ _ _ _ _ A4.out; have c1 : w4.cell? ⟨w.heap.size, 1, none⟩ = some (.int .i64 k) := cell_of_row _ _ _ _ _ _ A4.out; have c2 : w4.cell? ⟨w.heap.size, 2, none⟩ = some (.int .i64 n) := cell_of_row _ _ _ _ _ _ A4.out; have c3 : w4.cell? ⟨w.heap.size, 3, none⟩ = some (.int .i64 d) := cell_of_row _ _ _ _ _ _ A4.out; have c4 : w4.cell? ⟨w.heap.size, 4, none⟩ = some (.int .i64 c) := cell_of_row _ _ _ _ _ _ A4.out; have v0 : w4.cell? ⟨w.heap.size + 1, 0, none⟩ = some (.int .i64 vk) := cell_of_row _ _ _ _ _ _ V4.out; have v1 : w4.cell? ⟨w.heap.size + 1, 1, none⟩ = some (.int .i64 vn) := cell_of_row _ _ _ _ _ _ V4.out)
          | (go_at_call 8; refine (lvalue_any k n HN.out _).mono ?_; rintro r w4 ⟨rfl, hb4⟩; have A4 := Lib.hid (keep hb4 (k := w.heap.size) (o := .cells #[.int .i64 e, .int .i64 k, .int .i64 n, .int .i64 d, .int .i64 c] 24 (0, 0)) (Hid.out (by assumption))); have V4 := Lib.hid (keep hb4 (k := w.heap.size + 1) (o := .cells #[.int .i64 vk, .int .i64 vn] 26 (0, 0)) (Hid.out (by assumption))); have B4 := Lib.hid (below_next (w := w) (Hid.out (by assumption)) hb4); have T4 := Lib.hid (Tab.keep (Hid.out (by assumption)) hb4); clear hb4; have c0 : w4.cell? ⟨w.heap.size, 0, none⟩ = some (.int .i64 e) := cell_of_row _ _ _ _ _ _ A4.out; have c1 : w4.cell? ⟨w.heap.size, 1, none⟩ = some (.int .i64 k) := cell_of_row _ _ _ _ _ _ A4.out; have c2 : w4.cell? ⟨w.heap.size, 2, none⟩ = some (.int .i64 n) := cell_of_row _ _ _ _ _ _ A4.out; have c3 : w4.cell? ⟨w.heap.size, 3, none⟩ = some (.int .i64 d) := cell_of_row _ _ _ _ _ _ A4.out; have c4 : w4.cell? ⟨w.heap.size, 4, none⟩ = some (.int .i64 c) := cell_of_row _ _ _ _ _ _ A4.out; have v0 : w4.cell? ⟨w.heap.size + 1, 0, none⟩ = some (.int .i64 vk) := cell_of_row _ _ _ _ _ _ V4.out; have v1 : w4.cell? ⟨w.heap.size + 1, 1, none⟩ = some (.int .i64 vn) := cell_of_row _ _ _ _ _ _ V4.out))
        go_region_held3 (fun w' => w'.cell? ⟨w.heap.size, 0, none⟩ = some (.int .i64 e) ∧ w'.cell? ⟨w.heap.size, 1, none⟩ = some (.int .i64 k) ∧ w'.cell? ⟨w.heap.size, 2, none⟩ = some (.int .i64 n) ∧ w'.cell? ⟨w.heap.size, 3, none⟩ = some (.int .i64 d) ∧ w'.cell? ⟨w.heap.size, 4, none⟩ = some (.int .i64 c) ∧ w'.cell? ⟨w.heap.size + 1, 0, none⟩ = some (.int .i64 vk) ∧ w'.cell? ⟨w.heap.size + 1, 1, none⟩ = some (.int .i64 vn) ∧ Tab w' ∧ Below w.heap.size w w')
          (first
            | exact ⟨c0, c1, c2, c3, c4, v0, v1, Tab.keep (Hid.out (by assumption)) (Below.refl _ _).drew, Below.drew (Hid.out (by assumption))⟩
            | (go_split_ands; exact ⟨cell_keep hb5 (by assumption), cell_keep hb5 (by assumption), cell_keep hb5 (by assumption), cell_keep hb5 (by assumption), cell_keep hb5 (by assumption), cell_keep hb5 (by assumption), cell_keep hb5 (by assumption), Tab.keep (by assumption) hb5, below_next (by assumption) hb5⟩))
          (first
            | (go_at_call 7; (first
                | ((with_reducible refine (dec_any d HD.out _).mono ?_); rintro r w5 ⟨rfl, hb5⟩)
                | ((with_reducible refine (dec_any c HC.out _).mono ?_); rintro r w5 ⟨rfl, hb5⟩))))
        go_wp2_with fail
        go_region_held3 (fun w' => w'.cell? ⟨w.heap.size, 0, none⟩ = some (.int .i64 e) ∧ w'.cell? ⟨w.heap.size, 1, none⟩ = some (.int .i64 k) ∧ w'.cell? ⟨w.heap.size, 2, none⟩ = some (.int .i64 n) ∧ w'.cell? ⟨w.heap.size, 3, none⟩ = some (.int .i64 d) ∧ w'.cell? ⟨w.heap.size, 4, none⟩ = some (.int .i64 c) ∧ w'.cell? ⟨w.heap.size + 1, 0, none⟩ = some (.int .i64 vk) ∧ w'.cell? ⟨w.heap.size + 1, 1, none⟩ = some (.int .i64 vn) ∧ Tab w' ∧ Below w.heap.size w w')
          (first
            | (go_split_ands; exact ⟨by assumption, by assumption, by assumption, by assumption, by assumption, by assumption, by assumption, Tab.keep (by assumption) (Below.refl _ _).drew, Below.drew (by assumption)⟩)
            | (go_split_ands; exact ⟨cell_keep hb5 (by assumption), cell_keep hb5 (by assumption), cell_keep hb5 (by assumption), cell_keep hb5 (by assumption), cell_keep hb5 (by assumption), cell_keep hb5 (by assumption), cell_keep hb5 (by assumption), Tab.keep (by assumption) hb5, below_next (by assumption) hb5⟩))
          (first
            | (go_split_ands; go_at_call 9; refine (answer_any e k n d c HE.out HN.out HD.out HC.out _ (by assumption)).mono ?_; rintro r w5 ⟨rfl, hb5⟩; rw [hx.out])
            | (go_split_ands; go_at_call 10; refine (value_any vk vn HV.out _ (by assumption)).mono ?_; rintro r w5 ⟨rfl, hb5⟩)
            | (go_at_call 8; refine (lvalue_any vk vn HV.out _).mono ?_; rintro r w5 ⟨rfl, hb5⟩))
        go_wp2_with fail
        go_split_ands
        go_ret
        exact ⟨rfl, by assumption⟩
    · have f1 : (k != 0) = true := by simp [k0]
      have hm : Hid (headText e ++ midText k n = x2) := Lib.hid (by unfold midText; rw [if_neg k0, H2.out, ← H1.out])
      clear k0
      by_cases d0 : d = 0
      · by_cases c0' : c = 0
        · have f2 : (d != 0) = false := by simp [d0]
          have f3 : (c != 0) = false := by simp [c0']
          have hx : Hid (ansText e k n d c = x2) := Lib.hid (by unfold ansText; rw [hm.out, endText, if_pos ⟨d0, c0'⟩, List.append_nil])
          clear d0 c0'
          go_enter Tryd.func3, Tryd.ntmps3
          go_wp2_with (first
            | (go_at_call 6; refine (oalive_any _ (Hid.out (by assumption))).mono ?_; rintro r w4 ⟨rfl, hb4⟩; have A4 := Lib.hid (keep hb4 (k := w.heap.size) (o := .cells #[.int .i64 e, .int .i64 k, .int .i64 n, .int .i64 d, .int .i64 c] 24 (0, 0)) (Hid.out (by assumption))); have V4 := Lib.hid (keep hb4 (k := w.heap.size + 1) (o := .cells #[.int .i64 vk, .int .i64 vn] 26 (0, 0)) (Hid.out (by assumption))); have B4 := Lib.hid (below_next (w := w) (Hid.out (by assumption)) hb4); have T4 := Lib.hid (Tab.keep (Hid.out (by assumption)) hb4); clear hb4; have c0 : w4.cell? ⟨w.heap.size, 0, none⟩ = some (.int .i64 e) := cell_of_row _ _ _ _ _ _ A4.out; have c1 : w4.cell? ⟨w.heap.size, 1, none⟩ = some (.int .i64 k) := cell_of_row _ _ _ _ _ _ A4.out; have c2 : w4.cell? ⟨w.heap.size, 2, none⟩ = some (.int .i64 n) := cell_of_row _ _ _ _ _ _ A4.out; have c3 : w4.cell? ⟨w.heap.size, 3, none⟩ = some (.int .i64 d) := cell_of_row _ _ _ _ _ _ A4.out; have c4 : w4.cell? ⟨w.heap.size, 4, none⟩ = some (.int .i64 c) := cell_of_row _ _ _ _ _ _ A4.out; have v0 : w4.cell? ⟨w.heap.size + 1, 0, none⟩ = some (.int .i64 vk) := cell_of_row _ _ _ _ _ _ V4.out; have v1 : w4.cell? ⟨w.heap.size + 1, 1, none⟩ = some (.int .i64 vn) := cell_of_row _ _ _ _ _ _ V4.out)
            | (go_at_call 7; refine (dec_any e HE.out _).mono ?_; rintro r w4 ⟨rfl, hb4⟩; have A4 := Lib.hid (keep hb4 (k := w.heap.size) (o := .cells #[.int .i64 e, .int .i64 k, .int .i64 n, .int .i64 d, .int .i64 c] 24 (0, 0)) (Hid.out (by assumption))); have V4 := Lib.hid (keep hb4 (k := w.heap.size + 1) (o := .cells #[.int .i64 vk, .int .i64 vn] 26 (0, 0)) (Hid.out (by assumption))); have B4 := Lib.hid (below_next (w := w) (Hid.out (by assumption)) hb4); have T4 := Lib.hid (Tab.keep (Hid.out (by assumption)) hb4); clear hb4; have c0 : w4.cell? ⟨w.heap.size, 0, none⟩ = some (.int .i64 e) := cell_of_row _ _ _ _ _ _ A4.out; have c1 : w4.cell? ⟨w.heap.size, 1, none⟩ = some (.int .i64 k) := cell_of_row _ _ _ _ _ _ A4.out; have c2 : w4.cell? ⟨w.heap.size, 2, none⟩ = some (.int .i64 n) := cell_of_row _ _ _ _ _ _ A4.out; have c3 : w4.cell? ⟨w.heap.size, 3, none⟩ = some (.int .i64 d) := cell_of_row _ _ _ _ _ _ A4.out; have c4 : w4.cell? ⟨w.heap.size, 4, none⟩ = some (.int .i64 c) := cell_of_row _ _ _ _ _ _ A4.out; have v0 : w4.cell? ⟨w.heap.size + 1, 0, none⟩ = some (.int .i64 vk) := cell_of_row _ _ _ _ _ _ V4.out; have v1 : w4.cell? ⟨w.heap.size + 1, 1, none⟩ = some (.int .i64 vn) := cell_of_row _ _ _ _ _ _ V4.out)
            | (go_at_call 8; refine (lvalue_any k n HN.out _).mono ?_; rintro r w4 ⟨rfl, hb4⟩; have A4 := Lib.hid (keep hb4 (k := w.heap.size) (o := .cells #[.int .i64 e, .int .i64 k, .int .i64 n, .int .i64 d, .int .i64 c] 24 (0, 0)) (Hid.out (by assumption))); have V4 := Lib.hid (keep hb4 (k := w.heap.size + 1) (o := .cells #[.int .i64 vk, .int .i64 vn] 26 (0, 0)) (Hid.out (by assumption))); have B4 := Lib.hid (below_next (w := w) (Hid.out (by assumption)) hb4); have T4 := Lib.hid (Tab.keep (Hid.out (by assumption)) hb4); clear hb4; have c0 : w4.cell? ⟨w.heap.size, 0, none⟩ = some (.int .i64 e) := cell_of_row _ _ _ _ _ _ A4.out; have c1 : w4.cell? ⟨w.heap.size, 1, none⟩ = some (.int .i64 k) := cell_of_row _ _ _ _ _ _ A4.out; have c2 : w4.cell? ⟨w.heap.size, 2, none⟩ = some (.int .i64 n) := cell_of_row _ _ _ _ _ _ A4.out; have c3 : w4.cell? ⟨w.heap.size, 3, none⟩ = some (.int .i64 d) := cell_of_row _ _ _ _ _ _ A4.out; have c4 : w4.cell? ⟨w.heap.size, 4, none⟩ = some (.int .i64 c) := cell_of_row _ _ _ _ _ _ A4.out; have v0 : w4.cell? ⟨w.heap.size + 1, 0, none⟩ = some (.int .i64 vk) := cell_of_row _ _ _ _ _ _ V4.out; have v1 : w4.cell? ⟨w.heap.size + 1, 1, none⟩ = some (.int .i64 vn) := cell_of_row _ _ _ _ _ _ V4.out))
          go_region_held3 (fun w' => w'.cell? ⟨w.heap.size, 0, none⟩ = some (.int .i64 e) ∧ w'.cell? ⟨w.heap.size, 1, none⟩ = some (.int .i64 k) ∧ w'.cell? ⟨w.heap.size, 2, none⟩ = some (.int .i64 n) ∧ w'.cell? ⟨w.heap.size, 3, none⟩ = some (.int .i64 d) ∧ w'.cell? ⟨w.heap.size, 4, none⟩ = some (.int .i64 c) ∧ w'.cell? ⟨w.heap.size + 1, 0, none⟩ = some (.int .i64 vk) ∧ w'.cell? ⟨w.heap.size + 1, 1, none⟩ = some (.int .i64 vn) ∧ Tab w' ∧ Below w.heap.size w w')
            (first
              | exact ⟨c0, c1, c2, c3, c4, v0, v1, Tab.keep (Hid.out (by assumption)) (Below.refl _ _).drew, Below.drew (Hid.out (by assumption))⟩
              | (go_split_ands; exact ⟨cell_keep hb5 (by assumption), cell_keep hb5 (by assumption), cell_keep hb5 (by assumption), cell_keep hb5 (by assumption), cell_keep hb5 (by assumption), cell_keep hb5 (by assumption), cell_keep hb5 (by assumption), Tab.keep (by assumption) hb5, below_next (by assumption) hb5⟩))
            (first
              | (go_split_ands; go_at_call 9; refine (answer_any e k n d c HE.out HN.out HD.out HC.out _ (by assumption)).mono ?_; rintro r w5 ⟨rfl, hb5⟩; rw [hx.out])
              | (go_split_ands; go_at_call 10; refine (value_any vk vn HV.out _ (by assumption)).mono ?_; rintro r w5 ⟨rfl, hb5⟩)
              | (go_at_call 8; refine (lvalue_any vk vn HV.out _).mono ?_; rintro r w5 ⟨rfl, hb5⟩))
          go_wp2_with fail
          go_split_ands
          go_ret
          exact ⟨rfl, by assumption⟩
        · have f2 : (d != 0) = false := by simp [d0]
          have f3 : (c != 0) = true := by simp [c0']
          obtain ⟨p1, hp1⟩ : ∃ s, s = x2 ++ [32, 100, 111, 110, 101, 32] := ⟨_, rfl⟩
          obtain ⟨p2, hp2⟩ : ∃ s, s = p1 ++ Lib.itoa d := ⟨_, rfl⟩
          obtain ⟨p3, hp3⟩ : ∃ s, s = p2 ++ [32, 99, 114, 101, 100, 105, 116, 32] := ⟨_, rfl⟩
          obtain ⟨p4, hp4⟩ : ∃ s, s = p3 ++ Lib.itoa c := ⟨_, rfl⟩
          have z0 := size_le (l := x2) (m := 60) (by omega) (by decide)
          have z1 := size_le (l := p1) (m := 70) (by rw [hp1]; simp; omega) (by decide)
          have z2 := size_le (l := p2) (m := 100) (by rw [hp2, hp1]; simp; omega) (by decide)
          have z3 := size_le (l := p3) (m := 120) (by rw [hp3, hp2, hp1]; simp; omega) (by decide)
          have g4 : ¬ 9223372036854775807 < (S x2).size + 6 := by omega
          have g5 : ¬ 9223372036854775807 < (S p1).size + (S (Lib.itoa d)).size := cat_le z1 ld
          have g6 : ¬ 9223372036854775807 < (S p2).size + 8 := by omega
          have g7 : ¬ 9223372036854775807 < (S p3).size + (S (Lib.itoa c)).size := cat_le z3 lc
          have q4 : S x2 ++ (⟨#[32, 100, 111, 110, 101, 32]⟩ : ByteArray) = S p1 := by rw [hp1]; exact S_app _ _
          have q5 : S p1 ++ S (Lib.itoa d) = S p2 := by rw [hp2]; exact S_app _ _
          have q6 : S p2 ++ (⟨#[32, 99, 114, 101, 100, 105, 116, 32]⟩ : ByteArray) = S p3 := by rw [hp3]; exact S_app _ _
          have q7 : S p3 ++ S (Lib.itoa c) = S p4 := by rw [hp4]; exact S_app _ _
          have H4 : Hid (p4 = x2 ++ ([32, 100, 111, 110, 101, 32] ++ Lib.itoa d ++ [32, 99, 114, 101, 100, 105, 116, 32] ++ Lib.itoa c)) := Lib.hid (by rw [hp4, hp3, hp2, hp1]; simp)
          clear hp1 hp2 hp3 hp4 z0 z1 z2 z3 ld lc m3 m4 n1 n3
          have hx : Hid (ansText e k n d c = p4) := Lib.hid (by unfold ansText; rw [hm.out, endText, if_neg (fun h => c0' h.2), H4.out])
          clear d0 c0'
          have b4 : ∀ wx, (binOp .add 9 (.string (S x2)) (.string (⟨#[32, 100, 111, 110, 101, 32]⟩ : ByteArray))).run Tryd.prog wx = .ok (.string (S p1)) wx := fun wx => by go_simp
          have b5 : ∀ wx, (binOp .add 9 (.string (S p1)) (.string (S (Lib.itoa d)))).run Tryd.prog wx = .ok (.string (S p2)) wx := fun wx => by go_simp
          have b6 : ∀ wx, (binOp .add 9 (.string (S p2)) (.string (⟨#[32, 99, 114, 101, 100, 105, 116, 32]⟩ : ByteArray))).run Tryd.prog wx = .ok (.string (S p3)) wx := fun wx => by go_simp
          have b7 : ∀ wx, (binOp .add 9 (.string (S p3)) (.string (S (Lib.itoa c)))).run Tryd.prog wx = .ok (.string (S p4)) wx := fun wx => by go_simp
          go_enter Tryd.func3, Tryd.ntmps3
          go_wp2_with (first
            | (go_at_call 6; refine (oalive_any _ (Hid.out (by assumption))).mono ?_; rintro r w4 ⟨rfl, hb4⟩; have A4 := Lib.hid (keep hb4 (k := w.heap.size) (o := .cells #[.int .i64 e, .int .i64 k, .int .i64 n, .int .i64 d, .int .i64 c] 24 (0, 0)) (Hid.out (by assumption))); have V4 := Lib.hid (keep hb4 (k := w.heap.size + 1) (o := .cells #[.int .i64 vk, .int .i64 vn] 26 (0, 0)) (Hid.out (by assumption))); have B4 := Lib.hid (below_next (w := w) (Hid.out (by assumption)) hb4); have T4 := Lib.hid (Tab.keep (Hid.out (by assumption)) hb4); clear hb4; have c0 : w4.cell? ⟨w.heap.size, 0, none⟩ = some (.int .i64 e) := cell_of_row _ _ _ _ _ _ A4.out; have c1 : w4.cell? ⟨w.heap.size, 1, none⟩ = some (.int .i64 k) := cell_of_row _ _ _ _ _ _ A4.out; have c2 : w4.cell? ⟨w.heap.size, 2, none⟩ = some (.int .i64 n) := cell_of_row _ _ _ _ _ _ A4.out; have c3 : w4.cell? ⟨w.heap.size, 3, none⟩ = some (.int .i64 d) := cell_of_row _ _ _ _ _ _ A4.out; have c4 : w4.cell? ⟨w.heap.size, 4, none⟩ = some (.int .i64 c) := cell_of_row _ _ _ _ _ _ A4.out; have v0 : w4.cell? ⟨w.heap.size + 1, 0, none⟩ = some (.int .i64 vk) := cell_of_row _ _ _ _ _ _ V4.out; have v1 : w4.cell? ⟨w.heap.size + 1, 1, none⟩ = some (.int .i64 vn) := cell_of_row _ _ _ _ _ _ V4.out)
            | (go_at_call 7; refine (dec_any e HE.out _).mono ?_; rintro r w4 ⟨rfl, hb4⟩; have A4 := Lib.hid (keep hb4 (k := w.heap.size) (o := .cells #[.int .i64 e, .int .i64 k, .int .i64 n, .int .i64 d, .int .i64 c] 24 (0, 0)) (Hid.out (by assumption))); have V4 := Lib.hid (keep hb4 (k := w.heap.size + 1) (o := .cells #[.int .i64 vk, .int .i64 vn] 26 (0, 0)) (Hid.out (by assumption))); have B4 := Lib.hid (below_next (w := w) (Hid.out (by assumption)) hb4); have T4 := Lib.hid (Tab.keep (Hid.out (by assumption)) hb4); clear hb4; have c0 : w4.cell? ⟨w.heap.size, 0, none⟩ = some (.int .i64 e) := cell_of_row _ _ _ _ _ _ A4.out; have c1 : w4.cell? ⟨w.heap.size, 1, none⟩ = some (.int .i64 k) := cell_of_row _ _ _ _ _ _ A4.out; have c2 : w4.cell? ⟨w.heap.size, 2, none⟩ = some (.int .i64 n) := cell_of_row _ _ _ _ _ _ A4.out; have c3 : w4.cell? ⟨w.heap.size, 3, none⟩ = some (.int .i64 d) := cell_of_row _ _ _ _ _ _ A4.out; have c4 : w4.cell? ⟨w.heap.size, 4, none⟩ = some (.int .i64 c) := cell_of_row _ _ _ _ _ _ A4.out; have v0 : w4.cell? ⟨w.heap.size + 1, 0, none⟩ = some (.int .i64 vk) := cell_of_row _ _ _ _ _ _ V4.out; have v1 : w4.cell? ⟨w.heap.size + 1, 1, none⟩ = some (.int .i64 vn) := cell_of_row _ _ _ _ _ _ V4.out)
            | (go_at_call 8; refine (lvalue_any k n HN.out _).mono ?_; rintro r w4 ⟨rfl, hb4⟩; have A4 := Lib.hid (keep hb4 (k := w.heap.size) (o := .cells #[.int .i64 e, .int .i64 k, .int .i64 n, .int .i64 d, .int .i64 c] 24 (0, 0)) (Hid.out (by assumption))); have V4 := Lib.hid (keep hb4 (k := w.heap.size + 1) (o := .cells #[.int .i64 vk, .int .i64 vn] 26 (0, 0)) (Hid.out (by assumption))); have B4 := Lib.hid (below_next (w := w) (Hid.out (by assumption)) hb4); have T4 := Lib.hid (Tab.keep (Hid.out (by assumption)) hb4); clear hb4; have c0 : w4.cell? ⟨w.heap.size, 0, none⟩ = some (.int .i64 e) := cell_of_row _ _ _ _ _ _ A4.out; have c1 : w4.cell? ⟨w.heap.size, 1, none⟩ = some (.int .i64 k) := cell_of_row _ _ _ _ _ _ A4.out; have c2 : w4.cell? ⟨w.heap.size, 2, none⟩ = some (.int .i64 n) := cell_of_row _ _ _ _ _ _ A4.out; have c3 : w4.cell? ⟨w.heap.size, 3, none⟩ = some (.int .i64 d) := cell_of_row _ _ _ _ _ _ A4.out; have c4 : w4.cell? ⟨w.heap.size, 4, none⟩ = some (.int .i64 c) := cell_of_row _ _ _ _ _ _ A4.out; have v0 : w4.cell? ⟨w.heap.size + 1, 0, none⟩ = some (.int .i64 vk) := cell_of_row _ _ _ _ _ _ V4.out; have v1 : w4.cell? ⟨w.heap.size + 1, 1, none⟩ = some (.int .i64 vn) := cell_of_row _ _ _ _ _ _ V4.out))
          go_region_held3 (fun w' => w'.cell? ⟨w.heap.size, 0, none⟩ = some (.int .i64 e) ∧ w'.cell? ⟨w.heap.size, 1, none⟩ = some (.int .i64 k) ∧ w'.cell? ⟨w.heap.size, 2, none⟩ = some (.int .i64 n) ∧ w'.cell? ⟨w.heap.size, 3, none⟩ = some (.int .i64 d) ∧ w'.cell? ⟨w.heap.size, 4, none⟩ = some (.int .i64 c) ∧ w'.cell? ⟨w.heap.size + 1, 0, none⟩ = some (.int .i64 vk) ∧ w'.cell? ⟨w.heap.size + 1, 1, none⟩ = some (.int .i64 vn) ∧ Tab w' ∧ Below w.heap.size w w')
            (first
              | exact ⟨c0, c1, c2, c3, c4, v0, v1, Tab.keep (Hid.out (by assumption)) (Below.refl _ _).drew, Below.drew (Hid.out (by assumption))⟩
              | (go_split_ands; exact ⟨cell_keep hb5 (by assumption), cell_keep hb5 (by assumption), cell_keep hb5 (by assumption), cell_keep hb5 (by assumption), cell_keep hb5 (by assumption), cell_keep hb5 (by assumption), cell_keep hb5 (by assumption), Tab.keep (by assumption) hb5, below_next (by assumption) hb5⟩))
            (first
              | (go_at_call 7; (first
                  | ((with_reducible refine (dec_any d HD.out _).mono ?_); rintro r w5 ⟨rfl, hb5⟩)
                  | ((with_reducible refine (dec_any c HC.out _).mono ?_); rintro r w5 ⟨rfl, hb5⟩))))
          go_wp2_with fail
          go_region_held3 (fun w' => w'.cell? ⟨w.heap.size, 0, none⟩ = some (.int .i64 e) ∧ w'.cell? ⟨w.heap.size, 1, none⟩ = some (.int .i64 k) ∧ w'.cell? ⟨w.heap.size, 2, none⟩ = some (.int .i64 n) ∧ w'.cell? ⟨w.heap.size, 3, none⟩ = some (.int .i64 d) ∧ w'.cell? ⟨w.heap.size, 4, none⟩ = some (.int .i64 c) ∧ w'.cell? ⟨w.heap.size + 1, 0, none⟩ = some (.int .i64 vk) ∧ w'.cell? ⟨w.heap.size + 1, 1, none⟩ = some (.int .i64 vn) ∧ Tab w' ∧ Below w.heap.size w w')
            (first
              | (go_split_ands; exact ⟨by assumption, by assumption, by assumption, by assumption, by assumption, by assumption, by assumption, Tab.keep (by assumption) (Below.refl _ _).drew, Below.drew (by assumption)⟩)
              | (go_split_ands; exact ⟨cell_keep hb5 (by assumption), cell_keep hb5 (by assumption), cell_keep hb5 (by assumption), cell_keep hb5 (by assumption), cell_keep hb5 (by assumption), cell_keep hb5 (by assumption), cell_keep hb5 (by assumption), Tab.keep (by assumption) hb5, below_next (by assumption) hb5⟩))
            (first
              | (go_split_ands; go_at_call 9; refine (answer_any e k n d c HE.out HN.out HD.out HC.out _ (by assumption)).mono ?_; rintro r w5 ⟨rfl, hb5⟩; rw [hx.out])
              | (go_split_ands; go_at_call 10; refine (value_any vk vn HV.out _ (by assumption)).mono ?_; rintro r w5 ⟨rfl, hb5⟩)
              | (go_at_call 8; refine (lvalue_any vk vn HV.out _).mono ?_; rintro r w5 ⟨rfl, hb5⟩))
          go_wp2_with fail
          go_split_ands
          go_ret
          exact ⟨rfl, by assumption⟩
      · have f2 : (d != 0) = true := by simp [d0]
        obtain ⟨p1, hp1⟩ : ∃ s, s = x2 ++ [32, 100, 111, 110, 101, 32] := ⟨_, rfl⟩
        obtain ⟨p2, hp2⟩ : ∃ s, s = p1 ++ Lib.itoa d := ⟨_, rfl⟩
        obtain ⟨p3, hp3⟩ : ∃ s, s = p2 ++ [32, 99, 114, 101, 100, 105, 116, 32] := ⟨_, rfl⟩
        obtain ⟨p4, hp4⟩ : ∃ s, s = p3 ++ Lib.itoa c := ⟨_, rfl⟩
        have z0 := size_le (l := x2) (m := 60) (by omega) (by decide)
        have z1 := size_le (l := p1) (m := 70) (by rw [hp1]; simp; omega) (by decide)
        have z2 := size_le (l := p2) (m := 100) (by rw [hp2, hp1]; simp; omega) (by decide)
        have z3 := size_le (l := p3) (m := 120) (by rw [hp3, hp2, hp1]; simp; omega) (by decide)
        have g4 : ¬ 9223372036854775807 < (S x2).size + 6 := by omega
        have g5 : ¬ 9223372036854775807 < (S p1).size + (S (Lib.itoa d)).size := cat_le z1 ld
        have g6 : ¬ 9223372036854775807 < (S p2).size + 8 := by omega
        have g7 : ¬ 9223372036854775807 < (S p3).size + (S (Lib.itoa c)).size := cat_le z3 lc
        have q4 : S x2 ++ (⟨#[32, 100, 111, 110, 101, 32]⟩ : ByteArray) = S p1 := by rw [hp1]; exact S_app _ _
        have q5 : S p1 ++ S (Lib.itoa d) = S p2 := by rw [hp2]; exact S_app _ _
        have q6 : S p2 ++ (⟨#[32, 99, 114, 101, 100, 105, 116, 32]⟩ : ByteArray) = S p3 := by rw [hp3]; exact S_app _ _
        have q7 : S p3 ++ S (Lib.itoa c) = S p4 := by rw [hp4]; exact S_app _ _
        have H4 : Hid (p4 = x2 ++ ([32, 100, 111, 110, 101, 32] ++ Lib.itoa d ++ [32, 99, 114, 101, 100, 105, 116, 32] ++ Lib.itoa c)) := Lib.hid (by rw [hp4, hp3, hp2, hp1]; simp)
        clear hp1 hp2 hp3 hp4 z0 z1 z2 z3 ld lc m3 m4 n1 n3
        have hx : Hid (ansText e k n d c = p4) := Lib.hid (by unfold ansText; rw [hm.out, endText, if_neg (fun h => d0 h.1), H4.out])
        clear d0
        have b4 : ∀ wx, (binOp .add 9 (.string (S x2)) (.string (⟨#[32, 100, 111, 110, 101, 32]⟩ : ByteArray))).run Tryd.prog wx = .ok (.string (S p1)) wx := fun wx => by go_simp
        have b5 : ∀ wx, (binOp .add 9 (.string (S p1)) (.string (S (Lib.itoa d)))).run Tryd.prog wx = .ok (.string (S p2)) wx := fun wx => by go_simp
        have b6 : ∀ wx, (binOp .add 9 (.string (S p2)) (.string (⟨#[32, 99, 114, 101, 100, 105, 116, 32]⟩ : ByteArray))).run Tryd.prog wx = .ok (.string (S p3)) wx := fun wx => by go_simp
        have b7 : ∀ wx, (binOp .add 9 (.string (S p3)) (.string (S (Lib.itoa c)))).run Tryd.prog wx = .ok (.string (S p4)) wx := fun wx => by go_simp
        go_enter Tryd.func3, Tryd.ntmps3
        go_wp2_with (first
          | (go_at_call 6; refine (oalive_any _ (Hid.out (by assumption))).mono ?_; rintro r w4 ⟨rfl, hb4⟩; have A4 := Lib.hid (keep hb4 (k := w.heap.size) (o := .cells #[.int .i64 e, .int .i64 k, .int .i64 n, .int .i64 d, .int .i64 c] 24 (0, 0)) (Hid.out (by assumption))); have V4 := Lib.hid (keep hb4 (k := w.heap.size + 1) (o := .cells #[.int .i64 vk, .int .i64 vn] 26 (0, 0)) (Hid.out (by assumption))); have B4 := Lib.hid (below_next (w := w) (Hid.out (by assumption)) hb4); have T4 := Lib.hid (Tab.keep (Hid.out (by assumption)) hb4); clear hb4; have c0 : w4.cell? ⟨w.heap.size, 0, none⟩ = some (.int .i64 e) := cell_of_row _ _ _ _ _ _ A4.out; have c1 : w4.cell? ⟨w.heap.size, 1, none⟩ = some (.int .i64 k) := cell_of_row _ _ _ _ _ _ A4.out; have c2 : w4.cell? ⟨w.heap.size, 2, none⟩ = some (.int .i64 n) := cell_of_row _ _ _ _ _ _ A4.out; have c3 : w4.cell? ⟨w.heap.size, 3, none⟩ = some (.int .i64 d) := cell_of_row _ _ _ _ _ _ A4.out; have c4 : w4.cell? ⟨w.heap.size, 4, none⟩ = some (.int .i64 c) := cell_of_row _ _ _ _ _ _ A4.out; have v0 : w4.cell? ⟨w.heap.size + 1, 0, none⟩ = some (.int .i64 vk) := cell_of_row _ _ _ _ _ _ V4.out; have v1 : w4.cell? ⟨w.heap.size + 1, 1, none⟩ = some (.int .i64 vn) := cell_of_row _ _ _ _ _ _ V4.out)
          | (go_at_call 7; refine (dec_any e HE.out _).mono ?_; rintro r w4 ⟨rfl, hb4⟩; have A4 := Lib.hid (keep hb4 (k := w.heap.size) (o := .cells #[.int .i64 e, .int .i64 k, .int .i64 n, .int .i64 d, .int .i64 c] 24 (0, 0)) (Hid.out (by assumption))); have V4 := Lib.hid (keep hb4 (k := w.heap.size + 1) (o := .cells #[.int .i64 vk, .int .i64 vn] 26 (0, 0)) (Hid.out (by assumption))); have B4 := Lib.hid (below_next (w := w) (Hid.out (by assumption)) hb4); have T4 := Lib.hid (Tab.keep (Hid.out (by assumption)) hb4); clear hb4; have c0 : w4.cell? ⟨w.heap.size, 0, none⟩ = some (.int .i64 e) := cell_of_row _ _ _ _ _ _ A4.out; have c1 : w4.cell? ⟨w.heap.size, 1, none⟩ = some (.int .i64 k) := cell_of_row _ _ _ _ _ _ A4.out; have c2 : w4.cell? ⟨w.heap.size, 2, none⟩ = some (.int .i64 n) := cell_of_row _ _ _ _ _ _ A4.out; have c3 : w4.cell? ⟨w.heap.size, 3, none⟩ = some (.int .i64 d) := cell_of_row _ _ _ _ _ _ A4.out; have c4 : w4.cell? ⟨w.heap.size, 4, none⟩ = some (.int .i64 c) := cell_of_row _ _ _ _ _ _ A4.out; have v0 : w4.cell? ⟨w.heap.size + 1, 0, none⟩ = some (.int .i64 vk) := cell_of_row _ _ _ _ _ _ V4.out; have v1 : w4.cell? ⟨w.heap.size + 1, 1, none⟩ = some (.int .i64 vn) := cell_of_row _ _ _ _ _ _ V4.out)
          | (go_at_call 8; refine (lvalue_any k n HN.out _).mono ?_; rintro r w4 ⟨rfl, hb4⟩; have A4 := Lib.hid (keep hb4 (k := w.heap.size) (o := .cells #[.int .i64 e, .int .i64 k, .int .i64 n, .int .i64 d, .int .i64 c] 24 (0, 0)) (Hid.out (by assumption))); have V4 := Lib.hid (keep hb4 (k := w.heap.size + 1) (o := .cells #[.int .i64 vk, .int .i64 vn] 26 (0, 0)) (Hid.out (by assumption))); have B4 := Lib.hid (below_next (w := w) (Hid.out (by assumption)) hb4); have T4 := Lib.hid (Tab.keep (Hid.out (by assumption)) hb4); clear hb4; have c0 : w4.cell? ⟨w.heap.size, 0, none⟩ = some (.int .i64 e) := cell_of_row _ _ _ _ _ _ A4.out; have c1 : w4.cell? ⟨w.heap.size, 1, none⟩ = some (.int .i64 k) := cell_of_row _ _ _ _ _ _ A4.out; have c2 : w4.cell? ⟨w.heap.size, 2, none⟩ = some (.int .i64 n) := cell_of_row _ _ _ _ _ _ A4.out; have c3 : w4.cell? ⟨w.heap.size, 3, none⟩ = some (.int .i64 d) := cell_of_row _ _ _ _ _ _ A4.out; have c4 : w4.cell? ⟨w.heap.size, 4, none⟩ = some (.int .i64 c) := cell_of_row _ _ _ _ _ _ A4.out; have v0 : w4.cell? ⟨w.heap.size + 1, 0, none⟩ = some (.int .i64 vk) := cell_of_row _ _ _ _ _ _ V4.out; have v1 : w4.cell? ⟨w.heap.size + 1, 1, none⟩ = some (.int .i64 vn) := cell_of_row _ _ _ _ _ _ V4.out))
        go_region_held3 (fun w' => w'.cell? ⟨w.heap.size, 0, none⟩ = some (.int .i64 e) ∧ w'.cell? ⟨w.heap.size, 1, none⟩ = some (.int .i64 k) ∧ w'.cell? ⟨w.heap.size, 2, none⟩ = some (.int .i64 n) ∧ w'.cell? ⟨w.heap.size, 3, none⟩ = some (.int .i64 d) ∧ w'.cell? ⟨w.heap.size, 4, none⟩ = some (.int .i64 c) ∧ w'.cell? ⟨w.heap.size + 1, 0, none⟩ = some (.int .i64 vk) ∧ w'.cell? ⟨w.heap.size + 1, 1, none⟩ = some (.int .i64 vn) ∧ Tab w' ∧ Below w.heap.size w w')
          (first
            | exact ⟨c0, c1, c2, c3, c4, v0, v1, Tab.keep (Hid.out (by assumption)) (Below.refl _ _).drew, Below.drew (Hid.out (by assumption))⟩
            | (go_split_ands; exact ⟨cell_keep hb5 (by assumption), cell_keep hb5 (by assumption), cell_keep hb5 (by assumption), cell_keep hb5 (by assumption), cell_keep hb5 (by assumption), cell_keep hb5 (by assumption), cell_keep hb5 (by assumption), Tab.keep (by assumption) hb5, below_next (by assumption) hb5⟩))
          (first
            | (go_at_call 7; (first
                | ((with_reducible refine (dec_any d HD.out _).mono ?_); rintro r w5 ⟨rfl, hb5⟩)
                | ((with_reducible refine (dec_any c HC.out _).mono ?_); rintro r w5 ⟨rfl, hb5⟩))))
        go_wp2_with fail
        go_region_held3 (fun w' => w'.cell? ⟨w.heap.size, 0, none⟩ = some (.int .i64 e) ∧ w'.cell? ⟨w.heap.size, 1, none⟩ = some (.int .i64 k) ∧ w'.cell? ⟨w.heap.size, 2, none⟩ = some (.int .i64 n) ∧ w'.cell? ⟨w.heap.size, 3, none⟩ = some (.int .i64 d) ∧ w'.cell? ⟨w.heap.size, 4, none⟩ = some (.int .i64 c) ∧ w'.cell? ⟨w.heap.size + 1, 0, none⟩ = some (.int .i64 vk) ∧ w'.cell? ⟨w.heap.size + 1, 1, none⟩ = some (.int .i64 vn) ∧ Tab w' ∧ Below w.heap.size w w')
          (first
            | (go_split_ands; exact ⟨by assumption, by assumption, by assumption, by assumption, by assumption, by assumption, by assumption, Tab.keep (by assumption) (Below.refl _ _).drew, Below.drew (by assumption)⟩)
            | (go_split_ands; exact ⟨cell_keep hb5 (by assumption), cell_keep hb5 (by assumption), cell_keep hb5 (by assumption), cell_keep hb5 (by assumption), cell_keep hb5 (by assumption), cell_keep hb5 (by assumption), cell_keep hb5 (by assumption), Tab.keep (by assumption) hb5, below_next (by assumption) hb5⟩))
          (first
            | (go_split_ands; go_at_call 9; refine (answer_any e k n d c HE.out HN.out HD.out HC.out _ (by assumption)).mono ?_; rintro r w5 ⟨rfl, hb5⟩; rw [hx.out])
            | (go_split_ands; go_at_call 10; refine (value_any vk vn HV.out _ (by assumption)).mono ?_; rintro r w5 ⟨rfl, hb5⟩)
            | (go_at_call 8; refine (lvalue_any vk vn HV.out _).mono ?_; rintro r w5 ⟨rfl, hb5⟩))
        go_wp2_with fail
        go_split_ands
        go_ret
        exact ⟨rfl, by assumption⟩
end Go.Proofs.YtbbdjfbhidpeiaaDoor
