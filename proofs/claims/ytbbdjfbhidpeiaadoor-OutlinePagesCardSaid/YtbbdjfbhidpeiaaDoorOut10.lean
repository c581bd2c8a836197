/- What OutlinePages answers. -/
import Derived.Test.YtbbdjfbhidpeiaaDoorOut8
namespace Go.Proofs.YtbbdjfbhidpeiaaDoor
open Go.RowKit

def preT (c : Cfg) : Nat → List UInt8
  | 0 => []
  | k + 1 => (if k = 0 then [] else preT c k ++ [32]) ++ Lib.itoa (c.nums.getD k 0)
theorem preT_all (c : Cfg) : preT c 10 = c.text := by
  simp [preT, Cfg.text, Cfg.nums, Lib.join, List.intercalate]
theorem preT_len (c : Cfg) (h : ∀ x ∈ c.nums, Rng x) : ∀ k, k ≤ 10 → (preT c k).length ≤ 22 * k
  | 0, _ => by simp [preT]
  | k + 1, hk => by
    have h1 := preT_len c h k (by omega)
    have h2 := itoa_len (h (c.nums.getD k 0) (by rw [List.getD_eq_getElem?_getD, List.getElem?_eq_getElem (by simp [Cfg.nums]; omega)]; exact List.getElem_mem _))
    simp only [preT, List.length_append]
    split
    · simp only [List.length_nil]; omega
    · simp only [List.length_append, List.length_cons, List.length_nil]; omega
def lets : Array Value := #[.string ⟨#[46]⟩, .string ⟨#[49]⟩, .string ⟨#[50]⟩, .string ⟨#[51]⟩, .string ⟨#[52]⟩, .string ⟨#[76]⟩, .string ⟨#[108]⟩]

theorem cells_nums (c : Cfg) : ∀ k : Nat, k < 10 → c.cells[k]? = some (.int .i64 (c.nums.getD k 0))
  | 0, _ | 1, _ | 2, _ | 3, _ | 4, _ | 5, _ | 6, _ | 7, _ | 8, _ | 9, _ => rfl
  | j + 10, h => absurd h (by omega)

set_option maxHeartbeats 8000000 in
set_option maxRecDepth 100000 in
theorem pages_law (A : Option Addr) (n cap : Nat) (xs : List Int) (c : Cfg) (hc : ∀ x ∈ c.nums, Rng x) (w : World) (h : RdI w A n xs) (ht : Tab w) :
    Calls Tryd.prog 5 #[.slice A n cap, .agg c.cells] w fun e w' => e = .returned (.bool true) ∧ Below w.heap.size w w' := by
  have hmax := h.max
  have hlen := h.len
  have HC := Lib.hid hc
  have A0 := Lib.hid (heap_alloc_new w (.cells c.cells 46))
  have B0 := Lib.hid (below_alloc0 w (.cells c.cells 46))
  have R0 := Lib.hid (h.below B0.out)
  have T0 := Lib.hid (ht.keep B0.out)
  clear h ht hc
  go_enter Tryd.func5, Tryd.ntmps5
  go_wp2_with (first
    | (go_at_call 6; refine (oalive_any _ T0.out).mono ?_; rintro e w1 ⟨rfl, hb1⟩; have A1 := Lib.hid (keep hb1 A0.out); have B1 := Lib.hid (below_next B0.out hb1); have R1 := Lib.hid (R0.out.below hb1); have T1 := Lib.hid (T0.out.keep hb1); clear hb1)
    | (refine wpList_store_new rfl 47 _ _ rfl lets rfl rfl 47 _ (by kernel_rfl) rfl (by kernel_rfl) ?_))
  have L0 := Lib.hid (heap_alloc_new w1 (.cells lets 47))
  have A2 := Lib.hid (keep_alloc (.cells lets 47) A1.out)
  have B2 := Lib.hid (below_new B1.out (.cells lets 47))
  have R2 := Lib.hid (R1.out.alloc (.cells lets 47))
  have T2 := Lib.hid (T1.out.keep (below_alloc0 w1 (.cells lets 47)))
  clear A0 B0 R0 T0 A1 B1 R1 T1
  generalize w1.alloc (.cells lets 47) = W at *
  generalize w1.heap.size = Lb at *
  go_loopw [6, 7] (fun v i wq => wq = W ∧ ∃ k : Nat, k ≤ n ∧ i = .int .i64 k ∧ v = .string (S ((xs.take k).map ltr))) (fun _ i _ => n - (intOf i).toNat)
  case atStart => exact ⟨rfl, 0, by omega, rfl, rfl⟩
  case round =>
    obtain ⟨rfl, k, hk, rfl, rfl⟩ := hrel
    by_cases hlt : k < n
    · obtain ⟨b, o, rfl, _, hcell⟩ := R2.out.cell (by omega)
      have hcx := hcell k hlt
      obtain ⟨x, hx⟩ : ∃ x, x = xs.getD k 0 := ⟨_, rfl⟩
      rw [← hx] at hcx
      have HM := Lib.hid (let_more hlen hlt hx)
      replace hx := Lib.hid hx
      clear hcell
      obtain ⟨cur, hcur⟩ : ∃ cur, cur = (xs.take k).map ltr := ⟨_, rfl⟩
      rw [← hcur]
      rw [← hcur] at HM
      have hcl : cur.length ≤ k := by rw [hcur]; simp; omega
      have gs : ¬ 9223372036854775807 < (S cur).size + 1 := by rw [S_size]; omega
      have l0 : wr.cell? ⟨Lb, 0, none⟩ = some (.string ⟨#[46]⟩) := cell_of_row _ _ _ _ _ _ L0.out
      have q0 : S cur ++ (⟨#[46]⟩ : ByteArray) = S (cur ++ [46]) := S_app _ _
      have l1 : wr.cell? ⟨Lb, 1, none⟩ = some (.string ⟨#[49]⟩) := cell_of_row _ _ _ _ _ _ L0.out
      have q1 : S cur ++ (⟨#[49]⟩ : ByteArray) = S (cur ++ [49]) := S_app _ _
      have l2 : wr.cell? ⟨Lb, 2, none⟩ = some (.string ⟨#[50]⟩) := cell_of_row _ _ _ _ _ _ L0.out
      have q2 : S cur ++ (⟨#[50]⟩ : ByteArray) = S (cur ++ [50]) := S_app _ _
      have l3 : wr.cell? ⟨Lb, 3, none⟩ = some (.string ⟨#[51]⟩) := cell_of_row _ _ _ _ _ _ L0.out
      have q3 : S cur ++ (⟨#[51]⟩ : ByteArray) = S (cur ++ [51]) := S_app _ _
      have l4 : wr.cell? ⟨Lb, 4, none⟩ = some (.string ⟨#[52]⟩) := cell_of_row _ _ _ _ _ _ L0.out
      have q4 : S cur ++ (⟨#[52]⟩ : ByteArray) = S (cur ++ [52]) := S_app _ _
      have l5 : wr.cell? ⟨Lb, 5, none⟩ = some (.string ⟨#[76]⟩) := cell_of_row _ _ _ _ _ _ L0.out
      have q5 : S cur ++ (⟨#[76]⟩ : ByteArray) = S (cur ++ [76]) := S_app _ _
      have l6 : wr.cell? ⟨Lb, 6, none⟩ = some (.string ⟨#[108]⟩) := cell_of_row _ _ _ _ _ _ L0.out
      have q6 : S cur ++ (⟨#[108]⟩ : ByteArray) = S (cur ++ [108]) := S_app _ _
      have q9 : S cur ++ (⟨#[63]⟩ : ByteArray) = S (cur ++ [63]) := S_app _ _
      clear hcur hcl
      have hx8 : x = 0 ∨ x = 1 ∨ x = 2 ∨ x = 3 ∨ x = 4 ∨ x = 5 ∨ x = 6 ∨ x < 0 ∨ 6 < x := by omega
      rcases hx8 with rfl | rfl | rfl | rfl | rfl | rfl | rfl | hx9 | hx9
      case inr.inr.inr.inr.inr.inr.inr.inl =>
        have hd : decide (x < 0) = true := by simpa using hx9
        have hg : ltr x = 63 := by unfold ltr; repeat' rw [if_neg (by omega)]
        go_wp2_with fail
        go_roundw
        case rel => exact ⟨by first | rfl | trivial, k + 1, by omega, by go_num, by rw [HM.out, hg]⟩
        case measure => simp [intOf]; omega
      case inr.inr.inr.inr.inr.inr.inr.inr =>
        have hd : decide (x < 0) = false := by simp; omega
        have hd7 : decide (6 < x) = true := by simp; omega
        have hg : ltr x = 63 := by unfold ltr; repeat' rw [if_neg (by omega)]
        go_wp2_with fail
        go_roundw
        case rel => exact ⟨by first | rfl | trivial, k + 1, by omega, by go_num, by rw [HM.out, hg]⟩
        case measure => simp [intOf]; omega
      all_goals
        go_wp2_with fail
        refine ⟨⟨by first | rfl | trivial, k + 1, by omega, by go_num, by rw [HM.out]; rfl⟩, ?_⟩
        simp [intOf]; omega
    · obtain rfl : k = n := by omega
      clear hk hlt
      have HT : Hid ((xs.take k).map ltr = xs.map ltr) := Lib.hid (by rw [← hlen, List.take_length])
      rw [HT.out]
      clear HT hlen
      have c0 : wr.cell? ⟨w.heap.size, 0, none⟩ = some (.int .i64 c.p) := cell_of_row _ _ _ _ _ _ A2.out
      have c1 : wr.cell? ⟨w.heap.size, 1, none⟩ = some (.int .i64 c.t) := cell_of_row _ _ _ _ _ _ A2.out
      have c2 : wr.cell? ⟨w.heap.size, 2, none⟩ = some (.int .i64 c.w) := cell_of_row _ _ _ _ _ _ A2.out
      have c3 : wr.cell? ⟨w.heap.size, 3, none⟩ = some (.int .i64 c.q) := cell_of_row _ _ _ _ _ _ A2.out
      have c4 : wr.cell? ⟨w.heap.size, 4, none⟩ = some (.int .i64 c.g) := cell_of_row _ _ _ _ _ _ A2.out
      have c5 : wr.cell? ⟨w.heap.size, 5, none⟩ = some (.int .i64 c.cap) := cell_of_row _ _ _ _ _ _ A2.out
      have c6 : wr.cell? ⟨w.heap.size, 6, none⟩ = some (.int .i64 c.tax) := cell_of_row _ _ _ _ _ _ A2.out
      have c7 : wr.cell? ⟨w.heap.size, 7, none⟩ = some (.int .i64 c.ch) := cell_of_row _ _ _ _ _ _ A2.out
      have c8 : wr.cell? ⟨w.heap.size, 8, none⟩ = some (.int .i64 c.st) := cell_of_row _ _ _ _ _ _ A2.out
      have c9 : wr.cell? ⟨w.heap.size, 9, none⟩ = some (.int .i64 c.tr) := cell_of_row _ _ _ _ _ _ A2.out
      go_wp2_with (refine wpList_store_new rfl 48 _ _ rfl c.cells rfl rfl 48 _ (by kernel_rfl) rfl (by kernel_rfl) ?_)
      clear c0 c1 c2 c3 c4 c5 c6 c7 c8 c9 L0
      have N0 := Lib.hid (heap_alloc_new wr (.cells c.cells 48))
      have BW := Lib.hid (below_alloc0 wr (.cells c.cells 48))
      obtain ⟨Nb, hNb⟩ : ∃ Nb, Nb = wr.heap.size := ⟨_, rfl⟩
      rw [← hNb] at N0
      rw [← hNb]
      clear hNb
      generalize wr.alloc (.cells c.cells 48) = W at *
      go_loopw [9, 10] (fun v i wq => ∃ j : Nat, j ≤ 10 ∧ i = .int .i64 j ∧ v = .string (S (preT c j)) ∧ Hid (Below W.heap.size W wq)) (fun _ i _ => 10 - (intOf i).toNat)
      case atStart => exact ⟨0, by omega, rfl, rfl, Lib.hid (Below.refl _ _)⟩
      case round =>
        obtain ⟨j, hj, rfl, rfl, HB⟩ := hrel
        by_cases hlt : j < 10
        · have hpl := preT_len c HC.out j hj
          obtain ⟨x, hx⟩ : ∃ x, x = c.nums.getD j 0 := ⟨_, rfl⟩
          have HR : Hid (Rng x) := Lib.hid (by rw [hx]; exact HC.out _ (by rw [List.getD_eq_getElem?_getD, List.getElem?_eq_getElem (by simp [Cfg.nums]; omega)]; exact List.getElem_mem _))
          have KN := keep HB.out N0.out
          have hck : wr.cell? ⟨Nb, j, none⟩ = some (.int .i64 x) := by rw [cell_of_row _ _ _ _ _ _ KN, hx]; exact cells_nums c j hlt
          have hst : preT c (j + 1) = (if j = 0 then [] else preT c j ++ [32]) ++ Lib.itoa x := by rw [hx]; rfl
          have hil := itoa_len HR.out
          obtain ⟨cur, hcur⟩ : ∃ cur, cur = preT c j := ⟨_, rfl⟩
          rw [← hcur]
          rw [← hcur] at hpl hst
          obtain ⟨c2, hc2⟩ : ∃ c2, c2 = cur ++ [32] := ⟨_, rfl⟩
          have hl2 : c2.length ≤ 22 * j + 1 := by rw [hc2]; simp; omega
          have g1 : ¬ 9223372036854775807 < (S cur).size + 1 := by rw [S_size]; omega
          have g2 : ¬ 9223372036854775807 < (S c2).size + (S (Lib.itoa x)).size := by rw [S_size, S_size]; omega
          have g3 : ¬ 9223372036854775807 < (S cur).size + (S (Lib.itoa x)).size := by rw [S_size, S_size]; omega
          have q1 : S cur ++ (⟨#[32]⟩ : ByteArray) = S c2 := by rw [hc2]; exact S_app _ _
          have q2 : S c2 ++ S (Lib.itoa x) = S (c2 ++ Lib.itoa x) := S_app _ _
          have q3 : S cur ++ S (Lib.itoa x) = S (cur ++ Lib.itoa x) := S_app _ _
          by_cases hj0 : j = 0
          · subst hj0
            have HS : Hid (preT c 1 = cur ++ Lib.itoa x) := Lib.hid (by rw [hst, if_pos rfl, hcur]; rfl)
            clear hpl hil hl2 hc2 hst hx KN hcur
            go_wp2_with (go_at_call 7; refine (dec_any x HR.out _).mono ?_; rintro e w6 ⟨rfl, hb6⟩)
            go_roundw
            case rel => exact ⟨1, by omega, by go_num, by rw [HS.out], Lib.hid (below_next HB.out hb6)⟩
            case measure => simp [intOf]
          · have HS : Hid (preT c (j + 1) = c2 ++ Lib.itoa x) := Lib.hid (by rw [hst, if_neg hj0, hc2])
            have hdj : decide (0 < (j : Int)) = true := by simp; omega
            have hdj2 : decide (0 < j) = true := by simp; omega
            clear hpl hil hl2 hc2 hst hx KN hcur
            go_wp2_with (go_at_call 7; refine (dec_any x HR.out _).mono ?_; rintro e w6 ⟨rfl, hb6⟩)
            go_roundw
            case rel => exact ⟨j + 1, by omega, by go_num, by rw [HS.out], Lib.hid (below_next HB.out hb6)⟩
            case measure => simp [intOf]; omega
        · obtain rfl : j = 10 := by omega
          clear hj hlt
          rw [preT_all]
          have BR := Lib.hid (below_next BW.out HB.out)
          have A5 := Lib.hid (keep BR.out A2.out)
          have R5 := Lib.hid (R2.out.below BR.out)
          have T5 := Lib.hid (T2.out.keep BR.out)
          have B5 := Lib.hid (below_next B2.out BR.out)
          go_wp2_with (first
            | (go_at_call 14; refine (pagetext_any A k cap xs _ R5.out).mono ?_; rintro e w6 ⟨rfl, hb6⟩; have A6 := Lib.hid (keep hb6 A5.out); have B6 := Lib.hid (below_next B5.out hb6); have T6 := Lib.hid (T5.out.keep hb6); clear hb6)
            | (go_at_call 15; refine (cfgtext_any c HC.out _ T6.out).mono ?_; rintro e w7 ⟨rfl, hb7⟩; have B7 := Lib.hid (below_next B6.out hb7); clear hb7)
            | (refine gate_guard (by rfl) ?_; refine wpList_load_row rfl 46 _ rfl w.heap.size rfl 46 c.cells (0, 0) _ ?_ Tryd.underlying46 rfl (by kernel_rfl) ?_; exact Hid.out (by assumption)))
          go_ret
          exact ⟨rfl, B7.out⟩
end Go.Proofs.YtbbdjfbhidpeiaaDoor
