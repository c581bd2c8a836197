/- Letters of pages. -/
import Derived.Test.YtbbdjfbhidpeiaaDoorOut3
namespace Go.Proofs.YtbbdjfbhidpeiaaDoor
open Go.RowKit

def ltr (k : Int) : UInt8 := if k = 0 then 46 else if k = 1 then 49 else if k = 2 then 50 else if k = 3 then 51 else if k = 4 then 52 else if k = 5 then 76 else if k = 6 then 108 else 63
theorem byte_more (l : List UInt8) (g : UInt8) (c : Int) (h : c = g.toNat) : Lib.byteCells l ++ [.int .u8 c] = Lib.byteCells (l ++ [g]) := by
  subst h; simp [Lib.byteCells]
theorem let_more {n : Nat} {xs : List Int} (hl : xs.length = n) {k : Nat} (hk : k < n) {x : Int} (hx : x = xs.getD k 0) : ((xs.take (k + 1)).map ltr) = (xs.take k).map ltr ++ [ltr x] := by
  rw [List.take_add_one, List.getElem?_eq_getElem (by omega), List.map_append, hx]
  simp [List.getD_eq_getElem?_getD, List.getElem?_eq_getElem (show k < xs.length by omega)]

set_option maxHeartbeats 8000000 in
set_option maxRecDepth 100000 in
theorem pagetext_any (A : Option Addr) (n cap : Nat) (xs : List Int) (w : World) (h : RdI w A n xs) :
    Calls Tryd.prog 14 #[.slice A n cap] w fun e w' => e = .returned (.string (S (xs.map ltr))) ∧ Below w.heap.size w w' := by
  have hmax := h.max
  have hlen := h.len
  have R0 := Lib.hid h
  have I0 : Hid (Lib.IsBuilder 56 5 w.heap.size w.heap.size (Lib.byteCells ((xs.take 0).map ltr)) (w.alloc (.cells #[.pointer none, .slice none 0 0] 56))) := Lib.hid (Lib.fresh_isBuilder _ _ w)
  have B0 := Lib.hid (below_alloc0 w (.cells #[.pointer none, .slice none 0 0] 56))
  clear h
  go_enter Tryd.func14, Tryd.ntmps14
  go_wp2_with fail
  go_loopw [8] (fun i wr => ∃ (k : Nat), k ≤ n ∧ i = .int .i64 k ∧ Hid (Lib.IsBuilder 56 5 w.heap.size w.heap.size (Lib.byteCells ((xs.take k).map ltr)) wr) ∧ Hid (Below w.heap.size w wr)) (fun i _ => n - (intOf i).toNat)
  case atStart => exact ⟨0, by omega, rfl, I0, B0⟩
  case round =>
    clear I0 B0
    obtain ⟨k, hk, rfl, I0, B0⟩ := hrel
    by_cases hlt : k < n
    · obtain ⟨b, o, rfl, _, hcell⟩ := (R0.out.below B0.out).cell (by omega)
      have hcx := hcell k hlt
      obtain ⟨x, hx⟩ : ∃ x, x = xs.getD k 0 := ⟨_, rfl⟩
      rw [← hx] at hcx
      have HM := Lib.hid (let_more hlen hlt hx)
      replace hx := Lib.hid hx
      clear hcell
      have hbs : (Lib.byteCells ((xs.take k).map ltr)).length + 1 ≤ 140737488355328 := by simp [Lib.byteCells]; omega
      have HL := Lib.hid hbs
      clear hbs
      have hx8 : x = 0 ∨ x = 1 ∨ x = 2 ∨ x = 3 ∨ x = 4 ∨ x = 5 ∨ x = 6 ∨ x < 0 ∨ 6 < x := by omega
      rcases hx8 with rfl | rfl | rfl | rfl | rfl | rfl | rfl | hx9 | hx9
      case inr.inr.inr.inr.inr.inr.inr.inl => 
        have hd : decide (x < 0) = true := by simpa using hx9
        have hg : ltr x = 63 := by unfold ltr; repeat' rw [if_neg (by omega)]
        go_wp2_with (go_at_call 18; refine (writebyte_any w.heap.size w.heap.size _ 63 _ I0.out HL.out B0.out.size).mono ?_; rintro e w1 ⟨rfl, h1, hb1⟩)
        go_roundw
        case rel => exact ⟨k + 1, by omega, by go_num, Lib.hid (by rw [HM.out, ← byte_more _ _ 63 (by rw [hg]; rfl)]; exact .inr h1), Lib.hid (B0.out.trans hb1)⟩
        case measure => simp [intOf]; omega
      case inr.inr.inr.inr.inr.inr.inr.inr =>
        have hd : decide (x < 0) = false := by simp; omega
        have hd7 : decide (7 ≤ x) = true := by simp; omega
        have hg : ltr x = 63 := by unfold ltr; repeat' rw [if_neg (by omega)]
        go_wp2_with (go_at_call 18; refine (writebyte_any w.heap.size w.heap.size _ 63 _ I0.out HL.out B0.out.size).mono ?_; rintro e w1 ⟨rfl, h1, hb1⟩)
        go_roundw
        case rel => exact ⟨k + 1, by omega, by go_num, Lib.hid (by rw [HM.out, ← byte_more _ _ 63 (by rw [hg]; rfl)]; exact .inr h1), Lib.hid (B0.out.trans hb1)⟩
        case measure => simp [intOf]; omega
      all_goals
        go_wp2_with (go_at_call 18; refine (writebyte_any w.heap.size w.heap.size _ _ _ I0.out HL.out B0.out.size).mono ?_; rintro e w1 ⟨rfl, h1, hb1⟩)
        refine ⟨⟨k + 1, by omega, by go_num, Lib.hid (by rw [HM.out, ← byte_more _ _ _ rfl]; exact .inr h1), Lib.hid (B0.out.trans hb1)⟩, ?_⟩
        simp [intOf]; omega
    · obtain rfl : k = n := by omega
      clear hk hlt
      have HT : Hid ((xs.take k).map ltr = xs.map ltr) := Lib.hid (by rw [← hlen, List.take_length])
      go_wp2_with (go_at_call 19; refine (Tryd.Builder_String_any w.heap.size w.heap.size (xs.map ltr) _ (HT.out ▸ I0.out) B0.out.size).mono ?_; rintro e w1 ⟨rfl, hb1⟩)
      go_ret
      exact ⟨rfl, B0.out.trans hb1⟩
end Go.Proofs.YtbbdjfbhidpeiaaDoor
