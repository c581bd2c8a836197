/- What the functions of package bitmap come to. -/
import Derived.Test.YtfocdbflmodfhaaDoorBit0
import Derived.Test.YtfocdbflmodfhaaDoorGeo
namespace Go.Proofs.YtfocdbflmodfhaaDoor
open Go.RowKit

def inB (n : Nat) (i : Int) : Bool := decide (0 ≤ i ∧ i < n)
set_option maxHeartbeats 1000000 in
theorem sin_any {w : World} {s n : Nat} {ws : List (BitVec 64)} (h : Sx w s n ws) (i : Int) :
    Calls Tryd.prog 77 #[.pointer (some ⟨s, 0, none⟩), .int .i64 i] w fun e w' => e = .returned (.bool (inB n i)) ∧ w = w' := by
  obtain ⟨c0, c1⟩ := h.cells
  clear h
  by_cases h0 : i < 0
  · have hs := Lib.hid (show inB n i = false by simp [inB]; omega)
    have d0 : decide (0 ≤ i) = false := by simp; omega
    go_enter Tryd.func77, Tryd.ntmps77
    go_wp2_with fail
    go_ret
    exact ⟨ret_bool hs.out.symm, rfl⟩
  · have h0' : 0 ≤ i := by omega
    have hs := Lib.hid (show inB n i = decide (i < n) by simp [inB, h0'])
    go_enter Tryd.func77, Tryd.ntmps77
    go_wp2_with fail
    go_ret
    exact ⟨ret_bool hs.out.symm, rfl⟩
/-- Is it in it? -/
def hasB (n : Nat) (ws : List (BitVec 64)) (i : Int) : Bool := inB n i && bit ws i.toNat
set_option maxHeartbeats 1000000 in
theorem has_any {w : World} {s n : Nat} {ws : List (BitVec 64)} (h : Sx w s n ws) (i : Int) :
    Calls Tryd.prog 67 #[.pointer (some ⟨s, 0, none⟩), .int .i64 i] w fun e w' => e = .returned (.bool (hasB n ws i)) ∧ w = w' := by
  have H := Lib.hid h
  cases hi : inB n i with
  | false =>
    have hs := Lib.hid (show hasB n ws i = false by simp [hasB, hi])
    have HI := Lib.hid hi
    clear h hi
    go_enter Tryd.func67, Tryd.ntmps67
    go_wp2_with (go_at_call 77; refine (sin_any H.out i).mono ?_; rw [HI.out]; rintro e w' ⟨rfl, rfl⟩)
    go_ret
    exact ⟨ret_bool hs.out.symm, rfl⟩
  | true =>
    have hd := hi
    simp only [inB, decide_eq_true_eq] at hd
    obtain ⟨j, rfl⟩ := Int.eq_ofNat_of_zero_le hd.1
    have hn := h.le
    have hq : ((j : Int) / 64) = ((j / 64 : Nat) : Int) := by norm_cast
    have hr : ((j : Int) % 64) = ((j % 64 : Nat) : Int) := by norm_cast
    have cw := h.word (q := j / 64) (by omega)
    have hs := show hasB n ws j = (ws.getD (j / 64) 0#64).getLsbD (j % 64) by simp [hasB, hi, bit]
    obtain ⟨q, e1⟩ : ∃ q, q = j / 64 := ⟨_, rfl⟩
    obtain ⟨r, e2⟩ : ∃ r, r = j % 64 := ⟨_, rfl⟩
    rw [← e1] at hq cw hs
    rw [← e2] at hr hs
    have hr64 : (r : Int) ≤ 64 := by omega
    have hq32 : (q : Int) < 32 := by omega
    obtain ⟨x, hx⟩ : ∃ x, x = ws.getD q 0#64 := ⟨_, rfl⟩
    rw [← hx] at cw hs
    have cw' : w.cell? ⟨s, 2 + q, none⟩ = some (.int .u64 x.toNat) := cw
    have HA := shr_and x r
    have hs' := Lib.hid hs
    have HI := Lib.hid hi
    clear h hi hd hs cw hx e1 e2 hn
    cases hb : x.getLsbD r with
    | true =>
      rw [hb, if_pos rfl] at HA
      rw [hb] at hs'
      clear hb
      go_enter Tryd.func67, Tryd.ntmps67
      go_wp2_with (go_at_call 77; refine (sin_any H.out j).mono ?_; rw [HI.out]; rintro e w' ⟨rfl, rfl⟩)
      go_ret
      exact ⟨ret_bool hs'.out.symm, rfl⟩
    | false =>
      rw [hb] at HA hs'
      simp only [Bool.false_eq_true, if_false] at HA
      clear hb
      go_enter Tryd.func67, Tryd.ntmps67
      go_wp2_with (go_at_call 77; refine (sin_any H.out j).mono ?_; rw [HI.out]; rintro e w' ⟨rfl, rfl⟩)
      go_ret
      exact ⟨ret_bool hs'.out.symm, rfl⟩
end Go.Proofs.YtfocdbflmodfhaaDoor
