/- What code.get comes to. -/
import Derived.Test.YtednooklmonblaaStp4
namespace Go.Proofs.Ytednooklmonblaa
open Go.RowKit

theorem wrap_eq (z : Int) : IntKind.i64.wrap z = wrap64 z := by rw [IntKind.wrap_i64]; unfold wrap64; omega
theorem u64_in {a : Int} (h0 : 0 ≤ a) (h1 : a < 256 ^ 8) : IntKind.u64.wrap a = a := by
  have : (256 : Int) ^ 8 = 18446744073709551616 := by decide
  simp only [IntKind.wrap]
  have e : (IntKind.u64.signed) = false := rfl
  simp [IntKind.bits, e]
  omega
theorem pow7 (j : Nat) (h : j ≤ 7) : (256 : Int) ^ j ≤ 256 ^ 7 := by
  have : j = 0 ∨ j = 1 ∨ j = 2 ∨ j = 3 ∨ j = 4 ∨ j = 5 ∨ j = 6 ∨ j = 7 := by omega
  rcases this with rfl | rfl | rfl | rfl | rfl | rfl | rfl | rfl <;> decide
theorem or_u64 (n x : Int) (h0 : 0 ≤ n) (h1 : n * 256 < 256 ^ 8) (h2 : 0 ≤ x) (h3 : x ≤ 255) : bits .or .u64 (n * 256) x = n * 256 + x := by
  have e : (256 : Int) ^ 8 = 2 ^ 64 := by decide
  exact bits_join .u64 64 (by decide) (fun m hm0 hm1 => u64_in hm0 (by rw [e]; exact hm1)) 8 _ _ (by omega) (by omega) (by rw [← e]; exact h1) h2 (by omega) (by omega)

set_option maxHeartbeats 1000000 in
theorem get_any (A : Option Addr) (n cap : Nat) (xs : List Int) (w : World) (hn : n ≤ 8) (h : RdB w A n xs) :
    Calls Try.prog 45 #[.slice A n cap] w fun e w' => e = .returned (.int .i64 (wrap64 (valI xs))) ∧ w = w' := by
  have HR := Lib.hid h
  clear h
  go_enter Try.func45, Try.ntmps45
  go_wp2_with fail
  go_loop [3, 8] (fun v i => ∃ j : Nat, j ≤ n ∧ i = .int .i64 j ∧ v = .int .u64 (valI (xs.take j))) (fun _ i => n - (intOf i).toNat)
  case atStart => exact ⟨0, by omega, rfl, rfl⟩
  case round =>
    obtain ⟨j, hj, rfl, rfl⟩ := hrel
    have HL := Lib.hid HR.out.len
    by_cases hlt : j < n
    · obtain ⟨b, o, rfl, hc⟩ := HR.out.cell (by omega)
      have hcj := hc j hlt
      clear hc
      obtain ⟨y, hy⟩ : ∃ y, y = xs.getD j 0 := ⟨_, rfl⟩
      have hyb := getD_byte HR.out.byte j
      rw [← hy] at hyb hcj
      have hv := valI_bd HR.out.byte j (by rw [HL.out]; omega)
      have hvt := valI_take xs j (by rw [HL.out]; exact hlt)
      rw [← hy] at hvt
      obtain ⟨x, hx⟩ : ∃ x, x = valI (xs.take j) := ⟨_, rfl⟩
      rw [← hx] at hv hvt
      have h256 : x * 256 < 256 ^ 8 := by
        have h1 : (256 : Int) ^ j ≤ 256 ^ 7 := pow7 j (by omega)
        have h2 : (256 : Int) ^ 8 = 256 ^ 7 * 256 := by decide
        omega
      have e1 : IntKind.u64.wrap (x * 256) = x * 256 := u64_in (by omega) h256
      have e2 : bits .or .u64 (x * 256) y = x * 256 + y := or_u64 x y hv.1 h256 hyb.1 hyb.2
      have e3 : IntKind.u64.wrap y = y := u64_in hyb.1 (by have : (256 : Int) ^ 8 = 18446744073709551616 := by decide
                                                           omega)
      have HV := Lib.hid hvt
      rw [← hx]
      have HX := Lib.hid hx
      clear hv hvt h256 hy hx
      go_wp2_with fail
      go_round
      case rel => exact ⟨j + 1, by omega, by go_num, by rw [HV.out]⟩
      case measure => simp [intOf]; omega
    · obtain rfl : j = n := by omega
      go_wp2_with fail
      go_ret
      exact ⟨ret_int (by rw [List.take_of_length_le (by rw [HL.out]; omega)]), rfl⟩
end Go.Proofs.Ytednooklmonblaa
