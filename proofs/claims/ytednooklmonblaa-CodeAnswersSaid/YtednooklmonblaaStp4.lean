/- What code.put comes to: octets behind a slice of the call's own. -/
import Derived.Test.YtednooklmonblaaStp1
namespace Go.Proofs.Ytednooklmonblaa
open Go.RowKit

theorem Try.info5' : (Try.prog.info? 5).map (fun i => (i.zero, i.size, i.bytes)) = some (some (.int .u8 0), 1, 1) := by kernel_rfl

set_option maxHeartbeats 1000000 in
theorem put_any (v : Value) (m k : Nat) (xs : List Value) (n : Int) (base : Nat) (w : World) (hk : k ≤ 8) (hm : m ≤ 1000000) (hbase : base ≤ w.heap.size) (ho : w.ownsRow base 5 1 v m xs) :
    Calls Try.prog 43 #[v, .int .i64 n, .int .i64 k] w fun e w' => ∃ v', e = .returned v' ∧ w'.ownsRow base 5 1 v' (m + k) (xs ++ beV n k) ∧ Below base w w' := by
  obtain ⟨i0, hi, hz0, hz1, hz2⟩ := info_parts Try.info5'
  have hi := Lib.hid hi
  have hz0 := Lib.hid hz0
  have hz1 := Lib.hid hz1
  have hz2 := Lib.hid hz2
  have HO := Lib.hid ho
  clear ho
  go_enter Try.func43, Try.ntmps43
  go_wp2_with fail
  have HB : Hid (Below base w w) := Below.refl _ _
  go_loopw [0, 7] (fun v i wr => ∃ (r d : Nat) (z : Int) (cur : List Value), d + r = k ∧ z + 1 = r ∧ i = .int .i64 z ∧ Hid (wr.ownsRow base 5 1 v (m + d) cur) ∧ Hid (cur ++ beV n r = xs ++ beV n k) ∧ Hid (Below base w wr)) (fun _ i _ => (intOf i + 1).toNat)
  case atStart => exact ⟨k, 0, (k : Int) - 1, xs, by omega, by omega, rfl, HO, rfl, HB⟩
  case round =>
    clear HO HB
    obtain ⟨r, d, z, cur, hr, hz, rfl, HO, HC, HB⟩ := hrel
    have hs := HB.out.size
    match r, hr, hz, HC with
    | 0, hr, hz, HC =>
      obtain rfl : z = -1 := by omega
      go_wp2_with fail
      go_ret
      obtain rfl : d = k := by omega
      exact ⟨_, rfl, by rw [← HC.out]; simpa [beV, beI] using HO.out, HB.out⟩
    | s + 1, hr, hz, HC =>
      obtain rfl : z = (s : Int) := by omega
      have e1 : (8 * (s : Int)).toNat = 8 * s := by omega
      have h7 : s ≤ 7 := by omega
      go_wp2_with (at_builtin; refine wpList_append_own _ rfl _ _ 29 rfl base 5 i0 (.int .u8 0) 1 1 Try.underlying29 hi.out hz0.out hz1.out hz2.out rfl (by decide) _ (m + d) cur rfl (HO.out.alloc _) ⟨wr.heap.size, 0, none⟩ 1 1 [.int .u8 (n / 2 ^ (8 * s) % 256)] rfl rfl ?c1 ?c2 ?c3 ?c4 ?c5 ?_)
      case c1 => exact cell_new _ _ _ _
      case c2 => simp [Value.oneCell']
      case c3 => unfold maxLen; omega
      case c4 => omega
      case c5 => simp; omega
      intro v' w7 hown hgrow _
      have HC7 := Lib.hid (show (cur ++ [.int .u8 (n / 2 ^ (8 * s) % 256)]) ++ beV n s = xs ++ beV n k from by rw [← HC.out]; simp [beV, beI])
      have HO7 := Lib.hid hown
      have HB7 : Hid (Below base w w7) := (HB.out.alloc (by omega) _).grown hgrow (by simp; omega) (own_base HO.out)
      clear hown hgrow
      go_wp2_with fail
      go_roundw
      case rel => exact ⟨s, d + 1, (s : Int) - 1, _, by omega, by omega, by go_num, HO7, HC7, HB7⟩
      case measure => simp [intOf]
end Go.Proofs.Ytednooklmonblaa
