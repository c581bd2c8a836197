/- The law's own octets, and code.Put: a step's octets. -/
import Derived.Test.YtednooklmonblaaStp2
import Derived.Test.YtednooklmonblaaStp5
namespace Go.Proofs.Ytednooklmonblaa
open Go.RowKit

set_option maxHeartbeats 1000000 in
theorem loct_any (x : Stp) (w : World) :
    Calls Try.prog 26 #[.agg x.cells] w fun e w' => ∃ v, e = .returned v ∧ w'.ownsRow w.heap.size 5 1 v 14 x.octV ∧ Below w.heap.size w w' := by
  obtain ⟨i0, hi, hz0, hz1, hz2⟩ := info_parts Try.info5'
  have hi := Lib.hid hi
  have hz0 := Lib.hid hz0
  have hz1 := Lib.hid hz1
  have hz2 := Lib.hid hz2
  have A0 := Lib.hid (heap_alloc_new w (.cells x.cells 39))
  have B0 := Lib.hid (below_alloc0 w (.cells x.cells 39))
  obtain ⟨g0, g1, g2, g3, g4, g5, g6⟩ := stp_cell A0.out
  go_enter Try.func26, Try.ntmps26
  go_wp2_with fail
  obtain ⟨wx, hwx⟩ : ∃ wx, wx = (w.alloc (.cells x.cells 39)).alloc (.cells #[.int .u8 (x.k % 256), .int .u8 (x.t % 256), .int .u8 (x.i % 256), .int .u8 (x.f % 256), .int .u8 (x.j % 256), .int .u8 (x.c % 256)] 5) := ⟨_, rfl⟩
  have A1 : Hid (wx.heap[w.heap.size]? = some (.cells x.cells 39 (0, 0))) := by rw [hwx]; exact keep_alloc _ A0.out
  have B1 : Hid (Below w.heap.size w wx) := by rw [hwx]; exact below_new B0.out _
  have O1 : Hid (wx.ownsRow (w.heap.size + 1) 5 1 (.slice (some ⟨w.heap.size + 1, 0, none⟩) 6 6) (6 + 0) [.int .u8 (x.k % 256), .int .u8 (x.t % 256), .int .u8 (x.i % 256), .int .u8 (x.f % 256), .int .u8 (x.j % 256), .int .u8 (x.c % 256)]) := by
    rw [hwx]
    exact own_new (w := w.alloc _) [.int .u8 (x.k % 256), .int .u8 (x.t % 256), .int .u8 (x.i % 256), .int .u8 (x.f % 256), .int .u8 (x.j % 256), .int .u8 (x.c % 256)] (w.heap.size + 1) 6 (by simp) (Nat.le_refl _) rfl (by decide)
  rw [← hwx]
  clear hwx g0 g1 g2 g3 g4 g5 g6 A0 B0
  have H0 : Hid (Below (w.heap.size + 1) wx wx) := Below.refl _ _
  have hsx : w.heap.size + 1 ≤ wx.heap.size := by have := heap_lt A1.out; have := (O1.out.2); rcases this with ⟨h, _⟩ | ⟨g, cap, cur, h, hg, hh, _⟩
                                                  · cases h
                                                  · have := heap_lt hh; omega
  go_loopw [3, 4] (fun v i wr => ∃ (r d : Nat) (z : Int) (cur : List Value), d + r = 8 ∧ z + 1 = r ∧ i = .int .i64 z ∧ Hid (wr.ownsRow (w.heap.size + 1) 5 1 v (6 + d) cur) ∧ Hid (cur ++ beV x.n r = x.octV) ∧ Hid (Below (w.heap.size + 1) wx wr)) (fun _ i _ => (intOf i + 1).toNat)
  case atStart => exact ⟨8, 0, 7, _, by omega, by omega, rfl, O1, Lib.hid x.octV_eq.symm, H0⟩
  case round =>
    clear H0 O1
    obtain ⟨r, d, z, cur, hr, hz, rfl, HO, HC, HB⟩ := hrel
    have hs := HB.out.size
    match r, hr, hz, HC with
    | 0, hr, hz, HC =>
      obtain rfl : z = -1 := by omega
      go_wp2_with fail
      go_ret
      obtain rfl : d = 8 := by omega
      exact ⟨_, rfl, own_mono (by rw [← HC.out]; simpa [beV, beI] using HO.out) (by omega), B1.out.trans (HB.out.mono (by omega))⟩
    | s + 1, hr, hz, HC =>
      obtain rfl : z = (s : Int) := by omega
      have e1 : (8 * (s : Int)).toNat = 8 * s := by omega
      have h7 : s ≤ 7 := by omega
      have g6 := (stp_cell (keep_at HB.out A1.out (by omega))).2.2.2.2.2.2
      go_wp2_with (at_builtin; refine wpList_append_own _ rfl _ _ 29 rfl (w.heap.size + 1) 5 i0 (.int .u8 0) 1 1 Try.underlying29 hi.out hz0.out hz1.out hz2.out rfl (by decide) _ (6 + d) cur rfl (HO.out.alloc _) ⟨wr.heap.size, 0, none⟩ 1 1 [.int .u8 (x.n / 2 ^ (8 * s) % 256)] rfl rfl ?c1 ?c2 ?c3 ?c4 ?c5 ?_)
      case c1 => exact cell_new _ _ _ _
      case c2 => simp [Value.oneCell']
      case c3 => unfold maxLen; omega
      case c4 => omega
      case c5 => simp; omega
      intro v' w7 hown hgrow _
      have HC7 := Lib.hid (show (cur ++ [.int .u8 (x.n / 2 ^ (8 * s) % 256)]) ++ beV x.n s = x.octV from by rw [← HC.out]; simp [beV, beI])
      have HO7 := Lib.hid hown
      have HB7 : Hid (Below (w.heap.size + 1) wx w7) := (HB.out.alloc (by omega) _).grown hgrow (by simp; omega) (own_base HO.out)
      clear hown hgrow g6
      go_wp2_with fail
      go_roundw
      case rel => exact ⟨s, d + 1, (s : Int) - 1, _, by omega, by omega, by go_num, HO7, HC7, HB7⟩
      case measure => simp [intOf]

set_option maxHeartbeats 1000000 in
theorem cput_bad (x : Stp) (w : World) (h : x.check ≠ 0) :
    Calls Try.prog 24 #[.agg x.cells] w fun e w' => e = .returned (.tuple #[.slice none 0 0, .int .i64 x.check]) ∧ Below w.heap.size w w' := by
  have h1 : (x.check != 0) = true := by simp [h]
  clear h
  have A0 := Lib.hid (heap_alloc_new w (.cells x.cells 39))
  have B0 := Lib.hid (below_alloc0 w (.cells x.cells 39))
  go_enter Try.func24, Try.ntmps24
  go_wp2_with (first
    | (refine wpList_load_row rfl 39 _ rfl w.heap.size rfl 39 x.cells (0, 0) _ ?_ Try.underlying39 rfl (by kernel_rfl) ?_; exact Hid.out (by assumption))
    | (go_at_call 25; refine (ccheck_any x _).mono ?_; rintro e w1 ⟨rfl, hb1⟩))
  go_ret2
  exact ⟨rfl, below_next B0.out hb1⟩

set_option maxHeartbeats 1000000 in
theorem cput_fine (x : Stp) (w : World) (h : x.check = 0) :
    Calls Try.prog 24 #[.agg x.cells] w fun e w' => ∃ v, e = .returned (.tuple #[v, .int .i64 0]) ∧ w'.ownsRow w.heap.size 5 1 v 14 x.octV ∧ Below w.heap.size w w' := by
  obtain ⟨i0, hi, hz0, hz1, hz2⟩ := info_parts Try.info5'
  have hi := Lib.hid hi
  have hz0 := Lib.hid hz0
  have hz1 := Lib.hid hz1
  have hz2 := Lib.hid hz2
  obtain ⟨hk, hr, _⟩ := Stp.check_zero h
  have HIX := Lib.hid (fun wx j hj => small_index x wx j hj)
  have A0 := Lib.hid (heap_alloc_new w (.cells x.cells 39))
  have B0 := Lib.hid (below_alloc0 w (.cells x.cells 39))
  have HR := Lib.hid hr
  clear hr
  have HE : Hid (x.octV = ([.int .u8 x.k] ++ [.int .u8 x.t, .int .u8 x.i, .int .u8 x.f, .int .u8 x.j, .int .u8 x.c]) ++ beV x.n 8) := by
    have r0 := HR.out 0 (by omega)
    have r1 := HR.out 1 (by omega)
    have r2 := HR.out 2 (by omega)
    have r3 := HR.out 3 (by omega)
    have r4 := HR.out 4 (by omega)
    simp only [Stp.fld] at r0 r1 r2 r3 r4
    rw [Stp.octV_eq, Int.emod_eq_of_lt (a := x.k) (by omega) (by omega), Int.emod_eq_of_lt (a := x.t) (by omega) (by omega), Int.emod_eq_of_lt (a := x.i) (by omega) (by omega), Int.emod_eq_of_lt (a := x.f) (by omega) (by omega), Int.emod_eq_of_lt (a := x.j) (by omega) (by omega), Int.emod_eq_of_lt (a := x.c) (by omega) (by omega)]
    rfl
  go_enter Try.func24, Try.ntmps24
  go_wp2_with (first
    | (refine wpList_load_row rfl 39 _ rfl w.heap.size rfl 39 x.cells (0, 0) _ ?_ Try.underlying39 rfl (by kernel_rfl) ?_; exact Hid.out (by assumption))
    | (go_at_call 25; refine (ccheck_any x _).mono ?_; rintro e w1 ⟨rfl, hb1⟩; have A1 := Lib.hid (keep hb1 A0.out); have B1 := Lib.hid (below_next B0.out hb1); have g0 := (stp_cell A1.out).1; have A2 := Lib.hid (keep_alloc (.cells #[.int .u8 x.k] 5) A1.out); have B2 := Lib.hid (below_new B1.out (.cells #[.int .u8 x.k] 5)); have hs1 := B1.out.size; have O2 : Hid ((w1.alloc (.cells #[.int .u8 x.k] 5)).ownsRow w1.heap.size 5 1 (.slice (some ⟨w1.heap.size, 0, none⟩) 1 1) 1 [.int .u8 x.k]) := World.ownsRow_lit (base := w1.heap.size) w1 _ 1 (by omega) (by decide) rfl; clear hb1)
    | (go_at_call 42; refine (small_any x _).mono ?_; rintro e w2 ⟨rfl, hb2⟩; have A3 := Lib.hid (keep hb2 A2.out); have B3 := Lib.hid (below_next B2.out hb2); have O3 : Hid (w2.ownsRow w1.heap.size 5 1 _ (1 + 0) _) := pw_own_keep O2.out hb2; have hs2 := hb2.size; clear hb2))
  clear g0 A0 B0
  have H0 : Hid (Below w1.heap.size w2 w2) := Below.refl _ _
  have hs3 : w1.heap.size ≤ w2.heap.size := by simp at hs2; omega
  have C0 := Lib.hid (show [Value.int .u8 x.k] = [Value.int .u8 x.k] ++ x.smallV.take 0 from rfl)
  go_loopw [5, 19] (fun v i wr => ∃ (j : Nat) (cur : List Value), j ≤ 5 ∧ i = .int .i64 j ∧ Hid (wr.ownsRow w1.heap.size 5 1 v (1 + j) cur) ∧ Hid (cur = [.int .u8 x.k] ++ x.smallV.take j) ∧ Hid (Below w1.heap.size w2 wr)) (fun _ i _ => 5 - (intOf i).toNat)
  case atStart => exact ⟨0, _, by omega, rfl, O3, C0, H0⟩
  case round =>
    clear H0 C0 O3
    obtain ⟨j, cur, hj, rfl, HO, HC, HB⟩ := hrel
    have hs := HB.out.size
    by_cases hlt : j < 5
    · have hix := fun wx => HIX.out wx j hlt
      have hb := HR.out j hlt
      go_wp2_with (at_builtin; refine wpList_append_own _ rfl _ _ 29 rfl w1.heap.size 5 i0 (.int .u8 0) 1 1 Try.underlying29 hi.out hz0.out hz1.out hz2.out rfl (by decide) _ (1 + j) cur rfl (HO.out.alloc _) ⟨wr.heap.size, 0, none⟩ 1 1 [.int .u8 (x.fld j)] rfl rfl ?c1 ?c2 ?c3 ?c4 ?c5 ?_)
      case c1 => exact cell_new _ _ _ _
      case c2 => simp [Value.oneCell']
      case c3 => unfold maxLen; omega
      case c4 => omega
      case c5 => simp; omega
      intro v' w7 hown hgrow _
      have HC7 := Lib.hid (show cur ++ [Value.int .u8 (x.fld j)] = [.int .u8 x.k] ++ x.smallV.take (j + 1) from by rw [HC.out, x.smallV_step j hlt, List.append_assoc])
      have HO7 := Lib.hid hown
      have HB7 : Hid (Below w1.heap.size w2 w7) := (HB.out.alloc (by omega) _).grown hgrow (by simp; omega) (own_base HO.out)
      clear hown hgrow
      go_wp2_with fail
      go_roundw
      case rel => exact ⟨j + 1, _, by omega, by go_num, HO7, HC7, HB7⟩
      case measure => simp [intOf]; omega
    · obtain rfl : j = 5 := by omega
      have g6 := (stp_cell (keep_at HB.out A3.out (heap_lt A1.out))).2.2.2.2.2.2
      go_wp2_with (go_at_call 43; refine (put_any _ 6 8 cur x.n w1.heap.size _ (by omega) (by omega) (by omega) HO.out).mono ?_; rintro e w8 ⟨v', rfl, ho8, hb8⟩)
      go_ret2
      exact ⟨v', rfl, own_mono (by rw [HE.out, ← show cur = [.int .u8 x.k] ++ [.int .u8 x.t, .int .u8 x.i, .int .u8 x.f, .int .u8 x.j, .int .u8 x.c] from HC.out]; exact ho8) hs1, B3.out.trans ((HB.out.trans hb8).mono hs1)⟩

theorem cput_yes (x : Stp) (w : World) (h : x.check = 0) :
    Calls Try.prog 24 #[.agg x.cells] w fun e w' => ∃ A cap, e = .returned (.tuple #[.slice A 14 cap, .int .i64 0]) ∧ RdB w' A 14 x.octs ∧ Below w.heap.size w w' :=
  (cput_fine x w h).mono fun e w' ⟨v, he, ho, hb⟩ => by
    obtain ⟨A, cap, rfl, hr⟩ := RdB.of_own ho x.octs_byte (by omega)
    exact ⟨A, cap, he, hr, hb⟩
theorem loct_yes (x : Stp) (w : World) :
    Calls Try.prog 26 #[.agg x.cells] w fun e w' => ∃ A cap, e = .returned (.slice A 14 cap) ∧ RdB w' A 14 x.octs ∧ Below w.heap.size w w' :=
  (loct_any x w).mono fun e w' ⟨v, he, ho, hb⟩ => by
    obtain ⟨A, cap, rfl, hr⟩ := RdB.of_own ho x.octs_byte (by omega)
    exact ⟨A, cap, he, hr, hb⟩
end Go.Proofs.Ytednooklmonblaa
