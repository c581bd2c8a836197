/- The law's own step of fourteen octets, and code.Read. -/
import Derived.Test.YtednooklmonblaaStp6
namespace Go.Proofs.Ytednooklmonblaa
open Go.RowKit

theorem byte_cells {w : World} {b o n : Nat} {xs : List Int} (h : RdB w (some ⟨b, o, none⟩) n xs) (j : Nat) (hj : j < n) : w.cell? ⟨b, o + j, none⟩ = some (.int .u8 (xs.getD j 0)) := by
  obtain ⟨b', o', e, hc⟩ := h.cell (by omega)
  cases e
  exact hc j hj

set_option maxHeartbeats 2000000 in
theorem lstep_any (A : Option Addr) (cap : Nat) (xs : List Int) (w : World) (h : RdB w A 14 xs) :
    Calls Try.prog 28 #[.slice A 14 cap] w fun e w' => e = .returned (.agg (Stp.ofB xs).cells) ∧ Below w.heap.size w w' := by
  obtain ⟨b, o, rfl, hcell⟩ := h.cell (by omega)
  have HR := Lib.hid h
  clear hcell h
  have A0 := Lib.hid (heap_alloc_new w (.cells Stp.zero.cells 39))
  have B0 := Lib.hid (below_alloc0 w (.cells Stp.zero.cells 39))
  go_enter Try.func28, Try.ntmps28
  go_wp2_with fail
  obtain ⟨wx, hwx⟩ : ∃ wx, wx = w.alloc (.cells Stp.zero.cells 39) := ⟨_, rfl⟩
  have A1 : Hid (wx.heap[w.heap.size]? = some (.cells Stp.zero.cells 39 (0, 0))) := by rw [hwx]; exact A0.out
  have B1 : Hid (Below w.heap.size w wx) := by rw [hwx]; exact B0.out
  have R1 := Lib.hid (HR.out.below B1.out)
  have hw2 : w.alloc (.cells #[.int .i64 0, .int .i64 0, .int .i64 0, .int .i64 0, .int .i64 0, .int .i64 0, .int .i64 0] 39) = wx := hwx.symm
  rw [hw2]
  clear hw2 hwx A0 B0 HR
  have HL := Lib.hid R1.out.len
  go_loop [3, 4] (fun v i => ∃ j : Nat, j ≤ 8 ∧ i = .int .i64 ((j : Int) + 6) ∧ v = .int .u64 (valI ((xs.drop 6).take j))) (fun _ i => 14 - (intOf i).toNat)
  case atStart => exact ⟨0, by omega, rfl, rfl⟩
  case round =>
    obtain ⟨j, hj, rfl, rfl⟩ := hrel
    by_cases hlt : j < 8
    · have hcj := byte_cells R1.out (j + 6) (by omega)
      obtain ⟨y, hy⟩ : ∃ y, y = xs.getD (j + 6) 0 := ⟨_, rfl⟩
      have hyb := getD_byte R1.out.byte (j + 6)
      rw [← hy] at hyb hcj
      have hbd : ∀ x ∈ xs.drop 6, 0 ≤ x ∧ x ≤ 255 := fun x hx => R1.out.byte x (List.mem_of_mem_drop hx)
      have hlen : (xs.drop 6).length = 8 := by simp [HL.out]
      have hv := valI_bd hbd j (by omega)
      have hvt := valI_take (xs.drop 6) j (by omega)
      have hyy : (xs.drop 6).getD j 0 = y := by rw [hy]; simp only [List.getD_eq_getElem?_getD, List.getElem?_drop]; rw [Nat.add_comm]
      rw [hyy] at hvt
      obtain ⟨x, hx⟩ : ∃ x, x = valI ((xs.drop 6).take j) := ⟨_, rfl⟩
      rw [← hx] at hv hvt
      have h256 : x * 256 + 255 < 256 ^ 8 := by
        have h1 : (256 : Int) ^ j ≤ 256 ^ 7 := pow7 j (by omega)
        have h2 : (256 : Int) ^ 8 = 256 ^ 7 * 256 := by decide
        omega
      have e1 : IntKind.u64.wrap (x * 256) = x * 256 := u64_in (by omega) (by omega)
      have e2 : IntKind.u64.wrap (x * 256 + y) = x * 256 + y := u64_in (by omega) (by omega)
      have e3 : IntKind.u64.wrap y = y := u64_in hyb.1 (by have : (256 : Int) ^ 8 = 18446744073709551616 := by decide
                                                           omega)
      have HV := Lib.hid hvt
      rw [← hx]
      have HX := Lib.hid hx
      clear hv hvt h256 hy hx hyy hlen hbd
      go_wp2_with fail
      go_round
      case rel => exact ⟨j + 1, by omega, by go_num, by rw [HV.out]⟩
      case measure => simp [intOf]; omega
    · obtain rfl : j = 8 := by omega
      have ht : (xs.drop 6).take 8 = xs.drop 6 := List.take_of_length_le (by simp [HL.out])
      rw [ht]
      clear ht
      have c0 := byte_cells R1.out 0 (by omega)
      have c1 := byte_cells R1.out 1 (by omega)
      have c2 := byte_cells R1.out 2 (by omega)
      have c3 := byte_cells R1.out 3 (by omega)
      have c4 := byte_cells R1.out 4 (by omega)
      have c5 := byte_cells R1.out 5 (by omega)
      rw [Nat.add_zero] at c0
      have b0 := getD_byte R1.out.byte 0
      have b1 := getD_byte R1.out.byte 1
      have b2 := getD_byte R1.out.byte 2
      have b3 := getD_byte R1.out.byte 3
      have b4 := getD_byte R1.out.byte 4
      have b5 := getD_byte R1.out.byte 5
      have HS : Hid ((Stp.ofB xs).cells = #[.int .i64 (xs.getD 0 0), .int .i64 (xs.getD 1 0), .int .i64 (xs.getD 2 0), .int .i64 (xs.getD 3 0), .int .i64 (xs.getD 4 0), .int .i64 (xs.getD 5 0), .int .i64 (wrap64 (valI (xs.drop 6)))]) := rfl
      generalize xs.getD 0 0 = y0 at *
      generalize xs.getD 1 0 = y1 at *
      generalize xs.getD 2 0 = y2 at *
      generalize xs.getD 3 0 = y3 at *
      generalize xs.getD 4 0 = y4 at *
      generalize xs.getD 5 0 = y5 at *
      generalize valI (xs.drop 6) = z at *
      have ez : IntKind.i64.wrap z = wrap64 z := wrap_eq _
      have e0 : IntKind.i64.wrap y0 = y0 := IntWalk.i64_in _ (by omega)
      have e1 : IntKind.i64.wrap y1 = y1 := IntWalk.i64_in _ (by omega)
      have e2 : IntKind.i64.wrap y2 = y2 := IntWalk.i64_in _ (by omega)
      have e3 : IntKind.i64.wrap y3 = y3 := IntWalk.i64_in _ (by omega)
      have e4 : IntKind.i64.wrap y4 = y4 := IntWalk.i64_in _ (by omega)
      have e5 : IntKind.i64.wrap y5 = y5 := IntWalk.i64_in _ (by omega)
      go_wp2_with fail
      refine region_tail 27 (by kernel_rfl) (by kernel_rfl) ?_
      simp only [List.take_succ_cons, List.take_zero, List.drop_succ_cons, List.drop_zero]
      repeat still_step
      refine wpStill_nil ?_
      refine wpList_store_row rfl 39 _ _ rfl w.heap.size #[.int .i64 y0, .int .i64 y1, .int .i64 y2, .int .i64 y3, .int .i64 y4, .int .i64 y5, .int .i64 (wrap64 z)] rfl rfl 39 _ A1.out (by kernel_rfl) rfl (by kernel_rfl) ?_
      go_wp2_with fail
      exact bodyPost_ret (v := .agg #[.int .i64 y0, .int .i64 y1, .int .i64 y2, .int .i64 y3, .int .i64 y4, .int .i64 y5, .int .i64 (wrap64 z)]) (results_cell_row rfl _ _ w.heap.size 39 _ _ _ rfl (heap_setRow_same (w := wx.drew) _ A1.out) Try.underlying39 rfl (by kernel_rfl)) rfl
        ⟨by rw [HS.out], below_setRow B1.out.drew (Nat.le_refl _) _⟩

set_option maxHeartbeats 400000 in
theorem cread_short (A : Option Addr) (n cap : Nat) (w : World) (h : n ≠ 14) :
    Calls Try.prog 27 #[.slice A n cap] w fun e w' => e = .returned (.tuple #[.agg Stp.zero.cells, .int .i64 16]) ∧ Below w.heap.size w w' := by
  have h1 : ((n : Int) != 14) = true := by rw [bne_iff_ne]; omega
  clear h
  go_enter Try.func27, Try.ntmps27
  go_wp2_with fail
  exact bodyPost_ret (v := .tuple #[.agg Stp.zero.cells, .int .i64 16]) (results_row_tmp (p := 2) (u := 3) rfl _ _ w.heap.size 39 Stp.zero.cells _ _ rfl (heap_alloc_new w _) Try.underlying39 rfl (by kernel_rfl)) rfl
    ⟨rfl, below_alloc0 w _⟩

set_option maxHeartbeats 2000000 in
theorem cread_full (A : Option Addr) (cap : Nat) (xs : List Int) (w : World) (h : RdB w A 14 xs) (hcap : 14 ≤ cap) :
    Calls Try.prog 27 #[.slice A 14 cap] w fun e w' => e = .returned (.tuple (Stp.ofB xs).readR) ∧ Below w.heap.size w w' := by
  obtain ⟨b, o, rfl, hcell⟩ := h.cell (by omega)
  have HR := Lib.hid h
  clear hcell h
  have A0 := Lib.hid (heap_alloc_new w (.cells Stp.zero.cells 39))
  have B0 := Lib.hid (below_alloc0 w (.cells Stp.zero.cells 39))
  go_enter Try.func27, Try.ntmps27
  go_wp2_with fail
  obtain ⟨wx, hwx⟩ : ∃ wx, wx = w.alloc (.cells Stp.zero.cells 39) := ⟨_, rfl⟩
  have A1 : Hid (wx.heap[w.heap.size]? = some (.cells Stp.zero.cells 39 (0, 0))) := by rw [hwx]; exact A0.out
  have B1 : Hid (Below w.heap.size w wx) := by rw [hwx]; exact B0.out
  have R1 := Lib.hid (HR.out.below B1.out)
  have hw2 : w.alloc (.cells #[.int .i64 0, .int .i64 0, .int .i64 0, .int .i64 0, .int .i64 0, .int .i64 0, .int .i64 0] 39) = wx := hwx.symm
  rw [hw2]
  clear hw2 hwx A0 B0 HR
  have hp := R1.out.part 6 8 (by omega)
  have hd : (xs.drop 6).take 8 = xs.drop 6 := List.take_of_length_le (by simp [R1.out.len])
  rw [hd] at hp
  have RP := Lib.hid hp
  have c0 := byte_cells R1.out 0 (by omega)
  have c1 := byte_cells R1.out 1 (by omega)
  have c2 := byte_cells R1.out 2 (by omega)
  have c3 := byte_cells R1.out 3 (by omega)
  have c4 := byte_cells R1.out 4 (by omega)
  have c5 := byte_cells R1.out 5 (by omega)
  rw [Nat.add_zero] at c0
  have b0 := getD_byte R1.out.byte 0
  have b1 := getD_byte R1.out.byte 1
  have b2 := getD_byte R1.out.byte 2
  have b3 := getD_byte R1.out.byte 3
  have b4 := getD_byte R1.out.byte 4
  have b5 := getD_byte R1.out.byte 5
  clear hp hd
  generalize hy0 : xs.getD 0 0 = y0 at *
  generalize hy1 : xs.getD 1 0 = y1 at *
  generalize hy2 : xs.getD 2 0 = y2 at *
  generalize hy3 : xs.getD 3 0 = y3 at *
  generalize hy4 : xs.getD 4 0 = y4 at *
  generalize hy5 : xs.getD 5 0 = y5 at *
  have HS := Lib.hid (show Stp.ofB xs = ⟨y0, y1, y2, y3, y4, y5, wrap64 (valI (xs.drop 6))⟩ from by subst hy0 hy1 hy2 hy3 hy4 hy5; rfl)
  clear hy0 hy1 hy2 hy3 hy4 hy5
  have e0 : IntKind.i64.wrap y0 = y0 := IntWalk.i64_in _ (by omega)
  have e1 : IntKind.i64.wrap y1 = y1 := IntWalk.i64_in _ (by omega)
  have e2 : IntKind.i64.wrap y2 = y2 := IntWalk.i64_in _ (by omega)
  have e3 : IntKind.i64.wrap y3 = y3 := IntWalk.i64_in _ (by omega)
  have e4 : IntKind.i64.wrap y4 = y4 := IntWalk.i64_in _ (by omega)
  have e5 : IntKind.i64.wrap y5 = y5 := IntWalk.i64_in _ (by omega)
  have hc6 : ¬ cap = 6 := by omega
  have hRP := RP.out
  have hle : w.heap.size < wx.heap.size := heap_lt A1.out
  have ez : IntKind.i64.wrap (valI (xs.drop 6)) = wrap64 (valI (xs.drop 6)) := wrap_eq _
  go_region_held3 (fun w' => w'.cell? ⟨b, o, none⟩ = some (.int .u8 y0) ∧ w'.cell? ⟨b, o + 1, none⟩ = some (.int .u8 y1) ∧ w'.cell? ⟨b, o + 2, none⟩ = some (.int .u8 y2) ∧ w'.cell? ⟨b, o + 3, none⟩ = some (.int .u8 y3) ∧ w'.cell? ⟨b, o + 4, none⟩ = some (.int .u8 y4) ∧ w'.cell? ⟨b, o + 5, none⟩ = some (.int .u8 y5) ∧ RdB w' (some ⟨b, o + 6, none⟩) 8 (xs.drop 6))
    (first
      | exact ⟨c0, c1, c2, c3, c4, c5, hRP.drew⟩
      | exact ⟨cell_keep (below_alloc0 wx _).drew c0, cell_keep (below_alloc0 wx _).drew c1, cell_keep (below_alloc0 wx _).drew c2, cell_keep (below_alloc0 wx _).drew c3, cell_keep (below_alloc0 wx _).drew c4, cell_keep (below_alloc0 wx _).drew c5, hRP.below (below_alloc0 wx _).drew⟩
      | (go_split_ands
         exact ⟨cell_keep (below_alloc0 _ _) (by assumption), cell_keep (below_alloc0 _ _) (by assumption), cell_keep (below_alloc0 _ _) (by assumption), cell_keep (below_alloc0 _ _) (by assumption), cell_keep (below_alloc0 _ _) (by assumption), cell_keep (below_alloc0 _ _) (by assumption), RdB.below (by assumption) (below_alloc0 _ _)⟩))
    ((go_split_ands; go_at_call 45; (with_reducible refine (get_any _ 8 (cap - 6) _ _ (by omega) (by assumption)).mono ?_); rintro e w' ⟨rfl, rfl⟩))
  all_goals
    have A2 := Lib.hid (keep_alloc (.cells #[.int .i64 y0, .int .i64 y1, .int .i64 y2, .int .i64 y3, .int .i64 y4, .int .i64 y5, .int .i64 (wrap64 (valI (xs.drop 6)))] 39) A1.out)
    have N2 := Lib.hid (heap_alloc_new wx (.cells #[.int .i64 y0, .int .i64 y1, .int .i64 y2, .int .i64 y3, .int .i64 y4, .int .i64 y5, .int .i64 (wrap64 (valI (xs.drop 6)))] 39))
    have B2 := Lib.hid (below_new B1.out (.cells #[.int .i64 y0, .int .i64 y1, .int .i64 y2, .int .i64 y3, .int .i64 y4, .int .i64 y5, .int .i64 (wrap64 (valI (xs.drop 6)))] 39)).drew
    by_cases hk : Stp.check ⟨y0, y1, y2, y3, y4, y5, wrap64 (valI (xs.drop 6))⟩ = 0
    · have h1 : (Stp.check ⟨y0, y1, y2, y3, y4, y5, wrap64 (valI (xs.drop 6))⟩ != 0) = false := by simp [hk]
      have HK := Lib.hid hk
      clear hk
      go_wp2_with (first
        | (refine wpList_load_row rfl 39 _ rfl wx.heap.size rfl 39 #[.int .i64 y0, .int .i64 y1, .int .i64 y2, .int .i64 y3, .int .i64 y4, .int .i64 y5, .int .i64 (wrap64 (valI (xs.drop 6)))] (0, 0) _ N2.out Try.underlying39 rfl (by kernel_rfl) ?_)
        | (go_at_call 25; refine (ccheck_any ⟨y0, y1, y2, y3, y4, y5, wrap64 (valI (xs.drop 6))⟩ _).mono ?_; rintro e w3 ⟨rfl, hb3⟩; have A3 := Lib.hid (keep hb3 A2.out); have N3 := Lib.hid (keep hb3 N2.out); have B3 := Lib.hid (below_next B2.out hb3); clear hb3)
        | (refine wpList_load_row rfl 39 _ rfl wx.heap.size rfl 39 #[.int .i64 y0, .int .i64 y1, .int .i64 y2, .int .i64 y3, .int .i64 y4, .int .i64 y5, .int .i64 (wrap64 (valI (xs.drop 6)))] (0, 0) _ N3.out Try.underlying39 rfl (by kernel_rfl) ?_)
        | (refine wpList_store_row rfl 39 _ _ rfl w.heap.size #[.int .i64 y0, .int .i64 y1, .int .i64 y2, .int .i64 y3, .int .i64 y4, .int .i64 y5, .int .i64 (wrap64 (valI (xs.drop 6)))] rfl rfl 39 _ A3.out (by kernel_rfl) rfl (by kernel_rfl) ?_))
      exact bodyPost_ret (v := .tuple #[.agg #[.int .i64 y0, .int .i64 y1, .int .i64 y2, .int .i64 y3, .int .i64 y4, .int .i64 y5, .int .i64 (wrap64 (valI (xs.drop 6)))], .int .i64 0]) (results_row_tmp (p := 2) (u := 3) rfl _ _ w.heap.size 39 #[.int .i64 y0, .int .i64 y1, .int .i64 y2, .int .i64 y3, .int .i64 y4, .int .i64 y5, .int .i64 (wrap64 (valI (xs.drop 6)))] _ _ rfl (heap_setRow_same _ A3.out) Try.underlying39 rfl (by kernel_rfl)) rfl
        ⟨by rw [HS.out, Stp.readR_ok HK.out]; rfl, below_setRow B3.out (Nat.le_refl _) _⟩
    · have h1 : (Stp.check ⟨y0, y1, y2, y3, y4, y5, wrap64 (valI (xs.drop 6))⟩ != 0) = true := by simp [hk]
      have HK := Lib.hid hk
      clear hk
      go_wp2_with (first
        | (refine wpList_load_row rfl 39 _ rfl wx.heap.size rfl 39 #[.int .i64 y0, .int .i64 y1, .int .i64 y2, .int .i64 y3, .int .i64 y4, .int .i64 y5, .int .i64 (wrap64 (valI (xs.drop 6)))] (0, 0) _ N2.out Try.underlying39 rfl (by kernel_rfl) ?_)
        | (go_at_call 25; refine (ccheck_any ⟨y0, y1, y2, y3, y4, y5, wrap64 (valI (xs.drop 6))⟩ _).mono ?_; rintro e w3 ⟨rfl, hb3⟩; have A3 := Lib.hid (keep hb3 A2.out); have B3 := Lib.hid (below_next B2.out hb3); clear hb3)
        | (refine wpList_store_row rfl 39 _ _ rfl w.heap.size Stp.zero.cells rfl rfl 39 _ A3.out (by kernel_rfl) rfl (by kernel_rfl) ?_))
      exact bodyPost_ret (v := .tuple #[.agg Stp.zero.cells, .int .i64 (Stp.check ⟨y0, y1, y2, y3, y4, y5, wrap64 (valI (xs.drop 6))⟩)]) (results_row_tmp (p := 2) (u := 3) rfl _ _ w.heap.size 39 Stp.zero.cells _ _ rfl (heap_setRow_same _ A3.out) Try.underlying39 rfl (by kernel_rfl)) rfl
        ⟨by rw [HS.out, Stp.readR_bad HK.out], below_setRow B3.out (Nat.le_refl _) _⟩
end Go.Proofs.Ytednooklmonblaa
