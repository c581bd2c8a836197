/- What config.Octets comes to. -/
import Derived.Test.YtednooklmonblaaCfg3
namespace Go.Proofs.Ytednooklmonblaa
open Go.RowKit

theorem Try.info5 : (Try.prog.info? 5).map (fun i => (i.zero, i.size, i.bytes)) = some (some (.int .u8 0), 1, 1) := by kernel_rfl

set_option maxHeartbeats 400000 in
theorem octets_bad (c : Cfg) (w : World) (h : c.wrong ≠ 0) :
    Calls Try.prog 18 #[.agg c.cells] w fun e w' => e = .returned (.tuple #[.slice none 0 0, .int .i64 6]) ∧ Below w.heap.size w w' := by
  have hk : c.check = 6 := by unfold Cfg.check; rw [if_neg h]
  clear h
  go_enter Try.func18, Try.ntmps18
  go_wp2_with (first | (go_at_call 15; refine (check_any _ _).mono ?_; rintro e w1 ⟨rfl, hb1⟩) | (refine wpList_load_row rfl 23 _ rfl w.heap.size rfl 23 c.cells (0, 0) _ (heap_alloc_new w _) Try.underlying23 rfl (by kernel_rfl) ?_))
  go_ret2
  exact ⟨rfl, below_up (below_alloc0 w _) (by simp) hb1⟩

set_option maxHeartbeats 1000000 in
theorem octets_fine (c : Cfg) (w : World) (h : c.wrong = 0) :
    Calls Try.prog 18 #[.agg c.cells] w fun e w' => (∃ v, e = .returned (.tuple #[v, .int .i64 0]) ∧ w'.ownsRow w.heap.size 5 1 v 20 (c.octs 10)) ∧ Below w.heap.size w w' := by
  have hk : c.check = 0 := by unfold Cfg.check; rw [if_pos h]
  have hf := (Cfg.wrong_zero h).1
  clear h
  have HF := Lib.hid hf
  clear hf
  obtain ⟨i0, hi, hz0, hz1, hz2⟩ := info_parts Try.info5
  have hi := Lib.hid hi
  have hz0 := Lib.hid hz0
  have hz1 := Lib.hid hz1
  have hz2 := Lib.hid hz2
  go_enter Try.func18, Try.ntmps18
  go_wp2_with (first | (go_at_call 15; refine (check_any _ _).mono ?_; rintro e w1 ⟨rfl, hb1⟩) | (refine wpList_load_row rfl 23 _ rfl w.heap.size rfl 23 c.cells (0, 0) _ (heap_alloc_new w _) Try.underlying23 rfl (by kernel_rfl) ?_) | (go_at_call 39; refine (spans_any _ _).mono ?_; rintro e w2 ⟨rfl, hb2⟩))
  have HB : Hid (Below (w.heap.size + 1) (w.alloc (.cells c.cells 23)) w2) := below_up (by simpa using hb1) (by have := hb1.size; simp at this; omega) hb2
  have H0 : Hid (w2.ownsRow (w.heap.size + 1) 5 1 (.slice none 0 0) 0 []) := ⟨rfl, .inl ⟨rfl, rfl⟩⟩
  clear hb1 hb2 hk
  go_loopw [5, 14] (fun v i wr => ∃ k : Nat, k ≤ 10 ∧ i = .int .i64 k ∧ Hid (wr.ownsRow (w.heap.size + 1) 5 1 v (2 * k) (c.octs k)) ∧ Hid (Below (w.heap.size + 1) (w.alloc (.cells c.cells 23)) wr)) (fun _ i _ => 10 - (intOf i).toNat)
  case atStart => exact ⟨0, by omega, rfl, H0, HB⟩
  case round =>
    obtain ⟨k, hk, rfl, HO, HB⟩ := hrel
    by_cases hlt : k < 10
    · have hc := cfg_cell HB.out hlt
      have hs : w.heap.size < wr.heap.size := by have := HB.out.size; simp at this; omega
      have hix := fun wx => spans_index w.heap.size wx k hlt
      go_wp2_with fail
      obtain ⟨wx, hwx⟩ : ∃ wx, wx = wr.alloc (.cells #[.pointer (some ⟨w.heap.size, k, none⟩), .int .i64 (Cfg.lo k), .int .i64 (Cfg.hi k)] 62) := ⟨_, rfl⟩
      have hx0 : wx.cell? ⟨wr.heap.size, 0, none⟩ = some (.pointer (some ⟨w.heap.size, k, none⟩)) := by rw [hwx, cell_of_row _ _ _ _ _ _ (heap_alloc_new wr _)]; rfl
      have hxc : wx.cell? ⟨w.heap.size, k, none⟩ = some (.int .i64 (c.fld k)) := by rw [hwx, (below_alloc0 wr _).cell (p := ⟨w.heap.size, k, none⟩) hs]; exact hc
      have hxs : wx.heap.size = wr.heap.size + 1 := by rw [hwx]; simp
      have HX : Hid (wx.ownsRow (w.heap.size + 1) 5 1 u5 (2 * k) (c.octs k)) := by rw [hwx]; exact HO.out.alloc _
      have HB1 : Hid (Below (w.heap.size + 1) (w.alloc (.cells c.cells 23)) wx) := by rw [hwx]; exact HB.out.alloc (by omega) _
      have HS := Lib.hid hxs
      have hle : w.heap.size + 1 < wx.heap.size := by omega
      have hle2 : wr.heap.size < wx.heap.size := by omega
      have hn0 : u5.ownBlock ≠ some wr.heap.size := own_ne HO.out (.inr (Nat.le_refl _))
      have hn1 : u5.ownBlock ≠ some w.heap.size := own_ne HO.out (.inl (by omega))
      have HN0 := Lib.hid hn0
      have HN1 := Lib.hid hn1
      clear hn0 hn1
      rw [← hwx]
      clear hwx hc hix hxs
      go_region_held3 (fun w' => w'.cell? ⟨wr.heap.size, 0, none⟩ = some (.pointer (some ⟨w.heap.size, k, none⟩)) ∧ w'.cell? ⟨w.heap.size, k, none⟩ = some (.int .i64 (c.fld k)))
        (first
          | go_keep
          | (go_split_ands
             refine ⟨?_, ?_⟩
             · (rw [hgrow.cell_far _ (by simp; omega) (Ne.symm HN0.out)]; assumption)
             · (rw [hgrow.cell_far _ (by simp; omega) (Ne.symm HN1.out)]; assumption)))
        ((refine step_append_lies _ (by rfl) _ _ _ (by rfl) (w.heap.size + 1) 5 i0 _ 1 1 Try.underlying29 hi.out hz0.out hz1.out hz2.out rfl (by omega) u5 (2 * k) (c.octs k) (by rfl) ((HX.out.alloc _).drew)
            ⟨wx.heap.size, 0, none⟩ 2 2 [.int .u8 (c.fld k / 256 % 256), .int .u8 (c.fld k % 256)] (by rfl) (by rfl) (World.news_of_block (cs := #[.int .u8 (c.fld k / 256 % 256), .int .u8 (c.fld k % 256)]) (t := 5) (fr := (0, 0)) (heap_alloc_new wx _)) (by simp [Value.oneCell'])
            (by omega) (by unfold maxLen; omega) (by omega) (by simp; omega) (wx.heap.size + 1) (by simp) ?_; intro g cap w3 hown hgrow hat hlt))
      go_wp2_with fail
      go_roundw
      case rel => exact ⟨k + 1, by omega, by go_num, by rw [Cfg.octs_step]; exact hown, HB1.out.trans ((((Below.refl _ _).alloc (by omega) _).drew).grown hgrow (by simp; omega) (own_base HX.out))⟩
      case measure => simp [intOf]; omega
    · obtain rfl : k = 10 := by omega
      go_wp2_with fail
      go_ret2
      exact ⟨⟨_, rfl, own_mono HO.out (by omega)⟩, (below_alloc0 w _).trans (HB.out.mono (by omega))⟩
end Go.Proofs.Ytednooklmonblaa
