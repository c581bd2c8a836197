/- A config's text. -/
import Derived.Test.YtbbdjfbhidpeiaaDoorOut1
import Derived.Test.YtbbdjfbhidpeiaaDoorCfg0
import Derived.Lib.Join
namespace Go.Proofs.YtbbdjfbhidpeiaaDoor
open Go.RowKit

def Cfg.nums (c : Cfg) : List Int := [c.p, c.t, c.w, c.q, c.g, c.cap, c.tax, c.ch, c.st, c.tr]
def Cfg.text (c : Cfg) : List UInt8 := Lib.join (c.nums.map Lib.itoa) [32]
def strs (l : List (List UInt8)) : List Value := l.map fun x => .string (S x)
theorem info_str : (Tryd.prog.info? 9).map (fun i => (i.zero, i.size, i.bytes)) = some (some (.string ⟨#[]⟩), 1, 16) := by kernel_rfl
theorem Cfg.text_len (c : Cfg) (h : ∀ x ∈ c.nums, Rng x) : c.text.length ≤ 1000 := by
  have h0 := itoa_len (h c.p (by simp [Cfg.nums]))
  have h1 := itoa_len (h c.t (by simp [Cfg.nums]))
  have h2 := itoa_len (h c.w (by simp [Cfg.nums]))
  have h3 := itoa_len (h c.q (by simp [Cfg.nums]))
  have h4 := itoa_len (h c.g (by simp [Cfg.nums]))
  have h5 := itoa_len (h c.cap (by simp [Cfg.nums]))
  have h6 := itoa_len (h c.tax (by simp [Cfg.nums]))
  have h7 := itoa_len (h c.ch (by simp [Cfg.nums]))
  have h8 := itoa_len (h c.st (by simp [Cfg.nums]))
  have h9 := itoa_len (h c.tr (by simp [Cfg.nums]))
  simp [Cfg.text, Cfg.nums, Lib.join, List.intercalate]
  omega
theorem own_strs {w : World} {base e g cap n : Nat} {l : List (List UInt8)} (h : w.ownsRow base e 1 (.slice (some ⟨g, 0, none⟩) n cap) n (strs l)) : ∀ (j : Nat) x, (l.map S)[j]? = some x → w.cell? ⟨g, 0 + j, none⟩ = some (.string x) := by
  intro j x hx
  have hu : (strs l)[j]? = some (.string x) := by
    unfold strs
    rw [List.getElem?_map] at hx ⊢
    cases hj : l[j]? with
    | none => rw [hj] at hx; cases hx
    | some y => rw [hj] at hx; cases hx; rfl
  rw [Nat.zero_add]
  rcases h.2 with ⟨h1, _⟩ | ⟨g', cap', cur, h1, h2, h3, h4, h5, h6, h7⟩
  · cases h1
  · cases h1
    rw [cell_of_row _ _ _ _ _ _ h3]
    rw [← h7, List.getElem?_take] at hu
    split at hu
    · rw [Array.getElem?_toList] at hu; exact hu
    · cases hu

theorem nums_index (c : Cfg) (w : World) : ∀ j : Nat, j < 10 → (Instr.index 48 (.agg #[.int .i64 c.p, .int .i64 c.t, .int .i64 c.w, .int .i64 c.q, .int .i64 c.g, .int .i64 c.cap, .int .i64 c.tax, .int .i64 c.ch, .int .i64 c.st, .int .i64 c.tr]) (.int .i64 j)).run Tryd.prog w = .ok (.int .i64 (c.nums.getD j 0)) w
  | 0, _ | 1, _ | 2, _ | 3, _ | 4, _ | 5, _ | 6, _ | 7, _ | 8, _ | 9, _ => by kernel_rfl
  | j + 10, h => absurd h (by omega)
set_option maxHeartbeats 8000000 in
set_option maxRecDepth 100000 in
theorem cfgtext_any (c : Cfg) (h : ∀ x ∈ c.nums, Rng x) (w : World) (ht : Tab w) :
    Calls Tryd.prog 15 #[.agg c.cells] w fun e w' => e = .returned (.string (S c.text)) ∧ Below w.heap.size w w' := by
  obtain ⟨i0, hi, hz0, hz1, hz2⟩ := info_parts info_str
  have hi := Lib.hid hi
  have hz0 := Lib.hid hz0
  have hz1 := Lib.hid hz1
  have hz2 := Lib.hid hz2
  have B0 := Lib.hid (below_alloc0 w (.cells c.cells 46))
  have T0 := Lib.hid (ht.keep B0.out)
  have HX := Lib.hid h
  have hA := heap_alloc_new w (.cells c.cells 46)
  have A0 := Lib.hid hA
  clear ht h hA
  have H0 : Hid ((w.alloc (.cells c.cells 46)).ownsRow (w.alloc (.cells c.cells 46)).heap.size 9 1 (.slice none 0 0) 0 (strs ((c.nums.take 0).map Lib.itoa))) := Lib.hid ⟨rfl, .inl ⟨rfl, rfl⟩⟩
  have c0 : (w.alloc (.cells c.cells 46)).cell? ⟨w.heap.size, 0, none⟩ = some (.int .i64 c.p) := cell_of_row _ _ _ _ _ _ (heap_alloc_new w _)
  have c1 : (w.alloc (.cells c.cells 46)).cell? ⟨w.heap.size, 1, none⟩ = some (.int .i64 c.t) := cell_of_row _ _ _ _ _ _ (heap_alloc_new w _)
  have c2 : (w.alloc (.cells c.cells 46)).cell? ⟨w.heap.size, 2, none⟩ = some (.int .i64 c.w) := cell_of_row _ _ _ _ _ _ (heap_alloc_new w _)
  have c3 : (w.alloc (.cells c.cells 46)).cell? ⟨w.heap.size, 3, none⟩ = some (.int .i64 c.q) := cell_of_row _ _ _ _ _ _ (heap_alloc_new w _)
  have c4 : (w.alloc (.cells c.cells 46)).cell? ⟨w.heap.size, 4, none⟩ = some (.int .i64 c.g) := cell_of_row _ _ _ _ _ _ (heap_alloc_new w _)
  have c5 : (w.alloc (.cells c.cells 46)).cell? ⟨w.heap.size, 5, none⟩ = some (.int .i64 c.cap) := cell_of_row _ _ _ _ _ _ (heap_alloc_new w _)
  have c6 : (w.alloc (.cells c.cells 46)).cell? ⟨w.heap.size, 6, none⟩ = some (.int .i64 c.tax) := cell_of_row _ _ _ _ _ _ (heap_alloc_new w _)
  have c7 : (w.alloc (.cells c.cells 46)).cell? ⟨w.heap.size, 7, none⟩ = some (.int .i64 c.ch) := cell_of_row _ _ _ _ _ _ (heap_alloc_new w _)
  have c8 : (w.alloc (.cells c.cells 46)).cell? ⟨w.heap.size, 8, none⟩ = some (.int .i64 c.st) := cell_of_row _ _ _ _ _ _ (heap_alloc_new w _)
  have c9 : (w.alloc (.cells c.cells 46)).cell? ⟨w.heap.size, 9, none⟩ = some (.int .i64 c.tr) := cell_of_row _ _ _ _ _ _ (heap_alloc_new w _)
  go_enter Tryd.func15, Tryd.ntmps15
  go_wp2_with fail
  clear c0 c1 c2 c3 c4 c5 c6 c7 c8 c9 A0
  generalize w.alloc (.cells c.cells 46) = W at *
  go_loopw [3, 27] (fun v i wr => ∃ k : Nat, k ≤ 10 ∧ i = .int .i64 k ∧ Hid (wr.ownsRow W.heap.size 9 1 v k (strs ((c.nums.take k).map Lib.itoa))) ∧ Hid (Below W.heap.size W wr)) (fun _ i _ => 10 - (intOf i).toNat)
  case atStart => exact ⟨0, by omega, rfl, H0, Lib.hid (Below.refl _ _)⟩
  case round =>
    clear H0
    obtain ⟨k, hk, rfl, HO, HB⟩ := hrel
    by_cases hlt : k < 10
    · obtain ⟨x, hx⟩ : ∃ x, c.nums[k]? = some x := ⟨_, List.getElem?_eq_getElem (by simp [Cfg.nums]; omega)⟩
      have HXR := Lib.hid (HX.out x (List.mem_of_getElem? hx))
      have HS : Hid (strs ((c.nums.take (k + 1)).map Lib.itoa) = strs ((c.nums.take k).map Lib.itoa) ++ [.string (S (Lib.itoa x))]) := Lib.hid (by rw [List.take_add_one, hx]; simp [strs])
      have TR := Lib.hid (T0.out.keep HB.out)
      have hidx := nums_index c wr k hlt
      have hxx : c.nums.getD k 0 = x := by rw [List.getD_eq_getElem?_getD, hx]; rfl
      rw [hxx] at hidx
      have hs0 := HB.out.size
      clear hx hxx hk
      go_wp2_with (first
        | (go_at_call 16; refine (num_any x HXR.out _ TR.out).mono ?_; rintro e w6 ⟨rfl, hb6⟩; have HO6 := Lib.hid (pw_own_keep HO.out hb6); have HB6 := Lib.hid (HB.out.trans (hb6.mono HB.out.size)); have hs6 := HB6.out.size)
        | (at_builtin; refine wpList_append_own _ rfl _ _ 36 rfl W.heap.size 9 i0 (.string ⟨#[]⟩) 1 16 Tryd.underlying36 hi.out hz0.out hz1.out hz2.out rfl (by decide) _ k _ rfl (HO6.out.alloc _) ⟨w6.heap.size, 0, none⟩ 1 1 [.string (S (Lib.itoa x))] rfl rfl ?c1 ?c2 ?c3 ?c4 ?c5 ?_))
      case c1 => exact cell_new _ _ _ _
      case c2 => simp [Value.oneCell']
      case c3 => unfold maxLen; omega
      case c4 => omega
      case c5 => simp; omega
      intro v' w7 hown hgrow _
      have HO7 : Hid (w7.ownsRow W.heap.size 9 1 v' (k + 1) (strs ((c.nums.take (k + 1)).map Lib.itoa))) := Lib.hid (by rw [HS.out, List.map_take]; exact hown)
      have HB7 : Hid (Below W.heap.size W w7) := Lib.hid ((HB6.out.alloc hs6 _).grown hgrow (by simp; omega) (own_base HO.out))
      clear hown hgrow
      go_wp2_with fail
      go_roundw
      case rel => exact ⟨k + 1, by omega, by go_num, HO7, HB7⟩
      case measure => simp [intOf]; omega
    · obtain rfl : k = 10 := by omega
      clear hlt hk
      obtain ⟨g, cap, rfl, hcap⟩ : ∃ g cap, u3 = .slice (some ⟨g, 0, none⟩) 10 cap ∧ 10 ≤ cap := by
        rcases HO.out.2 with ⟨_, h0⟩ | ⟨g, cap, cur, hv, _, _, hc, _⟩
        · omega
        · exact ⟨g, cap, hv, hc⟩
      have hcells := own_strs HO.out
      have hgl : g < wr.heap.size := by
        rcases HO.out.2 with ⟨h1, _⟩ | ⟨g', cap', cur, h1, _, h3, _⟩
        · cases h1
        · cases h1; exact heap_lt h3
      have e1 : ((c.nums.map Lib.itoa).map S).map (·.data.toList) = c.nums.map Lib.itoa := by
        rw [List.map_map]
        exact (List.map_congr_left (fun a _ => rfl)).trans (List.map_id _)
      have hj := Tryd.strings_Join g 0 cap ((c.nums.map Lib.itoa).map S) (S [32]) wr hcells hgl (by simp [Cfg.nums]) (by simpa [Cfg.nums] using hcap)
        (by rw [e1]; exact Nat.le_trans (c.text_len HX.out) (by decide))
      rw [e1] at hj
      have HJ : Hid (Calls Tryd.prog 20 #[.slice (some ⟨g, 0, none⟩) 10 cap, .string ⟨#[32]⟩] wr fun e w' => e = .returned (.string (S c.text)) ∧ Below wr.heap.size wr w') := Lib.hid hj
      clear hj hcells hgl e1
      go_wp2_with (go_at_call 20; refine HJ.out.mono ?_; rintro e w8 ⟨rfl, hb8⟩)
      go_ret
      exact ⟨rfl, below_next (B0.out.trans (HB.out.mono B0.out.size)) hb8⟩
end Go.Proofs.YtbbdjfbhidpeiaaDoor
