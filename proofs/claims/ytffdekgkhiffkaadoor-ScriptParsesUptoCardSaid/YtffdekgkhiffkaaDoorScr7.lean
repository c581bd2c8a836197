/- scutageref40.words; strings.Split at a blank: the pieces. -/
import Derived.Test.YtffdekgkhiffkaaDoorLin2
import Derived.Test.YtffdekgkhiffkaaDoorLin3
import Derived.Test.YtffdekgkhiffkaaDoorScr6
namespace Go.Proofs.YtffdekgkhiffkaaDoor
open Go.RowKit

/-- A row of texts that is read. -/
def RdS (w : World) (R : Nat) (ps : List (List UInt8)) : Prop := ∀ j, j < ps.length → w.cell? ⟨R, j, none⟩ = some (.string (S (ps.getD j [])))
theorem RdS.keep {w w1 : World} {R : Nat} {ps : List (List UInt8)} (h : RdS w R ps) (hb : Below w.heap.size w w1) : RdS w1 R ps := fun j hj => cell_keep hb (h j hj)
theorem strs_getD {ps : List (List UInt8)} {j : Nat} (h : j < ps.length) : (strs ps)[j]? = some (.string (S (ps.getD j []))) := by
  unfold strs
  rw [List.getElem?_map, List.getElem?_eq_getElem h, List.getD_eq_getElem?_getD, List.getElem?_eq_getElem h]; rfl
theorem RdS.of_own {w : World} {base e n : Nat} {v : Value} {ps : List (List UInt8)} (h : w.ownsRow base e 1 v n (strs ps)) (hn : 0 < n) :
    ∃ R cap, v = .slice (some ⟨R, 0, none⟩) ps.length cap ∧ ps.length ≤ cap ∧ RdS w R ps := by
  have hl : ps.length = n := by have := h.1; simpa [strs] using this
  rcases h.2 with ⟨_, h0⟩ | ⟨g, cap, cur, rfl, hg, hh, hc, _⟩
  · omega
  · refine ⟨g, cap, by rw [hl], by omega, fun j hj => ?_⟩
    have := h.cellAt j (by omega)
    rw [this]
    exact strs_getD hj
theorem split_any (l : List UInt8) (hl : l.length < 4294967281) (w : World) (he : Env w) :
    Calls Tryd.prog 24 #[.string (S l), .string ⟨#[32]⟩] w fun e w' => ∃ R, e = .returned (.slice (some ⟨R, 0, none⟩) (pcs l).length (pcs l).length) ∧ Hid (RdS w' R (pcs l)) ∧ Hid (Below w.heap.size w w') := by
  obtain ⟨m, hm⟩ := he.len
  refine (Tryd.strings_Split (S l) (S [32]) m w (by rw [S_size]; exact hl) hm (by decide)).mono ?_
  rintro e w1 ⟨h1, h2⟩
  rw [pcs_count] at h1
  rw [pcs_cells] at h2
  refine ⟨w.heap.size, h1, ?_, Lib.hid (by rw [h2]; exact below_alloc0 w _)⟩
  refine Lib.hid fun j hj => ?_
  rw [h2, cell_of_row _ _ _ _ _ _ (heap_alloc_new w _)]
  simpa using strs_getD hj

/-- The words so far: done, the next one from f on, seen up to j. -/
def Wd (l : List UInt8) (f j : Nat) (done : List (List UInt8)) : Prop :=
  if j ≤ l.length then f ≤ j ∧ (32 : UInt8) ∉ (l.take j).drop f ∧ ∀ p, (32 : UInt8) ∉ p → Pieces 32 (l.take f ++ p) (done ++ [p]) else Pieces 32 l done
theorem wd_zero (l : List UInt8) : Wd l 0 0 [] := by
  unfold Wd
  rw [if_pos (Nat.zero_le _)]
  exact ⟨Nat.le_refl _, by simp, fun p hp => by simpa using Pieces.one hp⟩
theorem wd_more {l : List UInt8} {f j : Nat} {done : List (List UInt8)} (h : Wd l f j done) (hj : j < l.length) (hc : l.getD j 0 ≠ 32) : Wd l f (j + 1) done := by
  unfold Wd at *
  rw [if_pos (by omega)] at h
  rw [if_pos (by omega)]
  refine ⟨by omega, ?_, h.2.2⟩
  rw [take_more hj, List.drop_append_of_le_length (by rw [List.length_take]; have := h.1; omega), List.mem_append, List.mem_singleton, not_or]
  exact ⟨h.2.1, fun e => hc e.symm⟩
theorem wd_blank {l : List UInt8} {f j : Nat} {done : List (List UInt8)} (h : Wd l f j done) (hj : j < l.length) (hc : l.getD j 0 = 32) : Wd l (j + 1) (j + 1) (done ++ [(l.take j).drop f]) := by
  unfold Wd at *
  rw [if_pos (by omega)] at h
  rw [if_pos (by omega)]
  obtain ⟨h1, h2, h3⟩ := h
  have h4 := h3 _ h2
  have e : l.take f ++ (l.take j).drop f = l.take j := by
    have : l.take f = (l.take j).take f := by rw [List.take_take, Nat.min_eq_left h1]
    rw [this, List.take_append_drop]
  rw [e] at h4
  refine ⟨Nat.le_refl _, by simp, fun p hp => ?_⟩
  have h5 := h4.snoc hp
  rw [take_more hj, hc, List.append_assoc]
  exact h5
theorem wd_end {l : List UInt8} {f : Nat} {done : List (List UInt8)} (h : Wd l f l.length done) (g : Nat) : Wd l g (l.length + 1) (done ++ [l.drop f]) := by
  unfold Wd at *
  rw [if_pos (by omega)] at h
  rw [if_neg (by omega)]
  obtain ⟨h1, h2, h3⟩ := h
  have h4 := h3 _ h2
  rw [List.take_length] at h4
  rw [List.take_append_drop] at h4
  exact h4
theorem wd_done {l : List UInt8} {f : Nat} {done : List (List UInt8)} (h : Wd l f (l.length + 1) done) : Pieces 32 l done := by
  unfold Wd at h
  rw [if_neg (by omega)] at h
  exact h
theorem wd_le {l : List UInt8} {f j : Nat} {done : List (List UInt8)} (h : Wd l f j done) (hj : j ≤ l.length) : f ≤ j := by
  unfold Wd at h
  rw [if_pos hj] at h
  exact h.1
theorem wd_len {l : List UInt8} {f j : Nat} {done : List (List UInt8)} (h : Wd l f j done) (hj : j ≤ l.length) : done.length ≤ l.length := by
  unfold Wd at h
  rw [if_pos hj] at h
  have := (pieces_len (h.2.2 [] (by simp))).1
  simp at this
  omega
theorem S_part (l : List UInt8) (f j : Nat) : (S l).extract f j = S ((l.take j).drop f) := by
  apply ByteArray.ext
  simp [S]
  rw [List.drop_take]

set_option maxHeartbeats 4000000 in
set_option maxRecDepth 100000 in
theorem words_any (l : List UInt8) (hl : l.length ≤ 1073741824) (w : World) :
    Calls Tryd.prog 26 #[.string (S l)] w fun e w' => ∃ R cap ps, e = .returned (.slice (some ⟨R, 0, none⟩) ps.length cap) ∧ ps.length ≤ cap ∧ Hid (Pieces 32 l ps) ∧ Hid (RdS w' R ps) ∧ Hid (Below w.heap.size w w') := by
  obtain ⟨i0, hi, hz0, hz1, hz2⟩ := info_parts info_str
  have hi := Lib.hid hi
  have hz0 := Lib.hid hz0
  have hz1 := Lib.hid hz1
  have hz2 := Lib.hid hz2
  go_enter Tryd.func26, Tryd.ntmps26
  go_wp2_with fail
  go_loopw [3, 4, 5] (fun v fr i wr => ∃ (j f : Nat) (done : List (List UInt8)), j ≤ l.length + 1 ∧ f ≤ l.length + 1 ∧ i = .int .i64 j ∧ fr = .int .i64 f ∧ Hid (Wd l f j done) ∧ Hid (wr.ownsRow w.heap.size 9 1 v done.length (strs done)) ∧ Hid (Below w.heap.size w wr)) (fun _ _ i _ => l.length + 1 - (intOf i).toNat)
  case atStart => exact ⟨0, 0, [], by omega, by omega, rfl, rfl, Lib.hid (wd_zero l), Lib.hid ⟨rfl, .inl ⟨rfl, rfl⟩⟩, Lib.hid (Below.refl _ _)⟩
  case round =>
    obtain ⟨j, f, done, hj, hf, rfl, rfl, HW, HO, HB⟩ := hrel
    by_cases hle : j ≤ l.length
    · have d1 : decide ((j : Int) ≤ ((S l).size : Int)) = true := by rw [S_size]; exact decide_eq_true (by omega)
      have d2 : decide (j ≤ (S l).size) = true := by rw [S_size]; exact decide_eq_true (by omega)
      have hfj := wd_le HW.out hle
      have HDL : Hid (done.length ≤ 1073741824) := Lib.hid (Nat.le_trans (wd_len HW.out hle) hl)
      have hex := S_part l f j
      have f0 : (0 : Int) ≤ (f : Int) := by omega
      have f1 : (f : Int) ≤ (j : Int) := by omega
      have f2 : (j : Int) ≤ ((S l).size : Int) := by rw [S_size]; omega
      have HJ := Lib.hid hle
      by_cases hlt : j < l.length
      · have e1 : ((j : Int) == ((S l).size : Int)) = false := by rw [S_size]; simp; omega
        have e2 : (j == (S l).size) = false := by rw [S_size]; simp; omega
        have hidx := str_index l j hlt
        by_cases hb : l.getD j 0 = 32
        · have HN := Lib.hid (wd_blank HW.out hlt hb)
          rw [hb] at hidx
          clear hb
          go_wp2_with (at_builtin; refine wpList_append_own _ rfl _ _ 47 rfl w.heap.size 9 i0 (.string ⟨#[]⟩) 1 16 Tryd.underlying47 hi.out hz0.out hz1.out hz2.out rfl (by decide) _ done.length _ rfl (HO.out.alloc _) ⟨wr.heap.size, 0, none⟩ 1 1 [.string (S ((l.take j).drop f))] rfl rfl ?c1 ?c2 ?c3 ?c4 ?c5 ?_)
          case c1 => exact cell_new _ _ _ _
          case c2 => simp [Value.oneCell']
          case c3 => unfold maxLen; have := HDL.out; omega
          case c4 => have := HDL.out; omega
          case c5 => have := HB.out.size; simp; omega
          intro v' w7 hown hgrow _
          have HO7 : Hid (w7.ownsRow w.heap.size 9 1 v' (done ++ [(l.take j).drop f]).length (strs (done ++ [(l.take j).drop f]))) := Lib.hid (by rw [List.length_append]; unfold strs; rw [List.map_append]; exact hown)
          have HB7 : Hid (Below w.heap.size w w7) := Lib.hid ((HB.out.alloc HB.out.size _).grown hgrow (by simp; have := HB.out.size; omega) (own_base HO.out))
          clear hown hgrow
          go_wp2_with fail
          go_roundw
          case rel => exact ⟨j + 1, j + 1, _, by have := HJ.out; omega, by have := HJ.out; omega, by go_num, by go_num, HN, HO7, HB7⟩
          case measure => simp [intOf]; have := HJ.out; omega
        · have e3 : (((l.getD j 0).toNat : Int) == 32) = false := by
            simp; intro h; exact hb (UInt8.toNat_inj.1 (by show (l.getD j 0).toNat = 32; rw [List.getD_eq_getElem?_getD]; omega))
          have HN := Lib.hid (wd_more HW.out hlt hb)
          obtain ⟨q, hq⟩ : ∃ q : Int, q = ((l.getD j 0).toNat : Int) := ⟨_, rfl⟩
          rw [← hq] at hidx e3
          clear hb hq
          go_wp2_with fail
          go_roundw
          case rel => exact ⟨j + 1, f, done, by have := HJ.out; omega, by have := HJ.out; omega, by go_num, rfl, HN, HO, HB⟩
          case measure => simp [intOf]; have := HJ.out; omega
      · obtain rfl : j = l.length := by omega
        have e1 : ((l.length : Int) == ((S l).size : Int)) = true := by rw [S_size]; simp
        have e2 : (l.length == (S l).size) = true := by rw [S_size]; simp
        have HN := Lib.hid (wd_end HW.out (l.length + 1))
        go_wp2_with (at_builtin; refine wpList_append_own _ rfl _ _ 47 rfl w.heap.size 9 i0 (.string ⟨#[]⟩) 1 16 Tryd.underlying47 hi.out hz0.out hz1.out hz2.out rfl (by decide) _ done.length _ rfl (HO.out.alloc _) ⟨wr.heap.size, 0, none⟩ 1 1 [.string (S (l.drop f))] rfl rfl ?c1 ?c2 ?c3 ?c4 ?c5 ?_)
        case c1 => exact cell_new _ _ _ _
        case c2 => simp [Value.oneCell']
        case c3 => unfold maxLen; have := HDL.out; omega
        case c4 => have := HDL.out; omega
        case c5 => have := HB.out.size; simp; omega
        intro v' w7 hown hgrow _
        have HO7 : Hid (w7.ownsRow w.heap.size 9 1 v' (done ++ [l.drop f]).length (strs (done ++ [l.drop f]))) := Lib.hid (by rw [List.length_append]; unfold strs; rw [List.map_append]; exact hown)
        have HB7 : Hid (Below w.heap.size w w7) := Lib.hid ((HB.out.alloc HB.out.size _).grown hgrow (by simp; have := HB.out.size; omega) (own_base HO.out))
        clear hown hgrow
        go_wp2_with fail
        go_roundw
        case rel => exact ⟨l.length + 1, l.length + 1, _, by have := HJ.out; omega, by have := HJ.out; omega, by go_num, by go_num, HN, HO7, HB7⟩
        case measure => simp [intOf]
    · obtain rfl : j = l.length + 1 := by omega
      have d1 : decide (((l.length + 1 : Nat) : Int) ≤ ((S l).size : Int)) = false := by rw [S_size]; exact decide_eq_false (by omega)
      have d3 : decide ((l.length : Int) + 1 ≤ ((S l).size : Int)) = false := by rw [S_size]; exact decide_eq_false (by omega)
      have d2 : decide (l.length + 1 ≤ (S l).size) = false := by rw [S_size]; exact decide_eq_false (by omega)
      have HN := Lib.hid (wd_done HW.out)
      have hpos : 0 < done.length := by
        cases done with
        | nil => exact absurd rfl HN.out.1
        | cons a r => simp
      obtain ⟨R, cap, rfl, hcap, hr⟩ := RdS.of_own HO.out hpos
      have HR := Lib.hid hr
      clear hr
      go_wp2_with fail
      go_ret
      exact ⟨R, cap, done, rfl, hcap, HN, HR, HB⟩
end Go.Proofs.YtffdekgkhiffkaaDoor
