/- script.Parse. -/
import Derived.Test.YtffdekgkhiffkaaDoorScr7
import Derived.Deep.CutRange
namespace Go.Proofs.YtffdekgkhiffkaaDoor
open Go.RowKit

theorem str_eqs (a b : List UInt8) : ((S a).toList == (S b).toList) = decide (a = b) := by rw [toList_S, toList_S]; by_cases h : a = b <;> simp [h]
theorem cells_setF (x : Stp) (v : Int) {l : UInt8} (h : Stp.Let l) (hn : l ≠ 78) : x.cells.setIfInBounds (offI l) (.int .i64 v) = (x.setF l v).cells := by
  rcases h with rfl | rfl | rfl | rfl | rfl | rfl
  · rfl
  · rfl
  · rfl
  · rfl
  · exact absurd rfl hn
  · rfl
theorem cells_setN (x : Stp) (v : Int) : x.cells.setIfInBounds 6 (.int .i64 v) = (x.setF 78 v).cells := rfl
theorem off_lt {l : UInt8} : offI l < 6 := by
  unfold offI
  repeat' split
  all_goals omega
/-- What has been read so far: all numerals, or one is none. -/
def Fine (x : Stp) (ls : List UInt8) (rest : List (List UInt8)) (k : Nat) (fine : Bool) : Prop := k ≤ ls.length ∧ if fine then Got x ls rest k else ∃ j, j < k ∧ numT (rest.getD j []) = none
theorem fine_zero (k : Int) (ls : List UInt8) (rest : List (List UInt8)) : Fine { Stp.zero with k := k } ls rest 0 true := ⟨Nat.zero_le _, got_zero k ls rest⟩
theorem fine_step {x : Stp} {kk : Nat} {rest : List (List UInt8)} {k : Nat} {fine : Bool} (h : Fine x (letsI kk) rest k fine) (hk : k < (letsI kk).length) (hr : rest.length = (letsI kk).length) {v : Int} (hv : ∀ n, numT (rest.getD k []) = some n → v = n) :
    Fine (x.setF ((letsI kk).getD k 0) v) (letsI kk) rest (k + 1) (fine && (numT (rest.getD k [])).isSome) := by
  refine ⟨hk, ?_⟩
  cases hf : fine with
  | false =>
    rw [hf] at h
    obtain ⟨j, hj, hn⟩ := h.2
    exact ⟨j, by omega, hn⟩
  | true =>
    rw [hf] at h
    have hg : Got x (letsI kk) rest k := h.2
    cases hn : numT (rest.getD k []) with
    | none => exact ⟨k, by omega, hn⟩
    | some n =>
      have := got_step hg hk (by omega) (Stp.lets_let kk) (Stp.lets_nodup kk) hn
      rw [← hv n hn] at this
      exact this
theorem fine_no {x : Stp} {kk : Nat} {l p : List UInt8} {rest : List (List UInt8)} (hp : Pieces 32 l (p :: rest)) (h : Fine x (letsI kk) rest (letsI kk).length false) {y : Stp} (hy : Lin l y) : y.k ≠ (kk : Int) := by
  intro e
  obtain ⟨j, hj, hn⟩ := h.2
  rw [lin_num hp hy e hj] at hn
  cases hn

/-- What the program says of a line. -/
def PPar (l : List UInt8) (w : World) (e : Ending) (w' : World) : Prop := ∃ x ok, e = .returned (.tuple #[.agg x.cells, .int .i64 (if ok then 0 else 16)]) ∧ Parsed l x ok ∧ Below w.heap.size w w'
theorem ppar_no {l : List UInt8} {w w' : World} (h : ∀ y, ¬ Lin l y) (hb : Below w.heap.size w w') : PPar l w (.returned (.tuple #[.agg Stp.zero.cells, .int .i64 16])) w' := ⟨Stp.zero, false, rfl, parsed_no h, hb⟩
theorem ppar_yes {l : List UInt8} {x : Stp} {w w' : World} {e : Ending} (he : e = .returned (.tuple #[.agg x.cells, .int .i64 0])) (h : Lin l x) (hb : Below w.heap.size w w') : PPar l w e w' := ⟨x, true, he, h, hb⟩
theorem kind_up {l : List UInt8} {ii : Nat} (hk : ∀ y, Lin l y → ((ii + 1 : Nat) : Int) ≤ y.k) (hn : ∀ y, Lin l y → y.k ≠ ((ii + 1 : Nat) : Int)) : ∀ y, Lin l y → ((ii + 1 + 1 : Nat) : Int) ≤ y.k := by
  intro y hy
  have := hk y hy
  have := hn y hy
  omega
theorem rdS_far {w : World} {R b i : Nat} {v : Value} {ps : List (List UInt8)} (h : RdS w R ps) (hb : b ≠ R) : RdS (w.setCell ⟨b, i, none⟩ v) R ps := fun j hj => by
  rw [World.cell?_setCell_far _ _ _ _ hb]; exact h j hj
set_option maxHeartbeats 8000000 in
set_option maxRecDepth 100000 in
theorem parse_any (l : List UInt8) (hl : l.length ≤ 1073741824) (w : World) (he : Env w) :
    Calls Tryd.prog 10 #[.string (S l)] w fun e w' => PPar l w e w' := by
  have A0 := Lib.hid (heap_alloc_new w (.cells Stp.zero.cells 23))
  have B0 := Lib.hid (below_alloc0 w (.cells Stp.zero.cells 23))
  have E0 := Lib.hid (he.keep B0.out)
  have EW := Lib.hid he
  have HL := Lib.hid hl
  have HP := Lib.hid (pcs_pieces l)
  clear hl he
  go_enter Tryd.func10, Tryd.ntmps10
  go_wp2_with (first
    | (go_at_call 24; refine (split_any l (by have := HL.out; omega) _ E0.out).mono ?_; rintro e w1 ⟨R, rfl, HR, HB⟩; have A1 := Lib.hid (keep HB.out A0.out); have B1 := Lib.hid (below_next B0.out HB.out); have E1 := Lib.hid (E0.out.keep HB.out); clear HB)
    | (go_at_call 16; refine (rows_some _).mono ?_; rintro e w2 ⟨T, rfl, hT, hb2⟩; have HT := Lib.hid hT; have A2 := Lib.hid (keep hb2 A1.out); have B2 := Lib.hid (below_next B1.out hb2); have E2 := Lib.hid (E1.out.keep hb2); have R2 := Lib.hid (HR.out.keep hb2); clear hT hb2))
  clear A0 B0 E0 A1 B1 E1 HR
  generalize pcs l = ps at *
  cases ps with
  | nil => exact absurd rfl HP.out.1
  | cons p rest =>
  have HLR : Hid ((p :: rest).length ≤ 1073741825) := Lib.hid (by have := (pieces_len HP.out).1; have := HL.out; omega)
  have HLP : Hid (∀ q ∈ p :: rest, q.length ≤ 1073741824) := Lib.hid (fun q hq => Nat.le_trans ((pieces_len HP.out).2 q hq) HL.out)
  rw [List.length_cons]
  have hlr := HLR.out
  rw [List.length_cons] at hlr
  go_loopw [16] (fun i wr => ∃ ii : Nat, ii ≤ 17 ∧ i = .int .i64 ii ∧ Hid (∀ y, Lin l y → ((ii + 1 : Nat) : Int) ≤ y.k) ∧ Hid (wr.heap[w.heap.size]? = some (.cells Stp.zero.cells 23 (0, 0))) ∧ Hid (RdS wr R (p :: rest)) ∧ Hid (wr.heap[T]? = some (.cells rowC 44 (0, 0))) ∧ Hid (Env wr) ∧ Hid (Below w.heap.size w wr)) (fun i _ => 17 - (intOf i).toNat)
  case atStart => exact ⟨0, by omega, rfl, Lib.hid (fun y hy => (lin_kind hy).1), A2, R2, HT, E2, B2⟩
  case round =>
    obtain ⟨ii, hii, rfl, HK, A3, R3, T3, E3, B3⟩ := hrel
    clear A2 B2 E2 HT R2
    by_cases hle : ii < 17
    · have d1 : decide ((ii : Int) < 17) = true := decide_eq_true (by omega)
      have i1 : (0 : Int) ≤ (ii : Int) := by omega
      have i2 : (ii : Int) < 17 := by omega
      have r0 : wr.cell? ⟨T, ii * 2, none⟩ = some (.string (S (wordI (ii + 1)))) := (cell_of_row _ _ (ii * 2) _ _ _ T3.out).trans (rowC_get ii hle).1
      have r1 : wr.cell? ⟨T, ii * 2 + 1, none⟩ = some (.string (S (letsI (ii + 1)))) := (cell_of_row _ _ (ii * 2 + 1) _ _ _ T3.out).trans (rowC_get ii hle).2
      have cell0 : wr.cell? ⟨R, 0, none⟩ = some (.string (S p)) := R3.out 0 (by simp)
      have p1 : (0 : Int) < (rest.length : Int) + 1 := by omega
      have HII := Lib.hid hle
      have hL4 := lets_len (ii + 1)
      obtain ⟨L, hL⟩ : ∃ L, L = (letsI (ii + 1)).length := ⟨_, rfl⟩
      have hsz : (S (letsI (ii + 1))).size = L := by rw [S_size, hL]
      rw [← hL] at hL4
      have HLL := Lib.hid hL
      clear hL
      have ws : IntKind.i64.wrap ((rest.length : Int) + 1 - 1) = rest.length := by rw [Int.add_sub_cancel]; exact IntWalk.i64_in _ (by omega)
      have ws2 : IntKind.i64.wrap (((rest.length + 1 : Nat) : Int) - 1) = rest.length := by rw [show (((rest.length + 1 : Nat) : Int) - 1) = (rest.length : Int) by omega]; exact IntWalk.i64_in _ (by omega)
      go_upto_region 5 with fail
      obtain ⟨W, hW⟩ : ∃ W, W = wr.alloc (.cells #[.string (S (wordI (ii + 1))), .string (S (letsI (ii + 1)))] 44) := ⟨_, rfl⟩
      have HQ : Hid (W.heap[wr.heap.size]? = some (.cells #[.string (S (wordI (ii + 1))), .string (S (letsI (ii + 1)))] 44 (0, 0))) := Lib.hid (by rw [hW]; exact heap_alloc_new wr _)
      have hbW : Below wr.heap.size wr W := by rw [hW]; exact below_alloc0 wr _
      rw [← hW]
      clear hW r0 r1 cell0
      have A4 := Lib.hid (keep hbW A3.out)
      have R4 := Lib.hid (R3.out.keep hbW)
      have T4 := Lib.hid (keep hbW T3.out)
      have E4 := Lib.hid (E3.out.keep hbW)
      have B4 := Lib.hid (below_next B3.out hbW)
      clear A3 R3 T3 E3 B3 hbW
      have q0 : W.cell? ⟨wr.heap.size, 0, none⟩ = some (.string (S (wordI (ii + 1)))) := cell_of_row _ _ _ _ _ _ HQ.out
      have q1 : W.cell? ⟨wr.heap.size, 1, none⟩ = some (.string (S (letsI (ii + 1)))) := cell_of_row _ _ _ _ _ _ HQ.out
      have cell0 : W.cell? ⟨R, 0, none⟩ = some (.string (S p)) := R4.out 0 (by simp)
      by_cases hw : wordI (ii + 1) = p
      · have hb : ((S (wordI (ii + 1))).toList == (S p).toList) = true := by rw [str_eqs]; exact decide_eq_true hw
        by_cases hr : rest.length = L
        · have g1 : ((L : Int) != (rest.length : Int)) = false := by simp [hr]
          have HW := Lib.hid hw
          have HR := Lib.hid hr
          clear hw hr
          go_quiet (fail)
          generalize hWd : W.drewN _ = Wd
          have hbD : Below W.heap.size W Wd := by rw [← hWd]; exact below_drewN (Below.refl _ _) _
          clear hWd
          have Q5 := Lib.hid (keep hbD HQ.out)
          have A5 := Lib.hid (keep hbD A4.out)
          have R5 := Lib.hid (R4.out.keep hbD)
          have T5 := Lib.hid (keep hbD T4.out)
          have E5 := Lib.hid (E4.out.keep hbD)
          have B5 := Lib.hid (below_next B4.out hbD)
          clear hbD HQ A4 R4 T4 E4 B4 q0 q1 cell0 hb g1
          have q1 : Wd.cell? ⟨wr.heap.size, 1, none⟩ = some (.string (S (letsI (ii + 1)))) := cell_of_row _ _ _ _ _ _ Q5.out
          have q1a : ∀ o, (Wd.alloc o).cell? ⟨wr.heap.size, 1, none⟩ = some (.string (S (letsI (ii + 1)))) := fun o => cell_keep (below_alloc0 Wd o) q1
          go_wp2_with fail
          generalize wr.heap.size = QB at *
          have HXL : Hid (QB < Wd.heap.size ∧ w.heap.size < Wd.heap.size ∧ R < Wd.heap.size ∧ T < Wd.heap.size) := Lib.hid ⟨heap_lt Q5.out, heap_lt A5.out, World.block_lt_of_cell? Wd _ (R5.out 0 (by simp)), heap_lt T5.out⟩
          go_loopw [8, 42] (fun fv k wr => ∃ (n : Nat) (x : Stp) (fb : Bool), n ≤ L ∧ k = .int .i64 n ∧ fv = .bool fb ∧ Hid (x.k = ((ii + 1 : Nat) : Int)) ∧ Hid (Fine x (letsI (ii + 1)) rest n fb) ∧ Hid (wr.heap[Wd.heap.size]? = some (.cells x.cells 23 (0, 0))) ∧ Hid (wr.heap[QB]? = some (.cells #[.string (S (wordI (ii + 1))), .string (S (letsI (ii + 1)))] 44 (0, 0))) ∧ Hid (wr.heap[w.heap.size]? = some (.cells Stp.zero.cells 23 (0, 0))) ∧ Hid (RdS wr R (p :: rest)) ∧ Hid (wr.heap[T]? = some (.cells rowC 44 (0, 0))) ∧ Hid (Env wr) ∧ Hid (Below w.heap.size w wr)) (fun _ k _ => L - (intOf k).toNat)
          case atStart =>
            exact ⟨0, { Stp.zero with k := ((ii + 1 : Nat) : Int) }, true, Nat.zero_le _, rfl, rfl, Lib.hid rfl, Lib.hid (fine_zero _ _ _), Lib.hid (heap_alloc_new Wd _), Lib.hid (keep_alloc _ Q5.out), Lib.hid (keep_alloc _ A5.out), Lib.hid (R5.out.keep (below_alloc0 _ _)), Lib.hid (keep_alloc _ T5.out), Lib.hid (E5.out.keep (below_alloc0 _ _)), Lib.hid (below_new B5.out _)⟩
          case round =>
            obtain ⟨n, x, fb, hn, rfl, rfl, HX, HF, X6, Q6, A6, R6, T6, E6, B6⟩ := hrel
            clear Q5 A5 R5 T5 E5 B5 q1 q1a
            by_cases hlt : n < L
            · have hlt2 : n < (letsI (ii + 1)).length := by rw [← HLL.out]; exact hlt
              have hrn : n < rest.length := by rw [HR.out]; exact hlt
              have hidx := str_index (letsI (ii + 1)) n hlt2
              have q1 : wr.cell? ⟨QB, 1, none⟩ = some (.string (S (letsI (ii + 1)))) := cell_of_row _ _ _ _ _ _ Q6.out
              have cn : wr.cell? ⟨R, n + 1, none⟩ = some (.string (S (rest.getD n []))) := by have := R6.out (n + 1) (by simp; omega); simpa using this
              have m0 : (0 : Int) ≤ (n : Int) + 1 := by omega
              have m1 : (n : Int) + 1 < (rest.length : Int) + 1 := by omega
              have HF0 := fun v hv => fine_step (v := v) HF.out hlt2 (HR.out.trans HLL.out) hv
              have HSL : Hid ((rest.getD n []).length ≤ 281474976710656) := Lib.hid (by
                have := HLP.out (rest.getD n []) (by rw [List.getD_eq_getElem?_getD, List.getElem?_eq_getElem hrn]; exact List.mem_cons_of_mem _ (List.getElem_mem hrn))
                omega)
              have LET : Hid (Stp.Let ((letsI (ii + 1)).getD n 0)) := Lib.hid (Stp.lets_let _ _ (getD_in hlt2))
              generalize rest.getD n [] = s at *
              obtain ⟨c, hcc⟩ : ∃ c, c = (letsI (ii + 1)).getD n 0 := ⟨_, rfl⟩
              rw [← hcc] at hidx HF0 LET
              obtain ⟨ok, hok⟩ : ∃ ok, ok = (numT s).isSome := ⟨_, rfl⟩
              rw [← hok] at HF0
              have HF1 := Lib.hid HF0
              have HOK := Lib.hid hok
              have HLT : Hid (n + 1 ≤ L) := Lib.hid hlt
              have HLN := Lib.hid hlt
              have n1 : (0 : Int) ≤ (n : Int) := by omega
              have n2 : (n : Int) < (L : Int) := by omega
              clear hcc hok HF0 HF hlt2 hrn
              by_cases h78 : c = 78
              · subst h78
                have e78 : ((UInt8.toNat 78 : Nat) : Int) = 78 := rfl
                cases fb
                all_goals
                  go_wp2_with (go_at_call 25; refine (number_any s HSL.out _ E6.out).mono ?_; rintro e w7 ⟨v, rfl, hv, hb7⟩; rw [← HOK.out]; have FS := Lib.hid (HF1.out v fun m hm => (hv m hm).1); have X7 := Lib.hid (keep hb7 X6.out); have Q7 := Lib.hid (keep hb7 Q6.out); have A7 := Lib.hid (keep hb7 A6.out); have R7 := Lib.hid (R6.out.keep hb7); have T7 := Lib.hid (keep hb7 T6.out); have B7 := Lib.hid (below_next B6.out hb7); have q2 : w7.cell? ⟨QB, 1, none⟩ = some (.string (S (letsI (ii + 1)))) := cell_of_row _ _ _ _ _ _ Q7.out; have fz := fun k => Lib.frozen_of_heap X7.out k; have xk : w7.cell? ⟨Wd.heap.size, 6, none⟩ = some (.int .i64 x.n) := cell_of_row _ _ _ _ _ _ X7.out; clear hv hb7)
                  go_roundw
                  case rel => exact ⟨n + 1, x.setF 78 v, _, HLT.out, by go_num, rfl, Lib.hid (by rw [Stp.setF_k]; exact HX.out), FS, Lib.hid (by rw [heap_setCell_same _ _ _ _ _ _ X7.out, cells_setN]), Lib.hid ((heap_setCell_other _ _ _ _ (by have := HXL.out; show QB ≠ Wd.heap.size; omega)).trans Q7.out), Lib.hid ((heap_setCell_other _ _ _ _ (by have := HXL.out; show w.heap.size ≠ Wd.heap.size; omega)).trans A7.out), Lib.hid (rdS_far R7.out (by have := HXL.out; omega)), Lib.hid ((heap_setCell_other _ _ _ _ (by have := HXL.out; show T ≠ Wd.heap.size; omega)).trans T7.out), Lib.hid (EW.out.keep (B7.out.setCell (p := ⟨Wd.heap.size, 6, none⟩) (by have := HXL.out; show w.heap.size ≤ Wd.heap.size; omega) _)), Lib.hid (B7.out.setCell (p := ⟨Wd.heap.size, 6, none⟩) (by have := HXL.out; show w.heap.size ≤ Wd.heap.size; omega) _)⟩
                  case measure => simp [intOf]; have := HLT.out; have := HLN.out; omega
              · have e78 : ((c.toNat : Int) == 78) = false := by simp; intro hh; exact h78 (UInt8.toNat_inj.1 (by show c.toNat = 78; omega))
                have e78b : (c.toNat == 78) = false := by simp; intro hh; exact h78 (UInt8.toNat_inj.1 (by show c.toNat = 78; omega))
                have HOF := Lib.hid (letF_cell x h78)
                have HCS := Lib.hid (fun v => cells_setF x v LET.out h78)
                clear h78
                cases fb
                all_goals
                  go_wp2_with (first
                    | (go_at_call 25; refine (number_any s HSL.out _ E6.out).mono ?_; rintro e w7 ⟨v, rfl, hv, hb7⟩; rw [← HOK.out]; have FS := Lib.hid (HF1.out v fun m hm => (hv m hm).1); have X7 := Lib.hid (keep hb7 X6.out); have Q7 := Lib.hid (keep hb7 Q6.out); have A7 := Lib.hid (keep hb7 A6.out); have R7 := Lib.hid (R6.out.keep hb7); have T7 := Lib.hid (keep hb7 T6.out); have B7 := Lib.hid (below_next B6.out hb7); have q2 : w7.cell? ⟨QB, 1, none⟩ = some (.string (S (letsI (ii + 1)))) := cell_of_row _ _ _ _ _ _ Q7.out; have fz := fun k => Lib.frozen_of_heap X7.out k; have xk := (cell_of_row _ _ (offI c) _ _ _ X7.out).trans HOF.out; clear hv hb7)
                    | (go_at_call 18; refine (field_any Wd.heap.size c _).mono ?_; rintro e w8 ⟨rfl, rfl⟩))
                  go_roundw
                  case rel => exact ⟨n + 1, x.setF c v, _, HLT.out, by go_num, rfl, Lib.hid (by rw [Stp.setF_k]; exact HX.out), FS, Lib.hid (by rw [heap_setCell_same _ _ _ _ _ _ X7.out, HCS.out]), Lib.hid ((heap_setCell_other _ _ _ _ (by have := HXL.out; show QB ≠ Wd.heap.size; omega)).trans Q7.out), Lib.hid ((heap_setCell_other _ _ _ _ (by have := HXL.out; show w.heap.size ≠ Wd.heap.size; omega)).trans A7.out), Lib.hid (rdS_far R7.out (by have := HXL.out; omega)), Lib.hid ((heap_setCell_other _ _ _ _ (by have := HXL.out; show T ≠ Wd.heap.size; omega)).trans T7.out), Lib.hid (EW.out.keep (B7.out.setCell (p := ⟨Wd.heap.size, offI c, none⟩) (by have := HXL.out; show w.heap.size ≤ Wd.heap.size; omega) _)), Lib.hid (B7.out.setCell (p := ⟨Wd.heap.size, offI c, none⟩) (by have := HXL.out; show w.heap.size ≤ Wd.heap.size; omega) _)⟩
                  case measure => simp [intOf]; have := HLT.out; have := HLN.out; omega
            · obtain rfl : n = L := by omega
              have hx0 : ¬ n < n := by omega
              have HF2 : Hid (Fine x (letsI (ii + 1)) rest (letsI (ii + 1)).length fb) := Lib.hid (by rw [← HLL.out]; exact HF.out)
              clear HF hn hlt
              cases fb with
              | false =>
                have HN : Hid (∀ y, Lin l y → ((ii + 1 + 1 : Nat) : Int) ≤ y.k) := Lib.hid (kind_up HK.out fun y hy => fine_no HP.out HF2.out hy)
                go_wp2_with fail
                go_roundw
                case rel => exact ⟨ii + 1, HII.out, by go_num, HN, A6, R6, T6, E6, B6⟩
                case measure => simp [intOf]; have := HII.out; omega
              | true =>
                have HG : Hid (Got x (letsI (ii + 1)) rest (letsI (ii + 1)).length) := Lib.hid HF2.out.2
                by_cases hc : x.check = 0
                · have HLIN : Hid (Lin l x) := Lib.hid (got_lin HP.out HX.out HW.out HG.out (HR.out.trans HLL.out) hc)
                  go_wp2_with (first
                    | (refine gate_guard (by rfl) ?_; refine wpList_load_row rfl 23 _ rfl Wd.heap.size rfl 23 x.cells (0, 0) _ X6.out Tryd.underlying23 rfl (by kernel_rfl) ?_)
                    | (go_at_call 15; refine (ccheck_any x _).mono ?_; rintro e w7 ⟨rfl, hb7⟩; rw [hc]; have A7 := Lib.hid (keep hb7 A6.out); have X7 := Lib.hid (keep hb7 X6.out); have B7 := Lib.hid (below_next B6.out hb7); clear hb7)
                    | (refine wpList_load_row rfl 23 _ rfl Wd.heap.size rfl 23 x.cells (0, 0) _ X7.out Tryd.underlying23 rfl (by kernel_rfl) ?_)
                    | (refine wpList_store_row rfl 23 _ _ rfl w.heap.size x.cells rfl rfl 23 _ A7.out (by kernel_rfl) rfl (by kernel_rfl) ?_))
                  exact bodyPost_ret (v := .tuple #[.agg x.cells, .int .i64 0]) (results_row_tmp (p := 2) (u := 3) rfl _ _ w.heap.size 23 x.cells _ _ rfl (heap_setRow_same _ A7.out) Tryd.underlying23 rfl (by kernel_rfl)) rfl
                    (ppar_yes rfl HLIN.out (below_setRow B7.out (Nat.le_refl _) _))
                · have k1 : (x.check == 0) = false := by simpa using hc
                  have HN : Hid (∀ y, Lin l y → ((ii + 1 + 1 : Nat) : Int) ≤ y.k) := Lib.hid (kind_up HK.out fun y hy hyk => hc (by rw [← got_only HP.out HX.out HG.out hy hyk]; exact hy.1))
                  clear hc
                  go_wp2_with (first
                    | (refine gate_guard (by rfl) ?_; refine wpList_load_row rfl 23 _ rfl Wd.heap.size rfl 23 x.cells (0, 0) _ X6.out Tryd.underlying23 rfl (by kernel_rfl) ?_)
                    | (go_at_call 15; refine (ccheck_any x _).mono ?_; rintro e w7 ⟨rfl, hb7⟩; have A7 := Lib.hid (keep hb7 A6.out); have R7 := Lib.hid (R6.out.keep hb7); have T7 := Lib.hid (keep hb7 T6.out); have E7 := Lib.hid (E6.out.keep hb7); have B7 := Lib.hid (below_next B6.out hb7); clear hb7))
                  go_roundw
                  case rel => exact ⟨ii + 1, HII.out, by go_num, HN, A7, R7, T7, E7, B7⟩
                  case measure => simp [intOf]; have := HII.out; omega
        · have g1 : ((L : Int) != (rest.length : Int)) = true := by simp; omega
          have HN : Hid (∀ y, Lin l y → ((ii + 1 + 1 : Nat) : Int) ≤ y.k) := Lib.hid (kind_up HK.out fun y hy hk => hr ((lin_word HP.out hy hk).2.trans HLL.out.symm))
          clear hw hr
          go_quiet (fail)
          go_wp2_with fail
          go_roundw
          case rel => exact ⟨ii + 1, HII.out, by go_num, HN, A4, R4, T4, Lib.hid (E4.out.keep (below_drewN (Below.refl _ _) _)), Lib.hid (below_drewN B4.out _)⟩
          case measure => simp [intOf]; have := HII.out; omega
      · have hb : ((S (wordI (ii + 1))).toList == (S p).toList) = false := by rw [str_eqs]; exact decide_eq_false hw
        have HN : Hid (∀ y, Lin l y → ((ii + 1 + 1 : Nat) : Int) ≤ y.k) := Lib.hid (kind_up HK.out fun y hy hk => hw (lin_word HP.out hy hk).1)
        clear hw
        go_quiet (fail)
        go_wp2_with fail
        go_roundw
        case rel => exact ⟨ii + 1, HII.out, by go_num, HN, A4, R4, T4, Lib.hid (E4.out.keep (below_drewN (Below.refl _ _) _)), Lib.hid (below_drewN B4.out _)⟩
        case measure => simp [intOf]; have := HII.out; omega
    · obtain rfl : ii = 17 := by omega
      have HN : Hid (∀ y, ¬ Lin l y) := Lib.hid (fun y hy => by have := HK.out y hy; have := (lin_kind hy).2; omega)
      go_wp2_with (refine wpList_store_row rfl 23 _ _ rfl w.heap.size Stp.zero.cells rfl rfl 23 _ A3.out (by kernel_rfl) rfl (by kernel_rfl) ?_)
      exact bodyPost_ret (v := .tuple #[.agg Stp.zero.cells, .int .i64 16]) (results_row_tmp (p := 2) (u := 3) rfl _ _ w.heap.size 23 Stp.zero.cells _ _ rfl (heap_setRow_same _ A3.out) Tryd.underlying23 rfl (by kernel_rfl)) rfl
        (ppar_no HN.out (below_setRow B3.out (Nat.le_refl _) _))
end Go.Proofs.YtffdekgkhiffkaaDoor
