/- scutageref40.Parse. -/
import Derived.Test.YtffdekgkhiffkaaDoorScr7
import Derived.Test.YtffdekgkhiffkaaDoorScr5
import Derived.Deep.CutRange
namespace Go.Proofs.YtffdekgkhiffkaaDoor
open Go.RowKit

namespace Stp
def six (x : Stp) : Array Value := #[.int .i64 x.t, .int .i64 x.i, .int .i64 x.f, .int .i64 x.j, .int .i64 x.c, .int .i64 x.n]
theorem six_setF (x : Stp) (v : Int) : ∀ k, k < 6 → x.six.setIfInBounds (idx (ord6.getD k 0)) (.int .i64 v) = (x.setF (ord6.getD k 0) v).six
  | 0, _ | 1, _ | 2, _ | 3, _ | 4, _ | 5, _ => rfl
  | _ + 6, h => absurd h (by omega)
theorem six_get (x : Stp) : ∀ k, k < 6 → x.six[idx (ord6.getD k 0)]? = some (.int .i64 (x.letF (ord6.getD k 0)))
  | 0, _ | 1, _ | 2, _ | 3, _ | 4, _ | 5, _ => rfl
  | _ + 6, h => absurd h (by omega)
theorem idx_lt : ∀ k, k < 6 → idx (ord6.getD k 0) < 6
  | 0, _ | 1, _ | 2, _ | 3, _ | 4, _ | 5, _ => by decide
  | _ + 6, h => absurd h (by omega)
theorem idx_five : ∀ k, k < 6 → (idx (ord6.getD k 0) = 5 ↔ ord6.getD k 0 = 78)
  | 0, _ | 1, _ | 2, _ | 3, _ | 4, _ | 5, _ => by decide
  | _ + 6, h => absurd h (by omega)
/-- All small letters are octets. -/
def Oct (x : Stp) : Prop := ∀ l, Let l → l ≠ 78 → 0 ≤ x.letF l ∧ x.letF l ≤ 255
theorem Oct.step {x : Stp} (h : x.Oct) {l : UInt8} (hl : Let l) {v : Int} (hv : l ≠ 78 → 0 ≤ v ∧ v ≤ 255) : (x.setF l v).Oct := by
  intro m hm hn
  by_cases e : m = l
  · subst e; rw [setF_same x v hl]; exact hv hn
  · rw [setF_other x v hl hm e]; exact h m hm hn
theorem oct_zero (k : Int) : Oct { zero with k := k } := by
  intro l hl _
  rcases hl with rfl | rfl | rfl | rfl | rfl | rfl <;> exact (by decide : (0 : Int) ≤ 0 ∧ (0 : Int) ≤ 255)
end Stp
def ordC : Array Value := #[.int .i64 0, .int .i64 1, .int .i64 2, .int .i64 3, .int .i64 5, .int .i64 4]
theorem ordC_get : ∀ k : Nat, k < 6 → ordC[k]? = some (.int .i64 ((Stp.idx (ord6.getD k 0) : Nat) : Int))
  | 0, _ | 1, _ | 2, _ | 3, _ | 4, _ | 5, _ => rfl
  | _ + 6, h => absurd h (by omega)
/-- How many of the first k letters a kind has. -/
def cnt (kk k : Nat) : Nat := ((ord6.take k).filter fun l => Stp.has (kk : Int) (Stp.idx l)).length
theorem cnt_zero (kk : Nat) : cnt kk 0 = 0 := by simp [cnt]
theorem cnt_yes {kk k : Nat} (h1 : 1 ≤ kk) (h2 : kk ≤ 17) (hk : k < 6) (h : Stp.has (kk : Int) (Stp.idx (ord6.getD k 0)) = true) :
    cnt kk (k + 1) = cnt kk k + 1 ∧ (letsI kk).getD (cnt kk k) 0 = ord6.getD k 0 ∧ cnt kk k < (letsI kk).length := by
  obtain ⟨a, b, c⟩ := filter_at (fun l => Stp.has (kk : Int) (Stp.idx l)) ord6 k (by simpa [ord6] using hk) h
  rw [lets_filter kk h1 h2]
  exact ⟨c, a, b⟩
theorem cnt_no {kk k : Nat} (hk : k < 6) (h : Stp.has (kk : Int) (Stp.idx (ord6.getD k 0)) = false) : cnt kk (k + 1) = cnt kk k :=
  filter_no (fun l => Stp.has (kk : Int) (Stp.idx l)) ord6 k (by simpa [ord6] using hk) h
theorem cnt_six {kk : Nat} (h1 : 1 ≤ kk) (h2 : kk ≤ 17) : cnt kk 6 = (letsI kk).length := by
  rw [lets_filter kk h1 h2]; rfl
theorem cnt_le (kk k : Nat) : cnt kk k ≤ 6 := by
  unfold cnt
  have := List.length_filter_le (fun l => Stp.has (kk : Int) (Stp.idx l)) (ord6.take k)
  have h2 := List.length_take_le k ord6
  have h3 : (ord6.take k).length ≤ ord6.length := by rw [List.length_take]; omega
  have h4 : ord6.length = 6 := rfl
  omega
theorem ord_let : ∀ k, k < 6 → Stp.Let (ord6.getD k 0)
  | 0, _ => .inl rfl
  | 1, _ => .inr (.inl rfl)
  | 2, _ => .inr (.inr (.inl rfl))
  | 3, _ => .inr (.inr (.inr (.inl rfl)))
  | 4, _ => .inr (.inr (.inr (.inr (.inl rfl))))
  | 5, _ => .inr (.inr (.inr (.inr (.inr rfl))))
  | _ + 6, h => absurd h (by omega)
theorem kind_next {l p : List UInt8} {rest : List (List UInt8)} {kk : Nat} (hp : Pieces 32 l (p :: rest)) (hk : ∀ y, Lin l y → (kk : Int) ≤ y.k) (hw : p ≠ wordI kk) : ∀ y, Lin l y → ((kk + 1 : Nat) : Int) ≤ y.k := by
  intro y hy
  have h1 := hk y hy
  by_cases e : y.k = (kk : Int)
  · exact absurd (lin_word hp hy e).1.symm hw
  · omega
theorem kind_only {l p : List UInt8} {rest : List (List UInt8)} {kk : Nat} (hp : Pieces 32 l (p :: rest)) (h1 : 1 ≤ kk) (h2 : kk ≤ 17) (hw : p = wordI kk) {y : Stp} (hy : Lin l y) : y.k = (kk : Int) := by
  obtain ⟨a, b⟩ := lin_kind hy
  have e := (lin_word (kk := y.k.toNat) hp hy (by omega)).1
  have := word_inj kk y.k.toNat h1 h2 (by omega) (by omega) (by rw [← hw, e])
  omega
theorem str_same (a b : List UInt8) : ((S a).toList == (S b).toList) = decide (a = b) := by rw [toList_S, toList_S]; by_cases h : a = b <;> simp [h]

theorem lin_small {l p : List UInt8} {y : Stp} {kk : Nat} {rest : List (List UInt8)} (hp : Pieces 32 l (p :: rest)) (h : Lin l y) (hk : y.k = (kk : Int)) {m : Nat} (hm : m < (letsI kk).length) {c : UInt8} (hc : (letsI kk).getD m 0 = c) (hn : c ≠ 78) {v : Int} (hv : numT (rest.getD m []) = some v) : 0 ≤ v ∧ v ≤ 255 := by
  have h1 := lin_num hp h hk hm
  rw [hv, hc] at h1
  rw [Option.some.inj h1]
  have hl : Stp.Let c := hc ▸ Stp.lets_let kk _ (getD_in hm)
  rw [Stp.letF_fld y c hl hn]
  have hj : Stp.idx c < 5 := by
    rcases hl with rfl | rfl | rfl | rfl | rfl | rfl <;> first | decide | exact absurd rfl hn
  exact (Stp.check_zero h.1).2.1 _ hj
theorem rnum_no (l : List UInt8) (hl : l.length ≤ 281474976710655) (h : numT l = none) (w : World) :
    Calls Tryd.prog 27 #[.string (S l)] w fun e w' => ∃ v, e = .returned (.tuple #[.int .i64 v, .bool false]) ∧ w = w' :=
  (rnum_any l hl w).mono fun e w' ⟨v, he, _, hw⟩ => ⟨v, by rw [he, h]; rfl, hw.symm⟩
theorem rnum_yes (l : List UInt8) (hl : l.length ≤ 281474976710655) {n : Int} (h : numT l = some n) (w : World) :
    Calls Tryd.prog 27 #[.string (S l)] w fun e w' => e = .returned (.tuple #[.int .i64 n, .bool true]) ∧ w = w' :=
  (rnum_any l hl w).mono fun e w' ⟨v, he, hv, hw⟩ => ⟨by rw [he, h, hv n h]; rfl, hw.symm⟩
theorem RdS.far {w : World} {R b i : Nat} {v : Value} {ps : List (List UInt8)} (h : RdS w R ps) (hb : b ≠ R) : RdS (w.setCell ⟨b, i, none⟩ v) R ps := fun j hj => set_far hb (h j hj)
theorem six_cells {x : Stp} {w : World} {b : Nat} {t : TypeId} (h : w.heap[b]? = some (.cells x.six t (0, 0))) :
    w.cell? ⟨b, 0, none⟩ = some (.int .i64 x.t) ∧ w.cell? ⟨b, 1, none⟩ = some (.int .i64 x.i) ∧ w.cell? ⟨b, 2, none⟩ = some (.int .i64 x.f) ∧ w.cell? ⟨b, 3, none⟩ = some (.int .i64 x.j) ∧ w.cell? ⟨b, 4, none⟩ = some (.int .i64 x.c) ∧ w.cell? ⟨b, 5, none⟩ = some (.int .i64 x.n) :=
  ⟨cell_of_row _ _ _ _ _ _ h, cell_of_row _ _ _ _ _ _ h, cell_of_row _ _ _ _ _ _ h, cell_of_row _ _ _ _ _ _ h, cell_of_row _ _ _ _ _ _ h, cell_of_row _ _ _ _ _ _ h⟩
/-- What the reference says of a line. -/
def RPar (l : List UInt8) (w : World) (e : Ending) (w' : World) : Prop := ∃ x ok, e = .returned (.tuple #[.agg x.cells, .bool ok]) ∧ Parsed l x ok ∧ Below w.heap.size w w'
theorem rpar_no {l : List UInt8} {w w' : World} (h : ∀ y, ¬ Lin l y) (hb : Below w.heap.size w w') : RPar l w (.returned (.tuple #[.agg Stp.zero.cells, .bool false])) w' := ⟨Stp.zero, false, rfl, parsed_no h, hb⟩
theorem rpar_yes {l : List UInt8} {x : Stp} {w w' : World} {e : Ending} (he : e = .returned (.tuple #[.agg x.cells, .bool true])) (h : Lin l x) (hb : Below w.heap.size w w') : RPar l w e w' := ⟨x, true, he, h, hb⟩
set_option maxHeartbeats 8000000 in
set_option maxRecDepth 100000 in
theorem rparse_any (l : List UInt8) (hl : l.length ≤ 1073741824) (w : World) :
    Calls Tryd.prog 11 #[.string (S l)] w fun e w' => RPar l w e w' := by
  have A0 := Lib.hid (heap_alloc_new w (.cells Stp.zero.cells 23))
  have B0 := Lib.hid (below_alloc0 w (.cells Stp.zero.cells 23))
  have HL := Lib.hid hl
  clear hl
  go_enter Tryd.func11, Tryd.ntmps11
  go_wp2_with (go_at_call 26; refine (words_any l HL.out _).mono ?_; rintro e w1 ⟨R, cap, ps, rfl, hcap, HP, HR, HB⟩; have A1 := Lib.hid (keep HB.out A0.out); have B1 := Lib.hid (below_next B0.out HB.out); clear hcap HB)
  cases ps with
  | nil => exact absurd rfl HP.out.1
  | cons p rest =>
  have HLR : Hid ((p :: rest).length ≤ 1073741825) := Lib.hid (by have := (pieces_len HP.out).1; have := HL.out; omega)
  have HLP : Hid (∀ q ∈ p :: rest, q.length ≤ 1073741824) := Lib.hid (fun q hq => Nat.le_trans ((pieces_len HP.out).2 q hq) HL.out)
  rw [List.length_cons]
  have hlr := HLR.out
  rw [List.length_cons] at hlr
  go_loopw [5] (fun k wr => ∃ kk : Nat, 1 ≤ kk ∧ kk ≤ 18 ∧ k = .int .i64 kk ∧ Hid (∀ y, Lin l y → (kk : Int) ≤ y.k) ∧ Hid (wr.heap[w.heap.size]? = some (.cells Stp.zero.cells 23 (0, 0))) ∧ Hid (RdS wr R (p :: rest)) ∧ Hid (Below w.heap.size w wr)) (fun k _ => 18 - (intOf k).toNat)
  case atStart => exact ⟨1, by omega, by omega, rfl, Lib.hid (fun y hy => (lin_kind hy).1), A1, HR, B1⟩
  case round =>
    obtain ⟨kk, hk1, hk2, rfl, HK, A2, R2, B2⟩ := hrel
    clear A0 B0 A1 B1 HR
    by_cases hle : kk ≤ 17
    · have d1 : decide ((kk : Int) ≤ 17) = true := decide_eq_true (by omega)
      have cell0 : wr.cell? ⟨R, 0, none⟩ = some (.string (S p)) := R2.out 0 (by simp)
      have hkk18 : kk < 18 := by omega
      have p0 : (0 : Int) < ((rest.length + 1 : Nat) : Int) := by omega
      have p1 : (0 : Int) < (rest.length : Int) + 1 := by omega
      by_cases hw : p = wordI kk
      · have hb : ((S p).toList == (S (wordI kk)).toList) = true := by rw [str_same]; exact decide_eq_true hw
        have HW := Lib.hid hw
        have HKI : Hid (1 ≤ (kk : Int) ∧ (kk : Int) ≤ 17) := Lib.hid (by omega)
        clear hw
        go_upto_region 5 with fail
        go_cut [25] from 16 to 91 (fun c wx => c = .bool false ∧ Hid (wx.heap[w.heap.size]? = some (.cells Stp.zero.cells 23 (0, 0))) ∧ Hid (RdS wx R (p :: rest)) ∧ Hid (Below w.heap.size w wx))
        case first =>
          go_region_with (go_at_call 22; refine (word_any kk hkk18 _).mono ?_; rintro e w5 ⟨rfl, hb4⟩; have hb5 : Below wr.heap.size wr w5 := (Below.refl wr.heap.size wr).drew.trans hb4; clear hb4; have c5 := cell_keep hb5 cell0; have A5 := Lib.hid (keep hb5 A2.out); have R5 := Lib.hid (R2.out.keep hb5); have B5 := Lib.hid (below_next B2.out hb5); clear hb5)
          all_goals
            go_wp2_with fail
            go_meet
            exact ⟨rfl, A5, R5, B5⟩
        case rest =>
          obtain ⟨rfl, A5, R5, B5⟩ := hcut
          clear A2 R2 B2 cell0 hb
          go_wp2_with (first
            | (go_at_call 21; refine (rhas_any kk HKI.out _).mono ?_; rintro e w6 ⟨rfl, hb6⟩; have A6 := Lib.hid (keep hb6 A5.out); have R6 := Lib.hid (R5.out.keep hb6); have B6 := Lib.hid (below_next B5.out hb6); clear hb6)
            | (refine wpList_store_new rfl 54 _ _ rfl (Stp.hasV kk) rfl rfl 54 _ (by kernel_rfl) rfl (by kernel_rfl) ?_))
          clear A5 R5 B5
          have HRL := Lib.hid (World.block_lt_of_cell? w6 _ (R6.out 0 (by simp)))
          have HWL := Lib.hid (heap_lt A6.out)
          go_loopw [8, 10] (fun a k wr => ∃ (n : Nat) (x : Stp), n ≤ 6 ∧ k = .int .i64 n ∧ a = .int .i64 ((cnt kk n + 1 : Nat) : Int) ∧ Hid (x.k = (kk : Int)) ∧ Hid (Got x (letsI kk) rest (cnt kk n)) ∧ Hid x.Oct ∧ Hid (wr.heap[w6.heap.size]? = some (.cells (Stp.hasV kk) 54 (0, 0))) ∧ Hid (wr.heap[w6.heap.size + 1]? = some (.cells x.six 62 (0, 0))) ∧ Hid (wr.heap[w6.heap.size + 1 + 1]? = some (.cells ordC 63 (0, 0))) ∧ Hid (wr.heap[w.heap.size]? = some (.cells Stp.zero.cells 23 (0, 0))) ∧ Hid (RdS wr R (p :: rest)) ∧ Hid (Below w.heap.size w wr)) (fun _ k _ => 6 - (intOf k).toNat)
          case atStart =>
            exact ⟨0, { Stp.zero with k := (kk : Int) }, by omega, rfl, by rw [cnt_zero]; rfl, Lib.hid rfl, Lib.hid (by rw [cnt_zero]; exact got_zero _ _ _), Lib.hid (Stp.oct_zero _), Lib.hid (three_at0 w6 _ _ _), Lib.hid (three_at1 w6 _ _ _), Lib.hid (three_at2 w6 _ _ _), Lib.hid (keep_alloc _ (keep_alloc _ (keep_alloc _ A6.out))), Lib.hid (((R6.out.keep (below_alloc0 _ _)).keep (below_alloc0 _ _)).keep (below_alloc0 _ _)), Lib.hid (below_new (below_new (below_new B6.out _) _) _)⟩
          case round =>
            obtain ⟨n, x, hn, rfl, rfl, HX, HG, HO, H7, N7, O7, A7, R7, B7⟩ := hrel
            clear A6 R6 B6
            by_cases hlt : n < 6
            · have d2 : decide ((n : Int) < 6) = true := decide_eq_true (by omega)
              have o0 : wr.cell? ⟨w6.heap.size + 1 + 1, n, none⟩ = some (.int .i64 ((Stp.idx (ord6.getD n 0) : Nat) : Int)) := by rw [cell_of_row _ _ _ _ _ _ O7.out]; exact ordC_get n hlt
              have q6 := Stp.idx_lt n hlt
              have h0 : wr.cell? ⟨w6.heap.size, Stp.idx (ord6.getD n 0), none⟩ = some (.bool (Stp.has (kk : Int) (Stp.idx (ord6.getD n 0)))) := by rw [cell_of_row _ _ _ _ _ _ H7.out]; exact Stp.hasV_get _ _ q6
              have Q5 := Lib.hid (Stp.idx_five n hlt)
              have HLT := Lib.hid hlt
              have n0 : wr.cell? ⟨w6.heap.size + 1, Stp.idx (ord6.getD n 0), none⟩ = some (.int .i64 (x.letF (ord6.getD n 0))) := by rw [cell_of_row _ _ _ _ _ _ N7.out]; exact Stp.six_get x n hlt
              have SF := Lib.hid (fun v => Stp.six_setF x v n hlt)
              have LET := Lib.hid (ord_let n hlt)
              cases hb : Stp.has (kk : Int) (Stp.idx (ord6.getD n 0)) with
              | false =>
                rw [hb] at h0
                have HC := Lib.hid (cnt_no (kk := kk) hlt hb)
                clear hb
                generalize Stp.idx (ord6.getD n 0) = q at *
                have q0 : (0 : Int) ≤ (q : Int) := by omega
                have q1 : (q : Int) < 6 := by omega
                have n1 : (0 : Int) ≤ (n : Int) := by omega
                have n2 : (n : Int) < 6 := by omega
                clear hlt
                go_wp2_with fail
                go_roundw
                case rel => exact ⟨n + 1, x, HLT.out, by go_num, by rw [HC.out], HX, Lib.hid (by rw [HC.out]; exact HG.out), HO, H7, N7, O7, A7, R7, B7⟩
                case measure => simp [intOf]; have := HLT.out; omega
              | true =>
                rw [hb] at h0
                obtain ⟨hc1, hc2, hc3⟩ := cnt_yes (kk := kk) (by omega) (by omega) hlt hb
                clear hb
                have HC1 := Lib.hid hc1
                have HC2 := Lib.hid hc2
                have HC3 := Lib.hid hc3
                clear hc1 hc2 hc3
                obtain ⟨m, hm⟩ : ∃ m, m = cnt kk n := ⟨_, rfl⟩
                rw [← hm] at HC1 HC2 HC3 HG ⊢
                have HM := Lib.hid hm
                clear hm
                generalize Stp.idx (ord6.getD n 0) = q at *
                generalize ord6.getD n 0 = c at *
                have q0 : (0 : Int) ≤ (q : Int) := by omega
                have q1 : (q : Int) < 6 := by omega
                have n1 : (0 : Int) ≤ (n : Int) := by omega
                have n2 : (n : Int) < 6 := by omega
                clear hlt
                by_cases hr : m < rest.length
                · have g1 : decide (rest.length ≤ m) = false := decide_eq_false (by omega)
                  have m0 : (0 : Int) ≤ (m : Int) + 1 := by omega
                  have m1 : (m : Int) + 1 < (rest.length : Int) + 1 := by omega
                  have cm : wr.cell? ⟨R, m + 1, none⟩ = some (.string (S (rest.getD m []))) := by have := R7.out (m + 1) (by simp; omega); simpa using this
                  have HSL : Hid ((rest.getD m []).length ≤ 281474976710655) := Lib.hid (by
                    have := HLP.out (rest.getD m []) (by rw [List.getD_eq_getElem?_getD, List.getElem?_eq_getElem hr]; exact List.mem_cons_of_mem _ (List.getElem_mem hr))
                    omega)
                  obtain ⟨s, hs⟩ : ∃ s, s = rest.getD m [] := ⟨_, rfl⟩
                  rw [← hs] at cm HSL
                  have HS := Lib.hid hs
                  have HMR := Lib.hid hr
                  clear hs hr
                  cases hv : numT s with
                  | none =>
                    have HNO : Hid (∀ y, ¬ Lin l y) := Lib.hid (fun y hy => by
                      have := lin_num HP.out hy (kind_only HP.out (by omega) (by omega) HW.out hy) HC3.out
                      rw [← HS.out, hv] at this; cases this)
                    have HV := Lib.hid hv
                    clear hv
                    go_wp2_with (first
                      | (go_at_call 27; refine (rnum_no s HSL.out HV.out _).mono ?_; rintro e w7 ⟨v, rfl, rfl⟩)
                      | (refine wpList_store_row rfl 23 _ _ rfl w.heap.size Stp.zero.cells rfl rfl 23 _ A7.out (by kernel_rfl) rfl (by kernel_rfl) ?_))
                    exact bodyPost_ret (v := .tuple #[.agg Stp.zero.cells, .bool false]) (results_row_tmp (p := 2) (u := 3) rfl _ _ w.heap.size 23 Stp.zero.cells _ _ rfl (heap_setRow_same _ A7.out) Tryd.underlying23 rfl (by kernel_rfl)) rfl
                      (rpar_no HNO.out (below_setRow B7.out (Nat.le_refl _) _))
                  | some v =>
                    have HV := Lib.hid hv
                    have fz : wr.frozen? ⟨w6.heap.size + 1, q, none⟩ = false := Lib.frozen_of_heap N7.out q
                    clear hv
                    by_cases h5 : q = 5
                    · have k5 : ((q : Int) != 5) = false := by simp; omega
                      have HO8 : Hid (x.setF c v).Oct := Lib.hid (HO.out.step LET.out (fun h => absurd (Q5.out.1 h5) h))
                      clear h5
                      have HG8 : Hid (Got (x.setF c v) (letsI kk) rest (m + 1)) := Lib.hid (by have := got_step HG.out HC3.out HMR.out (Stp.lets_let kk) (Stp.lets_nodup kk) (by rw [← HS.out]; exact HV.out); rw [HC2.out] at this; exact this)
                      go_wp2_with (go_at_call 27; refine (rnum_yes s HSL.out HV.out _).mono ?_; rintro e w7 ⟨rfl, rfl⟩)
                      go_roundw
                      case rel => exact ⟨n + 1, x.setF c v, HLT.out, by go_num, by rw [HC1.out]; go_num, Lib.hid (by rw [Stp.setF_k]; exact HX.out), Lib.hid (by rw [HC1.out]; exact HG8.out), HO8, Lib.hid ((heap_setCell_other _ _ _ _ (by simp)).trans H7.out), Lib.hid (by rw [heap_setCell_same _ _ _ _ _ _ N7.out, SF.out]), Lib.hid ((heap_setCell_other _ _ _ _ (by simp)).trans O7.out), Lib.hid ((heap_setCell_other _ _ _ _ (by have := HWL.out; show w.heap.size ≠ w6.heap.size + 1; omega)).trans A7.out), Lib.hid (R7.out.far (by have := HRL.out; omega)), Lib.hid (B7.out.setCell (p := ⟨w6.heap.size + 1, q, none⟩) (by have := HWL.out; show w.heap.size ≤ w6.heap.size + 1; omega) _)⟩
                      case measure => simp [intOf]; have := HLT.out; omega
                    · have k5 : ((q : Int) != 5) = true := by simp; omega
                      have c78 : c ≠ 78 := fun h => h5 (Q5.out.2 h)
                      clear h5
                      by_cases v0 : v < 0
                      · have e0 : decide (v < 0) = true := decide_eq_true v0
                        have HNO : Hid (∀ y, ¬ Lin l y) := Lib.hid (fun y hy => by
                          have := lin_small HP.out hy (kind_only HP.out (by omega) (by omega) HW.out hy) HC3.out HC2.out c78 (by rw [← HS.out]; exact HV.out)
                          omega)
                        clear v0
                        go_wp2_with (first
                          | (go_at_call 27; refine (rnum_yes s HSL.out HV.out _).mono ?_; rintro e w7 ⟨rfl, rfl⟩)
                          | (refine wpList_store_row rfl 23 _ _ rfl w.heap.size Stp.zero.cells rfl rfl 23 _ A7.out (by kernel_rfl) rfl (by kernel_rfl) ?_))
                        exact bodyPost_ret (v := .tuple #[.agg Stp.zero.cells, .bool false]) (results_row_tmp (p := 2) (u := 3) rfl _ _ w.heap.size 23 Stp.zero.cells _ _ rfl (heap_setRow_same _ A7.out) Tryd.underlying23 rfl (by kernel_rfl)) rfl
                          (rpar_no HNO.out (below_setRow B7.out (Nat.le_refl _) _))
                      · have e0 : decide (v < 0) = false := decide_eq_false v0
                        by_cases v1 : 255 < v
                        · have e1 : decide (255 < v) = true := decide_eq_true v1
                          have HNO : Hid (∀ y, ¬ Lin l y) := Lib.hid (fun y hy => by
                            have := lin_small HP.out hy (kind_only HP.out (by omega) (by omega) HW.out hy) HC3.out HC2.out c78 (by rw [← HS.out]; exact HV.out)
                            omega)
                          clear v0 v1
                          go_wp2_with (first
                            | (go_at_call 27; refine (rnum_yes s HSL.out HV.out _).mono ?_; rintro e w7 ⟨rfl, rfl⟩)
                            | (refine wpList_store_row rfl 23 _ _ rfl w.heap.size Stp.zero.cells rfl rfl 23 _ A7.out (by kernel_rfl) rfl (by kernel_rfl) ?_))
                          exact bodyPost_ret (v := .tuple #[.agg Stp.zero.cells, .bool false]) (results_row_tmp (p := 2) (u := 3) rfl _ _ w.heap.size 23 Stp.zero.cells _ _ rfl (heap_setRow_same _ A7.out) Tryd.underlying23 rfl (by kernel_rfl)) rfl
                            (rpar_no HNO.out (below_setRow B7.out (Nat.le_refl _) _))
                        · have e1 : decide (255 < v) = false := decide_eq_false v1
                          have HO8 : Hid (x.setF c v).Oct := Lib.hid (HO.out.step LET.out (fun _ => ⟨by omega, by omega⟩))
                          clear v0 v1
                          have HG8 : Hid (Got (x.setF c v) (letsI kk) rest (m + 1)) := Lib.hid (by have := got_step HG.out HC3.out HMR.out (Stp.lets_let kk) (Stp.lets_nodup kk) (by rw [← HS.out]; exact HV.out); rw [HC2.out] at this; exact this)
                          go_wp2_with (go_at_call 27; refine (rnum_yes s HSL.out HV.out _).mono ?_; rintro e w7 ⟨rfl, rfl⟩)
                          go_roundw
                          case rel => exact ⟨n + 1, x.setF c v, HLT.out, by go_num, by rw [HC1.out]; go_num, Lib.hid (by rw [Stp.setF_k]; exact HX.out), Lib.hid (by rw [HC1.out]; exact HG8.out), HO8, Lib.hid ((heap_setCell_other _ _ _ _ (by simp)).trans H7.out), Lib.hid (by rw [heap_setCell_same _ _ _ _ _ _ N7.out, SF.out]), Lib.hid ((heap_setCell_other _ _ _ _ (by simp)).trans O7.out), Lib.hid ((heap_setCell_other _ _ _ _ (by have := HWL.out; show w.heap.size ≠ w6.heap.size + 1; omega)).trans A7.out), Lib.hid (R7.out.far (by have := HRL.out; omega)), Lib.hid (B7.out.setCell (p := ⟨w6.heap.size + 1, q, none⟩) (by have := HWL.out; show w.heap.size ≤ w6.heap.size + 1; omega) _)⟩
                          case measure => simp [intOf]; have := HLT.out; omega
                · have g1 : decide (rest.length ≤ m) = true := decide_eq_true (by omega)
                  have HNO : Hid (∀ y, ¬ Lin l y) := Lib.hid (fun y hy => by
                    have := (lin_word HP.out hy (kind_only HP.out (by omega) (by omega) HW.out hy)).2
                    have := HC3.out
                    omega)
                  clear hr
                  go_wp2_with (refine wpList_store_row rfl 23 _ _ rfl w.heap.size Stp.zero.cells rfl rfl 23 _ A7.out (by kernel_rfl) rfl (by kernel_rfl) ?_)
                  exact bodyPost_ret (v := .tuple #[.agg Stp.zero.cells, .bool false]) (results_row_tmp (p := 2) (u := 3) rfl _ _ w.heap.size 23 Stp.zero.cells _ _ rfl (heap_setRow_same _ A7.out) Tryd.underlying23 rfl (by kernel_rfl)) rfl
                    (rpar_no HNO.out (below_setRow B7.out (Nat.le_refl _) _))
            · obtain rfl : n = 6 := by omega
              have HC := Lib.hid (cnt_six (kk := kk) (by omega) (by omega))
              obtain ⟨m, hm⟩ : ∃ m, m = cnt kk 6 := ⟨_, rfl⟩
              rw [← hm] at HC HG ⊢
              have HM := Lib.hid hm
              clear hm hlt
              by_cases hr : m = rest.length
              · have g1 : (m != rest.length) = false := by simp [hr]
                have g2 : ((m : Int) != (rest.length : Int)) = false := by simp [hr]
                have g3 : ((m : Int) + 1 != (rest.length : Int) + 1) = false := by simp [hr]
                have g4 : (((m + 1 : Nat) : Int) != (rest.length : Int) + 1) = false := by simp [hr]
                have HG8 : Hid (Got x (letsI kk) rest (letsI kk).length) := Lib.hid (by rw [← HC.out]; exact HG.out)
                have HLIN : Hid (Lin l x) := Lib.hid (got_lin HP.out HX.out HW.out.symm HG8.out (by rw [← hr]; exact HC.out) (got_check (by omega) (by omega) HX.out HG8.out HO.out))
                obtain ⟨s0, s1, s2, s3, s4, s5⟩ := six_cells N7.out
                clear hr
                go_wp2_with (refine wpList_store_row rfl 23 _ _ rfl w.heap.size #[.int .i64 (kk : Int), .int .i64 x.t, .int .i64 x.i, .int .i64 x.f, .int .i64 x.j, .int .i64 x.c, .int .i64 x.n] rfl rfl 23 _ A7.out (by kernel_rfl) rfl (by kernel_rfl) ?_)
                exact bodyPost_ret (v := .tuple #[.agg #[.int .i64 (kk : Int), .int .i64 x.t, .int .i64 x.i, .int .i64 x.f, .int .i64 x.j, .int .i64 x.c, .int .i64 x.n], .bool true]) (results_row_tmp (p := 2) (u := 3) rfl _ _ w.heap.size 23 #[.int .i64 (kk : Int), .int .i64 x.t, .int .i64 x.i, .int .i64 x.f, .int .i64 x.j, .int .i64 x.c, .int .i64 x.n] _ _ rfl (heap_setRow_same _ A7.out) Tryd.underlying23 rfl (by kernel_rfl)) rfl
                  (rpar_yes (by unfold Stp.cells; rw [HX.out]) HLIN.out (below_setRow B7.out (Nat.le_refl _) _))
              · have g1 : (m != rest.length) = true := by simp [hr]
                have g2 : ((m : Int) != (rest.length : Int)) = true := by simp; omega
                have g3 : ((m : Int) + 1 != (rest.length : Int) + 1) = true := by simp; omega
                have g4 : (((m + 1 : Nat) : Int) != (rest.length : Int) + 1) = true := by simp; omega
                have HNO : Hid (∀ y, ¬ Lin l y) := Lib.hid (fun y hy => by
                  have := (lin_word HP.out hy (kind_only HP.out (by omega) (by omega) HW.out hy)).2
                  have := HC.out
                  omega)
                clear hr
                go_wp2_with (refine wpList_store_row rfl 23 _ _ rfl w.heap.size Stp.zero.cells rfl rfl 23 _ A7.out (by kernel_rfl) rfl (by kernel_rfl) ?_)
                exact bodyPost_ret (v := .tuple #[.agg Stp.zero.cells, .bool false]) (results_row_tmp (p := 2) (u := 3) rfl _ _ w.heap.size 23 Stp.zero.cells _ _ rfl (heap_setRow_same _ A7.out) Tryd.underlying23 rfl (by kernel_rfl)) rfl
                  (rpar_no HNO.out (below_setRow B7.out (Nat.le_refl _) _))
      · have hb : ((S p).toList == (S (wordI kk)).toList) = false := by rw [str_same]; exact decide_eq_false hw
        have HN := Lib.hid (kind_next HP.out HK.out hw)
        clear hw
        go_wp2_with fail
        go_region_with (go_at_call 22; refine (word_any kk hkk18 _).mono ?_; rintro e w5 ⟨rfl, hb4⟩; have hb5 : Below wr.heap.size wr w5 := (Below.refl wr.heap.size wr).drew.trans hb4; clear hb4; have c5 := cell_keep hb5 cell0; have A5 := Lib.hid (keep hb5 A2.out); have R5 := Lib.hid (R2.out.keep hb5); have B5 := Lib.hid (below_next B2.out hb5); clear hb5)
        all_goals
          go_wp2_with fail
          go_roundw
          case rel => exact ⟨kk + 1, by omega, by omega, by go_num, HN, A5, R5, B5⟩
          case measure => simp [intOf]; omega
    · obtain rfl : kk = 18 := by omega
      have HN : Hid (∀ y, ¬ Lin l y) := Lib.hid (fun y hy => by have := HK.out y hy; have := (lin_kind hy).2; omega)
      go_wp2_with (refine wpList_store_row rfl 23 _ _ rfl w.heap.size Stp.zero.cells rfl rfl 23 _ A2.out (by kernel_rfl) rfl (by kernel_rfl) ?_)
      exact bodyPost_ret (v := .tuple #[.agg Stp.zero.cells, .bool false]) (results_row_tmp (p := 2) (u := 3) rfl _ _ w.heap.size 23 Stp.zero.cells _ _ rfl (heap_setRow_same _ A2.out) Tryd.underlying23 rfl (by kernel_rfl)) rfl
        (rpar_no HN.out (below_setRow B2.out (Nat.le_refl _) _))
end Go.Proofs.YtffdekgkhiffkaaDoor
