/- Pages' kinds, as lists. -/
import Derived.Test.YtjoejjhgneccgaaGreatDoorQTN02
import Derived.Test.YtjoejjhgneccgaaGreatDoorQTN03
namespace Go.Proofs.YtjoejjhgneccgaaGreatDoor
open Go.RowKit

/-- Of a page. -/
def kindL (ks : List Int) (p : Int) : Int := if p < 0 ∨ (ks.length : Int) ≤ p then -1 else ks.getD p.toNat 0
theorem kindL_out {ks : List Int} {p : Int} (h : p < 0 ∨ (ks.length : Int) ≤ p) : kindL ks p = -1 := by unfold kindL; rw [if_pos h]
theorem kindL_in {ks : List Int} {p : Nat} (h : p < ks.length) : kindL ks p = ks.getD p 0 := by
  unfold kindL; rw [if_neg (by omega), Int.toNat_natCast]
/-- The first free one. -/
def idx0 : List Int → Option Nat
  | [] => none
  | x :: xs => if x = 0 then some 0 else (idx0 xs).map (· + 1)
theorem idx0_some : ∀ {ks : List Int} {m : Nat}, m < ks.length → ks.getD m 0 = 0 → (∀ j, j < m → ks.getD j 0 ≠ 0) → idx0 ks = some m
  | [], m, h, _, _ => absurd h (by simp)
  | x :: xs, 0, _, h, _ => by unfold idx0; rw [if_pos (by simpa using h)]
  | x :: xs, m + 1, h, h0, hj => by
    unfold idx0
    rw [if_neg (by have := hj 0 (by omega); simpa using this), idx0_some (ks := xs) (m := m) (by simpa using h) (by simpa using h0) (fun j h1 => by have := hj (j + 1) (by omega); simpa using this)]
    rfl
theorem idx0_none : ∀ {ks : List Int}, (∀ j, j < ks.length → ks.getD j 0 ≠ 0) → idx0 ks = none
  | [], _ => rfl
  | x :: xs, h => by
    unfold idx0
    rw [if_neg (by have := h 0 (by simp); simpa using this), idx0_none (ks := xs) (fun j h1 => by have := h (j + 1) (by simpa using h1); simpa using this)]
    rfl
/-- How many that belong to a large one follow one another, from a page on. -/
def run6 (ks : List Int) (q : Nat) : Nat := ((ks.drop q).takeWhile (· == 6)).length
theorem run6_step {ks : List Int} {q : Nat} (h : kindL ks q = 6) : run6 ks q = run6 ks (q + 1) + 1 := by
  have hl : q < ks.length := by
    apply Decidable.byContradiction; intro hc
    rw [kindL_out (.inr (by omega))] at h; omega
  rw [kindL_in hl, List.getD_eq_getElem?_getD, List.getElem?_eq_getElem hl] at h
  unfold run6
  rw [List.drop_eq_getElem_cons hl, List.takeWhile_cons, if_pos (by simpa using h), List.length_cons]
theorem run6_stop {ks : List Int} {q : Nat} (h : kindL ks q ≠ 6) : run6 ks q = 0 := by
  unfold run6
  by_cases hl : q < ks.length
  · rw [kindL_in hl, List.getD_eq_getElem?_getD, List.getElem?_eq_getElem hl] at h
    rw [List.drop_eq_getElem_cons hl, List.takeWhile_cons, if_neg (by simpa using h)]; rfl
  · rw [List.drop_of_length_le (by omega)]; rfl
theorem run6_le (ks : List Int) (q : Nat) : run6 ks q ≤ ks.length := by
  unfold run6
  have := List.takeWhile_sublist (l := ks.drop q) (· == 6) |>.length_le
  simp at this; omega
theorem run6_end (ks : List Int) (q : Nat) (h : q ≤ ks.length) : q + run6 ks q ≤ ks.length := by
  unfold run6
  have := List.takeWhile_sublist (l := ks.drop q) (· == 6) |>.length_le
  simp at this; omega
/-- How many begin at a page. -/
def sizeL (ks : List Int) (p : Int) : Int := if 0 < sizeI (kindL ks p) then 1 else if kindL ks p ≠ 5 then 0 else 1 + (run6 ks (p.toNat + 1) : Int)
theorem sizeL_bd (ks : List Int) (p : Int) : 0 ≤ sizeL ks p ∧ sizeL ks p ≤ ks.length + 1 := by
  unfold sizeL
  have := run6_le ks (p.toNat + 1)
  split
  · omega
  · split <;> omega
theorem sizeL_in {ks : List Int} {p : Int} (h : 0 < sizeL ks p) : 0 ≤ p ∧ p + sizeL ks p ≤ ks.length := by
  have hin : 0 ≤ p ∧ p < ks.length := by
    apply Decidable.byContradiction; intro hc
    have hk := kindL_out (ks := ks) (p := p) (by omega)
    unfold sizeL at h
    rw [hk] at h
    simp [sizeI] at h
  unfold sizeL at h ⊢
  split
  · omega
  · rename_i h1
    rw [if_neg h1] at h
    split
    · omega
    · have := run6_end ks (p.toNat + 1) (by omega)
      omega
/-- The page where what a page belongs to begins. -/
def downL (ks : List Int) : Nat → Int
  | 0 => if kindL ks 0 = 6 then -1 else 0
  | p + 1 => if kindL ks ((p + 1 : Nat) : Int) = 6 then downL ks p else ((p + 1 : Nat) : Int)
def firstL (ks : List Int) (p : Int) : Int :=
  let q := if p < 0 then p else downL ks p.toNat
  if sizeL ks q = 0 then -1 else q
theorem downL_stop {ks : List Int} {p : Nat} (h : kindL ks p ≠ 6) : downL ks p = p := by
  cases p with
  | zero =>
    have h' : kindL ks 0 ≠ 6 := h
    unfold downL; rw [if_neg h']; rfl
  | succ p => unfold downL; rw [if_neg h]
theorem downL_step {ks : List Int} {p : Nat} (h : kindL ks ((p + 1 : Nat) : Int) = 6) : downL ks (p + 1) = downL ks p := by
  rw [downL, if_pos h]
theorem downL_zero {ks : List Int} (h : kindL ks 0 = 6) : downL ks 0 = -1 := by rw [downL, if_pos h]
/-- Each run of free ones: from where on, and how long. -/
def runsFrom : List Int → Nat → Nat → List (Nat × Nat)
  | [], p, n => if 0 < n then [(p - n, n)] else []
  | x :: xs, p, n => if x = 0 then runsFrom xs (p + 1) (n + 1) else if 0 < n then (p - n, n) :: runsFrom xs (p + 1) 0 else runsFrom xs (p + 1) 0
def runsL (ks : List Int) : List (Nat × Nat) := runsFrom ks 0 0
/-- Pages, taken and given back. -/
def spanL (ks : List Int) (n : Int) : Option Nat := if n < 1 then none else ((runsL ks).find? fun r => decide (n ≤ (r.2 : Int))).map (·.1)
def countL (ks : List Int) : Nat := ((runsL ks).map (·.2)).sum
def freeL (ks : List Int) (p : Int) : List Int := fillL ks p.toNat (sizeL ks p).toNat 0
/-- A table: its block, and its kinds. -/
structure Tx (w : World) (t k : Nat) (ks : List Int) : Prop where
  hd : w.heap[t]? = some (.cells #[.bool true, .slice (some ⟨k, 0, none⟩) ks.length ks.length] 199 (0, 0))
  row : w.heap[k]? = some (.cells (ints ks) 3 (0, 0))
  le : ks.length ≤ 64
theorem Tx.keep {w w' : World} {t k : Nat} {ks : List Int} (h : Tx w t k ks) (h1 : w'.heap[t]? = w.heap[t]?) (h2 : w'.heap[k]? = w.heap[k]?) : Tx w' t k ks := ⟨h1.trans h.hd, h2.trans h.row, h.le⟩
theorem Tx.below {w w' : World} {t k : Nat} {ks : List Int} (h : Tx w t k ks) (hb : Below w.heap.size w w') : Tx w' t k ks := h.keep (hb.block t (heap_lt h.hd)) (hb.block k (heap_lt h.row))
theorem Tx.frm {w w' : World} {t k : Nat} {ks : List Int} {fp : List Nat} (h : Tx w t k ks) (hf : Frm fp w w') (h1 : t ∉ fp) (h2 : k ∉ fp) : Tx w' t k ks := h.keep (hf.block t (heap_lt h.hd) h1) (hf.block k (heap_lt h.row) h2)
theorem Tx.ne {w : World} {t k : Nat} {ks : List Int} (h : Tx w t k ks) : t ≠ k := by
  rintro rfl
  have := h.hd.symm.trans h.row
  simp at this
theorem Tx.put {w : World} {t k : Nat} {ks : List Int} (h : Tx w t k ks) (i : Nat) (v : Int) : Tx (w.setCell ⟨k, i, none⟩ (.int .i64 v)) t k (ks.set i v) := by
  refine ⟨?_, ?_, by simpa using h.le⟩
  · rw [heap_setCell_other _ _ _ _ h.ne, h.hd, List.length_set]
  · rw [heap_setCell_same w k i _ _ _ h.row, ints_set]
theorem Tx.cells {w : World} {t k : Nat} {ks : List Int} (h : Tx w t k ks) : w.cell? ⟨t, 0, none⟩ = some (.bool true) ∧ w.cell? ⟨t, 1, none⟩ = some (.slice (some ⟨k, 0, none⟩) ks.length ks.length) := ⟨cell_of_row _ _ _ _ _ _ h.hd, cell_of_row _ _ _ _ _ _ h.hd⟩
theorem Tx.kind {w : World} {t k : Nat} {ks : List Int} (h : Tx w t k ks) {i : Nat} (hi : i < ks.length) : w.cell? ⟨k, i, none⟩ = some (.int .i64 (ks.getD i 0)) := by
  rw [cell_of_row _ _ _ _ _ _ h.row, ints_get hi]
end Go.Proofs.YtjoejjhgneccgaaGreatDoor

/- What the functions of package page come to. -/
namespace Go.Proofs.YtjoejjhgneccgaaGreatDoor
open Go.RowKit

set_option maxHeartbeats 1000000 in
set_option maxRecDepth 100000 in
theorem pkind_any {w : World} {t k : Nat} {ks : List Int} (h : Tx w t k ks) (p : Int) :
    Calls Tryz.prog 198 #[.pointer (some ⟨t, 0, none⟩), .int .i64 p] w fun e w' => e = .returned (.int .i64 (kindL ks p)) ∧ w = w' := by
  obtain ⟨-, c1⟩ := h.cells
  have hle := h.le
  by_cases h0 : p < 0
  · have hs := Lib.hid (kindL_out (ks := ks) (.inl h0))
    clear h
    go_enter Tryz.func198, Tryz.ntmps198
    go_wp2_with fail
    go_ret
    exact ⟨ret_int hs.out.symm, rfl⟩
  obtain ⟨i, rfl⟩ := Int.eq_ofNat_of_zero_le (show 0 ≤ p by omega)
  by_cases h1 : ks.length ≤ i
  · have hs := Lib.hid (kindL_out (ks := ks) (p := (i : Int)) (.inr (by omega)))
    have h1' : (ks.length : Int) ≤ i := by omega
    obtain ⟨n, hn⟩ : ∃ n, n = ks.length := ⟨_, rfl⟩
    rw [← hn] at c1 h1'
    clear h h0 h1 hn hle
    go_enter Tryz.func198, Tryz.ntmps198
    go_wp2_with fail
    go_ret
    exact ⟨ret_int hs.out.symm, rfl⟩
  · have hi : i < ks.length := by omega
    have c2 := h.kind hi
    rw [kindL_in hi]
    obtain ⟨v, hv⟩ : ∃ v, v = ks.getD i 0 := ⟨_, rfl⟩
    rw [← hv] at c2 ⊢
    obtain ⟨n, hn⟩ : ∃ n, n = ks.length := ⟨_, rfl⟩
    rw [← hn] at c1 hi hle
    clear h h0 h1 hn hv
    go_enter Tryz.func198, Tryz.ntmps198
    go_wp2_with fail
    go_ret
    exact ⟨rfl, rfl⟩
def NatE (o : Option Nat) (e : Ending) : Prop := e = .returned (.int .i64 (match o with | some m => (m : Int) | none => -1))
set_option maxHeartbeats 1000000 in
set_option maxRecDepth 100000 in
theorem index0_any {w : World} {t k : Nat} {ks : List Int} (h : Tx w t k ks) (c : Nat) :
    Calls Tryz.prog 206 #[.slice (some ⟨k, 0, none⟩) ks.length c, .int .i64 0] w fun e w' => NatE (idx0 ks) e ∧ w = w' := by
  have hle := h.le
  have H := Lib.hid h
  obtain ⟨n, hn⟩ : ∃ n, n = ks.length := ⟨_, rfl⟩
  rw [← hn]
  rw [← hn] at hle
  have HN := Lib.hid hn
  clear h hn
  go_enter Tryz.func206, Tryz.ntmps206
  go_wp2_with fail
  go_loop [8] (fun a => ∃ i : Nat, i ≤ n ∧ a = .int .i64 i ∧ Hid (∀ j, j < i → ks.getD j 0 ≠ 0)) (fun a => n - (intOf a).toNat)
  case atStart => exact ⟨0, Nat.zero_le _, rfl, Lib.hid (fun j hj => by omega)⟩
  case round =>
    obtain ⟨i, hi, rfl, HJ⟩ := hrel
    by_cases hlt : i < n
    · have c2 := H.out.kind (i := i) (by rw [← HN.out]; exact hlt)
      obtain ⟨v, hv⟩ : ∃ v, v = ks.getD i 0 := ⟨_, rfl⟩
      rw [← hv] at c2
      by_cases h0 : v = 0
      · have HR := Lib.hid (idx0_some (ks := ks) (m := i) (by rw [← HN.out]; exact hlt) (by rw [← hv]; exact h0) HJ.out)
        subst h0
        clear hv HJ
        go_wp2_with fail
        go_ret
        exact ⟨by rw [HR.out]; rfl, rfl⟩
      · have h0' : ((0 : Int) == v) = false := by simp; omega
        have HJ' := Lib.hid (show ∀ j, j < i + 1 → ks.getD j 0 ≠ 0 from fun j hj => by
          by_cases e : j = i
          · rw [e, ← hv]; exact h0
          · exact HJ.out j (by omega))
        clear hv HJ h0
        go_wp2_with fail
        go_round
        case rel => exact ⟨i + 1, by omega, by go_num, HJ'⟩
        case measure => simp [intOf]; omega
    · obtain rfl : i = n := by omega
      have HR := Lib.hid (idx0_none (ks := ks) (by rw [← HN.out]; exact HJ.out))
      clear hi hlt HJ
      go_wp2_with fail
      go_ret
      exact ⟨by rw [HR.out]; rfl, rfl⟩
/-- What taking a page of a class answers, and leaves. -/
def takeT (ks : List Int) (c : Int) : Option Nat := if sizeI c = 0 then none else idx0 ks
def TakeE (o : Option Nat) (e : Ending) : Prop := e = .returned (.tuple #[.int .i64 (match o with | some m => (m : Int) | none => 0), .bool o.isSome])
def takeK (ks : List Int) (c : Int) : List Int := match takeT ks c with | some m => ks.set m c | none => ks
theorem idx0_lt : ∀ {ks : List Int} {m : Nat}, idx0 ks = some m → m < ks.length
  | [], m, h => by simp [idx0] at h
  | x :: xs, m, h => by
    unfold idx0 at h
    split at h
    · simp at h; simp; omega
    · cases h1 : idx0 xs with
      | none => rw [h1] at h; simp at h
      | some j =>
        rw [h1] at h
        have := idx0_lt h1
        simp at h
        simp; omega
set_option maxHeartbeats 1000000 in
set_option maxRecDepth 100000 in
theorem ptake_any {w : World} {t k : Nat} {ks : List Int} (h : Tx w t k ks) (c : Int) :
    Calls Tryz.prog 188 #[.pointer (some ⟨t, 0, none⟩), .int .i64 c] w fun e w' => TakeE (takeT ks c) e ∧ Tx w' t k (takeK ks c) ∧ Frm [k] w w' := by
  obtain ⟨-, c1⟩ := h.cells
  have H := Lib.hid h
  have F0 := Lib.hid (Frm.refl [k] w)
  by_cases hz : sizeI c = 0
  · have h1 : (sizeI c == 0) = true := by simp [hz]
    have hs := Lib.hid (show takeT ks c = none by unfold takeT; rw [if_pos hz])
    have hk := Lib.hid (show takeK ks c = ks by unfold takeK; rw [hs.out])
    clear h hz
    go_enter Tryz.func188, Tryz.ntmps188
    go_wp2_with (go_at_call 138; refine (size_any c _).mono ?_; rintro e w1 ⟨rfl, rfl⟩)
    go_ret2
    exact ⟨by rw [hs.out]; rfl, by rw [hk.out]; exact H.out, F0.out⟩
  have h1 : (sizeI c == 0) = false := by simp [hz]
  have hs := show takeT ks c = idx0 ks by unfold takeT; rw [if_neg hz]
  obtain ⟨n, hn⟩ : ∃ n, n = ks.length := ⟨_, rfl⟩
  rw [← hn] at c1
  have HN := Lib.hid hn
  have hle : n ≤ 64 := by rw [hn]; exact h.le
  cases hx : idx0 ks with
  | none =>
    have hs' := Lib.hid (hs.trans hx)
    have HX := Lib.hid hx
    have hk := Lib.hid (show takeK ks c = ks by unfold takeK; rw [hs'.out])
    clear h hz hs hx hn
    go_enter Tryz.func188, Tryz.ntmps188
    go_wp2_with (first | (go_at_call 138; refine (size_any c _).mono ?_; rintro e w1 ⟨rfl, rfl⟩) | (go_at_call 206; rw [HN.out]; refine (index0_any H.out _).mono ?_; rw [HX.out]; rintro e w1 ⟨rfl, rfl⟩))
    go_ret2
    exact ⟨by rw [hs'.out]; rfl, by rw [hk.out]; exact H.out, F0.out⟩
  | some m =>
    have hml := idx0_lt hx
    have hs' := Lib.hid (hs.trans hx)
    have HX := Lib.hid hx
    have hk := Lib.hid (show takeK ks c = ks.set m c by unfold takeK; rw [hs'.out])
    have c2 := h.kind hml
    have fz := frozen_of_row w k m _ _ h.row
    obtain ⟨u, hu⟩ : ∃ u, u = ks.getD m 0 := ⟨_, rfl⟩
    rw [← hu] at c2
    rw [← hn] at hml
    clear h hz hs hx hn hu
    go_enter Tryz.func188, Tryz.ntmps188
    go_wp2_with (first | (go_at_call 138; refine (size_any c _).mono ?_; rintro e w1 ⟨rfl, rfl⟩) | (go_at_call 206; rw [HN.out]; refine (index0_any H.out _).mono ?_; rw [HX.out]; rintro e w1 ⟨rfl, rfl⟩))
    go_ret2
    exact ⟨by rw [hs'.out]; rfl, by rw [hk.out]; exact H.out.put m c, Frm.setCell w (by simp) _⟩
end Go.Proofs.YtjoejjhgneccgaaGreatDoor

/- Package page: sizes, freeing, where a page belongs to; made; cloned. -/
namespace Go.Proofs.YtjoejjhgneccgaaGreatDoor
open Go.RowKit

set_option maxHeartbeats 1000000 in
set_option maxRecDepth 100000 in
theorem psize_any {w : World} {t k : Nat} {ks : List Int} (h : Tx w t k ks) (p : Int) :
    Calls Tryz.prog 190 #[.pointer (some ⟨t, 0, none⟩), .int .i64 p] w fun e w' => e = .returned (.int .i64 (sizeL ks p)) ∧ w = w' := by
  have H := Lib.hid h
  have hle := h.le
  by_cases h1 : 0 < sizeI (kindL ks p)
  · have hs := Lib.hid (show sizeL ks p = 1 by unfold sizeL; rw [if_pos h1])
    clear h hle
    go_enter Tryz.func190, Tryz.ntmps190
    go_wp2_with (first | (go_at_call 198; refine (pkind_any H.out _).mono ?_; rintro e w1 ⟨rfl, rfl⟩) | (go_at_call 138; refine (size_any _ _).mono ?_; rintro e w1 ⟨rfl, rfl⟩))
    go_ret
    exact ⟨ret_int hs.out.symm, rfl⟩
  by_cases h5 : kindL ks p = 5
  · have hs := show sizeL ks p = 1 + (run6 ks (p.toNat + 1) : Int) by unfold sizeL; rw [if_neg h1, if_neg (by simpa using h5)]
    have hin : 0 ≤ p := by
      apply Decidable.byContradiction; intro hc
      rw [kindL_out (.inl (by omega))] at h5; omega
    obtain ⟨i, rfl⟩ := Int.eq_ofNat_of_zero_le hin
    rw [Int.toNat_natCast] at hs
    have h5' : (kindL ks i != 5) = false := by simp [h5]
    have HS := Lib.hid hs
    have hil : i < ks.length := by
      apply Decidable.byContradiction; intro hc
      rw [kindL_out (.inr (by omega))] at h5; omega
    obtain ⟨n, hn⟩ : ∃ n, n = ks.length := ⟨_, rfl⟩
    rw [← hn] at hil hle
    have HN := Lib.hid hn
    clear h hs hin h5 hn
    go_enter Tryz.func190, Tryz.ntmps190
    go_wp2_with (first | (go_at_call 198; refine (pkind_any H.out _).mono ?_; rintro e w1 ⟨rfl, rfl⟩) | (go_at_call 138; refine (size_any _ _).mono ?_; rintro e w1 ⟨rfl, rfl⟩))
    go_loop [6] (fun a => ∃ m : Nat, 1 ≤ m ∧ i + m ≤ n ∧ a = .int .i64 m ∧ Hid (1 + run6 ks (i + 1) = m + run6 ks (i + m))) (fun a => n - (intOf a).toNat)
    case atStart => exact ⟨1, Nat.le_refl _, hil, rfl, Lib.hid rfl⟩
    case round =>
      obtain ⟨m, hm, hml, rfl, HR⟩ := hrel
      have e1 : ((i : Int) + (m : Int)) = ((i + m : Nat) : Int) := by omega
      by_cases h6 : kindL ks ((i + m : Nat) : Int) = 6
      · have hlt : i + m < n := by
          apply Decidable.byContradiction; intro hc
          rw [kindL_out (.inr (by rw [← HN.out]; omega))] at h6; omega
        have h6' : (kindL ks ((i : Int) + (m : Int)) == 6) = true := by rw [e1]; exact beq_iff_eq.2 h6
        have HR' := Lib.hid (show 1 + run6 ks (i + 1) = (m + 1) + run6 ks (i + (m + 1)) by rw [HR.out, run6_step h6, ← Nat.add_assoc i m 1]; omega)
        clear h6 HR e1
        go_wp2_with (go_at_call 198; refine (pkind_any H.out _).mono ?_; rintro e w1 ⟨rfl, rfl⟩)
        go_round
        case rel => exact ⟨m + 1, by omega, by omega, by go_num, HR'⟩
        case measure => simp [intOf]; omega
      · have h6' : (kindL ks ((i : Int) + (m : Int)) == 6) = false := by rw [e1]; exact beq_eq_false_iff_ne.2 h6
        have HR' := Lib.hid (show sizeL ks i = m by rw [HS.out]; have := HR.out; rw [run6_stop h6] at this; omega)
        clear h6 HR e1
        go_wp2_with (go_at_call 198; refine (pkind_any H.out _).mono ?_; rintro e w1 ⟨rfl, rfl⟩)
        go_ret
        exact ⟨ret_int HR'.out.symm, rfl⟩
  · have hs := Lib.hid (show sizeL ks p = 0 by unfold sizeL; rw [if_neg h1, if_pos (by simpa using h5)])
    have h5' : (kindL ks p != 5) = true := by simpa using h5
    clear h hle h5
    go_enter Tryz.func190, Tryz.ntmps190
    go_wp2_with (first | (go_at_call 198; refine (pkind_any H.out _).mono ?_; rintro e w1 ⟨rfl, rfl⟩) | (go_at_call 138; refine (size_any _ _).mono ?_; rintro e w1 ⟨rfl, rfl⟩))
    go_ret
    exact ⟨ret_int hs.out.symm, rfl⟩
set_option maxHeartbeats 1000000 in
set_option maxRecDepth 100000 in
theorem pfree_any {w : World} {t k : Nat} {ks : List Int} (h : Tx w t k ks) (p : Int) :
    Calls Tryz.prog 151 #[.pointer (some ⟨t, 0, none⟩), .int .i64 p] w fun e w' => e = .returned (.int .i64 (sizeL ks p)) ∧ Tx w' t k (freeL ks p) ∧ Frm [k] w w' := by
  have H := Lib.hid h
  have F0 := Lib.hid (Frm.refl [k] w)
  have hb := sizeL_bd ks p
  have hle := h.le
  obtain ⟨n, hn⟩ := Int.eq_ofNat_of_zero_le hb.1
  by_cases h0 : n = 0
  · subst h0
    have HS := Lib.hid hn
    have HF := Lib.hid (show freeL ks p = ks by unfold freeL; rw [hn]; rfl)
    clear h hb hle hn
    go_enter Tryz.func151, Tryz.ntmps151
    go_wp2_with (go_at_call 190; refine (psize_any H.out _).mono ?_; rw [HS.out]; rintro e w1 ⟨rfl, rfl⟩)
    go_loop [11] (fun a => a = .int .i64 0) (fun _ => 0)
    case atStart => rfl
    case round =>
      obtain rfl := hrel
      go_wp2_with fail
      go_ret
      exact ⟨by rw [HS.out]; rfl, by rw [HF.out]; exact H.out, F0.out⟩
  · have hin := sizeL_in (ks := ks) (p := p) (by omega)
    obtain ⟨i, rfl⟩ := Int.eq_ofNat_of_zero_le hin.1
    have hil : i + n ≤ ks.length := by omega
    have HS := Lib.hid hn
    have HF := Lib.hid (show freeL ks i = fillL ks i n 0 by unfold freeL; rw [hn]; rfl)
    have hn64 : n ≤ 65 := by omega
    have hi64 : i ≤ 64 := by omega
    have HI := Lib.hid hil
    clear h hb hle hn hin h0 hil
    go_enter Tryz.func151, Tryz.ntmps151
    go_wp2_with (go_at_call 190; refine (psize_any H.out _).mono ?_; rw [HS.out]; rintro e w1 ⟨rfl, rfl⟩)
    go_loopw [11] (fun a wr => ∃ j : Nat, j ≤ n ∧ a = .int .i64 j ∧ Hid (Tx wr t k (fillL ks i j 0)) ∧ Hid (Frm [k] w wr)) (fun a _ => n - (intOf a).toNat)
    case atStart => exact ⟨0, Nat.zero_le _, rfl, H, F0⟩
    case round =>
      clear F0
      obtain ⟨j, hj, rfl, H2, F0⟩ := hrel
      by_cases hlt : j < n
      · have hlen : i + j < (fillL ks i j 0).length := by rw [fillL_len]; have := HI.out; omega
        have cw := H2.out.kind hlen
        have fz := frozen_of_row wr k (i + j) _ _ H2.out.row
        obtain ⟨-, c1⟩ := H2.out.cells
        obtain ⟨u, hu⟩ : ∃ u, u = (fillL ks i j 0).getD (i + j) 0 := ⟨_, rfl⟩
        rw [← hu] at cw
        obtain ⟨L, hL⟩ : ∃ L, L = (fillL ks i j 0).length := ⟨_, rfl⟩
        rw [← hL] at c1 hlen
        have hL64 : L ≤ 64 := by rw [hL]; exact H2.out.le
        have q1 : (0 : Int) ≤ (i : Int) + (j : Int) := by omega
        have q2 : ((i : Int) + (j : Int)) < (L : Int) := by omega
        have q3 : ((i : Int) + (j : Int)).toNat = i + j := by omega
        clear hu hL
        go_wp2_with fail
        go_roundw
        case rel => exact ⟨j + 1, by omega, by go_num, Lib.hid (H2.out.put _ _), Lib.hid (F0.out.trans (Frm.setCell wr (by simp) _) (fun x hx => .inl hx))⟩
        case measure => simp [intOf]; omega
      · obtain rfl : j = n := by omega
        clear hj hlt
        go_wp2_with fail
        go_ret
        exact ⟨by rw [HS.out]; rfl, by rw [HF.out]; exact H2.out, F0.out⟩
set_option maxHeartbeats 1000000 in
set_option maxRecDepth 100000 in
theorem pfirst_any {w : World} {t k : Nat} {ks : List Int} (h : Tx w t k ks) (p : Int) (hp : -1 ≤ p) :
    Calls Tryz.prog 194 #[.pointer (some ⟨t, 0, none⟩), .int .i64 p] w fun e w' => e = .returned (.int .i64 (firstL ks p)) ∧ w = w' := by
  have H := Lib.hid h
  have hle := h.le
  obtain ⟨n, hn⟩ : ∃ n, n = ks.length := ⟨_, rfl⟩
  have HN := Lib.hid hn
  rw [← hn] at hle
  obtain ⟨q, hq⟩ : ∃ q, q = if p < 0 then p else downL ks p.toNat := ⟨_, rfl⟩
  have hf : firstL ks p = if sizeL ks q = 0 then -1 else q := by rw [hq]; rfl
  have HF := Lib.hid hf
  have HQ := Lib.hid hq
  have HP := Lib.hid hp
  clear h hn hf hq hp
  go_enter Tryz.func194, Tryz.ntmps194
  go_wp2_with fail
  go_loop [1] (fun a => ∃ v : Int, -1 ≤ v ∧ a = .int .i64 v ∧ Hid (q = if v < 0 then v else downL ks v.toNat)) (fun a => (intOf a + 1).toNat)
  case atStart => exact ⟨p, HP.out, rfl, HQ⟩
  case round =>
    clear HQ HP
    obtain ⟨v, hv, rfl, HV⟩ := hrel
    by_cases h6 : kindL ks v = 6
    · have hin : 0 ≤ v ∧ v < n := by
        apply Decidable.byContradiction; intro hc
        rw [kindL_out (by rw [← HN.out]; omega)] at h6; omega
      obtain ⟨i, rfl⟩ := Int.eq_ofNat_of_zero_le hin.1
      have hi : (i : Int) < n := hin.2
      have HV' := Lib.hid (show q = if ((i : Int) - 1) < 0 then ((i : Int) - 1) else downL ks ((i : Int) - 1).toNat by
        rw [HV.out, if_neg (by omega), Int.toNat_natCast]
        cases i with
        | zero => rw [downL_zero h6]; rfl
        | succ i =>
          have e : ((i + 1 : Nat) : Int) - 1 = (i : Int) := by omega
          rw [downL_step h6, e, if_neg (by omega), Int.toNat_natCast])
      have h6' : (kindL ks (i : Int) == 6) = true := by simp [h6]
      clear h6 hin HV
      go_wp2_with (go_at_call 198; refine (pkind_any H.out _).mono ?_; rintro e w1 ⟨rfl, rfl⟩)
      go_round
      case rel => exact ⟨(i : Int) - 1, by omega, rfl, HV'⟩
      case measure => simp [intOf]
    · have h6' : (kindL ks v == 6) = false := by simp [h6]
      have hq : q = v := by
        rw [HV.out]
        split
        · rfl
        · obtain ⟨i, rfl⟩ := Int.eq_ofNat_of_zero_le (show 0 ≤ v by omega)
          exact downL_stop h6
      subst hq
      clear h6 HV
      by_cases hz : sizeL ks q = 0
      · have hz' : (sizeL ks q == 0) = true := by simp [hz]
        have HR := Lib.hid (show firstL ks p = -1 by rw [HF.out, if_pos hz])
        clear hz
        go_wp2_with (first | (go_at_call 198; refine (pkind_any H.out _).mono ?_; rintro e w1 ⟨rfl, rfl⟩) | (go_at_call 190; refine (psize_any H.out _).mono ?_; rintro e w1 ⟨rfl, rfl⟩))
        go_ret
        exact ⟨ret_int HR.out.symm, rfl⟩
      · have hz' : (sizeL ks q == 0) = false := by simp [hz]
        have HR := Lib.hid (show firstL ks p = q by rw [HF.out, if_neg hz])
        clear hz
        go_wp2_with (first | (go_at_call 198; refine (pkind_any H.out _).mono ?_; rintro e w1 ⟨rfl, rfl⟩) | (go_at_call 190; refine (psize_any H.out _).mono ?_; rintro e w1 ⟨rfl, rfl⟩))
        go_ret
        exact ⟨ret_int HR.out.symm, rfl⟩
set_option maxHeartbeats 1000000 in
set_option maxRecDepth 100000 in
theorem iclone_any {w : World} {b : Nat} {xs : List Int} {T : TypeId} (h : w.heap[b]? = some (.cells (ints xs) T (0, 0))) (c : Nat) (hn : xs.length ≤ 1000000) :
    Calls Tryz.prog 199 #[.slice (some ⟨b, 0, none⟩) xs.length c] w fun e w' => (∃ s', e = .returned s' ∧ IRow w.heap.size w' s' xs) ∧ Below w.heap.size w w' := by
  obtain ⟨i0, hi, hz0, hz1, hz2⟩ := info_parts info_num
  have hi := Lib.hid hi
  have hz0 := Lib.hid hz0
  have hz1 := Lib.hid hz1
  have hz2 := Lib.hid hz2
  have q := fun a l c => eql_slice_nil0 44 3 a l c Tryz.underlying44
  have B1 := Lib.hid (below_alloc0 w (.cells #[] 3))
  have HN := Lib.hid hn
  have H := Lib.hid h
  have HO := Lib.hid (ints_one xs)
  obtain ⟨n, hl⟩ : ∃ n, n = xs.length := ⟨_, rfl⟩
  rw [← hl]
  have HL := Lib.hid hl
  clear hn h hl
  go_enter Tryz.func199, Tryz.ntmps199
  go_wp2_with (at_builtin; refine wpList_append_own _ rfl _ _ 44 rfl w.heap.size 3 i0 (.int .i64 0) 1 8 Tryz.underlying44 hi.out hz0.out hz1.out hz2.out rfl (by decide) _ 0 [] rfl (own_new [] w.heap.size 0 rfl (Nat.le_refl _) rfl (Nat.zero_le _)) ⟨b, 0, none⟩ n c (xs.map (Value.int .i64)) rfl (by rw [HL.out]; simp) (ints_news (keep B1.out H.out)) HO.out (by have := HN.out; rw [HL.out]; unfold maxLen; omega) (by have := HN.out; rw [HL.out]; omega) (by simp) ?_; intro v' w1 hown' hgrow _)
  go_ret
  refine ⟨⟨_, rfl, ?_⟩, B1.out.grown hgrow B1.out.size (fun j hj => by cases hj; exact Nat.le_refl _)⟩
  unfold IRow
  rw [Nat.zero_add, List.nil_append, HL.out] at hown'
  exact hown'
theorem pall_any {w : World} {t k : Nat} {ks : List Int} (h : Tx w t k ks) :
    Calls Tryz.prog 164 #[.pointer (some ⟨t, 0, none⟩)] w fun e w' => (∃ s', e = .returned s' ∧ IRow w.heap.size w' s' ks) ∧ Below w.heap.size w w' := by
  have H := Lib.hid h
  obtain ⟨-, c1⟩ := h.cells
  have HL := Lib.hid (show ks.length ≤ 1000000 by have := h.le; omega)
  clear h
  go_enter Tryz.func164, Tryz.ntmps164
  go_wp2_with (go_at_call 199; refine (iclone_any H.out.row _ HL.out).mono ?_; rintro e w1 ⟨⟨s, rfl, hr⟩, hb⟩)
  go_ret
  exact ⟨⟨_, rfl, hr⟩, hb⟩
theorem make_ints (n : Nat) (hn : n ≤ 1000000) (w : World) : (Instr.makeSlice 44 (.int .i64 (n : Int)) (.int .i64 (n : Int))).run Tryz.prog w = .ok (.slice (some ⟨w.heap.size, 0, none⟩) n n) (w.alloc (.cells (ints (List.replicate n 0)) 3)) := by
  obtain ⟨i0, hi, hz0, hz1, hz2⟩ := info_parts info_num
  have h := run_make (P := Tryz.prog) w 44 3 i0 _ Tryz.underlying44 hi hz0 .i64 .i64 n n (by omega) (by omega) (by rw [hz2]; omega) (by omega)
  rw [hz1] at h
  have e : madeCells #[Value.int .i64 0] (n * 1) = ints (List.replicate n 0) := by
    unfold ints
    rw [List.map_replicate]
    apply Array.ext
    · simp [madeCells]
    · intro i h1 h2
      simp only [madeCells, Array.getElem_map, Array.getElem_range, List.getElem_toArray, List.getElem_replicate]
      show (#[Value.int .i64 0])[i % 1]! = _
      rw [Nat.mod_one]; rfl
  rw [← e]
  exact h
set_option maxRecDepth 100000 in
theorem pnew_any (n : Int) (w : World) :
    Calls Tryz.prog 163 #[.int .i64 n] w fun e w' => e = .returned (.pointer (some ⟨w.heap.size + 1, 0, none⟩)) ∧ Tx w' (w.heap.size + 1) w.heap.size (List.replicate (clampN n 0 64).toNat 0) ∧ Below w.heap.size w w' := by
  have hb := clampN_bd (a := n) (lo := 0) (hi := 64) (by omega)
  obtain ⟨k, hk⟩ := Int.eq_ofNat_of_zero_le hb.1
  have HK := Lib.hid hk
  have hk64 : k ≤ 64 := by omega
  have mk := make_ints k (by omega)
  obtain ⟨R, hR⟩ : ∃ R, R = ints (List.replicate k 0) := ⟨_, rfl⟩
  rw [← hR] at mk
  have HR := Lib.hid hR
  clear hk hb hR
  go_enter Tryz.func163, Tryz.ntmps163
  go_wp2_with (go_at_call 58; refine (clampn_any n 0 64 _).mono ?_; rw [HK.out]; rintro e w' ⟨rfl, rfl⟩)
  go_ret
  rw [HK.out, Int.toNat_natCast]
  refine ⟨rfl, ⟨?_, ?_, by simpa using hk64⟩, ?_⟩
  · rw [List.length_replicate]
    exact alloc_at _ _ (by simp)
  · rw [← HR.out]
    exact keep_alloc _ (heap_alloc_new w _)
  · exact (below_alloc0 _ _).alloc (by simp) _
end Go.Proofs.YtjoejjhgneccgaaGreatDoor
