/- The reference's lists of pages: Set, Span. -/
import Derived.Test.YtfocdbflmodfhaaDoorQCR03
namespace Go.Proofs.YtfocdbflmodfhaaDoor
open Go.RowKit

def setAt (xs : List Int) (p n : Nat) (k : Int) (i : Nat) : Int := if p ≤ i ∧ i < p + n then k else xs.getD i 0
def setTo (xs : List Int) (p n : Nat) (k : Int) (m : Nat) : List Int := (List.range m).map (setAt xs p n k)
def setL (xs : List Int) (p n : Nat) (k : Int) : List Int := setTo xs p n k xs.length
theorem setTo_step (xs : List Int) (p n : Nat) (k : Int) (m : Nat) : setTo xs p n k (m + 1) = setTo xs p n k m ++ [setAt xs p n k m] := by
  unfold setTo
  rw [List.range_succ, List.map_append]; rfl
theorem setTo_len (xs : List Int) (p n : Nat) (k : Int) (m : Nat) : (setTo xs p n k m).length = m := by simp [setTo]
theorem setL_len (xs : List Int) (p n : Nat) (k : Int) : (setL xs p n k).length = xs.length := setTo_len _ _ _ _ _
theorem setL_get {xs : List Int} {p n : Nat} {k : Int} {i : Nat} (h : i < xs.length) : (setL xs p n k).getD i 0 = setAt xs p n k i := by
  unfold setL setTo
  rw [List.getD_eq_getElem?_getD, List.getElem?_map, List.getElem?_range h]; rfl
def RowF (base : Nat) (xs : List Int) (e : Ending) (w' : World) : Prop := ∃ A n cap, e = .returned (.slice A n cap) ∧ IRow base w' (.slice A n cap) xs
section
variable {base : Nat} {w : World} {A : Option Addr} {n cap : Nat} {xs : List Int}
set_option maxHeartbeats 2000000 in
set_option maxRecDepth 100000 in
theorem fset_any (h : IRow base w (.slice A n cap) xs) (hm : n ≤ 999999) (p m : Nat) (hp : p + m ≤ 999999) (k : Int) :
    Calls Tryd.prog 90 #[.slice A n cap, .int .i64 p, .int .i64 m, .int .i64 k] w fun e w' => RowF w.heap.size (setL xs p m k) e w' ∧ Below w.heap.size w w' := by
  obtain ⟨hn, -⟩ := h.at_
  have H := Lib.hid h
  have HN := Lib.hid hn
  have B0 := Lib.hid (Below.refl w.heap.size w)
  have HP := Lib.hid hp
  have hp1 : (p : Int) + (m : Int) ≤ 999999 := by omega
  clear h hn hp
  go_enter Tryd.func90, Tryd.ntmps90
  go_wp2_with fail
  go_loopw [9, 10] (fun v a wr => ∃ i : Nat, i ≤ n ∧ a = .int .i64 i ∧ Hid (IRow w.heap.size wr v (setTo xs p m k i)) ∧ Hid (Below w.heap.size w wr)) (fun _ a _ => n - (intOf a).toNat)
  case atStart => exact ⟨0, Nat.zero_le _, rfl, Lib.hid (IRow.nil _ _), B0⟩
  case round =>
    clear B0
    obtain ⟨i, hi, rfl, HR, HB⟩ := hrel
    by_cases hlt : i < n
    · have hr := H.out.below HB.out
      obtain ⟨g, rfl, c2⟩ := hr.at_.2 i hlt
      obtain ⟨x, hx⟩ : ∃ x, x = xs.getD i 0 := ⟨_, rfl⟩
      rw [← hx] at c2
      have hd : decide ((i : Int) < (n : Int)) = true := by simpa using hlt
      have i1 : (0 : Int) ≤ (i : Int) := by omega
      have i2 : (i : Int) < (n : Int) := by omega
      have HLL : Hid ((setTo xs p m k i).length + 1 ≤ 1000000) := Lib.hid (by rw [setTo_len]; omega)
      by_cases h1 : p ≤ i ∧ i < p + m
      · have HE := Lib.hid (show setTo xs p m k (i + 1) = setTo xs p m k i ++ [k] by rw [setTo_step]; unfold setAt; rw [if_pos h1])
        have hd1 : decide ((p : Int) ≤ (i : Int)) = true := by rw [decide_eq_true_eq]; omega
        have hd2 : decide ((i : Int) < (p : Int) + (m : Int)) = true := by rw [decide_eq_true_eq]; omega
        have i3 : (p : Int) ≤ (i : Int) := by omega
        have i4 : (i : Int) < (p : Int) + (m : Int) := by omega
        clear h1 hx hr
        go_wp2_with (at_builtin; refine wpList_append_num rfl _ _ (by rfl) w.heap.size w _ _ k (by rfl) HR.out (by rfl) HLL.out HB.out HB.out.size ?_; intro v' w1 hr1 hb1 hgrow; have HR1 := Lib.hid hr1; have HB1 := Lib.hid hb1; clear hr1 hb1 hgrow)
        go_roundw
        case rel => exact ⟨i + 1, by omega, by go_num, by rw [HE.out]; exact HR1, HB1⟩
        case measure => simp [intOf]; omega
      · have HE := Lib.hid (show setTo xs p m k (i + 1) = setTo xs p m k i ++ [x] by rw [setTo_step]; unfold setAt; rw [if_neg h1, hx])
        have hor : i < p ∨ p + m ≤ i := by omega
        clear hx hr h1
        rcases hor with h1 | h1
        · have hd1 : decide ((p : Int) ≤ (i : Int)) = false := by rw [decide_eq_false_iff_not]; omega
          go_wp2_with (at_builtin; refine wpList_append_num rfl _ _ (by rfl) w.heap.size w _ _ x (by rfl) HR.out (by rfl) HLL.out HB.out HB.out.size ?_; intro v' w1 hr1 hb1 hgrow; have HR1 := Lib.hid hr1; have HB1 := Lib.hid hb1; clear hr1 hb1 hgrow)
          go_roundw
          case rel => exact ⟨i + 1, by omega, by go_num, by rw [HE.out]; exact HR1, HB1⟩
          case measure => simp [intOf]; omega
        · have hd1 : decide ((p : Int) ≤ (i : Int)) = true := by rw [decide_eq_true_eq]; omega
          have hd2 : decide ((i : Int) < (p : Int) + (m : Int)) = false := by rw [decide_eq_false_iff_not]; omega
          go_wp2_with (at_builtin; refine wpList_append_num rfl _ _ (by rfl) w.heap.size w _ _ x (by rfl) HR.out (by rfl) HLL.out HB.out HB.out.size ?_; intro v' w1 hr1 hb1 hgrow; have HR1 := Lib.hid hr1; have HB1 := Lib.hid hb1; clear hr1 hb1 hgrow)
          go_roundw
          case rel => exact ⟨i + 1, by omega, by go_num, by rw [HE.out]; exact HR1, HB1⟩
          case measure => simp [intOf]; omega
    · have hd : decide ((i : Int) < (n : Int)) = false := by simpa using hlt
      obtain rfl : i = n := by omega
      obtain ⟨p', c', rfl, -⟩ := HR.out.slice
      go_wp2_with fail
      go_ret
      refine ⟨⟨_, _, _, rfl, ?_⟩, HB.out⟩
      unfold setL
      rw [← HN.out]
      exact HR.out
end
end Go.Proofs.YtfocdbflmodfhaaDoor

/- What the functions of package page come to. -/
namespace Go.Proofs.YtfocdbflmodfhaaDoor
open Go.RowKit

set_option maxHeartbeats 1000000 in
set_option maxRecDepth 100000 in
theorem pkind_any {w : World} {t k : Nat} {ks : List Int} (h : Tx w t k ks) (p : Int) :
    Calls Tryd.prog 83 #[.pointer (some ⟨t, 0, none⟩), .int .i64 p] w fun e w' => e = .returned (.int .i64 (kindL ks p)) ∧ w = w' := by
  obtain ⟨-, c1⟩ := h.cells
  have hle := h.le
  by_cases h0 : p < 0
  · have hs := Lib.hid (kindL_out (ks := ks) (.inl h0))
    clear h
    go_enter Tryd.func83, Tryd.ntmps83
    go_wp2_with fail
    go_ret
    exact ⟨ret_int hs.out.symm, rfl⟩
  obtain ⟨i, rfl⟩ := Int.eq_ofNat_of_zero_le (show 0 ≤ p by omega)
  by_cases h1 : ks.length ≤ i
  · have hs := Lib.hid (kindL_out (ks := ks) (p := (i : Int)) (.inr (by omega)))
    have h1' : (ks.length : Int) ≤ i := by omega
    obtain ⟨n, hn⟩ : ∃ n, n = ks.length := ⟨_, rfl⟩
    rw [← hn] at c1 h1'
    clear h h0 h1 hn hle
    go_enter Tryd.func83, Tryd.ntmps83
    go_wp2_with fail
    go_ret
    exact ⟨ret_int hs.out.symm, rfl⟩
  · have hi : i < ks.length := by omega
    have c2 := h.kind hi
    rw [kindL_in hi]
    obtain ⟨v, hv⟩ : ∃ v, v = ks.getD i 0 := ⟨_, rfl⟩
    rw [← hv] at c2 ⊢
    obtain ⟨n, hn⟩ : ∃ n, n = ks.length := ⟨_, rfl⟩
    rw [← hn] at c1 hi hle
    clear h h0 h1 hn hv
    go_enter Tryd.func83, Tryd.ntmps83
    go_wp2_with fail
    go_ret
    exact ⟨rfl, rfl⟩
def NatE (o : Option Nat) (e : Ending) : Prop := e = .returned (.int .i64 (match o with | some m => (m : Int) | none => -1))
set_option maxHeartbeats 1000000 in
set_option maxRecDepth 100000 in
theorem index0_any {w : World} {t k : Nat} {ks : List Int} (h : Tx w t k ks) (c : Nat) :
    Calls Tryd.prog 72 #[.slice (some ⟨k, 0, none⟩) ks.length c, .int .i64 0] w fun e w' => NatE (idx0 ks) e ∧ w = w' := by
  have hle := h.le
  have H := Lib.hid h
  obtain ⟨n, hn⟩ : ∃ n, n = ks.length := ⟨_, rfl⟩
  rw [← hn]
  rw [← hn] at hle
  have HN := Lib.hid hn
  clear h hn
  go_enter Tryd.func72, Tryd.ntmps72
  go_wp2_with fail
  go_loop [8] (fun a => ∃ i : Nat, i ≤ n ∧ a = .int .i64 i ∧ Hid (∀ j, j < i → ks.getD j 0 ≠ 0)) (fun a => n - (intOf a).toNat)
  case atStart => exact ⟨0, Nat.zero_le _, rfl, Lib.hid (fun j hj => by omega)⟩
  case round =>
    obtain ⟨i, hi, rfl, HJ⟩ := hrel
    by_cases hlt : i < n
    · have c2 := H.out.kind (i := i) (by rw [← HN.out]; exact hlt)
      obtain ⟨v, hv⟩ : ∃ v, v = ks.getD i 0 := ⟨_, rfl⟩
      rw [← hv] at c2
      by_cases h0 : v = 0
      · have HR := Lib.hid (idx0_some (ks := ks) (m := i) (by rw [← HN.out]; exact hlt) (by rw [← hv]; exact h0) HJ.out)
        subst h0
        clear hv HJ
        go_wp2_with fail
        go_ret
        exact ⟨by rw [HR.out]; rfl, rfl⟩
      · have h0' : ((0 : Int) == v) = false := by simp; omega
        have HJ' := Lib.hid (show ∀ j, j < i + 1 → ks.getD j 0 ≠ 0 from fun j hj => by
          by_cases e : j = i
          · rw [e, ← hv]; exact h0
          · exact HJ.out j (by omega))
        clear hv HJ h0
        go_wp2_with fail
        go_round
        case rel => exact ⟨i + 1, by omega, by go_num, HJ'⟩
        case measure => simp [intOf]; omega
    · obtain rfl : i = n := by omega
      have HR := Lib.hid (idx0_none (ks := ks) (by rw [← HN.out]; exact HJ.out))
      clear hi hlt HJ
      go_wp2_with fail
      go_ret
      exact ⟨by rw [HR.out]; rfl, rfl⟩
/-- What taking a page of a class answers, and leaves. -/
def takeT (ks : List Int) (c : Int) : Option Nat := if sizeI c = 0 then none else idx0 ks
def TakeE (o : Option Nat) (e : Ending) : Prop := e = .returned (.tuple #[.int .i64 (match o with | some m => (m : Int) | none => 0), .bool o.isSome])
def takeK (ks : List Int) (c : Int) : List Int := match takeT ks c with | some m => ks.set m c | none => ks
theorem idx0_lt : ∀ {ks : List Int} {m : Nat}, idx0 ks = some m → m < ks.length
  | [], m, h => by simp [idx0] at h
  | x :: xs, m, h => by
    unfold idx0 at h
    split at h
    · simp at h; simp; omega
    · cases h1 : idx0 xs with
      | none => rw [h1] at h; simp at h
      | some j =>
        rw [h1] at h
        have := idx0_lt h1
        simp at h
        simp; omega
set_option maxHeartbeats 1000000 in
set_option maxRecDepth 100000 in
theorem ptake_any {w : World} {t k : Nat} {ks : List Int} (h : Tx w t k ks) (c : Int) :
    Calls Tryd.prog 35 #[.pointer (some ⟨t, 0, none⟩), .int .i64 c] w fun e w' => TakeE (takeT ks c) e ∧ Tx w' t k (takeK ks c) ∧ Frm [k] w w' := by
  obtain ⟨-, c1⟩ := h.cells
  have H := Lib.hid h
  have F0 := Lib.hid (Frm.refl [k] w)
  by_cases hz : sizeI c = 0
  · have h1 : (sizeI c == 0) = true := by simp [hz]
    have hs := Lib.hid (show takeT ks c = none by unfold takeT; rw [if_pos hz])
    have hk := Lib.hid (show takeK ks c = ks by unfold takeK; rw [hs.out])
    clear h hz
    go_enter Tryd.func35, Tryd.ntmps35
    go_wp2_with (go_at_call 41; refine (size_any c _).mono ?_; rintro e w1 ⟨rfl, rfl⟩)
    go_ret2
    exact ⟨by rw [hs.out]; rfl, by rw [hk.out]; exact H.out, F0.out⟩
  have h1 : (sizeI c == 0) = false := by simp [hz]
  have hs := show takeT ks c = idx0 ks by unfold takeT; rw [if_neg hz]
  obtain ⟨n, hn⟩ : ∃ n, n = ks.length := ⟨_, rfl⟩
  rw [← hn] at c1
  have HN := Lib.hid hn
  have hle : n ≤ 64 := by rw [hn]; exact h.le
  cases hx : idx0 ks with
  | none =>
    have hs' := Lib.hid (hs.trans hx)
    have HX := Lib.hid hx
    have hk := Lib.hid (show takeK ks c = ks by unfold takeK; rw [hs'.out])
    clear h hz hs hx hn
    go_enter Tryd.func35, Tryd.ntmps35
    go_wp2_with (first | (go_at_call 41; refine (size_any c _).mono ?_; rintro e w1 ⟨rfl, rfl⟩) | (go_at_call 72; rw [HN.out]; refine (index0_any H.out _).mono ?_; rw [HX.out]; rintro e w1 ⟨rfl, rfl⟩))
    go_ret2
    exact ⟨by rw [hs'.out]; rfl, by rw [hk.out]; exact H.out, F0.out⟩
  | some m =>
    have hml := idx0_lt hx
    have hs' := Lib.hid (hs.trans hx)
    have HX := Lib.hid hx
    have hk := Lib.hid (show takeK ks c = ks.set m c by unfold takeK; rw [hs'.out])
    have c2 := h.kind hml
    have fz := frozen_of_row w k m _ _ h.row
    obtain ⟨u, hu⟩ : ∃ u, u = ks.getD m 0 := ⟨_, rfl⟩
    rw [← hu] at c2
    rw [← hn] at hml
    clear h hz hs hx hn hu
    go_enter Tryd.func35, Tryd.ntmps35
    go_wp2_with (first | (go_at_call 41; refine (size_any c _).mono ?_; rintro e w1 ⟨rfl, rfl⟩) | (go_at_call 72; rw [HN.out]; refine (index0_any H.out _).mono ?_; rw [HX.out]; rintro e w1 ⟨rfl, rfl⟩))
    go_ret2
    exact ⟨by rw [hs'.out]; rfl, by rw [hk.out]; exact H.out.put m c, Frm.setCell w (by simp) _⟩
end Go.Proofs.YtfocdbflmodfhaaDoor

/- Package page: sizes, freeing, where a page belongs to; made; cloned. -/
namespace Go.Proofs.YtfocdbflmodfhaaDoor
open Go.RowKit

set_option maxHeartbeats 1000000 in
set_option maxRecDepth 100000 in
theorem psize_any {w : World} {t k : Nat} {ks : List Int} (h : Tx w t k ks) (p : Int) :
    Calls Tryd.prog 80 #[.pointer (some ⟨t, 0, none⟩), .int .i64 p] w fun e w' => e = .returned (.int .i64 (sizeL ks p)) ∧ w = w' := by
  have H := Lib.hid h
  have hle := h.le
  by_cases h1 : 0 < sizeI (kindL ks p)
  · have hs := Lib.hid (show sizeL ks p = 1 by unfold sizeL; rw [if_pos h1])
    clear h hle
    go_enter Tryd.func80, Tryd.ntmps80
    go_wp2_with (first | (go_at_call 83; refine (pkind_any H.out _).mono ?_; rintro e w1 ⟨rfl, rfl⟩) | (go_at_call 41; refine (size_any _ _).mono ?_; rintro e w1 ⟨rfl, rfl⟩))
    go_ret
    exact ⟨ret_int hs.out.symm, rfl⟩
  by_cases h5 : kindL ks p = 5
  · have hs := show sizeL ks p = 1 + (run6 ks (p.toNat + 1) : Int) by unfold sizeL; rw [if_neg h1, if_neg (by simpa using h5)]
    have hin : 0 ≤ p := by
      apply Decidable.byContradiction; intro hc
      rw [kindL_out (.inl (by omega))] at h5; omega
    obtain ⟨i, rfl⟩ := Int.eq_ofNat_of_zero_le hin
    rw [Int.toNat_natCast] at hs
    have h5' : (kindL ks i != 5) = false := by simp [h5]
    have HS := Lib.hid hs
    have hil : i < ks.length := by
      apply Decidable.byContradiction; intro hc
      rw [kindL_out (.inr (by omega))] at h5; omega
    obtain ⟨n, hn⟩ : ∃ n, n = ks.length := ⟨_, rfl⟩
    rw [← hn] at hil hle
    have HN := Lib.hid hn
    clear h hs hin h5 hn
    go_enter Tryd.func80, Tryd.ntmps80
    go_wp2_with (first | (go_at_call 83; refine (pkind_any H.out _).mono ?_; rintro e w1 ⟨rfl, rfl⟩) | (go_at_call 41; refine (size_any _ _).mono ?_; rintro e w1 ⟨rfl, rfl⟩))
    go_loop [6] (fun a => ∃ m : Nat, 1 ≤ m ∧ i + m ≤ n ∧ a = .int .i64 m ∧ Hid (1 + run6 ks (i + 1) = m + run6 ks (i + m))) (fun a => n - (intOf a).toNat)
    case atStart => exact ⟨1, Nat.le_refl _, hil, rfl, Lib.hid rfl⟩
    case round =>
      obtain ⟨m, hm, hml, rfl, HR⟩ := hrel
      have e1 : ((i : Int) + (m : Int)) = ((i + m : Nat) : Int) := by omega
      by_cases h6 : kindL ks ((i + m : Nat) : Int) = 6
      · have hlt : i + m < n := by
          apply Decidable.byContradiction; intro hc
          rw [kindL_out (.inr (by rw [← HN.out]; omega))] at h6; omega
        have h6' : (kindL ks ((i : Int) + (m : Int)) == 6) = true := by rw [e1]; exact beq_iff_eq.2 h6
        have HR' := Lib.hid (show 1 + run6 ks (i + 1) = (m + 1) + run6 ks (i + (m + 1)) by rw [HR.out, run6_step h6, ← Nat.add_assoc i m 1]; omega)
        clear h6 HR e1
        go_wp2_with (go_at_call 83; refine (pkind_any H.out _).mono ?_; rintro e w1 ⟨rfl, rfl⟩)
        go_round
        case rel => exact ⟨m + 1, by omega, by omega, by go_num, HR'⟩
        case measure => simp [intOf]; omega
      · have h6' : (kindL ks ((i : Int) + (m : Int)) == 6) = false := by rw [e1]; exact beq_eq_false_iff_ne.2 h6
        have HR' := Lib.hid (show sizeL ks i = m by rw [HS.out]; have := HR.out; rw [run6_stop h6] at this; omega)
        clear h6 HR e1
        go_wp2_with (go_at_call 83; refine (pkind_any H.out _).mono ?_; rintro e w1 ⟨rfl, rfl⟩)
        go_ret
        exact ⟨ret_int HR'.out.symm, rfl⟩
  · have hs := Lib.hid (show sizeL ks p = 0 by unfold sizeL; rw [if_neg h1, if_pos (by simpa using h5)])
    have h5' : (kindL ks p != 5) = true := by simpa using h5
    clear h hle h5
    go_enter Tryd.func80, Tryd.ntmps80
    go_wp2_with (first | (go_at_call 83; refine (pkind_any H.out _).mono ?_; rintro e w1 ⟨rfl, rfl⟩) | (go_at_call 41; refine (size_any _ _).mono ?_; rintro e w1 ⟨rfl, rfl⟩))
    go_ret
    exact ⟨ret_int hs.out.symm, rfl⟩
set_option maxHeartbeats 1000000 in
set_option maxRecDepth 100000 in
theorem pfree_any {w : World} {t k : Nat} {ks : List Int} (h : Tx w t k ks) (p : Int) :
    Calls Tryd.prog 46 #[.pointer (some ⟨t, 0, none⟩), .int .i64 p] w fun e w' => e = .returned (.int .i64 (sizeL ks p)) ∧ Tx w' t k (freeL ks p) ∧ Frm [k] w w' := by
  have H := Lib.hid h
  have F0 := Lib.hid (Frm.refl [k] w)
  have hb := sizeL_bd ks p
  have hle := h.le
  obtain ⟨n, hn⟩ := Int.eq_ofNat_of_zero_le hb.1
  by_cases h0 : n = 0
  · subst h0
    have HS := Lib.hid hn
    have HF := Lib.hid (show freeL ks p = ks by unfold freeL; rw [hn]; rfl)
    clear h hb hle hn
    go_enter Tryd.func46, Tryd.ntmps46
    go_wp2_with (go_at_call 80; refine (psize_any H.out _).mono ?_; rw [HS.out]; rintro e w1 ⟨rfl, rfl⟩)
    go_loop [11] (fun a => a = .int .i64 0) (fun _ => 0)
    case atStart => rfl
    case round =>
      obtain rfl := hrel
      go_wp2_with fail
      go_ret
      exact ⟨by rw [HS.out]; rfl, by rw [HF.out]; exact H.out, F0.out⟩
  · have hin := sizeL_in (ks := ks) (p := p) (by omega)
    obtain ⟨i, rfl⟩ := Int.eq_ofNat_of_zero_le hin.1
    have hil : i + n ≤ ks.length := by omega
    have HS := Lib.hid hn
    have HF := Lib.hid (show freeL ks i = fillL ks i n 0 by unfold freeL; rw [hn]; rfl)
    have hn64 : n ≤ 65 := by omega
    have hi64 : i ≤ 64 := by omega
    have HI := Lib.hid hil
    clear h hb hle hn hin h0 hil
    go_enter Tryd.func46, Tryd.ntmps46
    go_wp2_with (go_at_call 80; refine (psize_any H.out _).mono ?_; rw [HS.out]; rintro e w1 ⟨rfl, rfl⟩)
    go_loopw [11] (fun a wr => ∃ j : Nat, j ≤ n ∧ a = .int .i64 j ∧ Hid (Tx wr t k (fillL ks i j 0)) ∧ Hid (Frm [k] w wr)) (fun a _ => n - (intOf a).toNat)
    case atStart => exact ⟨0, Nat.zero_le _, rfl, H, F0⟩
    case round =>
      clear F0
      obtain ⟨j, hj, rfl, H2, F0⟩ := hrel
      by_cases hlt : j < n
      · have hlen : i + j < (fillL ks i j 0).length := by rw [fillL_len]; have := HI.out; omega
        have cw := H2.out.kind hlen
        have fz := frozen_of_row wr k (i + j) _ _ H2.out.row
        obtain ⟨-, c1⟩ := H2.out.cells
        obtain ⟨u, hu⟩ : ∃ u, u = (fillL ks i j 0).getD (i + j) 0 := ⟨_, rfl⟩
        rw [← hu] at cw
        obtain ⟨L, hL⟩ : ∃ L, L = (fillL ks i j 0).length := ⟨_, rfl⟩
        rw [← hL] at c1 hlen
        have hL64 : L ≤ 64 := by rw [hL]; exact H2.out.le
        have q1 : (0 : Int) ≤ (i : Int) + (j : Int) := by omega
        have q2 : ((i : Int) + (j : Int)) < (L : Int) := by omega
        have q3 : ((i : Int) + (j : Int)).toNat = i + j := by omega
        clear hu hL
        go_wp2_with fail
        go_roundw
        case rel => exact ⟨j + 1, by omega, by go_num, Lib.hid (H2.out.put _ _), Lib.hid (F0.out.trans (Frm.setCell wr (by simp) _) (fun x hx => .inl hx))⟩
        case measure => simp [intOf]; omega
      · obtain rfl : j = n := by omega
        clear hj hlt
        go_wp2_with fail
        go_ret
        exact ⟨by rw [HS.out]; rfl, by rw [HF.out]; exact H2.out, F0.out⟩
set_option maxHeartbeats 1000000 in
set_option maxRecDepth 100000 in
theorem pfirst_any {w : World} {t k : Nat} {ks : List Int} (h : Tx w t k ks) (p : Int) (hp : -1 ≤ p) :
    Calls Tryd.prog 54 #[.pointer (some ⟨t, 0, none⟩), .int .i64 p] w fun e w' => e = .returned (.int .i64 (firstL ks p)) ∧ w = w' := by
  have H := Lib.hid h
  have hle := h.le
  obtain ⟨n, hn⟩ : ∃ n, n = ks.length := ⟨_, rfl⟩
  have HN := Lib.hid hn
  rw [← hn] at hle
  obtain ⟨q, hq⟩ : ∃ q, q = if p < 0 then p else downL ks p.toNat := ⟨_, rfl⟩
  have hf : firstL ks p = if sizeL ks q = 0 then -1 else q := by rw [hq]; rfl
  have HF := Lib.hid hf
  have HQ := Lib.hid hq
  have HP := Lib.hid hp
  clear h hn hf hq hp
  go_enter Tryd.func54, Tryd.ntmps54
  go_wp2_with fail
  go_loop [1] (fun a => ∃ v : Int, -1 ≤ v ∧ a = .int .i64 v ∧ Hid (q = if v < 0 then v else downL ks v.toNat)) (fun a => (intOf a + 1).toNat)
  case atStart => exact ⟨p, HP.out, rfl, HQ⟩
  case round =>
    clear HQ HP
    obtain ⟨v, hv, rfl, HV⟩ := hrel
    by_cases h6 : kindL ks v = 6
    · have hin : 0 ≤ v ∧ v < n := by
        apply Decidable.byContradiction; intro hc
        rw [kindL_out (by rw [← HN.out]; omega)] at h6; omega
      obtain ⟨i, rfl⟩ := Int.eq_ofNat_of_zero_le hin.1
      have hi : (i : Int) < n := hin.2
      have HV' := Lib.hid (show q = if ((i : Int) - 1) < 0 then ((i : Int) - 1) else downL ks ((i : Int) - 1).toNat by
        rw [HV.out, if_neg (by omega), Int.toNat_natCast]
        cases i with
        | zero => rw [downL_zero h6]; rfl
        | succ i =>
          have e : ((i + 1 : Nat) : Int) - 1 = (i : Int) := by omega
          rw [downL_step h6, e, if_neg (by omega), Int.toNat_natCast])
      have h6' : (kindL ks (i : Int) == 6) = true := by simp [h6]
      clear h6 hin HV
      go_wp2_with (go_at_call 83; refine (pkind_any H.out _).mono ?_; rintro e w1 ⟨rfl, rfl⟩)
      go_round
      case rel => exact ⟨(i : Int) - 1, by omega, rfl, HV'⟩
      case measure => simp [intOf]
    · have h6' : (kindL ks v == 6) = false := by simp [h6]
      have hq : q = v := by
        rw [HV.out]
        split
        · rfl
        · obtain ⟨i, rfl⟩ := Int.eq_ofNat_of_zero_le (show 0 ≤ v by omega)
          exact downL_stop h6
      subst hq
      clear h6 HV
      by_cases hz : sizeL ks q = 0
      · have hz' : (sizeL ks q == 0) = true := by simp [hz]
        have HR := Lib.hid (show firstL ks p = -1 by rw [HF.out, if_pos hz])
        clear hz
        go_wp2_with (first | (go_at_call 83; refine (pkind_any H.out _).mono ?_; rintro e w1 ⟨rfl, rfl⟩) | (go_at_call 80; refine (psize_any H.out _).mono ?_; rintro e w1 ⟨rfl, rfl⟩))
        go_ret
        exact ⟨ret_int HR.out.symm, rfl⟩
      · have hz' : (sizeL ks q == 0) = false := by simp [hz]
        have HR := Lib.hid (show firstL ks p = q by rw [HF.out, if_neg hz])
        clear hz
        go_wp2_with (first | (go_at_call 83; refine (pkind_any H.out _).mono ?_; rintro e w1 ⟨rfl, rfl⟩) | (go_at_call 80; refine (psize_any H.out _).mono ?_; rintro e w1 ⟨rfl, rfl⟩))
        go_ret
        exact ⟨ret_int HR.out.symm, rfl⟩
set_option maxHeartbeats 1000000 in
set_option maxRecDepth 100000 in
theorem iclone_any {w : World} {b : Nat} {xs : List Int} {T : TypeId} (h : w.heap[b]? = some (.cells (ints xs) T (0, 0))) (c : Nat) (hn : xs.length ≤ 1000000) :
    Calls Tryd.prog 71 #[.slice (some ⟨b, 0, none⟩) xs.length c] w fun e w' => (∃ s', e = .returned s' ∧ IRow w.heap.size w' s' xs) ∧ Below w.heap.size w w' := by
  obtain ⟨i0, hi, hz0, hz1, hz2⟩ := info_parts info_num
  have hi := Lib.hid hi
  have hz0 := Lib.hid hz0
  have hz1 := Lib.hid hz1
  have hz2 := Lib.hid hz2
  have q := fun a l c => eql_slice_nil0 32 3 a l c Tryd.underlying32
  have B1 := Lib.hid (below_alloc0 w (.cells #[] 3))
  have HN := Lib.hid hn
  have H := Lib.hid h
  have HO := Lib.hid (ints_one xs)
  obtain ⟨n, hl⟩ : ∃ n, n = xs.length := ⟨_, rfl⟩
  rw [← hl]
  have HL := Lib.hid hl
  clear hn h hl
  go_enter Tryd.func71, Tryd.ntmps71
  go_wp2_with (at_builtin; refine wpList_append_own _ rfl _ _ 32 rfl w.heap.size 3 i0 (.int .i64 0) 1 8 Tryd.underlying32 hi.out hz0.out hz1.out hz2.out rfl (by decide) _ 0 [] rfl (own_new [] w.heap.size 0 rfl (Nat.le_refl _) rfl (Nat.zero_le _)) ⟨b, 0, none⟩ n c (xs.map (Value.int .i64)) rfl (by rw [HL.out]; simp) (ints_news (keep B1.out H.out)) HO.out (by have := HN.out; rw [HL.out]; unfold maxLen; omega) (by have := HN.out; rw [HL.out]; omega) (by simp) ?_; intro v' w1 hown' hgrow _)
  go_ret
  refine ⟨⟨_, rfl, ?_⟩, B1.out.grown hgrow B1.out.size (fun j hj => by cases hj; exact Nat.le_refl _)⟩
  unfold IRow
  rw [Nat.zero_add, List.nil_append, HL.out] at hown'
  exact hown'
theorem pall_any {w : World} {t k : Nat} {ks : List Int} (h : Tx w t k ks) :
    Calls Tryd.prog 31 #[.pointer (some ⟨t, 0, none⟩)] w fun e w' => (∃ s', e = .returned s' ∧ IRow w.heap.size w' s' ks) ∧ Below w.heap.size w w' := by
  have H := Lib.hid h
  obtain ⟨-, c1⟩ := h.cells
  have HL := Lib.hid (show ks.length ≤ 1000000 by have := h.le; omega)
  clear h
  go_enter Tryd.func31, Tryd.ntmps31
  go_wp2_with (go_at_call 71; refine (iclone_any H.out.row _ HL.out).mono ?_; rintro e w1 ⟨⟨s, rfl, hr⟩, hb⟩)
  go_ret
  exact ⟨⟨_, rfl, hr⟩, hb⟩
theorem make_ints (n : Nat) (hn : n ≤ 1000000) (w : World) : (Instr.makeSlice 32 (.int .i64 (n : Int)) (.int .i64 (n : Int))).run Tryd.prog w = .ok (.slice (some ⟨w.heap.size, 0, none⟩) n n) (w.alloc (.cells (ints (List.replicate n 0)) 3)) := by
  obtain ⟨i0, hi, hz0, hz1, hz2⟩ := info_parts info_num
  have h := run_make (P := Tryd.prog) w 32 3 i0 _ Tryd.underlying32 hi hz0 .i64 .i64 n n (by omega) (by omega) (by rw [hz2]; omega) (by omega)
  rw [hz1] at h
  have e : madeCells #[Value.int .i64 0] (n * 1) = ints (List.replicate n 0) := by
    unfold ints
    rw [List.map_replicate]
    apply Array.ext
    · simp [madeCells]
    · intro i h1 h2
      simp only [madeCells, Array.getElem_map, Array.getElem_range, List.getElem_toArray, List.getElem_replicate]
      show (#[Value.int .i64 0])[i % 1]! = _
      rw [Nat.mod_one]; rfl
  rw [← e]
  exact h
set_option maxRecDepth 100000 in
theorem pnew_any (n : Int) (w : World) :
    Calls Tryd.prog 30 #[.int .i64 n] w fun e w' => e = .returned (.pointer (some ⟨w.heap.size + 1, 0, none⟩)) ∧ Tx w' (w.heap.size + 1) w.heap.size (List.replicate (clampN n 0 64).toNat 0) ∧ Below w.heap.size w w' := by
  have hb := clampN_bd (a := n) (lo := 0) (hi := 64) (by omega)
  obtain ⟨k, hk⟩ := Int.eq_ofNat_of_zero_le hb.1
  have HK := Lib.hid hk
  have hk64 : k ≤ 64 := by omega
  have mk := make_ints k (by omega)
  obtain ⟨R, hR⟩ : ∃ R, R = ints (List.replicate k 0) := ⟨_, rfl⟩
  rw [← hR] at mk
  have HR := Lib.hid hR
  clear hk hb hR
  go_enter Tryd.func30, Tryd.ntmps30
  go_wp2_with (go_at_call 70; refine (clampn_any n 0 64 _).mono ?_; rw [HK.out]; rintro e w' ⟨rfl, rfl⟩)
  go_ret
  rw [HK.out, Int.toNat_natCast]
  refine ⟨rfl, ⟨?_, ?_, by simpa using hk64⟩, ?_⟩
  · rw [List.length_replicate]
    exact alloc_at _ _ (by simp)
  · rw [← HR.out]
    exact keep_alloc _ (heap_alloc_new w _)
  · exact (below_alloc0 _ _).alloc (by simp) _
end Go.Proofs.YtfocdbflmodfhaaDoor
