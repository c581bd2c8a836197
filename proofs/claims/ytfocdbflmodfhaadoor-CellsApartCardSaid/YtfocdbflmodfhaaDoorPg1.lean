/- What the functions of package page come to. -/
import Derived.Test.YtfocdbflmodfhaaDoorPg0
namespace Go.Proofs.YtfocdbflmodfhaaDoor
open Go.RowKit

set_option maxHeartbeats 1000000 in
set_option maxRecDepth 100000 in
theorem pkind_any {w : World} {t k : Nat} {ks : List Int} (h : Tx w t k ks) (p : Int) :
    Calls Tryd.prog 83 #[.pointer (some ⟨t, 0, none⟩), .int .i64 p] w fun e w' => e = .returned (.int .i64 (kindL ks p)) ∧ w = w' := by
  obtain ⟨-, c1⟩ := h.cells
  have hle := h.le
  by_cases h0 : p < 0
  · have hs := Lib.hid (kindL_out (ks := ks) (.inl h0))
    clear h
    go_enter Tryd.func83, Tryd.ntmps83
    go_wp2_with fail
    go_ret
    exact ⟨ret_int hs.out.symm, rfl⟩
  obtain ⟨i, rfl⟩ := Int.eq_ofNat_of_zero_le (show 0 ≤ p by omega)
  by_cases h1 : ks.length ≤ i
  · have hs := Lib.hid (kindL_out (ks := ks) (p := (i : Int)) (.inr (by omega)))
    have h1' : (ks.length : Int) ≤ i := by omega
    obtain ⟨n, hn⟩ : ∃ n, n = ks.length := ⟨_, rfl⟩
    rw [← hn] at c1 h1'
    clear h h0 h1 hn hle
    go_enter Tryd.func83, Tryd.ntmps83
    go_wp2_with fail
    go_ret
    exact ⟨ret_int hs.out.symm, rfl⟩
  · have hi : i < ks.length := by omega
    have c2 := h.kind hi
    rw [kindL_in hi]
    obtain ⟨v, hv⟩ : ∃ v, v = ks.getD i 0 := ⟨_, rfl⟩
    rw [← hv] at c2 ⊢
    obtain ⟨n, hn⟩ : ∃ n, n = ks.length := ⟨_, rfl⟩
    rw [← hn] at c1 hi hle
    clear h h0 h1 hn hv
    go_enter Tryd.func83, Tryd.ntmps83
    go_wp2_with fail
    go_ret
    exact ⟨rfl, rfl⟩
def NatE (o : Option Nat) (e : Ending) : Prop := e = .returned (.int .i64 (match o with | some m => (m : Int) | none => -1))
set_option maxHeartbeats 1000000 in
set_option maxRecDepth 100000 in
theorem index0_any {w : World} {t k : Nat} {ks : List Int} (h : Tx w t k ks) (c : Nat) :
    Calls Tryd.prog 72 #[.slice (some ⟨k, 0, none⟩) ks.length c, .int .i64 0] w fun e w' => NatE (idx0 ks) e ∧ w = w' := by
  have hle := h.le
  have H := Lib.hid h
  obtain ⟨n, hn⟩ : ∃ n, n = ks.length := ⟨_, rfl⟩
  rw [← hn]
  rw [← hn] at hle
  have HN := Lib.hid hn
  clear h hn
  go_enter Tryd.func72, Tryd.ntmps72
  go_wp2_with fail
  go_loop [8] (fun a => ∃ i : Nat, i ≤ n ∧ a = .int .i64 i ∧ Hid (∀ j, j < i → ks.getD j 0 ≠ 0)) (fun a => n - (intOf a).toNat)
  case atStart => exact ⟨0, Nat.zero_le _, rfl, Lib.hid (fun j hj => by omega)⟩
  case round =>
    obtain ⟨i, hi, rfl, HJ⟩ := hrel
    by_cases hlt : i < n
    · have c2 := H.out.kind (i := i) (by rw [← HN.out]; exact hlt)
      obtain ⟨v, hv⟩ : ∃ v, v = ks.getD i 0 := ⟨_, rfl⟩
      rw [← hv] at c2
      by_cases h0 : v = 0
      · have HR := Lib.hid (idx0_some (ks := ks) (m := i) (by rw [← HN.out]; exact hlt) (by rw [← hv]; exact h0) HJ.out)
        subst h0
        clear hv HJ
        go_wp2_with fail
        go_ret
        exact ⟨by rw [HR.out]; rfl, rfl⟩
      · have h0' : ((0 : Int) == v) = false := by simp; omega
        have HJ' := Lib.hid (show ∀ j, j < i + 1 → ks.getD j 0 ≠ 0 from fun j hj => by
          by_cases e : j = i
          · rw [e, ← hv]; exact h0
          · exact HJ.out j (by omega))
        clear hv HJ h0
        go_wp2_with fail
        go_round
        case rel => exact ⟨i + 1, by omega, by go_num, HJ'⟩
        case measure => simp [intOf]; omega
    · obtain rfl : i = n := by omega
      have HR := Lib.hid (idx0_none (ks := ks) (by rw [← HN.out]; exact HJ.out))
      clear hi hlt HJ
      go_wp2_with fail
      go_ret
      exact ⟨by rw [HR.out]; rfl, rfl⟩
/-- What taking a page of a class answers, and leaves. -/
def takeT (ks : List Int) (c : Int) : Option Nat := if sizeI c = 0 then none else idx0 ks
def TakeE (o : Option Nat) (e : Ending) : Prop := e = .returned (.tuple #[.int .i64 (match o with | some m => (m : Int) | none => 0), .bool o.isSome])
def takeK (ks : List Int) (c : Int) : List Int := match takeT ks c with | some m => ks.set m c | none => ks
theorem idx0_lt : ∀ {ks : List Int} {m : Nat}, idx0 ks = some m → m < ks.length
  | [], m, h => by simp [idx0] at h
  | x :: xs, m, h => by
    unfold idx0 at h
    split at h
    · simp at h; simp; omega
    · cases h1 : idx0 xs with
      | none => rw [h1] at h; simp at h
      | some j =>
        rw [h1] at h
        have := idx0_lt h1
        simp at h
        simp; omega
set_option maxHeartbeats 1000000 in
set_option maxRecDepth 100000 in
theorem ptake_any {w : World} {t k : Nat} {ks : List Int} (h : Tx w t k ks) (c : Int) :
    Calls Tryd.prog 35 #[.pointer (some ⟨t, 0, none⟩), .int .i64 c] w fun e w' => TakeE (takeT ks c) e ∧ Tx w' t k (takeK ks c) ∧ Frm [k] w w' := by
  obtain ⟨-, c1⟩ := h.cells
  have H := Lib.hid h
  have F0 := Lib.hid (Frm.refl [k] w)
  by_cases hz : sizeI c = 0
  · have h1 : (sizeI c == 0) = true := by simp [hz]
    have hs := Lib.hid (show takeT ks c = none by unfold takeT; rw [if_pos hz])
    have hk := Lib.hid (show takeK ks c = ks by unfold takeK; rw [hs.out])
    clear h hz
    go_enter Tryd.func35, Tryd.ntmps35
    go_wp2_with (go_at_call 41; refine (size_any c _).mono ?_; rintro e w1 ⟨rfl, rfl⟩)
    go_ret2
    exact ⟨by rw [hs.out]; rfl, by rw [hk.out]; exact H.out, F0.out⟩
  have h1 : (sizeI c == 0) = false := by simp [hz]
  have hs := show takeT ks c = idx0 ks by unfold takeT; rw [if_neg hz]
  obtain ⟨n, hn⟩ : ∃ n, n = ks.length := ⟨_, rfl⟩
  rw [← hn] at c1
  have HN := Lib.hid hn
  have hle : n ≤ 64 := by rw [hn]; exact h.le
  cases hx : idx0 ks with
  | none =>
    have hs' := Lib.hid (hs.trans hx)
    have HX := Lib.hid hx
    have hk := Lib.hid (show takeK ks c = ks by unfold takeK; rw [hs'.out])
    clear h hz hs hx hn
    go_enter Tryd.func35, Tryd.ntmps35
    go_wp2_with (first | (go_at_call 41; refine (size_any c _).mono ?_; rintro e w1 ⟨rfl, rfl⟩) | (go_at_call 72; rw [HN.out]; refine (index0_any H.out _).mono ?_; rw [HX.out]; rintro e w1 ⟨rfl, rfl⟩))
    go_ret2
    exact ⟨by rw [hs'.out]; rfl, by rw [hk.out]; exact H.out, F0.out⟩
  | some m =>
    have hml := idx0_lt hx
    have hs' := Lib.hid (hs.trans hx)
    have HX := Lib.hid hx
    have hk := Lib.hid (show takeK ks c = ks.set m c by unfold takeK; rw [hs'.out])
    have c2 := h.kind hml
    have fz := frozen_of_row w k m _ _ h.row
    obtain ⟨u, hu⟩ : ∃ u, u = ks.getD m 0 := ⟨_, rfl⟩
    rw [← hu] at c2
    rw [← hn] at hml
    clear h hz hs hx hn hu
    go_enter Tryd.func35, Tryd.ntmps35
    go_wp2_with (first | (go_at_call 41; refine (size_any c _).mono ?_; rintro e w1 ⟨rfl, rfl⟩) | (go_at_call 72; rw [HN.out]; refine (index0_any H.out _).mono ?_; rw [HX.out]; rintro e w1 ⟨rfl, rfl⟩))
    go_ret2
    exact ⟨by rw [hs'.out]; rfl, by rw [hk.out]; exact H.out.put m c, Frm.setCell w (by simp) _⟩
end Go.Proofs.YtfocdbflmodfhaaDoor
