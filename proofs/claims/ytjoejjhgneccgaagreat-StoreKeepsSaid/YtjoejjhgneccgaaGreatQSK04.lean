/- What the functions of package page come to. -/
import Derived.Test.YtjoejjhgneccgaaGreatQSK03
import Derived.RangeFuncNested
import Derived.RangeFuncBound
import Derived.RangeFuncCalls
import Derived.RangeFuncLeaves
import Derived.Shelf.Abstract
import Derived.Shelf.RegionOpen
import Derived.OwnWalkIn
import Derived.TacticsInMore
import Derived.LoopNIn
import Derived.LoopIn
namespace Go.Proofs.YtjoejjhgneccgaaGreat
open Go.RowKit

set_option maxHeartbeats 1000000 in
set_option maxRecDepth 100000 in
theorem pkind_any {w : World} {t k : Nat} {ks : List Int} (h : Tx w t k ks) (p : Int) :
    Calls Tryz.prog 94 #[.pointer (some ⟨t, 0, none⟩), .int .i64 p] w fun e w' => e = .returned (.int .i64 (kindL ks p)) ∧ w = w' := by
  obtain ⟨-, c1⟩ := h.cells
  have hle := h.le
  by_cases h0 : p < 0
  · have hs := Lib.hid (kindL_out (ks := ks) (.inl h0))
    clear h
    go_enter Tryz.func94, Tryz.ntmps94
    go_wp2_with fail
    go_ret
    exact ⟨ret_int hs.out.symm, rfl⟩
  obtain ⟨i, rfl⟩ := Int.eq_ofNat_of_zero_le (show 0 ≤ p by omega)
  by_cases h1 : ks.length ≤ i
  · have hs := Lib.hid (kindL_out (ks := ks) (p := (i : Int)) (.inr (by omega)))
    have h1' : (ks.length : Int) ≤ i := by omega
    obtain ⟨n, hn⟩ : ∃ n, n = ks.length := ⟨_, rfl⟩
    rw [← hn] at c1 h1'
    clear h h0 h1 hn hle
    go_enter Tryz.func94, Tryz.ntmps94
    go_wp2_with fail
    go_ret
    exact ⟨ret_int hs.out.symm, rfl⟩
  · have hi : i < ks.length := by omega
    have c2 := h.kind hi
    rw [kindL_in hi]
    obtain ⟨v, hv⟩ : ∃ v, v = ks.getD i 0 := ⟨_, rfl⟩
    rw [← hv] at c2 ⊢
    obtain ⟨n, hn⟩ : ∃ n, n = ks.length := ⟨_, rfl⟩
    rw [← hn] at c1 hi hle
    clear h h0 h1 hn hv
    go_enter Tryz.func94, Tryz.ntmps94
    go_wp2_with fail
    go_ret
    exact ⟨rfl, rfl⟩
def NatE (o : Option Nat) (e : Ending) : Prop := e = .returned (.int .i64 (match o with | some m => (m : Int) | none => -1))
set_option maxHeartbeats 1000000 in
set_option maxRecDepth 100000 in
theorem index0_any {w : World} {t k : Nat} {ks : List Int} (h : Tx w t k ks) (c : Nat) :
    Calls Tryz.prog 95 #[.slice (some ⟨k, 0, none⟩) ks.length c, .int .i64 0] w fun e w' => NatE (idx0 ks) e ∧ w = w' := by
  have hle := h.le
  have H := Lib.hid h
  obtain ⟨n, hn⟩ : ∃ n, n = ks.length := ⟨_, rfl⟩
  rw [← hn]
  rw [← hn] at hle
  have HN := Lib.hid hn
  clear h hn
  go_enter Tryz.func95, Tryz.ntmps95
  go_wp2_with fail
  go_loop [8] (fun a => ∃ i : Nat, i ≤ n ∧ a = .int .i64 i ∧ Hid (∀ j, j < i → ks.getD j 0 ≠ 0)) (fun a => n - (intOf a).toNat)
  case atStart => exact ⟨0, Nat.zero_le _, rfl, Lib.hid (fun j hj => by omega)⟩
  case round =>
    obtain ⟨i, hi, rfl, HJ⟩ := hrel
    by_cases hlt : i < n
    · have c2 := H.out.kind (i := i) (by rw [← HN.out]; exact hlt)
      obtain ⟨v, hv⟩ : ∃ v, v = ks.getD i 0 := ⟨_, rfl⟩
      rw [← hv] at c2
      by_cases h0 : v = 0
      · have HR := Lib.hid (idx0_some (ks := ks) (m := i) (by rw [← HN.out]; exact hlt) (by rw [← hv]; exact h0) HJ.out)
        subst h0
        clear hv HJ
        go_wp2_with fail
        go_ret
        exact ⟨by rw [HR.out]; rfl, rfl⟩
      · have h0' : ((0 : Int) == v) = false := by simp; omega
        have HJ' := Lib.hid (show ∀ j, j < i + 1 → ks.getD j 0 ≠ 0 from fun j hj => by
          by_cases e : j = i
          · rw [e, ← hv]; exact h0
          · exact HJ.out j (by omega))
        clear hv HJ h0
        go_wp2_with fail
        go_round
        case rel => exact ⟨i + 1, by omega, by go_num, HJ'⟩
        case measure => simp [intOf]; omega
    · obtain rfl : i = n := by omega
      have HR := Lib.hid (idx0_none (ks := ks) (by rw [← HN.out]; exact HJ.out))
      clear hi hlt HJ
      go_wp2_with fail
      go_ret
      exact ⟨by rw [HR.out]; rfl, rfl⟩
/-- What taking a page of a class answers, and leaves. -/
def takeT (ks : List Int) (c : Int) : Option Nat := if sizeI c = 0 then none else idx0 ks
def TakeE (o : Option Nat) (e : Ending) : Prop := e = .returned (.tuple #[.int .i64 (match o with | some m => (m : Int) | none => 0), .bool o.isSome])
def takeK (ks : List Int) (c : Int) : List Int := match takeT ks c with | some m => ks.set m c | none => ks
theorem idx0_lt : ∀ {ks : List Int} {m : Nat}, idx0 ks = some m → m < ks.length
  | [], m, h => by simp [idx0] at h
  | x :: xs, m, h => by
    unfold idx0 at h
    split at h
    · simp at h; simp; omega
    · cases h1 : idx0 xs with
      | none => rw [h1] at h; simp at h
      | some j =>
        rw [h1] at h
        have := idx0_lt h1
        simp at h
        simp; omega
set_option maxHeartbeats 1000000 in
set_option maxRecDepth 100000 in
theorem ptake_any {w : World} {t k : Nat} {ks : List Int} (h : Tx w t k ks) (c : Int) :
    Calls Tryz.prog 82 #[.pointer (some ⟨t, 0, none⟩), .int .i64 c] w fun e w' => TakeE (takeT ks c) e ∧ Tx w' t k (takeK ks c) ∧ Frm [k] w w' := by
  obtain ⟨-, c1⟩ := h.cells
  have H := Lib.hid h
  have F0 := Lib.hid (Frm.refl [k] w)
  by_cases hz : sizeI c = 0
  · have h1 : (sizeI c == 0) = true := by simp [hz]
    have hs := Lib.hid (show takeT ks c = none by unfold takeT; rw [if_pos hz])
    have hk := Lib.hid (show takeK ks c = ks by unfold takeK; rw [hs.out])
    clear h hz
    go_enter Tryz.func82, Tryz.ntmps82
    go_wp2_with (go_at_call 49; refine (size_any c _).mono ?_; rintro e w1 ⟨rfl, rfl⟩)
    go_ret2
    exact ⟨by rw [hs.out]; rfl, by rw [hk.out]; exact H.out, F0.out⟩
  have h1 : (sizeI c == 0) = false := by simp [hz]
  have hs := show takeT ks c = idx0 ks by unfold takeT; rw [if_neg hz]
  obtain ⟨n, hn⟩ : ∃ n, n = ks.length := ⟨_, rfl⟩
  rw [← hn] at c1
  have HN := Lib.hid hn
  have hle : n ≤ 64 := by rw [hn]; exact h.le
  cases hx : idx0 ks with
  | none =>
    have hs' := Lib.hid (hs.trans hx)
    have HX := Lib.hid hx
    have hk := Lib.hid (show takeK ks c = ks by unfold takeK; rw [hs'.out])
    clear h hz hs hx hn
    go_enter Tryz.func82, Tryz.ntmps82
    go_wp2_with (first | (go_at_call 49; refine (size_any c _).mono ?_; rintro e w1 ⟨rfl, rfl⟩) | (go_at_call 95; rw [HN.out]; refine (index0_any H.out _).mono ?_; rw [HX.out]; rintro e w1 ⟨rfl, rfl⟩))
    go_ret2
    exact ⟨by rw [hs'.out]; rfl, by rw [hk.out]; exact H.out, F0.out⟩
  | some m =>
    have hml := idx0_lt hx
    have hs' := Lib.hid (hs.trans hx)
    have HX := Lib.hid hx
    have hk := Lib.hid (show takeK ks c = ks.set m c by unfold takeK; rw [hs'.out])
    have c2 := h.kind hml
    have fz := frozen_of_row w k m _ _ h.row
    obtain ⟨u, hu⟩ : ∃ u, u = ks.getD m 0 := ⟨_, rfl⟩
    rw [← hu] at c2
    rw [← hn] at hml
    clear h hz hs hx hn hu
    go_enter Tryz.func82, Tryz.ntmps82
    go_wp2_with (first | (go_at_call 49; refine (size_any c _).mono ?_; rintro e w1 ⟨rfl, rfl⟩) | (go_at_call 95; rw [HN.out]; refine (index0_any H.out _).mono ?_; rw [HX.out]; rintro e w1 ⟨rfl, rfl⟩))
    go_ret2
    exact ⟨by rw [hs'.out]; rfl, by rw [hk.out]; exact H.out.put m c, Frm.setCell w (by simp) _⟩
end Go.Proofs.YtjoejjhgneccgaaGreat

/- Package page: sizes, freeing, where a page belongs to; made; cloned. -/
namespace Go.Proofs.YtjoejjhgneccgaaGreat
open Go.RowKit

set_option maxHeartbeats 1000000 in
set_option maxRecDepth 100000 in
theorem psize_any {w : World} {t k : Nat} {ks : List Int} (h : Tx w t k ks) (p : Int) :
    Calls Tryz.prog 89 #[.pointer (some ⟨t, 0, none⟩), .int .i64 p] w fun e w' => e = .returned (.int .i64 (sizeL ks p)) ∧ w = w' := by
  have H := Lib.hid h
  have hle := h.le
  by_cases h1 : 0 < sizeI (kindL ks p)
  · have hs := Lib.hid (show sizeL ks p = 1 by unfold sizeL; rw [if_pos h1])
    clear h hle
    go_enter Tryz.func89, Tryz.ntmps89
    go_wp2_with (first | (go_at_call 94; refine (pkind_any H.out _).mono ?_; rintro e w1 ⟨rfl, rfl⟩) | (go_at_call 49; refine (size_any _ _).mono ?_; rintro e w1 ⟨rfl, rfl⟩))
    go_ret
    exact ⟨ret_int hs.out.symm, rfl⟩
  by_cases h5 : kindL ks p = 5
  · have hs := show sizeL ks p = 1 + (run6 ks (p.toNat + 1) : Int) by unfold sizeL; rw [if_neg h1, if_neg (by simpa using h5)]
    have hin : 0 ≤ p := by
      apply Decidable.byContradiction; intro hc
      rw [kindL_out (.inl (by omega))] at h5; omega
    obtain ⟨i, rfl⟩ := Int.eq_ofNat_of_zero_le hin
    rw [Int.toNat_natCast] at hs
    have h5' : (kindL ks i != 5) = false := by simp [h5]
    have HS := Lib.hid hs
    have hil : i < ks.length := by
      apply Decidable.byContradiction; intro hc
      rw [kindL_out (.inr (by omega))] at h5; omega
    obtain ⟨n, hn⟩ : ∃ n, n = ks.length := ⟨_, rfl⟩
    rw [← hn] at hil hle
    have HN := Lib.hid hn
    clear h hs hin h5 hn
    go_enter Tryz.func89, Tryz.ntmps89
    go_wp2_with (first | (go_at_call 94; refine (pkind_any H.out _).mono ?_; rintro e w1 ⟨rfl, rfl⟩) | (go_at_call 49; refine (size_any _ _).mono ?_; rintro e w1 ⟨rfl, rfl⟩))
    go_loop [6] (fun a => ∃ m : Nat, 1 ≤ m ∧ i + m ≤ n ∧ a = .int .i64 m ∧ Hid (1 + run6 ks (i + 1) = m + run6 ks (i + m))) (fun a => n - (intOf a).toNat)
    case atStart => exact ⟨1, Nat.le_refl _, hil, rfl, Lib.hid rfl⟩
    case round =>
      obtain ⟨m, hm, hml, rfl, HR⟩ := hrel
      have e1 : ((i : Int) + (m : Int)) = ((i + m : Nat) : Int) := by omega
      by_cases h6 : kindL ks ((i + m : Nat) : Int) = 6
      · have hlt : i + m < n := by
          apply Decidable.byContradiction; intro hc
          rw [kindL_out (.inr (by rw [← HN.out]; omega))] at h6; omega
        have h6' : (kindL ks ((i : Int) + (m : Int)) == 6) = true := by rw [e1]; exact beq_iff_eq.2 h6
        have HR' := Lib.hid (show 1 + run6 ks (i + 1) = (m + 1) + run6 ks (i + (m + 1)) by rw [HR.out, run6_step h6, ← Nat.add_assoc i m 1]; omega)
        clear h6 HR e1
        go_wp2_with (go_at_call 94; refine (pkind_any H.out _).mono ?_; rintro e w1 ⟨rfl, rfl⟩)
        go_round
        case rel => exact ⟨m + 1, by omega, by omega, by go_num, HR'⟩
        case measure => simp [intOf]; omega
      · have h6' : (kindL ks ((i : Int) + (m : Int)) == 6) = false := by rw [e1]; exact beq_eq_false_iff_ne.2 h6
        have HR' := Lib.hid (show sizeL ks i = m by rw [HS.out]; have := HR.out; rw [run6_stop h6] at this; omega)
        clear h6 HR e1
        go_wp2_with (go_at_call 94; refine (pkind_any H.out _).mono ?_; rintro e w1 ⟨rfl, rfl⟩)
        go_ret
        exact ⟨ret_int HR'.out.symm, rfl⟩
  · have hs := Lib.hid (show sizeL ks p = 0 by unfold sizeL; rw [if_neg h1, if_pos (by simpa using h5)])
    have h5' : (kindL ks p != 5) = true := by simpa using h5
    clear h hle h5
    go_enter Tryz.func89, Tryz.ntmps89
    go_wp2_with (first | (go_at_call 94; refine (pkind_any H.out _).mono ?_; rintro e w1 ⟨rfl, rfl⟩) | (go_at_call 49; refine (size_any _ _).mono ?_; rintro e w1 ⟨rfl, rfl⟩))
    go_ret
    exact ⟨ret_int hs.out.symm, rfl⟩
set_option maxHeartbeats 1000000 in
set_option maxRecDepth 100000 in
theorem pfree_any {w : World} {t k : Nat} {ks : List Int} (h : Tx w t k ks) (p : Int) :
    Calls Tryz.prog 71 #[.pointer (some ⟨t, 0, none⟩), .int .i64 p] w fun e w' => e = .returned (.int .i64 (sizeL ks p)) ∧ Tx w' t k (freeL ks p) ∧ Frm [k] w w' := by
  have H := Lib.hid h
  have F0 := Lib.hid (Frm.refl [k] w)
  have hb := sizeL_bd ks p
  have hle := h.le
  obtain ⟨n, hn⟩ := Int.eq_ofNat_of_zero_le hb.1
  by_cases h0 : n = 0
  · subst h0
    have HS := Lib.hid hn
    have HF := Lib.hid (show freeL ks p = ks by unfold freeL; rw [hn]; rfl)
    clear h hb hle hn
    go_enter Tryz.func71, Tryz.ntmps71
    go_wp2_with (go_at_call 89; refine (psize_any H.out _).mono ?_; rw [HS.out]; rintro e w1 ⟨rfl, rfl⟩)
    go_loop [11] (fun a => a = .int .i64 0) (fun _ => 0)
    case atStart => rfl
    case round =>
      obtain rfl := hrel
      go_wp2_with fail
      go_ret
      exact ⟨by rw [HS.out]; rfl, by rw [HF.out]; exact H.out, F0.out⟩
  · have hin := sizeL_in (ks := ks) (p := p) (by omega)
    obtain ⟨i, rfl⟩ := Int.eq_ofNat_of_zero_le hin.1
    have hil : i + n ≤ ks.length := by omega
    have HS := Lib.hid hn
    have HF := Lib.hid (show freeL ks i = fillL ks i n 0 by unfold freeL; rw [hn]; rfl)
    have hn64 : n ≤ 65 := by omega
    have hi64 : i ≤ 64 := by omega
    have HI := Lib.hid hil
    clear h hb hle hn hin h0 hil
    go_enter Tryz.func71, Tryz.ntmps71
    go_wp2_with (go_at_call 89; refine (psize_any H.out _).mono ?_; rw [HS.out]; rintro e w1 ⟨rfl, rfl⟩)
    go_loopw [11] (fun a wr => ∃ j : Nat, j ≤ n ∧ a = .int .i64 j ∧ Hid (Tx wr t k (fillL ks i j 0)) ∧ Hid (Frm [k] w wr)) (fun a _ => n - (intOf a).toNat)
    case atStart => exact ⟨0, Nat.zero_le _, rfl, H, F0⟩
    case round =>
      clear F0
      obtain ⟨j, hj, rfl, H2, F0⟩ := hrel
      by_cases hlt : j < n
      · have hlen : i + j < (fillL ks i j 0).length := by rw [fillL_len]; have := HI.out; omega
        have cw := H2.out.kind hlen
        have fz := frozen_of_row wr k (i + j) _ _ H2.out.row
        obtain ⟨-, c1⟩ := H2.out.cells
        obtain ⟨u, hu⟩ : ∃ u, u = (fillL ks i j 0).getD (i + j) 0 := ⟨_, rfl⟩
        rw [← hu] at cw
        obtain ⟨L, hL⟩ : ∃ L, L = (fillL ks i j 0).length := ⟨_, rfl⟩
        rw [← hL] at c1 hlen
        have hL64 : L ≤ 64 := by rw [hL]; exact H2.out.le
        have q1 : (0 : Int) ≤ (i : Int) + (j : Int) := by omega
        have q2 : ((i : Int) + (j : Int)) < (L : Int) := by omega
        have q3 : ((i : Int) + (j : Int)).toNat = i + j := by omega
        clear hu hL
        go_wp2_with fail
        go_roundw
        case rel => exact ⟨j + 1, by omega, by go_num, Lib.hid (H2.out.put _ _), Lib.hid (F0.out.trans (Frm.setCell wr (by simp) _) (fun x hx => .inl hx))⟩
        case measure => simp [intOf]; omega
      · obtain rfl : j = n := by omega
        clear hj hlt
        go_wp2_with fail
        go_ret
        exact ⟨by rw [HS.out]; rfl, by rw [HF.out]; exact H2.out, F0.out⟩
set_option maxHeartbeats 1000000 in
set_option maxRecDepth 100000 in
theorem pfirst_any {w : World} {t k : Nat} {ks : List Int} (h : Tx w t k ks) (p : Int) (hp : -1 ≤ p) :
    Calls Tryz.prog 85 #[.pointer (some ⟨t, 0, none⟩), .int .i64 p] w fun e w' => e = .returned (.int .i64 (firstL ks p)) ∧ w = w' := by
  have H := Lib.hid h
  have hle := h.le
  obtain ⟨n, hn⟩ : ∃ n, n = ks.length := ⟨_, rfl⟩
  have HN := Lib.hid hn
  rw [← hn] at hle
  obtain ⟨q, hq⟩ : ∃ q, q = if p < 0 then p else downL ks p.toNat := ⟨_, rfl⟩
  have hf : firstL ks p = if sizeL ks q = 0 then -1 else q := by rw [hq]; rfl
  have HF := Lib.hid hf
  have HQ := Lib.hid hq
  have HP := Lib.hid hp
  clear h hn hf hq hp
  go_enter Tryz.func85, Tryz.ntmps85
  go_wp2_with fail
  go_loop [1] (fun a => ∃ v : Int, -1 ≤ v ∧ a = .int .i64 v ∧ Hid (q = if v < 0 then v else downL ks v.toNat)) (fun a => (intOf a + 1).toNat)
  case atStart => exact ⟨p, HP.out, rfl, HQ⟩
  case round =>
    clear HQ HP
    obtain ⟨v, hv, rfl, HV⟩ := hrel
    by_cases h6 : kindL ks v = 6
    · have hin : 0 ≤ v ∧ v < n := by
        apply Decidable.byContradiction; intro hc
        rw [kindL_out (by rw [← HN.out]; omega)] at h6; omega
      obtain ⟨i, rfl⟩ := Int.eq_ofNat_of_zero_le hin.1
      have hi : (i : Int) < n := hin.2
      have HV' := Lib.hid (show q = if ((i : Int) - 1) < 0 then ((i : Int) - 1) else downL ks ((i : Int) - 1).toNat by
        rw [HV.out, if_neg (by omega), Int.toNat_natCast]
        cases i with
        | zero => rw [downL_zero h6]; rfl
        | succ i =>
          have e : ((i + 1 : Nat) : Int) - 1 = (i : Int) := by omega
          rw [downL_step h6, e, if_neg (by omega), Int.toNat_natCast])
      have h6' : (kindL ks (i : Int) == 6) = true := by simp [h6]
      clear h6 hin HV
      go_wp2_with (go_at_call 94; refine (pkind_any H.out _).mono ?_; rintro e w1 ⟨rfl, rfl⟩)
      go_round
      case rel => exact ⟨(i : Int) - 1, by omega, rfl, HV'⟩
      case measure => simp [intOf]
    · have h6' : (kindL ks v == 6) = false := by simp [h6]
      have hq : q = v := by
        rw [HV.out]
        split
        · rfl
        · obtain ⟨i, rfl⟩ := Int.eq_ofNat_of_zero_le (show 0 ≤ v by omega)
          exact downL_stop h6
      subst hq
      clear h6 HV
      by_cases hz : sizeL ks q = 0
      · have hz' : (sizeL ks q == 0) = true := by simp [hz]
        have HR := Lib.hid (show firstL ks p = -1 by rw [HF.out, if_pos hz])
        clear hz
        go_wp2_with (first | (go_at_call 94; refine (pkind_any H.out _).mono ?_; rintro e w1 ⟨rfl, rfl⟩) | (go_at_call 89; refine (psize_any H.out _).mono ?_; rintro e w1 ⟨rfl, rfl⟩))
        go_ret
        exact ⟨ret_int HR.out.symm, rfl⟩
      · have hz' : (sizeL ks q == 0) = false := by simp [hz]
        have HR := Lib.hid (show firstL ks p = q by rw [HF.out, if_neg hz])
        clear hz
        go_wp2_with (first | (go_at_call 94; refine (pkind_any H.out _).mono ?_; rintro e w1 ⟨rfl, rfl⟩) | (go_at_call 89; refine (psize_any H.out _).mono ?_; rintro e w1 ⟨rfl, rfl⟩))
        go_ret
        exact ⟨ret_int HR.out.symm, rfl⟩
set_option maxHeartbeats 1000000 in
set_option maxRecDepth 100000 in
theorem iclone_any {w : World} {b : Nat} {xs : List Int} {T : TypeId} (h : w.heap[b]? = some (.cells (ints xs) T (0, 0))) (c : Nat) (hn : xs.length ≤ 1000000) :
    Calls Tryz.prog 67 #[.slice (some ⟨b, 0, none⟩) xs.length c] w fun e w' => (∃ s', e = .returned s' ∧ IRow w.heap.size w' s' xs) ∧ Below w.heap.size w w' := by
  obtain ⟨i0, hi, hz0, hz1, hz2⟩ := info_parts info_num
  have hi := Lib.hid hi
  have hz0 := Lib.hid hz0
  have hz1 := Lib.hid hz1
  have hz2 := Lib.hid hz2
  have q := fun a l c => eql_slice_nil0 66 3 a l c Tryz.underlying66
  have B1 := Lib.hid (below_alloc0 w (.cells #[] 3))
  have HN := Lib.hid hn
  have H := Lib.hid h
  have HO := Lib.hid (ints_one xs)
  obtain ⟨n, hl⟩ : ∃ n, n = xs.length := ⟨_, rfl⟩
  rw [← hl]
  have HL := Lib.hid hl
  clear hn h hl
  go_enter Tryz.func67, Tryz.ntmps67
  go_wp2_with (at_builtin; refine wpList_append_own _ rfl _ _ 66 rfl w.heap.size 3 i0 (.int .i64 0) 1 8 Tryz.underlying66 hi.out hz0.out hz1.out hz2.out rfl (by decide) _ 0 [] rfl (own_new [] w.heap.size 0 rfl (Nat.le_refl _) rfl (Nat.zero_le _)) ⟨b, 0, none⟩ n c (xs.map (Value.int .i64)) rfl (by rw [HL.out]; simp) (ints_news (keep B1.out H.out)) HO.out (by have := HN.out; rw [HL.out]; unfold maxLen; omega) (by have := HN.out; rw [HL.out]; omega) (by simp) ?_; intro v' w1 hown' hgrow _)
  go_ret
  refine ⟨⟨_, rfl, ?_⟩, B1.out.grown hgrow B1.out.size (fun j hj => by cases hj; exact Nat.le_refl _)⟩
  unfold IRow
  rw [Nat.zero_add, List.nil_append, HL.out] at hown'
  exact hown'
theorem pall_any {w : World} {t k : Nat} {ks : List Int} (h : Tx w t k ks) :
    Calls Tryz.prog 39 #[.pointer (some ⟨t, 0, none⟩)] w fun e w' => (∃ s', e = .returned s' ∧ IRow w.heap.size w' s' ks) ∧ Below w.heap.size w w' := by
  have H := Lib.hid h
  obtain ⟨-, c1⟩ := h.cells
  have HL := Lib.hid (show ks.length ≤ 1000000 by have := h.le; omega)
  clear h
  go_enter Tryz.func39, Tryz.ntmps39
  go_wp2_with (go_at_call 67; refine (iclone_any H.out.row _ HL.out).mono ?_; rintro e w1 ⟨⟨s, rfl, hr⟩, hb⟩)
  go_ret
  exact ⟨⟨_, rfl, hr⟩, hb⟩
theorem make_ints (n : Nat) (hn : n ≤ 1000000) (w : World) : (Instr.makeSlice 66 (.int .i64 (n : Int)) (.int .i64 (n : Int))).run Tryz.prog w = .ok (.slice (some ⟨w.heap.size, 0, none⟩) n n) (w.alloc (.cells (ints (List.replicate n 0)) 3)) := by
  obtain ⟨i0, hi, hz0, hz1, hz2⟩ := info_parts info_num
  have h := run_make (P := Tryz.prog) w 66 3 i0 _ Tryz.underlying66 hi hz0 .i64 .i64 n n (by omega) (by omega) (by rw [hz2]; omega) (by omega)
  rw [hz1] at h
  have e : madeCells #[Value.int .i64 0] (n * 1) = ints (List.replicate n 0) := by
    unfold ints
    rw [List.map_replicate]
    apply Array.ext
    · simp [madeCells]
    · intro i h1 h2
      simp only [madeCells, Array.getElem_map, Array.getElem_range, List.getElem_toArray, List.getElem_replicate]
      show (#[Value.int .i64 0])[i % 1]! = _
      rw [Nat.mod_one]; rfl
  rw [← e]
  exact h
set_option maxRecDepth 100000 in
theorem pnew_any (n : Int) (w : World) :
    Calls Tryz.prog 38 #[.int .i64 n] w fun e w' => e = .returned (.pointer (some ⟨w.heap.size + 1, 0, none⟩)) ∧ Tx w' (w.heap.size + 1) w.heap.size (List.replicate (clampN n 0 64).toNat 0) ∧ Below w.heap.size w w' := by
  have hb := clampN_bd (a := n) (lo := 0) (hi := 64) (by omega)
  obtain ⟨k, hk⟩ := Int.eq_ofNat_of_zero_le hb.1
  have HK := Lib.hid hk
  have hk64 : k ≤ 64 := by omega
  have mk := make_ints k (by omega)
  obtain ⟨R, hR⟩ : ∃ R, R = ints (List.replicate k 0) := ⟨_, rfl⟩
  rw [← hR] at mk
  have HR := Lib.hid hR
  clear hk hb hR
  go_enter Tryz.func38, Tryz.ntmps38
  go_wp2_with (go_at_call 42; refine (clampn_any n 0 64 _).mono ?_; rw [HK.out]; rintro e w' ⟨rfl, rfl⟩)
  go_ret
  rw [HK.out, Int.toNat_natCast]
  refine ⟨rfl, ⟨?_, ?_, by simpa using hk64⟩, ?_⟩
  · rw [List.length_replicate]
    exact alloc_at _ _ (by simp)
  · rw [← HR.out]
    exact keep_alloc _ (heap_alloc_new w _)
  · exact (below_alloc0 _ _).alloc (by simp) _
end Go.Proofs.YtjoejjhgneccgaaGreat

/- Package page: the runs of free pages, one by one. -/
namespace Go.Proofs.YtjoejjhgneccgaaGreat
open Go.RowKit Go.Shelf
attribute [local go_sem] Oper.semAt_some

/-- What is still to come. -/
def restL (ks : List Int) (p n : Nat) : List (Nat × Nat) := if p ≤ ks.length then runsFrom (ks.drop p) p n else []
theorem restL_start (ks : List Int) : runsL ks = restL ks 0 0 := by unfold restL runsL; rw [if_pos (Nat.zero_le _), List.drop_zero]
theorem restL_free {ks : List Int} {p n : Nat} (h : kindL ks p = 0) : restL ks p n = restL ks (p + 1) (n + 1) ∧ p < ks.length := by
  have hl : p < ks.length := by
    apply Decidable.byContradiction; intro hc
    rw [kindL_out (.inr (by omega))] at h; omega
  rw [kindL_in hl, List.getD_eq_getElem?_getD, List.getElem?_eq_getElem hl] at h
  unfold restL
  rw [if_pos (by omega), if_pos (by omega), List.drop_eq_getElem_cons hl, runsFrom, if_pos (by simpa using h)]
  exact ⟨rfl, hl⟩
theorem restL_none {ks : List Int} {p : Nat} (h : kindL ks p ≠ 0) (hp : p ≤ ks.length) : restL ks p 0 = restL ks (p + 1) 0 := by
  unfold restL
  by_cases hl : p < ks.length
  · rw [kindL_in hl, List.getD_eq_getElem?_getD, List.getElem?_eq_getElem hl] at h
    rw [if_pos (by omega), if_pos (by omega), List.drop_eq_getElem_cons hl, runsFrom, if_neg (by simpa using h), if_neg (by omega)]
  · rw [if_pos hp, if_neg (by omega), List.drop_of_length_le (by omega)]
    rfl
theorem restL_some {ks : List Int} {p n : Nat} (h : kindL ks p ≠ 0) (hp : p ≤ ks.length) (hn : 0 < n) : restL ks p n = (p - n, n) :: restL ks (p + 1) 0 := by
  unfold restL
  by_cases hl : p < ks.length
  · rw [kindL_in hl, List.getD_eq_getElem?_getD, List.getElem?_eq_getElem hl] at h
    rw [if_pos (by omega), if_pos (by omega), List.drop_eq_getElem_cons hl, runsFrom, if_neg (by simpa using h), if_pos hn]
  · rw [if_pos hp, if_neg (by omega), List.drop_of_length_le (by omega), runsFrom, if_pos hn]
theorem restL_end {ks : List Int} {p n : Nat} (hp : ks.length < p) : restL ks p n = [] := by unfold restL; rw [if_neg (by omega)]
def encR (x : Nat × Nat) : Array Value := #[.int .i64 x.1, .int .i64 x.2]
set_option maxRecDepth 100000 in
set_option maxHeartbeats 4000000 in
/-- The iterator: for each body that leaves the table as it is, as long as it goes on. -/
theorem runs_in (n : Nat) (hn : 2 ≤ n) (l t k : Nat) (ks : List Int) (J Jx : List (Nat × Nat) → World → Prop) (hT : ∀ pre W, J pre W → Tx W t k ks)
    (hY : ∀ pre x rest W, J pre W → runsL ks = pre ++ x :: rest → YieldAt Fence.wide (n - 1) Tryz.prog l (encR x) W fun e W' =>
      (e = .returned (.bool true) ∧ J (pre ++ [x]) W') ∨ (e = .returned (.bool false) ∧ Jx (pre ++ [x]) W'))
    (W : World) (h0 : J [] W) :
    CallsIn Fence.wide n Tryz.prog 77 #[.pointer (some ⟨t, 0, none⟩), .func (.yield l) #[] #[]] W fun e W' => (∃ v, e = .returned v) ∧
      (J (runsL ks) W' ∨ (∃ pre, Jx pre W')) := by
  have hlen := (hT _ _ h0).le
  obtain ⟨m, hm⟩ : ∃ m, m = ks.length := ⟨_, rfl⟩
  rw [← hm] at hlen
  obtain ⟨-, c1⟩ := (hT _ _ h0).cells
  rw [← hm] at c1
  have HM := Lib.hid hm
  have H0 := Lib.hid h0
  have HT := Lib.hid hT
  have HY := Lib.hid hY
  clear hm h0 hT hY
  refine callsIn_of_wp Tryz.func77 rfl trivial ?_ rfl
  simp only [Tryz.ntmps77, List.size_toArray, List.length_cons, List.length_nil, Nat.reduceAdd, Nat.reduceSub, Array.replicate_succ, Array.replicate_zero, List.push_toArray, List.append_toArray, List.nil_append, List.cons_append]
  gi_wp2
  gi_loopw [4, 14] (fun a b wr => ∃ (p q : Nat) (pre : List (Nat × Nat)), p ≤ m + 1 ∧ q ≤ p ∧ a = .int .i64 q ∧ b = .int .i64 p ∧ Hid (runsL ks = pre ++ restL ks p q) ∧ Hid (J pre wr)) (fun _ b _ => m + 1 - (intOf b).toNat)
  case atStart => exact ⟨0, 0, [], Nat.zero_le _, Nat.le_refl _, rfl, rfl, Lib.hid (restL_start ks), H0⟩
  case round =>
    clear H0 c1
    obtain ⟨p, q, pre, hp, hq, rfl, rfl, HR, HJ⟩ := hrel
    by_cases hpm : p = m + 1
    · subst hpm
      have HE := Lib.hid (show runsL ks = pre by rw [HR.out, restL_end (by rw [← HM.out]; omega), List.append_nil])
      gi_wp2
      go_end0
      exact ⟨⟨_, rfl⟩, .inl (by rw [HE.out]; exact HJ.out)⟩
    · have hple : p ≤ m := by omega
      have HX := Lib.hid (HT.out _ _ HJ.out)
      by_cases hk : kindL ks p = 0
      · obtain ⟨he, hl⟩ := restL_free (n := q) hk
        have hk0 : (kindL ks (p : Int) == 0) = true := beq_iff_eq.2 hk
        have HR' := Lib.hid (show runsL ks = pre ++ restL ks (p + 1) (q + 1) by rw [HR.out, he])
        clear hk he hl HR
        gi_wp2_with (refine ⟨trivial, fun _ => Nat.le_trans (by decide) hn, ?_⟩; gi_at_call 94; refine (callsIn_wide.2 (pkind_any HX.out _)).mono ?_; rintro e w1 ⟨rfl, rfl⟩)
        go_roundw
        case rel => exact ⟨p + 1, q + 1, pre, by omega, by omega, by go_num, by go_num, HR', HJ⟩
        case measure => simp [intOf]; omega
      · have hk0 : (kindL ks (p : Int) == 0) = false := beq_eq_false_iff_ne.2 hk
        have hpl : p ≤ ks.length := by rw [← HM.out]; exact hple
        by_cases hq0 : q = 0
        · subst hq0
          have HR' := Lib.hid (show runsL ks = pre ++ restL ks (p + 1) 0 by rw [HR.out, restL_none hk hpl])
          clear hk hpl HR
          gi_wp2_with (refine ⟨trivial, fun _ => Nat.le_trans (by decide) hn, ?_⟩; gi_at_call 94; refine (callsIn_wide.2 (pkind_any HX.out _)).mono ?_; rintro e w1 ⟨rfl, rfl⟩)
          refine ⟨fun _ h => (by cases h), ?_⟩
          gi_wp2
          go_roundw
          case rel => exact ⟨p + 1, 0, pre, by omega, by omega, rfl, by go_num, HR', HJ⟩
          case measure => simp [intOf]; omega
        · have hq1 : 0 < q := by omega
          have hrs := restL_some hk hpl hq1
          have HR' := Lib.hid (show runsL ks = (pre ++ [(p - q, q)]) ++ restL ks (p + 1) 0 by rw [HR.out, hrs]; simp)
          obtain ⟨fn, tmps, assign, body, hy, hR⟩ := HY.out pre (p - q, q) (restL ks (p + 1) 0) wr HJ.out (by rw [HR.out, hrs])
          unfold encR at hy
          rw [show ((p - q : Nat) : Int) = (p : Int) - (q : Int) by omega] at hy
          have hq1' : (0 : Int) < (q : Int) := by omega
          clear hk hpl HR hq0 hrs
          gi_wp2_with (refine ⟨trivial, fun _ => Nat.le_trans (by decide) hn, ?_⟩; gi_at_call 94; refine (callsIn_wide.2 (pkind_any HX.out _)).mono ?_; rintro e w1 ⟨rfl, rfl⟩)
          refine ⟨fun _ => Nat.le_trans (by decide) hn, ?_⟩
          refine hR.mono ?_
          rintro e W3 (⟨rfl, hJ3⟩ | ⟨rfl, hJx3⟩)
          · have HJ3 := Lib.hid hJ3
            clear hJ3
            gi_wp2
            go_roundw
            case rel => exact ⟨p + 1, 0, pre ++ [(p - q, q)], by omega, by omega, rfl, by go_num, HR', HJ3⟩
            case measure => simp [intOf]; omega
          · have HJx3 := Lib.hid hJx3
            clear hJx3
            gi_wp2
            refine bodyPost_ret (results_none rfl _ _ _) rfl ?_
            exact ⟨⟨_, rfl⟩, .inr ⟨_, HJx3.out⟩⟩
/-- 'for p, long := range t.runs': whatever the body does, if it leaves the table as it is as long as it goes on. -/
theorem runs_range {g : Operand} {p1 p2 : Tmp} {assign body : Code} {Q : Exit → Act → World → Prop} {a : Act} {w : World} (n : Nat) (hn : 4 ≤ n) (t k : Nat) (ks : List Int)
    (hg : a.eval g = .func (.func 77) #[.pointer (some ⟨t, 0, none⟩)] #[])
    (I : List (Nat × Nat) → World → Prop) (Ix : Code → List (Nat × Nat) → World → Prop) (hT : ∀ pre W, I pre W → Tx W t k ks)
    (hI : ∀ pre W l o o', I pre W → w.heap.size ≤ l → W.heap[l]? = some o → o.isCells = false → I pre (W.putObj l o'))
    (hIx : ∀ c pre W l o o', Ix c pre W → w.heap.size ≤ l → W.heap[l]? = some o → o.isCells = false → Ix c pre (W.putObj l o'))
    (hIa : ∀ W o, I [] W → I [] (W.alloc o)) (h0 : I [] w) (a₁ : Nat × Nat → Act)
    (hassign : ∀ (l : Nat) (x : Nat × Nat) (W : World) (K : Act → World → Prop), K (a₁ x) W →
      assign.wpIn (Fence.wide.inRound l) (n - 1 - 1) Tryz.prog (Exit.then K (fun _ _ _ => False)) { tmps := ((#[p1, p2]).zip (encR x)).foldl (fun t (p, v) => t.setIfInBounds p v) a.tmps, defers := [] } W)
    (hbody : ∀ (l : Nat) (pre : List (Nat × Nat)) (x : Nat × Nat) (rest : List (Nat × Nat)) (W : World), I pre W → runsL ks = pre ++ x :: rest →
      body.wpIn (Fence.wide.inRound l) (n - 1 - 1) Tryz.prog (ownPostK (fun _ _ => True) I Ix (pre ++ [x]) W) (a₁ x) W)
    (hdone : ∀ (D : Nat) (W : World), w.heap.size ≤ D → I (runsL ks) W → W.heap[D]? = some (.deferred (some [])) → Q .normal { a with defers := { target := .collected D, args := #[] } :: a.defers } W)
    (hstop : ∀ (D : Nat) (c : Code) (pre : List (Nat × Nat)) (W : World), w.heap.size ≤ D → Ix c pre W → W.heap[D]? = some (.deferred (some [])) → c.wpIn Fence.wide n Tryz.prog Q { a with defers := { target := .collected D, args := #[] } :: a.defers } W) :
    (Code.rangeFunc g #[p1, p2] assign body).wpIn Fence.wide n Tryz.prog Q a w := by
  refine wpIn_rangeFunc fun fn _ => ?_
  let rc : LoopState → Option Code → Loop := fun st pe => { state := st, pending := pe, fn, tmps := a.tmps, params := #[p1, p2], assign, body, defers := w.heap.size }
  obtain ⟨rec, hrec⟩ : ∃ r, r = rc := ⟨_, rfl⟩
  obtain ⟨V, hV⟩ : ∃ V, V = (w.alloc (.deferred (some []))).alloc (.loop (rec .ready none)) := ⟨_, rfl⟩
  have vL : V.heap[w.heap.size + 1]? = some (.loop (rec .ready none)) := by rw [hV]; exact alloc_at _ _ (by simp)
  have vD : V.heap[w.heap.size]? = some (.deferred (some [])) := by rw [hV]; exact keep_alloc _ (heap_alloc_new w _)
  have vI : I [] V := by rw [hV]; exact hIa _ _ (hIa _ _ h0)
  refine ⟨w.heap.size + 1, [{ target := .collected w.heap.size, args := #[] }], V, { target := .fn (.func 77) #[], args := #[.pointer (some ⟨t, 0, none⟩), .func (.yield (w.heap.size + 1)) #[] #[]] }, V, 77,
    #[.pointer (some ⟨t, 0, none⟩), .func (.yield (w.heap.size + 1)) #[] #[]], V, ?_, ?_, fun _ _ => trivial, ?_, fun _ => Nat.le_trans (by decide) hn, ?_⟩
  · rw [hV, hrec]; exact run_enterLoop_outer _ _ _ _ _
  · simp only [resolve, hg]
    simp [go_sem]
  · simp [invoke, go_sem]
  · refine (runs_in (n - 1) (by omega) (w.heap.size + 1) t k ks
      (fun pre W => I pre W ∧ W.heap[w.heap.size + 1]? = some (.loop (rec .ready none)) ∧ W.heap[w.heap.size]? = some (.deferred (some [])))
      (fun pre W => ∃ c, Ix c pre W ∧ W.heap[w.heap.size + 1]? = some (.loop (rec .done (some c))) ∧ W.heap[w.heap.size]? = some (.deferred (some [])))
      (fun pre W h => hT pre W h.1) ?_ V ⟨vI, vL, vD⟩).mono ?_
    · rintro pre x rest W ⟨hi, hl, hd⟩ hx
      have hlt := heap_lt hl
      have hy := run_yield (P := Tryz.prog) (args := encR x) hl (by rw [hrec]; rfl)
      rw [hrec] at hy
      refine ⟨fn, _, assign, body, hy, roundIn_of_wpIn trivial (hassign _ x W _ ⟨_, run_beginRound hl (by rw [hrec]), ?_⟩)⟩
      obtain ⟨V2, hV2⟩ : ∃ V2, V2 = W.putObj (w.heap.size + 1) (.loop { rec .ready none with state := .busy }) := ⟨_, rfl⟩
      rw [← hV2]
      have l2 : V2.heap[w.heap.size + 1]? = some (.loop { rec .ready none with state := .busy }) := by rw [hV2]; exact World.putObj_heap_same hlt
      have d2 : V2.heap[w.heap.size]? = some (.deferred (some [])) := by rw [hV2]; exact (World.putObj_heap_other (by omega)).trans hd
      have i2 : I pre V2 := by rw [hV2]; exact hI _ _ _ _ _ hi (by omega) hl rfl
      refine wpIn_mono (hbody _ pre x rest V2 i2 hx) ?_
      have out : ∀ (j : Option Code) (V3 : World), KeepsOthers V2 V3 →
          (Instr.endRound (w.heap.size + 1) j).run Tryz.prog V3 = .ok (.bool j.isNone) (V3.putObj (w.heap.size + 1) (.loop (rec (if j.isNone then .ready else .done) j))) ∧
          V3.heap[w.heap.size + 1]? = some (.loop { rec .ready none with state := .busy }) ∧
          (V3.putObj (w.heap.size + 1) (.loop (rec (if j.isNone then .ready else .done) j))).heap[w.heap.size + 1]? = some (.loop (rec (if j.isNone then .ready else .done) j)) ∧
          (V3.putObj (w.heap.size + 1) (.loop (rec (if j.isNone then .ready else .done) j))).heap[w.heap.size]? = some (.deferred (some [])) := by
        intro j V3 k3
        have l3 := k3.same _ _ l2 rfl
        have h3 := run_endRound (P := Tryz.prog) j l3
        refine ⟨?_, l3, World.putObj_heap_same (heap_lt l3), (World.putObj_heap_other (by omega)).trans (k3.same _ _ d2 rfl)⟩
        rw [h3, hrec]
      rintro e a3 V3 hp
      cases e with
      | normal =>
        obtain ⟨k3, -, i3⟩ := hp
        obtain ⟨r3, l3, l4, d4⟩ := out none V3 k3
        exact ⟨_, _, r3, .inl ⟨rfl, hI _ _ _ _ _ i3 (by omega) l3 rfl, l4, d4⟩⟩
      | ret =>
        obtain ⟨k3, i3⟩ := hp
        obtain ⟨r3, l3, l4, d4⟩ := out (some .ret) V3 k3
        exact ⟨_, _, r3, .inr ⟨rfl, .ret, hIx _ _ _ _ _ _ i3 (by omega) l3 rfl, l4, d4⟩⟩
      | exit id =>
        obtain ⟨k3, i3⟩ := hp
        obtain ⟨r3, l3, l4, d4⟩ := out (some (.exit id)) V3 k3
        exact ⟨_, _, r3, .inr ⟨rfl, .exit id, hIx _ _ _ _ _ _ i3 (by omega) l3 rfl, l4, d4⟩⟩
      | goto id =>
        obtain ⟨k3, i3⟩ := hp
        obtain ⟨r3, l3, l4, d4⟩ := out (some (.goto id)) V3 k3
        exact ⟨_, _, r3, .inr ⟨rfl, .goto id, hIx _ _ _ _ _ _ i3 (by omega) l3 rfl, l4, d4⟩⟩
      | panic ch => exact hp.elim
      | outgrown => exact hp.elim
    · rintro e V2 ⟨⟨v, rfl⟩, (⟨hi, hl, hd⟩ | ⟨pre, c, hi, hl, hd⟩)⟩
      · have h3 := run_endLoop (P := Tryz.prog) hl (by rw [hrec]; simp [rc])
        exact ⟨none, _, by rw [h3, hrec], hdone _ _ (Nat.le_refl _) (hI _ _ _ _ _ hi (by omega) hl rfl) ((World.putObj_heap_other (by omega)).trans hd)⟩
      · have h3 := run_endLoop (P := Tryz.prog) hl (by rw [hrec]; simp [rc])
        exact ⟨some c, _, by rw [h3, hrec], hstop _ c pre _ (Nat.le_refl _) (hIx _ _ _ _ _ _ hi (by omega) hl rfl) ((World.putObj_heap_other (by omega)).trans hd)⟩
end Go.Proofs.YtjoejjhgneccgaaGreat
