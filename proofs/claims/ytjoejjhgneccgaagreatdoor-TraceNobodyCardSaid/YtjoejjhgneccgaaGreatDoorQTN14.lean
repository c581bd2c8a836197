/- Cells and their reference: so many free pages are found at the same place. -/
import Derived.Test.YtjoejjhgneccgaaGreatDoorQTN02
import Derived.Test.YtjoejjhgneccgaaGreatDoorQTN05
import Derived.Test.YtjoejjhgneccgaaGreatDoorQTN07
import Derived.Test.YtjoejjhgneccgaaGreatDoorQTN13
import Derived.Deep.AppendSrc
namespace Go.Proofs.YtjoejjhgneccgaaGreatDoor
open Go.RowKit

def Fnd (ks : List Int) (m : Int) (s : Nat) (o : Option (Nat × Nat)) : Prop :=
  (∀ r, o = some r → s ≤ r.1 ∧ r.1 < ks.length ∧ m ≤ (run0 ks r.1 : Int) ∧ ∀ j, s ≤ j → j < r.1 → (run0 ks j : Int) < m) ∧ (o = none → ∀ j, s ≤ j → j < ks.length → (run0 ks j : Int) < m)
theorem Fnd.more {ks : List Int} {m : Int} {s t : Nat} {o : Option (Nat × Nat)} (h : Fnd ks m t o) (hst : s ≤ t) (hj : ∀ j, s ≤ j → j < t → (run0 ks j : Int) < m) : Fnd ks m s o := by
  refine ⟨fun r hr => ?_, fun hn j h1 h2 => ?_⟩
  · obtain ⟨h1, h2, h3, h4⟩ := h.1 r hr
    refine ⟨by omega, h2, h3, fun j hs hlt => ?_⟩
    by_cases hc : j < t
    · exact hj j hs hc
    · exact h4 j (by omega) hlt
  · by_cases hc : j < t
    · exact hj j h1 hc
    · exact h.2 hn j (by omega) h2
theorem Fnd.here {ks : List Int} {m : Int} {s l : Nat} (hs : s < ks.length) (hm : m ≤ (run0 ks s : Int)) : Fnd ks m s (some (s, l)) :=
  ⟨fun r hr => by cases hr; exact ⟨Nat.le_refl _, hs, hm, fun j h1 h2 => by simp only at h2; omega⟩, fun h => by cases h⟩
theorem Fnd.end_ {ks : List Int} {m : Int} : Fnd ks m ks.length none := ⟨fun r hr => (by cases hr), fun _ j h1 h2 => (by omega)⟩
theorem runs_find (ks : List Int) (m : Int) (hm : 1 ≤ m) : ∀ (xs : List Int) (p n : Nat), ks.drop p = xs → n ≤ p → p ≤ ks.length → (∀ i, i ≤ n → run0 ks (p - i) = i + run0 ks p) → Fnd ks m (p - n) ((runsFrom xs p n).find? fun r => decide (m ≤ (r.2 : Int)))
  | [], p, n, hd, hnp, hpl, hz => by
    have hl : p = ks.length := by
      have := congrArg List.length hd
      simp at this; omega
    have h0 : run0 ks p = 0 := run0_stop (fun hc => by omega)
    unfold runsFrom
    by_cases hn : 0 < n
    · rw [if_pos hn]
      by_cases hmn : m ≤ (n : Int)
      · rw [List.find?_cons_of_pos (by simpa using hmn)]
        exact Fnd.here (by omega) (by rw [hz n (Nat.le_refl _), h0]; omega)
      · rw [List.find?_cons_of_neg (by simpa using hmn), List.find?_nil]
        refine Fnd.more (t := ks.length) Fnd.end_ (by omega) fun j h1 h2 => ?_
        have := hz (p - j) (by omega)
        rw [show p - (p - j) = j by omega] at this
        omega
    · rw [if_neg hn, List.find?_nil]
      exact Fnd.more Fnd.end_ (by omega) fun j h1 h2 => by omega
  | x :: xs, p, n, hd, hnp, hpl, hz => by
    have hlt : p < ks.length := by
      have := congrArg List.length hd
      simp at this; omega
    rw [List.drop_eq_getElem_cons hlt] at hd
    simp only [List.cons.injEq] at hd
    obtain ⟨hx, hd⟩ := hd
    have hg : ks.getD p 0 = x := by rw [List.getD_eq_getElem?_getD, List.getElem?_eq_getElem hlt]; exact hx
    unfold runsFrom
    by_cases h0 : x = 0
    · rw [if_pos h0]
      have hst := run0_step hlt (by rw [hg]; exact h0)
      have := runs_find ks m hm xs (p + 1) (n + 1) hd (by omega) (by omega) (fun i hi => by
        cases i with
        | zero => simp
        | succ i =>
          have := hz i (by omega)
          rw [show p + 1 - (i + 1) = p - i by omega, this, hst]
          omega)
      rw [show p + 1 - (n + 1) = p - n by omega] at this
      exact this
    · rw [if_neg h0]
      have hst : run0 ks p = 0 := run0_stop (fun _ => by rw [hg]; exact h0)
      have ih := runs_find ks m hm xs (p + 1) 0 hd (by omega) (by omega) (fun i hi => by
        obtain rfl : i = 0 := by omega
        simp)
      have before : ∀ j, p - n ≤ j → j < p + 1 → (n : Int) < m → (run0 ks j : Int) < m := fun j h1 h2 h3 => by
        have := hz (p - j) (by omega)
        rw [show p - (p - j) = j by omega] at this
        omega
      by_cases hn : 0 < n
      · rw [if_pos hn]
        by_cases hmn : m ≤ (n : Int)
        · rw [List.find?_cons_of_pos (by simpa using hmn)]
          exact Fnd.here (by omega) (by rw [hz n (Nat.le_refl _), hst]; omega)
        · rw [List.find?_cons_of_neg (by simpa using hmn)]
          exact Fnd.more ih (by omega) fun j h1 h2 => before j h1 (by omega) (by omega)
      · rw [if_neg hn]
        exact Fnd.more ih (by omega) fun j h1 h2 => before j h1 (by omega) (by omega)
theorem find_span (ks : List Int) (n : Int) : findL ks n = spanL ks n := by
  unfold spanL
  by_cases h1 : n < 1
  · unfold findL; rw [if_pos h1, if_pos h1]
  · rw [if_neg h1]
    have h := runs_find ks n (by omega) ks 0 0 rfl (Nat.le_refl _) (Nat.zero_le _) (fun i hi => by rw [show i = 0 by omega]; simp)
    unfold runsL
    cases hr : (runsFrom ks 0 0).find? fun r => decide (n ≤ (r.2 : Int)) with
    | none =>
      rw [hr] at h
      exact findL_none fun j hj => h.2 rfl j (by omega) hj
    | some r =>
      rw [hr] at h
      obtain ⟨_, h2, h3, h4⟩ := h.1 r rfl
      exact findL_some (by omega) h2 h3 fun j hj => h4 j (by omega) hj
end Go.Proofs.YtjoejjhgneccgaaGreatDoor

/- Cells and their reference: as many pages are free. -/
namespace Go.Proofs.YtjoejjhgneccgaaGreatDoor
open Go.RowKit

theorem runs_count : ∀ (xs : List Int) (p n : Nat), ((runsFrom xs p n).map (·.2)).sum = n + xs.countP (· == 0)
  | [], p, n => by
    unfold runsFrom
    by_cases hn : 0 < n
    · rw [if_pos hn]; simp
    · rw [if_neg hn]; simp; omega
  | x :: xs, p, n => by
    unfold runsFrom
    by_cases h0 : x = 0
    · rw [if_pos h0, runs_count xs (p + 1) (n + 1), List.countP_cons_of_pos (by simpa using h0)]
      omega
    · rw [if_neg h0, List.countP_cons_of_neg (by simpa using h0)]
      by_cases hn : 0 < n
      · rw [if_pos hn, List.map_cons, List.sum_cons, runs_count xs (p + 1) 0]
        omega
      · rw [if_neg hn, runs_count xs (p + 1) 0]
        omega
theorem cnt0_take (xs : List Int) : ∀ i, i ≤ xs.length → cnt0 xs i = (xs.take i).countP (· == 0)
  | 0, _ => by simp [cnt0]
  | i + 1, h => by
    have hlt : i < xs.length := by omega
    unfold cnt0
    rw [cnt0_take xs i (by omega), List.take_succ_eq_append_getElem hlt, List.countP_append, List.getD_eq_getElem?_getD, List.getElem?_eq_getElem hlt]
    congr 1
    by_cases h0 : xs[i] = 0
    · rw [List.countP_cons_of_pos (by simpa using h0)]
      simp [h0]
    · rw [List.countP_cons_of_neg (by simpa using h0)]
      simp [h0]
theorem count_eq (ks : List Int) : cnt0 ks ks.length = countL ks := by
  unfold countL runsL
  rw [runs_count, cnt0_take ks _ (Nat.le_refl _), List.take_length]
  omega
end Go.Proofs.YtjoejjhgneccgaaGreatDoor

/- The reference's heap: Large. -/
namespace Go.Proofs.YtjoejjhgneccgaaGreatDoor
open Go.RowKit

/-- What a call of the reference leaves: a heap of such lists. -/
def HpE (base h : Nat) (rest : List Value) (ks : List Int) (F : Nat → List Int) (n : Nat) (R : List Nat) (w' : World) : Prop := ∃ kv fv, Hp base w' h kv fv rest ks F ∧ Rows0 n R (hrows kv fv)
def LargeR (o : Option Nat) (e : Ending) : Prop := e = .returned (.int .i64 (match o with | some m => (m : Int) * 32 | none => -1))
section
variable {base h : Nat} {w : World} {kv : Value} {fv rest : List Value} {ks : List Int} {F : Nat → List Int}
set_option maxHeartbeats 1000000 in
set_option maxRecDepth 100000 in
theorem glarge_any (H0 : Hp base w h kv fv rest ks F) (hb0 : base ≤ w.heap.size) (n : Int) :
    Calls Tryz.prog 122 #[.pointer (some ⟨h, 0, none⟩), .int .i64 n] w fun e w' => LargeR (spanL ks n) e ∧ HpE base h rest (spanK ks n) F w.heap.size (hrows kv fv) w' ∧ Frm [h] w w' := by
  have H := Lib.hid H0
  have HB := Lib.hid hb0
  obtain ⟨c0, -⟩ := H0.cells
  have hkl := H0.kl
  obtain ⟨A, cap, rfl, -⟩ := H0.kr.slice
  have HL := Lib.hid (show ks.length ≤ 1000000 by omega)
  have fz : w.frozen? ⟨h, 0, none⟩ = false := frozen_of_row _ _ _ _ _ H0.hd
  cases ht : spanL ks n with
  | none =>
    have HT := Lib.hid ht
    have HK := Lib.hid (show spanK ks n = ks by unfold spanK; rw [ht])
    clear H0 ht
    go_enter Tryz.func122, Tryz.ntmps122
    go_wp2_with (go_at_call 171; refine (ffind_any H.out.kr HL.out n).mono ?_; rw [find_span, HT.out]; rintro e w' ⟨rfl, rfl⟩)
    go_ret
    exact ⟨rfl, ⟨_, _, by rw [HK.out]; exact H.out, Rows0.refl _ _⟩, Frm.refl _ _⟩
  | some p =>
    have HT := Lib.hid ht
    obtain ⟨hn1, hpl⟩ := spanL_lt ht
    obtain ⟨m, rfl⟩ := Int.eq_ofNat_of_zero_le (show 0 ≤ n by omega)
    rw [Int.toNat_natCast] at hpl
    have HK := Lib.hid (show spanK ks (m : Int) = spanR ks p m by unfold spanK; rw [ht, spanR_eq]; rfl)
    have HM := Lib.hid (show p + m ≤ 999998 by omega)
    have HL9 := Lib.hid (show ks.length ≤ 999999 by omega)
    have HL2 := Lib.hid (show (spanR ks p m).length ≤ 64 by unfold spanR; rw [setL_len, setL_len]; exact hkl)
    have p0 : (0 : Int) ≤ (p : Int) := by omega
    have p1 : (p : Int) < 64 := by omega
    clear H0 ht hpl hn1 hkl
    go_enter Tryz.func122, Tryz.ntmps122
    go_wp2_with (first
      | (go_at_call 171; refine (ffind_any H.out.kr HL.out _).mono ?_; rw [find_span, HT.out]; rintro e w' ⟨rfl, rfl⟩)
      | (go_at_call 172; refine (fspan_any H.out.kr HL9.out p m HM.out).mono ?_; rintro e w2 ⟨⟨A2, n2, q2, rfl, hr⟩, hb⟩; have R2 := Lib.hid (hr.mono HB.out); have Q2 := Lib.hid (fun g hg => (hr.oblk g hg).1); have H2 := Lib.hid (H.out.below hb); have B2 := Lib.hid hb; have fz2 : w2.frozen? ⟨h, 0, none⟩ = false := frozen_of_row _ _ _ _ _ H2.out.hd; have d2 := H2.out.cells.1; clear hr hb))
    all_goals
      go_ret
      refine ⟨rfl, ⟨_, _, by rw [HK.out]; exact H2.out.setKinds R2.out HL2.out, Rows0.kinds Q2.out (Nat.le_refl _)⟩, ?_⟩
      exact (Frm.of_below [h] B2.out).trans (Frm.setCell (fp := [h]) (p := ⟨h, 0, none⟩) _ (List.mem_singleton.2 rfl) _) (fun k hk => .inl hk)
end
end Go.Proofs.YtjoejjhgneccgaaGreatDoor

/- The reference's heap: a page's free cells are other ones. -/
namespace Go.Proofs.YtjoejjhgneccgaaGreatDoor
open Go.RowKit

theorem Hp.setFree {base : Nat} {w : World} {h : Nat} {kv v : Value} {fv rest : List Value} {ks xs : List Int} {F : Nat → List Int} (H : Hp base w h kv fv rest ks F) {p : Nat} (hp : p < 64) (hv : OffR base w v xs) : Hp base (w.setCell ⟨h, 1 + p, none⟩ v) h kv (fv.set p v) rest ks (upd F p xs) := by
  have o : ∀ k, k ≠ h → (w.setCell ⟨h, 1 + p, none⟩ v).heap[k]? = w.heap[k]? := fun k hne => heap_setCell_other _ _ _ _ (fun e => hne e)
  have hT : 56 ≠ 3 := by decide
  have hl : p < fv.length := by rw [H.fl]; exact hp
  refine ⟨?_, H.own, by rw [List.length_set]; exact H.fl, H.kr.keepAt H.hd hT o, H.kl, fun q hq => ?_⟩
  · rw [heap_setCell_same _ _ _ _ _ _ H.hd]
    congr 2
    unfold hpC
    rw [List.setIfInBounds_toArray, Nat.add_comm, List.set_cons_succ, List.set_append_left _ _ hl]
  · by_cases e : q = p
    · subst e
      rw [getD_set_same hl]
      unfold upd
      rw [if_pos rfl]
      exact hv.keep H.hd hT o
    · rw [getD_set_other (fun c => e c.symm)]
      unfold upd
      rw [if_neg e]
      exact (H.fr q hq).keep H.hd hT o
end Go.Proofs.YtjoejjhgneccgaaGreatDoor

/- The reference's heap: Carve. -/
namespace Go.Proofs.YtjoejjhgneccgaaGreatDoor
open Go.RowKit

theorem IRow.off {base : Nat} {w : World} {v : Value} {xs : List Int} (h : IRow base w v xs) (hl : xs.length ≤ 64) : OffR base w v xs := by
  obtain ⟨p, cap, e, hc, -, hr⟩ := h.slice
  refine ⟨p, xs.length, cap, e, rfl, hc, hl, fun h0 => ?_⟩
  rcases h.2 with ⟨rfl, h1⟩ | ⟨g, cap', cur, rfl, hg, hh, -⟩
  · omega
  · cases e
    refine ⟨g, 0, rfl, hg, ⟨cur, hh⟩, fun j hj => ?_⟩
    obtain ⟨b, e1, -, e3⟩ := hr j hj
    cases e1
    rw [Nat.zero_add]; exact e3
def allTo (n : Nat) : List Int := (List.range' 0 n).map Int.ofNat
theorem allTo_step (n : Nat) : allTo (n + 1) = allTo n ++ [(n : Int)] := by
  unfold allTo
  rw [List.range'_concat, List.map_append]; simp
theorem allTo_len (n : Nat) : (allTo n).length = n := by simp [allTo]
def CarveR (o : Option Nat) (e : Ending) : Prop := e = .returned (.int .i64 (match o with | some m => (m : Int) | none => -1))
def carveK (ks : List Int) (k : Int) : List Int := match takeT ks k with | some p => ks.set p k | none => ks
def carveF (ks : List Int) (F : Nat → List Int) (k : Int) : Nat → List Int := match takeT ks k with | some p => upd F p (allC k) | none => F
section
variable {base h : Nat} {w : World} {kv : Value} {fv rest : List Value} {ks : List Int} {F : Nat → List Int}
set_option maxHeartbeats 4000000 in
set_option maxRecDepth 100000 in
theorem gcarve_any (H0 : Hp base w h kv fv rest ks F) (hb0 : base ≤ w.heap.size) (k : Int) :
    Calls Tryz.prog 175 #[.pointer (some ⟨h, 0, none⟩), .int .i64 k] w fun e w' => CarveR (takeT ks k) e ∧ HpE base h rest (carveK ks k) (carveF ks F k) w.heap.size (hrows kv fv) w' ∧ Frm [h] w w' := by
  have H := Lib.hid H0
  have HB := Lib.hid hb0
  obtain ⟨c0, -⟩ := H0.cells
  have hkl := H0.kl
  obtain ⟨A, cap, rfl, -⟩ := H0.kr.slice
  have HL := Lib.hid (show ks.length ≤ 1000000 by omega)
  cases hi : idx0 ks with
  | none =>
    have HT := Lib.hid (show takeT ks k = none by unfold takeT; rw [hi]; split <;> rfl)
    have HI := Lib.hid (show findL ks 1 = none by rw [find_idx0, hi])
    clear H0 hi hkl
    go_enter Tryz.func175, Tryz.ntmps175
    go_wp2_with (go_at_call 171; refine (ffind_any H.out.kr HL.out _).mono ?_; rw [HI.out]; rintro e w' ⟨rfl, rfl⟩)
    go_ret
    unfold CarveR carveK carveF HpE
    rw [HT.out]
    exact ⟨rfl, ⟨_, _, H.out, Rows0.refl _ _⟩, Frm.refl _ _⟩
  | some p =>
    have HI := Lib.hid (show findL ks 1 = some p by rw [find_idx0, hi])
    have hpl := idx0_lt hi
    have n1 : decide ((p : Int) < 0) = false := by rw [decide_eq_false_iff_not]; omega
    by_cases hz : sizeI k = 0
    · have HT := Lib.hid (show takeT ks k = none by unfold takeT; rw [if_pos hz])
      have z1 : (sizeI k == 0) = true := by simpa using hz
      clear H0 hi hkl hpl hz
      go_enter Tryz.func175, Tryz.ntmps175
      go_wp2_with (first
        | (go_at_call 171; refine (ffind_any H.out.kr HL.out _).mono ?_; rw [HI.out]; rintro e w' ⟨rfl, rfl⟩)
        | (go_at_call 170; refine (rsize_any _ _).mono ?_; rintro e w2 ⟨rfl, hb⟩; have B2 := Lib.hid hb; clear hb))
      go_ret
      unfold CarveR carveK carveF HpE
      rw [HT.out]
      exact ⟨rfl, ⟨_, _, H.out.below B2.out, Rows0.refl _ _⟩, Frm.of_below _ B2.out⟩
    · have HT := Lib.hid (show takeT ks k = some p by unfold takeT; rw [if_neg hz]; exact hi)
      have z1 : (sizeI k == 0) = false := by simpa using hz
      have hk : 1 ≤ k ∧ k ≤ 4 := by
        apply Decidable.byContradiction; intro hc
        exact hz (sizeI_zero (by omega))
      have HLL := Lib.hid (show ks.length ≤ 999999 by omega)
      have HP := Lib.hid (show p + 1 ≤ 999999 by omega)
      have HP64 := Lib.hid (show p < 64 by omega)
      have HL2 := Lib.hid (show (setL ks p 1 k).length ≤ 64 by rw [setL_len]; exact hkl)
      have HKK := Lib.hid (show carveK ks k = setL ks p 1 k by unfold carveK; rw [HT.out, setL_one])
      obtain ⟨n, hn⟩ := Int.eq_ofNat_of_zero_le (show 0 ≤ cellsI k by have := cellsI_pos hk; omega)
      have HN := Lib.hid hn
      have hn16 : n ≤ 16 := by
        have hc : k = 1 ∨ k = 2 ∨ k = 3 ∨ k = 4 := by omega
        rcases hc with rfl | rfl | rfl | rfl <;> simp [cellsI] at hn <;> omega
      have HFF := Lib.hid (show carveF ks F k = upd F p (allTo n) by unfold carveF; rw [HT.out]; unfold allC allTo; rw [hn]; rfl)
      have p0 : (0 : Int) ≤ (p : Int) := by omega
      have p1 : (p : Int) < 64 := by omega
      clear H0 hi hkl hpl hz hk hn
      go_enter Tryz.func175, Tryz.ntmps175
      go_wp2_with (first
        | (go_at_call 171; refine (ffind_any H.out.kr HL.out _).mono ?_; rw [HI.out]; rintro e w' ⟨rfl, rfl⟩)
        | (go_at_call 170; refine (rsize_any _ _).mono ?_; rintro e w2 ⟨rfl, hb⟩; have B2 := Lib.hid hb; have H2 := Lib.hid (H.out.below hb); have d2 := H2.out.cells.1; clear hb)
        | (go_at_call 180; refine (fset_any H2.out.kr HLL.out p 1 HP.out k).mono ?_; rintro e w3 ⟨⟨A2, n2, q2, rfl, hr⟩, hb⟩; have B3 := Lib.hid (below_next B2.out hb); have R2 := Lib.hid (hr.mono (Nat.le_trans HB.out B2.out.size)); have Q2 := Lib.hid (fun g hg => (hr.oblk g hg).1); have H3 := Lib.hid (H2.out.below hb); have fz2 : w3.frozen? ⟨h, 0, none⟩ = false := frozen_of_row _ _ _ _ _ H3.out.hd; have d3 := H3.out.cells.1; clear hr hb))
      have H4 := Lib.hid (H3.out.setKinds R2.out HL2.out)
      have Q4 : Hid (Rows0 w.heap.size (hrows (.slice A ks.length cap) fv) (hrows (.slice A2 n2 q2) fv)) := Lib.hid (Rows0.kinds Q2.out B2.out.size)
      have F4 : Hid (Frm [h] w (w3.setCell ⟨h, 0, none⟩ (.slice A2 n2 q2))) := Lib.hid ((Frm.of_below [h] B3.out).trans (Frm.setCell (fp := [h]) (p := ⟨h, 0, none⟩) _ (List.mem_singleton.2 rfl) _) (fun k hk => .inl hk))
      generalize w3.setCell ⟨h, 0, none⟩ (.slice A2 n2 q2) = w4 at H4 F4 ⊢
      go_loopw [6, 7] (fun v a wr => ∃ i : Nat, i ≤ n ∧ a = .int .i64 i ∧ Hid (IRow w4.heap.size wr v (allTo i)) ∧ Hid (Below w4.heap.size w4 wr)) (fun _ a _ => n - (intOf a).toNat)
      case atStart => exact ⟨0, Nat.zero_le _, rfl, Lib.hid (IRow.nil _ _), Lib.hid (Below.refl _ _)⟩
      case round =>
        obtain ⟨i, hi, rfl, HR, HB4⟩ := hrel
        by_cases hlt : i < n
        · have hd : decide ((i : Int) < (n : Int)) = true := by simpa using hlt
          have HE := Lib.hid (allTo_step i)
          have HLE := Lib.hid (show (allTo i).length + 1 ≤ 1000000 by rw [allTo_len]; omega)
          go_wp2_with (first
            | (go_at_call 179; refine (rcells_any _ _).mono ?_; rw [HN.out]; rintro e w5 ⟨rfl, hb⟩; have B5 := Lib.hid (below_next HB4.out hb); have R5 := Lib.hid (HR.out.below hb); clear hb)
            | (at_builtin; refine wpList_append_num rfl _ _ (by rfl) w4.heap.size w4 _ _ (i : Int) (by rfl) R5.out (by rfl) HLE.out B5.out B5.out.size ?_; intro v' w6 hr1 hb1 hgrow; have HR1 := Lib.hid hr1; have HB1 := Lib.hid hb1; clear hr1 hb1 hgrow))
          go_roundw
          case rel => exact ⟨i + 1, by omega, by go_num, by rw [HE.out]; exact HR1, HB1⟩
          case measure => simp [intOf]; omega
        · have hd : decide ((i : Int) < (n : Int)) = false := by simpa using hlt
          obtain rfl : i = n := by omega
          obtain ⟨pa, ca, rfl, -⟩ := HR.out.slice
          go_wp2_with (go_at_call 179; refine (rcells_any _ _).mono ?_; rw [HN.out]; rintro e w5 ⟨rfl, hb⟩; have B5 := Lib.hid (below_next HB4.out hb); have R5 := Lib.hid (HR.out.below hb); have H5 := Lib.hid (H4.out.below (below_next HB4.out hb)); have fz5 : w5.frozen? ⟨h, 1 + p, none⟩ = false := frozen_of_row _ _ _ _ _ H5.out.hd; have d5 := H5.out.cells.2 p HP64.out; clear hb)
          go_ret
          refine ⟨by unfold CarveR; rw [HT.out]; rfl, ⟨_, _, by rw [HKK.out, HFF.out]; exact H5.out.setFree HP64.out ((R5.out.mono (Nat.le_trans HB.out F4.out.size)).off (by rw [allTo_len]; omega)), Q4.out.trans (Rows0.free fun g hg => .inr (R5.out.oblk g (rblk_oblk hg)).1) F4.out.size⟩, ?_⟩
          exact (F4.out.trans (Frm.of_below [h] B5.out) (fun k hk => .inl hk)).trans (Frm.setCell (fp := [h]) (p := ⟨h, 1 + p, none⟩) _ (List.mem_singleton.2 rfl) _) (fun k hk => .inl hk)
end
end Go.Proofs.YtjoejjhgneccgaaGreatDoor

/- The reference's heap: Take. -/
namespace Go.Proofs.YtjoejjhgneccgaaGreatDoor
open Go.RowKit

theorem OffR.tail {base : Nat} {w : World} {g o n cap : Nat} {x : Int} {l : List Int} (h : OffR base w (.slice (some ⟨g, o, none⟩) n cap) (x :: l)) : OffR base w (.slice (some ⟨g, o + 1, none⟩) (n - 1) (cap - 1)) l := by
  obtain ⟨A, n', cap', h1, h2, h3, h4, h5⟩ := h
  cases h1
  simp only [List.length_cons] at h2
  refine ⟨_, _, _, rfl, by omega, by omega, by omega, fun h0 => ?_⟩
  obtain ⟨g', o', e1, e2, e3, e4⟩ := h5 (by omega)
  cases e1
  refine ⟨g, o + 1, rfl, e2, e3, fun j hj => ?_⟩
  have := e4 (j + 1) (by omega)
  rw [show o + (j + 1) = o + 1 + j by omega] at this
  exact this
theorem OffR.empty {base : Nat} {w : World} (A : Option Addr) (cap : Nat) : OffR base w (.slice A 0 cap) [] := ⟨A, 0, cap, rfl, rfl, Nat.zero_le _, by omega, fun h => absurd h (by omega)⟩
def takeR (k q i : Int) (e : Ending) : Prop := e = .returned (.int .i64 (q * 32 + i * sizeI k))
section
variable {base h : Nat} {w : World} {kv : Value} {fv rest : List Value} {ks : List Int} {F : Nat → List Int}
set_option maxHeartbeats 1000000 in
set_option maxRecDepth 100000 in
theorem gtake_no (H0 : Hp base w h kv fv rest ks F) (p : Int) (h0 : rleft ks F p = 0) :
    Calls Tryz.prog 173 #[.pointer (some ⟨h, 0, none⟩), .int .i64 p] w fun e w' => e = .returned (.int .i64 (-1)) ∧ Below w.heap.size w w' := by
  have H := Lib.hid H0
  have HZ := Lib.hid h0
  clear H0 h0
  go_enter Tryz.func173, Tryz.ntmps173
  go_wp2_with (go_at_call 202; refine (gleft_any H.out p).mono ?_; rw [HZ.out]; rintro e w2 ⟨rfl, hb⟩; have B2 := Lib.hid hb; clear hb)
  go_ret
  exact ⟨rfl, B2.out⟩
set_option maxHeartbeats 4000000 in
set_option maxRecDepth 100000 in
theorem gtake_yes (H0 : Hp base w h kv fv rest ks F) (q : Nat) (hs : 0 < sizeI (kindL ks q)) (i : Int) (l : List Int) (hF : F q = i :: l) (hi : 0 ≤ i ∧ i < 32) :
    Calls Tryz.prog 173 #[.pointer (some ⟨h, 0, none⟩), .int .i64 q] w fun e w' => takeR (kindL ks q) q i e ∧ HpE base h rest ks (upd F q l) w.heap.size (hrows kv fv) w' ∧ Frm [h] w w' := by
  have H := Lib.hid H0
  obtain ⟨hp0, hp1⟩ := small_in hs
  have hql : q < ks.length := by omega
  have hq : q < 64 := by have := H0.kl; omega
  have HQL := Lib.hid hql
  have HQ := Lib.hid hq
  have hl1 : rleft ks F q = ((l.length + 1 : Nat) : Int) := by unfold rleft; rw [if_pos hs, Int.toNat_natCast, hF]; rfl
  obtain ⟨lf, hlf⟩ : ∃ lf, lf = rleft ks F q := ⟨_, rfl⟩
  have z1 : (lf == 0) = false := by rw [hlf, hl1]; simp; omega
  have HLF := Lib.hid hlf
  obtain ⟨A', n', cap', e1, e2, e3, e4, e5⟩ := H0.fr q hq
  rw [hF] at e2 e5
  simp only [List.length_cons] at e2
  obtain ⟨g, o, rfl, -, -, e6⟩ := e5 (by omega)
  have x0 := e6 0 (by omega)
  simp only [Nat.add_zero, List.getD_cons_zero] at x0
  have HG := Lib.hid (show g ∈ hrows kv fv from hrows_mem.2 (.inr ⟨_, getD_mem (d := .slice none 0 0) (by rw [H0.fl]; exact hq), by rw [e1]; exact rblk_pos (by omega)⟩))
  have X0 := Lib.hid x0
  have E1 := Lib.hid e1
  have n1 : (0 : Int) < (n' : Int) := by omega
  have n2 : (1 : Int) ≤ (n' : Int) := by omega
  have n3 : (n' : Int) ≤ (cap' : Int) := by omega
  have n4 : (1 : Int) ≤ (cap' : Int) := by omega
  have n5 : 0 < n' := by omega
  have HV := Lib.hid (show OffR base w (.slice (some ⟨g, o, none⟩) n' cap') (i :: l) by
    have := H0.fr q hq
    rw [e1, hF] at this
    exact this)
  have hsz := sizeI_bd (kindL ks q)
  have HK := Lib.hid (kindL_in hql)
  have HSZ := Lib.hid hsz
  obtain ⟨A, cap, rfl, -⟩ := H0.kr.slice
  obtain ⟨b, rfl, kc⟩ := H0.kr.at_.2 q hql
  obtain ⟨kd, hkd⟩ : ∃ kd, kd = ks.getD q 0 := ⟨_, rfl⟩
  rw [← hkd] at kc
  have KC := Lib.hid kc
  have hbh : b ≠ h := by
    rintro rfl
    have h1 := cell_of_row _ _ q _ _ _ H0.hd
    rw [kc] at h1
    rcases H0.kr.2 with ⟨e, -⟩ | ⟨g2, c2, cu, e, -, hh, -⟩
    · cases e
    · cases e
      rw [H0.hd] at hh
      simp only [Option.some.injEq, Obj.cells.injEq] at hh
      exact absurd hh.2.1 (by decide)
  have HKD := Lib.hid hkd
  have q1 : (0 : Int) ≤ (q : Int) := by omega
  have q2 : (q : Int) < 64 := by omega
  have q3 : (q : Int) < (ks.length : Int) := by omega
  have hm : 0 ≤ i * sizeI kd ∧ i * sizeI kd ≤ 31 * 16 := by
    rw [hkd, ← kindL_in hql]
    exact ⟨Int.mul_nonneg hi.1 hsz.1, Int.mul_le_mul (by omega) hsz.2 hsz.1 (by omega)⟩
  have HM := Lib.hid hm
  obtain ⟨hi0, hi1⟩ := hi
  obtain ⟨hs0, hs1⟩ : 0 ≤ sizeI kd ∧ sizeI kd ≤ 16 := by rw [hkd, ← kindL_in hql]; exact hsz
  obtain ⟨hm0, hm1⟩ := hm
  clear H0 hs hsz hF e5 e6 x0 e1 hl1 hlf hkd hql hq hp0 hp1 kc
  by_cases hc : cap' = 1
  · subst hc
    obtain rfl : n' = 1 := by omega
    obtain rfl : l = [] := List.eq_nil_of_length_eq_zero (by omega)
    clear e2 e3 e4 n1 n2 n3 n4 n5
    go_enter Tryz.func173, Tryz.ntmps173
    go_wp2_with (go_at_call 202; refine (gleft_any H.out q).mono ?_; rw [← HLF.out]; rintro e w2 ⟨rfl, hb⟩; have B2 := Lib.hid hb; have H2 := Lib.hid (H.out.below hb); have x2 := cell_keep hb X0.out; have k2 := cell_keep hb KC.out; have d2 := H2.out.cells.2 q HQ.out; have d0 := H2.out.cells.1; rw [E1.out] at d2; have fz2 : w2.frozen? ⟨h, 1 + q, none⟩ = false := frozen_of_row _ _ _ _ _ H2.out.hd; clear hb)
    refine region_tail 12 (by kernel_rfl) (by kernel_rfl) ?_
    simp only [List.take_succ_cons, List.take_zero, List.drop_succ_cons, List.drop_zero]
    repeat still_step
    refine wpStill_nil ?_
    go_wp2_with (go_at_call 170; refine (rsize_any kd _).mono ?_; rintro e w3 ⟨rfl, hb⟩; have B3 := Lib.hid hb; clear hb)
    go_ret
    refine ⟨?_, ⟨_, _, ((H2.out.setFree HQ.out (OffR.empty _ _)).below (Below.refl _ _).drew).below B3.out, Rows0.free fun x hx => by obtain ⟨-, a, ea, rfl⟩ := rblk_some hx; cases ea; exact .inl HG.out⟩, ?_⟩
    · unfold takeR
      rw [HK.out, ← HKD.out]; rfl
    · exact (((Frm.of_below [h] B2.out).trans (Frm.setCell (fp := [h]) (p := ⟨h, 1 + q, none⟩) _ (List.mem_singleton.2 rfl) _) (fun k hk => .inl hk)).trans (Frm.of_below [h] (Below.refl _ _).drew) (fun k hk => .inl hk)).trans (Frm.of_below [h] B3.out) (fun k hk => .inl hk)
  · have c2 : (2 : Int) ≤ (cap' : Int) := by omega
    clear e2 e3 e4
    go_enter Tryz.func173, Tryz.ntmps173
    go_wp2_with (go_at_call 202; refine (gleft_any H.out q).mono ?_; rw [← HLF.out]; rintro e w2 ⟨rfl, hb⟩; have B2 := Lib.hid hb; have H2 := Lib.hid (H.out.below hb); have x2 := cell_keep hb X0.out; have k2 := cell_keep hb KC.out; have d2 := H2.out.cells.2 q HQ.out; have d0 := H2.out.cells.1; rw [E1.out] at d2; have fz2 : w2.frozen? ⟨h, 1 + q, none⟩ = false := frozen_of_row _ _ _ _ _ H2.out.hd; clear hb)
    refine region_tail 12 (by kernel_rfl) (by kernel_rfl) ?_
    simp only [List.take_succ_cons, List.take_zero, List.drop_succ_cons, List.drop_zero]
    repeat still_step
    refine wpStill_nil ?_
    go_wp2_with (go_at_call 170; refine (rsize_any kd _).mono ?_; rintro e w3 ⟨rfl, hb⟩; have B3 := Lib.hid hb; clear hb)
    go_ret
    refine ⟨?_, ⟨_, _, ((H2.out.setFree HQ.out (HV.out.below B2.out).tail).below (Below.refl _ _).drew).below B3.out, Rows0.free fun x hx => by obtain ⟨-, a, ea, rfl⟩ := rblk_some hx; cases ea; exact .inl HG.out⟩, ?_⟩
    · unfold takeR
      rw [HK.out, ← HKD.out]; rfl
    · exact (((Frm.of_below [h] B2.out).trans (Frm.setCell (fp := [h]) (p := ⟨h, 1 + q, none⟩) _ (List.mem_singleton.2 rfl) _) (fun k hk => .inl hk)).trans (Frm.of_below [h] (Below.refl _ _).drew) (fun k hk => .inl hk)).trans (Frm.of_below [h] B3.out) (fun k hk => .inl hk)
end
end Go.Proofs.YtjoejjhgneccgaaGreatDoor

/- An append onto a row of the call's own, the source nil or not. -/
namespace Go.Proofs.YtjoejjhgneccgaaGreatDoor
open Go.RowKit

theorem run_append_none {P : Program} (w : World) (base : Nat) (t ty e : TypeId) (i : TypeInfo) (size : Nat) (ht : P.underlying t = some (.slice e)) (hi : P.info? e = some i)
    (v : Value) (n : Nat) (xs : List Value) (hown : w.ownsRow base e size v n xs) (c : Nat) : (Builtin.append_ #[t, t] ty #[v, .slice none 0 c]).run P w = .ok v w := by
  rcases hown.2 with ⟨rfl, -⟩ | ⟨g, cap, cur, rfl, -, -, hnc, -⟩
  · simp [Builtin.append_, run_underlying ht, sizeOf, typeInfo, hi, Builtin.lenOf, run_firstCells_none]
  · have h := run_append_room_src (P := P) w t t ty e i ht hi g 0 n cap (.slice none 0 c) 0 [] (Src.ofNil w ht c) (by omega) (fun j hj => absurd hj (by simp)) (fun j hj => absurd hj (by simp))
    rw [h]
    have e1 : w.setCells g (0 + n * i.size) [] = w := by
      unfold World.setCells
      simp
    rw [e1, Nat.add_zero]
/-- .. whatever the source is. -/
theorem wpList_append_src {P : Program} (w : World) {ops : Array Oper} {rest : List Oper} {o : Oper} {a : Act} {Q : Exit → Act → World → Prop} (hgd : o.guard = none) (s x : Operand) (t : TypeId)
    (ho : o.op = .call { callee := .builtin .append, args := #[s, x], argTypes := #[t, t] })
    (base : Nat) (e : TypeId) (i : TypeInfo) (z : Value) (size bytes : Nat) (ht : P.underlying t = some (.slice e)) (hi : P.info? e = some i) (hz : i.zero = some z)
    (hsize : i.size = size) (hby : i.bytes = bytes) (hzs : z.cells.size = size) (hsz : 0 < size)
    (v : Value) (n : Nat) (xs : List Value) (hs : a.eval s = v) (hown : w.ownsRow base e size v n xs)
    (A : Option Addr) (m c : Nat) (news : List Value) (hx : a.eval x = .slice A m c) (hl : news.length = m * size) (h0 : A = none → m = 0) (hnews : ∀ ad, A = some ad → ∀ j u, news[j]? = some u → w.cell? (ad.add j) = some u) (h1 : ∀ u ∈ news, u.oneCell' = true)
    (h63 : n + m ≤ maxLen) (hbytes : (n + m) * bytes ≤ 140737488355328) (hbase : base ≤ w.heap.size)
    (h : ∀ v' w', w'.ownsRow base e size v' (n + m) (xs ++ news) → w.grownBy w' v.ownBlock → wpList P ops Q rest (a.put o.dst v') w') : wpList P ops Q (o :: rest) a w := by
  cases A with
  | some ad => exact wpList_append_own w hgd s x t ho base e i z size bytes ht hi hz hsize hby hzs hsz v n xs hs hown ad m c news hx hl (hnews ad rfl) h1 h63 hbytes hbase fun v' w' h2 h3 _ => h v' w' h2 h3
  | none =>
    obtain rfl := h0 rfl
    obtain rfl : news = [] := List.eq_nil_of_length_eq_zero (by simpa using hl)
    refine wpList_plain hgd fun K hK => ?_
    unfold Oper.wp execOp
    simp only [ho, resolve, invoke, builtin, Sem.run_bind, Sem.run_pure, Result.andThen_ok, List.map_toArray, List.map_cons, List.map_nil, hs, hx, run_append_none w base t o.type e i size ht hi v n xs hown c]
    refine hK _ _ (h _ w ?_ (World.grownBy.refl w _))
    rw [Nat.add_zero, List.append_nil]; exact hown
end Go.Proofs.YtjoejjhgneccgaaGreatDoor

/- The reference's heap: Give. -/
namespace Go.Proofs.YtjoejjhgneccgaaGreatDoor
open Go.RowKit

/-- A row that is read is put behind one of the call's own. -/
theorem wpList_append_off {w : World} {ops : Array Oper} {rest : List Oper} {o : Oper} {a : Act} {Q : Exit → Act → World → Prop} (hgd : o.guard = none) (s x : Operand)
    (ho : o.op = .call { callee := .builtin .append, args := #[s, x], argTypes := #[44, 44] }) (base b2 : Nat) (w0 : World) (v v2 : Value) (xs ys : List Int)
    (hs : a.eval s = v) (hown : IRow base w v xs) (hx : a.eval x = v2) (hoff : OffR b2 w v2 ys) (hn : xs.length ≤ 1000000) (hB : Below base w0 w) (hb : base ≤ w.heap.size)
    (h : ∀ v' w', IRow base w' v' (xs ++ ys) → Below base w0 w' → wpList Tryz.prog ops Q rest (a.put o.dst v') w') : wpList Tryz.prog ops Q (o :: rest) a w := by
  obtain ⟨i0, hi, hz0, hz1, hz2⟩ := info_parts info_num
  obtain ⟨A, n, cap, rfl, h2, h3, h4, h5⟩ := hoff
  have hys : (ys.map (Value.int .i64)).length = n := by rw [List.length_map, h2]
  refine wpList_append_src w hgd s x 44 ho base 3 i0 (.int .i64 0) 1 8 Tryz.underlying44 hi hz0 hz1 hz2 rfl (by decide) v xs.length _ hs hown A n cap (ys.map (Value.int .i64)) hx (by rw [hys, Nat.mul_one])
    (fun e => Decidable.byContradiction fun hc => ?_) (fun ad e j u hj => ?_) (ints_one ys) (by unfold maxLen; omega) (by omega) hb ?_
  · obtain ⟨g, o', e1, -⟩ := h5 (by omega)
    rw [e] at e1; cases e1
  · have hjn : j < n := by
      have := (List.getElem?_eq_some_iff.1 hj).1
      rwa [hys] at this
    obtain ⟨g, o', e1, -, -, e4⟩ := h5 (by omega)
    rw [e] at e1
    cases e1
    have hadd : (⟨g, o', none⟩ : Addr).add j = ⟨g, o' + j, none⟩ := by unfold Addr.add; split <;> simp_all
    rw [hadd, e4 j hjn, ← hj, List.getElem?_map, List.getD_eq_getElem?_getD, List.getElem?_eq_getElem (by omega)]; rfl
  · intro v' w1 hown' hgrow
    refine h v' w1 ?_ (hB.grown hgrow hb (own_base hown))
    unfold IRow
    rw [List.length_append, List.map_append, ← h2]
    exact hown'
section
variable {base h : Nat} {w : World} {kv : Value} {fv rest : List Value} {ks : List Int} {F : Nat → List Int}
set_option maxHeartbeats 4000000 in
set_option maxRecDepth 100000 in
theorem ggive_large (H0 : Hp base w h kv fv rest ks F) (hb0 : base ≤ w.heap.size) (a q : Nat) (ha : a < 2048) (hq : a / 32 = q) (hl : q < ks.length) (hk : ks.getD q 0 = 5) :
    Calls Tryz.prog 204 #[.pointer (some ⟨h, 0, none⟩), .int .i64 a] w fun e w' => e = .returned (.tuple #[]) ∧ HpE base h rest (setL ks q (sizeL ks q).toNat 0) F w.heap.size (hrows kv fv) w' ∧ Frm [h] w w' := by
  have H := Lib.hid H0
  have HB := Lib.hid hb0
  have hsz := sizeL_bd ks q
  obtain ⟨m, hm⟩ := Int.eq_ofNat_of_zero_le hsz.1
  have HM := Lib.hid hm
  have HM2 := Lib.hid (show (sizeL ks q).toNat = m by omega)
  have hkl := H0.kl
  have HS := Lib.hid (show q + m ≤ 999999 by omega)
  have HL := Lib.hid (show ks.length ≤ 999999 by omega)
  have HL2 := Lib.hid (show (setL ks q m 0).length ≤ 64 by rw [setL_len]; exact hkl)
  have HKL := Lib.hid hkl
  obtain ⟨c0, -⟩ := H0.cells
  obtain ⟨A, cap, rfl, -⟩ := H0.kr.slice
  obtain ⟨b, rfl, kc⟩ := H0.kr.at_.2 q hl
  rw [hk] at kc
  have e1 : (a : Int) / 32 = (q : Int) := by omega
  have a0 : (0 : Int) ≤ (a : Int) := by omega
  have a1 : (a : Int) < 2048 := by omega
  have q1 : (0 : Int) ≤ (q : Int) := by omega
  have q2 : (q : Int) < (ks.length : Int) := by omega
  clear H0 hm hsz hkl hk hq ha hl
  go_enter Tryz.func204, Tryz.ntmps204
  go_wp2_with fail
  have G0 : Hid (Hp base w.drew h (Value.slice (some ⟨b, 0, none⟩) ks.length cap) fv rest ks F) := Lib.hid (H.out.below (Below.refl _ _).drew)
  have B0 : Hid (Below w.heap.size w w.drew) := Lib.hid (Below.refl _ _).drew
  go_region_with ((first
    | (go_at_call 218; (with_reducible refine (fsize_any G0.out.kr HKL.out q).mono ?_); rw [HM.out]; rintro e w1 ⟨rfl, hb⟩; have G1 := Lib.hid (G0.out.below hb); have d1 := G1.out.cells.1; have B1 := Lib.hid (below_next B0.out hb); clear hb)
    | (go_at_call 180; refine (fset_any G1.out.kr HL.out q m HS.out 0).mono ?_; rintro e w2 ⟨⟨A2, n2, q2, rfl, hr⟩, hb⟩; have R2 := Lib.hid (hr.mono (Nat.le_trans HB.out B1.out.size)); have Q2 := Lib.hid (fun g hg => (hr.oblk g hg).1); have G2 := Lib.hid (G1.out.below hb); have d2 := G2.out.cells.1; have fz2 : w2.frozen? ⟨h, 0, none⟩ = false := frozen_of_row _ _ _ _ _ G2.out.hd; have B2 := Lib.hid (below_next B1.out hb); clear hr hb)))
  all_goals
    go_wp2_with fail
    refine bodyPost_ret (v := .tuple #[]) (by simp [results, Tryz.results204, go_sem]) rfl ?_
    refine ⟨rfl, ⟨_, _, by rw [HM2.out]; exact G2.out.setKinds R2.out HL2.out, Rows0.kinds Q2.out B1.out.size⟩, ?_⟩
    exact (Frm.of_below [h] B2.out).trans (Frm.setCell (fp := [h]) (p := ⟨h, 0, none⟩) _ (List.mem_singleton.2 rfl) _) (fun k hk => .inl hk)
end
end Go.Proofs.YtjoejjhgneccgaaGreatDoor
