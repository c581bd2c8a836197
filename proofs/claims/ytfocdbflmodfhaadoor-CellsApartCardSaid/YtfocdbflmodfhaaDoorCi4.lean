/- Cells, in plain lists: large ones taken and given back; a page dropped. -/
import Derived.Test.YtfocdbflmodfhaaDoorCi3
namespace Go.Proofs.YtfocdbflmodfhaaDoor
open Go.RowKit

theorem run6_all : ∀ (ks : List Int) (q j : Nat), j < run6 ks q → ks.getD (q + j) 0 = 6 := by
  intro ks q j
  induction j generalizing q with
  | zero =>
    intro h
    apply Decidable.byContradiction; intro hc
    have : kindL ks q ≠ 6 := by
      by_cases hl : q < ks.length
      · rw [kindL_in hl]; simpa using hc
      · rw [kindL_out (.inr (by omega))]; omega
    rw [run6_stop this] at h
    omega
  | succ j ih =>
    intro h
    by_cases h6 : kindL ks q = 6
    · rw [run6_step h6] at h
      have := ih (q + 1) (by omega)
      rw [show q + (j + 1) = q + 1 + j by omega]
      exact this
    · rw [run6_stop h6] at h; omega
theorem run6_after (ks : List Int) (q : Nat) : kindL ks ((q + run6 ks q : Nat) : Int) ≠ 6 := by
  intro h
  have h1 : ∀ d q, run6 ks q = d → kindL ks ((q + d : Nat) : Int) ≠ 6 := by
    intro d
    induction d with
    | zero =>
      intro q hd h6
      rw [Nat.add_zero] at h6
      rw [run6_step h6] at hd; omega
    | succ d ih =>
      intro q hd
      by_cases h6 : kindL ks q = 6
      · rw [run6_step h6] at hd
        have := ih (q + 1) (by omega)
        rwa [show q + 1 + d = q + (d + 1) by omega] at this
      · rw [run6_stop h6] at hd; omega
  exact h1 _ _ rfl h
theorem getD_out {ks : List Int} {p : Nat} (h : ks.length ≤ p) : ks.getD p 0 = 0 := by
  rw [List.getD_eq_getElem?_getD, List.getElem?_eq_none h]; rfl
/-- Pages that become free. -/
theorem inv_free {C : Cs} {F : Nat → List Int} {p m : Nat} {W : List (BitVec 64)} (h : Inv C F) (hpm : p + m ≤ C.ks.length) (hsx : p + m < C.ks.length → C.ks.getD (p + m) 0 ≠ 6) (hwl : W.length = 32)
    (hb : ∀ a, a < 32 * C.ks.length → bit W a = if p ≤ a / 32 ∧ a / 32 < p + m then false else tkB C F a) (htp : ∀ a, 32 * C.ks.length ≤ a → a < 2048 → bit W a = false) :
    Inv { C with ks := fillL C.ks p m 0, ws := W } F := by
  have hl : (fillL C.ks p m 0).length = C.ks.length := fillL_len _ _ _ _
  have hg : ∀ q, q < C.ks.length → (fillL C.ks p m 0).getD q 0 = if p ≤ q ∧ q < p + m then 0 else C.ks.getD q 0 := fun q hq => fillL_get _ _ _ _ _ hq
  refine ⟨by rw [hl]; exact h.le, by rw [hl]; exact h.len, h.chl, hwl, fun q hq => ?_, fun q hq h6 => ?_, fun q hq k1 k4 => ?_, fun a ha => ?_, fun a ha ha2 => htp a (by rw [hl] at ha; exact ha) ha2⟩
  · have hq' : q < C.ks.length := by rw [← hl]; exact hq
    show 0 ≤ (fillL C.ks p m 0).getD q 0 ∧ (fillL C.ks p m 0).getD q 0 ≤ 6
    rw [hg q hq']
    split
    · omega
    · exact h.kd q hq'
  · have hq' : q < C.ks.length := by rw [← hl]; exact hq
    have h6' : (fillL C.ks p m 0).getD q 0 = 6 := h6
    rw [hg q hq'] at h6'
    split at h6'
    · omega
    · rename_i hnr
      obtain ⟨g0, g1⟩ := h.sx q hq' h6'
      refine ⟨g0, ?_⟩
      show (fillL C.ks p m 0).getD (q - 1) 0 = 5 ∨ (fillL C.ks p m 0).getD (q - 1) 0 = 6
      rw [hg _ (by omega), if_neg]
      · exact g1
      · rintro ⟨e1, e2⟩
        have : q = p + m := by omega
        subst this
        exact hsx hq' h6'
  · have hq' : q < C.ks.length := by rw [← hl]; exact hq
    have k1' : 1 ≤ (fillL C.ks p m 0).getD q 0 := k1
    have k4' : (fillL C.ks p m 0).getD q 0 ≤ 4 := k4
    show Lnk C.xs q ((fillL C.ks p m 0).getD q 0) _ _ ∧ _
    rw [hg q hq'] at k1' k4' ⊢
    split at k1'
    · omega
    · rename_i hnr
      rw [if_neg hnr] at k4' ⊢
      exact h.ln q hq' k1' k4'
  · have ha' : a < 32 * C.ks.length := by rw [← hl]; exact ha
    show bit W a = _
    rw [hb a ha']
    by_cases hr : p ≤ a / 32 ∧ a / 32 < p + m
    · rw [if_pos hr, tkB_other (k := 0) (by show (fillL C.ks p m 0).getD (a / 32) 0 = 0; rw [hg _ (by omega), if_pos hr]) (by omega)]
      simp
    · rw [if_neg hr]
      exact (tkB_same (by show (fillL C.ks p m 0).getD (a / 32) 0 = _; rw [hg _ (by omega), if_neg hr]) rfl).symm
theorem inv_give_large {C : Cs} {F : Nat → List Int} {a : Nat} (h : Inv C F) (hb : hasB C.xs.length C.ws a = true) (ha : a < 32 * C.ks.length) (h5 : C.ks.getD (a / 32) 0 = 5) (ha0 : a % 32 = 0) : Inv (giveL C a) F := by
  have hle := h.le
  have hpg : pageI a = ((a / 32 : Nat) : Int) := by rw [pageI_in (by omega) (by omega)]; omega
  have hk : kindL C.ks ((a / 32 : Nat) : Int) = 5 := by rw [kindL_in (by omega)]; exact h5
  have hs : sizeL C.ks ((a / 32 : Nat) : Int) = ((1 + run6 C.ks (a / 32 + 1) : Nat) : Int) := by
    unfold sizeL
    rw [hk, if_neg (by simp [sizeI]), if_neg (by simp), Int.toNat_natCast]
    omega
  have hin := sizeL_in (ks := C.ks) (p := ((a / 32 : Nat) : Int)) (by omega)
  have hf : freeL C.ks (pageI a) = fillL C.ks (a / 32) (1 + run6 C.ks (a / 32 + 1)) 0 := by
    unfold freeL; rw [hpg, hs, Int.toNat_natCast, Int.toNat_natCast]
  unfold giveL
  rw [hf, remL_off hb]
  refine inv_free h (by omega) (fun hlt => ?_) (by rw [bitOff_len]; exact h.wl) (fun b hb2 => ?_) (fun b hb2 hb3 => ?_)
  · have := run6_after C.ks (a / 32 + 1)
    rw [kindL_in (by omega)] at this
    rwa [show a / 32 + (1 + run6 C.ks (a / 32 + 1)) = a / 32 + 1 + run6 C.ks (a / 32 + 1) by omega]
  · rw [bitOff_get h.wl (show a < 2048 by omega), h.bt b hb2]
    split
    · rename_i hr
      by_cases e : b / 32 = a / 32
      · rw [tkB_other (k := 5) (by rw [e]; exact h5) (by omega)]
        by_cases e2 : b = a
        · simp [e2]
        · have : ¬ b % 32 = 0 := by omega
          simp [this]
      · have h6 := run6_all C.ks (a / 32 + 1) (b / 32 - (a / 32 + 1)) (by omega)
        rw [show a / 32 + 1 + (b / 32 - (a / 32 + 1)) = b / 32 by omega] at h6
        rw [tkB_other (k := 6) h6 (by omega)]
        simp
    · rename_i hr
      have : ¬ b = a := by rintro rfl; exact hr ⟨Nat.le_refl _, by omega⟩
      simp [this]
  · rw [bitOff_get h.wl (show a < 2048 by omega), h.tp b hb2 hb3]; simp
theorem inv_drop {C : Cs} {F : Nat → List Int} {p : Nat} (h : Inv C F) (hp : p < C.ks.length) (k1 : 1 ≤ C.ks.getD p 0) (k4 : C.ks.getD p 0 ≤ 4) (hl : cellsI (C.ks.getD p 0) ≤ leftL C p) : Inv { C with ks := freeL C.ks p } F := by
  have hk : kindL C.ks (p : Int) = C.ks.getD p 0 := kindL_in hp
  have hz := sizeI_pos ⟨k1, k4⟩
  obtain ⟨g1, g2, g3⟩ := h.ln p hp k1 k4
  have hc := cellsI_pos ⟨k1, k4⟩
  have hle := h.le
  have hlen : (cellsI (C.ks.getD p 0)) ≤ ((F p).length : Int) := by
    unfold leftL at hl
    rw [hk, if_pos (by omega), Int.toNat_natCast, g2] at hl
    exact hl
  have hall : ∀ i, 0 ≤ i → i < cellsI (C.ks.getD p 0) → i ∈ F p := fun i h0 h1 => by
    apply Decidable.byContradiction; intro hn
    have hfew := few_ints (cellsI (C.ks.getD p 0)).toNat (i :: F p) (List.nodup_cons.2 ⟨hn, g3⟩) (fun x hx => by
      rcases List.mem_cons.1 hx with rfl | hx
      · omega
      · have := g1.mem x hx; omega)
    rw [List.length_cons] at hfew
    omega
  have hs : sizeL C.ks p = 1 := by unfold sizeL; rw [hk, if_pos (by omega)]
  have hf : freeL C.ks p = fillL C.ks p 1 0 := by unfold freeL; rw [hs, Int.toNat_natCast]; rfl
  rw [hf]
  have := inv_free (C := C) (F := F) (p := p) (m := 1) (W := C.ws) h (by omega) (fun hlt h6 => ?_) h.wl (fun b hb2 => ?_) h.tp
  · exact this
  · have := (h.sx (p + 1) hlt h6).2
    rw [Nat.add_sub_cancel] at this
    omega
  · rw [h.bt b hb2]
    split
    · rename_i hr
      have e : b / 32 = p := by omega
      rw [tkB_small (k := C.ks.getD p 0) (by rw [e]) ⟨k1, k4⟩]
      have hx := idx_lt ⟨k1, k4⟩ b
      have := hall _ hx.1 hx.2
      exact decide_eq_false (fun hcc => hcc.2 (by rw [e]; exact this))
    · rfl
theorem runs_zero : ∀ (xs : List Int) (p n : Nat), n ≤ p → ∀ x ∈ runsFrom xs p n, ∀ j, x.1 ≤ j → j < x.1 + x.2 → (p - n ≤ j ∧ j < p) ∨ (p ≤ j ∧ xs.getD (j - p) 0 = 0)
  | [], p, n, h, x, hx, j, h1, h2 => by
    unfold runsFrom at hx
    split at hx
    · simp at hx; subst hx; simp at h1 h2; left; omega
    · simp at hx
  | y :: xs, p, n, h, x, hx, j, h1, h2 => by
    unfold runsFrom at hx
    split at hx
    · rename_i hy
      rcases runs_zero xs (p + 1) (n + 1) (by omega) x hx j h1 h2 with h3 | h3
      · by_cases e : j = p
        · subst e; right; exact ⟨Nat.le_refl _, by rw [Nat.sub_self]; simpa using hy⟩
        · left; omega
      · right
        refine ⟨by omega, ?_⟩
        rw [show j - p = (j - (p + 1)) + 1 by omega, List.getD_cons_succ]
        exact h3.2
    · split at hx
      · rcases List.mem_cons.1 hx with rfl | hx
        · left; simp at h1 h2; omega
        · rcases runs_zero xs (p + 1) 0 (by omega) x hx j h1 h2 with h3 | h3
          · omega
          · right
            refine ⟨by omega, ?_⟩
            rw [show j - p = (j - (p + 1)) + 1 by omega, List.getD_cons_succ]
            exact h3.2
      · rcases runs_zero xs (p + 1) 0 (by omega) x hx j h1 h2 with h3 | h3
        · omega
        · right
          refine ⟨by omega, ?_⟩
          rw [show j - p = (j - (p + 1)) + 1 by omega, List.getD_cons_succ]
          exact h3.2
theorem span_zero {ks : List Int} {n : Int} {p : Nat} (h : spanL ks n = some p) : ∀ j, p ≤ j → j < p + n.toNat → ks.getD j 0 = 0 := by
  unfold spanL at h
  split at h
  · cases h
  · cases h1 : (runsL ks).find? fun r => decide (n ≤ (r.2 : Int)) with
    | none => rw [h1] at h; cases h
    | some x =>
      rw [h1] at h
      obtain rfl : x.1 = p := by simpa using h
      have h2 := List.find?_some h1
      simp at h2
      intro j h3 h4
      rcases runs_zero ks 0 0 (Nat.le_refl _) x (List.mem_of_find?_eq_some h1) j h3 (by omega) with h5 | h5
      · omega
      · simpa using h5.2
theorem inv_large {C : Cs} {F : Nat → List Int} {n : Int} {p : Nat} (h : Inv C F) (hs : spanL C.ks n = some p) : Inv (largeC C n) F := by
  obtain ⟨hn, hpl⟩ := spanL_lt hs
  have hz := span_zero hs
  have hle := h.le
  have hlen := h.len
  obtain ⟨m, rfl⟩ := Int.eq_ofNat_of_zero_le (show 0 ≤ n by omega)
  rw [Int.toNat_natCast] at hpl hz
  have hc : largeC C m = { C with ks := spanS C.ks p m, ws := addL C.xs.length C.ws ((p : Int) * 32), xs := fillL C.xs (32 * p) (32 * m) 0 } := by
    unfold largeC
    rw [hs]
    show ({ C with ks := _, ws := _, xs := fillL C.xs ((p : Int) * 32).toNat ((m : Int) * 32).toNat 0 } : Cs) = _
    rw [show ((p : Int) * 32).toNat = 32 * p by omega, show ((m : Int) * 32).toNat = 32 * m by omega, Int.toNat_natCast]
  have hold : bit C.ws (32 * p) = false := by
    rw [h.bt _ (by omega), tkB_other (k := 0) (by rw [show 32 * p / 32 = p by omega]; exact hz p (Nat.le_refl _) (by omega)) (by omega)]
    simp
  have hadd : addL C.xs.length C.ws ((p : Int) * 32) = bitOn C.ws (32 * p) := by
    unfold addL
    have e : ((p : Int) * 32).toNat = 32 * p := by omega
    rw [if_pos, e]
    simp only [addB, inB, e, hold, Bool.not_false, Bool.and_true, decide_eq_true_eq]; omega
  rw [hc, hadd]
  have hl : (spanS C.ks p m).length = C.ks.length := by unfold spanS; simp [fillL_len]
  have hg : ∀ q, q < C.ks.length → (spanS C.ks p m).getD q 0 = if q = p then 5 else if p ≤ q ∧ q < p + m then 6 else C.ks.getD q 0 := fun q hq => by
    unfold spanS
    by_cases e : q = p
    · rw [if_pos e, e, getD_set_same (by rw [fillL_len]; omega)]
    · rw [if_neg e, getD_set_other (fun e2 => e e2.symm), fillL_get _ _ _ _ _ hq]
  refine ⟨by rw [hl]; exact hle, by rw [hl]; show (fillL _ _ _ _).length = _; rw [fillL_len]; exact hlen, h.chl, by rw [← h.wl]; exact bitOn_len _ _, fun q hq => ?_, fun q hq h6 => ?_, fun q hq k1 k4 => ?_, fun a ha => ?_, fun a ha ha2 => ?_⟩
  · have hq' : q < C.ks.length := by rw [← hl]; exact hq
    show 0 ≤ (spanS C.ks p m).getD q 0 ∧ (spanS C.ks p m).getD q 0 ≤ 6
    rw [hg q hq']
    split
    · omega
    · split
      · omega
      · exact h.kd q hq'
  · have hq' : q < C.ks.length := by rw [← hl]; exact hq
    have h6' : (spanS C.ks p m).getD q 0 = 6 := h6
    show 0 < q ∧ ((spanS C.ks p m).getD (q - 1) 0 = 5 ∨ (spanS C.ks p m).getD (q - 1) 0 = 6)
    rw [hg q hq'] at h6'
    split at h6'
    · omega
    · rename_i hne
      split at h6'
      · rename_i hr
        refine ⟨by omega, ?_⟩
        rw [hg _ (by omega)]
        by_cases e : q - 1 = p
        · rw [if_pos e]; exact .inl rfl
        · rw [if_neg e, if_pos (by omega)]; exact .inr rfl
      · rename_i hnr
        obtain ⟨g0, g1⟩ := h.sx q hq' h6'
        refine ⟨g0, ?_⟩
        have hnot : ¬ (p ≤ q - 1 ∧ q - 1 < p + m) := by
          rintro ⟨e1, e2⟩
          have := hz (q - 1) e1 e2
          omega
        rw [hg _ (by omega), if_neg (by omega), if_neg hnot]
        exact g1
  · have hq' : q < C.ks.length := by rw [← hl]; exact hq
    have k1' : 1 ≤ (spanS C.ks p m).getD q 0 := k1
    have k4' : (spanS C.ks p m).getD q 0 ≤ 4 := k4
    show Lnk (fillL C.xs (32 * p) (32 * m) 0) q ((spanS C.ks p m).getD q 0) _ _ ∧ _
    rw [hg q hq'] at k1' k4' ⊢
    split at k1'
    · rename_i e; rw [if_pos e] at k4'; omega
    · rename_i hne
      rw [if_neg hne] at k4' ⊢
      split at k1'
      · rename_i hr; rw [if_pos hr] at k4'; omega
      · rename_i hnr
        rw [if_neg hnr] at k4' ⊢
        obtain ⟨g1, g2⟩ := h.ln q hq' k1' k4'
        refine ⟨g1.keep fun i hi => ?_, g2⟩
        have hm := g1.mem i hi
        have hc2 := cad_page (p := q) ⟨k1', k4'⟩ hm.1 hm.2
        have hs2 := sizeI_pos (k := C.ks.getD q 0) ⟨k1', k4'⟩
        rw [fillL_get _ _ _ _ _ (by omega), if_neg]
        rintro ⟨e1, e2⟩
        exact hnr (by omega)
  · have ha' : a < 32 * C.ks.length := by rw [← hl]; exact ha
    show bit (bitOn C.ws (32 * p)) a = _
    rw [bitOn_get h.wl (show 32 * p < 2048 by omega), h.bt a ha']
    have hga : (spanS C.ks p m).getD (a / 32) 0 = if a / 32 = p then 5 else if p ≤ a / 32 ∧ a / 32 < p + m then 6 else C.ks.getD (a / 32) 0 := hg _ (by omega)
    by_cases e : a / 32 = p
    · rw [tkB_other (C := C) (k := 0) (hz _ (by omega) (by omega)) (by omega), tkB_other (k := 5) (by rw [if_pos e] at hga; exact hga) (by omega)]
      have : decide (a = 32 * p) = decide (a % 32 = 0) := by rw [decide_eq_decide]; omega
      simp [this]
    · have hne : decide (a = 32 * p) = false := decide_eq_false (by omega)
      rw [hne, Bool.or_false]
      by_cases hr : p ≤ a / 32 ∧ a / 32 < p + m
      · rw [tkB_other (C := C) (k := 0) (hz _ hr.1 hr.2) (by omega), tkB_other (k := 6) (by rw [if_neg e, if_pos hr] at hga; exact hga) (by omega)]
        simp
      · exact (tkB_same (by rw [if_neg e, if_neg hr] at hga; exact hga) rfl).symm
  · have ha3 : 32 * C.ks.length ≤ a := by rw [← hl]; exact ha
    show bit (bitOn C.ws (32 * p)) a = false
    rw [bitOn_get h.wl (show 32 * p < 2048 by omega), h.tp a ha3 ha2]
    simp; omega
end Go.Proofs.YtfocdbflmodfhaaDoor
