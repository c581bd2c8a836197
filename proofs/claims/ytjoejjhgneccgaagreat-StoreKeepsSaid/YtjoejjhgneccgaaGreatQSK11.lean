/- Cells, in plain lists: given back; a page dropped; large ones. -/
import Derived.Test.YtjoejjhgneccgaaGreatQSK08
import Derived.Test.YtjoejjhgneccgaaGreatQSK10
namespace Go.Proofs.YtjoejjhgneccgaaGreat
open Go.RowKit

theorem has_tk {C : Cs} {F : Nat → List Int} {x : Int} (h : Inv C F) (hb : hasB C.xs.length C.ws x = true) : ∃ a : Nat, x = a ∧ a < 32 * C.ks.length ∧ bit C.ws a = true ∧ tkB C F a = true := by
  unfold hasB inB at hb
  simp only [Bool.and_eq_true, decide_eq_true_eq] at hb
  obtain ⟨a, rfl⟩ := Int.eq_ofNat_of_zero_le hb.1.1
  have hl := h.len
  have ha : a < 32 * C.ks.length := by omega
  rw [Int.toNat_natCast] at hb
  exact ⟨a, rfl, ha, hb.2, by rw [← h.bt a ha]; exact hb.2⟩
theorem tk_cases {C : Cs} {F : Nat → List Int} {a : Nat} (h : tkB C F a = true) : (1 ≤ C.ks.getD (a / 32) 0 ∧ C.ks.getD (a / 32) 0 ≤ 4 ∧ (a : Int) % 32 % sizeI (C.ks.getD (a / 32) 0) = 0 ∧ (a : Int) % 32 / sizeI (C.ks.getD (a / 32) 0) ∉ F (a / 32)) ∨ (C.ks.getD (a / 32) 0 = 5 ∧ a % 32 = 0) := by
  unfold tkB at h
  split at h
  · rename_i hk
    have := of_decide_eq_true h
    exact .inl ⟨hk.1, hk.2, this.1, this.2⟩
  · exact .inr (of_decide_eq_true h)
theorem mod_size {k : Int} (hk : 1 ≤ k ∧ k ≤ 4) {a : Int} (h : a % 32 % sizeI k = 0) : a % sizeI k = 0 := by
  have hc : k = 1 ∨ k = 2 ∨ k = 3 ∨ k = 4 := by omega
  rcases hc with rfl | rfl | rfl | rfl <;> simp [sizeI] at * <;> omega
/-- What is taken may be given back. -/
theorem give_ok {C : Cs} {F : Nat → List Int} {a : Nat} (h : Inv C F) (ha : a < 32 * C.ks.length) (k1 : 1 ≤ C.ks.getD (a / 32) 0) (k4 : C.ks.getD (a / 32) 0 ≤ 4) (hal : (a : Int) % 32 % sizeI (C.ks.getD (a / 32) 0) = 0)
    (hn : (a : Int) % 32 / sizeI (C.ks.getD (a / 32) 0) ∉ F (a / 32)) :
    GiveP C a (a / 32) (C.ks.getD (a / 32) 0) ((a : Int) % 32 / sizeI (C.ks.getD (a / 32) 0)) (C.ch.getD (a / 32) (0, 0)).1 (C.ch.getD (a / 32) (0, 0)).2 := by
  have hq : a / 32 < C.ks.length := by omega
  have hle := h.le
  obtain ⟨g1, g2, g3⟩ := h.ln _ hq k1 k4
  have hx := idx_lt ⟨k1, k4⟩ a
  have hf := g1.first ⟨k1, k4⟩
  have hc := cellsI_pos ⟨k1, k4⟩
  have hfew := few_ints (cellsI (C.ks.getD (a / 32) 0)).toNat ((a : Int) % 32 / sizeI (C.ks.getD (a / 32) 0) :: F (a / 32)) (List.nodup_cons.2 ⟨hn, g3⟩) (fun x hm => by
    rcases List.mem_cons.1 hm with rfl | hm
    · omega
    · have := g1.mem x hm; omega)
  rw [List.length_cons] at hfew
  exact ⟨hq, by rw [pageI_in (by omega) (by omega)]; omega, by omega, by omega, kindL_in hq, k1, k4, mod_size ⟨k1, k4⟩ hal, rfl, hx.1, hx.2, rfl, by rw [g2]; omega, by rw [g2]; omega, hf.1, hf.2⟩
theorem remL_off {C : Cs} {a : Nat} (h : hasB C.xs.length C.ws a = true) : remL C.xs.length C.ws a = bitOff C.ws a := by
  unfold remL; rw [if_pos h, Int.toNat_natCast]
theorem inv_give {C : Cs} {F : Nat → List Int} {a : Nat} (h : Inv C F) (hb : hasB C.xs.length C.ws a = true) (ha : a < 32 * C.ks.length) (k1 : 1 ≤ C.ks.getD (a / 32) 0) (k4 : C.ks.getD (a / 32) 0 ≤ 4) (hal : (a : Int) % 32 % sizeI (C.ks.getD (a / 32) 0) = 0)
    (hn : (a : Int) % 32 / sizeI (C.ks.getD (a / 32) 0) ∉ F (a / 32)) :
    Inv (giveS C a (a / 32) (C.ks.getD (a / 32) 0) ((a : Int) % 32 / sizeI (C.ks.getD (a / 32) 0)) (C.ch.getD (a / 32) (0, 0)).1 (C.ch.getD (a / 32) (0, 0)).2) (upd F (a / 32) ((a : Int) % 32 / sizeI (C.ks.getD (a / 32) 0) :: F (a / 32))) := by
  have hg := give_ok h ha k1 k4 hal hn
  have hq : a / 32 < C.ks.length := by omega
  obtain ⟨q, eq⟩ : ∃ q, q = a / 32 := ⟨_, rfl⟩
  rw [← eq] at k1 k4 hal hn hg hq ⊢
  obtain ⟨k, hk⟩ : ∃ k, k = C.ks.getD q 0 := ⟨_, rfl⟩
  rw [← hk] at k1 k4 hal hn hg ⊢
  have hkk : 1 ≤ k ∧ k ≤ 4 := ⟨k1, k4⟩
  obtain ⟨i, hi⟩ : ∃ i, i = (a : Int) % 32 / sizeI k := ⟨_, rfl⟩
  rw [← hi] at hn hg ⊢
  obtain ⟨f, hf⟩ : ∃ f, f = (C.ch.getD q (0, 0)).1 := ⟨_, rfl⟩
  obtain ⟨n, hnn⟩ : ∃ n, n = (C.ch.getD q (0, 0)).2 := ⟨_, rfl⟩
  rw [← hf, ← hnn] at hg ⊢
  have hlen := h.len
  have hle := h.le
  have hac : (a : Int) = cad q k i := by
    have := aligned hkk hal
    rw [← eq, ← hi] at this
    exact this
  have hcp := cad_page (p := q) hkk hg.i0 hg.i1
  unfold giveS
  rw [remL_off hb]
  have hx : ∀ b, b < C.xs.length → b ≠ a → (putL C.xs (cad q k i) (-1 - f)).getD b 0 = C.xs.getD b 0 := fun b hb2 hne => by
    rw [putL_get hb2, if_neg (by omega)]
  obtain ⟨C', hC'⟩ : ∃ C' : Cs, C' = { C with ws := bitOff C.ws a, ch := C.ch.set q (i, n + 1), xs := putL C.xs (cad q k i) (-1 - f) } := ⟨_, rfl⟩
  rw [← hC']
  have ks' : C'.ks = C.ks := by rw [hC']
  refine ⟨by rw [ks']; exact hle, by rw [ks', hC']; show (putL C.xs _ _).length = _; rw [putL_len]; exact hlen, by rw [hC']; simpa using h.chl, by rw [hC']; show (bitOff C.ws a).length = 32; rw [bitOff_len]; exact h.wl, by rw [ks']; exact h.kd, by rw [ks']; exact h.sx, fun p hp p1 p4 => ?_, fun b hb2 => ?_, fun b hb2 hb3 => ?_⟩
  · rw [ks'] at hp p1 p4 ⊢
    have ech : C'.ch = C.ch.set q (i, n + 1) := by rw [hC']
    have exs : C'.xs = putL C.xs (cad q k i) (-1 - f) := by rw [hC']
    rw [ech, exs]
    by_cases e : p = q
    · subst e
      obtain ⟨g1, g2, g3⟩ := h.ln p hp p1 p4
      rw [upd_same, getD_set_same (by rw [h.chl]; omega), ← hk]
      rw [← hk, ← hf] at g1
      refine ⟨⟨rfl, hg.i0, hg.i1, f, hg.f0, hg.f1, ?_, g1.keep fun j hj => ?_⟩, ?_, List.nodup_cons.2 ⟨hn, g3⟩⟩
      · rw [putL_get (by omega), if_pos (by omega)]
      · have hm := g1.mem j hj
        have hc2 := cad_page (p := p) hkk hm.1 hm.2
        have hs2 := sizeI_pos hkk
        have hd := cad_ne (p := (p : Int)) (k := k) (i := j) (j := i) (by omega) hkk hm.1 hg.i0 (by rintro rfl; exact hn hj)
        exact hx _ (by omega) (by omega)
      · rw [List.length_cons, hnn, g2]; simp
    · rw [upd_other _ e, getD_set_other (fun e2 => e e2.symm)]
      obtain ⟨g1, g2, g3⟩ := h.ln p hp p1 p4
      refine ⟨g1.keep fun j hj => ?_, g2, g3⟩
      have hm := g1.mem j hj
      have hc2 := cad_page (p := p) ⟨p1, p4⟩ hm.1 hm.2
      have hs2 := sizeI_pos (k := C.ks.getD p 0) ⟨p1, p4⟩
      exact hx _ (by omega) (by omega)
  · rw [ks'] at hb2
    have ews : C'.ws = bitOff C.ws a := by rw [hC']
    rw [ews, bitOff_get h.wl (show a < 2048 by omega), h.bt b hb2]
    by_cases e : b / 32 = q
    · rw [tkB_small (C := C) (F := F) (a := b) (k := k) (by rw [e]; exact hk.symm) hkk, tkB_small (C := C') (F := upd F q (i :: F q)) (a := b) (k := k) (by rw [ks', e]; exact hk.symm) hkk, e, upd_same]
      by_cases al : (b : Int) % 32 % sizeI k = 0
      · have hb4 := aligned hkk al
        rw [e] at hb4
        by_cases ef : (b : Int) % 32 / sizeI k = i
        · have : b = a := by rw [ef] at hb4; omega
          have hd : decide (b = a) = true := by simp [this]
          rw [hd, Bool.not_true, Bool.and_false]
          exact (decide_eq_false (fun hc => hc.2 (by rw [ef]; simp))).symm
        · have : ¬ b = a := by rintro rfl; exact ef hi.symm
          simp [al, ef, this]
      · simp [al]
    · rw [tkB_same (C := C) (F := F) (C' := C') (F' := upd F q (i :: F q)) (a := b) (by rw [ks']) (upd_other _ e)]
      have : ¬ b = a := by rintro rfl; exact e eq.symm
      simp [this]
  · rw [ks'] at hb2
    have ews : C'.ws = bitOff C.ws a := by rw [hC']
    rw [ews, bitOff_get h.wl (show a < 2048 by omega), h.tp b hb2 hb3]
    simp
end Go.Proofs.YtjoejjhgneccgaaGreat

/- Cells, in plain lists: large ones taken and given back; a page dropped. -/
namespace Go.Proofs.YtjoejjhgneccgaaGreat
open Go.RowKit

theorem run6_all : ∀ (ks : List Int) (q j : Nat), j < run6 ks q → ks.getD (q + j) 0 = 6 := by
  intro ks q j
  induction j generalizing q with
  | zero =>
    intro h
    apply Decidable.byContradiction; intro hc
    have : kindL ks q ≠ 6 := by
      by_cases hl : q < ks.length
      · rw [kindL_in hl]; simpa using hc
      · rw [kindL_out (.inr (by omega))]; omega
    rw [run6_stop this] at h
    omega
  | succ j ih =>
    intro h
    by_cases h6 : kindL ks q = 6
    · rw [run6_step h6] at h
      have := ih (q + 1) (by omega)
      rw [show q + (j + 1) = q + 1 + j by omega]
      exact this
    · rw [run6_stop h6] at h; omega
theorem run6_after (ks : List Int) (q : Nat) : kindL ks ((q + run6 ks q : Nat) : Int) ≠ 6 := by
  intro h
  have h1 : ∀ d q, run6 ks q = d → kindL ks ((q + d : Nat) : Int) ≠ 6 := by
    intro d
    induction d with
    | zero =>
      intro q hd h6
      rw [Nat.add_zero] at h6
      rw [run6_step h6] at hd; omega
    | succ d ih =>
      intro q hd
      by_cases h6 : kindL ks q = 6
      · rw [run6_step h6] at hd
        have := ih (q + 1) (by omega)
        rwa [show q + 1 + d = q + (d + 1) by omega] at this
      · rw [run6_stop h6] at hd; omega
  exact h1 _ _ rfl h
theorem getD_out {ks : List Int} {p : Nat} (h : ks.length ≤ p) : ks.getD p 0 = 0 := by
  rw [List.getD_eq_getElem?_getD, List.getElem?_eq_none h]; rfl
/-- Pages that become free. -/
theorem inv_free {C : Cs} {F : Nat → List Int} {p m : Nat} {W : List (BitVec 64)} (h : Inv C F) (hpm : p + m ≤ C.ks.length) (hsx : p + m < C.ks.length → C.ks.getD (p + m) 0 ≠ 6) (hwl : W.length = 32)
    (hb : ∀ a, a < 32 * C.ks.length → bit W a = if p ≤ a / 32 ∧ a / 32 < p + m then false else tkB C F a) (htp : ∀ a, 32 * C.ks.length ≤ a → a < 2048 → bit W a = false) :
    Inv { C with ks := fillL C.ks p m 0, ws := W } F := by
  have hl : (fillL C.ks p m 0).length = C.ks.length := fillL_len _ _ _ _
  have hg : ∀ q, q < C.ks.length → (fillL C.ks p m 0).getD q 0 = if p ≤ q ∧ q < p + m then 0 else C.ks.getD q 0 := fun q hq => fillL_get _ _ _ _ _ hq
  refine ⟨by rw [hl]; exact h.le, by rw [hl]; exact h.len, h.chl, hwl, fun q hq => ?_, fun q hq h6 => ?_, fun q hq k1 k4 => ?_, fun a ha => ?_, fun a ha ha2 => htp a (by rw [hl] at ha; exact ha) ha2⟩
  · have hq' : q < C.ks.length := by rw [← hl]; exact hq
    show 0 ≤ (fillL C.ks p m 0).getD q 0 ∧ (fillL C.ks p m 0).getD q 0 ≤ 6
    rw [hg q hq']
    split
    · omega
    · exact h.kd q hq'
  · have hq' : q < C.ks.length := by rw [← hl]; exact hq
    have h6' : (fillL C.ks p m 0).getD q 0 = 6 := h6
    rw [hg q hq'] at h6'
    split at h6'
    · omega
    · rename_i hnr
      obtain ⟨g0, g1⟩ := h.sx q hq' h6'
      refine ⟨g0, ?_⟩
      show (fillL C.ks p m 0).getD (q - 1) 0 = 5 ∨ (fillL C.ks p m 0).getD (q - 1) 0 = 6
      rw [hg _ (by omega), if_neg]
      · exact g1
      · rintro ⟨e1, e2⟩
        have : q = p + m := by omega
        subst this
        exact hsx hq' h6'
  · have hq' : q < C.ks.length := by rw [← hl]; exact hq
    have k1' : 1 ≤ (fillL C.ks p m 0).getD q 0 := k1
    have k4' : (fillL C.ks p m 0).getD q 0 ≤ 4 := k4
    show Lnk C.xs q ((fillL C.ks p m 0).getD q 0) _ _ ∧ _
    rw [hg q hq'] at k1' k4' ⊢
    split at k1'
    · omega
    · rename_i hnr
      rw [if_neg hnr] at k4' ⊢
      exact h.ln q hq' k1' k4'
  · have ha' : a < 32 * C.ks.length := by rw [← hl]; exact ha
    show bit W a = _
    rw [hb a ha']
    by_cases hr : p ≤ a / 32 ∧ a / 32 < p + m
    · rw [if_pos hr, tkB_other (k := 0) (by show (fillL C.ks p m 0).getD (a / 32) 0 = 0; rw [hg _ (by omega), if_pos hr]) (by omega)]
      simp
    · rw [if_neg hr]
      exact (tkB_same (by show (fillL C.ks p m 0).getD (a / 32) 0 = _; rw [hg _ (by omega), if_neg hr]) rfl).symm
theorem inv_give_large {C : Cs} {F : Nat → List Int} {a : Nat} (h : Inv C F) (hb : hasB C.xs.length C.ws a = true) (ha : a < 32 * C.ks.length) (h5 : C.ks.getD (a / 32) 0 = 5) (ha0 : a % 32 = 0) : Inv (giveL C a) F := by
  have hle := h.le
  have hpg : pageI a = ((a / 32 : Nat) : Int) := by rw [pageI_in (by omega) (by omega)]; omega
  have hk : kindL C.ks ((a / 32 : Nat) : Int) = 5 := by rw [kindL_in (by omega)]; exact h5
  have hs : sizeL C.ks ((a / 32 : Nat) : Int) = ((1 + run6 C.ks (a / 32 + 1) : Nat) : Int) := by
    unfold sizeL
    rw [hk, if_neg (by simp [sizeI]), if_neg (by simp), Int.toNat_natCast]
    omega
  have hin := sizeL_in (ks := C.ks) (p := ((a / 32 : Nat) : Int)) (by omega)
  have hf : freeL C.ks (pageI a) = fillL C.ks (a / 32) (1 + run6 C.ks (a / 32 + 1)) 0 := by
    unfold freeL; rw [hpg, hs, Int.toNat_natCast, Int.toNat_natCast]
  unfold giveL
  rw [hf, remL_off hb]
  refine inv_free h (by omega) (fun hlt => ?_) (by rw [bitOff_len]; exact h.wl) (fun b hb2 => ?_) (fun b hb2 hb3 => ?_)
  · have := run6_after C.ks (a / 32 + 1)
    rw [kindL_in (by omega)] at this
    rwa [show a / 32 + (1 + run6 C.ks (a / 32 + 1)) = a / 32 + 1 + run6 C.ks (a / 32 + 1) by omega]
  · rw [bitOff_get h.wl (show a < 2048 by omega), h.bt b hb2]
    split
    · rename_i hr
      by_cases e : b / 32 = a / 32
      · rw [tkB_other (k := 5) (by rw [e]; exact h5) (by omega)]
        by_cases e2 : b = a
        · simp [e2]
        · have : ¬ b % 32 = 0 := by omega
          simp [this]
      · have h6 := run6_all C.ks (a / 32 + 1) (b / 32 - (a / 32 + 1)) (by omega)
        rw [show a / 32 + 1 + (b / 32 - (a / 32 + 1)) = b / 32 by omega] at h6
        rw [tkB_other (k := 6) h6 (by omega)]
        simp
    · rename_i hr
      have : ¬ b = a := by rintro rfl; exact hr ⟨Nat.le_refl _, by omega⟩
      simp [this]
  · rw [bitOff_get h.wl (show a < 2048 by omega), h.tp b hb2 hb3]; simp
theorem inv_drop {C : Cs} {F : Nat → List Int} {p : Nat} (h : Inv C F) (hp : p < C.ks.length) (k1 : 1 ≤ C.ks.getD p 0) (k4 : C.ks.getD p 0 ≤ 4) (hl : cellsI (C.ks.getD p 0) ≤ leftL C p) : Inv { C with ks := freeL C.ks p } F := by
  have hk : kindL C.ks (p : Int) = C.ks.getD p 0 := kindL_in hp
  have hz := sizeI_pos ⟨k1, k4⟩
  obtain ⟨g1, g2, g3⟩ := h.ln p hp k1 k4
  have hc := cellsI_pos ⟨k1, k4⟩
  have hle := h.le
  have hlen : (cellsI (C.ks.getD p 0)) ≤ ((F p).length : Int) := by
    unfold leftL at hl
    rw [hk, if_pos (by omega), Int.toNat_natCast, g2] at hl
    exact hl
  have hall : ∀ i, 0 ≤ i → i < cellsI (C.ks.getD p 0) → i ∈ F p := fun i h0 h1 => by
    apply Decidable.byContradiction; intro hn
    have hfew := few_ints (cellsI (C.ks.getD p 0)).toNat (i :: F p) (List.nodup_cons.2 ⟨hn, g3⟩) (fun x hx => by
      rcases List.mem_cons.1 hx with rfl | hx
      · omega
      · have := g1.mem x hx; omega)
    rw [List.length_cons] at hfew
    omega
  have hs : sizeL C.ks p = 1 := by unfold sizeL; rw [hk, if_pos (by omega)]
  have hf : freeL C.ks p = fillL C.ks p 1 0 := by unfold freeL; rw [hs, Int.toNat_natCast]; rfl
  rw [hf]
  have := inv_free (C := C) (F := F) (p := p) (m := 1) (W := C.ws) h (by omega) (fun hlt h6 => ?_) h.wl (fun b hb2 => ?_) h.tp
  · exact this
  · have := (h.sx (p + 1) hlt h6).2
    rw [Nat.add_sub_cancel] at this
    omega
  · rw [h.bt b hb2]
    split
    · rename_i hr
      have e : b / 32 = p := by omega
      rw [tkB_small (k := C.ks.getD p 0) (by rw [e]) ⟨k1, k4⟩]
      have hx := idx_lt ⟨k1, k4⟩ b
      have := hall _ hx.1 hx.2
      exact decide_eq_false (fun hcc => hcc.2 (by rw [e]; exact this))
    · rfl
theorem runs_zero : ∀ (xs : List Int) (p n : Nat), n ≤ p → ∀ x ∈ runsFrom xs p n, ∀ j, x.1 ≤ j → j < x.1 + x.2 → (p - n ≤ j ∧ j < p) ∨ (p ≤ j ∧ xs.getD (j - p) 0 = 0)
  | [], p, n, h, x, hx, j, h1, h2 => by
    unfold runsFrom at hx
    split at hx
    · simp at hx; subst hx; simp at h1 h2; left; omega
    · simp at hx
  | y :: xs, p, n, h, x, hx, j, h1, h2 => by
    unfold runsFrom at hx
    split at hx
    · rename_i hy
      rcases runs_zero xs (p + 1) (n + 1) (by omega) x hx j h1 h2 with h3 | h3
      · by_cases e : j = p
        · subst e; right; exact ⟨Nat.le_refl _, by rw [Nat.sub_self]; simpa using hy⟩
        · left; omega
      · right
        refine ⟨by omega, ?_⟩
        rw [show j - p = (j - (p + 1)) + 1 by omega, List.getD_cons_succ]
        exact h3.2
    · split at hx
      · rcases List.mem_cons.1 hx with rfl | hx
        · left; simp at h1 h2; omega
        · rcases runs_zero xs (p + 1) 0 (by omega) x hx j h1 h2 with h3 | h3
          · omega
          · right
            refine ⟨by omega, ?_⟩
            rw [show j - p = (j - (p + 1)) + 1 by omega, List.getD_cons_succ]
            exact h3.2
      · rcases runs_zero xs (p + 1) 0 (by omega) x hx j h1 h2 with h3 | h3
        · omega
        · right
          refine ⟨by omega, ?_⟩
          rw [show j - p = (j - (p + 1)) + 1 by omega, List.getD_cons_succ]
          exact h3.2
theorem span_zero {ks : List Int} {n : Int} {p : Nat} (h : spanL ks n = some p) : ∀ j, p ≤ j → j < p + n.toNat → ks.getD j 0 = 0 := by
  unfold spanL at h
  split at h
  · cases h
  · cases h1 : (runsL ks).find? fun r => decide (n ≤ (r.2 : Int)) with
    | none => rw [h1] at h; cases h
    | some x =>
      rw [h1] at h
      obtain rfl : x.1 = p := by simpa using h
      have h2 := List.find?_some h1
      simp at h2
      intro j h3 h4
      rcases runs_zero ks 0 0 (Nat.le_refl _) x (List.mem_of_find?_eq_some h1) j h3 (by omega) with h5 | h5
      · omega
      · simpa using h5.2
theorem inv_large {C : Cs} {F : Nat → List Int} {n : Int} {p : Nat} (h : Inv C F) (hs : spanL C.ks n = some p) : Inv (largeC C n) F := by
  obtain ⟨hn, hpl⟩ := spanL_lt hs
  have hz := span_zero hs
  have hle := h.le
  have hlen := h.len
  obtain ⟨m, rfl⟩ := Int.eq_ofNat_of_zero_le (show 0 ≤ n by omega)
  rw [Int.toNat_natCast] at hpl hz
  have hc : largeC C m = { C with ks := spanS C.ks p m, ws := addL C.xs.length C.ws ((p : Int) * 32), xs := fillL C.xs (32 * p) (32 * m) 0 } := by
    unfold largeC
    rw [hs]
    show ({ C with ks := _, ws := _, xs := fillL C.xs ((p : Int) * 32).toNat ((m : Int) * 32).toNat 0 } : Cs) = _
    rw [show ((p : Int) * 32).toNat = 32 * p by omega, show ((m : Int) * 32).toNat = 32 * m by omega, Int.toNat_natCast]
  have hold : bit C.ws (32 * p) = false := by
    rw [h.bt _ (by omega), tkB_other (k := 0) (by rw [show 32 * p / 32 = p by omega]; exact hz p (Nat.le_refl _) (by omega)) (by omega)]
    simp
  have hadd : addL C.xs.length C.ws ((p : Int) * 32) = bitOn C.ws (32 * p) := by
    unfold addL
    have e : ((p : Int) * 32).toNat = 32 * p := by omega
    rw [if_pos, e]
    simp only [addB, inB, e, hold, Bool.not_false, Bool.and_true, decide_eq_true_eq]; omega
  rw [hc, hadd]
  have hl : (spanS C.ks p m).length = C.ks.length := by unfold spanS; simp [fillL_len]
  have hg : ∀ q, q < C.ks.length → (spanS C.ks p m).getD q 0 = if q = p then 5 else if p ≤ q ∧ q < p + m then 6 else C.ks.getD q 0 := fun q hq => by
    unfold spanS
    by_cases e : q = p
    · rw [if_pos e, e, getD_set_same (by rw [fillL_len]; omega)]
    · rw [if_neg e, getD_set_other (fun e2 => e e2.symm), fillL_get _ _ _ _ _ hq]
  refine ⟨by rw [hl]; exact hle, by rw [hl]; show (fillL _ _ _ _).length = _; rw [fillL_len]; exact hlen, h.chl, by rw [← h.wl]; exact bitOn_len _ _, fun q hq => ?_, fun q hq h6 => ?_, fun q hq k1 k4 => ?_, fun a ha => ?_, fun a ha ha2 => ?_⟩
  · have hq' : q < C.ks.length := by rw [← hl]; exact hq
    show 0 ≤ (spanS C.ks p m).getD q 0 ∧ (spanS C.ks p m).getD q 0 ≤ 6
    rw [hg q hq']
    split
    · omega
    · split
      · omega
      · exact h.kd q hq'
  · have hq' : q < C.ks.length := by rw [← hl]; exact hq
    have h6' : (spanS C.ks p m).getD q 0 = 6 := h6
    show 0 < q ∧ ((spanS C.ks p m).getD (q - 1) 0 = 5 ∨ (spanS C.ks p m).getD (q - 1) 0 = 6)
    rw [hg q hq'] at h6'
    split at h6'
    · omega
    · rename_i hne
      split at h6'
      · rename_i hr
        refine ⟨by omega, ?_⟩
        rw [hg _ (by omega)]
        by_cases e : q - 1 = p
        · rw [if_pos e]; exact .inl rfl
        · rw [if_neg e, if_pos (by omega)]; exact .inr rfl
      · rename_i hnr
        obtain ⟨g0, g1⟩ := h.sx q hq' h6'
        refine ⟨g0, ?_⟩
        have hnot : ¬ (p ≤ q - 1 ∧ q - 1 < p + m) := by
          rintro ⟨e1, e2⟩
          have := hz (q - 1) e1 e2
          omega
        rw [hg _ (by omega), if_neg (by omega), if_neg hnot]
        exact g1
  · have hq' : q < C.ks.length := by rw [← hl]; exact hq
    have k1' : 1 ≤ (spanS C.ks p m).getD q 0 := k1
    have k4' : (spanS C.ks p m).getD q 0 ≤ 4 := k4
    show Lnk (fillL C.xs (32 * p) (32 * m) 0) q ((spanS C.ks p m).getD q 0) _ _ ∧ _
    rw [hg q hq'] at k1' k4' ⊢
    split at k1'
    · rename_i e; rw [if_pos e] at k4'; omega
    · rename_i hne
      rw [if_neg hne] at k4' ⊢
      split at k1'
      · rename_i hr; rw [if_pos hr] at k4'; omega
      · rename_i hnr
        rw [if_neg hnr] at k4' ⊢
        obtain ⟨g1, g2⟩ := h.ln q hq' k1' k4'
        refine ⟨g1.keep fun i hi => ?_, g2⟩
        have hm := g1.mem i hi
        have hc2 := cad_page (p := q) ⟨k1', k4'⟩ hm.1 hm.2
        have hs2 := sizeI_pos (k := C.ks.getD q 0) ⟨k1', k4'⟩
        rw [fillL_get _ _ _ _ _ (by omega), if_neg]
        rintro ⟨e1, e2⟩
        exact hnr (by omega)
  · have ha' : a < 32 * C.ks.length := by rw [← hl]; exact ha
    show bit (bitOn C.ws (32 * p)) a = _
    rw [bitOn_get h.wl (show 32 * p < 2048 by omega), h.bt a ha']
    have hga : (spanS C.ks p m).getD (a / 32) 0 = if a / 32 = p then 5 else if p ≤ a / 32 ∧ a / 32 < p + m then 6 else C.ks.getD (a / 32) 0 := hg _ (by omega)
    by_cases e : a / 32 = p
    · rw [tkB_other (C := C) (k := 0) (hz _ (by omega) (by omega)) (by omega), tkB_other (k := 5) (by rw [if_pos e] at hga; exact hga) (by omega)]
      have : decide (a = 32 * p) = decide (a % 32 = 0) := by rw [decide_eq_decide]; omega
      simp [this]
    · have hne : decide (a = 32 * p) = false := decide_eq_false (by omega)
      rw [hne, Bool.or_false]
      by_cases hr : p ≤ a / 32 ∧ a / 32 < p + m
      · rw [tkB_other (C := C) (k := 0) (hz _ hr.1 hr.2) (by omega), tkB_other (k := 6) (by rw [if_neg e, if_pos hr] at hga; exact hga) (by omega)]
        simp
      · exact (tkB_same (by rw [if_neg e, if_neg hr] at hga; exact hga) rfl).symm
  · have ha3 : 32 * C.ks.length ≤ a := by rw [← hl]; exact ha
    show bit (bitOn C.ws (32 * p)) a = false
    rw [bitOn_get h.wl (show 32 * p < 2048 by omega), h.tp a ha3 ha2]
    simp; omega
end Go.Proofs.YtjoejjhgneccgaaGreat

/- Cells, in plain lists: what is taken lies apart. -/
namespace Go.Proofs.YtjoejjhgneccgaaGreat
open Go.RowKit

/-- Behind what begins at an address. -/
def endN (C : Cs) (a : Nat) : Nat := if 0 < sizeI (C.ks.getD (a / 32) 0) then a + (sizeI (C.ks.getD (a / 32) 0)).toNat else a + 32 * (1 + run6 C.ks (a / 32 + 1))
theorem bits_lt {C : Cs} {F : Nat → List Int} (h : Inv C F) {a : Nat} (ha : a ∈ bitsN C.ws) : a < 32 * C.ks.length ∧ tkB C F a = true := by
  unfold bitsN at ha
  rw [List.mem_filter, List.mem_range] at ha
  have hl : a < 32 * C.ks.length := by
    apply Decidable.byContradiction; intro hc
    rw [h.tp a (by omega) ha.1] at ha
    exact absurd ha.2 (by simp)
  exact ⟨hl, by rw [← h.bt a hl]; exact ha.2⟩
theorem down_to {ks : List Int} {p : Nat} (h5 : ks.getD p 0 ≠ 6) (hp : p < ks.length) : ∀ d, p + d < ks.length → (∀ j, 1 ≤ j → j ≤ d → ks.getD (p + j) 0 = 6) → downL ks (p + d) = p
  | 0, _, _ => downL_stop (by rw [Nat.add_zero, kindL_in hp]; exact h5)
  | d + 1, hl, hj => by
    rw [show p + (d + 1) = (p + d) + 1 by omega, downL_step (by rw [show ((p + d + 1 : Nat) : Int) = ((p + (d + 1) : Nat) : Int) by omega, kindL_in hl]; exact hj (d + 1) (by omega) (Nat.le_refl _))]
    exact down_to h5 hp d (by omega) (fun j h1 h2 => hj j h1 (by omega))
theorem has_of {C : Cs} {F : Nat → List Int} (h : Inv C F) {a : Nat} (ha : a ∈ bitsN C.ws) : hasB C.xs.length C.ws a = true := by
  have hl := (bits_lt h ha).1
  unfold bitsN at ha
  rw [List.mem_filter] at ha
  have := h.len
  unfold hasB inB
  rw [Int.toNat_natCast, ha.2]
  simp; omega
theorem size_div {k : Int} (hk : 1 ≤ k ∧ k ≤ 4) {a : Nat} (h : (a : Int) % 32 % sizeI k = 0) : (a : Int) % sizeI k = 0 ∧ a % 32 + (sizeI k).toNat ≤ 32 ∧ ((a : Int) + sizeI k - 1) % sizeI k = sizeI k - 1 := by
  have hc : k = 1 ∨ k = 2 ∨ k = 3 ∨ k = 4 := by omega
  rcases hc with rfl | rfl | rfl | rfl <;> simp [sizeI] at * <;> omega
/-- A small one: each address in it tells it. -/
theorem apart_small {C : Cs} {F : Nat → List Int} (h : Inv C F) {a : Nat} (ha : a ∈ bitsN C.ws) (hs : 0 < sizeI (C.ks.getD (a / 32) 0)) :
    (a : Int) % sizeI (C.ks.getD (a / 32) 0) = 0 ∧ baseC C a = a ∧ baseC C (a + sizeI (C.ks.getD (a / 32) 0) - 1) = a := by
  obtain ⟨hl, ht⟩ := bits_lt h ha
  have hle := h.le
  have hk : 1 ≤ C.ks.getD (a / 32) 0 ∧ C.ks.getD (a / 32) 0 ≤ 4 := by
    apply Decidable.byContradiction; intro hc
    rw [sizeI_zero (by omega)] at hs; omega
  obtain ⟨k, ek⟩ : ∃ k, k = C.ks.getD (a / 32) 0 := ⟨_, rfl⟩
  rcases tk_cases ht with ⟨k1, k4, al, _⟩ | ⟨h5, _⟩
  · rw [← ek] at hk al hs ⊢
    have hd := size_div hk al
    have hsz := sizeI_pos hk
    have hhas := has_of h ha
    have hb : ∀ x : Int, (a : Int) ≤ x → x < a + sizeI k → x - x % sizeI k = a → baseC C x = a := fun x h1 h2 h3 => by
      have hp : pageI x = ((a / 32 : Nat) : Int) := by rw [pageI_in (by omega) (by omega)]; omega
      have hkx : kindL C.ks (pageI x) = k := by rw [hp, kindL_in (by omega), ek]
      have hbx : baseI k x = a := by rw [baseI_in (by omega) (by omega) (by omega)]; exact h3
      have hg : begC C x = a := by unfold begC; rw [hkx, hbx, if_neg (by omega)]
      unfold baseC; rw [hg, if_pos hhas]
    refine ⟨hd.1, hb a (by omega) (by omega) (by omega), hb _ (by omega) (by omega) (by omega)⟩
  · omega
/-- A large one. -/
theorem apart_large {C : Cs} {F : Nat → List Int} (h : Inv C F) {a : Nat} (ha : a ∈ bitsN C.ws) (hs : ¬ 0 < sizeI (C.ks.getD (a / 32) 0)) :
    C.ks.getD (a / 32) 0 = 5 ∧ a % 32 = 0 ∧ a / 32 + (1 + run6 C.ks (a / 32 + 1)) ≤ C.ks.length ∧ baseC C a = a ∧ baseC C ((a + 32 * (1 + run6 C.ks (a / 32 + 1)) : Nat) - 1 : Int) = a := by
  obtain ⟨hl, ht⟩ := bits_lt h ha
  have hle := h.le
  have hhas := has_of h ha
  rcases tk_cases ht with ⟨k1, k4, _⟩ | ⟨h5, h0⟩
  · have := sizeI_pos ⟨k1, k4⟩; omega
  · obtain ⟨r, er⟩ : ∃ r, r = run6 C.ks (a / 32 + 1) := ⟨_, rfl⟩
    rw [← er]
    have hend := run6_end C.ks (a / 32 + 1) (by omega)
    rw [← er] at hend
    have h6 : ∀ j, j < r → C.ks.getD (a / 32 + 1 + j) 0 = 6 := fun j hj => run6_all _ _ _ (by rw [← er]; exact hj)
    have hb : ∀ d, d ≤ r → ∀ x : Int, pageI x = ((a / 32 + d : Nat) : Int) → baseC C x = a := fun d hd x hp => by
      have hkd : kindL C.ks ((a / 32 + d : Nat) : Int) = 5 ∨ kindL C.ks ((a / 32 + d : Nat) : Int) = 6 := by
        rw [kindL_in (by omega)]
        by_cases e : d = 0
        · subst e; left; exact h5
        · right
          have := h6 (d - 1) (by omega)
          rwa [show a / 32 + 1 + (d - 1) = a / 32 + d by omega] at this
      have hz : sizeI (kindL C.ks ((a / 32 + d : Nat) : Int)) = 0 := by rcases hkd with e | e <;> rw [e] <;> rfl
      have hbx : baseI (kindL C.ks ((a / 32 + d : Nat) : Int)) x = -1 := baseI_out (.inl hz)
      have hdn : downL C.ks (a / 32 + d) = ((a / 32 : Nat) : Int) := down_to (by rw [h5]; omega) (by omega) d (by omega) (fun j h1 h2 => by
        have := h6 (j - 1) (by omega)
        rwa [show a / 32 + 1 + (j - 1) = a / 32 + j by omega] at this)
      have hsz : sizeL C.ks ((a / 32 : Nat) : Int) ≠ 0 := by
        unfold sizeL
        rw [kindL_in (by omega), h5, if_neg (by simp [sizeI]), if_neg (by simp)]
        omega
      have hf : firstL C.ks ((a / 32 + d : Nat) : Int) = ((a / 32 : Nat) : Int) := by
        unfold firstL
        simp only [if_neg (show ¬ ((a / 32 + d : Nat) : Int) < 0 by omega), Int.toNat_natCast, hdn]
        rw [if_neg hsz]
      have hg : begC C x = a := by
        unfold begC
        rw [hp, hbx, hf, if_pos (by omega)]
        omega
      unfold baseC; rw [hg, if_pos hhas]
    refine ⟨h5, h0, by omega, hb 0 (by omega) _ (by rw [pageI_in (by omega) (by omega)]; omega), hb r (Nat.le_refl _) _ ?_⟩
    rw [pageI_in (by omega) (by omega)]
    omega
/-- No two meet. -/
theorem apart_next {C : Cs} {F : Nat → List Int} (h : Inv C F) {a b : Nat} (ha : a ∈ bitsN C.ws) (hb : b ∈ bitsN C.ws) (hab : a < b) : endN C a ≤ b := by
  obtain ⟨hla, hta⟩ := bits_lt h ha
  obtain ⟨hlb, htb⟩ := bits_lt h hb
  unfold endN
  by_cases hs : 0 < sizeI (C.ks.getD (a / 32) 0)
  · rw [if_pos hs]
    have hk : 1 ≤ C.ks.getD (a / 32) 0 ∧ C.ks.getD (a / 32) 0 ≤ 4 := by
      apply Decidable.byContradiction; intro hc
      rw [sizeI_zero (by omega)] at hs; omega
    rcases tk_cases hta with ⟨_, _, al, _⟩ | ⟨h5, _⟩
    · have hd := size_div hk al
      by_cases e : a / 32 = b / 32
      · rcases tk_cases htb with ⟨_, _, bl, _⟩ | ⟨h5, _⟩
        · rw [← e] at bl
          have hc : C.ks.getD (a / 32) 0 = 1 ∨ C.ks.getD (a / 32) 0 = 2 ∨ C.ks.getD (a / 32) 0 = 3 ∨ C.ks.getD (a / 32) 0 = 4 := by omega
          rcases hc with hc | hc | hc | hc <;> rw [hc] at al bl ⊢ <;> simp [sizeI] at al bl ⊢ <;> omega
        · rw [← e] at h5; omega
      · omega
    · omega
  · rw [if_neg hs]
    obtain ⟨h5, h0, hend, -⟩ := apart_large h ha hs
    apply Decidable.byContradiction; intro hc
    have hr : b / 32 - a / 32 ≤ run6 C.ks (a / 32 + 1) := by omega
    by_cases e : a / 32 = b / 32
    · rcases tk_cases htb with ⟨k1, k4, _⟩ | ⟨_, hb0⟩
      · rw [← e] at k1 k4; omega
      · omega
    · have h6 := run6_all C.ks (a / 32 + 1) (b / 32 - (a / 32 + 1)) (by omega)
      rw [show a / 32 + 1 + (b / 32 - (a / 32 + 1)) = b / 32 by omega] at h6
      rcases tk_cases htb with ⟨k1, k4, _⟩ | ⟨h55, _⟩
      · omega
      · omega
end Go.Proofs.YtjoejjhgneccgaaGreat

/- Cells: what the law asks of each that is taken. -/
namespace Go.Proofs.YtjoejjhgneccgaaGreat
open Go.RowKit

theorem filt_sorted (f : Nat → Bool) (n : Nat) : ((List.range n).filter f).Pairwise (· < ·) := List.Pairwise.filter _ List.pairwise_lt_range
theorem bitsN_sorted (ws : List (BitVec 64)) : (bitsN ws).Pairwise (· < ·) := filt_sorted (bit ws) 2048
theorem sorted_at {l : List Nat} (hs : l.Pairwise (· < ·)) {k : Nat} (hk : k < l.length) : ∃ a, a ∈ l ∧ (l.map Int.ofNat).getD k 0 = (a : Int) ∧ (k + 1 < l.length → ∃ b, b ∈ l ∧ (l.map Int.ofNat).getD (k + 1) 0 = (b : Int) ∧ a < b) := by
  refine ⟨l[k], List.getElem_mem hk, ?_, fun h1 => ⟨l[k + 1], List.getElem_mem h1, ?_, List.pairwise_iff_getElem.1 hs k (k + 1) hk h1 (by omega)⟩⟩
  · rw [List.getD_eq_getElem?_getD, List.getElem?_map, List.getElem?_eq_getElem hk]; rfl
  · rw [List.getD_eq_getElem?_getD, List.getElem?_map, List.getElem?_eq_getElem h1]; rfl
/-- A small one at place k. -/
structure ApSm (C : Cs) (k : Nat) (z s : Int) : Prop where
  z0 : 0 ≤ z
  z1 : z < 2048
  at_ : (bitsI C.ws).getD k 0 = z
  s0 : 0 < s
  s1 : s ≤ 16
  kd : sizeI (kindL C.ks (z / 32)) = s
  al : z % s = 0
  b0 : baseC C z = z
  b1 : baseC C (z + s - 1) = z
  nx : k + 1 < (bitsI C.ws).length → z + s ≤ (bitsI C.ws).getD (k + 1) 0
/-- A large one at place k, of r pages behind its first. -/
structure ApLg (C : Cs) (k : Nat) (z : Int) (p r : Nat) : Prop where
  z0 : z = 32 * p
  r0 : p + (1 + r) ≤ C.ks.length
  p1 : C.ks.length ≤ 64
  at_ : (bitsI C.ws).getD k 0 = z
  kd : kindL C.ks p = 5
  run : r = run6 C.ks (p + 1)
  b0 : baseC C z = z
  b1 : baseC C (z + 32 + 32 * r - 1) = z
  nx : k + 1 < (bitsI C.ws).length → z + 32 + 32 * r ≤ (bitsI C.ws).getD (k + 1) 0
theorem ap_at {C : Cs} {F : Nat → List Int} (h : Inv C F) {k : Nat} (hk : k < (bitsI C.ws).length) : (∃ z s, ApSm C k z s) ∨ (∃ z p r, ApLg C k z p r) := by
  have hl : (bitsI C.ws).length = (bitsN C.ws).length := by unfold bitsI; rw [List.length_map]
  rw [hl] at hk
  obtain ⟨a, hm, hg, hn⟩ := sorted_at (bitsN_sorted C.ws) hk
  obtain ⟨hlt, htk⟩ := bits_lt h hm
  have hle := h.le
  have hnext : k + 1 < (bitsI C.ws).length → (endN C a : Int) ≤ (bitsI C.ws).getD (k + 1) 0 := fun h1 => by
    rw [hl] at h1
    obtain ⟨b, hb, hb2, hb3⟩ := hn h1
    refine Int.le_trans (Int.ofNat_le.2 (apart_next h hm hb hb3)) (Int.le_of_eq hb2.symm)
  have hkd : kindL C.ks ((a : Int) / 32) = C.ks.getD (a / 32) 0 := by
    rw [show (a : Int) / 32 = ((a / 32 : Nat) : Int) by omega, kindL_in (by omega)]
  by_cases hs : 0 < sizeI (C.ks.getD (a / 32) 0)
  · obtain ⟨h1, h2, h3⟩ := apart_small h hm hs
    refine .inl ⟨a, sizeI (C.ks.getD (a / 32) 0), by omega, by omega, hg, hs, (sizeI_bd _).2, by rw [hkd], h1, h2, h3, fun hn => ?_⟩
    have := hnext hn
    unfold endN at this
    rw [if_pos hs] at this
    omega
  · obtain ⟨h1, h2, h3, h4, h5⟩ := apart_large h hm hs
    refine .inr ⟨a, a / 32, run6 C.ks (a / 32 + 1), by omega, h3, hle, hg, by rw [kindL_in (by omega)]; exact h1, rfl, h4, ?_, fun hn => ?_⟩
    · have e : (a : Int) + 32 + 32 * (run6 C.ks (a / 32 + 1) : Int) - 1 = ((a + 32 * (1 + run6 C.ks (a / 32 + 1)) : Nat) : Int) - 1 := by
        generalize run6 C.ks (a / 32 + 1) = r
        omega
      rw [e]
      exact h5
    · refine Int.le_trans (Int.le_of_eq ?_) (hnext hn)
      unfold endN
      rw [if_neg hs]
      generalize run6 C.ks (a / 32 + 1) = r
      omega
end Go.Proofs.YtjoejjhgneccgaaGreat
