/- A store: the lowest page of a class with room. -/
import Derived.Test.YtjoejjhgneccgaaGreatDoorQSN11
import Derived.Test.YtjoejjhgneccgaaGreatDoorQSN13
namespace Go.Proofs.YtjoejjhgneccgaaGreatDoor
open Go.RowKit

/-- Is a page somebody's? -/
def ownB (M : OwnM) (p : Int) : Bool := (List.range 9).any fun t => (List.range 4).any fun k => M (t : Int) ((k : Int) + 1) == some p
theorem ownB_iff {M : OwnM} (hd : Dom M) (p : Int) : ownB M p = true ↔ ∃ t k, M t k = some p := by
  unfold ownB
  simp only [List.any_eq_true, List.mem_range, beq_iff_eq]
  constructor
  · rintro ⟨t, -, k, -, h⟩
    exact ⟨_, _, h⟩
  · rintro ⟨t, k, h⟩
    obtain ⟨h1, h2, h3, h4, -⟩ := hd t k p h
    obtain ⟨a, rfl⟩ := Int.eq_ofNat_of_zero_le h1
    obtain ⟨c, hc⟩ := Int.eq_ofNat_of_zero_le (show 0 ≤ k - 1 by omega)
    refine ⟨a, by omega, c, by omega, ?_⟩
    rw [show (c : Int) + 1 = k by omega]
    exact h
theorem dom_wf {M : OwnM} (hd : Dom M) {t k p : Int} (h : M t k = some p) : wfI t ∧ wfI k := by
  obtain ⟨h1, h2, h3, h4, -⟩ := hd t k p h
  exact ⟨⟨by omega, by omega⟩, by omega, by omega⟩
section
variable {w w' : World} {c b : Nat} {th : Int} {M : OwnM}
def OwnYes (M : OwnM) (p : Int) (e : Ending) : Prop := ∃ t k : Int, e = .returned (.tuple #[.int .i64 t, .int .i64 k]) ∧ M t k = some p
theorem caowner_yes (h : CaX w c b th M) (p : Int) (ho : ownB M p = true) :
    Calls Tryz.prog 107 #[.pointer (some ⟨c, 0, none⟩), .int .i64 p] w fun e w' => OwnYes M p e ∧ Below w.heap.size w w' := by
  refine (caowner_any h p).mono ?_
  rintro e w' ⟨⟨t, k, rfl, h1 | ⟨-, -, h1⟩⟩, hb⟩
  · exact ⟨⟨t, k, rfl, h1.1⟩, hb⟩
  · obtain ⟨t', k', h2⟩ := (ownB_iff h.mp.dom p).1 ho
    have := dom_wf h.mp.dom h2
    exact absurd h2 (h1 t' k' this.1 this.2)
theorem caowner_no (h : CaX w c b th M) (p : Int) (ho : ownB M p = false) :
    Calls Tryz.prog 107 #[.pointer (some ⟨c, 0, none⟩), .int .i64 p] w fun e w' => e = .returned (.tuple #[.int .i64 (-1), .int .i64 0]) ∧ Below w.heap.size w w' := by
  refine (caowner_any h p).mono ?_
  rintro e w' ⟨⟨t, k, rfl, h1 | ⟨rfl, rfl, -⟩⟩, hb⟩
  · have := (ownB_iff h.mp.dom p).2 ⟨t, k, h1.1⟩
    rw [ho] at this
    cases this
  · exact ⟨rfl, hb⟩
end
def openB (S : Sm) (k p : Int) : Bool := !ownB S.M p && (kindL S.C.ks p == k) && decide (0 < leftL S.C p)
def openL (S : Sm) (k : Int) : Option Nat := (List.range S.C.ks.length).find? fun p => openB S k (p : Int)
theorem openL_some {S : Sm} {k : Int} {j : Nat} (hj : j < S.C.ks.length) (h0 : ∀ x, x < j → openB S k (x : Int) = false) (h1 : openB S k (j : Int) = true) : openL S k = some j := by
  unfold openL
  rw [List.find?_range_eq_some]
  exact ⟨h1, by simpa using hj, fun x hx => by simpa using h0 x hx⟩
theorem openL_none {S : Sm} {k : Int} (h0 : ∀ x, x < S.C.ks.length → openB S k (x : Int) = false) : openL S k = none := by
  unfold openL
  rw [List.find?_eq_none]
  intro x hx
  simpa using h0 x (by simpa using hx)
/-- The page, and what is carved. -/
def openP (S : Sm) (k : Int) : Option Nat := match openL S k with | some p => some p | none => takeT S.C.ks k
def openS (S : Sm) (k : Int) : Sm := match openL S k with | some _ => S | none => { S with C := carveC S.C k }
section
variable {w w' : World} {b : Sl} {S : Sm}
set_option maxHeartbeats 4000000 in
set_option maxRecDepth 100000 in
theorem sopen_any (h : StX w b S) (k : Int) (hn : S.np = (S.C.ks.length : Nat)) :
    Calls Tryz.prog 92 #[.pointer (some ⟨b.s, 0, none⟩), .int .i64 k] w fun e w' => TakeE (openP S k) e ∧ StX w' b (openS S k) ∧ Frm b.fp w w' := by
  have H := Lib.hid h
  have B0 := Lib.hid (Below.refl w.heap.size w)
  have hle := h.cx.tx.le
  obtain ⟨c0, c1, -, c3, -⟩ := h.cells
  rw [hn] at c3
  clear h hn
  go_enter Tryz.func92, Tryz.ntmps92
  go_wp2_with fail
  go_loopw [13] (fun i wr => ∃ j : Nat, i = .int .i64 (j : Int) ∧ j ≤ S.C.ks.length ∧ Hid (∀ x, x < j → openB S k (x : Int) = false) ∧ Hid (Below w.heap.size w wr)) (fun i _ => 65 - (intOf i).toNat)
  case atStart => exact ⟨0, rfl, by omega, Lib.hid (fun x hx => by omega), B0⟩
  case round =>
    clear B0
    obtain ⟨j, rfl, hj, HA, HB⟩ := hrel
    have hx := H.out.below HB.out
    obtain ⟨d0, d1, -⟩ := hx.cells
    have HX := Lib.hid hx
    clear hx
    by_cases hj2 : j = S.C.ks.length
    · have l0 : decide (j < S.C.ks.length) = false := by simp; omega
      have HO := Lib.hid (openL_none (S := S) (k := k) (fun x hx => HA.out x (by omega)))
      clear hj2 hj
      go_wp2_with (go_at_call 147; refine (ccarve_any HX.out.cx k).mono ?_; rintro e w2 ⟨rfl, hx, hf⟩; have H2 := Lib.hid (HX.out.withCX hf hx); have F2 := Lib.hid ((Frm.of_below b.fp HB.out).trans (hf.sub (fp' := b.fp) b.sub_cb) (fun x hx => .inl hx)); clear hx hf)
      all_goals
        rename_i heq
        go_ret2
        exact ⟨by unfold openP TakeE; rw [HO.out]; simp only [heq]; rfl, by unfold openS; rw [HO.out]; exact H2.out, F2.out⟩
    · have hj3 : j < S.C.ks.length := by omega
      have l1 : decide (j < S.C.ks.length) = true := by simp; omega
      have k1 : IntKind.i64.wrap ((j : Int) + 1) = ((j + 1 : Nat) : Int) := by rw [IntKind.wrap_i64]; omega
      have HJ := Lib.hid hj3
      have H64 := Lib.hid (show j < 64 by omega)
      clear hj hj2 hj3
      cases ho : ownB S.M (j : Int) with
      | true =>
        have HOB := Lib.hid ho
        have HN := Lib.hid (show openB S k (j : Int) = false by unfold openB; rw [ho]; rfl)
        clear ho
        go_wp2_with (go_at_call 107; refine (caowner_yes HX.out.ca j HOB.out).mono ?_; rintro e w1 ⟨⟨t, q, rfl, ht⟩, hb⟩; have t0 : decide (t < 0) = false := (by have := (HX.out.ca.mp.dom t q _ ht).1; rw [decide_eq_false_iff_not]; omega); have B1 := Lib.hid (below_next HB.out hb); clear ht hb)
        go_roundw
        case rel => exact ⟨j + 1, rfl, HJ.out, Lib.hid (fun x hx => by by_cases e : x = j; · subst e; exact HN.out
                                                                       · exact HA.out x (by omega)), B1⟩
        case measure => simp only [intOf]; have := H64.out; omega
      | false =>
        have HOB := Lib.hid ho
        by_cases hk : kindL S.C.ks (j : Int) = k
        · have hkk : (kindL S.C.ks (j : Int) == k) = true := by simpa using hk
          by_cases hl : 0 < leftL S.C (j : Int)
          · have hll : decide (0 < leftL S.C (j : Int)) = true := by simpa using hl
            have HO := Lib.hid (openL_some HJ.out HA.out (show openB S k (j : Int) = true by unfold openB; rw [ho, hkk, hll]; rfl))
            clear ho hk hl
            go_wp2_with (first
              | (go_at_call 107; refine (caowner_no HX.out.ca j HOB.out).mono ?_; rintro e w1 ⟨rfl, hb⟩; have hx := HX.out.below hb; obtain ⟨e0, e1, -⟩ := hx.cells; have H1 := Lib.hid hx; have B1 := Lib.hid (below_next HB.out hb); clear hx hb)
              | (go_at_call 106; refine (ckind_any H1.out.cx j).mono ?_; rintro e w2 ⟨rfl, hb⟩; have hx := H1.out.below hb; obtain ⟨f0, f1, -⟩ := hx.cells; have H2 := Lib.hid hx; have B2 := Lib.hid (below_next B1.out hb); clear hx hb)
              | (go_at_call 139; refine (cleft_any H2.out.cx j).mono ?_; rintro e w3 ⟨rfl, hb⟩; have H3 := Lib.hid (H2.out.below hb); have B3 := Lib.hid (below_next B2.out hb); clear hb))
            go_ret2
            exact ⟨by unfold openP; rw [HO.out]; rfl, by unfold openS; rw [HO.out]; exact H3.out, Frm.of_below b.fp B3.out⟩
          · have hll : decide (0 < leftL S.C (j : Int)) = false := by simpa using hl
            have HN := Lib.hid (show openB S k (j : Int) = false by unfold openB; rw [hll, Bool.and_false])
            clear ho hk hl
            go_wp2_with (first
              | (go_at_call 107; refine (caowner_no HX.out.ca j HOB.out).mono ?_; rintro e w1 ⟨rfl, hb⟩; have hx := HX.out.below hb; obtain ⟨e0, e1, -⟩ := hx.cells; have H1 := Lib.hid hx; have B1 := Lib.hid (below_next HB.out hb); clear hx hb)
              | (go_at_call 106; refine (ckind_any H1.out.cx j).mono ?_; rintro e w2 ⟨rfl, hb⟩; have hx := H1.out.below hb; obtain ⟨f0, f1, -⟩ := hx.cells; have H2 := Lib.hid hx; have B2 := Lib.hid (below_next B1.out hb); clear hx hb)
              | (go_at_call 139; refine (cleft_any H2.out.cx j).mono ?_; rintro e w3 ⟨rfl, hb⟩; have H3 := Lib.hid (H2.out.below hb); have B3 := Lib.hid (below_next B2.out hb); clear hb))
            go_roundw
            case rel => exact ⟨j + 1, rfl, HJ.out, Lib.hid (fun x hx => by by_cases e : x = j; · subst e; exact HN.out
                                                                           · exact HA.out x (by omega)), B3⟩
            case measure => simp only [intOf]; have := H64.out; omega
        · have hkk : (kindL S.C.ks (j : Int) == k) = false := by simpa using hk
          have HN := Lib.hid (show openB S k (j : Int) = false by unfold openB; rw [hkk, Bool.and_false, Bool.false_and])
          clear ho hk
          go_wp2_with (first
            | (go_at_call 107; refine (caowner_no HX.out.ca j HOB.out).mono ?_; rintro e w1 ⟨rfl, hb⟩; have hx := HX.out.below hb; obtain ⟨e0, e1, -⟩ := hx.cells; have H1 := Lib.hid hx; have B1 := Lib.hid (below_next HB.out hb); clear hx hb)
            | (go_at_call 106; refine (ckind_any H1.out.cx j).mono ?_; rintro e w2 ⟨rfl, hb⟩; have hx := H1.out.below hb; have H2 := Lib.hid hx; have B2 := Lib.hid (below_next B1.out hb); clear hx hb))
          go_roundw
          case rel => exact ⟨j + 1, rfl, HJ.out, Lib.hid (fun x hx => by by_cases e : x = j; · subst e; exact HN.out
                                                                         · exact HA.out x (by omega)), B2⟩
          case measure => simp only [intOf]; have := H64.out; omega
end
end Go.Proofs.YtjoejjhgneccgaaGreatDoor

/- Cells, in plain lists: given back; a page dropped; large ones. -/
namespace Go.Proofs.YtjoejjhgneccgaaGreatDoor
open Go.RowKit

theorem has_tk {C : Cs} {F : Nat → List Int} {x : Int} (h : Inv C F) (hb : hasB C.xs.length C.ws x = true) : ∃ a : Nat, x = a ∧ a < 32 * C.ks.length ∧ bit C.ws a = true ∧ tkB C F a = true := by
  unfold hasB inB at hb
  simp only [Bool.and_eq_true, decide_eq_true_eq] at hb
  obtain ⟨a, rfl⟩ := Int.eq_ofNat_of_zero_le hb.1.1
  have hl := h.len
  have ha : a < 32 * C.ks.length := by omega
  rw [Int.toNat_natCast] at hb
  exact ⟨a, rfl, ha, hb.2, by rw [← h.bt a ha]; exact hb.2⟩
theorem tk_cases {C : Cs} {F : Nat → List Int} {a : Nat} (h : tkB C F a = true) : (1 ≤ C.ks.getD (a / 32) 0 ∧ C.ks.getD (a / 32) 0 ≤ 4 ∧ (a : Int) % 32 % sizeI (C.ks.getD (a / 32) 0) = 0 ∧ (a : Int) % 32 / sizeI (C.ks.getD (a / 32) 0) ∉ F (a / 32)) ∨ (C.ks.getD (a / 32) 0 = 5 ∧ a % 32 = 0) := by
  unfold tkB at h
  split at h
  · rename_i hk
    have := of_decide_eq_true h
    exact .inl ⟨hk.1, hk.2, this.1, this.2⟩
  · exact .inr (of_decide_eq_true h)
theorem mod_size {k : Int} (hk : 1 ≤ k ∧ k ≤ 4) {a : Int} (h : a % 32 % sizeI k = 0) : a % sizeI k = 0 := by
  have hc : k = 1 ∨ k = 2 ∨ k = 3 ∨ k = 4 := by omega
  rcases hc with rfl | rfl | rfl | rfl <;> simp [sizeI] at * <;> omega
/-- What is taken may be given back. -/
theorem give_ok {C : Cs} {F : Nat → List Int} {a : Nat} (h : Inv C F) (ha : a < 32 * C.ks.length) (k1 : 1 ≤ C.ks.getD (a / 32) 0) (k4 : C.ks.getD (a / 32) 0 ≤ 4) (hal : (a : Int) % 32 % sizeI (C.ks.getD (a / 32) 0) = 0)
    (hn : (a : Int) % 32 / sizeI (C.ks.getD (a / 32) 0) ∉ F (a / 32)) :
    GiveP C a (a / 32) (C.ks.getD (a / 32) 0) ((a : Int) % 32 / sizeI (C.ks.getD (a / 32) 0)) (C.ch.getD (a / 32) (0, 0)).1 (C.ch.getD (a / 32) (0, 0)).2 := by
  have hq : a / 32 < C.ks.length := by omega
  have hle := h.le
  obtain ⟨g1, g2, g3⟩ := h.ln _ hq k1 k4
  have hx := idx_lt ⟨k1, k4⟩ a
  have hf := g1.first ⟨k1, k4⟩
  have hc := cellsI_pos ⟨k1, k4⟩
  have hfew := few_ints (cellsI (C.ks.getD (a / 32) 0)).toNat ((a : Int) % 32 / sizeI (C.ks.getD (a / 32) 0) :: F (a / 32)) (List.nodup_cons.2 ⟨hn, g3⟩) (fun x hm => by
    rcases List.mem_cons.1 hm with rfl | hm
    · omega
    · have := g1.mem x hm; omega)
  rw [List.length_cons] at hfew
  exact ⟨hq, by rw [pageI_in (by omega) (by omega)]; omega, by omega, by omega, kindL_in hq, k1, k4, mod_size ⟨k1, k4⟩ hal, rfl, hx.1, hx.2, rfl, by rw [g2]; omega, by rw [g2]; omega, hf.1, hf.2⟩
theorem remL_off {C : Cs} {a : Nat} (h : hasB C.xs.length C.ws a = true) : remL C.xs.length C.ws a = bitOff C.ws a := by
  unfold remL; rw [if_pos h, Int.toNat_natCast]
theorem inv_give {C : Cs} {F : Nat → List Int} {a : Nat} (h : Inv C F) (hb : hasB C.xs.length C.ws a = true) (ha : a < 32 * C.ks.length) (k1 : 1 ≤ C.ks.getD (a / 32) 0) (k4 : C.ks.getD (a / 32) 0 ≤ 4) (hal : (a : Int) % 32 % sizeI (C.ks.getD (a / 32) 0) = 0)
    (hn : (a : Int) % 32 / sizeI (C.ks.getD (a / 32) 0) ∉ F (a / 32)) :
    Inv (giveS C a (a / 32) (C.ks.getD (a / 32) 0) ((a : Int) % 32 / sizeI (C.ks.getD (a / 32) 0)) (C.ch.getD (a / 32) (0, 0)).1 (C.ch.getD (a / 32) (0, 0)).2) (upd F (a / 32) ((a : Int) % 32 / sizeI (C.ks.getD (a / 32) 0) :: F (a / 32))) := by
  have hg := give_ok h ha k1 k4 hal hn
  have hq : a / 32 < C.ks.length := by omega
  obtain ⟨q, eq⟩ : ∃ q, q = a / 32 := ⟨_, rfl⟩
  rw [← eq] at k1 k4 hal hn hg hq ⊢
  obtain ⟨k, hk⟩ : ∃ k, k = C.ks.getD q 0 := ⟨_, rfl⟩
  rw [← hk] at k1 k4 hal hn hg ⊢
  have hkk : 1 ≤ k ∧ k ≤ 4 := ⟨k1, k4⟩
  obtain ⟨i, hi⟩ : ∃ i, i = (a : Int) % 32 / sizeI k := ⟨_, rfl⟩
  rw [← hi] at hn hg ⊢
  obtain ⟨f, hf⟩ : ∃ f, f = (C.ch.getD q (0, 0)).1 := ⟨_, rfl⟩
  obtain ⟨n, hnn⟩ : ∃ n, n = (C.ch.getD q (0, 0)).2 := ⟨_, rfl⟩
  rw [← hf, ← hnn] at hg ⊢
  have hlen := h.len
  have hle := h.le
  have hac : (a : Int) = cad q k i := by
    have := aligned hkk hal
    rw [← eq, ← hi] at this
    exact this
  have hcp := cad_page (p := q) hkk hg.i0 hg.i1
  unfold giveS
  rw [remL_off hb]
  have hx : ∀ b, b < C.xs.length → b ≠ a → (putL C.xs (cad q k i) (-1 - f)).getD b 0 = C.xs.getD b 0 := fun b hb2 hne => by
    rw [putL_get hb2, if_neg (by omega)]
  obtain ⟨C', hC'⟩ : ∃ C' : Cs, C' = { C with ws := bitOff C.ws a, ch := C.ch.set q (i, n + 1), xs := putL C.xs (cad q k i) (-1 - f) } := ⟨_, rfl⟩
  rw [← hC']
  have ks' : C'.ks = C.ks := by rw [hC']
  refine ⟨by rw [ks']; exact hle, by rw [ks', hC']; show (putL C.xs _ _).length = _; rw [putL_len]; exact hlen, by rw [hC']; simpa using h.chl, by rw [hC']; show (bitOff C.ws a).length = 32; rw [bitOff_len]; exact h.wl, by rw [ks']; exact h.kd, by rw [ks']; exact h.sx, fun p hp p1 p4 => ?_, fun b hb2 => ?_, fun b hb2 hb3 => ?_⟩
  · rw [ks'] at hp p1 p4 ⊢
    have ech : C'.ch = C.ch.set q (i, n + 1) := by rw [hC']
    have exs : C'.xs = putL C.xs (cad q k i) (-1 - f) := by rw [hC']
    rw [ech, exs]
    by_cases e : p = q
    · subst e
      obtain ⟨g1, g2, g3⟩ := h.ln p hp p1 p4
      rw [upd_same, getD_set_same (by rw [h.chl]; omega), ← hk]
      rw [← hk, ← hf] at g1
      refine ⟨⟨rfl, hg.i0, hg.i1, f, hg.f0, hg.f1, ?_, g1.keep fun j hj => ?_⟩, ?_, List.nodup_cons.2 ⟨hn, g3⟩⟩
      · rw [putL_get (by omega), if_pos (by omega)]
      · have hm := g1.mem j hj
        have hc2 := cad_page (p := p) hkk hm.1 hm.2
        have hs2 := sizeI_pos hkk
        have hd := cad_ne (p := (p : Int)) (k := k) (i := j) (j := i) (by omega) hkk hm.1 hg.i0 (by rintro rfl; exact hn hj)
        exact hx _ (by omega) (by omega)
      · rw [List.length_cons, hnn, g2]; simp
    · rw [upd_other _ e, getD_set_other (fun e2 => e e2.symm)]
      obtain ⟨g1, g2, g3⟩ := h.ln p hp p1 p4
      refine ⟨g1.keep fun j hj => ?_, g2, g3⟩
      have hm := g1.mem j hj
      have hc2 := cad_page (p := p) ⟨p1, p4⟩ hm.1 hm.2
      have hs2 := sizeI_pos (k := C.ks.getD p 0) ⟨p1, p4⟩
      exact hx _ (by omega) (by omega)
  · rw [ks'] at hb2
    have ews : C'.ws = bitOff C.ws a := by rw [hC']
    rw [ews, bitOff_get h.wl (show a < 2048 by omega), h.bt b hb2]
    by_cases e : b / 32 = q
    · rw [tkB_small (C := C) (F := F) (a := b) (k := k) (by rw [e]; exact hk.symm) hkk, tkB_small (C := C') (F := upd F q (i :: F q)) (a := b) (k := k) (by rw [ks', e]; exact hk.symm) hkk, e, upd_same]
      by_cases al : (b : Int) % 32 % sizeI k = 0
      · have hb4 := aligned hkk al
        rw [e] at hb4
        by_cases ef : (b : Int) % 32 / sizeI k = i
        · have : b = a := by rw [ef] at hb4; omega
          have hd : decide (b = a) = true := by simp [this]
          rw [hd, Bool.not_true, Bool.and_false]
          exact (decide_eq_false (fun hc => hc.2 (by rw [ef]; simp))).symm
        · have : ¬ b = a := by rintro rfl; exact ef hi.symm
          simp [al, ef, this]
      · simp [al]
    · rw [tkB_same (C := C) (F := F) (C' := C') (F' := upd F q (i :: F q)) (a := b) (by rw [ks']) (upd_other _ e)]
      have : ¬ b = a := by rintro rfl; exact e eq.symm
      simp [this]
  · rw [ks'] at hb2
    have ews : C'.ws = bitOff C.ws a := by rw [hC']
    rw [ews, bitOff_get h.wl (show a < 2048 by omega), h.tp b hb2 hb3]
    simp
end Go.Proofs.YtjoejjhgneccgaaGreatDoor
