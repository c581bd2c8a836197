/- Cells: large ones; where what has an address begins; stored to. -/
import Derived.Test.YtfocdbflmodfhaaDoorQCR11
import Derived.Test.YtfocdbflmodfhaaDoorQCR12
namespace Go.Proofs.YtfocdbflmodfhaaDoor
open Go.RowKit

section
variable {w : World} {b : Bl} {C : Cs}
def largeC (C : Cs) (n : Int) : Cs := match spanL C.ks n with | some p => { C with ks := spanS C.ks p n.toNat, ws := addL C.xs.length C.ws ((p : Int) * 32), xs := fillL C.xs ((p : Int) * 32).toNat (n * 32).toNat 0 } | none => C
def LargeE (o : Option Nat) (e : Ending) : Prop := e = .returned (.tuple #[.int .i64 (match o with | some m => (m : Int) * 32 | none => 0), .bool o.isSome])
set_option maxHeartbeats 8000000 in
set_option maxRecDepth 100000 in
theorem clarge_any (h : CX w b C) (n : Int) (hn : n ≤ 9223372036854775807) :
    Calls Tryd.prog 11 #[.pointer (some ⟨b.c, 0, none⟩), .int .i64 n] w fun e w' => LargeE (spanL C.ks n) e ∧ CX w' b (largeC C n) ∧ Frm b.fp w w' := by
  have H := Lib.hid h
  obtain ⟨c0, c1, -⟩ := h.cells
  have HNN := Lib.hid hn
  cases ht : spanL C.ks n with
  | none =>
    have HT := Lib.hid ht
    have HC := Lib.hid (show largeC C n = C by unfold largeC; rw [ht])
    have HK := Lib.hid (show spanK C.ks n = C.ks by unfold spanK; rw [ht])
    clear h ht hn
    go_enter Tryd.func11, Tryd.ntmps11
    go_wp2_with (first
      | (go_at_call 34; refine (cis_any H.out).mono ?_; rintro e w' ⟨rfl, rfl⟩)
      | (go_at_call 42; refine (pspan_any H.out.tx n HNN.out).mono ?_; rw [HT.out, HK.out]; rintro e w1 ⟨rfl, hx, hf⟩; have H1 := Lib.hid (H.out.withTx hf hx rfl); have F1 := Lib.hid hf; clear hx hf))
    go_ret2
    exact ⟨rfl, by rw [HC.out]; exact H1.out, F1.out.sub (by simp [Bl.fp])⟩
  | some p =>
    obtain ⟨hn1, hpl⟩ := spanL_lt ht
    have hl64 := h.tx.le
    have hlen := h.len
    have hn64 : n ≤ 64 := by omega
    have hp64 : (p : Int) < 64 := by omega
    have HE := Lib.hid (show endB p n = true by simp [endB]; omega)
    have HT := Lib.hid ht
    have HC := Lib.hid (show largeC C n = { C with ks := spanS C.ks p n.toNat, ws := addL C.xs.length C.ws ((p : Int) * 32), xs := fillL C.xs ((p : Int) * 32).toNat (n * 32).toNat 0 } by unfold largeC; rw [ht])
    have hsk : spanK C.ks n = spanS C.ks p n.toNat := by unfold spanK; rw [ht]
    have hsl : (spanS C.ks p n.toNat).length = C.ks.length := by rw [← hsk]; exact spanK_len _ _
    have HK := Lib.hid hsk
    have HSL := Lib.hid hsl
    have HF := Lib.hid (show (p : Int) * 32 + n * 32 ≤ C.xs.length by rw [hlen]; omega)
    clear h ht hn hsk hsl hlen hl64 hpl
    go_enter Tryd.func11, Tryd.ntmps11
    go_wp2_with (first
      | (go_at_call 34; refine (cis_any H.out).mono ?_; rintro e w' ⟨rfl, rfl⟩)
      | (go_at_call 42; refine (pspan_any H.out.tx n HNN.out).mono ?_; rw [HT.out, HK.out]; rintro e w1 ⟨rfl, hx, hf⟩; have hx1 := H.out.withTx hf hx HSL.out; have H1 := Lib.hid hx1; have F1 := Lib.hid (hf.sub (fp' := b.fp) (by simp [Bl.fp])); obtain ⟨-, -, d3⟩ := hx1.cells; clear hx hf hx1)
      | (go_at_call 43; refine (ends_yes p n HE.out _).mono ?_; rintro e w' ⟨rfl, rfl⟩)
      | (go_at_call 39; refine (add_any H1.out.sx _).mono ?_; rintro e w2 ⟨rfl, hs, hf⟩; have hx := H1.out.withSx hf hs; have H2 := Lib.hid hx; have F2 := Lib.hid (F1.out.trans (hf.sub (fp' := b.fp) (by simp [Bl.fp])) (fun x hx => .inl hx)); obtain ⟨-, e1, -⟩ := hx.cells; clear hs hf hx)
      | (go_at_call 40; refine (fill_int H2.out.mx ((p : Int) * 32) (n * 32) 0 (by omega) (by omega) HF.out).mono ?_; rintro e w3 ⟨rfl, hm, hf⟩; have H3 := Lib.hid (H2.out.withMx hf hm (fillL_len _ _ _ _)); have F3 := Lib.hid (F2.out.trans (hf.sub (fp' := b.fp) (by simp [Bl.fp])) (fun x hx => .inl hx)); clear hm hf))
    go_ret2
    exact ⟨rfl, by rw [HC.out]; exact H3.out, F3.out⟩
theorem downL_le (ks : List Int) (p : Nat) : downL ks p ≤ p ∧ -1 ≤ downL ks p := by
  induction p with
  | zero => unfold downL; split <;> omega
  | succ p ih => unfold downL; split <;> omega
theorem firstL_le {ks : List Int} {p : Int} (h : -1 ≤ p) : firstL ks p ≤ p ∧ -1 ≤ firstL ks p := by
  unfold firstL
  by_cases hp : p < 0
  · simp only [if_pos hp]; split <;> omega
  · have := downL_le ks p.toNat
    simp only [if_neg hp]; split <;> omega
/-- Where what has an address would begin. -/
def begC (C : Cs) (a : Int) : Int := if baseI (kindL C.ks (pageI a)) a < 0 ∧ 0 ≤ firstL C.ks (pageI a) then firstL C.ks (pageI a) * 32 else baseI (kindL C.ks (pageI a)) a
def baseC (C : Cs) (a : Int) : Int := if hasB C.xs.length C.ws (begC C a) = true then begC C a else -1
set_option maxHeartbeats 8000000 in
set_option maxRecDepth 100000 in
theorem cbase_any (h : CX w b C) (a : Int) :
    Calls Tryd.prog 17 #[.pointer (some ⟨b.c, 0, none⟩), .int .i64 a] w fun e w' => e = .returned (.int .i64 (baseC C a)) ∧ Below w.heap.size w w' := by
  have H := Lib.hid h
  obtain ⟨c0, c1, -⟩ := h.cells
  have hpb := pageI_bd a
  have hfb := firstL_le (ks := C.ks) (p := pageI a) hpb.1
  obtain ⟨p, hp⟩ : ∃ p, p = pageI a := ⟨_, rfl⟩
  have hbeg : begC C a = if baseI (kindL C.ks p) a < 0 ∧ 0 ≤ firstL C.ks p then firstL C.ks p * 32 else baseI (kindL C.ks p) a := by rw [hp]; rfl
  rw [← hp] at hpb hfb
  obtain ⟨bs, hbs⟩ : ∃ x, x = baseI (kindL C.ks p) a := ⟨_, rfl⟩
  obtain ⟨fs, hfs⟩ : ∃ x, x = firstL C.ks p := ⟨_, rfl⟩
  rw [← hbs, ← hfs] at hbeg
  rw [← hfs] at hfb
  have HP := Lib.hid hp
  have HBS := Lib.hid hbs
  have HFS := Lib.hid hfs
  have hp0 := hpb.1
  have HP0 := Lib.hid hp0
  obtain ⟨g, hg⟩ : ∃ x, x = begC C a := ⟨_, rfl⟩
  have HG := Lib.hid (show baseC C a = if hasB C.xs.length C.ws g = true then g else -1 by unfold baseC; rw [hg])
  rw [← hg] at hbeg
  clear h hp hbs hfs hg hp0
  by_cases hc : bs < 0 ∧ 0 ≤ fs
  · have HE := Lib.hid (show endB fs 1 = true by simp [endB]; omega)
    have hge : g = fs * 32 := by rw [hbeg, if_pos hc]
    obtain ⟨hc1, hc2⟩ := hc
    have HGE := Lib.hid hge
    clear hbeg hge
    cases hb : hasB C.xs.length C.ws g with
    | true =>
      rw [hb] at HG
      have HB := Lib.hid hb
      clear hb
      go_enter Tryd.func17, Tryd.ntmps17
      go_wp2_with (first
        | (go_at_call 34; refine (cis_any H.out).mono ?_; rintro e w' ⟨rfl, rfl⟩)
        | (go_at_call 45; refine (gpage_any a _).mono ?_; rw [← HP.out]; rintro e w' ⟨rfl, rfl⟩)
        | (go_at_call 16; refine (ckind_any H.out p).mono ?_; rintro e w2 ⟨rfl, hb⟩; have hx := H.out.below hb; have H2 := Lib.hid hx; have B2 := Lib.hid hb; obtain ⟨d0, d1, -⟩ := hx.cells; clear hb hx)
        | (go_at_call 53; refine (gbase_any _ a _).mono ?_; rw [← HBS.out]; rintro e w' ⟨rfl, rfl⟩)
        | (go_at_call 54; refine (pfirst_any H2.out.tx p HP0.out).mono ?_; rw [← HFS.out]; rintro e w' ⟨rfl, rfl⟩)
        | (go_at_call 43; refine (ends_yes fs 1 HE.out _).mono ?_; rw [← HGE.out]; rintro e w' ⟨rfl, rfl⟩)
        | (go_at_call 23; refine (cisa_any H2.out g).mono ?_; rw [HB.out]; rintro e w' ⟨rfl, rfl⟩))
      go_ret
      exact ⟨by rw [HG.out]; rfl, B2.out⟩
    | false =>
      rw [hb] at HG
      have HB := Lib.hid hb
      clear hb
      go_enter Tryd.func17, Tryd.ntmps17
      go_wp2_with (first
        | (go_at_call 34; refine (cis_any H.out).mono ?_; rintro e w' ⟨rfl, rfl⟩)
        | (go_at_call 45; refine (gpage_any a _).mono ?_; rw [← HP.out]; rintro e w' ⟨rfl, rfl⟩)
        | (go_at_call 16; refine (ckind_any H.out p).mono ?_; rintro e w2 ⟨rfl, hb⟩; have hx := H.out.below hb; have H2 := Lib.hid hx; have B2 := Lib.hid hb; obtain ⟨d0, d1, -⟩ := hx.cells; clear hb hx)
        | (go_at_call 53; refine (gbase_any _ a _).mono ?_; rw [← HBS.out]; rintro e w' ⟨rfl, rfl⟩)
        | (go_at_call 54; refine (pfirst_any H2.out.tx p HP0.out).mono ?_; rw [← HFS.out]; rintro e w' ⟨rfl, rfl⟩)
        | (go_at_call 43; refine (ends_yes fs 1 HE.out _).mono ?_; rw [← HGE.out]; rintro e w' ⟨rfl, rfl⟩)
        | (go_at_call 23; refine (cisa_any H2.out g).mono ?_; rw [HB.out]; rintro e w' ⟨rfl, rfl⟩))
      go_ret
      exact ⟨by rw [HG.out]; rfl, B2.out⟩
  · have hge : g = bs := by rw [hbeg, if_neg hc]
    subst hge
    clear hbeg
    have htest : (decide (g < 0) && decide (0 ≤ fs)) = false := by simp; omega
    have hsplit : 0 ≤ g ∨ (g < 0 ∧ fs < 0) := by omega
    clear hc htest
    cases hb : hasB C.xs.length C.ws g with
    | true =>
      rw [hb] at HG
      have HB := Lib.hid hb
      have hg0 : 0 ≤ g := by
        unfold hasB inB at hb
        simp at hb; omega
      clear hb hsplit
      go_enter Tryd.func17, Tryd.ntmps17
      go_wp2_with (first
        | (go_at_call 34; refine (cis_any H.out).mono ?_; rintro e w' ⟨rfl, rfl⟩)
        | (go_at_call 45; refine (gpage_any a _).mono ?_; rw [← HP.out]; rintro e w' ⟨rfl, rfl⟩)
        | (go_at_call 16; refine (ckind_any H.out p).mono ?_; rintro e w2 ⟨rfl, hb⟩; have hx := H.out.below hb; have H2 := Lib.hid hx; have B2 := Lib.hid hb; obtain ⟨d0, d1, -⟩ := hx.cells; clear hb hx)
        | (go_at_call 53; refine (gbase_any _ a _).mono ?_; rw [← HBS.out]; rintro e w' ⟨rfl, rfl⟩)
        | (go_at_call 54; refine (pfirst_any H2.out.tx p HP0.out).mono ?_; rw [← HFS.out]; rintro e w' ⟨rfl, rfl⟩)
        | (go_at_call 23; refine (cisa_any H2.out g).mono ?_; rw [HB.out]; rintro e w' ⟨rfl, rfl⟩))
      go_ret
      exact ⟨by rw [HG.out]; rfl, B2.out⟩
    | false =>
      rw [hb] at HG
      have HB := Lib.hid hb
      clear hb
      rcases hsplit with hs | ⟨hs1, hs2⟩
      all_goals
        go_enter Tryd.func17, Tryd.ntmps17
        go_wp2_with (first
          | (go_at_call 34; refine (cis_any H.out).mono ?_; rintro e w' ⟨rfl, rfl⟩)
          | (go_at_call 45; refine (gpage_any a _).mono ?_; rw [← HP.out]; rintro e w' ⟨rfl, rfl⟩)
          | (go_at_call 16; refine (ckind_any H.out p).mono ?_; rintro e w2 ⟨rfl, hb⟩; have hx := H.out.below hb; have H2 := Lib.hid hx; have B2 := Lib.hid hb; obtain ⟨d0, d1, -⟩ := hx.cells; clear hb hx)
          | (go_at_call 53; refine (gbase_any _ a _).mono ?_; rw [← HBS.out]; rintro e w' ⟨rfl, rfl⟩)
          | (go_at_call 54; refine (pfirst_any H2.out.tx p HP0.out).mono ?_; rw [← HFS.out]; rintro e w' ⟨rfl, rfl⟩)
          | (go_at_call 23; refine (cisa_any H2.out g).mono ?_; rw [HB.out]; rintro e w' ⟨rfl, rfl⟩))
        go_ret
        exact ⟨by rw [HG.out]; rfl, B2.out⟩
def storeB (C : Cs) (a : Int) : Bool := decide (0 ≤ baseC C a) && fitB C.xs.length a 1
def storeC (C : Cs) (a v : Int) : Cs := if 0 ≤ baseC C a then { C with xs := putL C.xs a v } else C
set_option maxHeartbeats 2000000 in
theorem cstore_any (h : CX w b C) (a v : Int) :
    Calls Tryd.prog 24 #[.pointer (some ⟨b.c, 0, none⟩), .int .i64 a, .int .i64 v] w fun e w' => e = .returned (.bool (storeB C a)) ∧ CX w' b (storeC C a v) ∧ Frm b.fp w w' := by
  have H := Lib.hid h
  by_cases hb : 0 ≤ baseC C a
  · have HS := Lib.hid (show storeB C a = fitB C.xs.length a 1 by unfold storeB; simp [hb])
    have HC := Lib.hid (show storeC C a v = { C with xs := putL C.xs a v } by unfold storeC; rw [if_pos hb])
    clear h
    go_enter Tryd.func24, Tryd.ntmps24
    go_wp2_with (first
      | (go_at_call 17; refine (cbase_any H.out a).mono ?_; rintro e w1 ⟨rfl, hb1⟩; have hx := H.out.below hb1; have H1 := Lib.hid hx; have F1 := Lib.hid (Frm.of_below b.fp hb1); obtain ⟨-, d1, -⟩ := hx.cells; clear hb1 hx)
      | (go_at_call 26; refine (store_any H1.out.mx a v).mono ?_; rintro e w2 ⟨rfl, hm, hf⟩; have H2 := Lib.hid (H1.out.withMx hf hm (putL_len _ _ _)); have F2 := Lib.hid (F1.out.trans (hf.sub (fp' := b.fp) (by simp [Bl.fp])) (fun x hx => .inl hx)); clear hm hf))
    go_ret
    exact ⟨ret_bool HS.out.symm, by rw [HC.out]; exact H2.out, F2.out⟩
  · have HS := Lib.hid (show storeB C a = false by unfold storeB; simp [hb])
    have HC := Lib.hid (show storeC C a v = C by unfold storeC; rw [if_neg hb])
    have hd : decide (0 ≤ baseC C a) = false := by simpa using hb
    clear h
    go_enter Tryd.func24, Tryd.ntmps24
    go_wp2_with (go_at_call 17; refine (cbase_any H.out a).mono ?_; rintro e w1 ⟨rfl, hb1⟩; have H1 := Lib.hid (H.out.below hb1); have F1 := Lib.hid (Frm.of_below b.fp hb1); clear hb1)
    go_ret
    exact ⟨ret_bool HS.out.symm, by rw [HC.out]; exact H1.out, F1.out⟩
end
end Go.Proofs.YtfocdbflmodfhaaDoor

/- Cells, in plain lists: given back; a page dropped; large ones. -/
namespace Go.Proofs.YtfocdbflmodfhaaDoor
open Go.RowKit

theorem has_tk {C : Cs} {F : Nat → List Int} {x : Int} (h : Inv C F) (hb : hasB C.xs.length C.ws x = true) : ∃ a : Nat, x = a ∧ a < 32 * C.ks.length ∧ bit C.ws a = true ∧ tkB C F a = true := by
  unfold hasB inB at hb
  simp only [Bool.and_eq_true, decide_eq_true_eq] at hb
  obtain ⟨a, rfl⟩ := Int.eq_ofNat_of_zero_le hb.1.1
  have hl := h.len
  have ha : a < 32 * C.ks.length := by omega
  rw [Int.toNat_natCast] at hb
  exact ⟨a, rfl, ha, hb.2, by rw [← h.bt a ha]; exact hb.2⟩
theorem tk_cases {C : Cs} {F : Nat → List Int} {a : Nat} (h : tkB C F a = true) : (1 ≤ C.ks.getD (a / 32) 0 ∧ C.ks.getD (a / 32) 0 ≤ 4 ∧ (a : Int) % 32 % sizeI (C.ks.getD (a / 32) 0) = 0 ∧ (a : Int) % 32 / sizeI (C.ks.getD (a / 32) 0) ∉ F (a / 32)) ∨ (C.ks.getD (a / 32) 0 = 5 ∧ a % 32 = 0) := by
  unfold tkB at h
  split at h
  · rename_i hk
    have := of_decide_eq_true h
    exact .inl ⟨hk.1, hk.2, this.1, this.2⟩
  · exact .inr (of_decide_eq_true h)
theorem mod_size {k : Int} (hk : 1 ≤ k ∧ k ≤ 4) {a : Int} (h : a % 32 % sizeI k = 0) : a % sizeI k = 0 := by
  have hc : k = 1 ∨ k = 2 ∨ k = 3 ∨ k = 4 := by omega
  rcases hc with rfl | rfl | rfl | rfl <;> simp [sizeI] at * <;> omega
/-- What is taken may be given back. -/
theorem give_ok {C : Cs} {F : Nat → List Int} {a : Nat} (h : Inv C F) (ha : a < 32 * C.ks.length) (k1 : 1 ≤ C.ks.getD (a / 32) 0) (k4 : C.ks.getD (a / 32) 0 ≤ 4) (hal : (a : Int) % 32 % sizeI (C.ks.getD (a / 32) 0) = 0)
    (hn : (a : Int) % 32 / sizeI (C.ks.getD (a / 32) 0) ∉ F (a / 32)) :
    GiveP C a (a / 32) (C.ks.getD (a / 32) 0) ((a : Int) % 32 / sizeI (C.ks.getD (a / 32) 0)) (C.ch.getD (a / 32) (0, 0)).1 (C.ch.getD (a / 32) (0, 0)).2 := by
  have hq : a / 32 < C.ks.length := by omega
  have hle := h.le
  obtain ⟨g1, g2, g3⟩ := h.ln _ hq k1 k4
  have hx := idx_lt ⟨k1, k4⟩ a
  have hf := g1.first ⟨k1, k4⟩
  have hc := cellsI_pos ⟨k1, k4⟩
  have hfew := few_ints (cellsI (C.ks.getD (a / 32) 0)).toNat ((a : Int) % 32 / sizeI (C.ks.getD (a / 32) 0) :: F (a / 32)) (List.nodup_cons.2 ⟨hn, g3⟩) (fun x hm => by
    rcases List.mem_cons.1 hm with rfl | hm
    · omega
    · have := g1.mem x hm; omega)
  rw [List.length_cons] at hfew
  exact ⟨hq, by rw [pageI_in (by omega) (by omega)]; omega, by omega, by omega, kindL_in hq, k1, k4, mod_size ⟨k1, k4⟩ hal, rfl, hx.1, hx.2, rfl, by rw [g2]; omega, by rw [g2]; omega, hf.1, hf.2⟩
theorem remL_off {C : Cs} {a : Nat} (h : hasB C.xs.length C.ws a = true) : remL C.xs.length C.ws a = bitOff C.ws a := by
  unfold remL; rw [if_pos h, Int.toNat_natCast]
theorem inv_give {C : Cs} {F : Nat → List Int} {a : Nat} (h : Inv C F) (hb : hasB C.xs.length C.ws a = true) (ha : a < 32 * C.ks.length) (k1 : 1 ≤ C.ks.getD (a / 32) 0) (k4 : C.ks.getD (a / 32) 0 ≤ 4) (hal : (a : Int) % 32 % sizeI (C.ks.getD (a / 32) 0) = 0)
    (hn : (a : Int) % 32 / sizeI (C.ks.getD (a / 32) 0) ∉ F (a / 32)) :
    Inv (giveS C a (a / 32) (C.ks.getD (a / 32) 0) ((a : Int) % 32 / sizeI (C.ks.getD (a / 32) 0)) (C.ch.getD (a / 32) (0, 0)).1 (C.ch.getD (a / 32) (0, 0)).2) (upd F (a / 32) ((a : Int) % 32 / sizeI (C.ks.getD (a / 32) 0) :: F (a / 32))) := by
  have hg := give_ok h ha k1 k4 hal hn
  have hq : a / 32 < C.ks.length := by omega
  obtain ⟨q, eq⟩ : ∃ q, q = a / 32 := ⟨_, rfl⟩
  rw [← eq] at k1 k4 hal hn hg hq ⊢
  obtain ⟨k, hk⟩ : ∃ k, k = C.ks.getD q 0 := ⟨_, rfl⟩
  rw [← hk] at k1 k4 hal hn hg ⊢
  have hkk : 1 ≤ k ∧ k ≤ 4 := ⟨k1, k4⟩
  obtain ⟨i, hi⟩ : ∃ i, i = (a : Int) % 32 / sizeI k := ⟨_, rfl⟩
  rw [← hi] at hn hg ⊢
  obtain ⟨f, hf⟩ : ∃ f, f = (C.ch.getD q (0, 0)).1 := ⟨_, rfl⟩
  obtain ⟨n, hnn⟩ : ∃ n, n = (C.ch.getD q (0, 0)).2 := ⟨_, rfl⟩
  rw [← hf, ← hnn] at hg ⊢
  have hlen := h.len
  have hle := h.le
  have hac : (a : Int) = cad q k i := by
    have := aligned hkk hal
    rw [← eq, ← hi] at this
    exact this
  have hcp := cad_page (p := q) hkk hg.i0 hg.i1
  unfold giveS
  rw [remL_off hb]
  have hx : ∀ b, b < C.xs.length → b ≠ a → (putL C.xs (cad q k i) (-1 - f)).getD b 0 = C.xs.getD b 0 := fun b hb2 hne => by
    rw [putL_get hb2, if_neg (by omega)]
  obtain ⟨C', hC'⟩ : ∃ C' : Cs, C' = { C with ws := bitOff C.ws a, ch := C.ch.set q (i, n + 1), xs := putL C.xs (cad q k i) (-1 - f) } := ⟨_, rfl⟩
  rw [← hC']
  have ks' : C'.ks = C.ks := by rw [hC']
  refine ⟨by rw [ks']; exact hle, by rw [ks', hC']; show (putL C.xs _ _).length = _; rw [putL_len]; exact hlen, by rw [hC']; simpa using h.chl, by rw [hC']; show (bitOff C.ws a).length = 32; rw [bitOff_len]; exact h.wl, by rw [ks']; exact h.kd, by rw [ks']; exact h.sx, fun p hp p1 p4 => ?_, fun b hb2 => ?_, fun b hb2 hb3 => ?_⟩
  · rw [ks'] at hp p1 p4 ⊢
    have ech : C'.ch = C.ch.set q (i, n + 1) := by rw [hC']
    have exs : C'.xs = putL C.xs (cad q k i) (-1 - f) := by rw [hC']
    rw [ech, exs]
    by_cases e : p = q
    · subst e
      obtain ⟨g1, g2, g3⟩ := h.ln p hp p1 p4
      rw [upd_same, getD_set_same (by rw [h.chl]; omega), ← hk]
      rw [← hk, ← hf] at g1
      refine ⟨⟨rfl, hg.i0, hg.i1, f, hg.f0, hg.f1, ?_, g1.keep fun j hj => ?_⟩, ?_, List.nodup_cons.2 ⟨hn, g3⟩⟩
      · rw [putL_get (by omega), if_pos (by omega)]
      · have hm := g1.mem j hj
        have hc2 := cad_page (p := p) hkk hm.1 hm.2
        have hs2 := sizeI_pos hkk
        have hd := cad_ne (p := (p : Int)) (k := k) (i := j) (j := i) (by omega) hkk hm.1 hg.i0 (by rintro rfl; exact hn hj)
        exact hx _ (by omega) (by omega)
      · rw [List.length_cons, hnn, g2]; simp
    · rw [upd_other _ e, getD_set_other (fun e2 => e e2.symm)]
      obtain ⟨g1, g2, g3⟩ := h.ln p hp p1 p4
      refine ⟨g1.keep fun j hj => ?_, g2, g3⟩
      have hm := g1.mem j hj
      have hc2 := cad_page (p := p) ⟨p1, p4⟩ hm.1 hm.2
      have hs2 := sizeI_pos (k := C.ks.getD p 0) ⟨p1, p4⟩
      exact hx _ (by omega) (by omega)
  · rw [ks'] at hb2
    have ews : C'.ws = bitOff C.ws a := by rw [hC']
    rw [ews, bitOff_get h.wl (show a < 2048 by omega), h.bt b hb2]
    by_cases e : b / 32 = q
    · rw [tkB_small (C := C) (F := F) (a := b) (k := k) (by rw [e]; exact hk.symm) hkk, tkB_small (C := C') (F := upd F q (i :: F q)) (a := b) (k := k) (by rw [ks', e]; exact hk.symm) hkk, e, upd_same]
      by_cases al : (b : Int) % 32 % sizeI k = 0
      · have hb4 := aligned hkk al
        rw [e] at hb4
        by_cases ef : (b : Int) % 32 / sizeI k = i
        · have : b = a := by rw [ef] at hb4; omega
          have hd : decide (b = a) = true := by simp [this]
          rw [hd, Bool.not_true, Bool.and_false]
          exact (decide_eq_false (fun hc => hc.2 (by rw [ef]; simp))).symm
        · have : ¬ b = a := by rintro rfl; exact ef hi.symm
          simp [al, ef, this]
      · simp [al]
    · rw [tkB_same (C := C) (F := F) (C' := C') (F' := upd F q (i :: F q)) (a := b) (by rw [ks']) (upd_other _ e)]
      have : ¬ b = a := by rintro rfl; exact e eq.symm
      simp [this]
  · rw [ks'] at hb2
    have ews : C'.ws = bitOff C.ws a := by rw [hC']
    rw [ews, bitOff_get h.wl (show a < 2048 by omega), h.tp b hb2 hb3]
    simp
end Go.Proofs.YtfocdbflmodfhaaDoor
