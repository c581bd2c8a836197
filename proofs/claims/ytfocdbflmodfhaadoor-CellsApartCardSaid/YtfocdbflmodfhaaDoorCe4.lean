/- Cells: large ones; where what has an address begins; stored to. -/
import Derived.Test.YtfocdbflmodfhaaDoorCe2
namespace Go.Proofs.YtfocdbflmodfhaaDoor
open Go.RowKit

section
variable {w : World} {b : Bl} {C : Cs}
def largeC (C : Cs) (n : Int) : Cs := match spanL C.ks n with | some p => { C with ks := spanS C.ks p n.toNat, ws := addL C.xs.length C.ws ((p : Int) * 32), xs := fillL C.xs ((p : Int) * 32).toNat (n * 32).toNat 0 } | none => C
def LargeE (o : Option Nat) (e : Ending) : Prop := e = .returned (.tuple #[.int .i64 (match o with | some m => (m : Int) * 32 | none => 0), .bool o.isSome])
set_option maxHeartbeats 8000000 in
set_option maxRecDepth 100000 in
theorem clarge_any (h : CX w b C) (n : Int) (hn : n ≤ 9223372036854775807) :
    Calls Tryd.prog 11 #[.pointer (some ⟨b.c, 0, none⟩), .int .i64 n] w fun e w' => LargeE (spanL C.ks n) e ∧ CX w' b (largeC C n) ∧ Frm b.fp w w' := by
  have H := Lib.hid h
  obtain ⟨c0, c1, -⟩ := h.cells
  have HNN := Lib.hid hn
  cases ht : spanL C.ks n with
  | none =>
    have HT := Lib.hid ht
    have HC := Lib.hid (show largeC C n = C by unfold largeC; rw [ht])
    have HK := Lib.hid (show spanK C.ks n = C.ks by unfold spanK; rw [ht])
    clear h ht hn
    go_enter Tryd.func11, Tryd.ntmps11
    go_wp2_with (first
      | (go_at_call 34; refine (cis_any H.out).mono ?_; rintro e w' ⟨rfl, rfl⟩)
      | (go_at_call 42; refine (pspan_any H.out.tx n HNN.out).mono ?_; rw [HT.out, HK.out]; rintro e w1 ⟨rfl, hx, hf⟩; have H1 := Lib.hid (H.out.withTx hf hx rfl); have F1 := Lib.hid hf; clear hx hf))
    go_ret2
    exact ⟨rfl, by rw [HC.out]; exact H1.out, F1.out.sub (by simp [Bl.fp])⟩
  | some p =>
    obtain ⟨hn1, hpl⟩ := spanL_lt ht
    have hl64 := h.tx.le
    have hlen := h.len
    have hn64 : n ≤ 64 := by omega
    have hp64 : (p : Int) < 64 := by omega
    have HE := Lib.hid (show endB p n = true by simp [endB]; omega)
    have HT := Lib.hid ht
    have HC := Lib.hid (show largeC C n = { C with ks := spanS C.ks p n.toNat, ws := addL C.xs.length C.ws ((p : Int) * 32), xs := fillL C.xs ((p : Int) * 32).toNat (n * 32).toNat 0 } by unfold largeC; rw [ht])
    have hsk : spanK C.ks n = spanS C.ks p n.toNat := by unfold spanK; rw [ht]
    have hsl : (spanS C.ks p n.toNat).length = C.ks.length := by rw [← hsk]; exact spanK_len _ _
    have HK := Lib.hid hsk
    have HSL := Lib.hid hsl
    have HF := Lib.hid (show (p : Int) * 32 + n * 32 ≤ C.xs.length by rw [hlen]; omega)
    clear h ht hn hsk hsl hlen hl64 hpl
    go_enter Tryd.func11, Tryd.ntmps11
    go_wp2_with (first
      | (go_at_call 34; refine (cis_any H.out).mono ?_; rintro e w' ⟨rfl, rfl⟩)
      | (go_at_call 42; refine (pspan_any H.out.tx n HNN.out).mono ?_; rw [HT.out, HK.out]; rintro e w1 ⟨rfl, hx, hf⟩; have hx1 := H.out.withTx hf hx HSL.out; have H1 := Lib.hid hx1; have F1 := Lib.hid (hf.sub (fp' := b.fp) (by simp [Bl.fp])); obtain ⟨-, -, d3⟩ := hx1.cells; clear hx hf hx1)
      | (go_at_call 43; refine (ends_yes p n HE.out _).mono ?_; rintro e w' ⟨rfl, rfl⟩)
      | (go_at_call 39; refine (add_any H1.out.sx _).mono ?_; rintro e w2 ⟨rfl, hs, hf⟩; have hx := H1.out.withSx hf hs; have H2 := Lib.hid hx; have F2 := Lib.hid (F1.out.trans (hf.sub (fp' := b.fp) (by simp [Bl.fp])) (fun x hx => .inl hx)); obtain ⟨-, e1, -⟩ := hx.cells; clear hs hf hx)
      | (go_at_call 40; refine (fill_int H2.out.mx ((p : Int) * 32) (n * 32) 0 (by omega) (by omega) HF.out).mono ?_; rintro e w3 ⟨rfl, hm, hf⟩; have H3 := Lib.hid (H2.out.withMx hf hm (fillL_len _ _ _ _)); have F3 := Lib.hid (F2.out.trans (hf.sub (fp' := b.fp) (by simp [Bl.fp])) (fun x hx => .inl hx)); clear hm hf))
    go_ret2
    exact ⟨rfl, by rw [HC.out]; exact H3.out, F3.out⟩
theorem downL_le (ks : List Int) (p : Nat) : downL ks p ≤ p ∧ -1 ≤ downL ks p := by
  induction p with
  | zero => unfold downL; split <;> omega
  | succ p ih => unfold downL; split <;> omega
theorem firstL_le {ks : List Int} {p : Int} (h : -1 ≤ p) : firstL ks p ≤ p ∧ -1 ≤ firstL ks p := by
  unfold firstL
  by_cases hp : p < 0
  · simp only [if_pos hp]; split <;> omega
  · have := downL_le ks p.toNat
    simp only [if_neg hp]; split <;> omega
/-- Where what has an address would begin. -/
def begC (C : Cs) (a : Int) : Int := if baseI (kindL C.ks (pageI a)) a < 0 ∧ 0 ≤ firstL C.ks (pageI a) then firstL C.ks (pageI a) * 32 else baseI (kindL C.ks (pageI a)) a
def baseC (C : Cs) (a : Int) : Int := if hasB C.xs.length C.ws (begC C a) = true then begC C a else -1
set_option maxHeartbeats 8000000 in
set_option maxRecDepth 100000 in
theorem cbase_any (h : CX w b C) (a : Int) :
    Calls Tryd.prog 17 #[.pointer (some ⟨b.c, 0, none⟩), .int .i64 a] w fun e w' => e = .returned (.int .i64 (baseC C a)) ∧ Below w.heap.size w w' := by
  have H := Lib.hid h
  obtain ⟨c0, c1, -⟩ := h.cells
  have hpb := pageI_bd a
  have hfb := firstL_le (ks := C.ks) (p := pageI a) hpb.1
  obtain ⟨p, hp⟩ : ∃ p, p = pageI a := ⟨_, rfl⟩
  have hbeg : begC C a = if baseI (kindL C.ks p) a < 0 ∧ 0 ≤ firstL C.ks p then firstL C.ks p * 32 else baseI (kindL C.ks p) a := by rw [hp]; rfl
  rw [← hp] at hpb hfb
  obtain ⟨bs, hbs⟩ : ∃ x, x = baseI (kindL C.ks p) a := ⟨_, rfl⟩
  obtain ⟨fs, hfs⟩ : ∃ x, x = firstL C.ks p := ⟨_, rfl⟩
  rw [← hbs, ← hfs] at hbeg
  rw [← hfs] at hfb
  have HP := Lib.hid hp
  have HBS := Lib.hid hbs
  have HFS := Lib.hid hfs
  have hp0 := hpb.1
  have HP0 := Lib.hid hp0
  obtain ⟨g, hg⟩ : ∃ x, x = begC C a := ⟨_, rfl⟩
  have HG := Lib.hid (show baseC C a = if hasB C.xs.length C.ws g = true then g else -1 by unfold baseC; rw [hg])
  rw [← hg] at hbeg
  clear h hp hbs hfs hg hp0
  by_cases hc : bs < 0 ∧ 0 ≤ fs
  · have HE := Lib.hid (show endB fs 1 = true by simp [endB]; omega)
    have hge : g = fs * 32 := by rw [hbeg, if_pos hc]
    obtain ⟨hc1, hc2⟩ := hc
    have HGE := Lib.hid hge
    clear hbeg hge
    cases hb : hasB C.xs.length C.ws g with
    | true =>
      rw [hb] at HG
      have HB := Lib.hid hb
      clear hb
      go_enter Tryd.func17, Tryd.ntmps17
      go_wp2_with (first
        | (go_at_call 34; refine (cis_any H.out).mono ?_; rintro e w' ⟨rfl, rfl⟩)
        | (go_at_call 45; refine (gpage_any a _).mono ?_; rw [← HP.out]; rintro e w' ⟨rfl, rfl⟩)
        | (go_at_call 16; refine (ckind_any H.out p).mono ?_; rintro e w2 ⟨rfl, hb⟩; have hx := H.out.below hb; have H2 := Lib.hid hx; have B2 := Lib.hid hb; obtain ⟨d0, d1, -⟩ := hx.cells; clear hb hx)
        | (go_at_call 53; refine (gbase_any _ a _).mono ?_; rw [← HBS.out]; rintro e w' ⟨rfl, rfl⟩)
        | (go_at_call 54; refine (pfirst_any H2.out.tx p HP0.out).mono ?_; rw [← HFS.out]; rintro e w' ⟨rfl, rfl⟩)
        | (go_at_call 43; refine (ends_yes fs 1 HE.out _).mono ?_; rw [← HGE.out]; rintro e w' ⟨rfl, rfl⟩)
        | (go_at_call 23; refine (cisa_any H2.out g).mono ?_; rw [HB.out]; rintro e w' ⟨rfl, rfl⟩))
      go_ret
      exact ⟨by rw [HG.out]; rfl, B2.out⟩
    | false =>
      rw [hb] at HG
      have HB := Lib.hid hb
      clear hb
      go_enter Tryd.func17, Tryd.ntmps17
      go_wp2_with (first
        | (go_at_call 34; refine (cis_any H.out).mono ?_; rintro e w' ⟨rfl, rfl⟩)
        | (go_at_call 45; refine (gpage_any a _).mono ?_; rw [← HP.out]; rintro e w' ⟨rfl, rfl⟩)
        | (go_at_call 16; refine (ckind_any H.out p).mono ?_; rintro e w2 ⟨rfl, hb⟩; have hx := H.out.below hb; have H2 := Lib.hid hx; have B2 := Lib.hid hb; obtain ⟨d0, d1, -⟩ := hx.cells; clear hb hx)
        | (go_at_call 53; refine (gbase_any _ a _).mono ?_; rw [← HBS.out]; rintro e w' ⟨rfl, rfl⟩)
        | (go_at_call 54; refine (pfirst_any H2.out.tx p HP0.out).mono ?_; rw [← HFS.out]; rintro e w' ⟨rfl, rfl⟩)
        | (go_at_call 43; refine (ends_yes fs 1 HE.out _).mono ?_; rw [← HGE.out]; rintro e w' ⟨rfl, rfl⟩)
        | (go_at_call 23; refine (cisa_any H2.out g).mono ?_; rw [HB.out]; rintro e w' ⟨rfl, rfl⟩))
      go_ret
      exact ⟨by rw [HG.out]; rfl, B2.out⟩
  · have hge : g = bs := by rw [hbeg, if_neg hc]
    subst hge
    clear hbeg
    have htest : (decide (g < 0) && decide (0 ≤ fs)) = false := by simp; omega
    have hsplit : 0 ≤ g ∨ (g < 0 ∧ fs < 0) := by omega
    clear hc htest
    cases hb : hasB C.xs.length C.ws g with
    | true =>
      rw [hb] at HG
      have HB := Lib.hid hb
      have hg0 : 0 ≤ g := by
        unfold hasB inB at hb
        simp at hb; omega
      clear hb hsplit
      go_enter Tryd.func17, Tryd.ntmps17
      go_wp2_with (first
        | (go_at_call 34; refine (cis_any H.out).mono ?_; rintro e w' ⟨rfl, rfl⟩)
        | (go_at_call 45; refine (gpage_any a _).mono ?_; rw [← HP.out]; rintro e w' ⟨rfl, rfl⟩)
        | (go_at_call 16; refine (ckind_any H.out p).mono ?_; rintro e w2 ⟨rfl, hb⟩; have hx := H.out.below hb; have H2 := Lib.hid hx; have B2 := Lib.hid hb; obtain ⟨d0, d1, -⟩ := hx.cells; clear hb hx)
        | (go_at_call 53; refine (gbase_any _ a _).mono ?_; rw [← HBS.out]; rintro e w' ⟨rfl, rfl⟩)
        | (go_at_call 54; refine (pfirst_any H2.out.tx p HP0.out).mono ?_; rw [← HFS.out]; rintro e w' ⟨rfl, rfl⟩)
        | (go_at_call 23; refine (cisa_any H2.out g).mono ?_; rw [HB.out]; rintro e w' ⟨rfl, rfl⟩))
      go_ret
      exact ⟨by rw [HG.out]; rfl, B2.out⟩
    | false =>
      rw [hb] at HG
      have HB := Lib.hid hb
      clear hb
      rcases hsplit with hs | ⟨hs1, hs2⟩
      all_goals
        go_enter Tryd.func17, Tryd.ntmps17
        go_wp2_with (first
          | (go_at_call 34; refine (cis_any H.out).mono ?_; rintro e w' ⟨rfl, rfl⟩)
          | (go_at_call 45; refine (gpage_any a _).mono ?_; rw [← HP.out]; rintro e w' ⟨rfl, rfl⟩)
          | (go_at_call 16; refine (ckind_any H.out p).mono ?_; rintro e w2 ⟨rfl, hb⟩; have hx := H.out.below hb; have H2 := Lib.hid hx; have B2 := Lib.hid hb; obtain ⟨d0, d1, -⟩ := hx.cells; clear hb hx)
          | (go_at_call 53; refine (gbase_any _ a _).mono ?_; rw [← HBS.out]; rintro e w' ⟨rfl, rfl⟩)
          | (go_at_call 54; refine (pfirst_any H2.out.tx p HP0.out).mono ?_; rw [← HFS.out]; rintro e w' ⟨rfl, rfl⟩)
          | (go_at_call 23; refine (cisa_any H2.out g).mono ?_; rw [HB.out]; rintro e w' ⟨rfl, rfl⟩))
        go_ret
        exact ⟨by rw [HG.out]; rfl, B2.out⟩
def storeB (C : Cs) (a : Int) : Bool := decide (0 ≤ baseC C a) && fitB C.xs.length a 1
def storeC (C : Cs) (a v : Int) : Cs := if 0 ≤ baseC C a then { C with xs := putL C.xs a v } else C
set_option maxHeartbeats 2000000 in
theorem cstore_any (h : CX w b C) (a v : Int) :
    Calls Tryd.prog 24 #[.pointer (some ⟨b.c, 0, none⟩), .int .i64 a, .int .i64 v] w fun e w' => e = .returned (.bool (storeB C a)) ∧ CX w' b (storeC C a v) ∧ Frm b.fp w w' := by
  have H := Lib.hid h
  by_cases hb : 0 ≤ baseC C a
  · have HS := Lib.hid (show storeB C a = fitB C.xs.length a 1 by unfold storeB; simp [hb])
    have HC := Lib.hid (show storeC C a v = { C with xs := putL C.xs a v } by unfold storeC; rw [if_pos hb])
    clear h
    go_enter Tryd.func24, Tryd.ntmps24
    go_wp2_with (first
      | (go_at_call 17; refine (cbase_any H.out a).mono ?_; rintro e w1 ⟨rfl, hb1⟩; have hx := H.out.below hb1; have H1 := Lib.hid hx; have F1 := Lib.hid (Frm.of_below b.fp hb1); obtain ⟨-, d1, -⟩ := hx.cells; clear hb1 hx)
      | (go_at_call 26; refine (store_any H1.out.mx a v).mono ?_; rintro e w2 ⟨rfl, hm, hf⟩; have H2 := Lib.hid (H1.out.withMx hf hm (putL_len _ _ _)); have F2 := Lib.hid (F1.out.trans (hf.sub (fp' := b.fp) (by simp [Bl.fp])) (fun x hx => .inl hx)); clear hm hf))
    go_ret
    exact ⟨ret_bool HS.out.symm, by rw [HC.out]; exact H2.out, F2.out⟩
  · have HS := Lib.hid (show storeB C a = false by unfold storeB; simp [hb])
    have HC := Lib.hid (show storeC C a v = C by unfold storeC; rw [if_neg hb])
    have hd : decide (0 ≤ baseC C a) = false := by simpa using hb
    clear h
    go_enter Tryd.func24, Tryd.ntmps24
    go_wp2_with (go_at_call 17; refine (cbase_any H.out a).mono ?_; rintro e w1 ⟨rfl, hb1⟩; have H1 := Lib.hid (H.out.below hb1); have F1 := Lib.hid (Frm.of_below b.fp hb1); clear hb1)
    go_ret
    exact ⟨ret_bool HS.out.symm, by rw [HC.out]; exact H1.out, F1.out⟩
end
end Go.Proofs.YtfocdbflmodfhaaDoor
