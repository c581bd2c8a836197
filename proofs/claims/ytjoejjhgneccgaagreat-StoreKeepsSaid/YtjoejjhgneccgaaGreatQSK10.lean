/- Cells: large ones; where what has an address begins; stored to. -/
import Derived.Test.YtjoejjhgneccgaaGreatQSK01
import Derived.Test.YtjoejjhgneccgaaGreatQSK07
import Derived.Test.YtjoejjhgneccgaaGreatQSK09
import Derived.Test.YtjoejjhgneccgaaGreatRows
namespace Go.Proofs.YtjoejjhgneccgaaGreat
open Go.RowKit

section
variable {w : World} {b : Bl} {C : Cs}
def largeC (C : Cs) (n : Int) : Cs := match spanL C.ks n with | some p => { C with ks := spanS C.ks p n.toNat, ws := addL C.xs.length C.ws ((p : Int) * 32), xs := fillL C.xs ((p : Int) * 32).toNat (n * 32).toNat 0 } | none => C
def LargeE (o : Option Nat) (e : Ending) : Prop := e = .returned (.tuple #[.int .i64 (match o with | some m => (m : Int) * 32 | none => 0), .bool o.isSome])
set_option maxHeartbeats 8000000 in
set_option maxRecDepth 100000 in
theorem clarge_any (h : CX w b C) (n : Int) (hn : n ≤ 9223372036854775807) :
    Calls Tryz.prog 24 #[.pointer (some ⟨b.c, 0, none⟩), .int .i64 n] w fun e w' => LargeE (spanL C.ks n) e ∧ CX w' b (largeC C n) ∧ Frm b.fp w w' := by
  have H := Lib.hid h
  obtain ⟨c0, c1, -⟩ := h.cells
  have HNN := Lib.hid hn
  cases ht : spanL C.ks n with
  | none =>
    have HT := Lib.hid ht
    have HC := Lib.hid (show largeC C n = C by unfold largeC; rw [ht])
    have HK := Lib.hid (show spanK C.ks n = C.ks by unfold spanK; rw [ht])
    clear h ht hn
    go_enter Tryz.func24, Tryz.ntmps24
    go_wp2_with (first
      | (go_at_call 43; refine (cis_any H.out).mono ?_; rintro e w' ⟨rfl, rfl⟩)
      | (go_at_call 50; refine (pspan_any H.out.tx n HNN.out).mono ?_; rw [HT.out, HK.out]; rintro e w1 ⟨rfl, hx, hf⟩; have H1 := Lib.hid (H.out.withTx hf hx rfl); have F1 := Lib.hid hf; clear hx hf))
    go_ret2
    exact ⟨rfl, by rw [HC.out]; exact H1.out, F1.out.sub (by simp [Bl.fp])⟩
  | some p =>
    obtain ⟨hn1, hpl⟩ := spanL_lt ht
    have hl64 := h.tx.le
    have hlen := h.len
    have hn64 : n ≤ 64 := by omega
    have hp64 : (p : Int) < 64 := by omega
    have HE := Lib.hid (show endB p n = true by simp [endB]; omega)
    have HT := Lib.hid ht
    have HC := Lib.hid (show largeC C n = { C with ks := spanS C.ks p n.toNat, ws := addL C.xs.length C.ws ((p : Int) * 32), xs := fillL C.xs ((p : Int) * 32).toNat (n * 32).toNat 0 } by unfold largeC; rw [ht])
    have hsk : spanK C.ks n = spanS C.ks p n.toNat := by unfold spanK; rw [ht]
    have hsl : (spanS C.ks p n.toNat).length = C.ks.length := by rw [← hsk]; exact spanK_len _ _
    have HK := Lib.hid hsk
    have HSL := Lib.hid hsl
    have HF := Lib.hid (show (p : Int) * 32 + n * 32 ≤ C.xs.length by rw [hlen]; omega)
    clear h ht hn hsk hsl hlen hl64 hpl
    go_enter Tryz.func24, Tryz.ntmps24
    go_wp2_with (first
      | (go_at_call 43; refine (cis_any H.out).mono ?_; rintro e w' ⟨rfl, rfl⟩)
      | (go_at_call 50; refine (pspan_any H.out.tx n HNN.out).mono ?_; rw [HT.out, HK.out]; rintro e w1 ⟨rfl, hx, hf⟩; have hx1 := H.out.withTx hf hx HSL.out; have H1 := Lib.hid hx1; have F1 := Lib.hid (hf.sub (fp' := b.fp) (by simp [Bl.fp])); obtain ⟨-, -, d3⟩ := hx1.cells; clear hx hf hx1)
      | (go_at_call 51; refine (ends_yes p n HE.out _).mono ?_; rintro e w' ⟨rfl, rfl⟩)
      | (go_at_call 52; refine (add_any H1.out.sx _).mono ?_; rintro e w2 ⟨rfl, hs, hf⟩; have hx := H1.out.withSx hf hs; have H2 := Lib.hid hx; have F2 := Lib.hid (F1.out.trans (hf.sub (fp' := b.fp) (by simp [Bl.fp])) (fun x hx => .inl hx)); obtain ⟨-, e1, -⟩ := hx.cells; clear hs hf hx)
      | (go_at_call 53; refine (fill_int H2.out.mx ((p : Int) * 32) (n * 32) 0 (by omega) (by omega) HF.out).mono ?_; rintro e w3 ⟨rfl, hm, hf⟩; have H3 := Lib.hid (H2.out.withMx hf hm (fillL_len _ _ _ _)); have F3 := Lib.hid (F2.out.trans (hf.sub (fp' := b.fp) (by simp [Bl.fp])) (fun x hx => .inl hx)); clear hm hf))
    go_ret2
    exact ⟨rfl, by rw [HC.out]; exact H3.out, F3.out⟩
theorem downL_le (ks : List Int) (p : Nat) : downL ks p ≤ p ∧ -1 ≤ downL ks p := by
  induction p with
  | zero => unfold downL; split <;> omega
  | succ p ih => unfold downL; split <;> omega
theorem firstL_le {ks : List Int} {p : Int} (h : -1 ≤ p) : firstL ks p ≤ p ∧ -1 ≤ firstL ks p := by
  unfold firstL
  by_cases hp : p < 0
  · simp only [if_pos hp]; split <;> omega
  · have := downL_le ks p.toNat
    simp only [if_neg hp]; split <;> omega
/-- Where what has an address would begin. -/
def begC (C : Cs) (a : Int) : Int := if baseI (kindL C.ks (pageI a)) a < 0 ∧ 0 ≤ firstL C.ks (pageI a) then firstL C.ks (pageI a) * 32 else baseI (kindL C.ks (pageI a)) a
def baseC (C : Cs) (a : Int) : Int := if hasB C.xs.length C.ws (begC C a) = true then begC C a else -1
set_option maxHeartbeats 8000000 in
set_option maxRecDepth 100000 in
theorem cbase_any (h : CX w b C) (a : Int) :
    Calls Tryz.prog 60 #[.pointer (some ⟨b.c, 0, none⟩), .int .i64 a] w fun e w' => e = .returned (.int .i64 (baseC C a)) ∧ Below w.heap.size w w' := by
  have H := Lib.hid h
  obtain ⟨c0, c1, -⟩ := h.cells
  have hpb := pageI_bd a
  have hfb := firstL_le (ks := C.ks) (p := pageI a) hpb.1
  obtain ⟨p, hp⟩ : ∃ p, p = pageI a := ⟨_, rfl⟩
  have hbeg : begC C a = if baseI (kindL C.ks p) a < 0 ∧ 0 ≤ firstL C.ks p then firstL C.ks p * 32 else baseI (kindL C.ks p) a := by rw [hp]; rfl
  rw [← hp] at hpb hfb
  obtain ⟨bs, hbs⟩ : ∃ x, x = baseI (kindL C.ks p) a := ⟨_, rfl⟩
  obtain ⟨fs, hfs⟩ : ∃ x, x = firstL C.ks p := ⟨_, rfl⟩
  rw [← hbs, ← hfs] at hbeg
  rw [← hfs] at hfb
  have HP := Lib.hid hp
  have HBS := Lib.hid hbs
  have HFS := Lib.hid hfs
  have hp0 := hpb.1
  have HP0 := Lib.hid hp0
  obtain ⟨g, hg⟩ : ∃ x, x = begC C a := ⟨_, rfl⟩
  have HG := Lib.hid (show baseC C a = if hasB C.xs.length C.ws g = true then g else -1 by unfold baseC; rw [hg])
  rw [← hg] at hbeg
  clear h hp hbs hfs hg hp0
  by_cases hc : bs < 0 ∧ 0 ≤ fs
  · have HE := Lib.hid (show endB fs 1 = true by simp [endB]; omega)
    have hge : g = fs * 32 := by rw [hbeg, if_pos hc]
    obtain ⟨hc1, hc2⟩ := hc
    have HGE := Lib.hid hge
    clear hbeg hge
    cases hb : hasB C.xs.length C.ws g with
    | true =>
      rw [hb] at HG
      have HB := Lib.hid hb
      clear hb
      go_enter Tryz.func60, Tryz.ntmps60
      go_wp2_with (first
        | (go_at_call 43; refine (cis_any H.out).mono ?_; rintro e w' ⟨rfl, rfl⟩)
        | (go_at_call 70; refine (gpage_any a _).mono ?_; rw [← HP.out]; rintro e w' ⟨rfl, rfl⟩)
        | (go_at_call 56; refine (ckind_any H.out p).mono ?_; rintro e w2 ⟨rfl, hb⟩; have hx := H.out.below hb; have H2 := Lib.hid hx; have B2 := Lib.hid hb; obtain ⟨d0, d1, -⟩ := hx.cells; clear hb hx)
        | (go_at_call 84; refine (gbase_any _ a _).mono ?_; rw [← HBS.out]; rintro e w' ⟨rfl, rfl⟩)
        | (go_at_call 85; refine (pfirst_any H2.out.tx p HP0.out).mono ?_; rw [← HFS.out]; rintro e w' ⟨rfl, rfl⟩)
        | (go_at_call 51; refine (ends_yes fs 1 HE.out _).mono ?_; rw [← HGE.out]; rintro e w' ⟨rfl, rfl⟩)
        | (go_at_call 62; refine (cisa_any H2.out g).mono ?_; rw [HB.out]; rintro e w' ⟨rfl, rfl⟩))
      go_ret
      exact ⟨by rw [HG.out]; rfl, B2.out⟩
    | false =>
      rw [hb] at HG
      have HB := Lib.hid hb
      clear hb
      go_enter Tryz.func60, Tryz.ntmps60
      go_wp2_with (first
        | (go_at_call 43; refine (cis_any H.out).mono ?_; rintro e w' ⟨rfl, rfl⟩)
        | (go_at_call 70; refine (gpage_any a _).mono ?_; rw [← HP.out]; rintro e w' ⟨rfl, rfl⟩)
        | (go_at_call 56; refine (ckind_any H.out p).mono ?_; rintro e w2 ⟨rfl, hb⟩; have hx := H.out.below hb; have H2 := Lib.hid hx; have B2 := Lib.hid hb; obtain ⟨d0, d1, -⟩ := hx.cells; clear hb hx)
        | (go_at_call 84; refine (gbase_any _ a _).mono ?_; rw [← HBS.out]; rintro e w' ⟨rfl, rfl⟩)
        | (go_at_call 85; refine (pfirst_any H2.out.tx p HP0.out).mono ?_; rw [← HFS.out]; rintro e w' ⟨rfl, rfl⟩)
        | (go_at_call 51; refine (ends_yes fs 1 HE.out _).mono ?_; rw [← HGE.out]; rintro e w' ⟨rfl, rfl⟩)
        | (go_at_call 62; refine (cisa_any H2.out g).mono ?_; rw [HB.out]; rintro e w' ⟨rfl, rfl⟩))
      go_ret
      exact ⟨by rw [HG.out]; rfl, B2.out⟩
  · have hge : g = bs := by rw [hbeg, if_neg hc]
    subst hge
    clear hbeg
    have htest : (decide (g < 0) && decide (0 ≤ fs)) = false := by simp; omega
    have hsplit : 0 ≤ g ∨ (g < 0 ∧ fs < 0) := by omega
    clear hc htest
    cases hb : hasB C.xs.length C.ws g with
    | true =>
      rw [hb] at HG
      have HB := Lib.hid hb
      have hg0 : 0 ≤ g := by
        unfold hasB inB at hb
        simp at hb; omega
      clear hb hsplit
      go_enter Tryz.func60, Tryz.ntmps60
      go_wp2_with (first
        | (go_at_call 43; refine (cis_any H.out).mono ?_; rintro e w' ⟨rfl, rfl⟩)
        | (go_at_call 70; refine (gpage_any a _).mono ?_; rw [← HP.out]; rintro e w' ⟨rfl, rfl⟩)
        | (go_at_call 56; refine (ckind_any H.out p).mono ?_; rintro e w2 ⟨rfl, hb⟩; have hx := H.out.below hb; have H2 := Lib.hid hx; have B2 := Lib.hid hb; obtain ⟨d0, d1, -⟩ := hx.cells; clear hb hx)
        | (go_at_call 84; refine (gbase_any _ a _).mono ?_; rw [← HBS.out]; rintro e w' ⟨rfl, rfl⟩)
        | (go_at_call 85; refine (pfirst_any H2.out.tx p HP0.out).mono ?_; rw [← HFS.out]; rintro e w' ⟨rfl, rfl⟩)
        | (go_at_call 62; refine (cisa_any H2.out g).mono ?_; rw [HB.out]; rintro e w' ⟨rfl, rfl⟩))
      go_ret
      exact ⟨by rw [HG.out]; rfl, B2.out⟩
    | false =>
      rw [hb] at HG
      have HB := Lib.hid hb
      clear hb
      rcases hsplit with hs | ⟨hs1, hs2⟩
      all_goals
        go_enter Tryz.func60, Tryz.ntmps60
        go_wp2_with (first
          | (go_at_call 43; refine (cis_any H.out).mono ?_; rintro e w' ⟨rfl, rfl⟩)
          | (go_at_call 70; refine (gpage_any a _).mono ?_; rw [← HP.out]; rintro e w' ⟨rfl, rfl⟩)
          | (go_at_call 56; refine (ckind_any H.out p).mono ?_; rintro e w2 ⟨rfl, hb⟩; have hx := H.out.below hb; have H2 := Lib.hid hx; have B2 := Lib.hid hb; obtain ⟨d0, d1, -⟩ := hx.cells; clear hb hx)
          | (go_at_call 84; refine (gbase_any _ a _).mono ?_; rw [← HBS.out]; rintro e w' ⟨rfl, rfl⟩)
          | (go_at_call 85; refine (pfirst_any H2.out.tx p HP0.out).mono ?_; rw [← HFS.out]; rintro e w' ⟨rfl, rfl⟩)
          | (go_at_call 62; refine (cisa_any H2.out g).mono ?_; rw [HB.out]; rintro e w' ⟨rfl, rfl⟩))
        go_ret
        exact ⟨by rw [HG.out]; rfl, B2.out⟩
def storeB (C : Cs) (a : Int) : Bool := decide (0 ≤ baseC C a) && fitB C.xs.length a 1
def storeC (C : Cs) (a v : Int) : Cs := if 0 ≤ baseC C a then { C with xs := putL C.xs a v } else C
set_option maxHeartbeats 2000000 in
theorem cstore_any (h : CX w b C) (a v : Int) :
    Calls Tryz.prog 31 #[.pointer (some ⟨b.c, 0, none⟩), .int .i64 a, .int .i64 v] w fun e w' => e = .returned (.bool (storeB C a)) ∧ CX w' b (storeC C a v) ∧ Frm b.fp w w' := by
  have H := Lib.hid h
  by_cases hb : 0 ≤ baseC C a
  · have HS := Lib.hid (show storeB C a = fitB C.xs.length a 1 by unfold storeB; simp [hb])
    have HC := Lib.hid (show storeC C a v = { C with xs := putL C.xs a v } by unfold storeC; rw [if_pos hb])
    clear h
    go_enter Tryz.func31, Tryz.ntmps31
    go_wp2_with (first
      | (go_at_call 60; refine (cbase_any H.out a).mono ?_; rintro e w1 ⟨rfl, hb1⟩; have hx := H.out.below hb1; have H1 := Lib.hid hx; have F1 := Lib.hid (Frm.of_below b.fp hb1); obtain ⟨-, d1, -⟩ := hx.cells; clear hb1 hx)
      | (go_at_call 61; refine (store_any H1.out.mx a v).mono ?_; rintro e w2 ⟨rfl, hm, hf⟩; have H2 := Lib.hid (H1.out.withMx hf hm (putL_len _ _ _)); have F2 := Lib.hid (F1.out.trans (hf.sub (fp' := b.fp) (by simp [Bl.fp])) (fun x hx => .inl hx)); clear hm hf))
    go_ret
    exact ⟨ret_bool HS.out.symm, by rw [HC.out]; exact H2.out, F2.out⟩
  · have HS := Lib.hid (show storeB C a = false by unfold storeB; simp [hb])
    have HC := Lib.hid (show storeC C a v = C by unfold storeC; rw [if_neg hb])
    have hd : decide (0 ≤ baseC C a) = false := by simpa using hb
    clear h
    go_enter Tryz.func31, Tryz.ntmps31
    go_wp2_with (go_at_call 60; refine (cbase_any H.out a).mono ?_; rintro e w1 ⟨rfl, hb1⟩; have H1 := Lib.hid (H.out.below hb1); have F1 := Lib.hid (Frm.of_below b.fp hb1); clear hb1)
    go_ret
    exact ⟨ret_bool HS.out.symm, by rw [HC.out]; exact H1.out, F1.out⟩
end
end Go.Proofs.YtjoejjhgneccgaaGreat

/- What the functions of package class, and the reference's, come to. -/
namespace Go.Proofs.YtjoejjhgneccgaaGreat
open Go.RowKit

set_option maxHeartbeats 1000000 in
theorem of_any (n : Int) (w : World) :
    Calls Tryz.prog 22 #[.int .i64 n] w fun e w' => e = .returned (.int .i64 (ofI n)) ∧ w = w' := by
  by_cases h0 : n < 0
  · have hs := Lib.hid (ofI_out (n := n) (.inl h0))
    go_enter Tryz.func22, Tryz.ntmps22
    go_wp2_with fail
    go_ret
    exact ⟨ret_int hs.out.symm, rfl⟩
  by_cases h1 : 127 < n
  · have hs := Lib.hid (ofI_out (n := n) (.inr h1))
    go_enter Tryz.func22, Tryz.ntmps22
    go_wp2_with fail
    go_ret
    exact ⟨ret_int hs.out.symm, rfl⟩
  go_enter Tryz.func22, Tryz.ntmps22
  go_wp2_with fail
  go_loop [3] (fun i => ∃ k : Int, 1 ≤ k ∧ k ≤ 5 ∧ i = .int .i64 k ∧ Hid (∀ j : Int, 1 ≤ j → j < k → sizeI j < n + 1)) (fun i => (5 - intOf i).toNat)
  case atStart => exact ⟨1, by omega, by omega, rfl, fun j hj1 hj2 => absurd hj1 (by omega)⟩
  case round =>
    obtain ⟨k, hk1, hk2, rfl, HB⟩ := hrel
    have hb := sizeI_bd k
    by_cases h5 : k < 5
    · by_cases hs : sizeI k < n + 1
      · have HB' : Hid (∀ j : Int, 1 ≤ j → j < k + 1 → sizeI j < n + 1) := fun j hj1 hj2 => by
          by_cases e : j < k
          · exact HB.out j hj1 e
          · obtain rfl : j = k := by omega
            exact hs
        have d5 : decide (k < 5) = true := by simpa using h5
        have ds : decide (sizeI k < n + 1) = true := by simpa using hs
        go_wp2_with (go_at_call 49; refine (size_any k _).mono ?_; rintro e w1 ⟨rfl, rfl⟩)
        go_round
        case rel => exact ⟨k + 1, by omega, by omega, rfl, HB'⟩
        case measure => simp [intOf]; omega
      · have HE := Lib.hid (ofI_first (n := n) (k := k) (by omega) (by omega) hk1 hk2 HB.out (.inr (by omega)))
        have d5 : decide (k < 5) = true := by simpa using h5
        have ds : decide (sizeI k < n + 1) = false := by simpa using hs
        go_wp2_with (go_at_call 49; refine (size_any k _).mono ?_; rintro e w1 ⟨rfl, rfl⟩)
        go_ret
        exact ⟨ret_int HE.out.symm, rfl⟩
    · have HE := Lib.hid (ofI_first (n := n) (k := k) (by omega) (by omega) hk1 hk2 HB.out (.inl (by omega)))
      have d5 : decide (k < 5) = false := by simpa using h5
      go_wp2_with fail
      go_ret
      exact ⟨ret_int HE.out.symm, rfl⟩

set_option maxHeartbeats 1000000 in
theorem pages_any (n : Int) (w : World) :
    Calls Tryz.prog 25 #[.int .i64 n] w fun e w' => e = .returned (.int .i64 (pagesI n)) ∧ w = w' := by
  by_cases h : ofI n = 5
  · have hn := pagesI_five h
    have HE := Lib.hid (show pagesI n = (n + 32) / 32 from if_pos h)
    have h1 : (ofI n != 5) = false := by simp [h]
    clear h
    go_enter Tryz.func25, Tryz.ntmps25
    go_wp2_with (go_at_call 22; refine (of_any n _).mono ?_; rintro e w1 ⟨rfl, rfl⟩)
    go_ret
    exact ⟨ret_int HE.out.symm, rfl⟩
  · have HE := Lib.hid (show pagesI n = 0 from if_neg h)
    have h1 : (ofI n != 5) = true := by simp [h]
    clear h
    go_enter Tryz.func25, Tryz.ntmps25
    go_wp2_with (go_at_call 22; refine (of_any n _).mono ?_; rintro e w1 ⟨rfl, rfl⟩)
    go_ret
    exact ⟨ret_int HE.out.symm, rfl⟩

end Go.Proofs.YtjoejjhgneccgaaGreat

/- A store in memory; an object begins. -/
namespace Go.Proofs.YtjoejjhgneccgaaGreat
open Go.RowKit

/-- Where a store lies. -/
structure Sl where
  s : Nat
  cb : Bl
  oc : Nat
  ob : Nat
/-- What a store is. -/
structure Sm where
  C : Cs
  M : OwnM
  th : Int
  np : Int
  md : Int
def Sl.fp (b : Sl) : List Nat := b.s :: b.ob :: b.cb.fp
structure StX (w : World) (b : Sl) (S : Sm) : Prop where
  hd : w.heap[b.s]? = some (.cells #[.pointer (some ⟨b.cb.c, 0, none⟩), .pointer (some ⟨b.oc, 0, none⟩), .int .i64 S.th, .int .i64 S.np, .int .i64 S.md] 50 (0, 0))
  cx : CX w b.cb S.C
  ca : CaX w b.oc b.ob S.th S.M
theorem MpX.obj {w : World} {b : Nat} {M : OwnM} (h : MpX w b M) : ∃ es clock, w.heap[b]? = some (.map es clock) := by
  obtain ⟨⟨D, ⟨es, clock, hb, r⟩, h2⟩, hd⟩ := h
  exact ⟨es, clock, hb⟩
theorem ne_map {w : World} {a b : Nat} {x : Array Value} {T : TypeId} {f : Nat × Nat} {M : OwnM} (h : w.heap[a]? = some (.cells x T f)) (h2 : MpX w b M) : a ≠ b := by
  rintro rfl
  obtain ⟨es, clock, h2⟩ := h2.obj
  rw [h] at h2
  cases h2
/-- A block of another type than those of the cells. -/
theorem CX.not_mem {w : World} {b : Bl} {C : Cs} (h : CX w b C) {a : Nat} (ha : ∀ z ∈ b.fp, ∀ x T f, w.heap[z]? = some (.cells x T f) → T = 78 ∨ T = 100 ∨ T = 3 ∨ T = 104 ∨ T = 2 ∨ T = 108 → a ≠ z) : a ∉ b.fp := by
  intro hm
  obtain ⟨hc, ⟨ht, hk, _⟩, ⟨⟨c, _, _, hmm⟩, ⟨zs, hr⟩, _⟩, ⟨hs, _, _, _⟩, _, _⟩ := h
  have hm2 := hm
  simp only [Bl.fp, List.mem_cons, List.not_mem_nil, or_false] at hm2
  rcases hm2 with e | e | e | e | e | e
  · exact ha a hm _ _ _ (e ▸ hc) (by decide) rfl
  · exact ha a hm _ _ _ (e ▸ ht) (by decide) rfl
  · exact ha a hm _ _ _ (e ▸ hk) (by decide) rfl
  · exact ha a hm _ _ _ (e ▸ hmm) (by decide) rfl
  · exact ha a hm _ _ _ (e ▸ hr) (by decide) rfl
  · exact ha a hm _ _ _ (e ▸ hs) (by decide) rfl
section
variable {w w' : World} {b : Sl} {S : Sm}
structure SApart (b : Sl) : Prop where
  sc : b.s ∉ b.cb.fp
  so : b.s ≠ b.oc
  sb : b.s ≠ b.ob
  oc : b.oc ∉ b.cb.fp
  ob : b.oc ≠ b.ob
  bc : b.ob ∉ b.cb.fp
theorem not_types {w : World} {a : Nat} {x : Array Value} {T : TypeId} {f : Nat × Nat} {b : Bl} {C : Cs} (h : CX w b C) (ha : w.heap[a]? = some (.cells x T f)) (hT : T ≠ 78 ∧ T ≠ 100 ∧ T ≠ 3 ∧ T ≠ 104 ∧ T ≠ 2 ∧ T ≠ 108) : a ∉ b.fp :=
  h.not_mem fun z _ y U g hz hU => ne_types ha hz (by
    rcases hU with rfl | rfl | rfl | rfl | rfl | rfl
    · exact hT.1
    · exact hT.2.1
    · exact hT.2.2.1
    · exact hT.2.2.2.1
    · exact hT.2.2.2.2.1
    · exact hT.2.2.2.2.2)
theorem StX.apart (h : StX w b S) : SApart b :=
  ⟨not_types h.cx h.hd (by decide), ne_types h.hd h.ca.hd (by decide), ne_map h.hd h.ca.mp, not_types h.cx h.ca.hd (by decide), h.ca.ne, h.cx.not_mem fun z _ y U g hz _ => (ne_map hz h.ca.mp).symm⟩
theorem StX.cells (h : StX w b S) : w.cell? ⟨b.s, 0, none⟩ = some (.pointer (some ⟨b.cb.c, 0, none⟩)) ∧ w.cell? ⟨b.s, 1, none⟩ = some (.pointer (some ⟨b.oc, 0, none⟩)) ∧ w.cell? ⟨b.s, 2, none⟩ = some (.int .i64 S.th) ∧ w.cell? ⟨b.s, 3, none⟩ = some (.int .i64 S.np) ∧ w.cell? ⟨b.s, 4, none⟩ = some (.int .i64 S.md) ∧ w.frozen? ⟨b.s, 4, none⟩ = false :=
  ⟨cell_of_row _ _ _ _ _ _ h.hd, cell_of_row _ _ _ _ _ _ h.hd, cell_of_row _ _ _ _ _ _ h.hd, cell_of_row _ _ _ _ _ _ h.hd, cell_of_row _ _ _ _ _ _ h.hd, frozen_of_row _ _ _ _ _ h.hd⟩
theorem StX.below (h : StX w b S) (hb : Below w.heap.size w w') : StX w' b S := ⟨(hb.block b.s (heap_lt h.hd)).trans h.hd, h.cx.below hb, h.ca.below hb⟩
theorem StX.withCX {C : Cs} (h : StX w b S) (hf : Frm b.cb.fp w w') (hx : CX w' b.cb C) : StX w' b { S with C := C } :=
  ⟨(hf.block b.s (heap_lt h.hd) h.apart.sc).trans h.hd, hx, h.ca.keep (hf.block _ (heap_lt h.ca.hd) h.apart.oc) (hf.block _ h.ca.mp.lt h.apart.bc)⟩
theorem StX.withCa {M : OwnM} (h : StX w b S) (hf : Frm [b.ob] w w') (hx : CaX w' b.oc b.ob S.th M) : StX w' b { S with M := M } :=
  ⟨(hf.block b.s (heap_lt h.hd) (by simpa using h.apart.sb)).trans h.hd, h.cx.frm hf (fun x hx hm => h.apart.bc (List.mem_singleton.1 hm ▸ hx)), hx⟩
theorem StX.setMade (h : StX w b S) (v : Int) : StX (w.setCell ⟨b.s, 4, none⟩ (.int .i64 v)) b { S with md := v } :=
  ⟨heap_setCell_same _ _ 4 _ _ _ h.hd, h.cx.keep fun x hx => heap_setCell_other _ _ _ _ (fun e => h.apart.sc ((show x = b.s from e) ▸ hx)), h.ca.keep (heap_setCell_other _ _ _ _ (Ne.symm h.apart.so)) (heap_setCell_other _ _ _ _ (Ne.symm h.apart.sb))⟩
theorem Sl.sub_cb (b : Sl) : ∀ k ∈ b.cb.fp, k ∈ b.fp := fun _ hk => List.mem_cons_of_mem _ (List.mem_cons_of_mem _ hk)
theorem Sl.sub_ob (b : Sl) : ∀ k ∈ [b.ob], k ∈ b.fp := fun k hk => by simp at hk; subst hk; simp [Sl.fp]
theorem sis_any (h : StX w b S) :
    Calls Tryz.prog 23 #[.pointer (some ⟨b.s, 0, none⟩)] w fun e w' => e = .returned (.bool true) ∧ w = w' := by
  obtain ⟨c0, -⟩ := h.cells
  clear h
  go_enter Tryz.func23, Tryz.ntmps23
  go_wp2_with fail
  go_ret
  exact ⟨rfl, rfl⟩
def smallB (n : Int) : Bool := decide (0 < sizeI (ofI n))
theorem ssmall_any (n : Int) (w : World) :
    Calls Tryz.prog 35 #[.int .i64 n] w fun e w' => e = .returned (.bool (smallB n)) ∧ w = w' := by
  go_enter Tryz.func35, Tryz.ntmps35
  go_wp2_with (first
    | (go_at_call 22; refine (of_any n _).mono ?_; rintro e w1 ⟨rfl, rfl⟩)
    | (go_at_call 49; refine (size_any _ _).mono ?_; rintro e w1 ⟨rfl, rfl⟩))
  go_ret
  exact ⟨rfl, rfl⟩
theorem hmake_ok (s n : Int) (s0 : 0 ≤ s) (s1 : s < 1099511627776) (n0 : 0 ≤ n) (n1 : n ≤ 127) (w : World) :
    Calls Tryz.prog 54 #[.int .i64 s, .int .i64 n] w fun e w' => e = .returned (.tuple #[.int .i64 (s * 128 + n), .bool true]) ∧ w = w' := by
  have a0 : decide (s < 0) = false := by rw [decide_eq_false_iff_not]; omega
  have a1 : decide (1099511627776 ≤ s) = false := by rw [decide_eq_false_iff_not]; omega
  have a2 : decide (n < 0) = false := by rw [decide_eq_false_iff_not]; omega
  have a3 : decide (127 < n) = false := by rw [decide_eq_false_iff_not]; omega
  have k1 : IntKind.i64.wrap (s * 128) = s * 128 := by rw [IntKind.wrap_i64]; omega
  have k2 : IntKind.i64.wrap (s * 128 + n) = s * 128 + n := by rw [IntKind.wrap_i64]; omega
  clear s0 s1 n0 n1
  go_enter Tryz.func54, Tryz.ntmps54
  go_wp2_with fail
  go_ret2
  exact ⟨rfl, rfl⟩
/-- An object begins. -/
def Sm.begin (S : Sm) (a n : Int) : Sm := { S with C := storeC S.C a (S.md * 128 + n), md := S.md + 1 }
set_option maxHeartbeats 2000000 in
theorem sbegin_ok (h : StX w b S) (a n : Int) (m0 : 0 ≤ S.md) (m1 : S.md < 1000000) (n0 : 0 ≤ n) (n1 : n ≤ 127) :
    Calls Tryz.prog 26 #[.pointer (some ⟨b.s, 0, none⟩), .int .i64 a, .int .i64 n] w fun e w' => e = .returned (.int .i64 a) ∧ StX w' b (S.begin a n) ∧ Frm b.fp w w' := by
  obtain ⟨c0, -, -, -, c4, f4⟩ := h.cells
  have H := Lib.hid h
  have k1 : IntKind.i64.wrap (S.md + 1) = S.md + 1 := by rw [IntKind.wrap_i64]; omega
  have M0 := Lib.hid m0
  have M1 := Lib.hid (show S.md < 1099511627776 by omega)
  have N0 := Lib.hid n0
  have N1 := Lib.hid n1
  clear h m0 m1 n0 n1
  go_enter Tryz.func26, Tryz.ntmps26
  go_wp2_with (first
    | (go_at_call 54; refine (hmake_ok S.md n M0.out M1.out N0.out N1.out _).mono ?_; rintro e w1 ⟨rfl, rfl⟩)
    | (go_at_call 31; refine (cstore_any H.out.cx a _).mono ?_; rintro e w2 ⟨rfl, hx, hf⟩; have hy := H.out.withCX hf hx; obtain ⟨d0, -, -, -, d4, g4⟩ := hy.cells; have H2 := Lib.hid hy; have F2 := Lib.hid (hf.sub (fp' := b.fp) b.sub_cb); clear hx hf hy))
  go_ret
  exact ⟨rfl, H2.out.setMade _, F2.out.trans (Frm.setCell _ (fp := b.fp) (by simp [Sl.fp]) _) (fun x hx => .inl hx)⟩
end
end Go.Proofs.YtjoejjhgneccgaaGreat

/- A store: fast. -/
namespace Go.Proofs.YtjoejjhgneccgaaGreat
open Go.RowKit

theorem wfI_of (n : Int) : wfI (ofI n) := by have := ofI_bd n; exact ⟨by omega, by omega⟩
theorem small_bd {n : Int} (h : smallB n = true) : 0 ≤ n ∧ n ≤ 127 := by
  apply Decidable.byContradiction
  intro hc
  unfold smallB at h
  rw [ofI_out (by omega), sizeI_zero (by omega)] at h
  simp at h
section
variable {w w' : World} {b : Sl} {S : Sm}
def NoE (e : Ending) : Prop := e = .returned (.tuple #[.int .i64 0, .bool false])
theorem sfast_small (h : StX w b S) (t n : Int) (hs : smallB n = false) :
    Calls Tryz.prog 14 #[.pointer (some ⟨b.s, 0, none⟩), .int .i64 t, .int .i64 n] w fun e w' => NoE e ∧ w = w' := by
  have H := Lib.hid h
  have HS := Lib.hid hs
  clear h hs
  go_enter Tryz.func14, Tryz.ntmps14
  go_wp2_with (first
    | (go_at_call 23; refine (sis_any H.out).mono ?_; rintro e w1 ⟨rfl, rfl⟩)
    | (go_at_call 35; refine (ssmall_any n _).mono ?_; rw [HS.out]; rintro e w1 ⟨rfl, rfl⟩))
  go_ret2
  exact ⟨rfl, rfl⟩
set_option maxHeartbeats 4000000 in
set_option maxRecDepth 100000 in
theorem sfast_no (h : StX w b S) (t n : Int) (wt : wfI t) (hl : leftL S.C (pageM S.M t (ofI n)) = 0) :
    Calls Tryz.prog 14 #[.pointer (some ⟨b.s, 0, none⟩), .int .i64 t, .int .i64 n] w fun e w' => NoE e ∧ Below w.heap.size w w' := by
  cases hs : smallB n with
  | false =>
    refine (sfast_small h t n hs).mono ?_
    rintro e w' ⟨he, rfl⟩
    exact ⟨he, Below.refl _ _⟩
  | true =>
  have H := Lib.hid h
  have HS := Lib.hid hs
  have HL := Lib.hid hl
  have WT := Lib.hid wt
  have B0 := Lib.hid ((Below.refl w.heap.size w).drew)
  have HD := Lib.hid (h.below B0.out)
  obtain ⟨c0, c1, -⟩ := h.cells
  clear h hs hl wt
  go_enter Tryz.func14, Tryz.ntmps14
  go_wp2_with (first
    | (go_at_call 23; refine (sis_any H.out).mono ?_; rintro e w1 ⟨rfl, rfl⟩)
    | (go_at_call 35; refine (ssmall_any n _).mono ?_; rw [HS.out]; rintro e w1 ⟨rfl, rfl⟩))
  go_region_held3 (fun w' => w'.cell? ⟨b.s, 0, none⟩ = some (.pointer (some ⟨b.cb.c, 0, none⟩)) ∧ w'.cell? ⟨b.s, 1, none⟩ = some (.pointer (some ⟨b.oc, 0, none⟩))) (first | (go_split_ands; exact ⟨by assumption, by assumption⟩) | go_keep)
    (first
      | (go_at_call 22; refine (of_any n _).mono ?_; rintro e w1 ⟨rfl, rfl⟩)
      | (go_at_call 37; refine (capage_any HD.out.ca t _ WT.out (wfI_of n)).mono ?_; rintro e w1 ⟨rfl, rfl⟩)
      | (go_at_call 36; refine (ctake_no HD.out.cx _ HL.out).mono ?_; rintro e w2 ⟨rfl, hb⟩; have hx := HD.out.below hb; obtain ⟨d0, d1, -⟩ := hx.cells; have B2 := Lib.hid (below_next B0.out hb); clear hx hb))
  go_wp2_with fail
  go_ret2
  exact ⟨rfl, B2.out⟩
/-- A cell of a page is taken. -/
def Sm.take (S : Sm) (q : Nat) (k f m y : Int) : Sm := { S with C := takeC S.C q k f m y }
set_option maxHeartbeats 4000000 in
set_option maxRecDepth 100000 in
theorem sfast_ok (h : StX w b S) (t n : Int) (wt : wfI t) (hs : smallB n = true) (q : Nat) (k f m y : Int) (hp : pageM S.M t (ofI n) = q) (ht : TakeP S.C q k f m y) (m0 : 0 ≤ S.md) (m1 : S.md < 1000000) :
    Calls Tryz.prog 14 #[.pointer (some ⟨b.s, 0, none⟩), .int .i64 t, .int .i64 n] w fun e w' => e = .returned (.tuple #[.int .i64 (cad q k f), .bool true]) ∧ StX w' b ((S.take q k f m y).begin (cad q k f) n) ∧ Frm b.fp w w' := by
  have H := Lib.hid h
  have HS := Lib.hid hs
  have HP := Lib.hid hp
  have HT := Lib.hid ht
  have WT := Lib.hid wt
  have NB := Lib.hid (small_bd hs)
  have M0 := Lib.hid (show 0 ≤ (S.take q k f m y).md from m0)
  have M1 := Lib.hid (show (S.take q k f m y).md < 1000000 from m1)
  have B0 := Lib.hid ((Below.refl w.heap.size w).drew)
  have HD := Lib.hid (h.below B0.out)
  have F0 := Lib.hid (Frm.of_below b.fp B0.out)
  obtain ⟨c0, c1, -⟩ := h.cells
  clear h hs hp ht wt m0 m1
  go_enter Tryz.func14, Tryz.ntmps14
  go_wp2_with (first
    | (go_at_call 23; refine (sis_any H.out).mono ?_; rintro e w1 ⟨rfl, rfl⟩)
    | (go_at_call 35; refine (ssmall_any n _).mono ?_; rw [HS.out]; rintro e w1 ⟨rfl, rfl⟩))
  go_region_held3 (fun w' => w'.cell? ⟨b.s, 0, none⟩ = some (.pointer (some ⟨b.cb.c, 0, none⟩)) ∧ w'.cell? ⟨b.s, 1, none⟩ = some (.pointer (some ⟨b.oc, 0, none⟩))) (first | (go_split_ands; exact ⟨by assumption, by assumption⟩) | go_keep)
    (first
      | (go_at_call 22; refine (of_any n _).mono ?_; rintro e w1 ⟨rfl, rfl⟩)
      | (go_at_call 37; refine (capage_any HD.out.ca t _ WT.out (wfI_of n)).mono ?_; rw [HP.out]; rintro e w1 ⟨rfl, rfl⟩)
      | (go_at_call 36; refine (ctake_ok HD.out.cx q k f m y HT.out).mono ?_; rintro e w2 ⟨rfl, hx, hf⟩; have hy := HD.out.withCX hf hx; obtain ⟨d0, d1, -⟩ := hy.cells; have H2 := Lib.hid hy; have F2 := Lib.hid (F0.out.trans (hf.sub (fp' := b.fp) b.sub_cb) (fun x hx => .inl hx)); clear hx hf hy))
  go_wp2_with (go_at_call 26; refine (sbegin_ok H2.out (cad q k f) n M0.out M1.out NB.out.1 NB.out.2).mono ?_; rintro e w3 ⟨rfl, hx, hf⟩; have H3 := Lib.hid hx; have F3 := Lib.hid (F2.out.trans hf (fun x hx => .inl hx)); clear hx hf)
  go_ret2
  exact ⟨rfl, H3.out, F3.out⟩
end
end Go.Proofs.YtjoejjhgneccgaaGreat

/- A store: the lowest page of a class with room. -/
namespace Go.Proofs.YtjoejjhgneccgaaGreat
open Go.RowKit

/-- Is a page somebody's? -/
def ownB (M : OwnM) (p : Int) : Bool := (List.range 9).any fun t => (List.range 4).any fun k => M (t : Int) ((k : Int) + 1) == some p
theorem ownB_iff {M : OwnM} (hd : Dom M) (p : Int) : ownB M p = true ↔ ∃ t k, M t k = some p := by
  unfold ownB
  simp only [List.any_eq_true, List.mem_range, beq_iff_eq]
  constructor
  · rintro ⟨t, -, k, -, h⟩
    exact ⟨_, _, h⟩
  · rintro ⟨t, k, h⟩
    obtain ⟨h1, h2, h3, h4, -⟩ := hd t k p h
    obtain ⟨a, rfl⟩ := Int.eq_ofNat_of_zero_le h1
    obtain ⟨c, hc⟩ := Int.eq_ofNat_of_zero_le (show 0 ≤ k - 1 by omega)
    refine ⟨a, by omega, c, by omega, ?_⟩
    rw [show (c : Int) + 1 = k by omega]
    exact h
theorem dom_wf {M : OwnM} (hd : Dom M) {t k p : Int} (h : M t k = some p) : wfI t ∧ wfI k := by
  obtain ⟨h1, h2, h3, h4, -⟩ := hd t k p h
  exact ⟨⟨by omega, by omega⟩, by omega, by omega⟩
section
variable {w w' : World} {c b : Nat} {th : Int} {M : OwnM}
def OwnYes (M : OwnM) (p : Int) (e : Ending) : Prop := ∃ t k : Int, e = .returned (.tuple #[.int .i64 t, .int .i64 k]) ∧ M t k = some p
theorem caowner_yes (h : CaX w c b th M) (p : Int) (ho : ownB M p = true) :
    Calls Tryz.prog 55 #[.pointer (some ⟨c, 0, none⟩), .int .i64 p] w fun e w' => OwnYes M p e ∧ Below w.heap.size w w' := by
  refine (caowner_any h p).mono ?_
  rintro e w' ⟨⟨t, k, rfl, h1 | ⟨-, -, h1⟩⟩, hb⟩
  · exact ⟨⟨t, k, rfl, h1.1⟩, hb⟩
  · obtain ⟨t', k', h2⟩ := (ownB_iff h.mp.dom p).1 ho
    have := dom_wf h.mp.dom h2
    exact absurd h2 (h1 t' k' this.1 this.2)
theorem caowner_no (h : CaX w c b th M) (p : Int) (ho : ownB M p = false) :
    Calls Tryz.prog 55 #[.pointer (some ⟨c, 0, none⟩), .int .i64 p] w fun e w' => e = .returned (.tuple #[.int .i64 (-1), .int .i64 0]) ∧ Below w.heap.size w w' := by
  refine (caowner_any h p).mono ?_
  rintro e w' ⟨⟨t, k, rfl, h1 | ⟨rfl, rfl, -⟩⟩, hb⟩
  · have := (ownB_iff h.mp.dom p).2 ⟨t, k, h1.1⟩
    rw [ho] at this
    cases this
  · exact ⟨rfl, hb⟩
end
def openB (S : Sm) (k p : Int) : Bool := !ownB S.M p && (kindL S.C.ks p == k) && decide (0 < leftL S.C p)
def openL (S : Sm) (k : Int) : Option Nat := (List.range S.C.ks.length).find? fun p => openB S k (p : Int)
theorem openL_some {S : Sm} {k : Int} {j : Nat} (hj : j < S.C.ks.length) (h0 : ∀ x, x < j → openB S k (x : Int) = false) (h1 : openB S k (j : Int) = true) : openL S k = some j := by
  unfold openL
  rw [List.find?_range_eq_some]
  exact ⟨h1, by simpa using hj, fun x hx => by simpa using h0 x hx⟩
theorem openL_none {S : Sm} {k : Int} (h0 : ∀ x, x < S.C.ks.length → openB S k (x : Int) = false) : openL S k = none := by
  unfold openL
  rw [List.find?_eq_none]
  intro x hx
  simpa using h0 x (by simpa using hx)
/-- The page, and what is carved. -/
def openP (S : Sm) (k : Int) : Option Nat := match openL S k with | some p => some p | none => takeT S.C.ks k
def openS (S : Sm) (k : Int) : Sm := match openL S k with | some _ => S | none => { S with C := carveC S.C k }
section
variable {w w' : World} {b : Sl} {S : Sm}
set_option maxHeartbeats 4000000 in
set_option maxRecDepth 100000 in
theorem sopen_any (h : StX w b S) (k : Int) (hn : S.np = (S.C.ks.length : Nat)) :
    Calls Tryz.prog 27 #[.pointer (some ⟨b.s, 0, none⟩), .int .i64 k] w fun e w' => TakeE (openP S k) e ∧ StX w' b (openS S k) ∧ Frm b.fp w w' := by
  have H := Lib.hid h
  have B0 := Lib.hid (Below.refl w.heap.size w)
  have hle := h.cx.tx.le
  obtain ⟨c0, c1, -, c3, -⟩ := h.cells
  rw [hn] at c3
  clear h hn
  go_enter Tryz.func27, Tryz.ntmps27
  go_wp2_with fail
  go_loopw [13] (fun i wr => ∃ j : Nat, i = .int .i64 (j : Int) ∧ j ≤ S.C.ks.length ∧ Hid (∀ x, x < j → openB S k (x : Int) = false) ∧ Hid (Below w.heap.size w wr)) (fun i _ => 65 - (intOf i).toNat)
  case atStart => exact ⟨0, rfl, by omega, Lib.hid (fun x hx => by omega), B0⟩
  case round =>
    clear B0
    obtain ⟨j, rfl, hj, HA, HB⟩ := hrel
    have hx := H.out.below HB.out
    obtain ⟨d0, d1, -⟩ := hx.cells
    have HX := Lib.hid hx
    clear hx
    by_cases hj2 : j = S.C.ks.length
    · have l0 : decide (j < S.C.ks.length) = false := by simp; omega
      have HO := Lib.hid (openL_none (S := S) (k := k) (fun x hx => HA.out x (by omega)))
      clear hj2 hj
      go_wp2_with (go_at_call 58; refine (ccarve_any HX.out.cx k).mono ?_; rintro e w2 ⟨rfl, hx, hf⟩; have H2 := Lib.hid (HX.out.withCX hf hx); have F2 := Lib.hid ((Frm.of_below b.fp HB.out).trans (hf.sub (fp' := b.fp) b.sub_cb) (fun x hx => .inl hx)); clear hx hf)
      all_goals
        rename_i heq
        go_ret2
        exact ⟨by unfold openP TakeE; rw [HO.out]; simp only [heq]; rfl, by unfold openS; rw [HO.out]; exact H2.out, F2.out⟩
    · have hj3 : j < S.C.ks.length := by omega
      have l1 : decide (j < S.C.ks.length) = true := by simp; omega
      have k1 : IntKind.i64.wrap ((j : Int) + 1) = ((j + 1 : Nat) : Int) := by rw [IntKind.wrap_i64]; omega
      have HJ := Lib.hid hj3
      have H64 := Lib.hid (show j < 64 by omega)
      clear hj hj2 hj3
      cases ho : ownB S.M (j : Int) with
      | true =>
        have HOB := Lib.hid ho
        have HN := Lib.hid (show openB S k (j : Int) = false by unfold openB; rw [ho]; rfl)
        clear ho
        go_wp2_with (go_at_call 55; refine (caowner_yes HX.out.ca j HOB.out).mono ?_; rintro e w1 ⟨⟨t, q, rfl, ht⟩, hb⟩; have t0 : decide (t < 0) = false := (by have := (HX.out.ca.mp.dom t q _ ht).1; rw [decide_eq_false_iff_not]; omega); have B1 := Lib.hid (below_next HB.out hb); clear ht hb)
        go_roundw
        case rel => exact ⟨j + 1, rfl, HJ.out, Lib.hid (fun x hx => by by_cases e : x = j; · subst e; exact HN.out
                                                                       · exact HA.out x (by omega)), B1⟩
        case measure => simp only [intOf]; have := H64.out; omega
      | false =>
        have HOB := Lib.hid ho
        by_cases hk : kindL S.C.ks (j : Int) = k
        · have hkk : (kindL S.C.ks (j : Int) == k) = true := by simpa using hk
          by_cases hl : 0 < leftL S.C (j : Int)
          · have hll : decide (0 < leftL S.C (j : Int)) = true := by simpa using hl
            have HO := Lib.hid (openL_some HJ.out HA.out (show openB S k (j : Int) = true by unfold openB; rw [ho, hkk, hll]; rfl))
            clear ho hk hl
            go_wp2_with (first
              | (go_at_call 55; refine (caowner_no HX.out.ca j HOB.out).mono ?_; rintro e w1 ⟨rfl, hb⟩; have hx := HX.out.below hb; obtain ⟨e0, e1, -⟩ := hx.cells; have H1 := Lib.hid hx; have B1 := Lib.hid (below_next HB.out hb); clear hx hb)
              | (go_at_call 56; refine (ckind_any H1.out.cx j).mono ?_; rintro e w2 ⟨rfl, hb⟩; have hx := H1.out.below hb; obtain ⟨f0, f1, -⟩ := hx.cells; have H2 := Lib.hid hx; have B2 := Lib.hid (below_next B1.out hb); clear hx hb)
              | (go_at_call 57; refine (cleft_any H2.out.cx j).mono ?_; rintro e w3 ⟨rfl, hb⟩; have H3 := Lib.hid (H2.out.below hb); have B3 := Lib.hid (below_next B2.out hb); clear hb))
            go_ret2
            exact ⟨by unfold openP; rw [HO.out]; rfl, by unfold openS; rw [HO.out]; exact H3.out, Frm.of_below b.fp B3.out⟩
          · have hll : decide (0 < leftL S.C (j : Int)) = false := by simpa using hl
            have HN := Lib.hid (show openB S k (j : Int) = false by unfold openB; rw [hll, Bool.and_false])
            clear ho hk hl
            go_wp2_with (first
              | (go_at_call 55; refine (caowner_no HX.out.ca j HOB.out).mono ?_; rintro e w1 ⟨rfl, hb⟩; have hx := HX.out.below hb; obtain ⟨e0, e1, -⟩ := hx.cells; have H1 := Lib.hid hx; have B1 := Lib.hid (below_next HB.out hb); clear hx hb)
              | (go_at_call 56; refine (ckind_any H1.out.cx j).mono ?_; rintro e w2 ⟨rfl, hb⟩; have hx := H1.out.below hb; obtain ⟨f0, f1, -⟩ := hx.cells; have H2 := Lib.hid hx; have B2 := Lib.hid (below_next B1.out hb); clear hx hb)
              | (go_at_call 57; refine (cleft_any H2.out.cx j).mono ?_; rintro e w3 ⟨rfl, hb⟩; have H3 := Lib.hid (H2.out.below hb); have B3 := Lib.hid (below_next B2.out hb); clear hb))
            go_roundw
            case rel => exact ⟨j + 1, rfl, HJ.out, Lib.hid (fun x hx => by by_cases e : x = j; · subst e; exact HN.out
                                                                           · exact HA.out x (by omega)), B3⟩
            case measure => simp only [intOf]; have := H64.out; omega
        · have hkk : (kindL S.C.ks (j : Int) == k) = false := by simpa using hk
          have HN := Lib.hid (show openB S k (j : Int) = false by unfold openB; rw [hkk, Bool.and_false, Bool.false_and])
          clear ho hk
          go_wp2_with (first
            | (go_at_call 55; refine (caowner_no HX.out.ca j HOB.out).mono ?_; rintro e w1 ⟨rfl, hb⟩; have hx := HX.out.below hb; obtain ⟨e0, e1, -⟩ := hx.cells; have H1 := Lib.hid hx; have B1 := Lib.hid (below_next HB.out hb); clear hx hb)
            | (go_at_call 56; refine (ckind_any H1.out.cx j).mono ?_; rintro e w2 ⟨rfl, hb⟩; have hx := H1.out.below hb; have H2 := Lib.hid hx; have B2 := Lib.hid (below_next B1.out hb); clear hx hb))
          go_roundw
          case rel => exact ⟨j + 1, rfl, HJ.out, Lib.hid (fun x hx => by by_cases e : x = j; · subst e; exact HN.out
                                                                         · exact HA.out x (by omega)), B2⟩
          case measure => simp only [intOf]; have := H64.out; omega
end
end Go.Proofs.YtjoejjhgneccgaaGreat
