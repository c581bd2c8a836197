/- The law's book: gone. -/
import Derived.Test.YtfocdbflmodfhaaDoorQCR12
import Derived.Test.YtfocdbflmodfhaaDoorQCR13
import Derived.Test.YtfocdbflmodfhaaDoorQCR14
import Derived.Test.YtfocdbflmodfhaaDoorQCR18
namespace Go.Proofs.YtfocdbflmodfhaaDoor
open Go.RowKit

/-- The reference and the book. -/
def RS (base bk h : Nat) (rest : List Value) (ks : List Int) (F : Nat → List Int) (ts ws : List Int) (w : World) : Prop := ∃ kv fv tv, Hp base w h kv fv rest ks F ∧ Bk base w bk h tv ts ws ∧ ∀ g, oblk tv = some g → g ∉ hrows kv fv
section
variable {base bk h : Nat} {w w' : World} {kv tv : Value} {fv rest : List Value} {ks ts ws ks' : List Int} {F F' : Nat → List Int}
theorem RS.below (H : RS base bk h rest ks F ts ws w) (hb : Below w.heap.size w w') : RS base bk h rest ks F ts ws w' := by
  obtain ⟨kv, fv, tv, h1, h2, h3⟩ := H
  exact ⟨kv, fv, tv, h1.below hb, h2.below hb, h3⟩
theorem RS.of_put (H0 : Hp base w h kv fv rest ks F) (H : BkE base bk h kv fv rest ks F ts ws w.heap.size w') : RS base bk h rest ks F ts ws w' := by
  obtain ⟨h1, tv, h2, h3⟩ := H
  refine ⟨kv, fv, tv, h1, h2, fun g hg hm => ?_⟩
  obtain ⟨-, cur, hh⟩ := H0.rows g hm
  have := heap_lt hh
  have := h3 g hg
  omega
/-- A call of the reference keeps the book. -/
theorem RS.of_ref (H0 : Hp base w h kv fv rest ks F) (B0 : Bk base w bk h tv ts ws) (hs : ∀ g, oblk tv = some g → g ∉ hrows kv fv) (he : HpE base h rest ks' F' w.heap.size (hrows kv fv) w') (hf : Frm [h] w w') : RS base bk h rest ks' F' ts ws w' := by
  obtain ⟨kv', fv', h1, h2⟩ := he
  have hbk : bk ≠ h := by
    rintro rfl
    have := B0.hd
    rw [H0.hd] at this
    simp only [Option.some.injEq, Obj.cells.injEq] at this
    exact absurd this.2.1 (by decide)
  refine ⟨kv', fv', tv, h1, ⟨(hf.block bk (heap_lt B0.hd) (by simpa using hbk)).trans B0.hd, B0.own, B0.tk.stays fun g hg => ?_, B0.tl, B0.wl⟩, fun g hg hm => ?_⟩
  · obtain ⟨-, cur, hh⟩ := B0.tk.oblk g hg
    refine hf.block g (heap_lt hh) ?_
    rw [List.mem_singleton]
    rintro rfl
    rw [H0.hd] at hh
    simp only [Option.some.injEq, Obj.cells.injEq] at hh
    exact absurd hh.2.1 (by decide)
  · obtain ⟨-, cur, hh⟩ := B0.tk.oblk g hg
    have := heap_lt hh
    rcases h2 g hm with h3 | h3
    · exact hs g hg h3
    · omega
theorem filt_step {l : List Int} {i : Nat} (a : Int) (h : i < l.length) : (l.take (i + 1)).filter (fun y => decide (y ≠ a)) = (l.take i).filter (fun y => decide (y ≠ a)) ++ (if l.getD i 0 = a then [] else [l.getD i 0]) := by
  rw [List.take_succ_eq_append_getElem h, List.filter_append, List.getD_eq_getElem?_getD, List.getElem?_eq_getElem h]
  congr 1
  by_cases e : l[i] = a
  · simp [e]
  · simp [e]
theorem filt_len (l : List Int) (a : Int) (i : Nat) : ((l.take i).filter (fun y => decide (y ≠ a))).length ≤ i := Nat.le_trans (List.length_filter_le _ _) (List.length_take_le _ _)
set_option maxHeartbeats 4000000 in
set_option maxRecDepth 100000 in
theorem bgone_any (H0 : Hp base w h kv fv rest ks F) (B0 : Bk base w bk h tv ts ws) (hb0 : base ≤ w.heap.size) (a : Int)
    (hg : ∀ W, Hp base W h kv fv rest ks F → base ≤ W.heap.size → Calls Tryd.prog 88 #[.pointer (some ⟨h, 0, none⟩), .int .i64 a] W fun e w' => e = .returned (.tuple #[]) ∧ HpE base h rest ks' F' W.heap.size (hrows kv fv) w' ∧ Frm [h] W w') :
    Calls Tryd.prog 58 #[.pointer (some ⟨bk, 0, none⟩), .int .i64 a] w fun e w' => e = .returned (.tuple #[]) ∧ RS base bk h rest ks' F' (ts.filter fun y => decide (y ≠ a)) ws w' ∧ Frm [bk, h] w w' := by
  have H := Lib.hid H0
  have B := Lib.hid B0
  have HB := Lib.hid hb0
  have HG := Lib.hid hg
  have C0 := Lib.hid (Below.refl w.heap.size w)
  obtain ⟨n, hn⟩ : ∃ n, n = ts.length := ⟨_, rfl⟩
  have HN := Lib.hid hn
  have hn50 : n ≤ 50 := by rw [hn]; exact B0.tl
  obtain ⟨A, cap, rfl, -⟩ := B0.tk.slice
  clear H0 B0 hb0 hg hn
  go_enter Tryd.func58, Tryd.ntmps58
  go_wp2_with fail
  go_loopw [4, 5] (fun v b wr => ∃ i : Nat, i ≤ n ∧ b = .int .i64 i ∧ Hid (IRow w.heap.size wr v ((ts.take i).filter fun y => decide (y ≠ a))) ∧ Hid (Below w.heap.size w wr)) (fun _ b _ => n - (intOf b).toNat)
  case atStart => exact ⟨0, Nat.zero_le _, rfl, Lib.hid (by rw [List.take_zero]; exact IRow.nil _ _), C0⟩
  case round =>
    clear C0
    obtain ⟨i, hi, rfl, HR, HW⟩ := hrel
    have hbk := B.out.below HW.out
    have HK := Lib.hid hbk
    obtain ⟨c0, c1, -⟩ := hbk.cells
    rw [← HN.out] at c1
    have i0 : (0 : Int) ≤ (i : Int) := by omega
    by_cases hlt : i < n
    · have hd : decide ((i : Int) < (n : Int)) = true := by simpa using hlt
      have i1 : (i : Int) < (n : Int) := by omega
      obtain ⟨g, rfl, cc⟩ := hbk.tk.at_.2 i (by rw [← HN.out]; exact hlt)
      obtain ⟨y, hy⟩ : ∃ y, y = ts.getD i 0 := ⟨_, rfl⟩
      rw [← hy] at cc
      have HE := Lib.hid (filt_step a (l := ts) (i := i) (by rw [← HN.out]; exact hlt))
      have HLN := Lib.hid (show ((ts.take i).filter fun y => decide (y ≠ a)).length + 1 ≤ 1000000 by have := filt_len ts a i; omega)
      by_cases hya : y = a
      · have hya' : (y != a) = false := by simpa using hya
        have HE2 := Lib.hid (show (ts.take (i + 1)).filter (fun y => decide (y ≠ a)) = (ts.take i).filter (fun y => decide (y ≠ a)) by rw [HE.out, ← hy, if_pos hya, List.append_nil])
        clear hy hya hbk
        go_wp2_with fail
        go_roundw
        case rel => exact ⟨i + 1, by omega, by go_num, by rw [HE2.out]; exact HR, HW⟩
        case measure => simp [intOf]; omega
      · have hya' : (y != a) = true := by simpa using hya
        have HE2 := Lib.hid (show (ts.take (i + 1)).filter (fun y => decide (y ≠ a)) = (ts.take i).filter (fun y => decide (y ≠ a)) ++ [y] by rw [HE.out, ← hy, if_neg hya])
        clear hy hya hbk
        go_wp2_with (at_builtin; refine wpList_append_num rfl (.tmp 24) (.tmp 32) (by rfl) w.heap.size w _ _ y (by rfl) HR.out (by rfl) HLN.out HW.out HW.out.size ?_; intro v2 w2 hr2 hb2 hgr2; have R2 := Lib.hid hr2; have W2 := Lib.hid hb2; clear hr2 hb2 hgr2)
        go_roundw
        case rel => exact ⟨i + 1, by omega, by go_num, by rw [HE2.out]; exact R2, W2⟩
        case measure => simp [intOf]; omega
    · have hd : decide ((i : Int) < (n : Int)) = false := by simpa using hlt
      obtain rfl : i = n := by omega
      have hfn := filt_len ts a i
      obtain ⟨fl, hfl⟩ : ∃ fl, fl = (ts.take i).filter fun y => decide (y ≠ a) := ⟨_, rfl⟩
      rw [← hfl] at HR hfn
      have HLN := Lib.hid hfn
      have HFL := Lib.hid (show fl = ts.filter fun y => decide (y ≠ a) by rw [hfl, List.take_of_length_le (by rw [HN.out]; exact Nat.le_refl _)])
      clear hfn hfl
      obtain ⟨p2, q2, rfl, -⟩ := HR.out.slice
      have fz := hbk.frozen 1
      have S2 := Lib.hid (Bk.setTaken hbk.hd hbk.own hbk.wl (HR.out.mono HB.out) (by have := HLN.out; omega))
      have G2 := Lib.hid (show Hp base (wr.setCell ⟨bk, 1, none⟩ (Value.slice p2 fl.length q2)) h kv fv rest ks F from (H.out.below HW.out).other hbk.hd (by decide) (by decide) (fun k hne => heap_setCell_other _ _ _ _ (fun e => hne e)))
      have L2 := Lib.hid ((below_base HW.out HB.out).setCell (p := ⟨bk, 1, none⟩) B.out.own (Value.slice p2 fl.length q2))
      clear hbk
      go_wp2_with (go_at_call 88; refine (HG.out _ G2.out (Nat.le_trans HB.out L2.out.size)).mono ?_; rintro e w3 ⟨rfl, he, hf⟩; have E3 := Lib.hid he; have F3 := Lib.hid hf; clear he hf)
      go_end0
      refine ⟨rfl, ?_, ((Frm.of_below [bk, h] HW.out).trans (Frm.setCell (fp := [bk, h]) (p := ⟨bk, 1, none⟩) _ (by simp) _) (fun k hk => .inl hk)).trans (F3.out.sub (fp' := [bk, h]) (by simp)) (fun k hk => .inl hk)⟩
      have := RS.of_ref G2.out S2.out (fun g hg hm => ?_) E3.out F3.out
      · rwa [HFL.out] at this
      · have h1 := (HR.out.oblk g hg).1
        obtain ⟨-, cur, hh⟩ := H.out.rows g hm
        have := heap_lt hh
        omega
end
end Go.Proofs.YtfocdbflmodfhaaDoor

/- Cells: what is taken stays as it is. -/
namespace Go.Proofs.YtfocdbflmodfhaaDoor
open Go.RowKit

/-- What begins at an address is there behind a call as ahead of it. -/
structure Kept (C C' : Cs) (a : Nat) : Prop where
  at_ : a ∈ bitsN C'.ws
  end_ : endN C' a = endN C a
  kd : C'.ks.getD (a / 32) 0 = C.ks.getD (a / 32) 0
  xs : ∀ x, a ≤ x → x < endN C a → C'.xs.getD x 0 = C.xs.getD x 0
theorem mem_bits {ws : List (BitVec 64)} {a : Nat} : a ∈ bitsN ws ↔ a < 2048 ∧ bit ws a = true := by unfold bitsN; rw [List.mem_filter, List.mem_range]
theorem run6_eq {K K' : List Int} {q : Nat} (hl : K'.length = K.length) (h1 : ∀ j, j < run6 K q → K'.getD (q + j) 0 = 6) (h2 : q + run6 K q < K.length → K'.getD (q + run6 K q) 0 ≠ 6) : run6 K' q = run6 K q := by
  have hlt : ∀ j, j < run6 K q → q + j < K.length := fun j hj => by
    apply Decidable.byContradiction; intro hc
    have := run6_all K q j hj
    rw [getD_out (by omega)] at this
    omega
  have h3 : run6 K q ≤ run6 K' q := run6_ge _ _ fun j hj => by rw [kindL_in (by rw [hl]; exact hlt j hj)]; exact h1 j hj
  apply Decidable.byContradiction; intro hc
  have h4 := run6_all K' q (run6 K q) (by omega)
  have h5 : q + run6 K q < K.length := by
    apply Decidable.byContradiction; intro hc2
    rw [getD_out (by rw [hl]; omega)] at h4
    omega
  exact h2 h5 h4
theorem endN_eq {C C' : Cs} {a : Nat} (hl : C'.ks.length = C.ks.length) (h0 : C'.ks.getD (a / 32) 0 = C.ks.getD (a / 32) 0)
    (h1 : ¬ 0 < sizeI (C.ks.getD (a / 32) 0) → (∀ j, j < run6 C.ks (a / 32 + 1) → C'.ks.getD (a / 32 + 1 + j) 0 = 6) ∧ (a / 32 + 1 + run6 C.ks (a / 32 + 1) < C.ks.length → C'.ks.getD (a / 32 + 1 + run6 C.ks (a / 32 + 1)) 0 ≠ 6)) : endN C' a = endN C a := by
  unfold endN
  rw [h0]
  by_cases hs : 0 < sizeI (C.ks.getD (a / 32) 0)
  · rw [if_pos hs, if_pos hs]
  · rw [if_neg hs, if_neg hs, run6_eq hl (h1 hs).1 (h1 hs).2]
/-- The pages of what is taken: none is free. -/
theorem pages_in {C : Cs} {F : Nat → List Int} (h : Inv C F) {a x : Nat} (ha : a ∈ bitsN C.ws) (h1 : a ≤ x) (h2 : x < endN C a) : x / 32 < C.ks.length ∧ C.ks.getD (x / 32) 0 ≠ 0 ∧ ((0 < sizeI (C.ks.getD (a / 32) 0) ∧ x / 32 = a / 32) ∨ (C.ks.getD (a / 32) 0 = 5 ∧ (x / 32 = a / 32 ∨ C.ks.getD (x / 32) 0 = 6))) := by
  obtain ⟨hl, ht⟩ := bits_lt h ha
  unfold endN at h2
  by_cases hs : 0 < sizeI (C.ks.getD (a / 32) 0)
  · rw [if_pos hs] at h2
    have hk : 1 ≤ C.ks.getD (a / 32) 0 ∧ C.ks.getD (a / 32) 0 ≤ 4 := by
      apply Decidable.byContradiction; intro hc
      rw [sizeI_zero (by omega)] at hs; omega
    rcases tk_cases ht with ⟨_, _, al, _⟩ | ⟨h5, _⟩
    · have hd := (size_div hk al).2.1
      have e : x / 32 = a / 32 := by omega
      rw [e]
      exact ⟨by omega, by omega, .inl ⟨hs, rfl⟩⟩
    · omega
  · rw [if_neg hs] at h2
    obtain ⟨h5, h0, hend, -⟩ := apart_large h ha hs
    by_cases e : x / 32 = a / 32
    · rw [e]; exact ⟨by omega, by omega, .inr ⟨h5, .inl rfl⟩⟩
    · have h6 := run6_all C.ks (a / 32 + 1) (x / 32 - (a / 32 + 1)) (by omega)
      rw [show a / 32 + 1 + (x / 32 - (a / 32 + 1)) = x / 32 by omega] at h6
      exact ⟨by omega, by omega, .inr ⟨h5, .inr h6⟩⟩
theorem end_le {C : Cs} {F : Nat → List Int} (h : Inv C F) {a : Nat} (ha : a ∈ bitsN C.ws) : a < endN C a ∧ endN C a ≤ 32 * C.ks.length := by
  have h1 : a < endN C a := by unfold endN; split <;> omega
  have := (pages_in h ha (x := endN C a - 1) (by omega) (by omega)).1
  omega
theorem kind_taken {C : Cs} {F : Nat → List Int} (h : Inv C F) {a : Nat} (ha : a ∈ bitsN C.ws) : C.ks.getD (a / 32) 0 ≠ 0 ∧ C.ks.getD (a / 32) 0 ≠ 6 := by
  rcases tk_cases (bits_lt h ha).2 with ⟨h1, h2, -⟩ | ⟨h1, -⟩ <;> omega
/-- Where kinds are turned at pages that are not what is taken's, and are not 6. -/
theorem end_turned {C C' : Cs} {F : Nat → List Int} (h : Inv C F) {a : Nat} (ha : a ∈ bitsN C.ws) (hl : C'.ks.length = C.ks.length) (hk : ∀ q, q < C.ks.length → C'.ks.getD q 0 ≠ C.ks.getD q 0 → (∀ x, a ≤ x → x < endN C a → x / 32 ≠ q) ∧ (C'.ks.getD q 0 ≠ 6 ∨ C.ks.getD (q - 1) 0 = 0)) : endN C' a = endN C a ∧ C'.ks.getD (a / 32) 0 = C.ks.getD (a / 32) 0 := by
  have hle := end_le h ha
  have hlt := (bits_lt h ha).1
  have h0 : C'.ks.getD (a / 32) 0 = C.ks.getD (a / 32) 0 := by
    apply Decidable.byContradiction; intro hc
    exact (hk (a / 32) (by omega) hc).1 a (Nat.le_refl _) hle.1 rfl
  refine ⟨endN_eq hl h0 fun hs => ⟨fun j hj => ?_, fun hj hc => ?_⟩, h0⟩
  · have h6 := run6_all C.ks (a / 32 + 1) j hj
    have he : endN C a = a + 32 * (1 + run6 C.ks (a / 32 + 1)) := by unfold endN; rw [if_neg hs]
    apply Decidable.byContradiction; intro hc
    have hq : a / 32 + 1 + j < C.ks.length := by
      apply Decidable.byContradiction; intro hc2
      rw [getD_out (by omega)] at h6; omega
    exact (hk (a / 32 + 1 + j) hq (by rw [h6]; exact hc)).1 (a + 32 * (1 + j)) (by omega) (by omega) (by omega)
  · have h6 := run6_after C.ks (a / 32 + 1)
    rw [kindL_in hj] at h6
    have hne := (hk _ hj (by rw [hc]; exact fun e => h6 e.symm)).2
    rcases hne with hne | hne
    · exact hne hc
    · have he : endN C a = a + 32 * (1 + run6 C.ks (a / 32 + 1)) := by unfold endN; rw [if_neg hs]
      have := (pages_in h ha (x := endN C a - 32) (by omega) (by omega)).2.1
      rw [show (endN C a - 32) / 32 = a / 32 + 1 + run6 C.ks (a / 32 + 1) - 1 by omega] at this
      exact this hne
end Go.Proofs.YtfocdbflmodfhaaDoor

/- Cells: each call keeps what holds. -/
namespace Go.Proofs.YtfocdbflmodfhaaDoor
open Go.RowKit

/-- What a call leaves: some heap of cells of as many pages, in which all holds. -/
def Holds (N : Nat) (b : Bl) (w' : World) : Prop := ∃ C F, CX w' b C ∧ Inv C F ∧ C.ks.length = N
section
variable {w : World} {b : Bl} {C : Cs} {F : Nat → List Int} {N : Nat}
theorem ocarve (h : CX w b C) (hi : Inv C F) (hN : C.ks.length = N) (k : Int) :
    Calls Tryd.prog 9 #[.pointer (some ⟨b.c, 0, none⟩), .int .i64 k] w fun e w' => (∃ v, e = .returned v) ∧ Holds N b w' ∧ Frm b.fp w w' := by
  refine (ccarve_any h k).mono ?_
  rintro e w' ⟨he, hx, hf⟩
  refine ⟨?_, ?_, hf⟩
  · exact ⟨_, he⟩
  · unfold Holds
    cases ht : takeT C.ks k with
    | none => rw [show carveC C k = C by unfold carveC; rw [ht]] at hx; exact ⟨_, _, hx, hi, hN⟩
    | some p => exact ⟨_, _, hx, inv_carve hi ht, by unfold carveC; rw [ht]; simpa using hN⟩
theorem otake (h : CX w b C) (hi : Inv C F) (hN : C.ks.length = N) (p : Int) :
    Calls Tryd.prog 10 #[.pointer (some ⟨b.c, 0, none⟩), .int .i64 p] w fun e w' => (∃ v, e = .returned v) ∧ Holds N b w' ∧ Frm b.fp w w' := by
  by_cases h0 : leftL C p = 0
  · refine (ctake_no h p h0).mono ?_
    rintro e w' ⟨rfl, hb⟩
    exact ⟨⟨_, rfl⟩, ⟨C, F, h.below hb, hi, hN⟩, Frm.of_below _ hb⟩
  · have hs : 0 < sizeI (kindL C.ks p) := by
      apply Decidable.byContradiction; intro hc
      exact h0 (by unfold leftL; rw [if_neg hc])
    obtain ⟨p0, p1⟩ := small_in hs
    obtain ⟨q, rfl⟩ := Int.eq_ofNat_of_zero_le p0
    have hq : q < C.ks.length := by omega
    rw [kindL_in hq] at hs
    have hk : 1 ≤ C.ks.getD q 0 ∧ C.ks.getD q 0 ≤ 4 := by
      apply Decidable.byContradiction; intro hc
      rw [sizeI_zero (by omega)] at hs; omega
    obtain ⟨-, h2, -⟩ := hi.ln q hq hk.1 hk.2
    cases hF : F q with
    | nil =>
      rw [hF] at h2
      exact absurd (by unfold leftL; rw [kindL_in hq, if_pos hs]; simpa using h2) h0
    | cons f l =>
      obtain ⟨g, ht, hl⟩ := take_ok hi hq hk.1 hk.2 hF
      refine (ctake_ok h q _ _ _ _ ht).mono ?_
      rintro e w' ⟨rfl, hx, hf⟩
      exact ⟨⟨_, rfl⟩, ⟨_, _, hx, inv_take hi hq hk.1 hk.2 hF ht hl, hN⟩, hf⟩
theorem olarge (h : CX w b C) (hi : Inv C F) (hN : C.ks.length = N) (n : Int) (hn : n ≤ 9223372036854775807) :
    Calls Tryd.prog 11 #[.pointer (some ⟨b.c, 0, none⟩), .int .i64 n] w fun e w' => (∃ v, e = .returned v) ∧ Holds N b w' ∧ Frm b.fp w w' := by
  refine (clarge_any h n hn).mono ?_
  rintro e w' ⟨he, hx, hf⟩
  refine ⟨⟨_, he⟩, ?_, hf⟩
  unfold Holds
  cases ht : spanL C.ks n with
  | none => rw [show largeC C n = C by unfold largeC; rw [ht]] at hx; exact ⟨_, _, hx, hi, hN⟩
  | some p =>
    refine ⟨_, _, hx, inv_large hi ht, ?_⟩
    have h1 := spanK_len C.ks n
    unfold spanK at h1
    unfold largeC
    simp only [ht] at h1 ⊢
    rw [← hN]; exact h1
theorem freeL_length (ks : List Int) (p : Int) : (freeL ks p).length = ks.length := by
  exact freeL_len ks p
theorem ogive (h : CX w b C) (hi : Inv C F) (hN : C.ks.length = N) (a : Int) :
    Calls Tryd.prog 12 #[.pointer (some ⟨b.c, 0, none⟩), .int .i64 a] w fun e w' => (∃ v, e = .returned v) ∧ Holds N b w' ∧ Frm b.fp w w' := by
  by_cases hb : hasB C.xs.length C.ws a = true
  · obtain ⟨x, rfl, hl, -, ht⟩ := has_tk hi hb
    have hle := hi.le
    rcases tk_cases ht with ⟨k1, k4, hal, hn⟩ | ⟨h5, h0⟩
    · refine (cgive_small h x hb _ _ _ _ _ (give_ok hi hl k1 k4 hal hn)).mono ?_
      rintro e w' ⟨rfl, hx, hf⟩
      exact ⟨⟨_, rfl⟩, ⟨_, _, hx, inv_give hi hb hl k1 k4 hal hn, hN⟩, hf⟩
    · have hp : kindL C.ks (pageI (x : Int)) = 5 := by
        rw [pageI_in (by omega) (by omega), show (x : Int) / 32 = ((x / 32 : Nat) : Int) by omega, kindL_in (by omega)]
        exact h5
      refine (cgive_large h x hb hp).mono ?_
      rintro e w' ⟨rfl, hx, hf⟩
      exact ⟨⟨_, rfl⟩, ⟨_, _, hx, inv_give_large hi hb hl h5 h0, (freeL_length _ _).trans hN⟩, hf⟩
  · refine (cgive_no h a (by simpa using hb)).mono ?_
    rintro e w' ⟨rfl, rfl⟩
    exact ⟨⟨_, rfl⟩, ⟨C, F, h, hi, hN⟩, Frm.refl _ _⟩
theorem odrop (h : CX w b C) (hi : Inv C F) (hN : C.ks.length = N) (p : Int) :
    Calls Tryd.prog 13 #[.pointer (some ⟨b.c, 0, none⟩), .int .i64 p] w fun e w' => (∃ v, e = .returned v) ∧ Holds N b w' ∧ Frm b.fp w w' := by
  by_cases hd : 0 < sizeI (kindL C.ks p) ∧ cellsI (kindL C.ks p) ≤ leftL C p
  · refine (cdrop_yes h p hd.1 hd.2).mono ?_
    rintro e w' ⟨rfl, hx, hf⟩
    obtain ⟨hs, hl⟩ := hd
    obtain ⟨p0, p1⟩ := small_in hs
    obtain ⟨q, rfl⟩ := Int.eq_ofNat_of_zero_le p0
    have hq : q < C.ks.length := by omega
    rw [kindL_in hq] at hs hl
    have hk : 1 ≤ C.ks.getD q 0 ∧ C.ks.getD q 0 ≤ 4 := by
      apply Decidable.byContradiction; intro hc
      rw [sizeI_zero (by omega)] at hs; omega
    exact ⟨⟨_, rfl⟩, ⟨_, _, hx, inv_drop hi hq hk.1 hk.2 hl, (freeL_length _ _).trans hN⟩, hf⟩
  · refine (cdrop_no h p hd).mono ?_
    rintro e w' ⟨rfl, hb⟩
    exact ⟨⟨_, rfl⟩, ⟨C, F, h.below hb, hi, hN⟩, Frm.of_below _ hb⟩
end
end Go.Proofs.YtfocdbflmodfhaaDoor

/- Cells: each call keeps what is taken. -/
namespace Go.Proofs.YtfocdbflmodfhaaDoor
open Go.RowKit

theorem carve_kept {C : Cs} {F : Nat → List Int} {k : Int} {p : Nat} (h : Inv C F) (ht : takeT C.ks k = some p) : (carveC C k).ws = C.ws ∧ ∀ a ∈ bitsN C.ws, Kept C (carveC C k) a := by
  have hz : sizeI k ≠ 0 := by intro e; unfold takeT at ht; rw [if_pos e] at ht; cases ht
  have hk : 1 ≤ k ∧ k ≤ 4 := by
    apply Decidable.byContradiction; intro hc
    exact hz (sizeI_zero (by omega))
  have hi : idx0 C.ks = some p := by unfold takeT at ht; rw [if_neg hz] at ht; exact ht
  have hp := idx0_lt hi
  have h0 := idx0_zero hi
  have hc : carveC C k = { C with ks := C.ks.set p k, ch := C.ch.set p (0, cellsI k), xs := buildL C.xs p k } := by unfold carveC; rw [ht]
  rw [hc]
  refine ⟨rfl, fun a ha => ?_⟩
  have hne : ∀ x, a ≤ x → x < endN C a → x / 32 ≠ p := fun x h1 h2 e => (pages_in h ha h1 h2).2.1 (by rw [e]; exact h0)
  obtain ⟨he, hkd⟩ := end_turned (C' := { C with ks := C.ks.set p k, ch := C.ch.set p (0, cellsI k), xs := buildL C.xs p k }) h ha (by simp) (fun q hq hd => by
    have e : q = p := by
      apply Decidable.byContradiction; intro hn
      exact hd (getD_set_other (fun e => hn e.symm) _ _)
    subst e
    refine ⟨hne, .inl ?_⟩
    show (C.ks.set q k).getD q 0 ≠ 6
    rw [getD_set_same hq]; omega)
  refine ⟨ha, he, hkd, fun x h1 h2 => ?_⟩
  have hx := (pages_in h ha h1 h2).1
  have hl := h.len
  have := hne x h1 h2
  exact (buildL_at hk (by omega)).2 x (by omega) (by omega)
theorem addL_mem {C : Cs} {F : Nat → List Int} (h : Inv C F) {z : Nat} (hz : z < 32 * C.ks.length) {a : Nat} : a ∈ bitsN (addL C.xs.length C.ws (z : Int)) ↔ a = z ∨ a ∈ bitsN C.ws := by
  have hle := h.le
  have hlen := h.len
  have hb := bitOn_get h.wl (show z < 2048 by omega)
  rw [mem_bits, mem_bits]
  unfold addL addB inB
  rw [Int.toNat_natCast]
  by_cases hbit : bit C.ws z = true
  · rw [hbit]
    simp only [Bool.not_true, Bool.and_false, Bool.false_eq_true, if_false]
    constructor
    · exact .inr
    · rintro (rfl | h1)
      · exact ⟨by omega, hbit⟩
      · exact h1
  · have hbit' : bit C.ws z = false := by simpa using hbit
    rw [hbit', decide_eq_true (by omega)]
    simp only [Bool.not_false, Bool.and_true, if_true]
    rw [hb]
    simp only [Bool.or_eq_true, decide_eq_true_eq]
    constructor
    · rintro ⟨h1, h2 | h2⟩
      · exact .inr ⟨h1, h2⟩
      · exact .inl h2
    · rintro (rfl | ⟨h1, h2⟩)
      · exact ⟨by omega, .inr rfl⟩
      · exact ⟨h1, .inl h2⟩
theorem off_mem {C : Cs} {F : Nat → List Int} (h : Inv C F) {z : Nat} (hz : z < 2048) {a : Nat} : a ∈ bitsN (bitOff C.ws z) ↔ a ≠ z ∧ a ∈ bitsN C.ws := by
  rw [mem_bits, mem_bits, bitOff_get h.wl hz]
  simp only [Bool.and_eq_true, Bool.not_eq_true', decide_eq_false_iff_not]
  constructor
  · rintro ⟨h1, h2, h3⟩; exact ⟨h3, h1, h2⟩
  · rintro ⟨h3, h1, h2⟩; exact ⟨h1, h2, h3⟩
/-- What lies in what is taken lies in nothing else that is. -/
theorem apart_ne {C : Cs} {F : Nat → List Int} (h : Inv C F) {a b x : Nat} (ha : a ∈ bitsN C.ws) (hb : b ∈ bitsN C.ws) (hne : a ≠ b) (h1 : a ≤ x) (h2 : x < endN C a) : x < b ∨ endN C b ≤ x := by
  rcases Nat.lt_or_gt_of_ne hne with hlt | hlt
  · have := apart_next h ha hb hlt; omega
  · have := apart_next h hb ha hlt; omega
theorem take_kept {C : Cs} {F : Nat → List Int} {q : Nat} {f g : Int} {l : List Int} (h : Inv C F) (hq : q < C.ks.length) (k1 : 1 ≤ C.ks.getD q 0) (k4 : C.ks.getD q 0 ≤ 4) (hf : F q = f :: l)
    (ht : TakeP C q (C.ks.getD q 0) f ((l.length : Int) + 1) (-1 - g)) (hl : Lnk C.xs q (C.ks.getD q 0) g l) (C' : Cs) (hC : C' = takeC C q (C.ks.getD q 0) f ((l.length : Int) + 1) (-1 - g)) (z : Nat) (hz : z = (cad q (C.ks.getD q 0) f).toNat) :
    z ∉ bitsN C.ws ∧ (∀ a, a ∈ bitsN C'.ws ↔ a = z ∨ a ∈ bitsN C.ws) ∧ (∀ a ∈ bitsN C.ws, Kept C C' a) ∧ endN C' z = z + (sizeI (C.ks.getD q 0)).toNat ∧ z / 32 = q ∧ C'.ks = C.ks ∧ ∀ x, z ≤ x → x < endN C' z → C'.xs.getD x 0 = 0 := by
  have hinv : Inv C' (upd F q l) := by rw [hC]; exact inv_take h hq k1 k4 hf ht hl
  have hks : C'.ks = C.ks := by rw [hC]; rfl
  obtain ⟨k, ek⟩ : ∃ k, k = C.ks.getD q 0 := ⟨_, rfl⟩
  rw [← ek] at k1 k4 ht hC hz ⊢
  have hkk : 1 ≤ k ∧ k ≤ 4 := ⟨k1, k4⟩
  have hcp := cad_page (p := q) hkk ht.f0 ht.f1
  have hci := cad_idx (p := q) hkk ht.f0 ht.f1
  rw [← hz] at hcp hci
  have hlen := h.len
  have hsz := sizeI_pos hkk
  have hzl : z < 32 * C.ks.length := by omega
  have hzc : cad q k f = (z : Int) := hcp.2.2.symm
  have hn : z ∉ bitsN C.ws := by
    rw [mem_bits, h.bt z hzl, tkB_small (k := k) (by rw [hci.1]; exact ek.symm) hkk, hci.1, hci.2.2, hf]
    simp
  have hm : ∀ a, a ∈ bitsN C'.ws ↔ a = z ∨ a ∈ bitsN C.ws := fun a => by
    have e : C'.ws = addL C.xs.length C.ws (z : Int) := by rw [hC, ← hzc]; rfl
    rw [e]; exact addL_mem h hzl
  have hend : ∀ a, endN C' a = endN C a := fun a => by unfold endN; rw [hks]
  have hez : endN C' z = z + (sizeI k).toNat := by
    unfold endN
    rw [hks, hci.1, ← ek, if_pos (by omega)]
  have hxs : C'.xs = fillL C.xs z (sizeI k).toNat 0 := by rw [hC, hz]; rfl
  refine ⟨hn, hm, fun a ha => ⟨(hm a).2 (.inr ha), hend a, by rw [hks], fun x h1 h2 => ?_⟩, hez, hci.1, hks, fun x h1 h2 => ?_⟩
  · have hne : a ≠ z := fun e => hn (e ▸ ha)
    have hap := apart_ne hinv ((hm a).2 (.inr ha)) ((hm z).2 (.inl rfl)) hne h1 (by rw [hend]; exact h2)
    have hx := (pages_in h ha h1 h2).1
    rw [hxs, fillL_get _ _ _ _ _ (by omega), if_neg (by omega)]
  · rw [hxs, fillL_get _ _ _ _ _ (by omega), if_pos (by omega)]
theorem large_kept {C : Cs} {F : Nat → List Int} {n : Int} {p : Nat} (h : Inv C F) (hs : spanL C.ks n = some p) (C' : Cs) (hC : C' = largeC C n) :
    32 * p ∉ bitsN C.ws ∧ (∀ a, a ∈ bitsN C'.ws ↔ a = 32 * p ∨ a ∈ bitsN C.ws) ∧ (∀ a ∈ bitsN C.ws, Kept C C' a) ∧ C'.ks = spanS C.ks p n.toNat ∧ endN C' (32 * p) = 32 * p + 32 * n.toNat ∧ p + n.toNat ≤ C.ks.length ∧ ∀ x, 32 * p ≤ x → x < endN C' (32 * p) → C'.xs.getD x 0 = 0 := by
  have hinv : Inv C' F := by rw [hC]; exact inv_large h hs
  obtain ⟨hn, hpl⟩ := spanL_lt hs
  have hz := span_zero hs
  have hle := h.le
  have hlen := h.len
  obtain ⟨m, rfl⟩ := Int.eq_ofNat_of_zero_le (show 0 ≤ n by omega)
  rw [Int.toNat_natCast] at hpl hz ⊢
  have hm1 : 1 ≤ m := by omega
  have hc : largeC C m = { C with ks := spanS C.ks p m, ws := addL C.xs.length C.ws ((32 * p : Nat) : Int), xs := fillL C.xs (32 * p) (32 * m) 0 } := by
    unfold largeC
    rw [hs]
    show ({ C with ks := _, ws := _, xs := fillL C.xs ((p : Int) * 32).toNat ((m : Int) * 32).toNat 0 } : Cs) = _
    rw [show ((p : Int) * 32).toNat = 32 * p by omega, show ((m : Int) * 32).toNat = 32 * m by omega, Int.toNat_natCast, show ((32 * p : Nat) : Int) = (p : Int) * 32 by omega]
  rw [hc] at hC
  have hks : C'.ks = spanS C.ks p m := by rw [hC]
  have hws : C'.ws = addL C.xs.length C.ws ((32 * p : Nat) : Int) := by rw [hC]
  have hxs : C'.xs = fillL C.xs (32 * p) (32 * m) 0 := by rw [hC]
  have hlk : C'.ks.length = C.ks.length := by rw [hks]; unfold spanS; simp [fillL_len]
  have hget : ∀ q, q < C.ks.length → C'.ks.getD q 0 = if q = p then 5 else if p ≤ q ∧ q < p + m then 6 else C.ks.getD q 0 := fun q hq => by
    rw [hks]; unfold spanS
    by_cases e : q = p
    · subst e; rw [getD_set_same (by rw [fillL_len]; exact hq), if_pos rfl]
    · rw [getD_set_other (fun c => e c.symm), fillL_get _ _ _ _ _ hq, if_neg e]
  have hold : 32 * p ∉ bitsN C.ws := by
    rw [mem_bits, h.bt _ (by omega), tkB_other (k := 0) (by rw [show 32 * p / 32 = p by omega]; exact hz p (Nat.le_refl _) (by omega)) (by omega)]
    simp
  have hm : ∀ a, a ∈ bitsN C'.ws ↔ a = 32 * p ∨ a ∈ bitsN C.ws := fun a => by rw [hws]; exact addL_mem h (by omega)
  have hne : ∀ a ∈ bitsN C.ws, ∀ x, a ≤ x → x < endN C a → ¬ (p ≤ x / 32 ∧ x / 32 < p + m) := fun a ha x h1 h2 hc => (pages_in h ha h1 h2).2.1 (hz _ hc.1 hc.2)
  have hrun : run6 C'.ks (p + 1) = m - 1 := by
    have h1 : m - 1 ≤ run6 C'.ks (p + 1) := run6_ge _ _ fun j hj => by
      rw [kindL_in (by rw [hlk]; omega), hget _ (by omega), if_neg (by omega), if_pos (by omega)]
    apply Decidable.byContradiction; intro hc
    have h6 := run6_all C'.ks (p + 1) (m - 1) (by omega)
    rw [show p + 1 + (m - 1) = p + m by omega] at h6
    by_cases hpm : p + m < C.ks.length
    · rw [hget _ hpm, if_neg (by omega), if_neg (by omega)] at h6
      have := (h.sx _ hpm h6).2
      rw [hz (p + m - 1) (by omega) (by omega)] at this
      omega
    · rw [getD_out (by rw [hlk]; omega)] at h6; omega
  have hez : endN C' (32 * p) = 32 * p + 32 * m := by
    unfold endN
    rw [show 32 * p / 32 = p by omega, hget p (by omega), if_pos rfl, if_neg (by simp [sizeI]), hrun]
    omega
  refine ⟨hold, hm, fun a ha => ?_, hks, hez, hpl, fun x h1 h2 => ?_⟩
  · obtain ⟨he, hkd⟩ := end_turned (C' := C') h ha hlk (fun q hq hd => by
      have hin : p ≤ q ∧ q < p + m := by
        apply Decidable.byContradiction; intro hn
        rw [hget q hq, if_neg (by omega), if_neg hn] at hd
        exact hd rfl
      refine ⟨fun x h1 h2 e => hne a ha x h1 h2 (by rw [e]; exact hin), ?_⟩
      by_cases e : q = p
      · left; rw [hget q hq, if_pos e]; decide
      · right; exact hz (q - 1) (by omega) (by omega))
    refine ⟨(hm a).2 (.inr ha), he, hkd, fun x h1 h2 => ?_⟩
    have hx := (pages_in h ha h1 h2).1
    have := hne a ha x h1 h2
    rw [hxs, fillL_get _ _ _ _ _ (by omega), if_neg (by omega)]
  · rw [hez] at h2
    rw [hxs, fillL_get _ _ _ _ _ (by omega), if_pos (by omega)]
end Go.Proofs.YtfocdbflmodfhaaDoor
