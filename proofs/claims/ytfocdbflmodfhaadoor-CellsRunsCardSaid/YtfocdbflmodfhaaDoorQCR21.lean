/- The law's book: take, kind by kind (printed by btake.py). -/
import Derived.Test.YtfocdbflmodfhaaDoorQCR03
import Derived.Test.YtfocdbflmodfhaaDoorQCR20
import Derived.BigQuiet
namespace Go.Proofs.YtfocdbflmodfhaaDoor
open Go.RowKit

section
variable {base bk h B0 N m : Nat} {b : Bl} {w w' : World} {C C' : Cs} {ks ts ws : List Int} {F F' : Nat → List Int}
/-- Behind the reference's call, ahead of the book's. -/
theorem St1.ref2 {W W' : World} {k n x : Int} {kv tv : Value} {fv : List Value} (H : St1 base b bk h B0 C C' F ws k n x w W kv tv fv) (he : HpE base h (restN 0) C'.ks F' W.heap.size (hrows kv fv) W') (hfr : Frm [h] W W') :
    ∃ kv' tv' fv', Hp base W' h kv' fv' (restN 0) C'.ks F' ∧ Bk base W' bk h tv' (bitsI C.ws) ws ∧ (∀ g, oblk tv' = some g → g ∉ hrows kv' fv') ∧ CX W' b C' ∧ Below B0 w W' ∧ base ≤ W'.heap.size ∧ W'.heap[w.heap.size]? = some (opC k n x) := by
  obtain ⟨kv', fv', tv', h1, h2, h3⟩ := RS.of_ref H.hp H.bk H.sp he hfr
  refine ⟨kv', tv', fv', h1, h2, h3, H.cx.ref H.hf H.hp.own hfr, H.bl.trans (frm_below0 hfr (Nat.le_trans H.b0 H.hb) (fun y hy => by rw [List.mem_singleton.1 hy]; exact Nat.le_trans H.b0 H.hp.own)), Nat.le_trans H.hb hfr.size, (hfr.block _ (heap_lt H.z) ?_).trans H.z⟩
  rw [List.mem_singleton]
  intro e
  have hz := H.z
  rw [e, H.hp.hd] at hz
  simp only [opC, Option.some.injEq, Obj.cells.injEq] at hz
  exact absurd hz.2.1 (by decide)
set_option maxHeartbeats 8000000 in
set_option maxRecDepth 100000 in
theorem btake1 (H0 : CR base b bk h C F ws w) (hN : C.ks.length = N) (hm : (bitsI C.ws).length ≤ m) (hb : base ≤ w.heap.size) (hf : ∀ x ∈ b.fp, x < base) (hB : B0 ≤ base) (hf0 : ∀ x ∈ b.fp, B0 ≤ x) (n x : Int) :
    Calls Tryd.prog 56 #[.pointer (some ⟨bk, 0, none⟩), .pointer (some ⟨b.c, 0, none⟩), .agg #[.int .i64 1, .int .i64 n, .int .i64 x]] w fun e w' => e = .returned (.bool true) ∧ CRE base b bk h N m w' ∧ Below B0 w w' := by
  have S := Lib.hid (st0_start (B0 := B0) H0 hb hf hB hf0 1 n x)
  have HI := Lib.hid H0.inv
  have HW := Lib.hid H0.wd
  have HNN := Lib.hid hN
  have HMM := Lib.hid hm
  clear hb hf hB hf0 H0 hN hm
  cases ht : takeT C.ks n with
  | none =>
    have HT := Lib.hid ht
    have HC := Lib.hid (show carveC C n = C by unfold carveC; rw [ht])
    have HK := Lib.hid (show carveK C.ks n = C.ks by unfold carveK; rw [ht])
    have HFF := Lib.hid (show carveF C.ks F n = F by unfold carveF; rw [ht])
    clear ht
    go_enter Tryd.func56, Tryd.ntmps56
    go_wp2_with (go_at_call 9; refine (ccarve_any S.out.cr.cx n).mono ?_; rw [HT.out, HC.out]; rintro e w1 ⟨rfl, hx, hfr⟩; obtain ⟨kv, tv, fv, hs⟩ := S.out.call hx hfr; obtain ⟨zc0, zc1, zc2, bc0, bc1⟩ := hs.cells; have S1 := Lib.hid hs; clear hx hfr hs)
    refine region_tail 6 (by kernel_rfl) (by kernel_rfl) ?_
    simp only [List.take_succ_cons, List.take_zero, List.drop_succ_cons, List.drop_zero]
    repeat still_step
    refine wpStill_nil ?_
    have S2 := Lib.hid (S1.out.below (Below.refl w1.heap.size w1).drew)
    go_wp2_with (go_at_call 84; refine (gcarve_any S2.out.hp S2.out.hb n).mono ?_; rw [HT.out, HK.out, HFF.out]; rintro e w3 ⟨rfl, he, hfr⟩; obtain ⟨hr, hl⟩ := S2.out.ref HI.out he hfr rfl HW.out; have R3 := Lib.hid hr; have L3 := Lib.hid hl; clear he hfr hr hl)
    go_ret
    exact ⟨by rfl, ⟨_, _, _, R3.out, HNN.out, HMM.out⟩, L3.out⟩
  | some p =>
    have HT := Lib.hid ht
    obtain ⟨C', hC⟩ : ∃ C', C' = carveC C n := ⟨_, rfl⟩
    have HC := Lib.hid hC
    have HKS := Lib.hid (show C'.ks = carveK C.ks n by rw [hC]; unfold carveC carveK; rw [ht])
    have HFF := Lib.hid (show carveF C.ks F n = upd F p (allC n) by unfold carveF; rw [ht])
    have HI2 := Lib.hid (show Inv C' (upd F p (allC n)) by rw [hC]; exact inv_carve HI.out ht)
    have HKP := Lib.hid (show C'.ws = C.ws ∧ ∀ a ∈ bitsN C.ws, Kept C C' a by rw [hC]; exact carve_kept HI.out ht)
    have HNN2 := Lib.hid (show C'.ks.length = N by rw [hC]; unfold carveC; rw [ht]; simpa using HNN.out)
    have p0 : (0 : Int) ≤ (p : Int) := by omega
    have pn : decide ((p : Int) < 0) = false := by rw [decide_eq_false_iff_not]; omega
    clear ht hC
    go_enter Tryd.func56, Tryd.ntmps56
    go_wp2_with (go_at_call 9; refine (ccarve_any S.out.cr.cx n).mono ?_; rw [HT.out, ← HC.out]; rintro e w1 ⟨rfl, hx, hfr⟩; obtain ⟨kv, tv, fv, hs⟩ := S.out.call hx hfr; obtain ⟨zc0, zc1, zc2, bc0, bc1⟩ := hs.cells; have S1 := Lib.hid hs; clear hx hfr hs)
    refine region_tail 6 (by kernel_rfl) (by kernel_rfl) ?_
    simp only [List.take_succ_cons, List.take_zero, List.drop_succ_cons, List.drop_zero]
    repeat still_step
    refine wpStill_nil ?_
    have S2 := Lib.hid (S1.out.below (Below.refl w1.heap.size w1).drew)
    go_wp2_with (go_at_call 84; refine (gcarve_any S2.out.hp S2.out.hb n).mono ?_; rw [HT.out, ← HKS.out, HFF.out]; rintro e w3 ⟨rfl, he, hfr⟩; obtain ⟨hr, hl⟩ := S2.out.ref HI2.out he hfr HKP.out.1 (HW.out.keep (fun a ha => by rw [HKP.out.1] at ha; exact ha) (fun a ha => HKP.out.2 a (by rw [HKP.out.1] at ha; exact ha))); have R3 := Lib.hid hr; have L3 := Lib.hid hl; obtain ⟨kv3, tv3, fv3, -, -, -, -, -, -, hz3⟩ := S2.out.ref2 he hfr; obtain ⟨y0, y1, y2⟩ := op_cells hz3; clear he hfr hr hl hz3)
    go_ret
    exact ⟨by rfl, ⟨_, _, _, R3.out, HNN2.out, by rw [HKP.out.1]; exact HMM.out⟩, L3.out⟩
theorem rleft_eq (h : Inv C F) (p : Int) : rleft C.ks F p = leftL C p := by
  unfold rleft leftL
  by_cases hs : 0 < sizeI (kindL C.ks p)
  · rw [if_pos hs, if_pos hs]
    obtain ⟨h0, h1⟩ := small_in hs
    obtain ⟨q, rfl⟩ := Int.eq_ofNat_of_zero_le h0
    have hq : q < C.ks.length := by omega
    rw [kindL_in hq] at hs
    have hk : 1 ≤ C.ks.getD q 0 ∧ C.ks.getD q 0 ≤ 4 := by
      apply Decidable.byContradiction; intro hc
      rw [sizeI_zero (by omega)] at hs; omega
    rw [Int.toNat_natCast]
    exact (h.ln q hq hk.1 hk.2).2.1.symm
  · rw [if_neg hs, if_neg hs]
/-- What a call that takes leaves, but for the book: a state that waits for the book's put. -/
structure St3 (base : Nat) (b : Bl) (bk h B0 : Nat) (C C' : Cs) (F' : Nat → List Int) (ws : List Int) (k n x : Int) (w W : World) (kv tv : Value) (fv : List Value) (z s : Nat) : Prop where
  hp : Hp base W h kv fv (restN 0) C'.ks F'
  bk : Bk base W bk h tv (bitsI C.ws) ws
  sp : ∀ g, oblk tv = some g → g ∉ hrows kv fv
  cx : CX W b C'
  bl : Below B0 w W
  hb : base ≤ W.heap.size
  zz : W.heap[w.heap.size]? = some (opC k n x)
  hf : ∀ y ∈ b.fp, y < base
  b0 : B0 ≤ base
  inv : Inv C' F'
  wd : WS C ws
  mem : ∀ a, a ∈ bitsN C'.ws ↔ a = z ∨ a ∈ bitsN C.ws
  nin : z ∉ bitsN C.ws
  kept : ∀ a ∈ bitsN C.ws, Kept C C' a
  end_ : endN C' z = z + s
  zero : ∀ y, z ≤ y → y < endN C' z → C'.xs.getD y 0 = 0
theorem St3.size {W : World} {k n x : Int} {kv tv : Value} {fv : List Value} {z s : Nat} (H : St3 base b bk h B0 C C' F' ws k n x w W kv tv fv z s) : bsize C'.ks z = (s : Int) ∧ z < 2048 ∧ z + s ≤ 2048 := by
  have hz := (H.mem z).2 (.inl rfl)
  have h1 := bsize_end H.inv hz
  have h2 := end_le H.inv hz
  have h3 := H.inv.le
  have := H.end_
  exact ⟨by omega, by omega, by omega⟩
theorem St3.put {W W' : World} {k n x : Int} {kv tv : Value} {fv : List Value} {z s : Nat} (H : St3 base b bk h B0 C C' F' ws k n x w W kv tv fv z s) (he : BkE base bk h kv fv (restN 0) C'.ks F' (risL (bitsI C.ws ++ [(z : Int)])) (fillL ws z s 0) W.heap.size W') (hb : Below base W W') :
    CR base b bk h C' F' (fillL ws z s 0) W' ∧ Below B0 w W' ∧ (bitsI C'.ws).length ≤ (bitsI C.ws).length + 1 := by
  have hr := RS.of_put H.hp he
  have e := ris_bits H.mem
  rw [e] at hr
  refine ⟨⟨H.cx.belowBase H.hf hb, H.inv, hr, H.wd.put H.inv H.bk.wl H.mem H.nin H.kept H.end_ H.zero⟩, H.bl.trans ⟨hb.os, hb.tape, hb.output, hb.size, fun k hk => hb.block k (Nat.lt_of_lt_of_le hk H.b0)⟩, ?_⟩
  rw [← e]
  have := risL_len (bitsI C.ws ++ [(z : Int)]) (bitsI C.ws ++ [(z : Int)]).length (Nat.le_refl _)
  rwa [List.take_length, List.length_append] at this
/-- What is asked of a cell that was taken. -/
structure New (C C' : Cs) (z s : Nat) : Prop where
  mem : ∀ a, a ∈ bitsN C'.ws ↔ a = z ∨ a ∈ bitsN C.ws
  nin : z ∉ bitsN C.ws
  kept : ∀ a ∈ bitsN C.ws, Kept C C' a
  end_ : endN C' z = z + s
  zero : ∀ y, z ≤ y → y < endN C' z → C'.xs.getD y 0 = 0
set_option maxHeartbeats 8000000 in
set_option maxRecDepth 100000 in
theorem btake2 (H0 : CR base b bk h C F ws w) (hN : C.ks.length = N) (hm : (bitsI C.ws).length ≤ m) (hb : base ≤ w.heap.size) (hf : ∀ x ∈ b.fp, x < base) (hB : B0 ≤ base) (hf0 : ∀ x ∈ b.fp, B0 ≤ x) (n x : Int) (hm49 : m ≤ 49) :
    Calls Tryd.prog 56 #[.pointer (some ⟨bk, 0, none⟩), .pointer (some ⟨b.c, 0, none⟩), .agg #[.int .i64 2, .int .i64 n, .int .i64 x]] w fun e w' => e = .returned (.bool true) ∧ CRE base b bk h N (m + 1) w' ∧ Below B0 w w' := by
  have S := Lib.hid (st0_start (B0 := B0) H0 hb hf hB hf0 2 n x)
  have HI := Lib.hid H0.inv
  have HW := Lib.hid H0.wd
  have HNN := Lib.hid hN
  have HMM := Lib.hid hm
  clear hb hf hB hf0 H0 hN hm
  by_cases h0 : leftL C n = 0
  · have HL := Lib.hid h0
    have HR0 := Lib.hid (show rleft C.ks F n = 0 by rw [rleft_eq HI.out, h0])
    clear h0
    go_enter Tryd.func56, Tryd.ntmps56
    go_wp2_with (go_at_call 10; refine (ctake_no S.out.cr.cx n HL.out).mono ?_; rintro e w1 ⟨rfl, hbl⟩; obtain ⟨kv, tv, fv, hs⟩ := S.out.call (S.out.cr.cx.below hbl) (Frm.of_below b.fp hbl); obtain ⟨zc0, zc1, zc2, bc0, bc1⟩ := hs.cells; have S1 := Lib.hid hs; clear hbl hs)
    refine region_tail 6 (by kernel_rfl) (by kernel_rfl) ?_
    simp only [List.take_succ_cons, List.take_zero, List.drop_succ_cons, List.drop_zero]
    repeat still_step
    refine wpStill_nil ?_
    have S2 := Lib.hid (S1.out.below (Below.refl w1.heap.size w1).drew)
    go_wp2_with (go_at_call 85; refine (gtake_no S2.out.hp n HR0.out).mono ?_; rintro e w3 ⟨rfl, hbl⟩; obtain ⟨hr, hl⟩ := S2.out.ref HI.out ⟨_, _, S2.out.hp.below hbl, Rows0.refl _ _⟩ (Frm.of_below [h] hbl) rfl HW.out; have R3 := Lib.hid hr; have L3 := Lib.hid hl; clear hbl hr hl)
    go_ret
    exact ⟨by rfl, ⟨_, _, _, R3.out, HNN.out, by have := HMM.out; omega⟩, L3.out⟩
  · have hs : 0 < sizeI (kindL C.ks n) := by
      apply Decidable.byContradiction; intro hc
      exact h0 (by unfold leftL; rw [if_neg hc])
    obtain ⟨p0, p1⟩ := small_in hs
    obtain ⟨q, rfl⟩ := Int.eq_ofNat_of_zero_le p0
    have hq : q < C.ks.length := by omega
    have hs2 := hs
    rw [kindL_in hq] at hs2
    have hk : 1 ≤ C.ks.getD q 0 ∧ C.ks.getD q 0 ≤ 4 := by
      apply Decidable.byContradiction; intro hc
      rw [sizeI_zero (by omega)] at hs2; omega
    obtain ⟨l1, l2, l3⟩ := HI.out.ln q hq hk.1 hk.2
    cases hF : F q with
    | nil =>
      rw [hF] at l2
      exact absurd (by unfold leftL; rw [if_pos hs, Int.toNat_natCast]; simpa using l2) h0
    | cons f l =>
      obtain ⟨g, ht, hln⟩ := take_ok HI.out hq hk.1 hk.2 hF
      obtain ⟨C', hC⟩ : ∃ C', C' = takeC C q (C.ks.getD q 0) f ((l.length : Int) + 1) (-1 - g) := ⟨_, rfl⟩
      obtain ⟨z, hz⟩ : ∃ z, z = (cad q (C.ks.getD q 0) f).toNat := ⟨_, rfl⟩
      obtain ⟨s, hsz⟩ : ∃ s, s = (sizeI (C.ks.getD q 0)).toNat := ⟨_, rfl⟩
      obtain ⟨t1, t2, t3, t4, t5, t6, t7⟩ := take_kept HI.out hq hk.1 hk.2 hF ht hln C' hC z hz
      rw [← hsz] at t4
      have HKP := Lib.hid (show New C C' z s from ⟨t2, t1, t3, t4, t7⟩)
      have HI2 := Lib.hid (show Inv C' (upd F q l) by rw [hC]; exact inv_take HI.out hq hk.1 hk.2 hF ht hln)
      have HKS := Lib.hid t6
      have hzc : cad q (C.ks.getD q 0) f = (z : Int) := by rw [hz]; exact (cad_page (p := q) hk ht.f0 ht.f1).2.2.symm
      have HZC := Lib.hid hzc
      have HC := Lib.hid hC
      have HTK := Lib.hid ht
      have HTL := Lib.hid (show (bitsI C.ws).length + 1 ≤ 50 by have := HMM.out; omega)
      have hf32 : 0 ≤ f ∧ f < 32 := by
        have h8 := ht.f1
        have h9 := ht.f0
        have hc : C.ks.getD q 0 = 1 ∨ C.ks.getD q 0 = 2 ∨ C.ks.getD q 0 = 3 ∨ C.ks.getD q 0 = 4 := by omega
        rcases hc with e | e | e | e <;> rw [e] at h8 <;> simp [cellsI] at h8 <;> omega
      have HGT := Lib.hid (fun (W : World) (kv : Value) (fv : List Value) (H : Hp base W h kv fv (restN 0) C.ks F) => (gtake_yes H q hs f l hF hf32).mono (R' := fun e w' => e = .returned (.int .i64 (z : Int)) ∧ HpE base h (restN 0) C'.ks (upd F q l) W.heap.size (hrows kv fv) w' ∧ Frm [h] W w') fun e w' ⟨h1, h2, h3⟩ => ⟨by unfold takeR at h1; rw [h1, kindL_in hq, ← hzc]; rfl, by rw [t6]; exact h2, h3⟩)
      have HGC := Lib.hid (fun (W : World) (H : CX W b C) => (ctake_ok H q _ _ _ _ ht).mono (R' := fun e w' => e = .returned (.tuple #[.int .i64 (z : Int), .bool true]) ∧ CX w' b C' ∧ Frm b.fp W w') fun e w' ⟨h1, h2, h3⟩ => ⟨by rw [h1, hzc], by rw [hC]; exact h2, h3⟩)
      have HN2 := Lib.hid (show C'.ks.length = N by rw [t6]; exact HNN.out)
      have z0 : (0 : Int) ≤ (z : Int) := by omega
      have zn : decide ((z : Int) < 0) = false := by rw [decide_eq_false_iff_not]; omega
      clear h0 hs p0 p1 hq hs2 hk l1 l2 l3 hF ht hln hC hz hsz t1 t2 t3 t4 t5 t6 t7 hzc hf32
      go_enter Tryd.func56, Tryd.ntmps56
      go_wp2_with (go_at_call 10; refine (HGC.out _ S.out.cr.cx).mono ?_; rintro e w1 ⟨rfl, hx, hfr⟩; obtain ⟨kv, tv, fv, hs⟩ := S.out.call hx hfr; obtain ⟨zc0, zc1, zc2, bc0, bc1⟩ := hs.cells; have S1 := Lib.hid hs; clear hx hfr hs)
      refine region_tail 6 (by kernel_rfl) (by kernel_rfl) ?_
      simp only [List.take_succ_cons, List.take_zero, List.drop_succ_cons, List.drop_zero]
      repeat still_step
      refine wpStill_nil ?_
      have S2 := Lib.hid (S1.out.below (Below.refl w1.heap.size w1).drew)
      go_wp2_with (first | (go_at_call 85; refine (HGT.out _ _ _ S2.out.hp).mono ?_; rintro e w3 ⟨rfl, he, hfr⟩; obtain ⟨kv3, tv3, fv3, q1, q2, q3, q4, q5, q6, q7⟩ := S2.out.ref2 he hfr; have S3 := Lib.hid (show St3 base b bk h B0 C C' (upd F q l) ws 2 q x w w3 kv3 tv3 fv3 z s from ⟨q1, q2, q3, q4, q5, q6, q7, S2.out.hf, S2.out.b0, HI2.out, HW.out, HKP.out.mem, HKP.out.nin, HKP.out.kept, HKP.out.end_, HKP.out.zero⟩); obtain ⟨y0, y1, y2⟩ := op_cells q7; clear he hfr q1 q2 q3 q4 q5 q6 q7) | (go_at_call 87; refine (bput_any S3.out.hp S3.out.bk S3.out.sp S3.out.hb z s S3.out.size.1 S3.out.size.2.1 S3.out.size.2.2 HTL.out).mono ?_; rintro e w4 ⟨rfl, he, hbl⟩; obtain ⟨hr, hl, hn⟩ := S3.out.put he hbl; have R4 := Lib.hid hr; have L4 := Lib.hid hl; have N4 := Lib.hid hn; clear he hbl hr hl hn))
      go_ret
      exact ⟨by rfl, ⟨_, _, _, R4.out, HN2.out, by have := HMM.out; have := N4.out; omega⟩, L4.out⟩
set_option maxHeartbeats 8000000 in
set_option maxRecDepth 100000 in
theorem btake3 (H0 : CR base b bk h C F ws w) (hN : C.ks.length = N) (hm : (bitsI C.ws).length ≤ m) (hb : base ≤ w.heap.size) (hf : ∀ x ∈ b.fp, x < base) (hB : B0 ≤ base) (hf0 : ∀ x ∈ b.fp, B0 ≤ x) (n x : Int) (hm49 : m ≤ 49) (hnm : n ≤ 9223372036854775807) :
    Calls Tryd.prog 56 #[.pointer (some ⟨bk, 0, none⟩), .pointer (some ⟨b.c, 0, none⟩), .agg #[.int .i64 3, .int .i64 n, .int .i64 x]] w fun e w' => e = .returned (.bool true) ∧ CRE base b bk h N (m + 1) w' ∧ Below B0 w w' := by
  have S := Lib.hid (st0_start (B0 := B0) H0 hb hf hB hf0 3 n x)
  have HI := Lib.hid H0.inv
  have HW := Lib.hid H0.wd
  have HNN := Lib.hid hN
  have HMM := Lib.hid hm
  clear hb hf hB hf0 H0 hN hm
  cases ht : spanL C.ks n with
  | none =>
    have HT := Lib.hid ht
    have HC := Lib.hid (show largeC C n = C by unfold largeC; rw [ht])
    have HK := Lib.hid (show spanK C.ks n = C.ks by unfold spanK; rw [ht])
    have HM := Lib.hid hnm
    clear ht hnm
    go_enter Tryd.func56, Tryd.ntmps56
    go_wp2_with (go_at_call 11; refine (clarge_any S.out.cr.cx n HM.out).mono ?_; rw [HT.out, HC.out]; rintro e w1 ⟨rfl, hx, hfr⟩; obtain ⟨kv, tv, fv, hs⟩ := S.out.call hx hfr; obtain ⟨zc0, zc1, zc2, bc0, bc1⟩ := hs.cells; have S1 := Lib.hid hs; clear hx hfr hs)
    refine region_tail 6 (by kernel_rfl) (by kernel_rfl) ?_
    simp only [List.take_succ_cons, List.take_zero, List.drop_succ_cons, List.drop_zero]
    repeat still_step
    refine wpStill_nil ?_
    have S2 := Lib.hid (S1.out.below (Below.refl w1.heap.size w1).drew)
    go_wp2_with (go_at_call 86; refine (glarge_any S2.out.hp S2.out.hb n).mono ?_; rw [HT.out, HK.out]; rintro e w3 ⟨rfl, he, hfr⟩; obtain ⟨hr, hl⟩ := S2.out.ref HI.out he hfr rfl HW.out; have R3 := Lib.hid hr; have L3 := Lib.hid hl; clear he hfr hr hl)
    go_ret
    exact ⟨by rfl, ⟨_, _, _, R3.out, HNN.out, by have := HMM.out; omega⟩, L3.out⟩
  | some p =>
    obtain ⟨C', hC⟩ : ∃ C', C' = largeC C n := ⟨_, rfl⟩
    obtain ⟨z, hz⟩ : ∃ z, z = 32 * p := ⟨_, rfl⟩
    obtain ⟨s, hsz⟩ : ∃ s, s = 32 * n.toNat := ⟨_, rfl⟩
    obtain ⟨t1, t2, t3, t4, t5, t6, t7⟩ := large_kept HI.out ht C' hC
    rw [← hz, ← hsz] at t5
    rw [← hz] at t1 t2 t7
    have HKP := Lib.hid (show New C C' z s from ⟨t2, t1, t3, t5, t7⟩)
    have HI2 := Lib.hid (show Inv C' F by rw [hC]; exact inv_large HI.out ht)
    have hks : C'.ks = spanK C.ks n := by rw [t4]; unfold spanK; rw [ht]
    have hzc : (p : Int) * 32 = (z : Int) := by omega
    have HTL := Lib.hid (show (bitsI C.ws).length + 1 ≤ 50 by have := HMM.out; omega)
    have HGT := Lib.hid (fun (W : World) (kv : Value) (fv : List Value) (H : Hp base W h kv fv (restN 0) C.ks F) (hb : base ≤ W.heap.size) => (glarge_any H hb n).mono (R' := fun e w' => e = .returned (.int .i64 (z : Int)) ∧ HpE base h (restN 0) C'.ks F W.heap.size (hrows kv fv) w' ∧ Frm [h] W w') fun e w' ⟨h1, h2, h3⟩ => ⟨by unfold LargeR at h1; rw [h1, ht, ← hzc], by rw [hks]; exact h2, h3⟩)
    have HGC := Lib.hid (fun (W : World) (H : CX W b C) => (clarge_any H n hnm).mono (R' := fun e w' => e = .returned (.tuple #[.int .i64 (z : Int), .bool true]) ∧ CX w' b C' ∧ Frm b.fp W w') fun e w' ⟨h1, h2, h3⟩ => ⟨by unfold LargeE at h1; rw [h1, ht, ← hzc]; rfl, by rw [hC]; exact h2, h3⟩)
    have HN2 := Lib.hid (show C'.ks.length = N by rw [hks, spanK_len]; exact HNN.out)
    have z0 : (0 : Int) ≤ (z : Int) := by omega
    have zn : decide ((z : Int) < 0) = false := by rw [decide_eq_false_iff_not]; omega
    clear ht hC hz hsz t1 t2 t3 t4 t5 t6 t7 hzc hks hnm
    go_enter Tryd.func56, Tryd.ntmps56
    go_wp2_with (go_at_call 11; refine (HGC.out _ S.out.cr.cx).mono ?_; rintro e w1 ⟨rfl, hx, hfr⟩; obtain ⟨kv, tv, fv, hs⟩ := S.out.call hx hfr; obtain ⟨zc0, zc1, zc2, bc0, bc1⟩ := hs.cells; have S1 := Lib.hid hs; clear hx hfr hs)
    refine region_tail 6 (by kernel_rfl) (by kernel_rfl) ?_
    simp only [List.take_succ_cons, List.take_zero, List.drop_succ_cons, List.drop_zero]
    repeat still_step
    refine wpStill_nil ?_
    have S2 := Lib.hid (S1.out.below (Below.refl w1.heap.size w1).drew)
    go_wp2_with (first | (go_at_call 86; refine (HGT.out _ _ _ S2.out.hp S2.out.hb).mono ?_; rintro e w3 ⟨rfl, he, hfr⟩; obtain ⟨kv3, tv3, fv3, q1, q2, q3, q4, q5, q6, q7⟩ := S2.out.ref2 he hfr; have S3 := Lib.hid (show St3 base b bk h B0 C C' F ws 3 n x w w3 kv3 tv3 fv3 z s from ⟨q1, q2, q3, q4, q5, q6, q7, S2.out.hf, S2.out.b0, HI2.out, HW.out, HKP.out.mem, HKP.out.nin, HKP.out.kept, HKP.out.end_, HKP.out.zero⟩); obtain ⟨y0, y1, y2⟩ := op_cells q7; clear he hfr q1 q2 q3 q4 q5 q6 q7) | (go_at_call 87; refine (bput_any S3.out.hp S3.out.bk S3.out.sp S3.out.hb z s S3.out.size.1 S3.out.size.2.1 S3.out.size.2.2 HTL.out).mono ?_; rintro e w4 ⟨rfl, he, hbl⟩; obtain ⟨hr, hl, hn⟩ := S3.out.put he hbl; have R4 := Lib.hid hr; have L4 := Lib.hid hl; have N4 := Lib.hid hn; clear he hbl hr hl hn))
    go_ret
    exact ⟨by rfl, ⟨_, _, _, R4.out, HN2.out, by have := HMM.out; have := N4.out; omega⟩, L4.out⟩
end
end Go.Proofs.YtfocdbflmodfhaaDoor

/- Cells: a word stored; what is asked. -/
namespace Go.Proofs.YtfocdbflmodfhaaDoor
open Go.RowKit

theorem has_iff {C : Cs} {F : Nat → List Int} (h : Inv C F) (x : Int) : hasB C.xs.length C.ws x = decide (x ∈ bitsI C.ws) := by
  rw [Bool.eq_iff_iff, decide_eq_true_eq, mem_bitsI]
  constructor
  · intro hb
    obtain ⟨a, e, hl, hbit, -⟩ := has_tk h hb
    have := h.le
    exact ⟨a, mem_bits.2 ⟨by omega, hbit⟩, e⟩
  · rintro ⟨a, ha, rfl⟩
    exact has_of h ha
theorem free_few {C : Cs} {F : Nat → List Int} (h : Inv C F) {q : Nat} (hq : q < C.ks.length) (k1 : 1 ≤ C.ks.getD q 0) (k4 : C.ks.getD q 0 ≤ 4) : (F q).length ≤ 16 := by
  obtain ⟨g1, -, g3⟩ := h.ln q hq k1 k4
  have hf := few_ints (cellsI (C.ks.getD q 0)).toNat (F q) g3 (fun x hx => by
    have := g1.mem x hx
    omega)
  have hc : C.ks.getD q 0 = 1 ∨ C.ks.getD q 0 = 2 ∨ C.ks.getD q 0 = 3 ∨ C.ks.getD q 0 = 4 := by omega
  rcases hc with e | e | e | e <;> rw [e] at hf <;> simp [cellsI] at hf <;> omega
/-- A free cell's first word lies in nothing that is taken. -/
theorem free_out {C : Cs} {F : Nat → List Int} (h : Inv C F) {q : Nat} (hq : q < C.ks.length) (k1 : 1 ≤ C.ks.getD q 0) (k4 : C.ks.getD q 0 ≤ 4) {i : Int} (hi : i ∈ F q) {a : Nat} (ha : a ∈ bitsN C.ws) : ¬ (a ≤ (cad q (C.ks.getD q 0) i).toNat ∧ (cad q (C.ks.getD q 0) i).toNat < endN C a) := by
  rintro ⟨h1, h2⟩
  obtain ⟨g1, -, -⟩ := h.ln q hq k1 k4
  obtain ⟨i0, i1⟩ := g1.mem i hi
  obtain ⟨k, ek⟩ : ∃ k, k = C.ks.getD q 0 := ⟨_, rfl⟩
  rw [← ek] at k1 k4 i1 h1 h2
  have hci := cad_idx (p := q) ⟨k1, k4⟩ i0 i1
  have hp := (pages_in h ha h1 h2).2.2
  rw [hci.1] at hp
  rcases hp with ⟨hs, e⟩ | ⟨h5, e | h6⟩
  · have hak : C.ks.getD (a / 32) 0 = k := by rw [← e]; exact ek.symm
    rcases tk_cases (bits_lt h ha).2 with ⟨-, -, al, hn⟩ | ⟨t5, -⟩
    · rw [hak] at al hn
      rw [← e] at hn
      have hend : endN C a = a + (sizeI k).toNat := by unfold endN; rw [hak, if_pos (by rw [← hak]; exact hs)]
      rw [hend] at h2
      have hx := aligned ⟨k1, k4⟩ al
      have hcp := cad_page (p := q) ⟨k1, k4⟩ i0 i1
      rw [← e] at hx
      have hne : i ≠ (a : Int) % 32 / sizeI k := fun c => hn (c ▸ hi)
      have hid := idx_lt ⟨k1, k4⟩ a
      have := cad_ne (p := (q : Int)) (by omega) ⟨k1, k4⟩ i0 hid.1 hne
      have h3 : (cad (q : Int) k ((a : Int) % 32 / sizeI k)).toNat = a := by rw [← hx]; simp
      rw [h3] at this
      omega
    · rw [hak] at t5; omega
  · rw [← e, ← ek] at h5; omega
  · rw [← ek] at h6; omega
theorem inv_store {C : Cs} {F : Nat → List Int} (h : Inv C F) {a x : Nat} (ha : a ∈ bitsN C.ws) (h1 : a ≤ x) (h2 : x < endN C a) (v : Int) : Inv { C with xs := putL C.xs x v } F := by
  have hx := (pages_in h ha h1 h2).1
  have hlen := h.len
  refine ⟨h.le, by rw [putL_len]; exact hlen, h.chl, h.wl, h.kd, h.sx, fun p (hp : p < C.ks.length) (k1 : 1 ≤ C.ks.getD p 0) (k4 : C.ks.getD p 0 ≤ 4) => ?_, h.bt, h.tp⟩
  obtain ⟨g1, g2, g3⟩ := h.ln p hp k1 k4
  refine ⟨(show Lnk (putL C.xs x v) p (C.ks.getD p 0) (C.ch.getD p (0, 0)).1 (F p) from g1.keep fun i hi => ?_), g2, g3⟩
  obtain ⟨i0, i1⟩ := g1.mem i hi
  have hcp := cad_page (p := p) ⟨k1, k4⟩ i0 i1
  have hs := sizeI_pos ⟨k1, k4⟩
  rw [putL_get (by omega), if_neg fun e => free_out h hp k1 k4 hi ha ⟨by omega, by omega⟩]
theorem store_ws {C : Cs} {F : Nat → List Int} {ws : List Int} (h : Inv C F) (hw : WS C ws) (hl : ws.length = 2048) (x : Nat) (v : Int) : WS { C with xs := putL C.xs x v } (ws.set x v) := by
  intro a' ha' y y1 y2
  have hle := h.le
  have hlen := h.len
  have hy := (pages_in h ha' y1 y2).1
  show (ws.set x v).getD y 0 = (putL C.xs x v).getD y 0
  rw [putL_get (by omega)]
  by_cases e : y = x
  · subst e
    rw [getD_set_same (by omega), if_pos rfl]
  · rw [getD_set_other (fun c => e c.symm), if_neg (by omega)]
    exact hw a' ha' y y1 y2
theorem base_in_mem {C : Cs} {F : Nat → List Int} (h : Inv C F) {x : Int} (h0 : 0 ≤ baseC C x) : ∃ a y : Nat, x = (y : Int) ∧ a ∈ bitsN C.ws ∧ a ≤ y ∧ y < endN C a ∧ y < C.xs.length := by
  obtain ⟨a, ha, -, h1, h2⟩ := base_back h h0
  obtain ⟨y, rfl⟩ := Int.eq_ofNat_of_zero_le (show 0 ≤ x by omega)
  have := (pages_in h ha (x := y) (by omega) (by omega)).1
  have := h.len
  exact ⟨a, y, rfl, ha, by omega, by omega, by omega⟩
end Go.Proofs.YtfocdbflmodfhaaDoor

/- Plain: are two lists of numbers alike? -/
namespace Go.Proofs.YtfocdbflmodfhaaDoor
open Go.RowKit

theorem getD_ext {xs ys : List Int} (hl : xs.length = ys.length) (h : ∀ i, i < xs.length → xs.getD i 0 = ys.getD i 0) : xs = ys := by
  refine List.ext_getElem hl fun i h1 h2 => ?_
  have := h i h1
  rw [List.getD_eq_getElem?_getD, List.getD_eq_getElem?_getD, List.getElem?_eq_getElem h1, List.getElem?_eq_getElem h2] at this
  exact this
section
variable {base base' : Nat} {w : World} {A A' : Option Addr} {n n' cap cap' : Nat} {xs ys : List Int}
set_option maxHeartbeats 2000000 in
theorem ints_any (h : IRow base w (.slice A n cap) xs) (h' : IRow base' w (.slice A' n' cap') ys) (hm : n ≤ 1000000) :
    Calls Tryd.prog 63 #[.slice A n cap, .slice A' n' cap'] w fun e w' => e = .returned (.bool (decide (xs = ys))) ∧ Below w.heap.size w w' := by
  obtain ⟨hn, hc⟩ := h.at_
  obtain ⟨hn', hc'⟩ := h'.at_
  obtain ⟨r, hr⟩ : ∃ r, r = decide (xs = ys) := ⟨_, rfl⟩
  rw [← hr]
  have HR := Lib.hid hr
  have H := Lib.hid h
  have H' := Lib.hid h'
  have B0 := Lib.hid (Below.refl w.heap.size w)
  clear hr
  by_cases hl : n = n'
  · subst hl
    have HN := Lib.hid hn
    have HN' := Lib.hid hn'
    have hb : ((n : Int) != (n : Int)) = false := by simp
    clear h h' hn hn' hc hc'
    go_enter Tryd.func63, Tryd.ntmps63
    go_wp2_with fail
    go_loopw [5] (fun a wr => ∃ i : Nat, i ≤ n ∧ a = .int .i64 i ∧ Hid (∀ j, j < i → xs.getD j 0 = ys.getD j 0) ∧ Hid (Below w.heap.size w wr)) (fun a _ => n - (intOf a).toNat)
    case atStart => exact ⟨0, Nat.zero_le _, rfl, Lib.hid (fun j hj => by omega), B0⟩
    case round =>
      clear B0
      obtain ⟨i, hi, rfl, HJ, HB⟩ := hrel
      by_cases hlt : i < n
      · obtain ⟨g, rfl, c2⟩ := (H.out.below HB.out).at_.2 i hlt
        obtain ⟨g', rfl, c3⟩ := (H'.out.below HB.out).at_.2 i hlt
        obtain ⟨v, hv⟩ : ∃ v, v = xs.getD i 0 := ⟨_, rfl⟩
        obtain ⟨u, hu⟩ : ∃ u, u = ys.getD i 0 := ⟨_, rfl⟩
        rw [← hv] at c2
        rw [← hu] at c3
        have hd : decide ((i : Int) < (n : Int)) = true := by simpa using hlt
        have i1 : (0 : Int) ≤ (i : Int) := by omega
        have i2 : (i : Int) < (n : Int) := by omega
        by_cases h0 : v = u
        · have HJ' := Lib.hid (show ∀ j, j < i + 1 → xs.getD j 0 = ys.getD j 0 from fun j hj => by
            by_cases e : j = i
            · rw [e, ← hv, ← hu]; exact h0
            · exact HJ.out j (by omega))
          have h0' : (v != u) = false := by simp [h0]
          clear hv hu HJ h0
          go_wp2_with fail
          go_quiet (fail)
          go_wp2_with fail
          go_roundw
          case rel => exact ⟨i + 1, by omega, by go_num, HJ', Lib.hid (below_drewN HB.out _)⟩
          case measure => simp [intOf]; omega
        · have HF := Lib.hid (show r = false by
            rw [HR.out, decide_eq_false_iff_not]
            intro e
            exact h0 (by rw [hv, hu, e]))
          have h0' : (v != u) = true := by simpa using h0
          clear hv hu HJ h0
          go_wp2_with fail
          go_quiet (fail)
          go_wp2_with fail
          go_ret
          exact ⟨by rw [HF.out]; rfl, below_drewN HB.out _⟩
      · have hd : decide ((i : Int) < (n : Int)) = false := by simpa using hlt
        have HT := Lib.hid (show r = true by
          rw [HR.out, decide_eq_true_eq]
          exact getD_ext (HN.out.symm.trans HN'.out) fun j hj => HJ.out j (by have := HN.out; omega))
        go_wp2_with fail
        go_ret
        exact ⟨by rw [HT.out]; rfl, HB.out⟩
  · have HF := Lib.hid (show r = false by
      rw [HR.out, decide_eq_false_iff_not]
      intro e
      exact hl (by rw [hn, hn', e]))
    have hb : ((n : Int) != (n' : Int)) = true := by simp; omega
    clear h h' hn hn' hc hc'
    go_enter Tryd.func63, Tryd.ntmps63
    go_wp2_with fail
    go_ret
    exact ⟨by rw [HF.out]; rfl, B0.out⟩
end
end Go.Proofs.YtfocdbflmodfhaaDoor
