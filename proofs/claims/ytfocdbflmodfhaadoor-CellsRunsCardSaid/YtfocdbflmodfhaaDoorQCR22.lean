/- The law's book: step, a gift. -/
import Derived.Test.YtfocdbflmodfhaaDoorQCR01
import Derived.Test.YtfocdbflmodfhaaDoorQCR15
import Derived.Test.YtfocdbflmodfhaaDoorQCR21
import Derived.ProofKit
import Derived.OpenShut
import Derived.ChangeOld
import Derived.SizedLaws
import Derived.Deep.Fields
import Derived.Lib.SmallJoins
namespace Go.Proofs.YtfocdbflmodfhaaDoor
open Go.RowKit

section
variable {base bk h B0 N m : Nat} {b : Bl} {w w' : World} {C C' : Cs} {ks ts ws : List Int} {F F' : Nat → List Int}
/-- A heap as it stands when a step has been boxed, part by part. -/
theorem st1_start (H0 : CR base b bk h C F ws w) (hb : base ≤ w.heap.size) (hf : ∀ x ∈ b.fp, x < base) (hB : B0 ≤ base) (hf0 : ∀ x ∈ b.fp, B0 ≤ x) (k n x : Int) : ∃ kv tv fv, St1 base b bk h B0 C C F ws k n x w (w.alloc (opC k n x)) kv tv fv ∧ w.cell? ⟨bk, 0, none⟩ = some (.pointer (some ⟨h, 0, none⟩)) ∧ w.cell? ⟨bk, 1, none⟩ = some tv ∧ w.cell? ⟨h, 0, none⟩ = some kv ∧ bk < w.heap.size ∧ h < w.heap.size := by
  have H := st0_start (B0 := B0) H0 hb hf hB hf0 k n x
  have bz := below_alloc0 w (opC k n x)
  obtain ⟨kv, fv, tv, h1, h2, h3⟩ := H0.rs
  exact ⟨kv, tv, fv, ⟨H.cr.cx, h1.below bz, h2.below bz, h3, H.z, H.bl, Nat.le_trans H.hb H.hs, fun y hy => by have := H.hf y hy; have := H.hb; omega, H.hf, H.f0, H.b0⟩, h2.cells.1, h2.cells.2.1, h1.cells.1, heap_lt h2.hd, heap_lt h1.hd⟩
theorem St1.whole {W : World} {k n x : Int} {kv tv : Value} {fv : List Value} (H : St1 base b bk h B0 C C F ws k n x w W kv tv fv) (hi : Inv C F) (hw : WS C ws) : CR base b bk h C F ws W := ⟨H.cx, hi, ⟨kv, fv, tv, H.hp, H.bk, H.sp⟩, hw⟩
/-- The reference gives back what is taken. -/
theorem give_ref (hi : Inv C F) {a : Nat} (ha : a ∈ bitsN C.ws) : ∃ C' F', Inv C' F' ∧ (∀ y, y ∈ bitsN C'.ws ↔ y ≠ a ∧ y ∈ bitsN C.ws) ∧ (∀ y ∈ bitsN C.ws, y ≠ a → Kept C C' y) ∧ C'.ks.length = C.ks.length ∧
    (∀ {rest : List Value} {kv : Value} {fv : List Value} (W : World), Hp base W h kv fv rest C.ks F → base ≤ W.heap.size → Calls Tryd.prog 88 #[.pointer (some ⟨h, 0, none⟩), .int .i64 a] W fun e w' => e = .returned (.tuple #[]) ∧ HpE base h rest C'.ks F' W.heap.size (hrows kv fv) w' ∧ Frm [h] W w') ∧
    (∀ W, CX W b C → Calls Tryd.prog 12 #[.pointer (some ⟨b.c, 0, none⟩), .int .i64 a] W fun e w' => e = .returned (.bool true) ∧ CX w' b C' ∧ Frm b.fp W w') := by
  obtain ⟨hl, ht⟩ := bits_lt hi ha
  have hle := hi.le
  have hb := has_of hi ha
  have hq : a / 32 < C.ks.length := by omega
  rcases tk_cases ht with ⟨k1, k4, hal, hn⟩ | ⟨h5, h0⟩
  · obtain ⟨e1, e2⟩ := give_kept hi ha (giveS C a (a / 32) (C.ks.getD (a / 32) 0) ((a : Int) % 32 / sizeI (C.ks.getD (a / 32) 0)) (C.ch.getD (a / 32) (0, 0)).1 (C.ch.getD (a / 32) (0, 0)).2) rfl (by unfold giveS; exact remL_off hb) (fun x hx hne => by
      have hc := aligned ⟨k1, k4⟩ hal
      show (putL C.xs _ _).getD x 0 = _
      rw [← hc, putL_get hx, if_neg (by omega)])
    refine ⟨_, _, inv_give hi hb hl k1 k4 hal hn, e1, e2, rfl, fun W H hbs => ?_, fun W H => (cgive_small H a hb _ _ _ _ _ (give_ok hi hl k1 k4 hal hn))⟩
    exact ggive_small H hbs a (a / 32) (by omega) rfl hq _ rfl k1 k4 (by have := free_few hi hq k1 k4; omega)
  · obtain ⟨e1, e2, e3⟩ := giveL_kept hi ha h5
    have hp : kindL C.ks (pageI (a : Int)) = 5 := by
      rw [pageI_in (by omega) (by omega), show (a : Int) / 32 = ((a / 32 : Nat) : Int) by omega, kindL_in hq]
      exact h5
    refine ⟨_, _, inv_give_large hi hb hl h5 h0, e1, e2, by rw [e3, fillL_len], fun W H hbs => ?_, fun W H => cgive_large H a hb hp⟩
    rw [e3, ← setL_fill]
    exact ggive_large H hbs a (a / 32) (by omega) rfl hq h5
set_option maxHeartbeats 8000000 in
set_option maxRecDepth 100000 in
theorem bstep4 (H0 : CR base b bk h C F ws w) (hN : C.ks.length = N) (hm : (bitsI C.ws).length ≤ m) (hb : base ≤ w.heap.size) (hf : ∀ x ∈ b.fp, x < base) (hB : B0 ≤ base) (hf0 : ∀ x ∈ b.fp, B0 ≤ x) (n x : Int) :
    Calls Tryd.prog 20 #[.pointer (some ⟨bk, 0, none⟩), .pointer (some ⟨b.c, 0, none⟩), .agg #[.int .i64 4, .int .i64 n, .int .i64 x]] w fun e w' => e = .returned (.bool true) ∧ CRE base b bk h N m w' ∧ Below B0 w w' := by
  obtain ⟨kv, tv, fv, S, bc0, bc1, -, hbk, hh⟩ := st1_start (B0 := B0) H0 hb hf hB hf0 4 n x
  have HI := Lib.hid H0.inv
  have HW := Lib.hid H0.wd
  have HNN := Lib.hid hN
  have HMM := Lib.hid hm
  obtain ⟨A, cap, rfl, -⟩ := S.bk.tk.slice
  obtain ⟨L, hL⟩ : ∃ L, L = (bitsI C.ws).length := ⟨_, rfl⟩
  rw [← hL] at S bc1
  have HL := Lib.hid (show L ≤ 1000000 by have := S.bk.tl; omega)
  replace S : Hid (St1 base b bk h B0 C C F ws 4 n x w (w.alloc (.cells #[.int .i64 4, .int .i64 n, .int .i64 x] 28)) kv (.slice A L cap) fv) := Lib.hid S
  have HBK := Lib.hid hbk
  have HHH := Lib.hid hh
  clear hb hf hB hf0 H0 hN hm hL hbk hh
  by_cases hin : n ∈ bitsI C.ws
  · have hd : decide (n ∈ bitsI C.ws) = true := by simpa using hin
    obtain ⟨a, ha, rfl⟩ := mem_bitsI.1 hin
    obtain ⟨C', F', hi', hmem, hkept, hlen, hgr, hgc⟩ := give_ref (base := base) (h := h) (b := b) HI.out ha
    have HI2 := Lib.hid hi'
    have HMEM := Lib.hid hmem
    have HKP := Lib.hid hkept
    have HN2 := Lib.hid (show C'.ks.length = N by rw [hlen]; exact HNN.out)
    have HGC := Lib.hid hgc
    have HD := Lib.hid hd
    have HGR := Lib.hid (fun W H hb => hgr (rest := restN 0) (kv := kv) (fv := fv) W H hb)
    clear hin ha hi' hmem hkept hlen hgr hgc hd
    go_enter Tryd.func20, Tryd.ntmps20
    go_wp2_with fail
    generalize w.alloc (.cells #[.int .i64 4, .int .i64 (a : Int), .int .i64 x] 28) = W0 at S ⊢
    obtain ⟨zc0, zc1, zc2, bd0, bd1⟩ := S.out.cells
    have S0 := Lib.hid (S.out.below (Below.refl W0.heap.size W0).drew)
    refine region_tail 6 (by kernel_rfl) (by kernel_rfl) ?_
    simp only [List.take_succ_cons, List.take_zero, List.drop_succ_cons, List.drop_zero]
    repeat still_step
    refine wpStill_nil ?_
    go_wp2_with (first
      | (go_at_call 57; refine (in_any S0.out.bk.tk _ HL.out).mono ?_; rw [HD.out]; rintro e w1 ⟨rfl, rfl⟩)
      | (go_at_call 58; refine (bgone_any S0.out.hp S0.out.bk S0.out.hb _ HGR.out).mono ?_; rintro e w2 ⟨rfl, hr, hfr⟩; have R2 := Lib.hid hr; have F2 := Lib.hid hfr; have z2 := op_frm S0.out.z hfr (fun y hy => by simp only [List.mem_cons, List.not_mem_nil, or_false] at hy; rcases hy with rfl | rfl; exact HBK.out; exact HHH.out); obtain ⟨y0, y1, y2⟩ := op_cells z2; have X2 := Lib.hid (S0.out.cx.frm hfr (fun y hy hm => by have := S0.out.hf y hy; have := S0.out.bk.own; have := S0.out.hp.own; simp only [List.mem_cons, List.not_mem_nil, or_false] at hm; omega)); clear hr hfr z2)
      | (go_at_call 12; refine (HGC.out _ X2.out).mono ?_; rintro e w3 ⟨rfl, hx, hfr⟩; have X3 := Lib.hid hx; have R3 := Lib.hid (R2.out.frm hfr S0.out.hf); have F3 := Lib.hid hfr; clear hx hfr))
    go_ret
    have hr := R3.out
    rw [filt_bits HMEM.out] at hr
    refine ⟨rfl, ⟨C', F', ws, ⟨X3.out, HI2.out, hr, HW.out.keep (fun y hy => ((HMEM.out y).1 hy).2) (fun y hy => HKP.out y ((HMEM.out y).1 hy).2 ((HMEM.out y).1 hy).1)⟩, HN2.out, ?_⟩, ?_⟩
    · rw [← filt_bits HMEM.out]
      exact Nat.le_trans (List.length_filter_le _ _) HMM.out
    · have hl0 := Nat.le_trans S0.out.b0 S0.out.hb
      refine (S0.out.bl.trans (frm_below0 F2.out hl0 (fun y hy => ?_))).trans (frm_below0 F3.out (Nat.le_trans hl0 F2.out.size) S0.out.f0)
      have := S0.out.bk.own
      have := S0.out.hp.own
      have := S0.out.b0
      simp only [List.mem_cons, List.not_mem_nil, or_false] at hy
      omega
  · have hd : decide (n ∈ bitsI C.ws) = false := by simpa using hin
    have HD := Lib.hid hd
    have HH := Lib.hid (show hasB C.xs.length C.ws n = false by rw [has_iff HI.out]; exact hd)
    clear hin hd
    go_enter Tryd.func20, Tryd.ntmps20
    go_wp2_with fail
    generalize w.alloc (.cells #[.int .i64 4, .int .i64 n, .int .i64 x] 28) = W0 at S ⊢
    obtain ⟨zc0, zc1, zc2, bd0, bd1⟩ := S.out.cells
    have S0 := Lib.hid (S.out.below (Below.refl W0.heap.size W0).drew)
    refine region_tail 6 (by kernel_rfl) (by kernel_rfl) ?_
    simp only [List.take_succ_cons, List.take_zero, List.drop_succ_cons, List.drop_zero]
    repeat still_step
    refine wpStill_nil ?_
    go_wp2_with (first
      | (go_at_call 57; refine (in_any S0.out.bk.tk _ HL.out).mono ?_; rw [HD.out]; rintro e w1 ⟨rfl, rfl⟩)
      | (go_at_call 12; refine (cgive_no S0.out.cx _ HH.out).mono ?_; rintro e w2 ⟨rfl, rfl⟩))
    go_ret
    exact ⟨rfl, ⟨C, F, ws, S0.out.whole HI.out HW.out, HNN.out, HMM.out⟩, S0.out.bl⟩
end
end Go.Proofs.YtfocdbflmodfhaaDoor

/- The law's book: step, a page dropped. -/
namespace Go.Proofs.YtfocdbflmodfhaaDoor
open Go.RowKit

section
variable {base bk h B0 N m : Nat} {b : Bl} {w w' : World} {C C' : Cs} {ks ts ws : List Int} {F F' : Nat → List Int}
theorem St1.call {W W' : World} {k n x : Int} {kv tv : Value} {fv : List Value} (H : St1 base b bk h B0 C C F ws k n x w W kv tv fv) (hx : CX W' b C') (hfr : Frm b.fp W W') : St1 base b bk h B0 C C' F ws k n x w W' kv tv fv := by
  have k : ∀ g, base ≤ g → ∀ c, W.heap[g]? = some c → W'.heap[g]? = W.heap[g]? := fun g hg c hc => hfr.block g (heap_lt hc) (fun hm => by have := H.hf g hm; omega)
  refine ⟨hx, H.hp.stays (k h H.hp.own _ H.hp.hd) (fun g hg => ?_), ⟨(k bk H.bk.own _ H.bk.hd).trans H.bk.hd, H.bk.own, H.bk.tk.stays (fun g hg => ?_), H.bk.tl, H.bk.wl⟩, H.sp, op_frm H.z hfr H.hz, H.bl.trans (frm_below0 hfr (Nat.le_trans H.b0 H.hb) H.f0), Nat.le_trans H.hb hfr.size, H.hz, H.hf, H.f0, H.b0⟩
  · obtain ⟨e1, cur, e2⟩ := H.hp.rows g hg
    exact k g e1 _ e2
  · obtain ⟨e1, cur, e2⟩ := H.bk.tk.oblk g hg
    exact k g e1 _ e2
theorem drop_iff (hi : Inv C F) (p : Int) : gdropP C.ks F p ↔ (0 < sizeI (kindL C.ks p) ∧ cellsI (kindL C.ks p) ≤ leftL C p) := by
  unfold gdropP
  rw [← rleft_eq hi]
  unfold rleft
  constructor
  · rintro ⟨h1, h2⟩; rw [if_pos h1]; exact ⟨h1, h2⟩
  · rintro ⟨h1, h2⟩; rw [if_pos h1] at h2; exact ⟨h1, h2⟩
set_option maxHeartbeats 8000000 in
set_option maxRecDepth 100000 in
theorem bstep5 (H0 : CR base b bk h C F ws w) (hN : C.ks.length = N) (hm : (bitsI C.ws).length ≤ m) (hb : base ≤ w.heap.size) (hf : ∀ x ∈ b.fp, x < base) (hB : B0 ≤ base) (hf0 : ∀ x ∈ b.fp, B0 ≤ x) (n x : Int) :
    Calls Tryd.prog 20 #[.pointer (some ⟨bk, 0, none⟩), .pointer (some ⟨b.c, 0, none⟩), .agg #[.int .i64 5, .int .i64 n, .int .i64 x]] w fun e w' => e = .returned (.bool true) ∧ CRE base b bk h N m w' ∧ Below B0 w w' := by
  obtain ⟨kv, tv, fv, S, bc0, -, -, -, -⟩ := st1_start (B0 := B0) H0 hb hf hB hf0 5 n x
  have HI := Lib.hid H0.inv
  have HW := Lib.hid H0.wd
  have HNN := Lib.hid hN
  have HMM := Lib.hid hm
  replace S : Hid (St1 base b bk h B0 C C F ws 5 n x w (w.alloc (.cells #[.int .i64 5, .int .i64 n, .int .i64 x] 28)) kv tv fv) := Lib.hid S
  clear hb hf hB hf0 H0 hN hm
  by_cases hd : gdropP C.ks F n
  · obtain ⟨h1, h2⟩ := (drop_iff HI.out n).1 hd
    obtain ⟨p0, p1⟩ := small_in h1
    obtain ⟨q, rfl⟩ := Int.eq_ofNat_of_zero_le p0
    have hq : q < C.ks.length := by omega
    have hkq := h1
    rw [kindL_in hq] at hkq
    have hk : 1 ≤ C.ks.getD q 0 ∧ C.ks.getD q 0 ≤ 4 := by
      apply Decidable.byContradiction; intro hc
      rw [sizeI_zero (by omega)] at hkq; omega
    have hcl : cellsI (C.ks.getD q 0) ≤ ((F q).length : Int) := by
      have := hd.2
      rwa [kindL_in hq, Int.toNat_natCast] at this
    obtain ⟨e1, -, e3⟩ := drop_kept HI.out hq hk.1 hk.2 hcl
    have HD := Lib.hid hd
    have H1 := Lib.hid h1
    have H2 := Lib.hid h2
    have HI2 := Lib.hid (inv_drop HI.out hq hk.1 hk.2 (by rw [← kindL_in hq]; exact h2))
    have HKP := Lib.hid e3
    have HKS := Lib.hid (show setL C.ks q 1 0 = freeL C.ks q by rw [e1, setL_fill])
    have HN2 := Lib.hid (show (freeL C.ks q).length = N by rw [freeL_len]; exact HNN.out)
    clear hd h1 h2 p0 p1 hq hkq hk hcl e1 e3
    go_enter Tryd.func20, Tryd.ntmps20
    go_wp2_with fail
    generalize w.alloc (.cells #[.int .i64 5, .int .i64 (q : Int), .int .i64 x] 28) = W0 at S ⊢
    have S0 := Lib.hid (S.out.below (Below.refl W0.heap.size W0).drew)
    obtain ⟨zc0, zc1, zc2, bd0, bd1⟩ := S0.out.cells
    go_region_held3 (fun W => W.cell? ⟨bk, 0, none⟩ = some (.pointer (some ⟨h, 0, none⟩)) ∧ W.cell? ⟨w.heap.size, 1, none⟩ = some (.int .i64 (q : Int)))
      (first
        | exact ⟨bd0, zc1⟩
        | (go_split_ands; exact ⟨by assumption, by assumption⟩))
      (first
        | (go_at_call 13; refine (cdrop_yes S0.out.cx _ H1.out H2.out).mono ?_; rintro e w1 ⟨rfl, hx, hfr⟩; have hs := S0.out.call hx hfr; obtain ⟨-, y1, -, y3, -⟩ := hs.cells; have S1 := Lib.hid hs; clear hx hfr hs)
        | (go_at_call 59; refine (gdrop_yes S1.out.hp S1.out.hb q HD.out).mono ?_; rw [HKS.out]; rintro e w2 ⟨rfl, he, hfr⟩; obtain ⟨kv3, tv3, fv3, q1, q2, -, -, -, -, q7⟩ := S1.out.ref2 he hfr; have u1 := (op_cells q7).2.1; have u3 := q2.cells.1; obtain ⟨hr, hl⟩ := S1.out.ref HI2.out he hfr rfl (HW.out.keep (fun a ha => ha) HKP.out); have R3 := Lib.hid hr; have L3 := Lib.hid hl; clear he hfr q1 q2 q7 hr hl))
    go_wp2_with fail
    go_ret
    exact ⟨rfl, ⟨_, _, _, R3.out, HN2.out, HMM.out⟩, L3.out⟩
  · have h1 := fun c => hd ((drop_iff HI.out n).2 c)
    have HD := Lib.hid hd
    have H1 := Lib.hid h1
    clear hd h1
    go_enter Tryd.func20, Tryd.ntmps20
    go_wp2_with fail
    generalize w.alloc (.cells #[.int .i64 5, .int .i64 n, .int .i64 x] 28) = W0 at S ⊢
    have S0 := Lib.hid (S.out.below (Below.refl W0.heap.size W0).drew)
    obtain ⟨zc0, zc1, zc2, bd0, bd1⟩ := S0.out.cells
    go_region_held3 (fun W => W.cell? ⟨bk, 0, none⟩ = some (.pointer (some ⟨h, 0, none⟩)) ∧ W.cell? ⟨w.heap.size, 1, none⟩ = some (.int .i64 n))
      (first
        | exact ⟨bd0, zc1⟩
        | (go_split_ands; exact ⟨by assumption, by assumption⟩))
      (first
        | (go_at_call 13; refine (cdrop_no S0.out.cx _ H1.out).mono ?_; rintro e w1 ⟨rfl, hbl⟩; have hs := S0.out.below hbl; obtain ⟨-, y1, -, y3, -⟩ := hs.cells; have S1 := Lib.hid hs; clear hbl hs)
        | (go_at_call 59; refine (gdrop_no S1.out.hp _ HD.out).mono ?_; rintro e w2 ⟨rfl, hbl⟩; have hs := S1.out.below hbl; obtain ⟨-, u1, -, u3, -⟩ := hs.cells; have S2 := Lib.hid hs; clear hbl hs))
    go_wp2_with fail
    go_ret
    exact ⟨rfl, ⟨_, _, _, S2.out.whole HI.out HW.out, HNN.out, HMM.out⟩, S2.out.bl⟩
end
end Go.Proofs.YtfocdbflmodfhaaDoor

/- The law's book: step, a word stored; a question. -/
namespace Go.Proofs.YtfocdbflmodfhaaDoor
open Go.RowKit

section
variable {base bk h B0 N m : Nat} {b : Bl} {w w' : World} {C C' : Cs} {ks ts ws : List Int} {F F' : Nat → List Int}
theorem St1.word {W : World} {k n x : Int} {kv tv : Value} {fv : List Value} (H : St1 base b bk h B0 C C F ws k n x w W kv tv fv) (y : Nat) (v : Int) : St1 base b bk h B0 C C F (ws.set y v) k n x w (W.setCell ⟨bk, 2 + y, none⟩ (.int .i64 v)) kv tv fv := by
  have o : ∀ g, g ≠ bk → (W.setCell ⟨bk, 2 + y, none⟩ (.int .i64 v)).heap[g]? = W.heap[g]? := fun g hne => heap_setCell_other _ _ _ _ (fun e => hne e)
  have hs : (W.setCell ⟨bk, 2 + y, none⟩ (.int .i64 v)).heap.size = W.heap.size := by simp [World.setCell]
  refine ⟨H.cx.keep fun g hg => o g (fun e => by have := H.hf g hg; have := H.bk.own; omega), H.hp.other H.bk.hd (by decide) (by decide) o, H.bk.setWord v, H.sp, (o _ fun e => ?_).trans H.z, H.bl.setCell (p := ⟨bk, 2 + y, none⟩) (Nat.le_trans H.b0 H.bk.own) _, by rw [hs]; exact H.hb, H.hz, H.hf, H.f0, H.b0⟩
  have hz := H.z
  rw [e, H.bk.hd] at hz
  simp only [opC, Option.some.injEq, Obj.cells.injEq] at hz
  exact absurd hz.2.1 (by decide)
theorem bits_bd (hi : Inv C F) : ∀ x ∈ bitsI C.ws, 0 ≤ x ∧ x < 2048 := by
  intro x hx
  obtain ⟨a, ha, rfl⟩ := mem_bitsI.1 hx
  have := (bits_lt hi ha).1
  have := hi.le
  omega
set_option maxHeartbeats 8000000 in
set_option maxRecDepth 100000 in
theorem bstep6 (H0 : CR base b bk h C F ws w) (hN : C.ks.length = N) (hm : (bitsI C.ws).length ≤ m) (hb : base ≤ w.heap.size) (hf : ∀ x ∈ b.fp, x < base) (hB : B0 ≤ base) (hf0 : ∀ x ∈ b.fp, B0 ≤ x) (n x : Int) :
    Calls Tryd.prog 20 #[.pointer (some ⟨bk, 0, none⟩), .pointer (some ⟨b.c, 0, none⟩), .agg #[.int .i64 6, .int .i64 n, .int .i64 x]] w fun e w' => e = .returned (.bool true) ∧ CRE base b bk h N m w' ∧ Below B0 w w' := by
  obtain ⟨kv, tv, fv, S, bc0, -, -, -, -⟩ := st1_start (B0 := B0) H0 hb hf hB hf0 6 n x
  have HI := Lib.hid H0.inv
  have HW := Lib.hid H0.wd
  have HNN := Lib.hid hN
  have HMM := Lib.hid hm
  replace S : Hid (St1 base b bk h B0 C C F ws 6 n x w (w.alloc (.cells #[.int .i64 6, .int .i64 n, .int .i64 x] 28)) kv tv fv) := Lib.hid S
  have HBB := Lib.hid (bbase_eq HI.out n)
  have HBD := Lib.hid (bits_bd HI.out)
  clear hb hf hB hf0 H0 hN hm
  by_cases h0 : 0 ≤ baseC C n
  · obtain ⟨a, y, rfl, ha, y1, y2, y3⟩ := base_in_mem HI.out h0
    have hyl : y < 2048 := by have := HI.out.len; have := HI.out.le; omega
    have HY := Lib.hid hyl
    have HI2 := Lib.hid (inv_store HI.out ha y1 y2 x)
    have HWS := Lib.hid (store_ws HI.out HW.out (S.out.bk.wl) y x)
    have HSB := Lib.hid (show storeB C (y : Int) = true by unfold storeB fitB; simp; omega)
    have HSC := Lib.hid (show storeC C (y : Int) x = { C with xs := putL C.xs y x } by unfold storeC; rw [if_pos h0])
    obtain ⟨bb, hbb⟩ : ∃ bb, bb = baseC C (y : Int) := ⟨_, rfl⟩
    have HB2 := Lib.hid (show bbase C.ks (bitsI C.ws) (y : Int) = bb by rw [HBB.out, hbb])
    have hd : decide (0 ≤ bb) = true := by rw [hbb]; simpa using h0
    have z0 : (0 : Int) ≤ (y : Int) := by omega
    have z1 : (y : Int) < 2048 := by omega
    clear h0 ha y1 y2 y3 hyl hbb HBB
    go_enter Tryd.func20, Tryd.ntmps20
    go_wp2_with (go_at_call 60; refine (bbase_any S.out.hp S.out.bk HBD.out _).mono ?_; rw [HB2.out]; rintro e w1 ⟨rfl, hbl⟩; have hs := S.out.below hbl; obtain ⟨u0, u1, u2, u3, u4⟩ := hs.cells; have f1 := hs.bk.frozen (2 + y); have d1 := hs.bk.cells.2.2 y HY.out; have S1 := Lib.hid hs; clear hbl hs)
    refine region_tail 8 (by kernel_rfl) (by kernel_rfl) ?_
    simp only [List.take_succ_cons, List.take_zero, List.drop_succ_cons, List.drop_zero]
    repeat still_step
    refine wpStill_nil ?_
    have hs := (S1.out.word y x).below (Below.refl _ _).drew
    obtain ⟨v0, v1, v2, v3, v4⟩ := hs.cells
    have S2 := Lib.hid hs
    clear hs
    go_wp2_with (go_at_call 24; refine (cstore_any S2.out.cx _ _).mono ?_; rw [HSB.out, HSC.out]; rintro e w3 ⟨rfl, hx, hfr⟩; have S3 := Lib.hid (S2.out.call hx hfr); clear hx hfr)
    go_ret
    have S4 := S3.out
    exact ⟨rfl, ⟨_, _, _, ⟨S4.cx, HI2.out, ⟨kv, fv, tv, S4.hp, S4.bk, S4.sp⟩, HWS.out⟩, HNN.out, HMM.out⟩, S4.bl⟩
  · obtain ⟨bb, hbb⟩ : ∃ bb, bb = baseC C n := ⟨_, rfl⟩
    have HB2 := Lib.hid (show bbase C.ks (bitsI C.ws) n = bb by rw [HBB.out, hbb])
    have hd : decide (0 ≤ bb) = false := by rw [hbb]; simpa using h0
    have HSB := Lib.hid (show storeB C n = false by unfold storeB; simp [h0])
    have HSC := Lib.hid (show storeC C n x = C by unfold storeC; rw [if_neg h0])
    clear h0 hbb HBB
    go_enter Tryd.func20, Tryd.ntmps20
    go_wp2_with (first
      | (go_at_call 60; refine (bbase_any S.out.hp S.out.bk HBD.out _).mono ?_; rw [HB2.out]; rintro e w1 ⟨rfl, hbl⟩; have hs := S.out.below hbl; obtain ⟨u0, u1, u2, u3, u4⟩ := hs.cells; have S1 := Lib.hid hs; clear hbl hs)
      | (go_at_call 24; refine (cstore_any S1.out.cx _ _).mono ?_; rw [HSB.out, HSC.out]; rintro e w3 ⟨rfl, hx, hfr⟩; have S3 := Lib.hid (S1.out.call hx hfr); clear hx hfr))
    go_ret
    exact ⟨rfl, ⟨_, _, _, S3.out.whole HI.out HW.out, HNN.out, HMM.out⟩, S3.out.bl⟩
set_option maxHeartbeats 8000000 in
set_option maxRecDepth 100000 in
theorem bstep7 (H0 : CR base b bk h C F ws w) (hN : C.ks.length = N) (hm : (bitsI C.ws).length ≤ m) (hb : base ≤ w.heap.size) (hf : ∀ x ∈ b.fp, x < base) (hB : B0 ≤ base) (hf0 : ∀ x ∈ b.fp, B0 ≤ x) (k n x : Int) (hk : k < 1 ∨ 6 < k) :
    Calls Tryd.prog 20 #[.pointer (some ⟨bk, 0, none⟩), .pointer (some ⟨b.c, 0, none⟩), .agg #[.int .i64 k, .int .i64 n, .int .i64 x]] w fun e w' => e = .returned (.bool true) ∧ CRE base b bk h N m w' ∧ Below B0 w w' := by
  obtain ⟨kv, tv, fv, S, -, -, -, -, -⟩ := st1_start (B0 := B0) H0 hb hf hB hf0 k n x
  have HI := Lib.hid H0.inv
  have HW := Lib.hid H0.wd
  have HNN := Lib.hid hN
  have HMM := Lib.hid hm
  obtain ⟨A, cap, rfl, -⟩ := S.bk.tk.slice
  obtain ⟨A2, cap2, rfl, -⟩ := S.hp.kr.slice
  obtain ⟨L, hL⟩ : ∃ L, L = (bitsI C.ws).length := ⟨_, rfl⟩
  rw [← hL] at S
  have HL := Lib.hid (show L ≤ 1000000 by have := S.bk.tl; omega)
  replace S : Hid (St1 base b bk h B0 C C F ws k n x w (w.alloc (.cells #[.int .i64 k, .int .i64 n, .int .i64 x] 28)) (.slice A2 C.ks.length cap2) (.slice A L cap) fv) := Lib.hid S
  have HBB := Lib.hid (bbase_eq HI.out n)
  have HBD := Lib.hid (bits_bd HI.out)
  have HHI := Lib.hid (has_iff HI.out n)
  have HRL := Lib.hid (rleft_eq HI.out n)
  have k4 : (k == 4) = false := by simp; omega
  have k5 : (k == 5) = false := by simp; omega
  have k6 : (k == 6) = false := by simp; omega
  clear hb hf hB hf0 H0 hN hm hL
  have hk2 : decide (1 ≤ k) = false ∨ (decide (1 ≤ k) = true ∧ decide (k ≤ 3) = false) := by
    rcases hk with hk | hk
    · left; simp; omega
    · right; constructor <;> simp <;> omega
  clear hk
  rcases hk2 with kd | ⟨kd, kd2⟩
  all_goals
    go_enter Tryd.func20, Tryd.ntmps20
    go_wp2_with fail
    generalize w.alloc (.cells #[.int .i64 k, .int .i64 n, .int .i64 x] 28) = W0 at S ⊢
    have S0 := Lib.hid (S.out.below (Below.refl W0.heap.size W0).drew)
    obtain ⟨zc0, zc1, zc2, bd0, bd1⟩ := S0.out.cells
    have hd0 := S0.out.hp.cells.1
    go_region_held3 (fun W => W.cell? ⟨bk, 0, none⟩ = some (.pointer (some ⟨h, 0, none⟩)) ∧ W.cell? ⟨bk, 1, none⟩ = some (.slice A L cap) ∧ W.cell? ⟨h, 0, none⟩ = some (.slice A2 C.ks.length cap2) ∧ W.cell? ⟨w.heap.size, 1, none⟩ = some (.int .i64 n) ∧ St1 base b bk h B0 C C F ws k n x w W (.slice A2 C.ks.length cap2) (.slice A L cap) fv)
      (first
        | exact ⟨bd0, bd1, hd0, zc1, S0.out⟩
        | (go_split_ands; exact ⟨by assumption, by assumption, by assumption, by assumption, by assumption⟩)
        | (go_split_ands; have hs6 := St1.below (by assumption) hb5; exact ⟨hs6.cells.2.2.2.1, hs6.cells.2.2.2.2, hs6.hp.cells.1, hs6.cells.2.1, hs6⟩))
      (first
        | (go_split_ands; go_at_call 23; (with_reducible refine (cisa_any (St1.cx (by assumption)) _).mono ?_); rw [HHI.out]; rintro e w5 ⟨rfl, rfl⟩)
        | (go_split_ands; go_at_call 57; (refine (in_any (Bk.tk (St1.bk (by assumption))) _ HL.out).mono ?_); rintro e w5 ⟨rfl, rfl⟩)
        | (go_split_ands; go_at_call 17; (with_reducible refine (cbase_any (St1.cx (by assumption)) _).mono ?_); rintro e w5 ⟨rfl, hb5⟩)
        | (go_split_ands; go_at_call 60; (refine (bbase_any (St1.hp (by assumption)) (St1.bk (by assumption)) HBD.out _).mono ?_); rw [HBB.out]; rintro e w5 ⟨rfl, hb5⟩)
        | (go_split_ands; go_at_call 27; (with_reducible refine (cleft_any (St1.cx (by assumption)) _).mono ?_); rintro e w5 ⟨rfl, hb5⟩)
        | (go_split_ands; go_at_call 61; (refine (gleft_any (St1.hp (by assumption)) _).mono ?_); rw [HRL.out]; rintro e w5 ⟨rfl, hb5⟩)
        | (go_split_ands; go_at_call 16; (with_reducible refine (ckind_any (St1.cx (by assumption)) _).mono ?_); rintro e w5 ⟨rfl, hb5⟩)
        | (go_split_ands; go_at_call 62; (refine (fkind_any (Hp.kr (St1.hp (by assumption))) _).mono ?_); rintro e w5 ⟨rfl, rfl⟩))
    go_wp2_with fail
    go_split_ands
    go_ret
    exact ⟨rfl, ⟨_, _, _, St1.whole (by assumption) HI.out HW.out, HNN.out, HMM.out⟩, St1.bl (by assumption)⟩
end
end Go.Proofs.YtfocdbflmodfhaaDoor

/- Arguments, opened: a struct of whole numbers by value; a slice of octets. -/
namespace Go.Proofs.YtfocdbflmodfhaaDoor
open Go.ChangeShapes Go.WideShapes Go.ChangeAt Go.RowKit Go.Deep

section
variable {H : Type} {enc : TypeId × Value → H} {P : Program} {w : World} {base : Nat} {spare : Nat → Bool} {held : Bool}

theorem open_ints_struct {r : Reach} {b0 : Nat} {t : TypeId} {fs : Array Field} {v : Value} {d : DataW H} {p : List MemPlace} (hs : P.underlying t = some (.struct fs)) (hone : oneCellFields P fs = true) (hC : P.cellsOf t = fs.size)
    (hk : ∀ (i : Nat) (f : Field), fs[i]? = some f → P.underlying f.type = some (.int .i64))
    (hv : Value.okWide P w r b0 t v) (h : DataW.Trod enc P w base spare held t v d p) :
    ∃ xs : List Int, xs.length = fs.size ∧ v = .agg (xs.map (Value.int .i64)).toArray ∧ ∀ x ∈ xs, (Lit.int .i64 x).wf = true := by
  obtain ⟨cs, rfl, hsz⟩ := okWide_struct hs hv
  obtain ⟨fuel, hf⟩ := h
  obtain ⟨ys, n, _, _, _, hlen, hg⟩ := DataW.trod_struct hs hf
  have hcs : ∀ j, j < fs.size → ∃ x : Int, cs[j]? = some (.int .i64 x) ∧ (Lit.int .i64 x).wf = true := by
    intro j hj
    have hjs : fs[j]? = some fs[j] := Array.getElem?_eq_getElem hj
    obtain ⟨ho, hk1⟩ := hone_of hone j _ hjs
    have h1 := hg j _ hjs
    rw [ho, hk1] at h1
    have hys : ys[j]? = some (ys[j]'(by omega)) := List.getElem?_eq_getElem (by omega)
    rw [hys] at h1
    obtain ⟨x, e1, _, e3⟩ := DataW.trod_int (hk j _ hjs) h1
    refine ⟨x, ?_, e3⟩
    have hjc : j < cs.toList.length := by simp [hsz, hC]; exact hj
    have : ((Value.agg cs).cells.toList.drop j).take 1 = [cs.toList[j]] := by
      show (cs.toList.drop j).take 1 = _
      rw [List.drop_eq_getElem_cons hjc]; rfl
    rw [this] at e1
    have e2 : cs.toList[j] = Value.int .i64 x := by simpa using e1
    rw [← e2, ← Array.getElem?_toList, List.getElem?_eq_getElem hjc]
  refine ⟨cs.toList.map intOf, by simp [hsz, hC], ?_, ?_⟩
  · congr 1
    apply Array.ext
    · simp
    · intro i h1 h2
      obtain ⟨x, hx, _⟩ := hcs i (by rw [← hC, ← hsz]; exact h1)
      have : cs[i] = .int .i64 x := by rw [Array.getElem?_eq_getElem h1] at hx; simpa using hx
      simp [this, intOf]
  · intro x hx
    obtain ⟨u, hu, rfl⟩ := List.mem_map.1 hx
    obtain ⟨i, hi, rfl⟩ := List.getElem_of_mem hu
    have hi' : i < cs.size := by simpa using hi
    obtain ⟨x, hx, hwf⟩ := hcs i (by rw [← hC, ← hsz]; exact hi')
    have : cs.toList[i] = .int .i64 x := by rw [Array.getElem?_eq_getElem hi'] at hx; simpa using hx
    rw [this]; exact hwf

theorem open_bytes {r : Reach} {b0 : Nat} {t e : TypeId} {v : Value} {d : DataW H} {p : List MemPlace} (ht : P.underlying t = some (.slice e)) (he : P.underlying e = some (.int .u8)) (hc : P.cellsOf e = 1)
    (hv : Value.okWide P w r b0 t v) (h : DataW.Trod enc P w base spare held t v d p) :
    ∃ A n cap xs, v = .slice A n cap ∧ RdB w A n xs := by
  obtain ⟨a, n, cap, rfl⟩ := okWide_slice ht hv
  obtain ⟨fuel, hf⟩ := h
  rcases open_ints ht he hc hf with ⟨hcs, _⟩ | ⟨x, l, c, zs, hcs, _, hl, hm, hz, _, hcell, hwz⟩
  · simp [Value.cells] at hcs
    obtain ⟨rfl, rfl, rfl⟩ := hcs
    exact ⟨_, _, _, [], rfl, rfl, by omega, by simp, fun h0 => absurd h0 (by omega)⟩
  · simp [Value.cells] at hcs
    obtain ⟨rfl, rfl, rfl⟩ := hcs
    have hzl : n ≤ zs.length := by rw [hz]; split <;> omega
    refine ⟨_, n, cap, zs.take n, rfl, by simp; omega, ?_, ?_, fun h0 => ?_⟩
    · unfold maxLen at hm; omega
    · intro y hy
      have := hwz y (List.mem_of_mem_take hy)
      simp only [Lit.wf, Bool.and_eq_true, decide_eq_true_eq] at this
      exact ⟨this.1, this.2⟩
    · obtain ⟨b, off, spot⟩ := x
      have hspot : spot = none := by simpa [Addr.add] using World.cell?_spot (hcell 0 (by omega))
      subst hspot
      refine ⟨b, off, rfl, fun j hj => ?_⟩
      have := hcell j (by omega)
      rw [add_plain] at this
      rw [this]
      simp [List.getD_eq_getElem?_getD, hj]
end
end Go.Proofs.YtfocdbflmodfhaaDoor
