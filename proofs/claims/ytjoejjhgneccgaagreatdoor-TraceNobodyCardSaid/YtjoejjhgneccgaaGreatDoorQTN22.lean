/- A tracer: two fields, one by one (plain); the law's alive. -/
import Derived.Test.YtjoejjhgneccgaaGreatDoorQTN01
import Derived.Test.YtjoejjhgneccgaaGreatDoorQTN03
import Derived.Test.YtjoejjhgneccgaaGreatDoorQTN21
import Derived.Test.YtjoejjhgneccgaaGreatDoorRows
import Derived.KernelRfl
import Derived.ProofKit
import Derived.OpenShut
import Derived.ChangeOld
import Derived.SizedLaws
import Derived.Deep.Fields
import Derived.Lib.SmallJoins
import Derived.Lib.LaidTab
import Derived.Stop.LaidErr
import Derived.LaidMore
namespace Go.Proofs.YtjoejjhgneccgaaGreatDoor
open Go.RowKit

def ta1 : Sm := slowS (Sm.new 2 1) 0 2
def ta2 : Sm := slowS ta1 0 0
def ta3 : Sm := setS ta2 0 1 2 32
def tk1 : Gk := shadeK (Gk.new 4) 0
def tu1 : Gk × Trc := unitK ⟨ta3, tk1⟩ (Trc.new 2 1)
def tu2 : Gk × Trc := unitK ⟨ta3, tu1.1⟩ tu1.2
def tu3 : Gk × Trc := unitK ⟨ta3, tu2.1⟩ tu2.2
theorem ta_v1 : slowV (Sm.new 2 1) 0 2 = (0, 0) := by kernel_rfl
theorem ta_v2 : slowV ta1 0 0 = (32, 0) := by kernel_rfl
theorem ta_m1 : ta1.md = 1 := by kernel_rfl
theorem ta_b : mayB ta2 0 1 2 32 = true := by kernel_rfl
theorem tu_b1 : unitB ⟨ta3, tk1⟩ (Trc.new 2 1) = true := by kernel_rfl
theorem tu_b2 : unitB ⟨ta3, tu1.1⟩ tu1.2 = true := by kernel_rfl
theorem tu_b3 : unitB ⟨ta3, tu2.1⟩ tu2.2 = true := by kernel_rfl
theorem tu_b4 : unitB ⟨ta3, tu3.1⟩ tu3.2 = false := by kernel_rfl
theorem tu_m : hasB 2048 tu2.1.ws 32 = true := by kernel_rfl
theorem tu_i2 : idleB tu2.1 tu2.2 = false := by kernel_rfl
theorem tu_i3 : idleB tu3.1 tu3.2 = true := by kernel_rfl
theorem tu_p3 : tu3.2.page = -1 := by kernel_rfl
theorem tu_e1 : (unitK ⟨ta3, tk1⟩ (Trc.new 2 1)).1 = tu1.1 := rfl
theorem tu_e2 : (unitK ⟨ta3, tk1⟩ (Trc.new 2 1)).2 = tu1.2 := rfl
theorem tu_e3 : (unitK ⟨ta3, tu1.1⟩ tu1.2).1 = tu2.1 := rfl
theorem tu_e4 : (unitK ⟨ta3, tu1.1⟩ tu1.2).2 = tu2.2 := rfl
theorem tu_e5 : (unitK ⟨ta3, tu2.1⟩ tu2.2).1 = tu3.1 := rfl
theorem tu_e6 : (unitK ⟨ta3, tu2.1⟩ tu2.2).2 = tu3.2 := rfl
theorem ta_lt : ta1.md < 1000000 := by rw [ta_m1]; decide
theorem tu_4 : unitK ⟨ta3, tu3.1⟩ tu3.2 = tu3 := by unfold unitK; rw [if_pos tu_i3]
theorem tu_e7 : (unitK ⟨ta3, tu3.1⟩ tu3.2).1 = tu3.1 := by rw [tu_4]
theorem tu_e8 : (unitK ⟨ta3, tu3.1⟩ tu3.2).2 = tu3.2 := by rw [tu_4]
theorem sj_ta1 : SJ ta1 := (SJ.new (by decide) (by decide)).slow (by decide) 0 2
theorem sj_ta2 : SJ ta2 := sj_ta1.slow (by rw [ta_m1]; decide) 0 0
theorem SJ.set_any {S : Sm} (h : SJ S) (a i k n : Int) : SJ (setS S a i k n) := by
  cases hm : mayB S a i k n with
  | false => rw [(set_no hm).2]; exact h
  | true =>
    unfold mayB at hm
    rw [Bool.and_eq_true, beq_iff_eq] at hm
    obtain ⟨x, j, rfl, rfl, hx, hj⟩ := h.field.1 hm.2
    exact (h.set hx hj hm.1).2.1
theorem sj_ta3 : SJ ta3 := sj_ta2.set_any 0 1 2 32
/-- A tracer behind a call. -/
def TWs (B : Nat) (w0 w : World) (t : Nat) (b : Hb) (H : Hm) (T : Trc) : Prop := ∃ v, TX w t b v H T ∧ Lay B w0 w (txfp t b v)
section
variable {w w' w0 : World} {b : Hb} {t B : Nat} {H H' : Hm} {T T' : Trc}
theorem TWs.below (h : TWs B w0 w t b H T) (hb : Below w.heap.size w w') : TWs B w0 w' t b H T := by
  obtain ⟨v, h1, h2⟩ := h
  exact ⟨v, h1.below hb, h2.below hb⟩
theorem TWs.st {S' : Sm} (h : TWs B w0 w t b H T) (hx : StX w' b.st S') (hf : Frm b.st.fp w w') : TWs B w0 w' t b { H with S := S' } T := by
  obtain ⟨v, h1, h2⟩ := h
  obtain ⟨h3, h4⟩ := h1.hx.withSt hf hx
  obtain ⟨v', h5, h6⟩ := h1.withH ⟨v, h3, h4⟩
  exact ⟨v', h5, h2.turn h6⟩
theorem TWs.slow (h : TWs B w0 w t b H T) (sj : SJ H.S) (m : H.S.md < 1000000) (q n : Int) {r : Int × Int} (hr : slowV H.S q n = r) :
    Calls Tryz.prog 39 #[.pointer (some ⟨b.st.s, 0, none⟩), .int .i64 q, .int .i64 n] w fun e w' => e = .returned (.tuple #[.int .i64 r.1, .int .i64 r.2]) ∧ TWs B w0 w' t b { H with S := slowS H.S q n } T := by
  obtain ⟨v, h1, h2⟩ := h
  refine (sslow_any h1.hx.st sj.si q n sj.m0 m).mono ?_
  rintro e w' ⟨rfl, hx, hf⟩
  rw [← hr]
  exact ⟨rfl, TWs.st ⟨v, h1, h2⟩ hx hf⟩
theorem TWs.set (h : TWs B w0 w t b H T) (sj : SJ H.S) (a i k n : Int) {r : Bool} (hr : mayB H.S a i k n = r) :
    Calls Tryz.prog 42 #[.pointer (some ⟨b.st.s, 0, none⟩), .int .i64 a, .int .i64 i, .agg #[.int .i64 k, .int .i64 n]] w fun e w' => e = .returned (.bool r) ∧ TWs B w0 w' t b { H with S := setS H.S a i k n } T := by
  obtain ⟨v, h1, h2⟩ := h
  refine (sset_any h1.hx.st sj a i k n).mono ?_
  rintro e w' ⟨rfl, hx, hf⟩
  rw [← hr]
  exact ⟨rfl, TWs.st ⟨v, h1, h2⟩ hx hf⟩
theorem TWs.shade (h : TWs B w0 w t b H T) (a : Int) :
    Calls Tryz.prog 28 #[.pointer (some ⟨b.gk.g, 0, none⟩), .int .i64 a] w fun e w' => e = .returned (.bool (addB 2048 H.K.ws a)) ∧ TWs B w0 w' t b { H with K := shadeK H.K a } T := by
  obtain ⟨v, h1, h2⟩ := h
  refine (gkshade_any h1.hx.gk a).mono ?_
  rintro e w' ⟨rfl, hg⟩
  obtain ⟨v', h5, h6⟩ := h1.withH (h1.hx.withGk hg)
  exact ⟨rfl, v', h5, h2.turn h6⟩
theorem TWs.is (h : TWs B w0 w t b H T) (a : Int) {r : Bool} (hr : hasB 2048 H.K.ws a = r) :
    Calls Tryz.prog 57 #[.pointer (some ⟨b.gk.g, 0, none⟩), .int .i64 a] w fun e w' => e = .returned (.bool r) ∧ w = w' := by
  obtain ⟨v, h1, h2⟩ := h
  rw [← hr]
  exact gkis_any h1.hx.gk a
theorem TWs.idle (h : TWs B w0 w t b H T) {r : Bool} (hr : idleB H.K T = r) :
    Calls Tryz.prog 20 #[.pointer (some ⟨t, 0, none⟩)] w fun e w' => e = .returned (.bool r) ∧ TWs B w0 w' t b H T := by
  have hh := h
  obtain ⟨v, h1, h2⟩ := h
  refine (tidle_any h1).mono ?_
  rintro e w' ⟨rfl, hb⟩
  rw [← hr]
  exact ⟨rfl, hh.below hb⟩
theorem TWs.page (h : TWs B w0 w t b H T) {r : Int} (hr : T.page = r) :
    Calls Tryz.prog 21 #[.pointer (some ⟨t, 0, none⟩)] w fun e w' => e = .returned (.int .i64 r) ∧ w = w' := by
  obtain ⟨v, h1, h2⟩ := h
  rw [← hr]
  exact tpage_any h1
theorem TWs.unit (h : TWs B w0 w t b H T) (sj : SJ H.S) (ht : Tab64 w0) (hg : 0 < B) {r : Bool} (hr : unitB H T = r) {K' : Gk} (hK : (unitK H T).1 = K') (hT : (unitK H T).2 = T') :
    Calls Tryz.prog 19 #[.pointer (some ⟨t, 0, none⟩)] w fun e w' => e = .returned (.bool r) ∧ TWs B w0 w' t b { H with K := K' } T' := by
  obtain ⟨v, h1, h2⟩ := h
  have hl := h2.tab ht hg
  refine (tunit_any h1 sj hl.1 hl.2.1 hl.2.2).mono ?_
  rintro e w' ⟨rfl, v', hx, hTn⟩
  rw [hr, ← hK, ← hT]
  exact ⟨rfl, v', hx, h2.turn hTn⟩
theorem lay_made3 {w1 w2 w3 : World} {x : Nat} {st : Sl} {gb : Gb} {v : Value} (h : Lay B w0 w []) (b1 : Below w.heap.size w w1) (b2 : Below w1.heap.size w1 w2) (g1 : ∀ k ∈ stfp st, w.heap.size ≤ k) (g2 : ∀ k ∈ gkfp gb v, w1.heap.size ≤ k) (b3 : Below w2.heap.size w2 w3) (hx : w2.heap.size ≤ x) : Lay B w0 w3 (x :: hmfp ⟨st, gb⟩ v) := by
  have z1 := b1.size
  have z2 := b2.size
  have z0 := h.sz
  refine ⟨((h.below b1).below b2).bl.trans (b3.mono (by omega)), fun k hk => ?_, by have := b3.size; omega⟩
  rcases List.mem_cons.1 hk with rfl | hk
  · omega
  · rcases List.mem_append.1 hk with hk | hk
    · have := g1 k hk; omega
    · have := g2 k hk; omega
theorem trst_new (w : World) : Calls Tryz.prog 54 #[.int .i64 2, .int .i64 1] w fun e w' => NewS 2 1 w.heap.size e w' ∧ Below w.heap.size w w' := by
  have := stnew_any 2 1 w
  rwa [show (clampN 2 0 64).toNat = 2 by decide, show clampN 1 0 9 = 1 by decide] at this
set_option maxHeartbeats 4000000 in
set_option maxRecDepth 100000 in
theorem tralive_any (w : World) (ht : Tab64 w) (hg : 0 < w.heap.size) :
    Calls Tryz.prog 17 #[] w fun e w' => e = .returned (.bool true) ∧ Below w.heap.size w w' := by
  have HT := Lib.hid ht
  have HG := Lib.hid hg
  have L0 := Lib.hid (Lay.start w)
  clear ht hg
  go_enter Tryz.func17, Tryz.ntmps17
  go_wp2_with (first
    | (go_at_call 54; refine (trst_new _).mono ?_; rintro e w1 ⟨⟨st, rfl, hx, hf, hc⟩, hb⟩; have S1 := Lib.hid hx; have G1 := Lib.hid (stfp_ge hf hc); have B1 := Lib.hid hb; clear hx hf hc hb)
    | (go_at_call 55; refine (gknew_any 4 _).mono ?_; rintro e w2 ⟨⟨gb, rfl, hx, hf⟩, hb⟩; have X2 := Lib.hid (HX.made S1.out hb hx hf); have G2 := Lib.hid hf; have B2 := Lib.hid hb; clear hx hf hb)
    | (go_at_call 18; refine (tnew_any X2.out 2 1).mono ?_; rintro e w3 ⟨rfl, hx, hb⟩; have V0 := Lib.hid (show TWs w.heap.size w w3 w2.heap.size ⟨st, gb⟩ ⟨Sm.new 2 1, Gk.new 4⟩ (Trc.new 2 1) from ⟨_, hx, lay_made3 L0.out B1.out B2.out G1.out G2.out hb (Nat.le_refl _)⟩); clear hx hb)
    | (go_at_call 39; first
      | ((with_reducible refine (V0.out.slow (SJ.new (by decide) (by decide)) (by decide) 0 2 ta_v1).mono ?_); rintro e w4 ⟨rfl, hx⟩; have V1 := Lib.hid (show TWs w.heap.size w w4 w2.heap.size ⟨st, gb⟩ ⟨ta1, Gk.new 4⟩ (Trc.new 2 1) from hx); clear hx)
      | ((with_reducible refine (V1.out.slow sj_ta1 ta_lt 0 0 ta_v2).mono ?_); rintro e w5 ⟨rfl, hx⟩; have V2 := Lib.hid (show TWs w.heap.size w w5 w2.heap.size ⟨st, gb⟩ ⟨ta2, Gk.new 4⟩ (Trc.new 2 1) from hx); clear hx))
    | (go_at_call 42; (with_reducible refine (V2.out.set sj_ta2 0 1 2 32 ta_b).mono ?_); rintro e w6 ⟨rfl, hx⟩; have V3 := Lib.hid (show TWs w.heap.size w w6 w2.heap.size ⟨st, gb⟩ ⟨ta3, Gk.new 4⟩ (Trc.new 2 1) from hx); clear hx)
    | (go_at_call 28; (with_reducible refine (V3.out.shade 0).mono ?_); rintro e w7 ⟨rfl, hx⟩; have V4 := Lib.hid (show TWs w.heap.size w w7 w2.heap.size ⟨st, gb⟩ ⟨ta3, tk1⟩ (Trc.new 2 1) from hx); clear hx)
    | (go_at_call 19; first
      | ((with_reducible refine (V4.out.unit sj_ta3 HT.out HG.out tu_b1 tu_e1 tu_e2).mono ?_); rintro e w8 ⟨rfl, hx⟩; have V5 := Lib.hid (show TWs w.heap.size w w8 w2.heap.size ⟨st, gb⟩ ⟨ta3, tu1.1⟩ tu1.2 from hx); clear hx)
      | ((with_reducible refine (V5.out.unit sj_ta3 HT.out HG.out tu_b2 tu_e3 tu_e4).mono ?_); rintro e w9 ⟨rfl, hx⟩; have V6 := Lib.hid (show TWs w.heap.size w w9 w2.heap.size ⟨st, gb⟩ ⟨ta3, tu2.1⟩ tu2.2 from hx); clear hx)
      | ((with_reducible refine (V7.out.unit sj_ta3 HT.out HG.out tu_b3 tu_e5 tu_e6).mono ?_); rintro e w10 ⟨rfl, hx⟩; have V8 := Lib.hid (show TWs w.heap.size w w10 w2.heap.size ⟨st, gb⟩ ⟨ta3, tu3.1⟩ tu3.2 from hx); clear hx)
      | ((with_reducible refine (V9.out.unit sj_ta3 HT.out HG.out tu_b4 tu_e7 tu_e8).mono ?_); rintro e w11 ⟨rfl, hx⟩; have V10 := Lib.hid (show TWs w.heap.size w w11 w2.heap.size ⟨st, gb⟩ ⟨ta3, tu3.1⟩ tu3.2 from hx); clear hx))
    | (go_at_call 57; (with_reducible refine (V6.out.is 32 tu_m).mono ?_); rintro e w12 ⟨rfl, rfl⟩)
    | (go_at_call 20; first
      | ((with_reducible refine (V6.out.idle tu_i2).mono ?_); rintro e w13 ⟨rfl, hx⟩; have V7 := Lib.hid hx; clear hx)
      | ((with_reducible refine (V8.out.idle tu_i3).mono ?_); rintro e w14 ⟨rfl, hx⟩; have V9 := Lib.hid hx; clear hx))
    | (go_at_call 21; (with_reducible refine (V10.out.page tu_p3).mono ?_); rintro e w15 ⟨rfl, rfl⟩))
  go_ret
  obtain ⟨v, -, h2⟩ := V10.out
  exact ⟨rfl, h2.bl⟩
end
end Go.Proofs.YtjoejjhgneccgaaGreatDoor

/- A tracer that nobody made; one without a store and marks; the law TraceNobody. -/
namespace Go.Proofs.YtjoejjhgneccgaaGreatDoor
open Go.RowKit

theorem nsklen_any (w : World) : Calls Tryz.prog 135 #[.pointer none] w fun e w' => e = .returned (.int .i64 0) ∧ w = w' := by
  go_enter Tryz.func135, Tryz.ntmps135
  go_wp2_with fail
  go_ret
  exact ⟨rfl, rfl⟩
theorem nskover_any (w : World) : Calls Tryz.prog 169 #[.pointer none] w fun e w' => e = .returned (.bool false) ∧ w = w' := by
  go_enter Tryz.func169, Tryz.ntmps169
  go_wp2_with fail
  go_ret
  exact ⟨rfl, rfl⟩
theorem nwtwaiting_any (w : World) : Calls Tryz.prog 81 #[.agg #[.pointer none]] w fun e w' => e = .returned (.int .i64 0) ∧ Below w.heap.size w w' := by
  go_enter Tryz.func81, Tryz.ntmps81
  go_wp2_with (go_at_call 135; refine (nsklen_any _).mono ?_; rintro e w1 ⟨rfl, rfl⟩)
  go_ret
  exact ⟨rfl, below_alloc0 _ _⟩
theorem nwtover_any (w : World) : Calls Tryz.prog 119 #[.agg #[.pointer none]] w fun e w' => e = .returned (.bool false) ∧ Below w.heap.size w w' := by
  go_enter Tryz.func119, Tryz.ntmps119
  go_wp2_with (go_at_call 169; refine (nskover_any _).mono ?_; rintro e w1 ⟨rfl, rfl⟩)
  go_ret
  exact ⟨rfl, below_alloc0 _ _⟩
theorem ngknone_any (w : World) : Calls Tryz.prog 80 #[.pointer none] w fun e w' => e = .returned (.pointer (some ⟨w.heap.size, 0, none⟩)) ∧ w' = w.alloc (.cells #[.pointer none] 135) := by
  go_enter Tryz.func80, Tryz.ntmps80
  go_wp2_with fail
  go_ret
  exact ⟨rfl, rfl⟩
theorem ngkwaiting_any (w : World) : Calls Tryz.prog 32 #[.pointer none] w fun e w' => e = .returned (.int .i64 0) ∧ Below w.heap.size w w' := by
  go_enter Tryz.func32, Tryz.ntmps32
  go_wp2_with (first
    | (go_at_call 80; refine (ngknone_any _).mono ?_; rintro e w1 ⟨rfl, rfl⟩)
    | (go_at_call 81; refine (nwtwaiting_any _).mono ?_; rintro e w2 ⟨rfl, hb⟩; have B2 := Lib.hid (below_next (below_alloc0 w _) hb); clear hb))
  go_ret
  exact ⟨rfl, B2.out⟩
theorem ngkover_any (w : World) : Calls Tryz.prog 65 #[.pointer none] w fun e w' => e = .returned (.bool false) ∧ Below w.heap.size w w' := by
  go_enter Tryz.func65, Tryz.ntmps65
  go_wp2_with (first
    | (go_at_call 80; refine (ngknone_any _).mono ?_; rintro e w1 ⟨rfl, rfl⟩)
    | (go_at_call 119; refine (nwtover_any _).mono ?_; rintro e w2 ⟨rfl, hb⟩; have B2 := Lib.hid (below_next (below_alloc0 w _) hb); clear hb))
  go_ret
  exact ⟨rfl, B2.out⟩
/-- None at all. -/
theorem ntis_any (w : World) : Calls Tryz.prog 64 #[.pointer none] w fun e w' => e = .returned (.bool false) ∧ w = w' := by
  go_enter Tryz.func64, Tryz.ntmps64
  go_wp2_with fail
  go_ret
  exact ⟨rfl, rfl⟩
theorem ntpage_any (w : World) : Calls Tryz.prog 21 #[.pointer none] w fun e w' => e = .returned (.int .i64 (-1)) ∧ w = w' := by
  go_enter Tryz.func21, Tryz.ntmps21
  go_wp2_with (go_at_call 64; refine (ntis_any _).mono ?_; rintro e w1 ⟨rfl, rfl⟩)
  go_ret
  exact ⟨rfl, rfl⟩
theorem ntidle_any (w : World) : Calls Tryz.prog 20 #[.pointer none] w fun e w' => e = .returned (.bool true) ∧ Below w.heap.size w w' := by
  go_enter Tryz.func20, Tryz.ntmps20
  go_wp2_with (go_at_call 64; refine (ntis_any _).mono ?_; rintro e w1 ⟨rfl, rfl⟩)
  go_ret
  exact ⟨rfl, Below.refl _ _⟩
theorem ntunit_any (w : World) : Calls Tryz.prog 19 #[.pointer none] w fun e w' => e = .returned (.bool false) ∧ Below w.heap.size w w' := by
  go_enter Tryz.func19, Tryz.ntmps19
  go_wp2_with (go_at_call 20; refine (ntidle_any _).mono ?_; rintro e w1 ⟨rfl, hb⟩; have B1 := Lib.hid hb; clear hb)
  go_ret
  exact ⟨rfl, B1.out⟩
/-- A tracer without a store and marks. -/
def ZT (w : World) (t : Nat) (p c g : Int) : Prop := w.heap[t]? = some (.cells #[.pointer none, .pointer none, .int .i64 p, .int .i64 c, .int .i64 g] 33 (0, 0))
section
variable {w w' : World} {t : Nat} {p c g : Int}
theorem ZT.below (h : ZT w t p c g) (hb : Below w.heap.size w w') : ZT w' t p c g := keep hb h
theorem ZT.cells (h : ZT w t p c g) : w.cell? ⟨t, 1, none⟩ = some (.pointer none) ∧ w.cell? ⟨t, 2, none⟩ = some (.int .i64 p) ∧ w.cell? ⟨t, 4, none⟩ = some (.int .i64 g) :=
  ⟨cell_of_row _ _ _ _ _ _ h, cell_of_row _ _ _ _ _ _ h, cell_of_row _ _ _ _ _ _ h⟩
theorem ztis_any (h : ZT w t p c g) (d : Bool) (hd : decide (0 < p) = d) :
    Calls Tryz.prog 64 #[.pointer (some ⟨t, 0, none⟩)] w fun e w' => e = .returned (.bool d) ∧ w = w' := by
  obtain ⟨-, c2, -⟩ := h.cells
  clear h
  cases d
  all_goals
    go_enter Tryz.func64, Tryz.ntmps64
    go_wp2_with fail
    go_ret
    exact ⟨rfl, rfl⟩
/-- One that has nothing to do. -/
def IdleZ (p g : Int) : Prop := decide (0 < p) = false ∨ (decide (0 < p) = true ∧ g = -1)
theorem ztpage_any (h : ZT w t p c g) (hi : IdleZ p g) :
    Calls Tryz.prog 21 #[.pointer (some ⟨t, 0, none⟩)] w fun e w' => e = .returned (.int .i64 (-1)) ∧ w = w' := by
  have HH := Lib.hid h
  obtain ⟨-, -, c4⟩ := h.cells
  clear h
  rcases hi with hd | ⟨hd, rfl⟩
  · have HD := Lib.hid hd
    clear hd
    go_enter Tryz.func21, Tryz.ntmps21
    go_wp2_with (go_at_call 64; refine (ztis_any HH.out false HD.out).mono ?_; rintro e w1 ⟨rfl, rfl⟩)
    go_ret
    exact ⟨rfl, rfl⟩
  · have HD := Lib.hid hd
    clear hd
    go_enter Tryz.func21, Tryz.ntmps21
    go_wp2_with (go_at_call 64; refine (ztis_any HH.out true HD.out).mono ?_; rintro e w1 ⟨rfl, rfl⟩)
    go_ret
    exact ⟨rfl, rfl⟩
theorem ztidle_any (h : ZT w t p c g) (hi : IdleZ p g) :
    Calls Tryz.prog 20 #[.pointer (some ⟨t, 0, none⟩)] w fun e w' => e = .returned (.bool true) ∧ Below w.heap.size w w' := by
  have HH := Lib.hid h
  obtain ⟨c1, -, c4⟩ := h.cells
  clear h
  rcases hi with hd | ⟨hd, rfl⟩
  · have HD := Lib.hid hd
    clear hd
    go_enter Tryz.func20, Tryz.ntmps20
    go_wp2_with (go_at_call 64; refine (ztis_any HH.out false HD.out).mono ?_; rintro e w1 ⟨rfl, rfl⟩)
    go_ret
    exact ⟨rfl, Below.refl _ _⟩
  · have HD := Lib.hid hd
    clear hd
    go_enter Tryz.func20, Tryz.ntmps20
    go_wp2_with (first
      | (go_at_call 64; refine (ztis_any HH.out true HD.out).mono ?_; rintro e w1 ⟨rfl, rfl⟩)
      | (go_at_call 32; refine (ngkwaiting_any _).mono ?_; rintro e w1 ⟨rfl, hb⟩; have d1 := (HH.out.below hb).cells.1; have d4 := (HH.out.below hb).cells.2.2; have B1 := Lib.hid hb; clear hb)
      | (go_at_call 65; refine (ngkover_any _).mono ?_; rintro e w2 ⟨rfl, hb⟩; have B2 := Lib.hid (below_next B1.out hb); clear hb))
    go_ret
    exact ⟨rfl, B2.out⟩
theorem ztunit_any (h : ZT w t p c g) (hi : IdleZ p g) :
    Calls Tryz.prog 19 #[.pointer (some ⟨t, 0, none⟩)] w fun e w' => e = .returned (.bool false) ∧ Below w.heap.size w w' := by
  have HH := Lib.hid h
  have HI := Lib.hid hi
  clear h hi
  go_enter Tryz.func19, Tryz.ntmps19
  go_wp2_with (go_at_call 20; refine (ztidle_any HH.out HI.out).mono ?_; rintro e w1 ⟨rfl, hb⟩; have B1 := Lib.hid hb; clear hb)
  go_ret
  exact ⟨rfl, B1.out⟩
def ZtNew (B : Nat) (e : Ending) (w' : World) : Prop := ∃ t p c : Int, e = .returned (.pointer (some ⟨B, 0, none⟩)) ∧ ZT w' B p c (-1) ∧ IdleZ p t ∧ t = -1
theorem ztnew_any (w : World) (pages chunk : Int) :
    Calls Tryz.prog 18 #[.pointer none, .pointer none, .int .i64 pages, .int .i64 chunk] w fun e w' => ZtNew w.heap.size e w' ∧ Below w.heap.size w w' := by
  have hp := clampN_bd (a := pages) (lo := 1) (hi := 64) (by omega)
  obtain ⟨p, hpe⟩ : ∃ p, p = clampN pages 1 64 := ⟨_, rfl⟩
  obtain ⟨c, hc⟩ : ∃ c, c = clampN chunk 1 16 := ⟨_, rfl⟩
  rw [← hpe] at hp
  have HP := Lib.hid hpe
  have HC := Lib.hid hc
  have HD := Lib.hid (show decide (0 < p) = true by rw [decide_eq_true_eq]; omega)
  clear hp hpe hc
  go_enter Tryz.func18, Tryz.ntmps18
  go_wp2_with (first
    | (go_at_call 58; (with_reducible refine (clampn_any pages 1 64 _).mono ?_); rw [← HP.out]; rintro e w1 ⟨rfl, rfl⟩)
    | (go_at_call 58; (with_reducible refine (clampn_any chunk 1 16 _).mono ?_); rw [← HC.out]; rintro e w1 ⟨rfl, rfl⟩))
  go_ret
  exact ⟨⟨-1, p, c, rfl, heap_alloc_new _ _, .inr ⟨HD.out, rfl⟩, rfl⟩, below_alloc0 _ _⟩
set_option maxHeartbeats 4000000 in
set_option maxRecDepth 100000 in
theorem traceNobody_any (n m : Int) (w : World) (ht : Tab64 w) (hg : 0 < w.heap.size) :
    Calls Tryz.prog 4 #[.int .i64 n, .int .i64 m] w fun e w' => e = .returned (.bool true) ∧ Below w.heap.size w w' := by
  have HT := Lib.hid ht
  have HG := Lib.hid hg
  have HU := Lib.hid (show IdleZ 0 0 from .inl (by decide))
  clear ht hg
  go_enter Tryz.func4, Tryz.ntmps4
  go_wp2_with (first
    | (go_at_call 17; refine (tralive_any _ HT.out HG.out).mono ?_; rintro e w1 ⟨rfl, hb⟩; have B1 := Lib.hid hb; clear hb)
    | (go_at_call 18; refine (ztnew_any _ n m).mono ?_; rintro e w2 ⟨⟨q, p, c, rfl, hx, hi, rfl⟩, hb⟩; have hz := heap_one w1 (.cells #[.pointer none, .pointer none, .int .i64 0, .int .i64 0, .int .i64 0] 33); have U := Lib.hid (show ZT w2 w1.heap.size 0 0 0 from keep hb (heap_alloc_new w1 (.cells #[.pointer none, .pointer none, .int .i64 0, .int .i64 0, .int .i64 0] 33))); rw [← hz] at hx; have V := Lib.hid hx; have HV := Lib.hid hi; have B := Lib.hid (below_next (below_next B1.out (below_alloc0 w1 _)) hb); clear hx hb hz hi)
    | (go_at_call 19; first
      | ((with_reducible refine (ntunit_any _).mono ?_); rintro e w9 ⟨rfl, hb⟩; have U := Lib.hid (U.out.below hb); have V := Lib.hid (V.out.below hb); have B := Lib.hid (below_next B.out hb); clear hb)
      | ((with_reducible refine (ztunit_any U.out HU.out).mono ?_); rintro e w9 ⟨rfl, hb⟩; have U := Lib.hid (U.out.below hb); have V := Lib.hid (V.out.below hb); have B := Lib.hid (below_next B.out hb); clear hb)
      | ((with_reducible refine (ztunit_any V.out HV.out).mono ?_); rintro e w9 ⟨rfl, hb⟩; have U := Lib.hid (U.out.below hb); have V := Lib.hid (V.out.below hb); have B := Lib.hid (below_next B.out hb); clear hb))
    | (go_at_call 20; first
      | ((with_reducible refine (ntidle_any _).mono ?_); rintro e w9 ⟨rfl, hb⟩; have U := Lib.hid (U.out.below hb); have V := Lib.hid (V.out.below hb); have B := Lib.hid (below_next B.out hb); clear hb)
      | ((with_reducible refine (ztidle_any U.out HU.out).mono ?_); rintro e w9 ⟨rfl, hb⟩; have U := Lib.hid (U.out.below hb); have V := Lib.hid (V.out.below hb); have B := Lib.hid (below_next B.out hb); clear hb)
      | ((with_reducible refine (ztidle_any V.out HV.out).mono ?_); rintro e w9 ⟨rfl, hb⟩; have U := Lib.hid (U.out.below hb); have V := Lib.hid (V.out.below hb); have B := Lib.hid (below_next B.out hb); clear hb))
    | (go_at_call 21; first
      | ((with_reducible refine (ntpage_any _).mono ?_); rintro e w9 ⟨rfl, rfl⟩)
      | ((with_reducible refine (ztpage_any U.out HU.out).mono ?_); rintro e w9 ⟨rfl, rfl⟩)
      | ((with_reducible refine (ztpage_any V.out HV.out).mono ?_); rintro e w9 ⟨rfl, rfl⟩)))
  go_ret
  exact ⟨rfl, B.out⟩
end
end Go.Proofs.YtjoejjhgneccgaaGreatDoor

/- What each row of this seat leans on. -/
namespace Go.Proofs.YtjoejjhgneccgaaGreatDoor
theorem rowOwn : ownKnob Tryz.prog.godebug = none := by kernel_rfl
theorem rowLaidOut : laidOutB Tryz.prog = true := by kernel_rfl
end Go.Proofs.YtjoejjhgneccgaaGreatDoor

/- Arguments, opened: a struct of whole numbers by value; a slice of octets. -/
namespace Go.Proofs.YtjoejjhgneccgaaGreatDoor
open Go.ChangeShapes Go.WideShapes Go.ChangeAt Go.RowKit Go.Deep

section
variable {H : Type} {enc : TypeId × Value → H} {P : Program} {w : World} {base : Nat} {spare : Nat → Bool} {held : Bool}

theorem open_ints_struct {r : Reach} {b0 : Nat} {t : TypeId} {fs : Array Field} {v : Value} {d : DataW H} {p : List MemPlace} (hs : P.underlying t = some (.struct fs)) (hone : oneCellFields P fs = true) (hC : P.cellsOf t = fs.size)
    (hk : ∀ (i : Nat) (f : Field), fs[i]? = some f → P.underlying f.type = some (.int .i64))
    (hv : Value.okWide P w r b0 t v) (h : DataW.Trod enc P w base spare held t v d p) :
    ∃ xs : List Int, xs.length = fs.size ∧ v = .agg (xs.map (Value.int .i64)).toArray ∧ ∀ x ∈ xs, (Lit.int .i64 x).wf = true := by
  obtain ⟨cs, rfl, hsz⟩ := okWide_struct hs hv
  obtain ⟨fuel, hf⟩ := h
  obtain ⟨ys, n, _, _, _, hlen, hg⟩ := DataW.trod_struct hs hf
  have hcs : ∀ j, j < fs.size → ∃ x : Int, cs[j]? = some (.int .i64 x) ∧ (Lit.int .i64 x).wf = true := by
    intro j hj
    have hjs : fs[j]? = some fs[j] := Array.getElem?_eq_getElem hj
    obtain ⟨ho, hk1⟩ := hone_of hone j _ hjs
    have h1 := hg j _ hjs
    rw [ho, hk1] at h1
    have hys : ys[j]? = some (ys[j]'(by omega)) := List.getElem?_eq_getElem (by omega)
    rw [hys] at h1
    obtain ⟨x, e1, _, e3⟩ := DataW.trod_int (hk j _ hjs) h1
    refine ⟨x, ?_, e3⟩
    have hjc : j < cs.toList.length := by simp [hsz, hC]; exact hj
    have : ((Value.agg cs).cells.toList.drop j).take 1 = [cs.toList[j]] := by
      show (cs.toList.drop j).take 1 = _
      rw [List.drop_eq_getElem_cons hjc]; rfl
    rw [this] at e1
    have e2 : cs.toList[j] = Value.int .i64 x := by simpa using e1
    rw [← e2, ← Array.getElem?_toList, List.getElem?_eq_getElem hjc]
  refine ⟨cs.toList.map intOf, by simp [hsz, hC], ?_, ?_⟩
  · congr 1
    apply Array.ext
    · simp
    · intro i h1 h2
      obtain ⟨x, hx, _⟩ := hcs i (by rw [← hC, ← hsz]; exact h1)
      have : cs[i] = .int .i64 x := by rw [Array.getElem?_eq_getElem h1] at hx; simpa using hx
      simp [this, intOf]
  · intro x hx
    obtain ⟨u, hu, rfl⟩ := List.mem_map.1 hx
    obtain ⟨i, hi, rfl⟩ := List.getElem_of_mem hu
    have hi' : i < cs.size := by simpa using hi
    obtain ⟨x, hx, hwf⟩ := hcs i (by rw [← hC, ← hsz]; exact hi')
    have : cs.toList[i] = .int .i64 x := by rw [Array.getElem?_eq_getElem hi'] at hx; simpa using hx
    rw [this]; exact hwf

theorem open_bytes {r : Reach} {b0 : Nat} {t e : TypeId} {v : Value} {d : DataW H} {p : List MemPlace} (ht : P.underlying t = some (.slice e)) (he : P.underlying e = some (.int .u8)) (hc : P.cellsOf e = 1)
    (hv : Value.okWide P w r b0 t v) (h : DataW.Trod enc P w base spare held t v d p) :
    ∃ A n cap xs, v = .slice A n cap ∧ RdB w A n xs := by
  obtain ⟨a, n, cap, rfl⟩ := okWide_slice ht hv
  obtain ⟨fuel, hf⟩ := h
  rcases open_ints ht he hc hf with ⟨hcs, _⟩ | ⟨x, l, c, zs, hcs, _, hl, hm, hz, _, hcell, hwz⟩
  · simp [Value.cells] at hcs
    obtain ⟨rfl, rfl, rfl⟩ := hcs
    exact ⟨_, _, _, [], rfl, rfl, by omega, by simp, fun h0 => absurd h0 (by omega)⟩
  · simp [Value.cells] at hcs
    obtain ⟨rfl, rfl, rfl⟩ := hcs
    have hzl : n ≤ zs.length := by rw [hz]; split <;> omega
    refine ⟨_, n, cap, zs.take n, rfl, by simp; omega, ?_, ?_, fun h0 => ?_⟩
    · unfold maxLen at hm; omega
    · intro y hy
      have := hwz y (List.mem_of_mem_take hy)
      simp only [Lit.wf, Bool.and_eq_true, decide_eq_true_eq] at this
      exact ⟨this.1, this.2⟩
    · obtain ⟨b, off, spot⟩ := x
      have hspot : spot = none := by simpa [Addr.add] using World.cell?_spot (hcell 0 (by omega))
      subst hspot
      refine ⟨b, off, rfl, fun j hj => ?_⟩
      have := hcell j (by omega)
      rw [add_plain] at this
      rw [this]
      simp [List.getD_eq_getElem?_getD, hj]
end
end Go.Proofs.YtjoejjhgneccgaaGreatDoor

/- The one table that the rows list. -/
namespace Go.Proofs.YtjoejjhgneccgaaGreatDoor
open Go.ChangeShapes Go.WideShapes Go.ChangeAt Go.RowKit Go.Deep

theorem own : ownKnob Tryz.prog.godebug = none := by kernel_rfl
theorem gTab : Tryz.prog.globalNamed "math/bits.deBruijn64tab" = some 0 := by kernel_rfl
theorem tTab : (Tryz.prog.globals[0]?).map (·.type) = some 205 := by kernel_rfl
abbrev laid1 : List (String × DataW Unit) := [("math/bits.deBruijn64tab", Rows.laid_math_bits_deBruijn64tab)]
/-- The door's own heap meets the condition. -/
theorem door_met (os : Os) (args : Array Value) : laidMetH Tryz.prog laid1 ((World.doorLaid Tryz.prog 400 os).forCall (fun _ _ => 0) ⟨#[], args, []⟩).memory :=
  laidMetH_of_parts3 (fuel := 8) (laidMet_of_run' 8 (by kernel_rfl) (by kernel_rfl)) (by kernel_rfl) (by kernel_rfl)
theorem tab_of_laid {W : World} (h : laidMetH Tryz.prog laid1 W) : Tab64 W := by
  rw [MakeChecks.laidMetH_plain _ _ _ (by kernel_rfl)] at h
  have h1 : Lib.TabIs Tryz.prog W "math/bits.deBruijn64tab" .u8 (Lib.deBruijn64tab.map Int.ofNat) := Lib.tabIs_of_head gTab tTab Tryz.underlying205 Tryz.underlying5 (by kernel_rfl) (by kernel_rfl) h
  intro j hj
  unfold Lib.TabIs World.var? at h1
  rw [gTab] at h1
  simp only [Option.bind_some] at h1
  split at h1
  · rename_i cs T fr hb
    rw [cell_of_row _ _ _ _ _ _ hb, Option.some.inj h1, List.getElem?_toArray, List.getElem?_map, List.getElem?_map, List.getD_eq_getElem?_getD, List.getElem?_eq_getElem hj]
    rfl
  · cases h1
end Go.Proofs.YtjoejjhgneccgaaGreatDoor
