/- A store: slow; made. -/
import Derived.Test.YtjoejjhgneccgaaGreatDoorQSN04
import Derived.Test.YtjoejjhgneccgaaGreatDoorQSN21
namespace Go.Proofs.YtjoejjhgneccgaaGreatDoor
open Go.RowKit

def inRB (S : Sm) (t n : Int) : Bool := !(ofI n == 0) && !decide (t < 0) && !decide (S.th ≤ t)
def slowV (S : Sm) (t n : Int) : Int × Int := if inRB S t n = false then (0, 4) else if ofI n = 5 then largeV S n else smallV S t n
def slowS (S : Sm) (t n : Int) : Sm := if inRB S t n = false then S else if ofI n = 5 then largeS S n else smallS S t n
theorem inR_of {S : Sm} {t n : Int} (h : inRB S t n = true) : InR S t n := by
  unfold inRB at h
  simp only [Bool.and_eq_true, Bool.not_eq_true'] at h
  exact ⟨h.1.1, h.1.2, h.2⟩
theorem inR_not {S : Sm} {t n : Int} (h : inRB S t n = false) : ofI n = 0 ∨ t < 0 ∨ S.th ≤ t := by
  apply Decidable.byContradiction
  intro hc
  unfold inRB at h
  rw [show (ofI n == 0) = false by simp; omega, show decide (t < 0) = false by rw [decide_eq_false_iff_not]; omega, show decide (S.th ≤ t) = false by rw [decide_eq_false_iff_not]; omega] at h
  cases h
section
variable {w w' : World} {b : Sl} {S : Sm}
theorem sslow_any (h : StX w b S) (si : SI S) (t n : Int) (m0 : 0 ≤ S.md) (m1 : S.md < 1000000) :
    Calls Tryz.prog 39 #[.pointer (some ⟨b.s, 0, none⟩), .int .i64 t, .int .i64 n] w fun e w' => SlowE (slowV S t n) e ∧ StX w' b (slowS S t n) ∧ Frm b.fp w w' := by
  unfold slowV slowS
  cases hb : inRB S t n with
  | false =>
    refine (sslow_range h t n (inR_not hb)).mono ?_
    rintro e w' ⟨he, rfl⟩
    exact ⟨he, h, Frm.refl _ _⟩
  | true =>
    by_cases h5 : ofI n = 5
    · rw [if_neg (by simp), if_pos h5, if_neg (by simp), if_pos h5]
      exact sslow_large h t n (inR_of hb) h5 m0 m1
    · rw [if_neg (by simp), if_neg h5, if_neg (by simp), if_neg h5]
      exact sslow_small h si t n (inR_of hb) h5 m0 m1
theorem SI.slow (si : SI S) (t n : Int) : SI (slowS S t n) := by
  unfold slowS
  cases hb : inRB S t n with
  | false => exact si
  | true =>
    have hr := inR_of hb
    have q0 : ofI n ≠ 0 := by simpa using hr.z0
    have q1 : 0 ≤ t := by simpa using hr.z1
    have q2 : t < S.th := by simpa using hr.z2
    have hbd := ofI_bd n
    by_cases h5 : ofI n = 5
    · rw [if_neg (by simp), if_pos h5]
      unfold largeS
      cases hs : spanL S.C.ks (pagesI n) with
      | none => exact si
      | some p => exact (si.large hs).begin _ _
    · rw [if_neg (by simp), if_neg h5]
      unfold smallS
      cases hv : fastV S t n with
      | some v => exact si.fast t n
      | none =>
        cases ho : openP S (ofI n) with
        | none => exact si
        | some p => exact (got_si si q1 q2 (by omega) (by omega) ho).1.fast t n
end
/-- Made. -/
def Sm.new (N : Nat) (th : Int) : Sm := ⟨Cs.new N, fun _ _ => none, th, N, 0⟩
theorem SI.new {N : Nat} (hN : N ≤ 64) {th : Int} (h : 0 ≤ th ∧ th ≤ 9) : SI (Sm.new N th) :=
  ⟨⟨_, inv_new hN⟩, by simp [Sm.new, Cs.new], fun _ _ _ hm => by simp [Sm.new] at hm, fun _ _ _ hm => by simp [Sm.new] at hm, fun _ _ _ _ _ hm => by simp [Sm.new] at hm, h⟩
theorem runs_rep : ∀ (n p m : Nat), runsFrom (List.replicate n 0) p m = if n + m = 0 then [] else [(p - m, n + m)]
  | 0, p, m => by
    unfold runsFrom
    rw [List.replicate_zero]
    simp only
    split
    · rw [if_neg (by omega)]; simp
    · rw [if_pos (by omega)]
  | n + 1, p, m => by
    rw [List.replicate_succ]
    unfold runsFrom
    simp only
    rw [if_pos trivial, runs_rep n (p + 1) (m + 1), if_neg (by omega), if_neg (by omega), show p + 1 - (m + 1) = p - m by omega, show n + (m + 1) = n + 1 + m by omega]
theorem count_new (n : Nat) : countL (List.replicate n 0) = n := by
  unfold countL runsL
  rw [runs_rep]
  split <;> simp_all
end Go.Proofs.YtjoejjhgneccgaaGreatDoor

/- A store: made. -/
namespace Go.Proofs.YtjoejjhgneccgaaGreatDoor
open Go.RowKit

def NewS (N : Nat) (th : Int) (B : Nat) (e : Ending) (w' : World) : Prop := ∃ b : Sl, e = .returned (.pointer (some ⟨b.s, 0, none⟩)) ∧ StX w' b (Sm.new N th) ∧ (∀ x ∈ b.fp, B ≤ x) ∧ B ≤ b.oc
theorem clamp_minmax (t : Int) : min (max t 0) 9 = clampN t 0 9 := by unfold clampN; omega
theorem set2_other {w : World} {z x i j : Nat} (h : x ≠ z) (u v : Value) : ((w.setCell ⟨z, i, none⟩ u).setCell ⟨z, j, none⟩ v).heap[x]? = w.heap[x]? :=
  (heap_setCell_other (w.setCell ⟨z, i, none⟩ u) ⟨z, j, none⟩ x v h).trans (heap_setCell_other w ⟨z, i, none⟩ x u h)
set_option maxHeartbeats 4000000 in
set_option maxRecDepth 100000 in
theorem stnew_any (n t : Int) (w : World) :
    Calls Tryz.prog 54 #[.int .i64 n, .int .i64 t] w fun e w' => NewS (clampN n 0 64).toNat (clampN t 0 9) w.heap.size e w' ∧ Below w.heap.size w w' := by
  obtain ⟨N, hN⟩ : ∃ N, N = (clampN n 0 64).toNat := ⟨_, rfl⟩
  have HN := Lib.hid hN.symm
  have HM := Lib.hid (clamp_minmax t)
  have hcn := count_new N
  clear hN
  go_enter Tryz.func54, Tryz.ntmps54
  go_wp2_with (first
    | (go_at_call 109; refine (cnew_any n _).mono ?_; rw [HN.out]; rintro e w1 ⟨⟨cb, rfl, hx, hg⟩, hb⟩; have C1 := Lib.hid hx; have G1 := Lib.hid hg; have B1 := Lib.hid hb; clear hx hg hb)
    | (go_at_call 110; refine (canew_any t _).mono ?_; rintro e w2 ⟨⟨oc, ob, rfl, hx, hc, ho⟩, hb⟩; have A2 := Lib.hid hx; have OC := Lib.hid hc; have OB := Lib.hid ho; have C2 := Lib.hid (C1.out.below hb); have B2 := Lib.hid (below_next B1.out hb); clear hx hc ho hb)
    | (go_at_call 105; refine (cfree_any (C2.out.below (below_alloc0 _ (.cells #[.pointer (some ⟨cb.c, 0, none⟩), .pointer (some ⟨oc, 0, none⟩), .int .i64 0, .int .i64 0, .int .i64 0] 74)))).mono ?_; rintro e w3 ⟨rfl, hb⟩; have Z3 := Lib.hid (keep hb (heap_alloc_new w2 (.cells #[.pointer (some ⟨cb.c, 0, none⟩), .pointer (some ⟨oc, 0, none⟩), .int .i64 0, .int .i64 0, .int .i64 0] 74))); have f2 : w3.frozen? ⟨w2.heap.size, 2, none⟩ = false := frozen_of_row _ _ _ _ _ Z3.out; have f3 : w3.frozen? ⟨w2.heap.size, 3, none⟩ = false := frozen_of_row _ _ _ _ _ Z3.out; have d2 : w3.cell? ⟨w2.heap.size, 2, none⟩ = some (.int .i64 0) := cell_of_row _ _ _ _ _ _ Z3.out; have d3 : w3.cell? ⟨w2.heap.size, 3, none⟩ = some (.int .i64 0) := cell_of_row _ _ _ _ _ _ Z3.out; have C3 := Lib.hid ((C2.out.below (below_alloc0 w2 _)).below hb); have A3 := Lib.hid ((A2.out.below (below_alloc0 w2 _)).below hb); have B3 := Lib.hid (below_next (B2.out.alloc B2.out.size _) hb); have SZ := Lib.hid B2.out.size; have LC := Lib.hid C2.out.lt; have LO := Lib.hid (heap_lt A2.out.hd); have LB := Lib.hid A2.out.mp.lt; clear hb))
  go_ret
  have zc : ∀ x ∈ cb.fp, x ≠ w2.heap.size := fun x hx => Nat.ne_of_lt (LC.out x hx)
  have zo : oc ≠ w2.heap.size := Nat.ne_of_lt LO.out
  have zb : ob ≠ w2.heap.size := Nat.ne_of_lt LB.out
  refine ⟨⟨⟨w2.heap.size, cb, oc, ob⟩, rfl, ⟨?_, ?_, ?_⟩, ?_, ?_⟩, ?_⟩
  · rw [heap_setCell_same _ _ 2 _ _ _ (heap_setCell_same _ _ 3 _ _ _ Z3.out)]
    rw [HN.out, HM.out, show (Cs.new N).ks = List.replicate N 0 from rfl, hcn]
    rfl
  · rw [HN.out]
    exact C3.out.keep fun x hx => set2_other (zc x hx) _ _
  · exact A3.out.keep (set2_other zo _ _) (set2_other zb _ _)
  · intro x hx
    have := B1.out.size
    simp only [Sl.fp, List.mem_cons] at hx
    rcases hx with rfl | rfl | hx
    · exact SZ.out
    · exact Nat.le_trans this OB.out
    · exact G1.out x hx
  · have := B1.out.size
    exact Nat.le_trans this OC.out
  · exact (B3.out.setCell (p := ⟨w2.heap.size, 3, none⟩) SZ.out _).setCell (p := ⟨w2.heap.size, 2, none⟩) SZ.out _
end Go.Proofs.YtjoejjhgneccgaaGreatDoor

/- A store: what an object is. -/
namespace Go.Proofs.YtjoejjhgneccgaaGreatDoor
open Go.RowKit

def quoW (w : Int) : Int := IntKind.i64.wrap (w.tdiv 128)
def splitV (w : Int) : Int × Int × Bool := if w < 0 ∨ 1099511627776 ≤ quoW w then (0, 0, false) else (quoW w, w.tmod 128, true)
def SplitE (v : Int × Int × Bool) (e : Ending) : Prop := e = .returned (.tuple #[.int .i64 v.1, .int .i64 v.2.1, .bool v.2.2])
theorem hsplit_any (x : Int) (w : World) :
    Calls Tryz.prog 158 #[.int .i64 x] w fun e w' => SplitE (splitV x) e ∧ w = w' := by
  by_cases h0 : x < 0
  · have HV := Lib.hid (show splitV x = (0, 0, false) by unfold splitV; rw [if_pos (.inl h0)])
    have a0 : decide (x < 0) = true := by simpa using h0
    clear h0
    go_enter Tryz.func158, Tryz.ntmps158
    go_wp2_with fail
    go_ret3
    exact ⟨by rw [HV.out]; rfl, rfl⟩
  · have a0 : decide (x < 0) = false := by simpa using h0
    obtain ⟨q, hq⟩ : ∃ q, q = quoW x := ⟨_, rfl⟩
    have k1 : IntKind.i64.wrap (x.tdiv 128) = q := hq.symm
    by_cases h1 : 1099511627776 ≤ q
    · have HV := Lib.hid (show splitV x = (0, 0, false) by unfold splitV; rw [if_pos (.inr (by rw [← hq]; exact h1))])
      have a1 : decide (1099511627776 ≤ q) = true := by simpa using h1
      clear h0 h1 hq
      go_enter Tryz.func158, Tryz.ntmps158
      go_wp2_with fail
      go_ret3
      exact ⟨by rw [HV.out]; rfl, rfl⟩
    · have HV := Lib.hid (show splitV x = (q, x.tmod 128, true) by unfold splitV; rw [if_neg (by rw [← hq]; omega), ← hq])
      have a1 : decide (1099511627776 ≤ q) = false := by simpa using h1
      have k2 : IntKind.i64.wrap (x.tmod 128) = x.tmod 128 := by rw [IntKind.wrap_i64]; have := Int.tmod_lt_of_pos x (show (0 : Int) < 128 by decide); have := Int.lt_tmod_of_pos x (show (0 : Int) < 128 by decide); omega
      clear h0 h1 hq
      go_enter Tryz.func158, Tryz.ntmps158
      go_wp2_with fail
      go_ret3
      exact ⟨by rw [HV.out]; rfl, rfl⟩
section
variable {w w' : World} {b : Sl} {S : Sm}
def hasO (S : Sm) (a : Int) : Bool := hasB S.C.xs.length S.C.ws a
def readV (S : Sm) (a : Int) : Int × Int := if hasO S a = true then ((splitV (loadV S.C.xs a)).1, (splitV (loadV S.C.xs a)).2.1) else (-1, -1)
set_option maxHeartbeats 1000000 in
theorem sread_any (h : StX w b S) (a : Int) :
    Calls Tryz.prog 101 #[.pointer (some ⟨b.s, 0, none⟩), .int .i64 a] w fun e w' => SlowE (readV S a) e ∧ w = w' := by
  have H := Lib.hid h
  obtain ⟨c0, -⟩ := h.cells
  clear h
  cases hb : hasO S a with
  | false =>
    have HB := Lib.hid (show hasB S.C.xs.length S.C.ws a = false from hb)
    have HV := Lib.hid (show readV S a = (-1, -1) by unfold readV; rw [hb]; rfl)
    clear hb
    go_enter Tryz.func101, Tryz.ntmps101
    go_wp2_with (first
      | (go_at_call 84; refine (sis_any H.out).mono ?_; rintro e w1 ⟨rfl, rfl⟩)
      | (go_at_call 150; refine (cisa_any H.out.cx a).mono ?_; rw [HB.out]; rintro e w1 ⟨rfl, rfl⟩))
    go_ret2
    exact ⟨by rw [HV.out]; rfl, rfl⟩
  | true =>
    have HB := Lib.hid (show hasB S.C.xs.length S.C.ws a = true from hb)
    have HV := Lib.hid (show readV S a = ((splitV (loadV S.C.xs a)).1, (splitV (loadV S.C.xs a)).2.1) by unfold readV; rw [hb]; rfl)
    clear hb
    go_enter Tryz.func101, Tryz.ntmps101
    go_wp2_with (first
      | (go_at_call 84; refine (sis_any H.out).mono ?_; rintro e w1 ⟨rfl, rfl⟩)
      | (go_at_call 150; refine (cisa_any H.out.cx a).mono ?_; rw [HB.out]; rintro e w1 ⟨rfl, rfl⟩)
      | (go_at_call 95; refine (cload_any H.out.cx a).mono ?_; rintro e w1 ⟨rfl, rfl⟩)
      | (go_at_call 158; refine (hsplit_any _ _).mono ?_; rintro e w1 ⟨rfl, rfl⟩))
    go_ret2
    exact ⟨by rw [HV.out]; rfl, rfl⟩
theorem sfields_any (h : StX w b S) (a : Int) :
    Calls Tryz.prog 44 #[.pointer (some ⟨b.s, 0, none⟩), .int .i64 a] w fun e w' => e = .returned (.int .i64 (readV S a).2) ∧ w = w' := by
  have H := Lib.hid h
  clear h
  go_enter Tryz.func44, Tryz.ntmps44
  go_wp2_with (go_at_call 101; refine (sread_any H.out a).mono ?_; rintro e w1 ⟨rfl, rfl⟩)
  go_ret
  exact ⟨rfl, rfl⟩
theorem sserial_any (h : StX w b S) (a : Int) :
    Calls Tryz.prog 45 #[.pointer (some ⟨b.s, 0, none⟩), .int .i64 a] w fun e w' => e = .returned (.int .i64 (readV S a).1) ∧ w = w' := by
  have H := Lib.hid h
  clear h
  go_enter Tryz.func45, Tryz.ntmps45
  go_wp2_with (go_at_call 101; refine (sread_any H.out a).mono ?_; rintro e w1 ⟨rfl, rfl⟩)
  go_ret
  exact ⟨rfl, rfl⟩
theorem smade_any (h : StX w b S) :
    Calls Tryz.prog 52 #[.pointer (some ⟨b.s, 0, none⟩)] w fun e w' => e = .returned (.int .i64 S.md) ∧ w = w' := by
  have H := Lib.hid h
  obtain ⟨-, -, -, -, c4, -⟩ := h.cells
  clear h
  go_enter Tryz.func52, Tryz.ntmps52
  go_wp2_with (go_at_call 84; refine (sis_any H.out).mono ?_; rintro e w1 ⟨rfl, rfl⟩)
  go_ret
  exact ⟨rfl, rfl⟩
end
end Go.Proofs.YtjoejjhgneccgaaGreatDoor

/- A store: two of the greatest small ones. -/
namespace Go.Proofs.YtjoejjhgneccgaaGreatDoor
open Go.RowKit

def al0 : Sm := Sm.new 2 1
def al1 : Sm := slowS al0 0 15
def al2 : Sm := fastS al1 0 15
def al3 : Sm := slowS al2 0 15
def al4 : Sm := slowS al3 0 16
theorem al_v0 : slowV al0 0 15 = (0, 0) := by kernel_rfl
theorem al_v1 : fastV al1 0 15 = some 16 := by kernel_rfl
theorem al_v2 : slowV al2 0 15 = (32, 0) := by kernel_rfl
theorem al_v3 : slowV al3 0 16 = (0, 10) := by kernel_rfl
theorem al_m1 : al1.md = 1 := by kernel_rfl
theorem al_m2 : al2.md = 2 := by kernel_rfl
theorem al_m3 : al3.md = 3 := by kernel_rfl
theorem al_m4 : al4.md = 3 := by kernel_rfl
theorem al_f4 : (readV al4 16).2 = 15 := by kernel_rfl
theorem al_s4 : (readV al4 32).1 = 2 := by kernel_rfl
end Go.Proofs.YtjoejjhgneccgaaGreatDoor

/- A store: the law's alive. -/
namespace Go.Proofs.YtjoejjhgneccgaaGreatDoor
open Go.RowKit

theorem SI.al0 : SI al0 := SI.new (by decide) (by decide)
theorem SI.al1 : SI al1 := SI.al0.slow 0 15
theorem SI.al2 : SI al2 := SI.al1.fast 0 15
theorem SI.al3 : SI al3 := SI.al2.slow 0 15
section
variable {w w' : World} {b : Sl}
theorem al_new (w : World) : Calls Tryz.prog 54 #[.int .i64 2, .int .i64 1] w fun e w' => NewS 2 1 w.heap.size e w' ∧ Below w.heap.size w w' := by
  have := stnew_any 2 1 w
  rwa [show (clampN 2 0 64).toNat = 2 by decide, show clampN 1 0 9 = 1 by decide] at this
theorem al_c1 (h : StX w b al0) : Calls Tryz.prog 39 #[.pointer (some ⟨b.s, 0, none⟩), .int .i64 0, .int .i64 15] w fun e w' => e = .returned (.tuple #[.int .i64 0, .int .i64 0]) ∧ StX w' b al1 ∧ Frm b.fp w w' := by
  have := sslow_any h SI.al0 0 15 (by decide) (by decide)
  rw [al_v0] at this
  exact this
theorem al_c2 (h : StX w b al1) : Calls Tryz.prog 38 #[.pointer (some ⟨b.s, 0, none⟩), .int .i64 0, .int .i64 15] w fun e w' => e = .returned (.tuple #[.int .i64 16, .bool true]) ∧ StX w' b al2 ∧ Frm b.fp w w' := by
  have := sfast_any h SI.al1 0 15 ⟨by decide, by decide⟩ (by rw [al_m1]; decide) (by rw [al_m1]; decide)
  rw [al_v1] at this
  exact this
theorem al_c3 (h : StX w b al2) : Calls Tryz.prog 39 #[.pointer (some ⟨b.s, 0, none⟩), .int .i64 0, .int .i64 15] w fun e w' => e = .returned (.tuple #[.int .i64 32, .int .i64 0]) ∧ StX w' b al3 ∧ Frm b.fp w w' := by
  have := sslow_any h SI.al2 0 15 (by rw [al_m2]; decide) (by rw [al_m2]; decide)
  rw [al_v2] at this
  exact this
theorem al_c4 (h : StX w b al3) : Calls Tryz.prog 39 #[.pointer (some ⟨b.s, 0, none⟩), .int .i64 0, .int .i64 16] w fun e w' => e = .returned (.tuple #[.int .i64 0, .int .i64 10]) ∧ StX w' b al4 ∧ Frm b.fp w w' := by
  have := sslow_any h SI.al3 0 16 (by rw [al_m3]; decide) (by rw [al_m3]; decide)
  rw [al_v3] at this
  exact this
theorem al_q1 (h : StX w b al4) : Calls Tryz.prog 52 #[.pointer (some ⟨b.s, 0, none⟩)] w fun e w' => e = .returned (.int .i64 3) ∧ w = w' := by
  have := smade_any h
  rwa [al_m4] at this
theorem al_q2 (h : StX w b al4) : Calls Tryz.prog 44 #[.pointer (some ⟨b.s, 0, none⟩), .int .i64 16] w fun e w' => e = .returned (.int .i64 15) ∧ w = w' := by
  have := sfields_any h 16
  rwa [al_f4] at this
theorem al_q3 (h : StX w b al4) : Calls Tryz.prog 45 #[.pointer (some ⟨b.s, 0, none⟩), .int .i64 32] w fun e w' => e = .returned (.int .i64 2) ∧ w = w' := by
  have := sserial_any h 32
  rwa [al_s4] at this
set_option maxHeartbeats 4000000 in
set_option maxRecDepth 100000 in
theorem stalive_any (w : World) :
    Calls Tryz.prog 37 #[] w fun e w' => e = .returned (.bool true) ∧ Below w.heap.size w w' := by
  go_enter Tryz.func37, Tryz.ntmps37
  go_wp2_with (first
    | (go_at_call 54; refine (al_new _).mono ?_; rintro e w1 ⟨⟨b, rfl, hx, hg, -⟩, hb⟩; have H1 := Lib.hid hx; have G1 := Lib.hid hg; have B1 := Lib.hid hb; clear hx hg hb)
    | (go_at_call 39; (with_reducible refine (al_c1 H1.out).mono ?_); rintro e w2 ⟨rfl, hx, hf⟩; have H2 := Lib.hid hx; have F2 := Lib.hid hf; clear hx hf)
    | (go_at_call 38; (with_reducible refine (al_c2 H2.out).mono ?_); rintro e w3 ⟨rfl, hx, hf⟩; have H3 := Lib.hid hx; have F3 := Lib.hid (F2.out.trans hf (fun x hx => .inl hx)); clear hx hf)
    | (go_at_call 39; (with_reducible refine (al_c3 H3.out).mono ?_); rintro e w4 ⟨rfl, hx, hf⟩; have H4 := Lib.hid hx; have F4 := Lib.hid (F3.out.trans hf (fun x hx => .inl hx)); clear hx hf)
    | (go_at_call 39; (with_reducible refine (al_c4 H4.out).mono ?_); rintro e w5 ⟨rfl, hx, hf⟩; have H5 := Lib.hid hx; have F5 := Lib.hid (F4.out.trans hf (fun x hx => .inl hx)); clear hx hf)
    | (go_at_call 52; refine (al_q1 H5.out).mono ?_; rintro e w6 ⟨rfl, rfl⟩)
    | (go_at_call 44; refine (al_q2 H5.out).mono ?_; rintro e w6 ⟨rfl, rfl⟩)
    | (go_at_call 45; refine (al_q3 H5.out).mono ?_; rintro e w6 ⟨rfl, rfl⟩))
  go_ret
  exact ⟨rfl, B1.out.trans (F5.out.below B1.out.size G1.out)⟩
end
end Go.Proofs.YtjoejjhgneccgaaGreatDoor

/- A store that nobody made. (Printed by wip/stb.py.) -/
namespace Go.Proofs.YtjoejjhgneccgaaGreatDoor
open Go.RowKit

def NobS (w : World) (p : Option Addr) : Prop := p = none ∨ ∃ z : Nat, p = some ⟨z, 0, none⟩ ∧ w.heap[z]? = some (.cells #[.pointer none, .pointer none, .int .i64 0, .int .i64 0, .int .i64 0] 74 (0, 0))
theorem NobS.below {w w' : World} {p : Option Addr} (h : NobS w p) (hb : Below w.heap.size w w') : NobS w' p := h.imp id fun ⟨z, e, hz⟩ => ⟨z, e, keep hb hz⟩
section
variable {w w' : World} {p : Option Addr}
theorem nbis_any (h : NobS w p) :
    Calls Tryz.prog 84 #[.pointer p] w fun e w' => e = .returned (.bool false) ∧ w = w' := by
  rcases h with rfl | ⟨z, rfl, hz⟩
  · go_enter Tryz.func84, Tryz.ntmps84
    go_wp2_with fail
    go_ret
    exact ⟨rfl, rfl⟩
  · have c0 : w.cell? ⟨z, 0, none⟩ = some (.pointer none) := cell_of_row _ _ _ _ _ _ hz
    clear hz
    go_enter Tryz.func84, Tryz.ntmps84
    go_wp2_with fail
    go_ret
    exact ⟨rfl, rfl⟩
set_option maxHeartbeats 1000000 in
theorem nbfast_any (t n : Int) (h : NobS w p) :
    Calls Tryz.prog 38 #[.pointer p, .int .i64 t, .int .i64 n] w fun e w' => e = .returned (.tuple #[.int .i64 0, .bool false]) ∧ w = w' := by
  have H := Lib.hid h
  clear h
  go_enter Tryz.func38, Tryz.ntmps38
  go_wp2_with (first
    | (go_at_call 84; refine (nbis_any H.out).mono ?_; rintro e w1 ⟨rfl, rfl⟩))
  go_ret2
  exact ⟨rfl, rfl⟩
set_option maxHeartbeats 1000000 in
theorem nbslow_any (t n : Int) (h : NobS w p) :
    Calls Tryz.prog 39 #[.pointer p, .int .i64 t, .int .i64 n] w fun e w' => e = .returned (.tuple #[.int .i64 0, .int .i64 9]) ∧ w = w' := by
  have H := Lib.hid h
  clear h
  go_enter Tryz.func39, Tryz.ntmps39
  go_wp2_with (first
    | (go_at_call 84; refine (nbis_any H.out).mono ?_; rintro e w1 ⟨rfl, rfl⟩)
    | (go_at_call 88; refine (of_any n _).mono ?_; rintro e w1 ⟨rfl, rfl⟩))
  go_ret2
  exact ⟨rfl, rfl⟩
set_option maxHeartbeats 1000000 in
theorem nbfree_any (a : Int) (h : NobS w p) :
    Calls Tryz.prog 41 #[.pointer p, .int .i64 a] w fun e w' => e = .returned (.bool false) ∧ w = w' := by
  have H := Lib.hid h
  clear h
  go_enter Tryz.func41, Tryz.ntmps41
  go_wp2_with (first
    | (go_at_call 84; refine (nbis_any H.out).mono ?_; rintro e w1 ⟨rfl, rfl⟩))
  go_ret
  exact ⟨rfl, rfl⟩
set_option maxHeartbeats 1000000 in
theorem nbread_any (a : Int) (h : NobS w p) :
    Calls Tryz.prog 101 #[.pointer p, .int .i64 a] w fun e w' => e = .returned (.tuple #[.int .i64 (-1), .int .i64 (-1)]) ∧ w = w' := by
  have H := Lib.hid h
  clear h
  go_enter Tryz.func101, Tryz.ntmps101
  go_wp2_with (first
    | (go_at_call 84; refine (nbis_any H.out).mono ?_; rintro e w1 ⟨rfl, rfl⟩))
  go_ret2
  exact ⟨rfl, rfl⟩
set_option maxHeartbeats 1000000 in
theorem nbfields_any (a : Int) (h : NobS w p) :
    Calls Tryz.prog 44 #[.pointer p, .int .i64 a] w fun e w' => e = .returned (.int .i64 (-1)) ∧ w = w' := by
  have H := Lib.hid h
  clear h
  go_enter Tryz.func44, Tryz.ntmps44
  go_wp2_with (first
    | (go_at_call 101; refine (nbread_any a H.out).mono ?_; rintro e w1 ⟨rfl, rfl⟩))
  go_ret
  exact ⟨rfl, rfl⟩
set_option maxHeartbeats 1000000 in
theorem nbserial_any (a : Int) (h : NobS w p) :
    Calls Tryz.prog 45 #[.pointer p, .int .i64 a] w fun e w' => e = .returned (.int .i64 (-1)) ∧ w = w' := by
  have H := Lib.hid h
  clear h
  go_enter Tryz.func45, Tryz.ntmps45
  go_wp2_with (first
    | (go_at_call 101; refine (nbread_any a H.out).mono ?_; rintro e w1 ⟨rfl, rfl⟩))
  go_ret
  exact ⟨rfl, rfl⟩
set_option maxHeartbeats 1000000 in
theorem nbobjects_any (h : NobS w p) :
    Calls Tryz.prog 46 #[.pointer p] w fun e w' => e = .returned (.slice none 0 0) ∧ w = w' := by
  have H := Lib.hid h
  clear h
  go_enter Tryz.func46, Tryz.ntmps46
  go_wp2_with (first
    | (go_at_call 84; refine (nbis_any H.out).mono ?_; rintro e w1 ⟨rfl, rfl⟩))
  go_ret
  exact ⟨rfl, rfl⟩
set_option maxHeartbeats 1000000 in
theorem nbquit_any (t : Int) (h : NobS w p) :
    Calls Tryz.prog 48 #[.pointer p, .int .i64 t] w fun e w' => e = .returned (.int .i64 0) ∧ w = w' := by
  have H := Lib.hid h
  clear h
  go_enter Tryz.func48, Tryz.ntmps48
  go_wp2_with (first
    | (go_at_call 84; refine (nbis_any H.out).mono ?_; rintro e w1 ⟨rfl, rfl⟩))
  go_ret
  exact ⟨rfl, rfl⟩
set_option maxHeartbeats 1000000 in
theorem nbowner_any (q : Int) (h : NobS w p) :
    Calls Tryz.prog 51 #[.pointer p, .int .i64 q] w fun e w' => e = .returned (.int .i64 (-1)) ∧ w = w' := by
  have H := Lib.hid h
  clear h
  go_enter Tryz.func51, Tryz.ntmps51
  go_wp2_with (first
    | (go_at_call 84; refine (nbis_any H.out).mono ?_; rintro e w1 ⟨rfl, rfl⟩))
  go_ret
  exact ⟨rfl, rfl⟩
set_option maxHeartbeats 1000000 in
theorem nbtrim_any (q : Int) (h : NobS w p) :
    Calls Tryz.prog 43 #[.pointer p, .int .i64 q] w fun e w' => e = .returned (.bool false) ∧ w = w' := by
  have H := Lib.hid h
  clear h
  go_enter Tryz.func43, Tryz.ntmps43
  go_wp2_with (first
    | (go_at_call 84; refine (nbis_any H.out).mono ?_; rintro e w1 ⟨rfl, rfl⟩))
  go_ret
  exact ⟨rfl, rfl⟩
set_option maxHeartbeats 1000000 in
theorem nbpages_any (h : NobS w p) :
    Calls Tryz.prog 49 #[.pointer p] w fun e w' => e = .returned (.int .i64 0) ∧ w = w' := by
  have H := Lib.hid h
  clear h
  go_enter Tryz.func49, Tryz.ntmps49
  go_wp2_with (first
    | (go_at_call 84; refine (nbis_any H.out).mono ?_; rintro e w1 ⟨rfl, rfl⟩))
  go_ret
  exact ⟨rfl, rfl⟩
set_option maxHeartbeats 1000000 in
theorem nbkind_any (q : Int) (h : NobS w p) :
    Calls Tryz.prog 50 #[.pointer p, .int .i64 q] w fun e w' => e = .returned (.int .i64 (-1)) ∧ w = w' := by
  have H := Lib.hid h
  clear h
  go_enter Tryz.func50, Tryz.ntmps50
  go_wp2_with (first
    | (go_at_call 84; refine (nbis_any H.out).mono ?_; rintro e w1 ⟨rfl, rfl⟩))
  go_ret
  exact ⟨rfl, rfl⟩
set_option maxHeartbeats 1000000 in
theorem nbmade_any (h : NobS w p) :
    Calls Tryz.prog 52 #[.pointer p] w fun e w' => e = .returned (.int .i64 0) ∧ w = w' := by
  have H := Lib.hid h
  clear h
  go_enter Tryz.func52, Tryz.ntmps52
  go_wp2_with (first
    | (go_at_call 84; refine (nbis_any H.out).mono ?_; rintro e w1 ⟨rfl, rfl⟩))
  go_ret
  exact ⟨rfl, rfl⟩
end
end Go.Proofs.YtjoejjhgneccgaaGreatDoor

/- A value's word: may it be. -/
namespace Go.Proofs.YtjoejjhgneccgaaGreatDoor
open Go.RowKit

def checkV (k n : Int) : Int :=
  if k = 0 then (if (n == 0) = true then 0 else 4)
  else if k = 1 then (if decide (-1099511627776 ≤ n) = true then (if decide (n < 1099511627776) = true then 0 else 4) else 4)
  else if k = 2 then (if decide (0 ≤ n) = true then (if decide (n < 2048) = true then 0 else 4) else 4)
  else 12
set_option maxHeartbeats 2000000 in
theorem wcheck_any (k n : Int) (w : World) :
    Calls Tryz.prog 149 #[.agg #[.int .i64 k, .int .i64 n]] w fun e w' => e = .returned (.int .i64 (checkV k n)) ∧ Below w.heap.size w w' := by
  have B0 := Lib.hid (below_alloc0 w (.cells #[.int .i64 k, .int .i64 n] 70))
  have c0 : (w.alloc (.cells #[.int .i64 k, .int .i64 n] 70)).cell? ⟨w.heap.size, 0, none⟩ = some (.int .i64 k) := cell_of_row _ _ _ _ _ _ (heap_alloc_new w _)
  have c1 : (w.alloc (.cells #[.int .i64 k, .int .i64 n] 70)).cell? ⟨w.heap.size, 1, none⟩ = some (.int .i64 n) := cell_of_row _ _ _ _ _ _ (heap_alloc_new w _)
  obtain ⟨r, hr⟩ : ∃ r, r = checkV k n := ⟨_, rfl⟩
  rw [← hr]
  unfold checkV at hr
  by_cases h0 : k = 0
  · subst h0
    cases hb : (n == 0)
    all_goals
      rw [hb] at hr
      simp only [reduceIte, reduceCtorEq] at hr
      subst hr
      go_enter Tryz.func149, Tryz.ntmps149
      go_wp2_with fail
      go_ret
      exact ⟨rfl, B0.out⟩
  by_cases h1 : k = 1
  · subst h1
    cases hb : decide (-1099511627776 ≤ n)
    · rw [hb] at hr
      simp at hr
      subst hr
      go_enter Tryz.func149, Tryz.ntmps149
      go_wp2_with fail
      go_ret
      exact ⟨rfl, B0.out⟩
    · cases hc : decide (n < 1099511627776)
      all_goals
        rw [hb, hc] at hr
        simp at hr
        subst hr
        go_enter Tryz.func149, Tryz.ntmps149
        go_wp2_with fail
        go_ret
        exact ⟨rfl, B0.out⟩
  by_cases h2 : k = 2
  · subst h2
    cases hb : decide (0 ≤ n)
    · rw [hb] at hr
      simp at hr
      subst hr
      go_enter Tryz.func149, Tryz.ntmps149
      go_wp2_with fail
      go_ret
      exact ⟨rfl, B0.out⟩
    · cases hc : decide (n < 2048)
      all_goals
        rw [hb, hc] at hr
        simp at hr
        subst hr
        go_enter Tryz.func149, Tryz.ntmps149
        go_wp2_with fail
        go_ret
        exact ⟨rfl, B0.out⟩
  rw [if_neg h0, if_neg h1, if_neg h2] at hr
  subst hr
  have e0 : (k == 0) = false := by simpa using h0
  have e1 : (k == 1) = false := by simpa using h1
  have e2 : (k == 2) = false := by simpa using h2
  go_enter Tryz.func149, Tryz.ntmps149
  go_wp2_with fail
  go_ret
  exact ⟨rfl, B0.out⟩
end Go.Proofs.YtjoejjhgneccgaaGreatDoor
