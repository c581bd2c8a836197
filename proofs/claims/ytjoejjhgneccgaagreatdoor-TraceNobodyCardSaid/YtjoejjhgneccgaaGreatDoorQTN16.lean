/- A store: slow, small ones. -/
import Derived.Test.YtjoejjhgneccgaaGreatDoorQTN03
import Derived.Test.YtjoejjhgneccgaaGreatDoorQTN15
namespace Go.Proofs.YtjoejjhgneccgaaGreatDoor
open Go.RowKit

section
variable {w w' : World} {b : Sl} {S : Sm}
theorem sfast_yes (h : StX w b S) (si : SI S) (t n : Int) (wt : wfI t) (m0 : 0 ≤ S.md) (m1 : S.md < 1000000) {v : Int} (hv : fastV S t n = some v) :
    Calls Tryz.prog 38 #[.pointer (some ⟨b.s, 0, none⟩), .int .i64 t, .int .i64 n] w fun e w' => e = .returned (.tuple #[.int .i64 v, .bool true]) ∧ StX w' b (fastS S t n) ∧ Frm b.fp w w' := by
  refine (sfast_any h si t n wt m0 m1).mono ?_
  rw [hv]
  exact fun e w' hr => hr
theorem sfast_none (h : StX w b S) (si : SI S) (t n : Int) (wt : wfI t) (m0 : 0 ≤ S.md) (m1 : S.md < 1000000) (hv : fastV S t n = none) :
    Calls Tryz.prog 38 #[.pointer (some ⟨b.s, 0, none⟩), .int .i64 t, .int .i64 n] w fun e w' => e = .returned (.tuple #[.int .i64 0, .bool false]) ∧ StX w' b S ∧ Frm b.fp w w' := by
  have hb : fastB S t n = false := by
    unfold fastV at hv
    cases hb : fastB S t n with
    | false => rfl
    | true => rw [hb] at hv; cases hv
  have hS : fastS S t n = S := by unfold fastS; rw [hb]; rfl
  refine (sfast_any h si t n wt m0 m1).mono ?_
  rw [hv, hS]
  exact fun e w' hr => hr
theorem sfast_get (h : StX w b S) (si : SI S) (t n : Int) (wt : wfI t) (m0 : 0 ≤ S.md) (m1 : S.md < 1000000) :
    Calls Tryz.prog 38 #[.pointer (some ⟨b.s, 0, none⟩), .int .i64 t, .int .i64 n] w fun e w' => (∃ v o, e = .returned (.tuple #[.int .i64 v, .bool o]) ∧ v = (fastV S t n).getD 0) ∧ StX w' b (fastS S t n) ∧ Frm b.fp w w' := by
  refine (sfast_any h si t n wt m0 m1).mono ?_
  exact fun e w' hr => ⟨⟨_, _, hr.1, rfl⟩, hr.2⟩
theorem openS_none {k : Int} (h : openP S k = none) : openS S k = S := by
  unfold openP at h
  unfold openS
  cases hL : openL S k with
  | some p => rfl
  | none =>
    rw [hL] at h
    simp only at h ⊢
    unfold carveC
    rw [h]
theorem sopen_none (h : StX w b S) (k : Int) (hn : S.np = (S.C.ks.length : Nat)) (ho : openP S k = none) :
    Calls Tryz.prog 92 #[.pointer (some ⟨b.s, 0, none⟩), .int .i64 k] w fun e w' => e = .returned (.tuple #[.int .i64 0, .bool false]) ∧ StX w' b S ∧ Frm b.fp w w' := by
  have := sopen_any h k hn
  rw [openS_none ho, ho] at this
  exact this.mono fun e w' hr => hr
theorem sopen_some (h : StX w b S) (k : Int) (hn : S.np = (S.C.ks.length : Nat)) {p : Nat} (ho : openP S k = some p) :
    Calls Tryz.prog 92 #[.pointer (some ⟨b.s, 0, none⟩), .int .i64 k] w fun e w' => e = .returned (.tuple #[.int .i64 p, .bool true]) ∧ StX w' b (openS S k) ∧ Frm b.fp w w' := by
  have := sopen_any h k hn
  rw [ho] at this
  exact this.mono fun e w' hr => hr
theorem openS_same (S : Sm) (k : Int) : (openS S k).md = S.md ∧ (openS S k).th = S.th ∧ (openS S k).M = S.M := by
  unfold openS
  split <;> exact ⟨rfl, rfl, rfl⟩
/-- A page was opened, and is the thread's. -/
def gotS (S : Sm) (t n : Int) (p : Nat) : Sm := (openS S (ofI n)).give t (ofI n) p
theorem got_si (si : SI S) {t n : Int} {p : Nat} (t0 : 0 ≤ t) (t1 : t < S.th) (k1 : 1 ≤ ofI n) (k4 : ofI n ≤ 4) (ho : openP S (ofI n) = some p) : SI (gotS S t n p) ∧ SetP (openS S (ofI n)).M (openS S (ofI n)).th t (ofI n) p := by
  obtain ⟨h1, h2, h3, h4, h5, h6⟩ := si.open ho
  obtain ⟨F, hi⟩ := h1.inv
  have hle := hi.le
  exact ⟨h1.give t0 (by rw [h5]; exact t1) k1 k4 h2 h3 (by rw [h4]; exact h6), t0, by rw [h5]; exact t1, k1, k4, by omega, by omega, fun t' k' _ _ => by rw [h4]; exact h6 t' k'⟩
def smallV (S : Sm) (t n : Int) : Int × Int := match fastV S t n with
  | some v => (v, 0)
  | none => match openP S (ofI n) with | none => (0, 10) | some p => ((fastV (gotS S t n p) t n).getD 0, 0)
def smallS (S : Sm) (t n : Int) : Sm := match fastV S t n with
  | some _ => fastS S t n
  | none => match openP S (ofI n) with | none => S | some p => fastS (gotS S t n p) t n
set_option maxHeartbeats 4000000 in
set_option maxRecDepth 100000 in
theorem sslow_small (h : StX w b S) (si : SI S) (t n : Int) (hr : InR S t n) (h5 : ofI n ≠ 5) (m0 : 0 ≤ S.md) (m1 : S.md < 1000000) :
    Calls Tryz.prog 39 #[.pointer (some ⟨b.s, 0, none⟩), .int .i64 t, .int .i64 n] w fun e w' => SlowE (smallV S t n) e ∧ StX w' b (smallS S t n) ∧ Frm b.fp w w' := by
  have H := Lib.hid h
  have HI := Lib.hid si
  obtain ⟨c0, -, c2, -⟩ := h.cells
  obtain ⟨z0, z1, z2⟩ := hr
  have z5 : (ofI n == 5) = false := by simpa using h5
  have hbd := ofI_bd n
  have hth := si.th
  have q0 : ofI n ≠ 0 := by simpa using z0
  have q1 : 0 ≤ t := by simpa using z1
  have q2 : t < S.th := by simpa using z2
  have WT := Lib.hid (show wfI t from ⟨by omega, by omega⟩)
  have M0 := Lib.hid m0
  have M1 := Lib.hid m1
  have Q1 := Lib.hid q1
  have Q2 := Lib.hid q2
  have K1 := Lib.hid (show 1 ≤ ofI n by omega)
  have K4 := Lib.hid (show ofI n ≤ 4 by omega)
  clear h si h5 hbd hth q0 q1 q2 m0 m1
  cases hv : fastV S t n with
  | some v =>
    have HV := Lib.hid hv
    have HR := Lib.hid (show smallV S t n = (v, 0) by unfold smallV; rw [hv])
    have HL := Lib.hid (show smallS S t n = fastS S t n by unfold smallS; rw [hv])
    clear hv
    go_enter Tryz.func39, Tryz.ntmps39
    go_wp2_with (first
      | (go_at_call 84; refine (sis_any H.out).mono ?_; rintro e w1 ⟨rfl, rfl⟩)
      | (go_at_call 88; refine (of_any n _).mono ?_; rintro e w1 ⟨rfl, rfl⟩)
      | (go_at_call 38; refine (sfast_yes H.out HI.out t n WT.out M0.out M1.out HV.out).mono ?_; rintro e w2 ⟨rfl, hx, hf⟩; have H2 := Lib.hid hx; have F2 := Lib.hid hf; clear hx hf))
    go_ret2
    exact ⟨by rw [HR.out]; rfl, by rw [HL.out]; exact H2.out, F2.out⟩
  | none =>
    have HV := Lib.hid hv
    cases ho : openP S (ofI n) with
    | none =>
      have HO := Lib.hid ho
      have HR := Lib.hid (show smallV S t n = (0, 10) by unfold smallV; rw [hv]; simp only [ho])
      have HL := Lib.hid (show smallS S t n = S by unfold smallS; rw [hv]; simp only [ho])
      clear hv ho
      go_enter Tryz.func39, Tryz.ntmps39
      go_wp2_with (first
        | (go_at_call 84; refine (sis_any H.out).mono ?_; rintro e w1 ⟨rfl, rfl⟩)
        | (go_at_call 88; refine (of_any n _).mono ?_; rintro e w1 ⟨rfl, rfl⟩)
        | (go_at_call 38; refine (sfast_none H.out HI.out t n WT.out M0.out M1.out HV.out).mono ?_; rintro e w2 ⟨rfl, hx, hf⟩; have H2 := Lib.hid hx; have F2 := Lib.hid hf; clear hx hf)
        | (go_at_call 92; refine (sopen_none H2.out (ofI n) HI.out.np HO.out).mono ?_; rintro e w3 ⟨rfl, hx, hf⟩; have H3 := Lib.hid hx; have F3 := Lib.hid (F2.out.trans hf (fun x hx => .inl hx)); clear hx hf))
      go_ret2
      exact ⟨by rw [HR.out]; rfl, by rw [HL.out]; exact H3.out, F3.out⟩
    | some p =>
      have HO := Lib.hid ho
      have hg := got_si HI.out Q1.out Q2.out K1.out K4.out ho
      have GI := Lib.hid hg.1
      have GP := Lib.hid hg.2
      have hm := (openS_same S (ofI n)).1
      have N0 := Lib.hid (show 0 ≤ (gotS S t n p).md from by show 0 ≤ (openS S (ofI n)).md; rw [hm]; exact M0.out)
      have N1 := Lib.hid (show (gotS S t n p).md < 1000000 from by show (openS S (ofI n)).md < 1000000; rw [hm]; exact M1.out)
      have HR := Lib.hid (show smallV S t n = ((fastV (gotS S t n p) t n).getD 0, 0) by unfold smallV; rw [hv]; simp only [ho])
      have HL := Lib.hid (show smallS S t n = fastS (gotS S t n p) t n by unfold smallS; rw [hv]; simp only [ho])
      clear hv ho hg hm
      go_enter Tryz.func39, Tryz.ntmps39
      go_wp2_with (first
        | (go_at_call 84; refine (sis_any H.out).mono ?_; rintro e w1 ⟨rfl, rfl⟩)
        | (go_at_call 88; refine (of_any n _).mono ?_; rintro e w1 ⟨rfl, rfl⟩)
        | (go_at_call 38; (with_reducible refine (sfast_none H.out HI.out t n WT.out M0.out M1.out HV.out).mono ?_); rintro e w2 ⟨rfl, hx, hf⟩; have H2 := Lib.hid hx; have F2 := Lib.hid hf; clear hx hf)
        | (go_at_call 92; refine (sopen_some H2.out (ofI n) HI.out.np HO.out).mono ?_; rintro e w3 ⟨rfl, hx, hf⟩; obtain ⟨-, d1, -⟩ := hx.cells; have H3 := Lib.hid hx; have F3 := Lib.hid (F2.out.trans hf (fun x hx => .inl hx)); clear hx hf)
        | (go_at_call 93; refine (caset_any H3.out.ca t (ofI n) p GP.out).mono ?_; rintro e w4 ⟨rfl, hx, hf⟩; have H4 : Hid (StX w4 b (gotS S t n p)) := Lib.hid (H3.out.withCa hf hx); have F4 := Lib.hid (F3.out.trans (hf.sub (fp' := b.fp) b.sub_ob) (fun x hx => .inl hx)); clear hx hf)
        | (go_at_call 38; (with_reducible refine (sfast_get H4.out GI.out t n WT.out N0.out N1.out).mono ?_); rintro e w5 ⟨⟨v, o, rfl, hv⟩, hx, hf⟩; have H5 := Lib.hid hx; have HV5 := Lib.hid hv; have F5 := Lib.hid (F4.out.trans hf (fun x hx => .inl hx)); clear hx hf hv))
      go_ret2
      exact ⟨by rw [HR.out, ← HV5.out]; rfl, by rw [HL.out]; exact H5.out, F5.out⟩
end
end Go.Proofs.YtjoejjhgneccgaaGreatDoor

/- A store: slow; made. -/
namespace Go.Proofs.YtjoejjhgneccgaaGreatDoor
open Go.RowKit

def inRB (S : Sm) (t n : Int) : Bool := !(ofI n == 0) && !decide (t < 0) && !decide (S.th ≤ t)
def slowV (S : Sm) (t n : Int) : Int × Int := if inRB S t n = false then (0, 4) else if ofI n = 5 then largeV S n else smallV S t n
def slowS (S : Sm) (t n : Int) : Sm := if inRB S t n = false then S else if ofI n = 5 then largeS S n else smallS S t n
theorem inR_of {S : Sm} {t n : Int} (h : inRB S t n = true) : InR S t n := by
  unfold inRB at h
  simp only [Bool.and_eq_true, Bool.not_eq_true'] at h
  exact ⟨h.1.1, h.1.2, h.2⟩
theorem inR_not {S : Sm} {t n : Int} (h : inRB S t n = false) : ofI n = 0 ∨ t < 0 ∨ S.th ≤ t := by
  apply Decidable.byContradiction
  intro hc
  unfold inRB at h
  rw [show (ofI n == 0) = false by simp; omega, show decide (t < 0) = false by rw [decide_eq_false_iff_not]; omega, show decide (S.th ≤ t) = false by rw [decide_eq_false_iff_not]; omega] at h
  cases h
section
variable {w w' : World} {b : Sl} {S : Sm}
theorem sslow_any (h : StX w b S) (si : SI S) (t n : Int) (m0 : 0 ≤ S.md) (m1 : S.md < 1000000) :
    Calls Tryz.prog 39 #[.pointer (some ⟨b.s, 0, none⟩), .int .i64 t, .int .i64 n] w fun e w' => SlowE (slowV S t n) e ∧ StX w' b (slowS S t n) ∧ Frm b.fp w w' := by
  unfold slowV slowS
  cases hb : inRB S t n with
  | false =>
    refine (sslow_range h t n (inR_not hb)).mono ?_
    rintro e w' ⟨he, rfl⟩
    exact ⟨he, h, Frm.refl _ _⟩
  | true =>
    by_cases h5 : ofI n = 5
    · rw [if_neg (by simp), if_pos h5, if_neg (by simp), if_pos h5]
      exact sslow_large h t n (inR_of hb) h5 m0 m1
    · rw [if_neg (by simp), if_neg h5, if_neg (by simp), if_neg h5]
      exact sslow_small h si t n (inR_of hb) h5 m0 m1
theorem SI.slow (si : SI S) (t n : Int) : SI (slowS S t n) := by
  unfold slowS
  cases hb : inRB S t n with
  | false => exact si
  | true =>
    have hr := inR_of hb
    have q0 : ofI n ≠ 0 := by simpa using hr.z0
    have q1 : 0 ≤ t := by simpa using hr.z1
    have q2 : t < S.th := by simpa using hr.z2
    have hbd := ofI_bd n
    by_cases h5 : ofI n = 5
    · rw [if_neg (by simp), if_pos h5]
      unfold largeS
      cases hs : spanL S.C.ks (pagesI n) with
      | none => exact si
      | some p => exact (si.large hs).begin _ _
    · rw [if_neg (by simp), if_neg h5]
      unfold smallS
      cases hv : fastV S t n with
      | some v => exact si.fast t n
      | none =>
        cases ho : openP S (ofI n) with
        | none => exact si
        | some p => exact (got_si si q1 q2 (by omega) (by omega) ho).1.fast t n
end
/-- Made. -/
def Sm.new (N : Nat) (th : Int) : Sm := ⟨Cs.new N, fun _ _ => none, th, N, 0⟩
theorem SI.new {N : Nat} (hN : N ≤ 64) {th : Int} (h : 0 ≤ th ∧ th ≤ 9) : SI (Sm.new N th) :=
  ⟨⟨_, inv_new hN⟩, by simp [Sm.new, Cs.new], fun _ _ _ hm => by simp [Sm.new] at hm, fun _ _ _ hm => by simp [Sm.new] at hm, fun _ _ _ _ _ hm => by simp [Sm.new] at hm, h⟩
theorem runs_rep : ∀ (n p m : Nat), runsFrom (List.replicate n 0) p m = if n + m = 0 then [] else [(p - m, n + m)]
  | 0, p, m => by
    unfold runsFrom
    rw [List.replicate_zero]
    simp only
    split
    · rw [if_neg (by omega)]; simp
    · rw [if_pos (by omega)]
  | n + 1, p, m => by
    rw [List.replicate_succ]
    unfold runsFrom
    simp only
    rw [if_pos trivial, runs_rep n (p + 1) (m + 1), if_neg (by omega), if_neg (by omega), show p + 1 - (m + 1) = p - m by omega, show n + (m + 1) = n + 1 + m by omega]
theorem count_new (n : Nat) : countL (List.replicate n 0) = n := by
  unfold countL runsL
  rw [runs_rep]
  split <;> simp_all
end Go.Proofs.YtjoejjhgneccgaaGreatDoor

/- A store: made. -/
namespace Go.Proofs.YtjoejjhgneccgaaGreatDoor
open Go.RowKit

def NewS (N : Nat) (th : Int) (B : Nat) (e : Ending) (w' : World) : Prop := ∃ b : Sl, e = .returned (.pointer (some ⟨b.s, 0, none⟩)) ∧ StX w' b (Sm.new N th) ∧ (∀ x ∈ b.fp, B ≤ x) ∧ B ≤ b.oc
theorem clamp_minmax (t : Int) : min (max t 0) 9 = clampN t 0 9 := by unfold clampN; omega
theorem set2_other {w : World} {z x i j : Nat} (h : x ≠ z) (u v : Value) : ((w.setCell ⟨z, i, none⟩ u).setCell ⟨z, j, none⟩ v).heap[x]? = w.heap[x]? :=
  (heap_setCell_other (w.setCell ⟨z, i, none⟩ u) ⟨z, j, none⟩ x v h).trans (heap_setCell_other w ⟨z, i, none⟩ x u h)
set_option maxHeartbeats 4000000 in
set_option maxRecDepth 100000 in
theorem stnew_any (n t : Int) (w : World) :
    Calls Tryz.prog 54 #[.int .i64 n, .int .i64 t] w fun e w' => NewS (clampN n 0 64).toNat (clampN t 0 9) w.heap.size e w' ∧ Below w.heap.size w w' := by
  obtain ⟨N, hN⟩ : ∃ N, N = (clampN n 0 64).toNat := ⟨_, rfl⟩
  have HN := Lib.hid hN.symm
  have HM := Lib.hid (clamp_minmax t)
  have hcn := count_new N
  clear hN
  go_enter Tryz.func54, Tryz.ntmps54
  go_wp2_with (first
    | (go_at_call 109; refine (cnew_any n _).mono ?_; rw [HN.out]; rintro e w1 ⟨⟨cb, rfl, hx, hg⟩, hb⟩; have C1 := Lib.hid hx; have G1 := Lib.hid hg; have B1 := Lib.hid hb; clear hx hg hb)
    | (go_at_call 110; refine (canew_any t _).mono ?_; rintro e w2 ⟨⟨oc, ob, rfl, hx, hc, ho⟩, hb⟩; have A2 := Lib.hid hx; have OC := Lib.hid hc; have OB := Lib.hid ho; have C2 := Lib.hid (C1.out.below hb); have B2 := Lib.hid (below_next B1.out hb); clear hx hc ho hb)
    | (go_at_call 105; refine (cfree_any (C2.out.below (below_alloc0 _ (.cells #[.pointer (some ⟨cb.c, 0, none⟩), .pointer (some ⟨oc, 0, none⟩), .int .i64 0, .int .i64 0, .int .i64 0] 74)))).mono ?_; rintro e w3 ⟨rfl, hb⟩; have Z3 := Lib.hid (keep hb (heap_alloc_new w2 (.cells #[.pointer (some ⟨cb.c, 0, none⟩), .pointer (some ⟨oc, 0, none⟩), .int .i64 0, .int .i64 0, .int .i64 0] 74))); have f2 : w3.frozen? ⟨w2.heap.size, 2, none⟩ = false := frozen_of_row _ _ _ _ _ Z3.out; have f3 : w3.frozen? ⟨w2.heap.size, 3, none⟩ = false := frozen_of_row _ _ _ _ _ Z3.out; have d2 : w3.cell? ⟨w2.heap.size, 2, none⟩ = some (.int .i64 0) := cell_of_row _ _ _ _ _ _ Z3.out; have d3 : w3.cell? ⟨w2.heap.size, 3, none⟩ = some (.int .i64 0) := cell_of_row _ _ _ _ _ _ Z3.out; have C3 := Lib.hid ((C2.out.below (below_alloc0 w2 _)).below hb); have A3 := Lib.hid ((A2.out.below (below_alloc0 w2 _)).below hb); have B3 := Lib.hid (below_next (B2.out.alloc B2.out.size _) hb); have SZ := Lib.hid B2.out.size; have LC := Lib.hid C2.out.lt; have LO := Lib.hid (heap_lt A2.out.hd); have LB := Lib.hid A2.out.mp.lt; clear hb))
  go_ret
  have zc : ∀ x ∈ cb.fp, x ≠ w2.heap.size := fun x hx => Nat.ne_of_lt (LC.out x hx)
  have zo : oc ≠ w2.heap.size := Nat.ne_of_lt LO.out
  have zb : ob ≠ w2.heap.size := Nat.ne_of_lt LB.out
  refine ⟨⟨⟨w2.heap.size, cb, oc, ob⟩, rfl, ⟨?_, ?_, ?_⟩, ?_, ?_⟩, ?_⟩
  · rw [heap_setCell_same _ _ 2 _ _ _ (heap_setCell_same _ _ 3 _ _ _ Z3.out)]
    rw [HN.out, HM.out, show (Cs.new N).ks = List.replicate N 0 from rfl, hcn]
    rfl
  · rw [HN.out]
    exact C3.out.keep fun x hx => set2_other (zc x hx) _ _
  · exact A3.out.keep (set2_other zo _ _) (set2_other zb _ _)
  · intro x hx
    have := B1.out.size
    simp only [Sl.fp, List.mem_cons] at hx
    rcases hx with rfl | rfl | hx
    · exact SZ.out
    · exact Nat.le_trans this OB.out
    · exact G1.out x hx
  · have := B1.out.size
    exact Nat.le_trans this OC.out
  · exact (B3.out.setCell (p := ⟨w2.heap.size, 3, none⟩) SZ.out _).setCell (p := ⟨w2.heap.size, 2, none⟩) SZ.out _
end Go.Proofs.YtjoejjhgneccgaaGreatDoor

/- A store: what an object is. -/
namespace Go.Proofs.YtjoejjhgneccgaaGreatDoor
open Go.RowKit

def quoW (w : Int) : Int := IntKind.i64.wrap (w.tdiv 128)
def splitV (w : Int) : Int × Int × Bool := if w < 0 ∨ 1099511627776 ≤ quoW w then (0, 0, false) else (quoW w, w.tmod 128, true)
def SplitE (v : Int × Int × Bool) (e : Ending) : Prop := e = .returned (.tuple #[.int .i64 v.1, .int .i64 v.2.1, .bool v.2.2])
theorem hsplit_any (x : Int) (w : World) :
    Calls Tryz.prog 158 #[.int .i64 x] w fun e w' => SplitE (splitV x) e ∧ w = w' := by
  by_cases h0 : x < 0
  · have HV := Lib.hid (show splitV x = (0, 0, false) by unfold splitV; rw [if_pos (.inl h0)])
    have a0 : decide (x < 0) = true := by simpa using h0
    clear h0
    go_enter Tryz.func158, Tryz.ntmps158
    go_wp2_with fail
    go_ret3
    exact ⟨by rw [HV.out]; rfl, rfl⟩
  · have a0 : decide (x < 0) = false := by simpa using h0
    obtain ⟨q, hq⟩ : ∃ q, q = quoW x := ⟨_, rfl⟩
    have k1 : IntKind.i64.wrap (x.tdiv 128) = q := hq.symm
    by_cases h1 : 1099511627776 ≤ q
    · have HV := Lib.hid (show splitV x = (0, 0, false) by unfold splitV; rw [if_pos (.inr (by rw [← hq]; exact h1))])
      have a1 : decide (1099511627776 ≤ q) = true := by simpa using h1
      clear h0 h1 hq
      go_enter Tryz.func158, Tryz.ntmps158
      go_wp2_with fail
      go_ret3
      exact ⟨by rw [HV.out]; rfl, rfl⟩
    · have HV := Lib.hid (show splitV x = (q, x.tmod 128, true) by unfold splitV; rw [if_neg (by rw [← hq]; omega), ← hq])
      have a1 : decide (1099511627776 ≤ q) = false := by simpa using h1
      have k2 : IntKind.i64.wrap (x.tmod 128) = x.tmod 128 := by rw [IntKind.wrap_i64]; have := Int.tmod_lt_of_pos x (show (0 : Int) < 128 by decide); have := Int.lt_tmod_of_pos x (show (0 : Int) < 128 by decide); omega
      clear h0 h1 hq
      go_enter Tryz.func158, Tryz.ntmps158
      go_wp2_with fail
      go_ret3
      exact ⟨by rw [HV.out]; rfl, rfl⟩
section
variable {w w' : World} {b : Sl} {S : Sm}
def hasO (S : Sm) (a : Int) : Bool := hasB S.C.xs.length S.C.ws a
def readV (S : Sm) (a : Int) : Int × Int := if hasO S a = true then ((splitV (loadV S.C.xs a)).1, (splitV (loadV S.C.xs a)).2.1) else (-1, -1)
set_option maxHeartbeats 1000000 in
theorem sread_any (h : StX w b S) (a : Int) :
    Calls Tryz.prog 101 #[.pointer (some ⟨b.s, 0, none⟩), .int .i64 a] w fun e w' => SlowE (readV S a) e ∧ w = w' := by
  have H := Lib.hid h
  obtain ⟨c0, -⟩ := h.cells
  clear h
  cases hb : hasO S a with
  | false =>
    have HB := Lib.hid (show hasB S.C.xs.length S.C.ws a = false from hb)
    have HV := Lib.hid (show readV S a = (-1, -1) by unfold readV; rw [hb]; rfl)
    clear hb
    go_enter Tryz.func101, Tryz.ntmps101
    go_wp2_with (first
      | (go_at_call 84; refine (sis_any H.out).mono ?_; rintro e w1 ⟨rfl, rfl⟩)
      | (go_at_call 150; refine (cisa_any H.out.cx a).mono ?_; rw [HB.out]; rintro e w1 ⟨rfl, rfl⟩))
    go_ret2
    exact ⟨by rw [HV.out]; rfl, rfl⟩
  | true =>
    have HB := Lib.hid (show hasB S.C.xs.length S.C.ws a = true from hb)
    have HV := Lib.hid (show readV S a = ((splitV (loadV S.C.xs a)).1, (splitV (loadV S.C.xs a)).2.1) by unfold readV; rw [hb]; rfl)
    clear hb
    go_enter Tryz.func101, Tryz.ntmps101
    go_wp2_with (first
      | (go_at_call 84; refine (sis_any H.out).mono ?_; rintro e w1 ⟨rfl, rfl⟩)
      | (go_at_call 150; refine (cisa_any H.out.cx a).mono ?_; rw [HB.out]; rintro e w1 ⟨rfl, rfl⟩)
      | (go_at_call 95; refine (cload_any H.out.cx a).mono ?_; rintro e w1 ⟨rfl, rfl⟩)
      | (go_at_call 158; refine (hsplit_any _ _).mono ?_; rintro e w1 ⟨rfl, rfl⟩))
    go_ret2
    exact ⟨by rw [HV.out]; rfl, rfl⟩
theorem sfields_any (h : StX w b S) (a : Int) :
    Calls Tryz.prog 44 #[.pointer (some ⟨b.s, 0, none⟩), .int .i64 a] w fun e w' => e = .returned (.int .i64 (readV S a).2) ∧ w = w' := by
  have H := Lib.hid h
  clear h
  go_enter Tryz.func44, Tryz.ntmps44
  go_wp2_with (go_at_call 101; refine (sread_any H.out a).mono ?_; rintro e w1 ⟨rfl, rfl⟩)
  go_ret
  exact ⟨rfl, rfl⟩
theorem sserial_any (h : StX w b S) (a : Int) :
    Calls Tryz.prog 45 #[.pointer (some ⟨b.s, 0, none⟩), .int .i64 a] w fun e w' => e = .returned (.int .i64 (readV S a).1) ∧ w = w' := by
  have H := Lib.hid h
  clear h
  go_enter Tryz.func45, Tryz.ntmps45
  go_wp2_with (go_at_call 101; refine (sread_any H.out a).mono ?_; rintro e w1 ⟨rfl, rfl⟩)
  go_ret
  exact ⟨rfl, rfl⟩
theorem smade_any (h : StX w b S) :
    Calls Tryz.prog 52 #[.pointer (some ⟨b.s, 0, none⟩)] w fun e w' => e = .returned (.int .i64 S.md) ∧ w = w' := by
  have H := Lib.hid h
  obtain ⟨-, -, -, -, c4, -⟩ := h.cells
  clear h
  go_enter Tryz.func52, Tryz.ntmps52
  go_wp2_with (go_at_call 84; refine (sis_any H.out).mono ?_; rintro e w1 ⟨rfl, rfl⟩)
  go_ret
  exact ⟨rfl, rfl⟩
end
end Go.Proofs.YtjoejjhgneccgaaGreatDoor

/- A store: a page's kind, how many are free, whose it is. -/
namespace Go.Proofs.YtjoejjhgneccgaaGreatDoor
open Go.RowKit

section
variable {w w' : World} {b : Sl} {S : Sm}
theorem skind_any (h : StX w b S) (q : Int) :
    Calls Tryz.prog 50 #[.pointer (some ⟨b.s, 0, none⟩), .int .i64 q] w fun e w' => e = .returned (.int .i64 (kindL S.C.ks q)) ∧ Below w.heap.size w w' := by
  have H := Lib.hid h
  obtain ⟨c0, -⟩ := h.cells
  clear h
  go_enter Tryz.func50, Tryz.ntmps50
  go_wp2_with (first
    | (go_at_call 84; refine (sis_any H.out).mono ?_; rintro e w1 ⟨rfl, rfl⟩)
    | (go_at_call 106; refine (ckind_any H.out.cx q).mono ?_; rintro e w1 ⟨rfl, hb⟩; have B1 := Lib.hid hb; clear hb))
  go_ret
  exact ⟨rfl, B1.out⟩
theorem spages_any (h : StX w b S) :
    Calls Tryz.prog 49 #[.pointer (some ⟨b.s, 0, none⟩)] w fun e w' => e = .returned (.int .i64 (countL S.C.ks)) ∧ Below w.heap.size w w' := by
  have H := Lib.hid h
  obtain ⟨c0, -⟩ := h.cells
  clear h
  go_enter Tryz.func49, Tryz.ntmps49
  go_wp2_with (first
    | (go_at_call 84; refine (sis_any H.out).mono ?_; rintro e w1 ⟨rfl, rfl⟩)
    | (go_at_call 105; refine (cfree_any H.out.cx).mono ?_; rintro e w1 ⟨rfl, hb⟩; have B1 := Lib.hid hb; clear hb))
  go_ret
  exact ⟨rfl, B1.out⟩
def OwnT (M : OwnM) (q : Int) (e : Ending) : Prop := ∃ t : Int, e = .returned (.int .i64 t) ∧ ((0 ≤ t ∧ ∃ k, M t k = some q) ∨ (t = -1 ∧ ownB M q = false))
theorem sowner_any (h : StX w b S) (q : Int) :
    Calls Tryz.prog 51 #[.pointer (some ⟨b.s, 0, none⟩), .int .i64 q] w fun e w' => OwnT S.M q e ∧ Below w.heap.size w w' := by
  have H := Lib.hid h
  obtain ⟨-, c1, -⟩ := h.cells
  clear h
  cases ho : ownB S.M q with
  | true =>
    go_enter Tryz.func51, Tryz.ntmps51
    go_wp2_with (first
      | (go_at_call 84; refine (sis_any H.out).mono ?_; rintro e w1 ⟨rfl, rfl⟩)
      | (go_at_call 107; refine (caowner_yes H.out.ca q ho).mono ?_; rintro e w1 ⟨⟨t, k, rfl, ht⟩, hb⟩; have B1 := Lib.hid hb; have HT := Lib.hid ht; clear hb ht))
    go_ret
    exact ⟨⟨t, rfl, .inl ⟨(H.out.ca.mp.dom t k q HT.out).1, k, HT.out⟩⟩, B1.out⟩
  | false =>
    go_enter Tryz.func51, Tryz.ntmps51
    go_wp2_with (first
      | (go_at_call 84; refine (sis_any H.out).mono ?_; rintro e w1 ⟨rfl, rfl⟩)
      | (go_at_call 107; refine (caowner_no H.out.ca q ho).mono ?_; rintro e w1 ⟨rfl, hb⟩; have B1 := Lib.hid hb; clear hb))
    go_ret
    exact ⟨⟨-1, rfl, .inr ⟨rfl, ho⟩⟩, B1.out⟩
end
end Go.Proofs.YtjoejjhgneccgaaGreatDoor

/- A store: an object is gone. -/
namespace Go.Proofs.YtjoejjhgneccgaaGreatDoor
open Go.RowKit

/-- What begins at an address is given back. -/
def giveD (C : Cs) (a : Nat) : Cs :=
  if C.ks.getD (a / 32) 0 = 5 then giveL C a else giveS C a (a / 32) (C.ks.getD (a / 32) 0) ((a : Int) % 32 / sizeI (C.ks.getD (a / 32) 0)) (C.ch.getD (a / 32) (0, 0)).1 (C.ch.getD (a / 32) (0, 0)).2
def giveC (C : Cs) (a : Int) : Cs := if hasB C.xs.length C.ws a = true then giveD C a.toNat else C
theorem cgive_any {w : World} {b : Bl} {C : Cs} {F : Nat → List Int} (h : CX w b C) (hi : Inv C F) (a : Int) :
    Calls Tryz.prog 97 #[.pointer (some ⟨b.c, 0, none⟩), .int .i64 a] w fun e w' => e = .returned (.bool (hasB C.xs.length C.ws a)) ∧ CX w' b (giveC C a) ∧ Frm b.fp w w' := by
  cases hb : hasB C.xs.length C.ws a with
  | false =>
    have hg : giveC C a = C := by unfold giveC; rw [hb]; rfl
    rw [hg]
    refine (cgive_no h a hb).mono ?_
    rintro e w' ⟨rfl, rfl⟩
    exact ⟨rfl, h, Frm.refl _ _⟩
  | true =>
    have hg : giveC C a = giveD C a.toNat := by unfold giveC; rw [hb]; rfl
    rw [hg]
    obtain ⟨x, rfl, hl, -, ht⟩ := has_tk hi hb
    rw [Int.toNat_natCast]
    have hle := hi.le
    unfold giveD
    rcases tk_cases ht with ⟨k1, k4, hal, hn⟩ | ⟨h5, h0⟩
    · rw [if_neg (by omega)]
      exact (cgive_small h x hb _ _ _ _ _ (give_ok hi hl k1 k4 hal hn)).mono fun e w' hr => hr
    · rw [if_pos h5]
      have hp : kindL C.ks (pageI (x : Int)) = 5 := by
        rw [pageI_in (by omega) (by omega), show (x : Int) / 32 = ((x / 32 : Nat) : Int) by omega, kindL_in (by omega)]
        exact h5
      exact (cgive_large h x hb hp).mono fun e w' hr => hr
section
variable {w w' : World} {b : Sl} {S : Sm}
def freeS (S : Sm) (a : Int) : Sm := { S with C := giveC S.C a }
theorem sfree_any (h : StX w b S) (si : SI S) (a : Int) :
    Calls Tryz.prog 41 #[.pointer (some ⟨b.s, 0, none⟩), .int .i64 a] w fun e w' => e = .returned (.bool (hasO S a)) ∧ StX w' b (freeS S a) ∧ Frm b.fp w w' := by
  have H := Lib.hid h
  obtain ⟨F, hi⟩ := si.inv
  have HI := Lib.hid hi
  obtain ⟨c0, -⟩ := h.cells
  obtain ⟨r, hr⟩ : ∃ r, r = hasB S.C.xs.length S.C.ws a := ⟨_, rfl⟩
  have HR := Lib.hid hr
  clear h hr hi si
  go_enter Tryz.func41, Tryz.ntmps41
  go_wp2_with (first
    | (go_at_call 84; refine (sis_any H.out).mono ?_; rintro e w1 ⟨rfl, rfl⟩)
    | (go_at_call 97; refine (cgive_any H.out.cx HI.out a).mono ?_; rw [← HR.out]; rintro e w1 ⟨rfl, hx, hf⟩; have H1 := Lib.hid (H.out.withCX hf hx); have F1 := Lib.hid (hf.sub (fp' := b.fp) b.sub_cb); clear hx hf))
  go_ret
  exact ⟨ret_bool HR.out, H1.out, F1.out⟩
end
end Go.Proofs.YtjoejjhgneccgaaGreatDoor

/- A store: what holds behind Free (plain). -/
namespace Go.Proofs.YtjoejjhgneccgaaGreatDoor
open Go.RowKit

section
variable {S : Sm}
theorem SI.withK {C : Cs} (h : SI S) (hi : ∃ F, Inv C F) (hl : C.ks.length = S.C.ks.length) (hk : ∀ t k, ∀ q : Nat, S.M t k = some (q : Int) → q < S.C.ks.length → C.ks.getD q 0 = S.C.ks.getD q 0) : SI { S with C := C } :=
  ⟨hi, h.np.trans (by rw [hl]), h.dom, fun t k p hm => by
    obtain ⟨q, rfl, h1, h2, h3⟩ := h.own t k p hm
    refine ⟨q, rfl, ?_, ?_, h3⟩
    · show q < C.ks.length
      omega
    · show C.ks.getD q 0 = k
      rw [hk t k q hm h1, h2], h.inj, h.th⟩
theorem free_small {ks : List Int} {p q : Nat} (hp : p < ks.length) (h5 : ks.getD p 0 = 5) (hq : q < ks.length) (k1 : 1 ≤ ks.getD q 0) (k4 : ks.getD q 0 ≤ 4) : (freeL ks (p : Int)).getD q 0 = ks.getD q 0 := by
  unfold freeL
  rw [Int.toNat_natCast, fillL_get _ _ _ _ _ hq, if_neg]
  rintro ⟨h1, h2⟩
  have hk : kindL ks (p : Int) = 5 := by rw [kindL_in hp]; exact h5
  have hs : sizeL ks (p : Int) = 1 + (run6 ks (p + 1) : Int) := by
    unfold sizeL
    rw [hk, if_neg (by decide), if_neg (by decide), Int.toNat_natCast]
  rw [hs] at h2
  by_cases e : q = p
  · subst e; omega
  · have := run6_all ks (p + 1) (q - (p + 1)) (by omega)
    rw [show p + 1 + (q - (p + 1)) = q by omega] at this
    omega
theorem SI.free (h : SI S) (a : Int) : SI (freeS S a) := by
  obtain ⟨F, hi⟩ := h.inv
  unfold freeS giveC
  cases hb : hasB S.C.xs.length S.C.ws a with
  | false => exact h
  | true =>
    obtain ⟨x, rfl, hl, -, ht⟩ := has_tk hi hb
    rw [if_pos rfl, Int.toNat_natCast]
    have hle := hi.le
    unfold giveD
    rcases tk_cases ht with ⟨k1, k4, hal, hn⟩ | ⟨h5, h0⟩
    · rw [if_neg (by omega)]
      exact h.withK ⟨_, inv_give hi hb hl k1 k4 hal hn⟩ rfl fun _ _ _ _ _ => rfl
    · rw [if_pos h5]
      refine h.withK ⟨_, inv_give_large hi hb hl h5 h0⟩ (freeL_len _ _) fun t k q hm hq => ?_
      show (freeL S.C.ks (pageI (x : Int))).getD q 0 = _
      obtain ⟨q', e, -, h2, -⟩ := h.own t k _ hm
      have := h.dom t k _ hm
      obtain rfl : q = q' := by omega
      rw [pageI_in (by omega) (by omega), show (x : Int) / 32 = ((x / 32 : Nat) : Int) by omega]
      exact free_small (by omega) h5 hq (by omega) (by omega)
end
end Go.Proofs.YtjoejjhgneccgaaGreatDoor

/- A value's word: may it be. -/
namespace Go.Proofs.YtjoejjhgneccgaaGreatDoor
open Go.RowKit

def checkV (k n : Int) : Int :=
  if k = 0 then (if (n == 0) = true then 0 else 4)
  else if k = 1 then (if decide (-1099511627776 ≤ n) = true then (if decide (n < 1099511627776) = true then 0 else 4) else 4)
  else if k = 2 then (if decide (0 ≤ n) = true then (if decide (n < 2048) = true then 0 else 4) else 4)
  else 12
set_option maxHeartbeats 2000000 in
theorem wcheck_any (k n : Int) (w : World) :
    Calls Tryz.prog 149 #[.agg #[.int .i64 k, .int .i64 n]] w fun e w' => e = .returned (.int .i64 (checkV k n)) ∧ Below w.heap.size w w' := by
  have B0 := Lib.hid (below_alloc0 w (.cells #[.int .i64 k, .int .i64 n] 70))
  have c0 : (w.alloc (.cells #[.int .i64 k, .int .i64 n] 70)).cell? ⟨w.heap.size, 0, none⟩ = some (.int .i64 k) := cell_of_row _ _ _ _ _ _ (heap_alloc_new w _)
  have c1 : (w.alloc (.cells #[.int .i64 k, .int .i64 n] 70)).cell? ⟨w.heap.size, 1, none⟩ = some (.int .i64 n) := cell_of_row _ _ _ _ _ _ (heap_alloc_new w _)
  obtain ⟨r, hr⟩ : ∃ r, r = checkV k n := ⟨_, rfl⟩
  rw [← hr]
  unfold checkV at hr
  by_cases h0 : k = 0
  · subst h0
    cases hb : (n == 0)
    all_goals
      rw [hb] at hr
      simp only [reduceIte, reduceCtorEq] at hr
      subst hr
      go_enter Tryz.func149, Tryz.ntmps149
      go_wp2_with fail
      go_ret
      exact ⟨rfl, B0.out⟩
  by_cases h1 : k = 1
  · subst h1
    cases hb : decide (-1099511627776 ≤ n)
    · rw [hb] at hr
      simp at hr
      subst hr
      go_enter Tryz.func149, Tryz.ntmps149
      go_wp2_with fail
      go_ret
      exact ⟨rfl, B0.out⟩
    · cases hc : decide (n < 1099511627776)
      all_goals
        rw [hb, hc] at hr
        simp at hr
        subst hr
        go_enter Tryz.func149, Tryz.ntmps149
        go_wp2_with fail
        go_ret
        exact ⟨rfl, B0.out⟩
  by_cases h2 : k = 2
  · subst h2
    cases hb : decide (0 ≤ n)
    · rw [hb] at hr
      simp at hr
      subst hr
      go_enter Tryz.func149, Tryz.ntmps149
      go_wp2_with fail
      go_ret
      exact ⟨rfl, B0.out⟩
    · cases hc : decide (n < 2048)
      all_goals
        rw [hb, hc] at hr
        simp at hr
        subst hr
        go_enter Tryz.func149, Tryz.ntmps149
        go_wp2_with fail
        go_ret
        exact ⟨rfl, B0.out⟩
  rw [if_neg h0, if_neg h1, if_neg h2] at hr
  subst hr
  have e0 : (k == 0) = false := by simpa using h0
  have e1 : (k == 1) = false := by simpa using h1
  have e2 : (k == 2) = false := by simpa using h2
  go_enter Tryz.func149, Tryz.ntmps149
  go_wp2_with fail
  go_ret
  exact ⟨rfl, B0.out⟩
end Go.Proofs.YtjoejjhgneccgaaGreatDoor

/- A value's word: put. -/
namespace Go.Proofs.YtjoejjhgneccgaaGreatDoor
open Go.RowKit

def putW (k n : Int) : Int := if k = 0 then 0 else if k = 1 then 2 * n + 1 else 2 * n + 2
theorem check_ok {k n : Int} (h : checkV k n = 0) : (k = 0 ∧ n = 0) ∨ (k = 1 ∧ -1099511627776 ≤ n ∧ n < 1099511627776) ∨ (k = 2 ∧ 0 ≤ n ∧ n < 2048) := by
  unfold checkV at h
  simp only [beq_iff_eq, decide_eq_true_eq] at h
  split at h
  · split at h <;> omega
  split at h
  · split at h
    · split at h <;> omega
    · omega
  split at h
  · split at h
    · split at h <;> omega
    · omega
  · omega
def PutE (k n : Int) (e : Ending) : Prop := e = .returned (.tuple #[.int .i64 (if checkV k n = 0 then putW k n else 0), .bool (checkV k n == 0)])
set_option maxHeartbeats 2000000 in
theorem wput_any (k n : Int) (w : World) :
    Calls Tryz.prog 98 #[.agg #[.int .i64 k, .int .i64 n]] w fun e w' => PutE k n e ∧ Below w.heap.size w w' := by
  have B0 := Lib.hid (below_alloc0 w (.cells #[.int .i64 k, .int .i64 n] 70))
  have A0 := Lib.hid (heap_alloc_new w (.cells #[.int .i64 k, .int .i64 n] 70))
  have c0 : (w.alloc (.cells #[.int .i64 k, .int .i64 n] 70)).cell? ⟨w.heap.size, 0, none⟩ = some (.int .i64 k) := cell_of_row _ _ _ _ _ _ A0.out
  have c1 : (w.alloc (.cells #[.int .i64 k, .int .i64 n] 70)).cell? ⟨w.heap.size, 1, none⟩ = some (.int .i64 n) := cell_of_row _ _ _ _ _ _ A0.out
  by_cases hc : checkV k n = 0
  · have HC := Lib.hid hc
    have HE : Hid (∀ e, e = .returned (.tuple #[.int .i64 (putW k n), .bool true]) → PutE k n e) := Lib.hid (fun e he => by unfold PutE; rw [if_pos hc, hc]; exact he)
    rcases check_ok hc with ⟨rfl, rfl⟩ | ⟨rfl, h1, h2⟩ | ⟨rfl, h1, h2⟩
    · clear hc
      go_enter Tryz.func98, Tryz.ntmps98
      go_wp2_with (go_at_call 149; refine (wcheck_any _ _ _).mono ?_; rw [HC.out]; rintro e w1 ⟨rfl, hb⟩; have B1 := Lib.hid (below_next B0.out hb); have z := keep hb A0.out; have d0 : w1.cell? ⟨w.heap.size, 0, none⟩ = some (.int .i64 0) := cell_of_row _ _ _ _ _ _ z; clear z hb)
      go_ret2
      exact ⟨HE.out _ rfl, B1.out⟩
    · have k1 : IntKind.i64.wrap (2 * n) = 2 * n := by rw [IntKind.wrap_i64]; omega
      have k2 : IntKind.i64.wrap (2 * n + 1) = 2 * n + 1 := by rw [IntKind.wrap_i64]; omega
      have k3 : IntKind.i64.wrap (0 + (2 * n + 1)) = 2 * n + 1 := by rw [IntKind.wrap_i64]; omega
      clear hc h1 h2
      go_enter Tryz.func98, Tryz.ntmps98
      go_wp2_with (go_at_call 149; refine (wcheck_any _ _ _).mono ?_; rw [HC.out]; rintro e w1 ⟨rfl, hb⟩; have B1 := Lib.hid (below_next B0.out hb); have z := keep hb A0.out; have d0 : w1.cell? ⟨w.heap.size, 0, none⟩ = some (.int .i64 1) := cell_of_row _ _ _ _ _ _ z; have d1 : w1.cell? ⟨w.heap.size, 1, none⟩ = some (.int .i64 n) := cell_of_row _ _ _ _ _ _ z; clear z hb)
      go_ret2
      exact ⟨HE.out _ rfl, B1.out⟩
    · have k1 : IntKind.i64.wrap (2 * n) = 2 * n := by rw [IntKind.wrap_i64]; omega
      have k2 : IntKind.i64.wrap (2 * n + 1) = 2 * n + 1 := by rw [IntKind.wrap_i64]; omega
      have k3 : IntKind.i64.wrap (1 + (2 * n + 1)) = 2 * n + 2 := by rw [IntKind.wrap_i64]; omega
      clear hc h1 h2
      go_enter Tryz.func98, Tryz.ntmps98
      go_wp2_with (go_at_call 149; refine (wcheck_any _ _ _).mono ?_; rw [HC.out]; rintro e w1 ⟨rfl, hb⟩; have B1 := Lib.hid (below_next B0.out hb); have z := keep hb A0.out; have d0 : w1.cell? ⟨w.heap.size, 0, none⟩ = some (.int .i64 2) := cell_of_row _ _ _ _ _ _ z; have d1 : w1.cell? ⟨w.heap.size, 1, none⟩ = some (.int .i64 n) := cell_of_row _ _ _ _ _ _ z; clear z hb)
      go_ret2
      exact ⟨HE.out _ rfl, B1.out⟩
  · have z0 : (checkV k n == 0) = false := by simpa using hc
    have HE : Hid (∀ e, e = .returned (.tuple #[.int .i64 0, .bool false]) → PutE k n e) := Lib.hid (fun e he => by unfold PutE; rw [if_neg hc, z0]; exact he)
    clear hc
    go_enter Tryz.func98, Tryz.ntmps98
    go_wp2_with (go_at_call 149; refine (wcheck_any _ _ _).mono ?_; rintro e w1 ⟨rfl, hb⟩; have B1 := Lib.hid (below_next B0.out hb); clear hb)
    go_ret2
    exact ⟨HE.out _ rfl, B1.out⟩
end Go.Proofs.YtjoejjhgneccgaaGreatDoor
