/- A store: what holds behind each call (plain). -/
import Derived.Test.YtjoejjhgneccgaaGreatQSK10
import Derived.Test.YtjoejjhgneccgaaGreatQSK12
namespace Go.Proofs.YtjoejjhgneccgaaGreat
open Go.RowKit

theorem inv_storeC {C : Cs} {F : Nat → List Int} (h : Inv C F) (a v : Int) : Inv (storeC C a v) F := by
  unfold storeC
  split
  · rename_i h0
    obtain ⟨z, y, rfl, hz, h1, h2, -⟩ := base_in_mem h h0
    exact inv_store h hz h1 h2 v
  · exact h
theorem storeC_ks (C : Cs) (a v : Int) : (storeC C a v).ks = C.ks := by unfold storeC; split <;> rfl
/-- What holds of a store behind each call. -/
structure SI (S : Sm) : Prop where
  inv : ∃ F, Inv S.C F
  np : S.np = (S.C.ks.length : Nat)
  dom : Dom S.M
  own : ∀ t k p, S.M t k = some p → ∃ q : Nat, p = q ∧ q < S.C.ks.length ∧ S.C.ks.getD q 0 = k ∧ t < S.th
  inj : ∀ t k t' k' p, S.M t k = some p → S.M t' k' = some p → t = t' ∧ k = k'
  th : 0 ≤ S.th ∧ S.th ≤ 9
section
variable {S : Sm}
theorem SI.withC {C : Cs} (h : SI S) (hi : ∃ F, Inv C F) (hl : C.ks.length = S.C.ks.length) (hk : ∀ q, q < S.C.ks.length → S.C.ks.getD q 0 ≠ 0 → C.ks.getD q 0 = S.C.ks.getD q 0) : SI { S with C := C } :=
  ⟨hi, h.np.trans (by rw [hl]), h.dom, fun t k p hm => by
    obtain ⟨q, rfl, h1, h2, h3⟩ := h.own t k p hm
    have := h.dom t k _ hm
    refine ⟨q, rfl, ?_, ?_, h3⟩
    · show q < C.ks.length
      omega
    · show C.ks.getD q 0 = k
      rw [hk q h1 (by omega), h2], h.inj, h.th⟩
theorem SI.begin (h : SI S) (a n : Int) : SI (S.begin a n) := by
  obtain ⟨F, hi⟩ := h.inv
  have := h.withC (C := storeC S.C a (S.md * 128 + n)) ⟨F, inv_storeC hi _ _⟩ (by rw [storeC_ks]) (fun q _ _ => by rw [storeC_ks])
  exact ⟨this.inv, this.np, this.dom, this.own, this.inj, this.th⟩
/-- The free cell of a page. -/
structure Tak (C : Cs) (q : Nat) : Prop where
  ok : TakeP C q (C.ks.getD q 0) (C.ch.getD q (0, 0)).1 (C.ch.getD q (0, 0)).2 (C.xs.getD (cad q (C.ks.getD q 0) (C.ch.getD q (0, 0)).1).toNat 0)
  inv : ∃ F, Inv (takeC C q (C.ks.getD q 0) (C.ch.getD q (0, 0)).1 (C.ch.getD q (0, 0)).2 (C.xs.getD (cad q (C.ks.getD q 0) (C.ch.getD q (0, 0)).1).toNat 0)) F
theorem tak_at {C : Cs} {F : Nat → List Int} (hi : Inv C F) {p : Int} (h0 : leftL C p ≠ 0) : ∃ q : Nat, p = q ∧ q < C.ks.length ∧ Tak C q := by
  have hs : 0 < sizeI (kindL C.ks p) := by
    apply Decidable.byContradiction; intro hc
    exact h0 (by unfold leftL; rw [if_neg hc])
  obtain ⟨p0, p1⟩ := small_in hs
  obtain ⟨q, rfl⟩ := Int.eq_ofNat_of_zero_le p0
  have hq : q < C.ks.length := by omega
  refine ⟨q, rfl, hq, ?_⟩
  rw [kindL_in hq] at hs
  have hk : 1 ≤ C.ks.getD q 0 ∧ C.ks.getD q 0 ≤ 4 := by
    apply Decidable.byContradiction; intro hc
    rw [sizeI_zero (by omega)] at hs; omega
  obtain ⟨-, h2, -⟩ := hi.ln q hq hk.1 hk.2
  cases hF : F q with
  | nil =>
    rw [hF] at h2
    exact absurd (by unfold leftL; rw [kindL_in hq, if_pos hs]; simpa using h2) h0
  | cons f l =>
    obtain ⟨g, ht, hl⟩ := take_ok hi hq hk.1 hk.2 hF
    have hv := inv_take hi hq hk.1 hk.2 hF ht hl
    have e1 : (C.ch.getD q (0, 0)).1 = f := by rw [ht.ch]
    have e2 : (C.ch.getD q (0, 0)).2 = (l.length : Int) + 1 := by rw [ht.ch]
    refine ⟨?_, ?_⟩
    · rw [e1, e2, ht.wd]; exact ht
    · rw [e1, e2, ht.wd]; exact ⟨_, hv⟩
/-- A page's cell is taken, and an object begins in it. -/
def cellA (C : Cs) (q : Nat) : Int := cad q (C.ks.getD q 0) (C.ch.getD q (0, 0)).1
def takeS (S : Sm) (q : Nat) : Sm := S.take q (S.C.ks.getD q 0) (S.C.ch.getD q (0, 0)).1 (S.C.ch.getD q (0, 0)).2 (S.C.xs.getD (cad q (S.C.ks.getD q 0) (S.C.ch.getD q (0, 0)).1).toNat 0)
def pageOf (S : Sm) (t n : Int) : Int := pageM S.M t (ofI n)
def fastB (S : Sm) (t n : Int) : Bool := smallB n && !(leftL S.C (pageOf S t n) == 0)
def fastV (S : Sm) (t n : Int) : Option Int := if fastB S t n = true then some (cellA S.C (pageOf S t n).toNat) else none
def fastS (S : Sm) (t n : Int) : Sm := if fastB S t n = true then (takeS S (pageOf S t n).toNat).begin (cellA S.C (pageOf S t n).toNat) n else S
theorem SI.take (h : SI S) {q : Nat} (ht : Tak S.C q) : SI (takeS S q) := h.withC ht.inv rfl (fun _ _ _ => rfl)
theorem SI.fast (h : SI S) (t n : Int) : SI (fastS S t n) := by
  unfold fastS
  split
  · rename_i hb
    obtain ⟨F, hi⟩ := h.inv
    unfold fastB at hb
    have h0 : leftL S.C (pageOf S t n) ≠ 0 := by simp at hb; exact hb.2
    obtain ⟨q, hq, -, ht⟩ := tak_at hi h0
    rw [hq, Int.toNat_natCast]
    exact (h.take ht).begin _ _
  · exact h
theorem SI.large (h : SI S) {n : Int} {p : Nat} (hs : spanL S.C.ks n = some p) : SI { S with C := largeC S.C n } := by
  obtain ⟨F, hi⟩ := h.inv
  have hz := span_zero hs
  obtain ⟨hn, hp⟩ := spanL_lt hs
  have hks : (largeC S.C n).ks = spanS S.C.ks p n.toNat := by unfold largeC; rw [hs]
  have hle := hi.le
  refine h.withC ⟨F, inv_large hi hs⟩ (by rw [hks]; unfold spanS; simp [fillL_len]) (fun q hq h0 => ?_)
  have hne : ¬ (p ≤ q ∧ q < p + n.toNat) := fun hc => h0 (hz q hc.1 hc.2)
  have hqp : q ≠ p := by omega
  rw [hks]
  unfold spanS
  rw [getD_set_other (by omega), fillL_get _ _ _ _ _ (by omega), if_neg (by omega)]
theorem SI.carve (h : SI S) {k : Int} {p : Nat} (ht : takeT S.C.ks k = some p) : SI { S with C := carveC S.C k } := by
  obtain ⟨F, hi⟩ := h.inv
  have hk : (carveC S.C k).ks = S.C.ks.set p k := by unfold carveC; rw [ht]
  have h0 : S.C.ks.getD p 0 = 0 := by
    unfold takeT at ht
    split at ht
    · cases ht
    · exact idx0_zero ht
  refine h.withC ⟨_, inv_carve hi ht⟩ (by rw [hk]; simp) (fun q hq h1 => ?_)
  have hqp : q ≠ p := fun e => h1 (e ▸ h0)
  rw [hk, getD_set_other (Ne.symm hqp)]
/-- A page that is nobody's becomes a thread's. -/
def Sm.give (S : Sm) (t k p : Int) : Sm := { S with M := updM S.M t k (some p) }
theorem SI.give (h : SI S) {t k : Int} {q : Nat} (t0 : 0 ≤ t) (t1 : t < S.th) (k1 : 1 ≤ k) (k4 : k ≤ 4) (hq : q < S.C.ks.length) (hk : S.C.ks.getD q 0 = k) (hn : ∀ t' k', S.M t' k' ≠ some (q : Int)) : SI (S.give t k q) := by
  obtain ⟨F, hi⟩ := h.inv
  have hle := hi.le
  have hth := h.th
  refine ⟨h.inv, h.np, fun t' k' p hm => ?_, fun t' k' p hm => ?_, fun t1 k1 t2 k2 p hm1 hm2 => ?_, h.th⟩
  · by_cases e : t' = t ∧ k' = k
    · obtain ⟨rfl, rfl⟩ := e
      simp only [Sm.give, updM_same] at hm
      cases hm
      omega
    · simp only [Sm.give, updM_other _ e] at hm
      exact h.dom t' k' p hm
  · by_cases e : t' = t ∧ k' = k
    · obtain ⟨rfl, rfl⟩ := e
      simp only [Sm.give, updM_same] at hm
      cases hm
      exact ⟨q, rfl, hq, hk, t1⟩
    · simp only [Sm.give, updM_other _ e] at hm
      exact h.own t' k' p hm
  · by_cases e1 : t1 = t ∧ k1 = k
    · by_cases e2 : t2 = t ∧ k2 = k
      · omega
      · obtain ⟨rfl, rfl⟩ := e1
        simp only [Sm.give, updM_same, updM_other _ e2] at hm1 hm2
        cases hm1
        exact absurd hm2 (hn _ _)
    · by_cases e2 : t2 = t ∧ k2 = k
      · obtain ⟨rfl, rfl⟩ := e2
        simp only [Sm.give, updM_same, updM_other _ e1] at hm1 hm2
        cases hm2
        exact absurd hm1 (hn _ _)
      · simp only [Sm.give, updM_other _ e1, updM_other _ e2] at hm1 hm2
        exact h.inj _ _ _ _ _ hm1 hm2
/-- What is opened. -/
theorem SI.open (h : SI S) {k : Int} {p : Nat} (ho : openP S k = some p) : SI (openS S k) ∧ p < (openS S k).C.ks.length ∧ (openS S k).C.ks.getD p 0 = k ∧ (openS S k).M = S.M ∧ (openS S k).th = S.th ∧ ∀ t' k', S.M t' k' ≠ some (p : Int) := by
  unfold openP at ho
  unfold openS
  cases hL : openL S k with
  | some q =>
    rw [hL] at ho
    cases ho
    unfold openL at hL
    have hlt := List.mem_range.1 (List.mem_of_find?_eq_some hL)
    have h1 := List.find?_some hL
    unfold openB at h1
    simp only [Bool.and_eq_true, Bool.not_eq_true', beq_iff_eq, decide_eq_true_eq] at h1
    obtain ⟨⟨h1, h2⟩, h3⟩ := h1
    refine ⟨h, hlt, by rw [← kindL_in hlt]; exact h2, rfl, rfl, fun t' k' hm => ?_⟩
    rw [(ownB_iff h.dom _).2 ⟨t', k', hm⟩] at h1
    cases h1
  | none =>
    rw [hL] at ho
    simp only at ho
    have h0 : S.C.ks.getD p 0 = 0 ∧ p < S.C.ks.length := by
      unfold takeT at ho
      split at ho
      · cases ho
      · exact ⟨idx0_zero ho, idx0_lt ho⟩
    have hk : (carveC S.C k).ks = S.C.ks.set p k := by unfold carveC; rw [ho]
    refine ⟨h.carve ho, ?_, ?_, rfl, rfl, fun t' k' hm => ?_⟩
    · show p < (carveC S.C k).ks.length
      rw [hk]; simpa using h0.2
    · show (carveC S.C k).ks.getD p 0 = k
      rw [hk, getD_set_same h0.2]
    · obtain ⟨q, e, -, h2, -⟩ := h.own t' k' _ hm
      have := h.dom t' k' _ hm
      have : q = p := by omega
      subst this
      omega
end
end Go.Proofs.YtjoejjhgneccgaaGreat

/- A store: fast and slow, from what holds. -/
namespace Go.Proofs.YtjoejjhgneccgaaGreat
open Go.RowKit

def FastE (o : Option Int) (e : Ending) : Prop := e = .returned (.tuple #[.int .i64 (o.getD 0), .bool o.isSome])
def SlowE (v : Int × Int) (e : Ending) : Prop := e = .returned (.tuple #[.int .i64 v.1, .int .i64 v.2])
section
variable {w w' : World} {b : Sl} {S : Sm}
theorem sfast_any (h : StX w b S) (si : SI S) (t n : Int) (wt : wfI t) (m0 : 0 ≤ S.md) (m1 : S.md < 1000000) :
    Calls Tryz.prog 14 #[.pointer (some ⟨b.s, 0, none⟩), .int .i64 t, .int .i64 n] w fun e w' => FastE (fastV S t n) e ∧ StX w' b (fastS S t n) ∧ Frm b.fp w w' := by
  cases hb : fastB S t n with
  | false =>
    have hv : fastV S t n = none := by unfold fastV; rw [hb]; rfl
    have hS : fastS S t n = S := by unfold fastS; rw [hb]; rfl
    rw [hv, hS]
    cases hs : smallB n with
    | false =>
      refine (sfast_small h t n hs).mono ?_
      rintro e w' ⟨he, rfl⟩
      exact ⟨he, h, Frm.refl _ _⟩
    | true =>
      have hl : leftL S.C (pageM S.M t (ofI n)) = 0 := by
        unfold fastB pageOf at hb
        rw [hs] at hb
        simpa using hb
      refine (sfast_no h t n wt hl).mono ?_
      rintro e w' ⟨he, hb'⟩
      exact ⟨he, h.below hb', Frm.of_below _ hb'⟩
  | true =>
    have hv : fastV S t n = some (cellA S.C (pageOf S t n).toNat) := by unfold fastV; rw [hb]; rfl
    have hS : fastS S t n = (takeS S (pageOf S t n).toNat).begin (cellA S.C (pageOf S t n).toNat) n := by unfold fastS; rw [hb]; rfl
    rw [hv, hS]
    unfold fastB at hb
    simp only [Bool.and_eq_true, Bool.not_eq_true', beq_eq_false_iff_ne] at hb
    obtain ⟨F, hi⟩ := si.inv
    obtain ⟨q, hq, -, ht⟩ := tak_at hi hb.2
    rw [hq, Int.toNat_natCast]
    exact (sfast_ok h t n wt hb.1 q _ _ _ _ hq ht.ok m0 m1).mono fun e w' hr => hr
theorem sslow_range (h : StX w b S) (t n : Int) (hr : ofI n = 0 ∨ t < 0 ∨ S.th ≤ t) :
    Calls Tryz.prog 8 #[.pointer (some ⟨b.s, 0, none⟩), .int .i64 t, .int .i64 n] w fun e w' => SlowE (0, 4) e ∧ w = w' := by
  have H := Lib.hid h
  obtain ⟨-, -, c2, -⟩ := h.cells
  clear h
  by_cases h0 : ofI n = 0
  · have z0 : (ofI n == 0) = true := by simpa using h0
    clear h0 hr
    go_enter Tryz.func8, Tryz.ntmps8
    go_wp2_with (first
      | (go_at_call 23; refine (sis_any H.out).mono ?_; rintro e w1 ⟨rfl, rfl⟩)
      | (go_at_call 22; refine (of_any n _).mono ?_; rintro e w1 ⟨rfl, rfl⟩))
    go_ret2
    exact ⟨rfl, rfl⟩
  · have z0 : (ofI n == 0) = false := by simpa using h0
    by_cases h1 : t < 0
    · have z1 : decide (t < 0) = true := by simpa using h1
      clear h0 h1 hr
      go_enter Tryz.func8, Tryz.ntmps8
      go_wp2_with (first
        | (go_at_call 23; refine (sis_any H.out).mono ?_; rintro e w1 ⟨rfl, rfl⟩)
        | (go_at_call 22; refine (of_any n _).mono ?_; rintro e w1 ⟨rfl, rfl⟩))
      go_ret2
      exact ⟨rfl, rfl⟩
    · have z1 : decide (t < 0) = false := by simpa using h1
      have z2 : decide (S.th ≤ t) = true := by
        rw [decide_eq_true_eq]
        omega
      clear h0 h1 hr
      go_enter Tryz.func8, Tryz.ntmps8
      go_wp2_with (first
        | (go_at_call 23; refine (sis_any H.out).mono ?_; rintro e w1 ⟨rfl, rfl⟩)
        | (go_at_call 22; refine (of_any n _).mono ?_; rintro e w1 ⟨rfl, rfl⟩))
      go_ret2
      exact ⟨rfl, rfl⟩
/-- A large one. -/
def largeV (S : Sm) (n : Int) : Int × Int := match spanL S.C.ks (pagesI n) with | none => (0, 10) | some p => ((p : Int) * 32, 0)
def largeS (S : Sm) (n : Int) : Sm := match spanL S.C.ks (pagesI n) with | none => S | some p => Sm.begin { S with C := largeC S.C (pagesI n) } ((p : Int) * 32) n
structure InR (S : Sm) (t n : Int) : Prop where
  z0 : (ofI n == 0) = false
  z1 : decide (t < 0) = false
  z2 : decide (S.th ≤ t) = false
theorem five_bd {n : Int} (h : ofI n = 5) : 0 ≤ n ∧ n ≤ 127 := by have := pagesI_five h; omega
theorem pagesI_le (n : Int) : pagesI n ≤ 9223372036854775807 := by have := pagesI_bd n; omega
set_option maxHeartbeats 4000000 in
set_option maxRecDepth 100000 in
theorem sslow_large (h : StX w b S) (t n : Int) (hr : InR S t n) (h5 : ofI n = 5) (m0 : 0 ≤ S.md) (m1 : S.md < 1000000) :
    Calls Tryz.prog 8 #[.pointer (some ⟨b.s, 0, none⟩), .int .i64 t, .int .i64 n] w fun e w' => SlowE (largeV S n) e ∧ StX w' b (largeS S n) ∧ Frm b.fp w w' := by
  have H := Lib.hid h
  have B0 := Lib.hid ((Below.refl w.heap.size w).drew)
  have HD := Lib.hid (h.below B0.out)
  have F0 := Lib.hid (Frm.of_below b.fp B0.out)
  obtain ⟨c0, -, c2, -⟩ := h.cells
  obtain ⟨z0, z1, z2⟩ := hr
  have z5 : (ofI n == 5) = true := by simpa using h5
  have NB := Lib.hid (five_bd h5)
  cases hs : spanL S.C.ks (pagesI n) with
  | none =>
    have HS := Lib.hid hs
    have HC := Lib.hid (show largeC S.C (pagesI n) = S.C by unfold largeC; rw [hs])
    have HV := Lib.hid (show largeV S n = (0, 10) by unfold largeV; rw [hs])
    have HL := Lib.hid (show largeS S n = S by unfold largeS; rw [hs])
    clear h h5 hs m0 m1
    go_enter Tryz.func8, Tryz.ntmps8
    go_wp2_with (first
      | (go_at_call 23; refine (sis_any H.out).mono ?_; rintro e w1 ⟨rfl, rfl⟩)
      | (go_at_call 22; refine (of_any n _).mono ?_; rintro e w1 ⟨rfl, rfl⟩))
    go_region_held3 (fun w' => w'.cell? ⟨b.s, 0, none⟩ = some (.pointer (some ⟨b.cb.c, 0, none⟩))) (first | assumption | go_keep)
      (first
        | (go_at_call 25; refine (pages_any n _).mono ?_; rintro e w1 ⟨rfl, rfl⟩)
        | (go_at_call 24; refine (clarge_any HD.out.cx _ (pagesI_le n)).mono ?_; rw [HS.out, HC.out]; rintro e w2 ⟨rfl, hx, hf⟩; have hy := HD.out.withCX hf hx; obtain ⟨d0, -⟩ := hy.cells; have H2 := Lib.hid hy; have F2 := Lib.hid (F0.out.trans (hf.sub (fp' := b.fp) b.sub_cb) (fun x hx => .inl hx)); clear hx hf hy))
    go_wp2_with fail
    go_ret2
    exact ⟨by rw [HV.out]; rfl, by rw [HL.out]; exact H2.out, F2.out⟩
  | some p =>
    have HS := Lib.hid hs
    have HV := Lib.hid (show largeV S n = ((p : Int) * 32, 0) by unfold largeV; rw [hs])
    have HL := Lib.hid (show largeS S n = Sm.begin { S with C := largeC S.C (pagesI n) } ((p : Int) * 32) n by unfold largeS; rw [hs])
    have M0 := Lib.hid (show 0 ≤ ({ S with C := largeC S.C (pagesI n) } : Sm).md from m0)
    have M1 := Lib.hid (show ({ S with C := largeC S.C (pagesI n) } : Sm).md < 1000000 from m1)
    clear h h5 hs m0 m1
    go_enter Tryz.func8, Tryz.ntmps8
    go_wp2_with (first
      | (go_at_call 23; refine (sis_any H.out).mono ?_; rintro e w1 ⟨rfl, rfl⟩)
      | (go_at_call 22; refine (of_any n _).mono ?_; rintro e w1 ⟨rfl, rfl⟩))
    go_region_held3 (fun w' => w'.cell? ⟨b.s, 0, none⟩ = some (.pointer (some ⟨b.cb.c, 0, none⟩))) (first | assumption | go_keep)
      (first
        | (go_at_call 25; refine (pages_any n _).mono ?_; rintro e w1 ⟨rfl, rfl⟩)
        | (go_at_call 24; refine (clarge_any HD.out.cx _ (pagesI_le n)).mono ?_; rw [HS.out]; rintro e w2 ⟨rfl, hx, hf⟩; have hy := HD.out.withCX hf hx; obtain ⟨d0, -⟩ := hy.cells; have H2 := Lib.hid hy; have F2 := Lib.hid (F0.out.trans (hf.sub (fp' := b.fp) b.sub_cb) (fun x hx => .inl hx)); clear hx hf hy))
    go_wp2_with (go_at_call 26; refine (sbegin_ok H2.out ((p : Int) * 32) n M0.out M1.out NB.out.1 NB.out.2).mono ?_; rintro e w3 ⟨rfl, hx, hf⟩; have H3 := Lib.hid hx; have F3 := Lib.hid (F2.out.trans hf (fun x hx => .inl hx)); clear hx hf)
    go_ret2
    exact ⟨by rw [HV.out]; rfl, by rw [HL.out]; exact H3.out, F3.out⟩
end
end Go.Proofs.YtjoejjhgneccgaaGreat

/- A store: slow, small ones. -/
namespace Go.Proofs.YtjoejjhgneccgaaGreat
open Go.RowKit

section
variable {w w' : World} {b : Sl} {S : Sm}
theorem sfast_yes (h : StX w b S) (si : SI S) (t n : Int) (wt : wfI t) (m0 : 0 ≤ S.md) (m1 : S.md < 1000000) {v : Int} (hv : fastV S t n = some v) :
    Calls Tryz.prog 14 #[.pointer (some ⟨b.s, 0, none⟩), .int .i64 t, .int .i64 n] w fun e w' => e = .returned (.tuple #[.int .i64 v, .bool true]) ∧ StX w' b (fastS S t n) ∧ Frm b.fp w w' := by
  refine (sfast_any h si t n wt m0 m1).mono ?_
  rw [hv]
  exact fun e w' hr => hr
theorem sfast_none (h : StX w b S) (si : SI S) (t n : Int) (wt : wfI t) (m0 : 0 ≤ S.md) (m1 : S.md < 1000000) (hv : fastV S t n = none) :
    Calls Tryz.prog 14 #[.pointer (some ⟨b.s, 0, none⟩), .int .i64 t, .int .i64 n] w fun e w' => e = .returned (.tuple #[.int .i64 0, .bool false]) ∧ StX w' b S ∧ Frm b.fp w w' := by
  have hb : fastB S t n = false := by
    unfold fastV at hv
    cases hb : fastB S t n with
    | false => rfl
    | true => rw [hb] at hv; cases hv
  have hS : fastS S t n = S := by unfold fastS; rw [hb]; rfl
  refine (sfast_any h si t n wt m0 m1).mono ?_
  rw [hv, hS]
  exact fun e w' hr => hr
theorem sfast_get (h : StX w b S) (si : SI S) (t n : Int) (wt : wfI t) (m0 : 0 ≤ S.md) (m1 : S.md < 1000000) :
    Calls Tryz.prog 14 #[.pointer (some ⟨b.s, 0, none⟩), .int .i64 t, .int .i64 n] w fun e w' => (∃ v o, e = .returned (.tuple #[.int .i64 v, .bool o]) ∧ v = (fastV S t n).getD 0) ∧ StX w' b (fastS S t n) ∧ Frm b.fp w w' := by
  refine (sfast_any h si t n wt m0 m1).mono ?_
  exact fun e w' hr => ⟨⟨_, _, hr.1, rfl⟩, hr.2⟩
theorem openS_none {k : Int} (h : openP S k = none) : openS S k = S := by
  unfold openP at h
  unfold openS
  cases hL : openL S k with
  | some p => rfl
  | none =>
    rw [hL] at h
    simp only at h ⊢
    unfold carveC
    rw [h]
theorem sopen_none (h : StX w b S) (k : Int) (hn : S.np = (S.C.ks.length : Nat)) (ho : openP S k = none) :
    Calls Tryz.prog 27 #[.pointer (some ⟨b.s, 0, none⟩), .int .i64 k] w fun e w' => e = .returned (.tuple #[.int .i64 0, .bool false]) ∧ StX w' b S ∧ Frm b.fp w w' := by
  have := sopen_any h k hn
  rw [openS_none ho, ho] at this
  exact this.mono fun e w' hr => hr
theorem sopen_some (h : StX w b S) (k : Int) (hn : S.np = (S.C.ks.length : Nat)) {p : Nat} (ho : openP S k = some p) :
    Calls Tryz.prog 27 #[.pointer (some ⟨b.s, 0, none⟩), .int .i64 k] w fun e w' => e = .returned (.tuple #[.int .i64 p, .bool true]) ∧ StX w' b (openS S k) ∧ Frm b.fp w w' := by
  have := sopen_any h k hn
  rw [ho] at this
  exact this.mono fun e w' hr => hr
theorem openS_same (S : Sm) (k : Int) : (openS S k).md = S.md ∧ (openS S k).th = S.th ∧ (openS S k).M = S.M := by
  unfold openS
  split <;> exact ⟨rfl, rfl, rfl⟩
/-- A page was opened, and is the thread's. -/
def gotS (S : Sm) (t n : Int) (p : Nat) : Sm := (openS S (ofI n)).give t (ofI n) p
theorem got_si (si : SI S) {t n : Int} {p : Nat} (t0 : 0 ≤ t) (t1 : t < S.th) (k1 : 1 ≤ ofI n) (k4 : ofI n ≤ 4) (ho : openP S (ofI n) = some p) : SI (gotS S t n p) ∧ SetP (openS S (ofI n)).M (openS S (ofI n)).th t (ofI n) p := by
  obtain ⟨h1, h2, h3, h4, h5, h6⟩ := si.open ho
  obtain ⟨F, hi⟩ := h1.inv
  have hle := hi.le
  exact ⟨h1.give t0 (by rw [h5]; exact t1) k1 k4 h2 h3 (by rw [h4]; exact h6), t0, by rw [h5]; exact t1, k1, k4, by omega, by omega, fun t' k' _ _ => by rw [h4]; exact h6 t' k'⟩
def smallV (S : Sm) (t n : Int) : Int × Int := match fastV S t n with
  | some v => (v, 0)
  | none => match openP S (ofI n) with | none => (0, 10) | some p => ((fastV (gotS S t n p) t n).getD 0, 0)
def smallS (S : Sm) (t n : Int) : Sm := match fastV S t n with
  | some _ => fastS S t n
  | none => match openP S (ofI n) with | none => S | some p => fastS (gotS S t n p) t n
set_option maxHeartbeats 4000000 in
set_option maxRecDepth 100000 in
theorem sslow_small (h : StX w b S) (si : SI S) (t n : Int) (hr : InR S t n) (h5 : ofI n ≠ 5) (m0 : 0 ≤ S.md) (m1 : S.md < 1000000) :
    Calls Tryz.prog 8 #[.pointer (some ⟨b.s, 0, none⟩), .int .i64 t, .int .i64 n] w fun e w' => SlowE (smallV S t n) e ∧ StX w' b (smallS S t n) ∧ Frm b.fp w w' := by
  have H := Lib.hid h
  have HI := Lib.hid si
  obtain ⟨c0, -, c2, -⟩ := h.cells
  obtain ⟨z0, z1, z2⟩ := hr
  have z5 : (ofI n == 5) = false := by simpa using h5
  have hbd := ofI_bd n
  have hth := si.th
  have q0 : ofI n ≠ 0 := by simpa using z0
  have q1 : 0 ≤ t := by simpa using z1
  have q2 : t < S.th := by simpa using z2
  have WT := Lib.hid (show wfI t from ⟨by omega, by omega⟩)
  have M0 := Lib.hid m0
  have M1 := Lib.hid m1
  have Q1 := Lib.hid q1
  have Q2 := Lib.hid q2
  have K1 := Lib.hid (show 1 ≤ ofI n by omega)
  have K4 := Lib.hid (show ofI n ≤ 4 by omega)
  clear h si h5 hbd hth q0 q1 q2 m0 m1
  cases hv : fastV S t n with
  | some v =>
    have HV := Lib.hid hv
    have HR := Lib.hid (show smallV S t n = (v, 0) by unfold smallV; rw [hv])
    have HL := Lib.hid (show smallS S t n = fastS S t n by unfold smallS; rw [hv])
    clear hv
    go_enter Tryz.func8, Tryz.ntmps8
    go_wp2_with (first
      | (go_at_call 23; refine (sis_any H.out).mono ?_; rintro e w1 ⟨rfl, rfl⟩)
      | (go_at_call 22; refine (of_any n _).mono ?_; rintro e w1 ⟨rfl, rfl⟩)
      | (go_at_call 14; refine (sfast_yes H.out HI.out t n WT.out M0.out M1.out HV.out).mono ?_; rintro e w2 ⟨rfl, hx, hf⟩; have H2 := Lib.hid hx; have F2 := Lib.hid hf; clear hx hf))
    go_ret2
    exact ⟨by rw [HR.out]; rfl, by rw [HL.out]; exact H2.out, F2.out⟩
  | none =>
    have HV := Lib.hid hv
    cases ho : openP S (ofI n) with
    | none =>
      have HO := Lib.hid ho
      have HR := Lib.hid (show smallV S t n = (0, 10) by unfold smallV; rw [hv]; simp only [ho])
      have HL := Lib.hid (show smallS S t n = S by unfold smallS; rw [hv]; simp only [ho])
      clear hv ho
      go_enter Tryz.func8, Tryz.ntmps8
      go_wp2_with (first
        | (go_at_call 23; refine (sis_any H.out).mono ?_; rintro e w1 ⟨rfl, rfl⟩)
        | (go_at_call 22; refine (of_any n _).mono ?_; rintro e w1 ⟨rfl, rfl⟩)
        | (go_at_call 14; refine (sfast_none H.out HI.out t n WT.out M0.out M1.out HV.out).mono ?_; rintro e w2 ⟨rfl, hx, hf⟩; have H2 := Lib.hid hx; have F2 := Lib.hid hf; clear hx hf)
        | (go_at_call 27; refine (sopen_none H2.out (ofI n) HI.out.np HO.out).mono ?_; rintro e w3 ⟨rfl, hx, hf⟩; have H3 := Lib.hid hx; have F3 := Lib.hid (F2.out.trans hf (fun x hx => .inl hx)); clear hx hf))
      go_ret2
      exact ⟨by rw [HR.out]; rfl, by rw [HL.out]; exact H3.out, F3.out⟩
    | some p =>
      have HO := Lib.hid ho
      have hg := got_si HI.out Q1.out Q2.out K1.out K4.out ho
      have GI := Lib.hid hg.1
      have GP := Lib.hid hg.2
      have hm := (openS_same S (ofI n)).1
      have N0 := Lib.hid (show 0 ≤ (gotS S t n p).md from by show 0 ≤ (openS S (ofI n)).md; rw [hm]; exact M0.out)
      have N1 := Lib.hid (show (gotS S t n p).md < 1000000 from by show (openS S (ofI n)).md < 1000000; rw [hm]; exact M1.out)
      have HR := Lib.hid (show smallV S t n = ((fastV (gotS S t n p) t n).getD 0, 0) by unfold smallV; rw [hv]; simp only [ho])
      have HL := Lib.hid (show smallS S t n = fastS (gotS S t n p) t n by unfold smallS; rw [hv]; simp only [ho])
      clear hv ho hg hm
      go_enter Tryz.func8, Tryz.ntmps8
      go_wp2_with (first
        | (go_at_call 23; refine (sis_any H.out).mono ?_; rintro e w1 ⟨rfl, rfl⟩)
        | (go_at_call 22; refine (of_any n _).mono ?_; rintro e w1 ⟨rfl, rfl⟩)
        | (go_at_call 14; (with_reducible refine (sfast_none H.out HI.out t n WT.out M0.out M1.out HV.out).mono ?_); rintro e w2 ⟨rfl, hx, hf⟩; have H2 := Lib.hid hx; have F2 := Lib.hid hf; clear hx hf)
        | (go_at_call 27; refine (sopen_some H2.out (ofI n) HI.out.np HO.out).mono ?_; rintro e w3 ⟨rfl, hx, hf⟩; obtain ⟨-, d1, -⟩ := hx.cells; have H3 := Lib.hid hx; have F3 := Lib.hid (F2.out.trans hf (fun x hx => .inl hx)); clear hx hf)
        | (go_at_call 28; refine (caset_any H3.out.ca t (ofI n) p GP.out).mono ?_; rintro e w4 ⟨rfl, hx, hf⟩; have H4 : Hid (StX w4 b (gotS S t n p)) := Lib.hid (H3.out.withCa hf hx); have F4 := Lib.hid (F3.out.trans (hf.sub (fp' := b.fp) b.sub_ob) (fun x hx => .inl hx)); clear hx hf)
        | (go_at_call 14; (with_reducible refine (sfast_get H4.out GI.out t n WT.out N0.out N1.out).mono ?_); rintro e w5 ⟨⟨v, o, rfl, hv⟩, hx, hf⟩; have H5 := Lib.hid hx; have HV5 := Lib.hid hv; have F5 := Lib.hid (F4.out.trans hf (fun x hx => .inl hx)); clear hx hf hv))
      go_ret2
      exact ⟨by rw [HR.out, ← HV5.out]; rfl, by rw [HL.out]; exact H5.out, F5.out⟩
end
end Go.Proofs.YtjoejjhgneccgaaGreat

/- A store: slow; made. -/
namespace Go.Proofs.YtjoejjhgneccgaaGreat
open Go.RowKit

def inRB (S : Sm) (t n : Int) : Bool := !(ofI n == 0) && !decide (t < 0) && !decide (S.th ≤ t)
def slowV (S : Sm) (t n : Int) : Int × Int := if inRB S t n = false then (0, 4) else if ofI n = 5 then largeV S n else smallV S t n
def slowS (S : Sm) (t n : Int) : Sm := if inRB S t n = false then S else if ofI n = 5 then largeS S n else smallS S t n
theorem inR_of {S : Sm} {t n : Int} (h : inRB S t n = true) : InR S t n := by
  unfold inRB at h
  simp only [Bool.and_eq_true, Bool.not_eq_true'] at h
  exact ⟨h.1.1, h.1.2, h.2⟩
theorem inR_not {S : Sm} {t n : Int} (h : inRB S t n = false) : ofI n = 0 ∨ t < 0 ∨ S.th ≤ t := by
  apply Decidable.byContradiction
  intro hc
  unfold inRB at h
  rw [show (ofI n == 0) = false by simp; omega, show decide (t < 0) = false by rw [decide_eq_false_iff_not]; omega, show decide (S.th ≤ t) = false by rw [decide_eq_false_iff_not]; omega] at h
  cases h
section
variable {w w' : World} {b : Sl} {S : Sm}
theorem sslow_any (h : StX w b S) (si : SI S) (t n : Int) (m0 : 0 ≤ S.md) (m1 : S.md < 1000000) :
    Calls Tryz.prog 8 #[.pointer (some ⟨b.s, 0, none⟩), .int .i64 t, .int .i64 n] w fun e w' => SlowE (slowV S t n) e ∧ StX w' b (slowS S t n) ∧ Frm b.fp w w' := by
  unfold slowV slowS
  cases hb : inRB S t n with
  | false =>
    refine (sslow_range h t n (inR_not hb)).mono ?_
    rintro e w' ⟨he, rfl⟩
    exact ⟨he, h, Frm.refl _ _⟩
  | true =>
    by_cases h5 : ofI n = 5
    · rw [if_neg (by simp), if_pos h5, if_neg (by simp), if_pos h5]
      exact sslow_large h t n (inR_of hb) h5 m0 m1
    · rw [if_neg (by simp), if_neg h5, if_neg (by simp), if_neg h5]
      exact sslow_small h si t n (inR_of hb) h5 m0 m1
theorem SI.slow (si : SI S) (t n : Int) : SI (slowS S t n) := by
  unfold slowS
  cases hb : inRB S t n with
  | false => exact si
  | true =>
    have hr := inR_of hb
    have q0 : ofI n ≠ 0 := by simpa using hr.z0
    have q1 : 0 ≤ t := by simpa using hr.z1
    have q2 : t < S.th := by simpa using hr.z2
    have hbd := ofI_bd n
    by_cases h5 : ofI n = 5
    · rw [if_neg (by simp), if_pos h5]
      unfold largeS
      cases hs : spanL S.C.ks (pagesI n) with
      | none => exact si
      | some p => exact (si.large hs).begin _ _
    · rw [if_neg (by simp), if_neg h5]
      unfold smallS
      cases hv : fastV S t n with
      | some v => exact si.fast t n
      | none =>
        cases ho : openP S (ofI n) with
        | none => exact si
        | some p => exact (got_si si q1 q2 (by omega) (by omega) ho).1.fast t n
end
/-- Made. -/
def Sm.new (N : Nat) (th : Int) : Sm := ⟨Cs.new N, fun _ _ => none, th, N, 0⟩
theorem SI.new {N : Nat} (hN : N ≤ 64) {th : Int} (h : 0 ≤ th ∧ th ≤ 9) : SI (Sm.new N th) :=
  ⟨⟨_, inv_new hN⟩, by simp [Sm.new, Cs.new], fun _ _ _ hm => by simp [Sm.new] at hm, fun _ _ _ hm => by simp [Sm.new] at hm, fun _ _ _ _ _ hm => by simp [Sm.new] at hm, h⟩
theorem runs_rep : ∀ (n p m : Nat), runsFrom (List.replicate n 0) p m = if n + m = 0 then [] else [(p - m, n + m)]
  | 0, p, m => by
    unfold runsFrom
    rw [List.replicate_zero]
    simp only
    split
    · rw [if_neg (by omega)]; simp
    · rw [if_pos (by omega)]
  | n + 1, p, m => by
    rw [List.replicate_succ]
    unfold runsFrom
    simp only
    rw [if_pos trivial, runs_rep n (p + 1) (m + 1), if_neg (by omega), if_neg (by omega), show p + 1 - (m + 1) = p - m by omega, show n + (m + 1) = n + 1 + m by omega]
theorem count_new (n : Nat) : countL (List.replicate n 0) = n := by
  unfold countL runsL
  rw [runs_rep]
  split <;> simp_all
end Go.Proofs.YtjoejjhgneccgaaGreat

/- A store: made. -/
namespace Go.Proofs.YtjoejjhgneccgaaGreat
open Go.RowKit

def NewS (N : Nat) (th : Int) (B : Nat) (e : Ending) (w' : World) : Prop := ∃ b : Sl, e = .returned (.pointer (some ⟨b.s, 0, none⟩)) ∧ StX w' b (Sm.new N th) ∧ (∀ x ∈ b.fp, B ≤ x) ∧ B ≤ b.oc
theorem clamp_minmax (t : Int) : min (max t 0) 9 = clampN t 0 9 := by unfold clampN; omega
theorem set2_other {w : World} {z x i j : Nat} (h : x ≠ z) (u v : Value) : ((w.setCell ⟨z, i, none⟩ u).setCell ⟨z, j, none⟩ v).heap[x]? = w.heap[x]? :=
  (heap_setCell_other (w.setCell ⟨z, i, none⟩ u) ⟨z, j, none⟩ x v h).trans (heap_setCell_other w ⟨z, i, none⟩ x u h)
set_option maxHeartbeats 4000000 in
set_option maxRecDepth 100000 in
theorem stnew_any (n t : Int) (w : World) :
    Calls Tryz.prog 5 #[.int .i64 n, .int .i64 t] w fun e w' => NewS (clampN n 0 64).toNat (clampN t 0 9) w.heap.size e w' ∧ Below w.heap.size w w' := by
  obtain ⟨N, hN⟩ : ∃ N, N = (clampN n 0 64).toNat := ⟨_, rfl⟩
  have HN := Lib.hid hN.symm
  have HM := Lib.hid (clamp_minmax t)
  have hcn := count_new N
  clear hN
  go_enter Tryz.func5, Tryz.ntmps5
  go_wp2_with (first
    | (go_at_call 16; refine (cnew_any n _).mono ?_; rw [HN.out]; rintro e w1 ⟨⟨cb, rfl, hx, hg⟩, hb⟩; have C1 := Lib.hid hx; have G1 := Lib.hid hg; have B1 := Lib.hid hb; clear hx hg hb)
    | (go_at_call 17; refine (canew_any t _).mono ?_; rintro e w2 ⟨⟨oc, ob, rfl, hx, hc, ho⟩, hb⟩; have A2 := Lib.hid hx; have OC := Lib.hid hc; have OB := Lib.hid ho; have C2 := Lib.hid (C1.out.below hb); have B2 := Lib.hid (below_next B1.out hb); clear hx hc ho hb)
    | (go_at_call 18; refine (cfree_any (C2.out.below (below_alloc0 _ (.cells #[.pointer (some ⟨cb.c, 0, none⟩), .pointer (some ⟨oc, 0, none⟩), .int .i64 0, .int .i64 0, .int .i64 0] 50)))).mono ?_; rintro e w3 ⟨rfl, hb⟩; have Z3 := Lib.hid (keep hb (heap_alloc_new w2 (.cells #[.pointer (some ⟨cb.c, 0, none⟩), .pointer (some ⟨oc, 0, none⟩), .int .i64 0, .int .i64 0, .int .i64 0] 50))); have f2 : w3.frozen? ⟨w2.heap.size, 2, none⟩ = false := frozen_of_row _ _ _ _ _ Z3.out; have f3 : w3.frozen? ⟨w2.heap.size, 3, none⟩ = false := frozen_of_row _ _ _ _ _ Z3.out; have d2 : w3.cell? ⟨w2.heap.size, 2, none⟩ = some (.int .i64 0) := cell_of_row _ _ _ _ _ _ Z3.out; have d3 : w3.cell? ⟨w2.heap.size, 3, none⟩ = some (.int .i64 0) := cell_of_row _ _ _ _ _ _ Z3.out; have C3 := Lib.hid ((C2.out.below (below_alloc0 w2 _)).below hb); have A3 := Lib.hid ((A2.out.below (below_alloc0 w2 _)).below hb); have B3 := Lib.hid (below_next (B2.out.alloc B2.out.size _) hb); have SZ := Lib.hid B2.out.size; have LC := Lib.hid C2.out.lt; have LO := Lib.hid (heap_lt A2.out.hd); have LB := Lib.hid A2.out.mp.lt; clear hb))
  go_ret
  have zc : ∀ x ∈ cb.fp, x ≠ w2.heap.size := fun x hx => Nat.ne_of_lt (LC.out x hx)
  have zo : oc ≠ w2.heap.size := Nat.ne_of_lt LO.out
  have zb : ob ≠ w2.heap.size := Nat.ne_of_lt LB.out
  refine ⟨⟨⟨w2.heap.size, cb, oc, ob⟩, rfl, ⟨?_, ?_, ?_⟩, ?_, ?_⟩, ?_⟩
  · rw [heap_setCell_same _ _ 2 _ _ _ (heap_setCell_same _ _ 3 _ _ _ Z3.out)]
    rw [HN.out, HM.out, show (Cs.new N).ks = List.replicate N 0 from rfl, hcn]
    rfl
  · rw [HN.out]
    exact C3.out.keep fun x hx => set2_other (zc x hx) _ _
  · exact A3.out.keep (set2_other zo _ _) (set2_other zb _ _)
  · intro x hx
    have := B1.out.size
    simp only [Sl.fp, List.mem_cons] at hx
    rcases hx with rfl | rfl | hx
    · exact SZ.out
    · exact Nat.le_trans this OB.out
    · exact G1.out x hx
  · have := B1.out.size
    exact Nat.le_trans this OC.out
  · exact (B3.out.setCell (p := ⟨w2.heap.size, 3, none⟩) SZ.out _).setCell (p := ⟨w2.heap.size, 2, none⟩) SZ.out _
end Go.Proofs.YtjoejjhgneccgaaGreat

/- A store: what an object is. -/
namespace Go.Proofs.YtjoejjhgneccgaaGreat
open Go.RowKit

def quoW (w : Int) : Int := IntKind.i64.wrap (w.tdiv 128)
def splitV (w : Int) : Int × Int × Bool := if w < 0 ∨ 1099511627776 ≤ quoW w then (0, 0, false) else (quoW w, w.tmod 128, true)
def SplitE (v : Int × Int × Bool) (e : Ending) : Prop := e = .returned (.tuple #[.int .i64 v.1, .int .i64 v.2.1, .bool v.2.2])
theorem hsplit_any (x : Int) (w : World) :
    Calls Tryz.prog 63 #[.int .i64 x] w fun e w' => SplitE (splitV x) e ∧ w = w' := by
  by_cases h0 : x < 0
  · have HV := Lib.hid (show splitV x = (0, 0, false) by unfold splitV; rw [if_pos (.inl h0)])
    have a0 : decide (x < 0) = true := by simpa using h0
    clear h0
    go_enter Tryz.func63, Tryz.ntmps63
    go_wp2_with fail
    go_ret3
    exact ⟨by rw [HV.out]; rfl, rfl⟩
  · have a0 : decide (x < 0) = false := by simpa using h0
    obtain ⟨q, hq⟩ : ∃ q, q = quoW x := ⟨_, rfl⟩
    have k1 : IntKind.i64.wrap (x.tdiv 128) = q := hq.symm
    by_cases h1 : 1099511627776 ≤ q
    · have HV := Lib.hid (show splitV x = (0, 0, false) by unfold splitV; rw [if_pos (.inr (by rw [← hq]; exact h1))])
      have a1 : decide (1099511627776 ≤ q) = true := by simpa using h1
      clear h0 h1 hq
      go_enter Tryz.func63, Tryz.ntmps63
      go_wp2_with fail
      go_ret3
      exact ⟨by rw [HV.out]; rfl, rfl⟩
    · have HV := Lib.hid (show splitV x = (q, x.tmod 128, true) by unfold splitV; rw [if_neg (by rw [← hq]; omega), ← hq])
      have a1 : decide (1099511627776 ≤ q) = false := by simpa using h1
      have k2 : IntKind.i64.wrap (x.tmod 128) = x.tmod 128 := by rw [IntKind.wrap_i64]; have := Int.tmod_lt_of_pos x (show (0 : Int) < 128 by decide); have := Int.lt_tmod_of_pos x (show (0 : Int) < 128 by decide); omega
      clear h0 h1 hq
      go_enter Tryz.func63, Tryz.ntmps63
      go_wp2_with fail
      go_ret3
      exact ⟨by rw [HV.out]; rfl, rfl⟩
section
variable {w w' : World} {b : Sl} {S : Sm}
def hasO (S : Sm) (a : Int) : Bool := hasB S.C.xs.length S.C.ws a
def readV (S : Sm) (a : Int) : Int × Int := if hasO S a = true then ((splitV (loadV S.C.xs a)).1, (splitV (loadV S.C.xs a)).2.1) else (-1, -1)
set_option maxHeartbeats 1000000 in
theorem sread_any (h : StX w b S) (a : Int) :
    Calls Tryz.prog 32 #[.pointer (some ⟨b.s, 0, none⟩), .int .i64 a] w fun e w' => SlowE (readV S a) e ∧ w = w' := by
  have H := Lib.hid h
  obtain ⟨c0, -⟩ := h.cells
  clear h
  cases hb : hasO S a with
  | false =>
    have HB := Lib.hid (show hasB S.C.xs.length S.C.ws a = false from hb)
    have HV := Lib.hid (show readV S a = (-1, -1) by unfold readV; rw [hb]; rfl)
    clear hb
    go_enter Tryz.func32, Tryz.ntmps32
    go_wp2_with (first
      | (go_at_call 23; refine (sis_any H.out).mono ?_; rintro e w1 ⟨rfl, rfl⟩)
      | (go_at_call 62; refine (cisa_any H.out.cx a).mono ?_; rw [HB.out]; rintro e w1 ⟨rfl, rfl⟩))
    go_ret2
    exact ⟨by rw [HV.out]; rfl, rfl⟩
  | true =>
    have HB := Lib.hid (show hasB S.C.xs.length S.C.ws a = true from hb)
    have HV := Lib.hid (show readV S a = ((splitV (loadV S.C.xs a)).1, (splitV (loadV S.C.xs a)).2.1) by unfold readV; rw [hb]; rfl)
    clear hb
    go_enter Tryz.func32, Tryz.ntmps32
    go_wp2_with (first
      | (go_at_call 23; refine (sis_any H.out).mono ?_; rintro e w1 ⟨rfl, rfl⟩)
      | (go_at_call 62; refine (cisa_any H.out.cx a).mono ?_; rw [HB.out]; rintro e w1 ⟨rfl, rfl⟩)
      | (go_at_call 33; refine (cload_any H.out.cx a).mono ?_; rintro e w1 ⟨rfl, rfl⟩)
      | (go_at_call 63; refine (hsplit_any _ _).mono ?_; rintro e w1 ⟨rfl, rfl⟩))
    go_ret2
    exact ⟨by rw [HV.out]; rfl, rfl⟩
theorem sfields_any (h : StX w b S) (a : Int) :
    Calls Tryz.prog 12 #[.pointer (some ⟨b.s, 0, none⟩), .int .i64 a] w fun e w' => e = .returned (.int .i64 (readV S a).2) ∧ w = w' := by
  have H := Lib.hid h
  clear h
  go_enter Tryz.func12, Tryz.ntmps12
  go_wp2_with (go_at_call 32; refine (sread_any H.out a).mono ?_; rintro e w1 ⟨rfl, rfl⟩)
  go_ret
  exact ⟨rfl, rfl⟩
theorem sserial_any (h : StX w b S) (a : Int) :
    Calls Tryz.prog 10 #[.pointer (some ⟨b.s, 0, none⟩), .int .i64 a] w fun e w' => e = .returned (.int .i64 (readV S a).1) ∧ w = w' := by
  have H := Lib.hid h
  clear h
  go_enter Tryz.func10, Tryz.ntmps10
  go_wp2_with (go_at_call 32; refine (sread_any H.out a).mono ?_; rintro e w1 ⟨rfl, rfl⟩)
  go_ret
  exact ⟨rfl, rfl⟩
theorem smade_any (h : StX w b S) :
    Calls Tryz.prog 15 #[.pointer (some ⟨b.s, 0, none⟩)] w fun e w' => e = .returned (.int .i64 S.md) ∧ w = w' := by
  have H := Lib.hid h
  obtain ⟨-, -, -, -, c4, -⟩ := h.cells
  clear h
  go_enter Tryz.func15, Tryz.ntmps15
  go_wp2_with (go_at_call 23; refine (sis_any H.out).mono ?_; rintro e w1 ⟨rfl, rfl⟩)
  go_ret
  exact ⟨rfl, rfl⟩
end
end Go.Proofs.YtjoejjhgneccgaaGreat

/- A store: a page's kind, how many are free, whose it is. -/
namespace Go.Proofs.YtjoejjhgneccgaaGreat
open Go.RowKit

section
variable {w w' : World} {b : Sl} {S : Sm}
def OwnT (M : OwnM) (q : Int) (e : Ending) : Prop := ∃ t : Int, e = .returned (.int .i64 t) ∧ ((0 ≤ t ∧ ∃ k, M t k = some q) ∨ (t = -1 ∧ ownB M q = false))
theorem sowner_any (h : StX w b S) (q : Int) :
    Calls Tryz.prog 48 #[.pointer (some ⟨b.s, 0, none⟩), .int .i64 q] w fun e w' => OwnT S.M q e ∧ Below w.heap.size w w' := by
  have H := Lib.hid h
  obtain ⟨-, c1, -⟩ := h.cells
  clear h
  cases ho : ownB S.M q with
  | true =>
    go_enter Tryz.func48, Tryz.ntmps48
    go_wp2_with (first
      | (go_at_call 23; refine (sis_any H.out).mono ?_; rintro e w1 ⟨rfl, rfl⟩)
      | (go_at_call 55; refine (caowner_yes H.out.ca q ho).mono ?_; rintro e w1 ⟨⟨t, k, rfl, ht⟩, hb⟩; have B1 := Lib.hid hb; have HT := Lib.hid ht; clear hb ht))
    go_ret
    exact ⟨⟨t, rfl, .inl ⟨(H.out.ca.mp.dom t k q HT.out).1, k, HT.out⟩⟩, B1.out⟩
  | false =>
    go_enter Tryz.func48, Tryz.ntmps48
    go_wp2_with (first
      | (go_at_call 23; refine (sis_any H.out).mono ?_; rintro e w1 ⟨rfl, rfl⟩)
      | (go_at_call 55; refine (caowner_no H.out.ca q ho).mono ?_; rintro e w1 ⟨rfl, hb⟩; have B1 := Lib.hid hb; clear hb))
    go_ret
    exact ⟨⟨-1, rfl, .inr ⟨rfl, ho⟩⟩, B1.out⟩
end
end Go.Proofs.YtjoejjhgneccgaaGreat
