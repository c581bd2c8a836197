/- A store's objects: wherever there is room; set; gone; pages given up (plain). -/
import Derived.Test.YtjoejjhgneccgaaGreatQSK02
import Derived.Test.YtjoejjhgneccgaaGreatQSK09
import Derived.Test.YtjoejjhgneccgaaGreatQSK14
import Derived.WalkSmall
import Derived.Laws.BitsLemmas
namespace Go.Proofs.YtjoejjhgneccgaaGreat
open Go.RowKit

section
variable {S S' S1 S2 : Sm}
/-- The objects are as they were. -/
structure Sam (S S' : Sm) : Prop where
  mem : ∀ a, a ∈ bitsN S'.C.ws ↔ a ∈ bitsN S.C.ws
  kept : ∀ a ∈ bitsN S.C.ws, Kept S.C S'.C a
  md : S'.md = S.md
theorem Sam.refl (S : Sm) : Sam S S := ⟨fun _ => Iff.rfl, fun _ ha => Kept.refl ha, rfl⟩
theorem Sam.trans (h : Sam S S1) (h2 : Sam S1 S2) : Sam S S2 := ⟨fun a => (h2.mem a).trans (h.mem a), fun a ha => (h.kept a ha).trans (h2.kept a ((h.mem a).2 ha)), h2.md.trans h.md⟩
theorem SJ.sam (h : SJ S) (hs : Sam S S') (si : SI S') : SJ S' :=
  ⟨si, by rw [hs.md]; exact h.m0, by rw [hs.md]; exact h.m1, fun a ha => (h.ob a ((hs.mem a).1 ha)).keep (hs.kept a ((hs.mem a).1 ha)) (by rw [hs.md]; omega)⟩
theorem Sam.obj (hs : Sam S S') (h : SJ S) {a : Nat} (ha : a ∈ bitsN S.C.ws) : objN S'.C a = objN S.C a := obj_keep (h.ob a ha) (hs.kept a ha)
theorem Alc.sam {z n : Nat} (h : Sam S S1) (h2 : Alc S1 S2 z n) : Alc S S2 z n :=
  ⟨fun hz => h2.nw ((h.mem z).2 hz), fun a => (h2.mem a).trans (or_congr Iff.rfl (h.mem a)), fun a ha => (h.kept a ha).trans (h2.kept a ((h.mem a).2 ha)), h2.ob, by rw [h2.obj, h.md], by rw [h2.md, h.md]⟩
theorem open_sam (si : SI S) (k : Int) : Sam S (openS S k) := by
  obtain ⟨F, hi⟩ := si.inv
  unfold openS
  split
  · exact Sam.refl S
  · cases ht : takeT S.C.ks k with
    | none =>
      have : carveC S.C k = S.C := by unfold carveC; rw [ht]
      rw [this]
      exact Sam.refl S
    | some p =>
      obtain ⟨h1, h2⟩ := carve_kept hi ht
      exact ⟨fun a => by show a ∈ bitsN (carveC S.C k).ws ↔ _; rw [h1], h2, rfl⟩
theorem got_sam (si : SI S) (t n : Int) (p : Nat) : Sam S (gotS S t n p) := by
  have h := open_sam si (ofI n)
  exact ⟨h.mem, h.kept, h.md⟩
/-- What was opened has room. -/
theorem open_left {k : Int} (k1 : 1 ≤ k) (k4 : k ≤ 4) (si : SI S) {p : Nat} (ho : openP S k = some p) : leftL (openS S k).C p ≠ 0 := by
  unfold openP at ho
  unfold openS
  cases hL : openL S k with
  | some q =>
    rw [hL] at ho
    obtain rfl : q = p := by simpa using ho
    unfold openL at hL
    have h1 := List.find?_some hL
    unfold openB at h1
    simp only [Bool.and_eq_true, decide_eq_true_eq] at h1
    have := h1.2
    show leftL S.C q ≠ 0
    omega
  | none =>
    rw [hL] at ho
    simp only at ho
    obtain ⟨F, hi⟩ := si.inv
    have hp : p < S.C.ks.length := by
      unfold takeT at ho
      split at ho
      · cases ho
      · exact idx0_lt ho
    have hle := hi.le
    have hc : carveC S.C k = { S.C with ks := S.C.ks.set p k, ch := S.C.ch.set p (0, cellsI k), xs := buildL S.C.xs p k } := by unfold carveC; rw [ho]
    show leftL (carveC S.C k) p ≠ 0
    rw [hc]
    unfold leftL
    have e : kindL (S.C.ks.set p k) p = k := by rw [kindL_in (by simpa using hp), getD_set_same hp]
    have hs := sizeI_pos ⟨k1, k4⟩
    have hcl := cellsI_pos ⟨k1, k4⟩
    show (if 0 < sizeI (kindL (S.C.ks.set p k) p) then ((S.C.ch.set p (0, cellsI k)).getD (p : Int).toNat (0, 0)).2 else 0) ≠ 0
    rw [e, if_pos (by omega), Int.toNat_natCast, getD_set_same (by rw [hi.chl]; omega)]
    show cellsI k ≠ 0
    omega
theorem inr_in {t n : Int} (hb : inRB S t n = true) : ofI n ≠ 0 ∧ 0 ≤ t ∧ t < S.th := by
  have hr := inR_of hb
  exact ⟨by simpa using hr.z0, by simpa using hr.z1, by simpa using hr.z2⟩
/-- A large one. -/
theorem large_alc (si : SI S) (m0 : 0 ≤ S.md) {n : Int} (h5 : ofI n = 5) {p : Nat} (hs : spanL S.C.ks (pagesI n) = some p) :
    ∃ m : Nat, n = m ∧ largeV S n = (((32 * p : Nat) : Int), 0) ∧ Alc S (largeS S n) (32 * p) m ∧ (largeS S n).C.ks = spanS S.C.ks p (pagesI n).toNat := by
  obtain ⟨F, hi⟩ := si.inv
  obtain ⟨n0, n1⟩ := five_bd h5
  obtain ⟨m, rfl⟩ := Int.eq_ofNat_of_zero_le n0
  obtain ⟨t1, t2, t3, t4, t5, t6, t7⟩ := large_kept hi hs _ rfl
  have hpg : pagesI m = ((m : Int) + 32) / 32 := by unfold pagesI; rw [if_pos h5]
  have hv := inv_large hi hs
  have hA := alc_of (S := S) (S1 := { S with C := largeC S.C (pagesI m) }) (z := 32 * p) (n := m) hv m0 rfl t1 t2 t3 (by omega) (by rw [t5]; omega) t7
  have e : ((p : Int) * 32) = ((32 * p : Nat) : Int) := by omega
  refine ⟨m, rfl, ?_, ?_⟩
  · unfold largeV; rw [hs, ← e]
  · unfold largeS; rw [hs]; simp only [e]
    exact ⟨hA.1, hA.2.trans t4⟩
/-- What Slow comes to. -/
theorem slow_cases (si : SI S) (m0 : 0 ≤ S.md) (t n : Int) :
    (∃ z m : Nat, n = m ∧ inRB S t n = true ∧ slowV S t n = ((z : Int), 0) ∧ Alc S (slowS S t n) z m) ∨ (slowS S t n = S ∧ ((slowV S t n = (0, 4) ∧ inRB S t n = false) ∨ (slowV S t n = (0, 10) ∧ inRB S t n = true))) := by
  unfold slowV slowS
  cases hb : inRB S t n with
  | false => exact .inr ⟨rfl, .inl ⟨rfl, rfl⟩⟩
  | true =>
    obtain ⟨q0, q1, q2⟩ := inr_in hb
    have hbd := ofI_bd n
    rw [if_neg (show ¬ true = false by decide), if_neg (show ¬ true = false by decide)]
    by_cases h5 : ofI n = 5
    · rw [if_pos h5, if_pos h5]
      cases hs : spanL S.C.ks (pagesI n) with
      | none =>
        refine .inr ⟨by unfold largeS; rw [hs], .inr ⟨by unfold largeV; rw [hs], rfl⟩⟩
      | some p =>
        obtain ⟨m, e, h1, h2, -⟩ := large_alc si m0 h5 hs
        exact .inl ⟨_, m, e, rfl, h1, h2⟩
    · rw [if_neg h5, if_neg h5]
      have k1 : 1 ≤ ofI n := by omega
      have k4 : ofI n ≤ 4 := by omega
      unfold smallV smallS
      cases hv : fastV S t n with
      | some v =>
        have hf : fastB S t n = true := by
          unfold fastV at hv
          split at hv
          · assumption
          · cases hv
        obtain ⟨z, m, e, h1, h2, -⟩ := fast_alc si m0 hf
        rw [h1] at hv
        obtain rfl : (z : Int) = v := by simpa using hv
        exact .inl ⟨z, m, e, rfl, rfl, h2⟩
      | none =>
        simp only
        cases ho : openP S (ofI n) with
        | none => exact .inr ⟨rfl, .inr ⟨rfl, trivial⟩⟩
        | some p =>
          simp only
          have hg := got_si si q1 q2 k1 k4 ho
          have hs := got_sam si t n p
          have hf : fastB (gotS S t n p) t n = true := by
            unfold fastB
            rw [Bool.and_eq_true]
            refine ⟨?_, ?_⟩
            · unfold smallB
              have := sizeI_pos ⟨k1, k4⟩
              simp; omega
            · have hp : pageOf (gotS S t n p) t n = (p : Int) := by
                unfold pageOf pageM
                show (updM (openS S (ofI n)).M t (ofI n) (some (p : Int)) t (ofI n)).getD (-1) = _
                rw [updM_same]; rfl
              have hl := open_left k1 k4 si ho
              rw [hp]
              show (!(leftL (openS S (ofI n)).C p == 0)) = true
              simpa using hl
          have m0' : 0 ≤ (gotS S t n p).md := by rw [hs.md]; exact m0
          obtain ⟨z, m, e, h1, h2, -⟩ := fast_alc hg.1 m0' hf
          refine .inl ⟨z, m, e, trivial, ?_, h2.sam hs⟩
          rw [h1]; rfl
theorem SJ.slow (h : SJ S) (m : S.md < 1000000) (t n : Int) : SJ (slowS S t n) := by
  rcases slow_cases h.si h.m0 t n with ⟨z, k, -, -, -, hA⟩ | ⟨e, -⟩
  · exact h.alc hA (h.si.slow t n) m
  · rw [e]; exact h
theorem SJ.fast (h : SJ S) (m : S.md < 1000000) (t n : Int) : SJ (fastS S t n) := by
  cases hb : fastB S t n with
  | false => unfold fastS; rw [hb]; exact h
  | true =>
    obtain ⟨z, k, -, -, hA, -⟩ := fast_alc h.si h.m0 hb
    exact h.alc hA (h.si.fast t n) m
/-- A field is set. -/
structure Put (S S' : Sm) (a j : Nat) (k n : Int) : Prop where
  ws : S'.C.ws = S.C.ws
  ks : S'.C.ks = S.C.ks
  kept : ∀ b ∈ bitsN S.C.ws, b ≠ a → Kept S.C S'.C b
  obj : objN S'.C a = ((objN S.C a).1, (objN S.C a).2.set j (k, n))
  md : S'.md = S.md
  M : S'.M = S.M
  th : S'.th = S.th
theorem SJ.set (h : SJ S) {a j : Nat} (ha : a ∈ bitsN S.C.ws) (hj : j < lenN S.C a) {k n : Int} (hv : checkV k n = 0) :
    setB S a j k n = true ∧ SJ (setS S a j k n) ∧ Put S (setS S a j k n) a j k n := by
  obtain ⟨F, hi⟩ := h.si.inv
  have hA := addr_nat h ha hj
  have hm : mayB S a j k n = true := by
    unfold mayB
    rw [hv, h.field.2 ⟨a, j, rfl, rfl, ha, hj⟩]; rfl
  have hS : setS S a j k n = { S with C := storeC S.C ((a + 1 + j : Nat) : Int) (putW k n) } := by unfold setS; rw [if_pos hm, hA]
  have hob := h.ob a ha
  obtain ⟨h1, h2, h3, h4, h5, h6⟩ := ob_set hi ha hob hj hv (C' := storeC S.C ((a + 1 + j : Nat) : Int) (putW k n)) rfl
  have hat := hob.at_
  refine ⟨?_, ?_, ?_⟩
  · unfold setB
    rw [hm, hA, Bool.true_and]
    unfold storeB
    rw [Bool.and_eq_true, decide_eq_true_eq, base_in hi ha (by omega) (by omega)]
    refine ⟨by omega, ?_⟩
    have := (pages_in hi ha (x := a + 1 + j) (by omega) (by omega)).1
    have := hi.len
    unfold fitB
    simp; omega
  · have hsi : SI (setS S a j k n) := h.si.set _ _ _ _
    rw [hS] at hsi ⊢
    refine ⟨hsi, h.m0, h.m1, fun b hb => ?_⟩
    have hb' : b ∈ bitsN S.C.ws := by rw [← h2]; exact hb
    by_cases e : b = a
    · subst e; exact h4
    · exact (h.ob b hb').keep (h6 b hb' e) (Int.le_refl _)
  · rw [hS]
    exact ⟨h2, h3, h6, h5, rfl, rfl, rfl⟩
theorem set_no {a i k n : Int} (hm : mayB S a i k n = false) : setB S a i k n = false ∧ setS S a i k n = S := by
  unfold setB setS
  rw [hm]
  exact ⟨rfl, rfl⟩
/-- An object is gone. -/
structure Gon (S S' : Sm) (a : Nat) : Prop where
  mem : ∀ b, b ∈ bitsN S'.C.ws ↔ b ≠ a ∧ b ∈ bitsN S.C.ws
  kept : ∀ b ∈ bitsN S.C.ws, b ≠ a → Kept S.C S'.C b
  md : S'.md = S.md
  M : S'.M = S.M
  th : S'.th = S.th
theorem SJ.free (h : SJ S) {a : Nat} (ha : a ∈ bitsN S.C.ws) : SJ (freeS S a) ∧ Gon S (freeS S a) a := by
  obtain ⟨F, hi⟩ := h.si.inv
  obtain ⟨hl, ht⟩ := bits_lt hi ha
  have hb := has_of hi ha
  have hG : Gon S (freeS S a) a := by
    have key : ∀ C', C' = giveD S.C a → (∀ b, b ∈ bitsN C'.ws ↔ b ≠ a ∧ b ∈ bitsN S.C.ws) ∧ (∀ b ∈ bitsN S.C.ws, b ≠ a → Kept S.C C' b) := by
      intro C' hC
      rw [hC]
      unfold giveD
      rcases tk_cases ht with ⟨k1, k4, hal, hn⟩ | ⟨h5, h0⟩
      · rw [if_neg (by omega)]
        exact give_kept hi ha (giveS S.C a (a / 32) (S.C.ks.getD (a / 32) 0) ((a : Int) % 32 / sizeI (S.C.ks.getD (a / 32) 0)) (S.C.ch.getD (a / 32) (0, 0)).1 (S.C.ch.getD (a / 32) (0, 0)).2) rfl (by unfold giveS; exact remL_off hb) (fun x hx hne => by
          have hc := aligned ⟨k1, k4⟩ hal
          show (putL S.C.xs _ _).getD x 0 = _
          rw [← hc, putL_get hx, if_neg (by omega)])
      · rw [if_pos h5]
        obtain ⟨e1, e2, -⟩ := giveL_kept hi ha h5
        exact ⟨e1, e2⟩
    obtain ⟨k1, k2⟩ := key _ rfl
    have hS : freeS S a = { S with C := giveD S.C a } := by unfold freeS giveC; rw [if_pos hb, Int.toNat_natCast]
    rw [hS]
    exact ⟨k1, k2, rfl, rfl, rfl⟩
  exact ⟨⟨h.si.free a, by rw [hG.md]; exact h.m0, by rw [hG.md]; exact h.m1, fun b hb2 => by
    obtain ⟨h1, h2⟩ := (hG.mem b).1 hb2
    exact (h.ob b h2).keep (hG.kept b h2 h1) (by rw [hG.md]; omega)⟩, hG⟩
theorem Gon.obj {a b : Nat} (hg : Gon S S' a) (h : SJ S) (hb : b ∈ bitsN S.C.ws) (hne : b ≠ a) : objN S'.C b = objN S.C b := obj_keep (h.ob b hb) (hg.kept b hb hne)
theorem Put.other {a b j : Nat} {k n : Int} (hp : Put S S' a j k n) (h : SJ S) (hb : b ∈ bitsN S.C.ws) (hne : b ≠ a) : objN S'.C b = objN S.C b := obj_keep (h.ob b hb) (hp.kept b hb hne)
theorem free_no {x : Int} (hx : hasO S x = false) : freeS S x = S := by
  unfold freeS giveC
  unfold hasO at hx
  rw [hx]; rfl
/-- A page is dropped, where nothing is taken. -/
def dropOk (C : Cs) (p : Int) : Bool := decide (0 < sizeI (kindL C.ks p)) && decide (cellsI (kindL C.ks p) ≤ leftL C p)
def dropC (C : Cs) (p : Int) : Cs := if dropOk C p = true then { C with ks := freeL C.ks p } else C
theorem SI.drop (h : SI S) {p : Int} (hn : ownB S.M p = false) : SI { S with C := dropC S.C p } ∧ Sam S { S with C := dropC S.C p } := by
  unfold dropC
  split
  · rename_i hd
    obtain ⟨F, hi⟩ := h.inv
    unfold dropOk at hd
    rw [Bool.and_eq_true, decide_eq_true_eq, decide_eq_true_eq] at hd
    obtain ⟨hs, hl⟩ := hd
    obtain ⟨p0, p1⟩ := small_in hs
    obtain ⟨q, rfl⟩ := Int.eq_ofNat_of_zero_le p0
    have hq : q < S.C.ks.length := by omega
    rw [kindL_in hq] at hs hl
    have hk : 1 ≤ S.C.ks.getD q 0 ∧ S.C.ks.getD q 0 ≤ 4 := by
      apply Decidable.byContradiction; intro hc
      rw [sizeI_zero (by omega)] at hs; omega
    have hlf : leftL S.C q = (F q).length := by
      unfold leftL
      rw [kindL_in hq, if_pos hs, Int.toNat_natCast]
      exact (hi.ln q hq hk.1 hk.2).2.1
    obtain ⟨e1, -, e3⟩ := drop_kept hi hq hk.1 hk.2 (by rw [← hlf]; exact hl)
    refine ⟨h.withK ⟨_, inv_drop hi hq hk.1 hk.2 hl⟩ (freeL_len _ _) fun t k r hm hr => ?_, fun a => Iff.rfl, e3, rfl⟩
    have hne : r ≠ q := by
      rintro rfl
      rw [(ownB_iff h.dom _).2 ⟨t, k, hm⟩] at hn
      cases hn
    show (freeL S.C.ks q).getD r 0 = _
    rw [e1, fillL_get _ _ _ _ _ hr, if_neg (by omega)]
  · exact ⟨h, Sam.refl S⟩
theorem cut_some {M : OwnM} {t t' k' p : Int} : ∀ {n : Nat}, cutM M t n t' k' = some p → M t' k' = some p ∧ ¬ (t' = t ∧ 1 ≤ k' ∧ k' ≤ n)
  | 0, h => ⟨h, by omega⟩
  | n + 1, h => by
    unfold cutM at h
    by_cases e : t' = t ∧ k' = (n : Int) + 1
    · obtain ⟨rfl, rfl⟩ := e
      rw [updM_same] at h
      cases h
    · rw [updM_other _ e] at h
      obtain ⟨h1, h2⟩ := cut_some h
      exact ⟨h1, by omega⟩
theorem SI.cut (h : SI S) (t : Int) (n : Nat) : SI { S with M := cutM S.M t n } :=
  ⟨h.inv, h.np, fun _ _ _ hm => h.dom _ _ _ (cut_some hm).1, fun _ _ _ hm => h.own _ _ _ (cut_some hm).1, fun _ _ _ _ _ h1 h2 => h.inj _ _ _ _ _ (cut_some h1).1 (cut_some h2).1, h.th⟩
theorem dropL_mem {M : OwnM} {t p : Int} {n : Nat} : p ∈ dropL M t n ↔ ∃ k : Int, 1 ≤ k ∧ k ≤ n ∧ M t k = some p := by
  unfold dropL
  rw [List.mem_filterMap]
  constructor
  · rintro ⟨i, hi, h⟩
    have := List.mem_range.1 hi
    exact ⟨(i : Int) + 1, by omega, by omega, h⟩
  · rintro ⟨k, h1, h2, h⟩
    obtain ⟨i, rfl⟩ : ∃ i : Nat, k = (i : Int) + 1 := ⟨(k - 1).toNat, by omega⟩
    exact ⟨i, List.mem_range.2 (by omega), h⟩
theorem drop_fold : ∀ (l : List Int) {S : Sm}, SI S → (∀ p ∈ l, ownB S.M p = false) → SI { S with C := l.foldl dropC S.C } ∧ Sam S { S with C := l.foldl dropC S.C }
  | [], S, h, _ => ⟨h, Sam.refl S⟩
  | p :: l, S, h, hn => by
    obtain ⟨h1, h2⟩ := h.drop (hn p (by simp))
    obtain ⟨h3, h4⟩ := drop_fold l h1 (fun q hq => hn q (List.mem_cons_of_mem _ hq))
    exact ⟨h3, h2.trans h4⟩
/-- A thread has no pages any more. -/
def quitL (S : Sm) (t : Int) : List Int := sortI (dropL S.M t 4)
def quitS (S : Sm) (t : Int) : Sm := { S with M := cutM S.M t 4, C := (quitL S t).foldl dropC S.C }
theorem quit_free (h : SI S) {t p : Int} (hp : p ∈ dropL S.M t 4) : ownB (cutM S.M t 4) p = false := by
  cases ho : ownB (cutM S.M t 4) p with
  | false => rfl
  | true =>
    obtain ⟨t', k', hm⟩ := (ownB_iff (h.cut t 4).dom _).1 ho
    obtain ⟨h1, h2⟩ := cut_some hm
    obtain ⟨k, k1, k4, hk⟩ := dropL_mem.1 hp
    obtain ⟨rfl, rfl⟩ := h.inj _ _ _ _ _ h1 hk
    omega
theorem SI.quit (h : SI S) (t : Int) : SI (quitS S t) ∧ Sam S (quitS S t) := by
  have := drop_fold (quitL S t) (h.cut t 4) (fun p hp => quit_free h ((sortI_perm _).mem_iff.1 hp))
  exact ⟨this.1, this.2.mem, this.2.kept, this.2.md⟩
/-- A page that is nobody's is dropped. -/
def trimB (S : Sm) (p : Int) : Bool := !ownB S.M p && dropOk S.C p
def trimS (S : Sm) (p : Int) : Sm := if ownB S.M p = true then S else { S with C := dropC S.C p }
theorem SI.trim (h : SI S) (p : Int) : SI (trimS S p) ∧ Sam S (trimS S p) := by
  unfold trimS
  cases ho : ownB S.M p with
  | true => exact ⟨h, Sam.refl S⟩
  | false => exact h.drop ho
end
end Go.Proofs.YtjoejjhgneccgaaGreat

/- What lies apart, and how it turns. -/
namespace Go.Proofs.YtjoejjhgneccgaaGreat
open Go.RowKit

/-- What a structure's call turns, and where it lies behind it. -/
structure Turn (fp fp' : List Nat) (w w' : World) : Prop where
  frm : Frm fp w w'
  fr : Fresh w.heap.size fp fp'
theorem Turn.refl (fp : List Nat) (w : World) : Turn fp fp w w := ⟨Frm.refl _ _, fun _ h => .inl h⟩
theorem Turn.of {fp : List Nat} {w w' : World} (h : Frm fp w w') : Turn fp fp w w' := ⟨h, fun _ h => .inl h⟩
theorem Turn.below {w w' : World} (fp : List Nat) (h : Below w.heap.size w w') : Turn fp fp w w' := .of (Frm.of_below fp h)
theorem Turn.trans {fp fp1 fp2 : List Nat} {w w1 w2 : World} (h : Turn fp fp1 w w1) (h2 : Turn fp1 fp2 w1 w2) : Turn fp fp2 w w2 :=
  ⟨h.frm.trans h2.frm h.fr, fun k hk => by
    rcases h2.fr k hk with h' | h'
    · exact h.fr k h'
    · have := h.frm.size; exact .inr (by omega)⟩
theorem Turn.sub {fp fp' gp gp' : List Nat} {w w' : World} (h : Turn fp fp' w w') (h1 : ∀ k ∈ fp, k ∈ gp) (h2 : ∀ k ∈ gp', k ∈ fp' ∨ k ∈ gp) : Turn gp gp' w w' :=
  ⟨h.frm.mono h1, fun k hk => by
    rcases h2 k hk with h' | h'
    · rcases h.fr k h' with h'' | h''
      · exact .inl (h1 k h'')
      · exact .inr h''
    · exact .inl h'⟩
/-- Seen from a place below. -/
theorem Turn.under {fp fp' : List Nat} {w w1 w' : World} (hb : Below w.heap.size w w1) (h : Turn fp fp' w1 w') : Turn fp fp' w w' := (Turn.below fp hb).trans h
theorem Turn.then {fp fp' : List Nat} {w w1 w' : World} (h : Turn fp fp' w w1) (hb : Below w1.heap.size w1 w') : Turn fp fp' w w' := h.trans (Turn.below fp' hb)
theorem Turn.size {fp fp' : List Nat} {w w' : World} (h : Turn fp fp' w w') : w.heap.size ≤ w'.heap.size := h.frm.size
theorem Turn.heap {fp fp' : List Nat} {w w' : World} (h : Turn fp fp' w w') {k : Nat} (hk : k < w.heap.size) (hn : k ∉ fp) : w'.heap[k]? = w.heap[k]? := h.frm.block k hk hn
/-- Parts that lie apart. -/
structure Parts (w : World) (fps : List (List Nat)) : Prop where
  lt : ∀ i, ∀ k ∈ fps.getD i [], k < w.heap.size
  ap : ∀ i j, i ≠ j → ∀ k ∈ fps.getD i [], k ∉ fps.getD j []
theorem Parts.nil (w : World) : Parts w [] := ⟨fun i k hk => by simp at hk, fun i j _ k hk => by simp at hk⟩
theorem Parts.grow {w w' : World} {fps : List (List Nat)} (h : Parts w fps) (hs : w.heap.size ≤ w'.heap.size) : Parts w' fps := ⟨fun i k hk => Nat.lt_of_lt_of_le (h.lt i k hk) hs, h.ap⟩
theorem Parts.snoc {w w' : World} {fps : List (List Nat)} {fp : List Nat} (h : Parts w fps) (hs : w.heap.size ≤ w'.heap.size) (h1 : ∀ k ∈ fp, w.heap.size ≤ k) (h2 : ∀ k ∈ fp, k < w'.heap.size) : Parts w' (fps ++ [fp]) := by
  have key : ∀ i, ((fps ++ [fp]).getD i [] = fps.getD i [] ∧ i < fps.length) ∨ ((fps ++ [fp]).getD i [] = fp ∧ i = fps.length) ∨ (fps ++ [fp]).getD i [] = [] := by
    intro i
    by_cases e : i < fps.length
    · refine .inl ⟨?_, e⟩
      rw [List.getD_eq_getElem?_getD, List.getElem?_append_left e, ← List.getD_eq_getElem?_getD]
    · refine .inr ?_
      by_cases e2 : i = fps.length
      · subst e2
        refine .inl ⟨?_, rfl⟩
        rw [List.getD_eq_getElem?_getD, List.getElem?_append_right (Nat.le_refl _)]
        simp
      · refine .inr ?_
        rw [List.getD_eq_getElem?_getD, List.getElem?_eq_none (by simp; omega)]
        rfl
  refine ⟨fun i k hk => ?_, fun i j hij k hk hk2 => ?_⟩
  · rcases key i with ⟨e, -⟩ | ⟨e, -⟩ | e
    · rw [e] at hk; exact Nat.lt_of_lt_of_le (h.lt i k hk) hs
    · rw [e] at hk; exact h2 k hk
    · rw [e] at hk; simp at hk
  · rcases key i with ⟨e, l⟩ | ⟨e, l⟩ | e
    · rw [e] at hk
      rcases key j with ⟨e2, l2⟩ | ⟨e2, l2⟩ | e2
      · rw [e2] at hk2; exact h.ap i j hij k hk hk2
      · rw [e2] at hk2; have := h.lt i k hk; have := h1 k hk2; omega
      · rw [e2] at hk2; simp at hk2
    · rw [e] at hk
      rcases key j with ⟨e2, l2⟩ | ⟨e2, l2⟩ | e2
      · rw [e2] at hk2; have := h.lt j k hk2; have := h1 k hk; omega
      · omega
      · rw [e2] at hk2; simp at hk2
    · rw [e] at hk; simp at hk
theorem Parts.turn {w w' : World} {fps : List (List Nat)} (h : Parts w fps) (i : Nat) {fp' : List Nat} (hs : w.heap.size ≤ w'.heap.size) (hf : Fresh w.heap.size (fps.getD i []) fp') (hl : ∀ k ∈ fp', k < w'.heap.size) : Parts w' (fps.set i fp') := by
  have key : ∀ j, (j ≠ i ∧ (fps.set i fp').getD j [] = fps.getD j []) ∨ (j = i ∧ i < fps.length ∧ (fps.set i fp').getD j [] = fp') ∨ ((fps.set i fp').getD j [] = []) := by
    intro j
    by_cases e : j = i
    · subst e
      by_cases hl : j < fps.length
      · exact .inr (.inl ⟨rfl, hl, getD_set_same hl _ _⟩)
      · refine .inr (.inr ?_)
        rw [List.getD_eq_getElem?_getD, List.getElem?_eq_none (by simp; omega)]
        rfl
    · exact .inl ⟨e, getD_set_other (Ne.symm e) _ _⟩
  refine ⟨fun j k hk => ?_, fun a b hab k hk hk2 => ?_⟩
  · rcases key j with ⟨-, e⟩ | ⟨-, -, e⟩ | e
    · rw [e] at hk; exact Nat.lt_of_lt_of_le (h.lt j k hk) hs
    · rw [e] at hk; exact hl k hk
    · rw [e] at hk; simp at hk
  · rcases key a with ⟨n1, e1⟩ | ⟨n1, -, e1⟩ | e1
    · rcases key b with ⟨n2, e2⟩ | ⟨n2, -, e2⟩ | e2
      · rw [e1] at hk; rw [e2] at hk2; exact h.ap a b hab k hk hk2
      · rw [e1] at hk; rw [e2] at hk2
        rcases hf k hk2 with h' | h'
        · exact h.ap a i n1 k hk h'
        · have := h.lt a k hk; omega
      · rw [e2] at hk2; simp at hk2
    · rcases key b with ⟨n2, e2⟩ | ⟨n2, -, e2⟩ | e2
      · rw [e1] at hk; rw [e2] at hk2
        rcases hf k hk with h' | h'
        · exact h.ap i b (Ne.symm n2) k h' hk2
        · have := h.lt b k hk2; omega
      · exact absurd (n1.trans n2.symm) hab
      · rw [e2] at hk2; simp at hk2
    · rw [e1] at hk; simp at hk
/-- The same blocks elsewhere: parts of parts. -/
theorem Parts.off {w w' : World} {fps : List (List Nat)} (h : Parts w fps) {fp fp' : List Nat} (ht : Turn fp fp' w w') (i : Nat) (hn : ∀ k ∈ fps.getD i [], k ∉ fp) : ∀ k ∈ fps.getD i [], w'.heap[k]? = w.heap[k]? := fun k hk => ht.heap (h.lt i k hk) (hn k hk)
end Go.Proofs.YtjoejjhgneccgaaGreat

/- Rows that are owned: small words. -/
namespace Go.Proofs.YtjoejjhgneccgaaGreat
open Go.RowKit

theorem row_slice {w : World} {base e size n : Nat} {v : Value} {xs : List Value} (h : w.ownsRow base e size v n xs) : ∃ p cap, v = .slice p n cap ∧ n ≤ cap ∧ (0 < n → ∃ b, p = some ⟨b, 0, none⟩) := by
  rcases h.2 with ⟨rfl, rfl⟩ | ⟨g, cap, cur, rfl, hg, hh, hc, _⟩
  · exact ⟨none, 0, rfl, Nat.le_refl _, fun h => absurd h (by omega)⟩
  · exact ⟨_, cap, rfl, hc, fun _ => ⟨g, rfl⟩⟩
theorem row_pos {w : World} {e : TypeId} {size n : Nat} {v : Value} {xs : List Value} (h : Own w e size n v xs) (hn : 0 < n) : ∃ d cap, v = .slice (some ⟨d, 0, none⟩) n cap := by
  rcases h.2 with ⟨_, h0⟩ | ⟨g, cap, cur, hv, _⟩
  · omega
  · exact ⟨g, cap, hv⟩
theorem row_new_at (w : World) (cs : List Value) (t : TypeId) (fr : Nat × Nat) (k : Nat) (hk : k = w.heap.size) : ∀ j u, cs[j]? = some u → (w.alloc (.cells cs.toArray t fr)).cell? ((⟨k, 0, none⟩ : Addr).add j) = some u := by
  subst hk; exact cell_new w cs t fr
theorem heap_one (w : World) (o : Obj) : w.heap.size + 1 = (w.alloc o).heap.size := by show _ = (w.heap.push o).size; simp
/-- The new slice is in the same block, or in one that is new. -/
theorem blk_old {w : World} {v v' : Value} {m : Nat} (h : v'.ownBlock = v.ownBlock ∨ v'.ownBlock = some m) (hs : w.heap.size ≤ m) : ∀ k, v'.ownBlock = some k → v.ownBlock = some k ∨ w.heap.size ≤ k := by
  intro k hk
  rcases h with h | h
  · exact .inl (h ▸ hk)
  · rw [h] at hk
    have : m = k := by simpa using hk
    exact .inr (by omega)
theorem grown_from {w w1 w2 : World} {row : Option Nat} (hb : Below w.heap.size w w1) (h : w1.grownBy w2 row) : w.grownBy w2 row :=
  ⟨h.os.trans hb.os, h.tape.trans hb.tape, h.output.trans hb.output, Nat.le_trans hb.size h.size, fun k hk hn => (h.block k (Nat.lt_of_lt_of_le hk hb.size) hn).trans (hb.block k hk)⟩
theorem mem_blk {v : Value} {k : Nat} : k ∈ v.ownBlock.toList ↔ v.ownBlock = some k := by
  rw [Option.mem_toList]
theorem nil_blk : (Value.slice none 0 0).ownBlock = none := rfl
theorem own_nil (w : World) (e : TypeId) (size : Nat) : Own w e size 0 (.slice none 0 0) [] := ⟨by simp, .inl ⟨rfl, rfl⟩⟩
end Go.Proofs.YtjoejjhgneccgaaGreat

/- A store: a field is read, and set. -/
namespace Go.Proofs.YtjoejjhgneccgaaGreat
open Go.RowKit

theorem i64_and1 (n : Int) : bits .and .i64 n 1 = n % 2 := by
  have h1 : (BitVec.ofInt 64 1).toNat = 2 ^ 1 - 1 := by decide
  have key : (BitVec.ofInt 64 n &&& BitVec.ofInt 64 1).toNat = (n % ((2 ^ 64 : Nat) : Int)).toNat % 2 ^ 1 := by
    rw [BitVec.toNat_and, BitVec.toNat_ofInt, h1, Nat.and_two_pow_sub_one_eq_mod]
  show IntKind.i64.wrap ((BitVec.ofInt 64 n &&& BitVec.ofInt 64 1).toNat : Nat) = n % 2
  rw [key, IntKind.wrap_i64]
  omega
def vlC (k n : Int) : Array Value := #[.int .i64 k, .int .i64 n]
def ReadE (k n : Int) (b : Bool) (e : Ending) : Prop := e = .returned (.tuple #[.agg #[.int .i64 k, .int .i64 n], .bool b])
theorem two_at (w : World) (a b : Obj) : ((w.alloc a).alloc b).heap[w.heap.size]? = some a ∧ ((w.alloc a).alloc b).heap[w.heap.size + 1]? = some b :=
  ⟨keep (below_alloc0 _ b) (heap_alloc_new w a), by rw [heap_one w a]; exact heap_alloc_new _ b⟩
theorem two_below (w : World) (a b : Obj) : Below w.heap.size w ((w.alloc a).alloc b) := (below_alloc0 w a).alloc (below_alloc0 w a).size b
set_option maxHeartbeats 1000000 in
set_option maxRecDepth 100000 in
theorem wread_ok {k n : Int} (h : checkV k n = 0) (w : World) :
    Calls Tryz.prog 34 #[.int .i64 (putW k n)] w fun e w' => ReadE k n true e ∧ Below w.heap.size w w' := by
  have HC := Lib.hid h
  rcases check_ok h with ⟨rfl, rfl⟩ | ⟨rfl, h1, h2⟩ | ⟨rfl, h1, h2⟩
  · have e : putW 0 0 = 0 := rfl
    rw [e]
    have q1 : bits .and .i64 0 1 = 0 := i64_and1 0
    clear h e
    go_enter Tryz.func34, Tryz.ntmps34
    go_wp2_with (first
      | (go_at_call 59; refine (wcheck_any 0 0 _).mono ?_; rw [HC.out]; rintro e w1 ⟨rfl, hb⟩; have A1 := Lib.hid (keep hb (two_at w _ _).1); have hc := keep hb (two_at w _ _).2; have d0 : w1.cell? ⟨w.heap.size + 1, 0, none⟩ = some (.int .i64 0) := cell_of_row _ _ _ _ _ _ hc; have d1 : w1.cell? ⟨w.heap.size + 1, 1, none⟩ = some (.int .i64 0) := cell_of_row _ _ _ _ _ _ hc; have B1 := Lib.hid (below_next (two_below w _ _) hb); clear hb hc)
      | (refine wpList_store_row rfl 24 _ _ rfl w.heap.size (vlC 0 0) rfl rfl 24 _ A1.out (by kernel_rfl) rfl (by kernel_rfl) ?_))
    refine bodyPost_ret (results_row_tmp rfl _ _ w.heap.size 24 (vlC 0 0) _ _ rfl (heap_setRow_same _ A1.out) Tryz.underlying24 rfl (by kernel_rfl)) rfl ⟨?_, below_setRow B1.out (Nat.le_refl _) _⟩
    exact rfl
  · have e : putW 1 n = 2 * n + 1 := rfl
    rw [e]
    have q1 : bits .and .i64 (2 * n + 1) 1 = 1 := by rw [i64_and1]; omega
    have q2 : (2 * n + 1) / 2 = n := by omega
    clear h e
    go_enter Tryz.func34, Tryz.ntmps34
    go_wp2_with (first
      | (go_at_call 59; refine (wcheck_any 1 n _).mono ?_; rw [HC.out]; rintro e w1 ⟨rfl, hb⟩; have A1 := Lib.hid (keep hb (two_at w _ _).1); have hc := keep hb (two_at w _ _).2; have d0 : w1.cell? ⟨w.heap.size + 1, 0, none⟩ = some (.int .i64 1) := cell_of_row _ _ _ _ _ _ hc; have d1 : w1.cell? ⟨w.heap.size + 1, 1, none⟩ = some (.int .i64 n) := cell_of_row _ _ _ _ _ _ hc; have B1 := Lib.hid (below_next (two_below w _ _) hb); clear hb hc)
      | (refine wpList_store_row rfl 24 _ _ rfl w.heap.size (vlC 1 n) rfl rfl 24 _ A1.out (by kernel_rfl) rfl (by kernel_rfl) ?_))
    refine bodyPost_ret (results_row_tmp rfl _ _ w.heap.size 24 (vlC 1 n) _ _ rfl (heap_setRow_same _ A1.out) Tryz.underlying24 rfl (by kernel_rfl)) rfl ⟨?_, below_setRow B1.out (Nat.le_refl _) _⟩
    exact rfl
  · have e : putW 2 n = 2 * n + 2 := rfl
    rw [e]
    have q1 : bits .and .i64 (2 * n + 2) 1 = 0 := by rw [i64_and1]; omega
    have q2 : (2 * n + 2) / 2 - 1 = n := by omega
    have q3 : (2 * n + 2 == 0) = false := by simp; omega
    clear h e
    go_enter Tryz.func34, Tryz.ntmps34
    go_wp2_with (first
      | (go_at_call 59; refine (wcheck_any 2 n _).mono ?_; rw [HC.out]; rintro e w1 ⟨rfl, hb⟩; have A1 := Lib.hid (keep hb (two_at w _ _).1); have hc := keep hb (two_at w _ _).2; have d0 : w1.cell? ⟨w.heap.size + 1, 0, none⟩ = some (.int .i64 2) := cell_of_row _ _ _ _ _ _ hc; have d1 : w1.cell? ⟨w.heap.size + 1, 1, none⟩ = some (.int .i64 n) := cell_of_row _ _ _ _ _ _ hc; have B1 := Lib.hid (below_next (two_below w _ _) hb); clear hb hc)
      | (refine wpList_store_row rfl 24 _ _ rfl w.heap.size (vlC 2 n) rfl rfl 24 _ A1.out (by kernel_rfl) rfl (by kernel_rfl) ?_))
    refine bodyPost_ret (results_row_tmp rfl _ _ w.heap.size 24 (vlC 2 n) _ _ rfl (heap_setRow_same _ A1.out) Tryz.underlying24 rfl (by kernel_rfl)) rfl ⟨?_, below_setRow B1.out (Nat.le_refl _) _⟩
    exact rfl
section
variable {w w' : World} {b : Sl} {S : Sm}
def getV (S : Sm) (a i : Int) : (Int × Int) × Bool := if fieldB S a i = true then (rdW (loadV S.C.xs (a + 1 + i)), true) else ((0, 0), false)
theorem SJ.word (h : SJ S) {a j : Nat} (ha : a ∈ bitsN S.C.ws) (hj : j < lenN S.C a) : ∃ k n, checkV k n = 0 ∧ loadV S.C.xs ((a : Int) + 1 + (j : Int)) = putW k n := by
  obtain ⟨F, hi⟩ := h.si.inv
  have hob := h.ob a ha
  have h4 := hob.at_.2.2.2
  obtain ⟨k, n, h1, h2⟩ := hob.fd (a + 1 + j) (by omega) (by omega)
  have hp := (pages_in hi ha (x := a + 1 + j) (by omega) (by omega)).1
  have hl := hi.len
  refine ⟨k, n, h1, ?_⟩
  rw [show (a : Int) + 1 + (j : Int) = ((a + 1 + j : Nat) : Int) by omega, loadV_yes (by omega), h2]
theorem get_in (h : SJ S) {a j : Nat} (ha : a ∈ bitsN S.C.ws) (hj : j < lenN S.C a) : getV S a j = (fldN S.C a j, true) := by
  obtain ⟨F, hi⟩ := h.si.inv
  have hob := h.ob a ha
  have h4 := hob.at_.2.2.2
  have hp := (pages_in hi ha (x := a + 1 + j) (by omega) (by omega)).1
  have hl := hi.len
  unfold getV fldN
  rw [if_pos (h.field.2 ⟨a, j, rfl, rfl, ha, hj⟩), show (a : Int) + 1 + (j : Int) = ((a + 1 + j : Nat) : Int) by omega, loadV_yes (by omega)]
def GetE (v : (Int × Int) × Bool) (e : Ending) : Prop := ReadE v.1.1 v.1.2 v.2 e
set_option maxHeartbeats 2000000 in
set_option maxRecDepth 100000 in
theorem sget_any (h : StX w b S) (sj : SJ S) (a i : Int) :
    Calls Tryz.prog 11 #[.pointer (some ⟨b.s, 0, none⟩), .int .i64 a, .int .i64 i] w fun e w' => GetE (getV S a i) e ∧ Below w.heap.size w w' := by
  have B0 := Lib.hid (below_alloc0 w (.cells #[.int .i64 0, .int .i64 0] 24))
  have H := Lib.hid (h.below B0.out)
  have A0 := Lib.hid (heap_alloc_new w (.cells #[.int .i64 0, .int .i64 0] 24))
  have c0 := H.out.cells.1
  cases hf : fieldB S a i with
  | false =>
    have HF := Lib.hid hf
    have HV := Lib.hid (show getV S a i = ((0, 0), false) by unfold getV; rw [hf]; rfl)
    clear h sj hf
    go_enter Tryz.func11, Tryz.ntmps11
    go_wp2_with (first
      | (go_at_call 30; refine (shas_any H.out a i).mono ?_; rw [HF.out]; rintro e w2 ⟨rfl, rfl⟩)
      | (refine wpList_store_row rfl 24 _ _ rfl w.heap.size (vlC 0 0) rfl rfl 24 _ A0.out (by kernel_rfl) rfl (by kernel_rfl) ?_))
    refine bodyPost_ret (results_row_tmp rfl _ _ w.heap.size 24 (vlC 0 0) _ _ rfl (heap_setRow_same _ A0.out) Tryz.underlying24 rfl (by kernel_rfl)) rfl ⟨?_, below_setRow B0.out (Nat.le_refl _) _⟩
    rw [HV.out]
    exact rfl
  | true =>
    obtain ⟨x, j, rfl, rfl, hx, hj⟩ := sj.field.1 hf
    obtain ⟨k, n, hv, hl⟩ := sj.word hx hj
    have hb := sj.lt hx
    have hb2 := (sj.ob x hx).at_.2.1
    have x0 : (0 : Int) ≤ (x : Int) := by omega
    have x1 : (x : Int) ≤ 2047 := by omega
    have j0 : (0 : Int) ≤ (j : Int) := by omega
    have j1 : (j : Int) ≤ 127 := by omega
    have HF := Lib.hid hf
    have HC := Lib.hid hv
    have HL := Lib.hid hl
    have HV := Lib.hid (show getV S x j = ((k, n), true) by unfold getV; rw [hf, if_pos rfl, hl, rdW_put hv])
    clear h sj hf hx hj hv hl hb hb2
    go_enter Tryz.func11, Tryz.ntmps11
    go_wp2_with (first
      | (go_at_call 30; refine (shas_any H.out x j).mono ?_; rw [HF.out]; rintro e w2 ⟨rfl, rfl⟩)
      | (go_at_call 33; refine (cload_any H.out.cx _).mono ?_; rw [HL.out]; rintro e w2 ⟨rfl, rfl⟩)
      | (go_at_call 34; refine (wread_ok HC.out _).mono ?_; rintro e w1 ⟨rfl, hb⟩; have A1 := Lib.hid (keep hb A0.out); have B1 := Lib.hid (below_next B0.out hb); clear hb)
      | (refine wpList_store_row rfl 24 _ _ rfl w.heap.size (vlC k n) rfl rfl 24 _ A1.out (by kernel_rfl) rfl (by kernel_rfl) ?_))
    refine bodyPost_ret (results_row_tmp rfl _ _ w.heap.size 24 (vlC k n) _ _ rfl (heap_setRow_same _ A1.out) Tryz.underlying24 rfl (by kernel_rfl)) rfl ⟨?_, below_setRow B1.out (Nat.le_refl _) _⟩
    rw [HV.out]
    exact rfl
set_option maxHeartbeats 4000000 in
set_option maxRecDepth 100000 in
theorem sset_any (h : StX w b S) (sj : SJ S) (a i k n : Int) :
    Calls Tryz.prog 9 #[.pointer (some ⟨b.s, 0, none⟩), .int .i64 a, .int .i64 i, .agg #[.int .i64 k, .int .i64 n]] w fun e w' => e = .returned (.bool (mayB S a i k n)) ∧ StX w' b (setS S a i k n) ∧ Frm b.fp w w' := by
  have B0 := Lib.hid (below_alloc0 w (.cells #[.int .i64 k, .int .i64 n] 24))
  have H := Lib.hid (h.below B0.out)
  have c0 : (w.alloc (.cells #[.int .i64 k, .int .i64 n] 24)).cell? ⟨w.heap.size, 0, none⟩ = some (.int .i64 k) := cell_of_row _ _ _ _ _ _ (heap_alloc_new w _)
  have c1 : (w.alloc (.cells #[.int .i64 k, .int .i64 n] 24)).cell? ⟨w.heap.size, 1, none⟩ = some (.int .i64 n) := cell_of_row _ _ _ _ _ _ (heap_alloc_new w _)
  by_cases hc : checkV k n = 0
  · have HP : Hid (∀ e, PutE k n e → e = .returned (.tuple #[.int .i64 (putW k n), .bool true])) := Lib.hid (fun e he => by unfold PutE at he; rw [if_pos hc, hc] at he; exact he)
    cases hf : fieldB S a i with
    | true =>
      obtain ⟨x, j, rfl, rfl, hx, hj⟩ := sj.field.1 hf
      have hb := sj.lt hx
      have hb2 := (sj.ob x hx).at_.2.1
      have x0 : (0 : Int) ≤ (x : Int) := by omega
      have x1 : (x : Int) ≤ 2047 := by omega
      have j0 : (0 : Int) ≤ (j : Int) := by omega
      have j1 : (j : Int) ≤ 127 := by omega
      have hm : mayB S x j k n = true := by unfold mayB; rw [hc, hf]; rfl
      have hs := (sj.set hx hj hc).1
      unfold setB at hs
      rw [hm, Bool.true_and, addr_nat sj hx hj] at hs
      obtain ⟨z, hz⟩ : ∃ z : Int, z = (x : Int) + 1 + (j : Int) := ⟨_, rfl⟩
      have hzn : z = ((x + 1 + j : Nat) : Int) := by omega
      rw [← hzn] at hs
      have HT := Lib.hid (show setS S x j k n = { S with C := storeC S.C z (putW k n) } by unfold setS; rw [if_pos hm, addr_nat sj hx hj, hzn])
      have HM := Lib.hid hm
      have HS := Lib.hid hs
      have HZ := Lib.hid hz
      have HF := Lib.hid hf
      clear h sj hc hf hm hx hj hs hz hzn hb hb2
      go_enter Tryz.func9, Tryz.ntmps9
      go_wp2_with (first
        | (go_at_call 29; refine (wput_any k n _).mono ?_; rintro e w1 ⟨he, hb⟩; obtain rfl := HP.out e he; have hx := H.out.below hb; have d0 := hx.cells.1; have H1 := Lib.hid hx; have F1 := Lib.hid (Frm.of_below b.fp (below_next B0.out hb)); clear he hb hx)
        | (go_at_call 30; refine (shas_any H1.out x j).mono ?_; rw [HF.out]; rintro e w2 ⟨rfl, rfl⟩)
        | (go_at_call 31; rw [← HZ.out]; refine (cstore_any H1.out.cx z (putW k n)).mono ?_; rw [HS.out]; rintro e w3 ⟨rfl, hx, hf⟩; have H3 := Lib.hid (H1.out.withCX hf hx); have F3 := Lib.hid (F1.out.trans (hf.sub (fp' := b.fp) b.sub_cb) (fun x hx => .inl hx)); clear hx hf))
      go_ret
      exact ⟨ret_bool HM.out.symm, by rw [HT.out]; exact H3.out, F3.out⟩
    | false =>
      have hm : mayB S a i k n = false := by unfold mayB; rw [hf, Bool.and_false]
      have HS := Lib.hid hm
      have HT := Lib.hid (set_no hm).2
      have HF := Lib.hid hf
      clear h sj hc hf hm
      go_enter Tryz.func9, Tryz.ntmps9
      go_wp2_with (first
        | (go_at_call 29; refine (wput_any k n _).mono ?_; rintro e w1 ⟨he, hb⟩; obtain rfl := HP.out e he; have H1 := Lib.hid (H.out.below hb); have F1 := Lib.hid (Frm.of_below b.fp (below_next B0.out hb)); clear he hb)
        | (go_at_call 30; refine (shas_any H1.out a i).mono ?_; rw [HF.out]; rintro e w2 ⟨rfl, rfl⟩))
      go_ret
      exact ⟨ret_bool HS.out.symm, by rw [HT.out]; exact H1.out, F1.out⟩
  · have z0 : (checkV k n == 0) = false := by simpa using hc
    have HP : Hid (∀ e, PutE k n e → e = .returned (.tuple #[.int .i64 0, .bool false])) := Lib.hid (fun e he => by unfold PutE at he; rw [if_neg hc, z0] at he; exact he)
    have hm : mayB S a i k n = false := by unfold mayB; rw [z0, Bool.false_and]
    have HS := Lib.hid hm
    have HT := Lib.hid (set_no hm).2
    clear h sj hc hm z0
    go_enter Tryz.func9, Tryz.ntmps9
    go_wp2_with (go_at_call 29; refine (wput_any k n _).mono ?_; rintro e w1 ⟨he, hb⟩; obtain rfl := HP.out e he; have H1 := Lib.hid (H.out.below hb); have F1 := Lib.hid (Frm.of_below b.fp (below_next B0.out hb)); clear he hb)
    go_ret
    exact ⟨ret_bool HS.out.symm, by rw [HT.out]; exact H1.out, F1.out⟩
end
end Go.Proofs.YtjoejjhgneccgaaGreat
