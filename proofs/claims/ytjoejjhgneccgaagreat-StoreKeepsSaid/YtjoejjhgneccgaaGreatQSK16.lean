/- A store: all objects; those of a page; a thread's pages given up; a page trimmed. -/
import Derived.Test.YtjoejjhgneccgaaGreatQSK01
import Derived.Test.YtjoejjhgneccgaaGreatQSK13
import Derived.Test.YtjoejjhgneccgaaGreatQSK15
import Derived.Test.YtjoejjhgneccgaaGreatRows
import Derived.ProofKit
import Derived.OpenShut
import Derived.ChangeOld
import Derived.SizedLaws
import Derived.Deep.Fields
import Derived.Lib.SmallJoins
import Derived.Deep.SlicePairs
import Derived.Deep.DeepHandedRow
import Derived.Deep.Slices
namespace Go.Proofs.YtjoejjhgneccgaaGreat
open Go.RowKit

theorem IRow.read {base : Nat} {w : World} {A : Option Addr} {n cap : Nat} {xs : List Int} (h : IRow base w (.slice A n cap) xs) : n = xs.length ∧ ∀ i, i < n → ∃ g, A = some ⟨g, 0, none⟩ ∧ w.cell? ⟨g, i, none⟩ = some (.int .i64 (xs.getD i 0)) := by
  obtain ⟨p, c, e, -, -, h1⟩ := h.slice
  cases e
  refine ⟨rfl, fun i hi => ?_⟩
  obtain ⟨b, rfl, -, hc⟩ := h1 i hi
  exact ⟨b, rfl, hc⟩
theorem take_all {α : Type} {l : List α} {n : Nat} (h : l.length ≤ n) : l.take n = l := List.take_of_length_le h
theorem take_one {xs : List Int} {k : Nat} (h : k < xs.length) : xs.take (k + 1) = xs.take k ++ [xs.getD k 0] := by
  rw [List.take_succ_eq_append_getElem h, List.getD_eq_getElem?_getD, List.getElem?_eq_getElem h]; rfl
section
variable {w w' : World} {b : Sl} {S : Sm}
/-- A page's objects. -/
def inL (S : Sm) (p : Int) : List Int := (bitsI S.C.ws).filter fun a => pageI a == p
theorem cdrop_any {w : World} {b : Bl} {C : Cs} (h : CX w b C) (p : Int) :
    Calls Tryz.prog 47 #[.pointer (some ⟨b.c, 0, none⟩), .int .i64 p] w fun e w' => e = .returned (.bool (dropOk C p)) ∧ CX w' b (dropC C p) ∧ Frm b.fp w w' := by
  unfold dropC
  cases hd : dropOk C p with
  | true =>
    unfold dropOk at hd
    rw [Bool.and_eq_true, decide_eq_true_eq, decide_eq_true_eq] at hd
    exact (cdrop_yes h p hd.1 hd.2).mono fun e w' hr => hr
  | false =>
    unfold dropOk at hd
    rw [Bool.and_eq_false_iff, decide_eq_false_iff_not, decide_eq_false_iff_not] at hd
    refine (cdrop_no h p (by omega)).mono ?_
    rintro e w' ⟨rfl, hb⟩
    exact ⟨rfl, h.below hb, Frm.of_below _ hb⟩
def OwnPos (e : Ending) : Prop := ∃ t : Int, e = .returned (.int .i64 t) ∧ 0 ≤ t
theorem sowner_yes (h : StX w b S) (q : Int) (ho : ownB S.M q = true) :
    Calls Tryz.prog 48 #[.pointer (some ⟨b.s, 0, none⟩), .int .i64 q] w fun e w' => OwnPos e ∧ Below w.heap.size w w' := by
  refine (sowner_any h q).mono ?_
  rintro e w' ⟨⟨t, rfl, ht⟩, hb⟩
  rcases ht with ⟨h1, -⟩ | ⟨-, h1⟩
  · exact ⟨⟨t, rfl, h1⟩, hb⟩
  · rw [ho] at h1; cases h1
theorem sowner_no (h : StX w b S) (q : Int) (ho : ownB S.M q = false) :
    Calls Tryz.prog 48 #[.pointer (some ⟨b.s, 0, none⟩), .int .i64 q] w fun e w' => e = .returned (.int .i64 (-1)) ∧ Below w.heap.size w w' := by
  have hd := h.ca.mp.dom
  refine (sowner_any h q).mono ?_
  rintro e w' ⟨⟨t, rfl, ht⟩, hb⟩
  rcases ht with ⟨-, k, h1⟩ | ⟨h1, -⟩
  · rw [(ownB_iff hd q).2 ⟨_, _, h1⟩] at ho; cases ho
  · rw [h1]; exact ⟨rfl, hb⟩
theorem strim_any (h : StX w b S) (p : Int) :
    Calls Tryz.prog 21 #[.pointer (some ⟨b.s, 0, none⟩), .int .i64 p] w fun e w' => e = .returned (.bool (trimB S p)) ∧ StX w' b (trimS S p) ∧ Frm b.fp w w' := by
  have H := Lib.hid h
  clear h
  cases ho : ownB S.M p with
  | true =>
    have HB := Lib.hid (show trimB S p = false by unfold trimB; rw [ho]; rfl)
    have HS := Lib.hid (show trimS S p = S by unfold trimS; rw [ho]; rfl)
    have HO := Lib.hid ho
    clear ho
    go_enter Tryz.func21, Tryz.ntmps21
    go_wp2_with (first
      | (go_at_call 23; refine (sis_any H.out).mono ?_; rintro e w1 ⟨rfl, rfl⟩)
      | (go_at_call 48; refine (sowner_yes H.out p HO.out).mono ?_; rintro e w1 ⟨⟨t, rfl, ht⟩, hb⟩; have t0 : decide (t < 0) = false := (by rw [decide_eq_false_iff_not]; omega); have B1 := Lib.hid hb; clear ht hb))
    go_ret
    exact ⟨ret_bool HB.out.symm, by rw [HS.out]; exact H.out.below B1.out, Frm.of_below _ B1.out⟩
  | false =>
    have HB := Lib.hid (show trimB S p = dropOk S.C p by unfold trimB; rw [ho]; rfl)
    have HS := Lib.hid (show trimS S p = { S with C := dropC S.C p } by unfold trimS; rw [ho]; rfl)
    have HO := Lib.hid ho
    obtain ⟨r, hr⟩ : ∃ r, r = dropOk S.C p := ⟨_, rfl⟩
    have HR := Lib.hid hr
    clear ho hr
    go_enter Tryz.func21, Tryz.ntmps21
    go_wp2_with (first
      | (go_at_call 23; refine (sis_any H.out).mono ?_; rintro e w1 ⟨rfl, rfl⟩)
      | (go_at_call 48; refine (sowner_no H.out p HO.out).mono ?_; rintro e w1 ⟨rfl, hb⟩; have hx := H.out.below hb; have d0 := hx.cells.1; have H1 := Lib.hid hx; have B1 := Lib.hid hb; clear hb hx)
      | (go_at_call 47; refine (cdrop_any H1.out.cx p).mono ?_; rw [← HR.out]; rintro e w2 ⟨rfl, hx, hf⟩; have H2 := Lib.hid (H1.out.withCX hf hx); have F2 := Lib.hid ((Frm.of_below b.fp B1.out).trans (hf.sub (fp' := b.fp) b.sub_cb) (fun x hx => .inl hx)); clear hx hf))
    go_ret
    exact ⟨ret_bool (by rw [HB.out, HR.out]), by rw [HS.out]; exact H2.out, F2.out⟩
def quitP (x : Cs × Int) (p : Int) : Cs × Int := (dropC x.1 p, if dropOk x.1 p = true then x.2 + 1 else x.2)
theorem quitP_fst : ∀ (l : List Int) (x : Cs × Int), (l.foldl quitP x).1 = l.foldl dropC x.1
  | [], _ => rfl
  | p :: l, x => quitP_fst l (quitP x p)
def quitV (S : Sm) (t : Int) : Int := ((quitL S t).foldl quitP (S.C, 0)).2
theorem quitP_bd : ∀ (l : List Int) (x : Cs × Int), x.2 ≤ (l.foldl quitP x).2 ∧ (l.foldl quitP x).2 ≤ x.2 + l.length
  | [], x => by simp
  | p :: l, x => by
    have := quitP_bd l (quitP x p)
    have h2 : x.2 ≤ (quitP x p).2 ∧ (quitP x p).2 ≤ x.2 + 1 := by unfold quitP; dsimp only; split <;> omega
    simp only [List.foldl_cons, List.length_cons]
    omega
set_option maxHeartbeats 4000000 in
set_option maxRecDepth 100000 in
theorem squit_any (h : StX w b S) (t : Int) (wt : wfI t) :
    Calls Tryz.prog 20 #[.pointer (some ⟨b.s, 0, none⟩), .int .i64 t] w fun e w' => e = .returned (.int .i64 (quitV S t)) ∧ StX w' b (quitS S t) ∧ Frm b.fp w w' := by
  have H := Lib.hid h
  have WT := Lib.hid wt
  have c1 := h.cells.2.1
  obtain ⟨xs, hxs⟩ : ∃ xs, xs = quitL S t := ⟨_, rfl⟩
  have HXS := Lib.hid hxs
  have HXL := Lib.hid (show xs.length ≤ 4 by rw [hxs]; unfold quitL; rw [sortI_len]; exact dropL_len _ _ _)
  have HBS := Lib.hid (fun k (hk : k ∈ b.fp) => (show k < w.heap.size from by
    simp only [Sl.fp, List.mem_cons] at hk
    rcases hk with rfl | rfl | hk
    · exact heap_lt h.hd
    · exact h.ca.mp.lt
    · exact h.cx.lt k hk))
  clear h wt hxs
  go_enter Tryz.func20, Tryz.ntmps20
  go_wp2_with (first
    | (go_at_call 23; refine (sis_any H.out).mono ?_; rintro e w1 ⟨rfl, rfl⟩)
    | (go_at_call 46; refine (cadrop_any H.out.ca t WT.out).mono ?_; rw [show sortI (dropL S.M t 4) = xs from HXS.out.symm]; rintro e w1 ⟨⟨v, rfl, hr⟩, hx, hf⟩; obtain ⟨A, cap, rfl, -, -, -⟩ := hr.slice; have R1 := Lib.hid hr; have H1 := Lib.hid (H.out.withCa hf hx); have F1 := Lib.hid (hf.sub (fp' := b.fp) b.sub_ob); clear hr hx hf))
  go_loopw [5, 18] (fun a i wr => ∃ k : Nat, i = .int .i64 (k : Int) ∧ a = .int .i64 ((xs.take k).foldl quitP (S.C, 0)).2 ∧ k ≤ xs.length ∧ Hid (StX wr b { S with M := cutM S.M t 4, C := ((xs.take k).foldl quitP (S.C, 0)).1 }) ∧ Hid (Frm b.fp w1 wr)) (fun _ i _ => 6 - (intOf i).toNat)
  case atStart => exact ⟨0, rfl, rfl, Nat.zero_le _, H1, Lib.hid (Frm.refl _ _)⟩
  case round =>
    obtain ⟨k, rfl, rfl, hk, HX, HF⟩ := hrel
    obtain ⟨y, hy⟩ : ∃ y, y = (xs.take k).foldl quitP (S.C, 0) := ⟨_, rfl⟩
    rw [← hy] at HX
    rw [← hy]
    have hbd := quitP_bd (xs.take k) (S.C, 0)
    rw [← hy, List.length_take] at hbd
    have hbd : 0 ≤ y.2 ∧ y.2 ≤ 4 := by have := HXL.out; simp only at hbd; omega
    by_cases hlt : k < xs.length
    · have hd : decide (k < xs.length) = true := by simpa using hlt
      obtain ⟨g, rfl, cx⟩ := (R1.out.frm HF.out HBS.out).read.2 k hlt
      have i1 : (0 : Int) ≤ (k : Int) := by omega
      have i2 : (k : Int) < (xs.length : Int) := by omega
      obtain ⟨x, hx⟩ : ∃ x, x = xs.getD k 0 := ⟨_, rfl⟩
      rw [← hx] at cx
      have HT1 := Lib.hid (show (xs.take (k + 1)).foldl quitP (S.C, 0) = quitP y x by rw [take_one hlt, List.foldl_append, ← hy, ← hx]; rfl)
      have k1 : IntKind.i64.wrap ((k : Int) + 1) = ((k + 1 : Nat) : Int) := by have := HXL.out; rw [IntKind.wrap_i64]; omega
      have k2 : IntKind.i64.wrap (y.2 + 1) = y.2 + 1 := by rw [IntKind.wrap_i64]; omega
      have HK := Lib.hid hlt
      have d0 := HX.out.cells.1
      clear hx hlt hk hy hbd
      cases hp : dropOk y.1 x with
      | true =>
        have HP := Lib.hid hp
        have HQ := Lib.hid (show quitP y x = (dropC y.1 x, y.2 + 1) by unfold quitP; rw [hp]; rfl)
        clear hp
        go_wp2_with (go_at_call 47; refine (cdrop_any HX.out.cx x).mono ?_; rw [show dropOk ({ S with M := cutM S.M t 4, C := y.1 } : Sm).C x = true from HP.out]; rintro e w2 ⟨rfl, hx, hf⟩; have H2 := Lib.hid (HX.out.withCX hf hx); have F2 := Lib.hid (HF.out.trans (hf.sub (fp' := b.fp) b.sub_cb) (fun x hx => .inl hx)); clear hx hf)
        go_roundw
        case rel => exact ⟨k + 1, rfl, by rw [HT1.out, HQ.out], HK.out, Lib.hid (by rw [HT1.out, HQ.out]; exact H2.out), F2⟩
        case measure => have := HK.out; have := HXL.out; simp only [intOf]; omega
      | false =>
        have HP := Lib.hid hp
        have HQ := Lib.hid (show quitP y x = (dropC y.1 x, y.2) by unfold quitP; rw [hp]; rfl)
        clear hp
        go_wp2_with (go_at_call 47; refine (cdrop_any HX.out.cx x).mono ?_; rw [show dropOk ({ S with M := cutM S.M t 4, C := y.1 } : Sm).C x = false from HP.out]; rintro e w2 ⟨rfl, hx, hf⟩; have H2 := Lib.hid (HX.out.withCX hf hx); have F2 := Lib.hid (HF.out.trans (hf.sub (fp' := b.fp) b.sub_cb) (fun x hx => .inl hx)); clear hx hf)
        go_roundw
        case rel => exact ⟨k + 1, rfl, by rw [HT1.out, HQ.out], HK.out, Lib.hid (by rw [HT1.out, HQ.out]; exact H2.out), F2⟩
        case measure => have := HK.out; have := HXL.out; simp only [intOf]; omega
    · have hd : decide (k < xs.length) = false := by simpa using hlt
      have HE := Lib.hid (show y = (quitL S t).foldl quitP (S.C, 0) by rw [hy, take_all (by omega), HXS.out])
      clear hlt hk hy hbd
      go_wp2_with fail
      go_ret
      refine ⟨?_, ?_, F1.out.trans HF.out (fun x hx => .inl hx)⟩
      · unfold quitV; rw [← HE.out]; rfl
      · have hS : quitS S t = { S with M := cutM S.M t 4, C := y.1 } := by unfold quitS; rw [HE.out, quitP_fst]
        rw [hS]; exact HX.out
end
end Go.Proofs.YtjoejjhgneccgaaGreat

/- A store: a call, whatever it answers; what it keeps. -/
namespace Go.Proofs.YtjoejjhgneccgaaGreat
open Go.RowKit

/-- A call of the law's. -/
structure Op13 where
  k : Int
  t : Int
  n : Int
  a : Int
  vk : Int
  vn : Int
def Op13.cells (x : Op13) : Array Value := #[.int .i64 x.k, .int .i64 x.t, .int .i64 x.n, .int .i64 x.a, .int .i64 x.vk, .int .i64 x.vn]
/-- What is not named stays as it is. -/
def Stay (S S' : Sm) (z : Nat) : Prop := z ∈ bitsN S'.C.ws ∧ objN S'.C z = objN S.C z
structure Keeps (S S' : Sm) (x : Op13) : Prop where
  sj : SJ S'
  md : S'.md ≤ S.md + 1
  th : S'.th = S.th
  st : ∀ z ∈ bitsN S.C.ws, (x.a ≠ z ∨ (x.k ≠ 3 ∧ x.k ≠ 4)) → Stay S S' z
section
variable {S S' : Sm} {x : Op13}
theorem keeps_sam (h : SJ S) (hs : Sam S S') (si : SI S') (ht : S'.th = S.th) : Keeps S S' x := ⟨h.sam hs si, by rw [hs.md]; omega, ht, fun z hz _ => ⟨(hs.mem z).2 hz, hs.obj h hz⟩⟩
theorem keeps_alc {z n : Nat} (h : SJ S) (hA : Alc S S' z n) (si : SI S') (m : S.md < 1000000) (ht : S'.th = S.th) : Keeps S S' x := ⟨h.alc hA si m, by rw [hA.md]; omega, ht, fun y hy _ => ⟨(hA.mem y).2 (.inr hy), hA.old h hy⟩⟩
theorem fastS_th (S : Sm) (t n : Int) : (fastS S t n).th = S.th := by unfold fastS; split <;> rfl
theorem slowS_th (S : Sm) (t n : Int) : (slowS S t n).th = S.th := by
  unfold slowS
  split
  · rfl
  · split
    · unfold largeS; split <;> rfl
    · unfold smallS
      split
      · exact fastS_th _ _ _
      · split
        · rfl
        · rw [fastS_th]; exact (openS_same S _).2.1
theorem keeps_fast (h : SJ S) (m : S.md < 1000000) (t n : Int) : Keeps S (fastS S t n) x := by
  cases hb : fastB S t n with
  | false =>
    have e : fastS S t n = S := by unfold fastS; rw [hb]; rfl
    rw [e]
    exact keeps_sam h (Sam.refl S) h.si rfl
  | true =>
    obtain ⟨z, k, -, -, hA, -⟩ := fast_alc h.si h.m0 hb
    exact keeps_alc h hA (h.si.fast t n) m (fastS_th _ _ _)
theorem keeps_slow (h : SJ S) (m : S.md < 1000000) (t n : Int) : Keeps S (slowS S t n) x := by
  rcases slow_cases h.si h.m0 t n with ⟨z, k, -, -, -, hA⟩ | ⟨e, -⟩
  · exact keeps_alc h hA (h.si.slow t n) m (slowS_th _ _ _)
  · rw [e]; exact keeps_sam h (Sam.refl S) h.si rfl
theorem keeps_free (h : SJ S) (hk : x.k = 3) : Keeps S (freeS S x.a) x := by
  cases ho : hasO S x.a with
  | false => rw [free_no ho]; exact keeps_sam h (Sam.refl S) h.si rfl
  | true =>
    obtain ⟨a, ha, hm⟩ := (h.has _).1 ho
    rw [ha]
    obtain ⟨h1, h2⟩ := h.free hm
    refine ⟨h1, by rw [h2.md]; omega, h2.th, fun z hz hn => ?_⟩
    have hne : z ≠ a := fun e => by
      rcases hn with h3 | h3
      · exact h3 (by rw [ha, e])
      · exact h3.1 hk
    exact ⟨(h2.mem z).2 ⟨hne, hz⟩, h2.obj h hz hne⟩
theorem keeps_set (h : SJ S) (hk : x.k = 4) : Keeps S (setS S x.a x.n x.vk x.vn) x := by
  cases hm : mayB S x.a x.n x.vk x.vn with
  | false => rw [(set_no hm).2]; exact keeps_sam h (Sam.refl S) h.si rfl
  | true =>
    unfold mayB at hm
    rw [Bool.and_eq_true, beq_iff_eq] at hm
    obtain ⟨a, j, ha, hj, hx, hlt⟩ := h.field.1 hm.2
    rw [ha, hj]
    obtain ⟨-, h1, h2⟩ := h.set hx hlt hm.1
    refine ⟨h1, by rw [h2.md]; omega, h2.th, fun z hz hn => ?_⟩
    have hne : z ≠ a := fun e => by
      rcases hn with h3 | h3
      · exact h3 (by rw [ha, e])
      · exact h3.2 hk
    exact ⟨by rw [h2.ws]; exact hz, h2.other h hz hne⟩
theorem keeps_quit (h : SJ S) (t : Int) : Keeps S (quitS S t) x := keeps_sam h (h.si.quit t).2 (h.si.quit t).1 rfl
theorem keeps_trim (h : SJ S) (p : Int) : Keeps S (trimS S p) x := keeps_sam h (h.si.trim p).2 (h.si.trim p).1 (by unfold trimS; split <;> rfl)
end
section
variable {w w' : World} {b : Sl} {S : Sm}
def DoR (w w' : World) (b : Sl) (S : Sm) (x : Op13) (e : Ending) : Prop := e = .returned (.tuple #[]) ∧ ∃ S', StX w' b S' ∧ Keeps S S' x ∧ Frm b.fp w w'
theorem op13_box (w : World) (x : Op13) : let W := w.alloc (.cells x.cells 31)
    W.cell? ⟨w.heap.size, 0, none⟩ = some (.int .i64 x.k) ∧ W.cell? ⟨w.heap.size, 1, none⟩ = some (.int .i64 x.t) ∧ W.cell? ⟨w.heap.size, 2, none⟩ = some (.int .i64 x.n) ∧ W.cell? ⟨w.heap.size, 3, none⟩ = some (.int .i64 x.a) ∧ W.cell? ⟨w.heap.size, 4, none⟩ = some (.int .i64 x.vk) ∧ W.cell? ⟨w.heap.size, 5, none⟩ = some (.int .i64 x.vn) :=
  ⟨cell_of_row _ _ _ _ _ _ (heap_alloc_new w _), cell_of_row _ _ _ _ _ _ (heap_alloc_new w _), cell_of_row _ _ _ _ _ _ (heap_alloc_new w _), cell_of_row _ _ _ _ _ _ (heap_alloc_new w _), cell_of_row _ _ _ _ _ _ (heap_alloc_new w _), cell_of_row _ _ _ _ _ _ (heap_alloc_new w _)⟩
set_option maxHeartbeats 4000000 in
set_option maxRecDepth 100000 in
theorem sdo_any (h : StX w b S) (sj : SJ S) (m : S.md < 1000000) (x : Op13) (wt : wfI x.t) :
    Calls Tryz.prog 7 #[.pointer (some ⟨b.s, 0, none⟩), .agg #[.int .i64 x.k, .int .i64 x.t, .int .i64 x.n, .int .i64 x.a, .int .i64 x.vk, .int .i64 x.vn]] w fun e w' => DoR w w' b S x e := by
  have B0 := Lib.hid (below_alloc0 w (.cells #[.int .i64 x.k, .int .i64 x.t, .int .i64 x.n, .int .i64 x.a, .int .i64 x.vk, .int .i64 x.vn] 31))
  have H := Lib.hid (h.below B0.out)
  have F0 := Lib.hid (Frm.of_below b.fp B0.out)
  have SJ0 := Lib.hid sj
  have MD := Lib.hid m
  have WT := Lib.hid wt
  obtain ⟨c0, c1, c2, c3, c4, c5⟩ := op13_box w x
  clear h sj m wt
  obtain ⟨k, t, n, a, vk, vn⟩ := x
  simp only [Op13.cells] at *
  by_cases h1 : k = 1
  · subst h1
    have KP := Lib.hid (keeps_fast (x := ⟨1, t, n, a, vk, vn⟩) SJ0.out MD.out t n)
    go_enter Tryz.func7, Tryz.ntmps7
    go_wp2_with (go_at_call 14; refine (sfast_any H.out SJ0.out.si t n WT.out SJ0.out.m0 MD.out).mono ?_; rintro e w1 ⟨rfl, hx, hf⟩; have H1 := Lib.hid hx; have F1 := Lib.hid (F0.out.trans hf (fun _ h => .inl h)); clear hx hf)
    go_end0
    exact ⟨rfl, _, H1.out, KP.out, F1.out⟩
  have q1 : (k == 1) = false := by simpa using h1
  by_cases h2 : k = 2
  · subst h2
    have KP := Lib.hid (keeps_slow (x := ⟨2, t, n, a, vk, vn⟩) SJ0.out MD.out t n)
    clear h1
    go_enter Tryz.func7, Tryz.ntmps7
    go_wp2_with (go_at_call 8; refine (sslow_any H.out SJ0.out.si t n SJ0.out.m0 MD.out).mono ?_; rintro e w1 ⟨rfl, hx, hf⟩; have H1 := Lib.hid hx; have F1 := Lib.hid (F0.out.trans hf (fun _ h => .inl h)); clear hx hf)
    go_end0
    exact ⟨rfl, _, H1.out, KP.out, F1.out⟩
  have q2 : (k == 2) = false := by simpa using h2
  by_cases h3 : k = 3
  · subst h3
    have KP := Lib.hid (keeps_free (x := ⟨3, t, n, a, vk, vn⟩) SJ0.out rfl)
    clear h1 h2
    go_enter Tryz.func7, Tryz.ntmps7
    go_wp2_with (go_at_call 19; refine (sfree_any H.out SJ0.out.si a).mono ?_; rintro e w1 ⟨rfl, hx, hf⟩; have H1 := Lib.hid hx; have F1 := Lib.hid (F0.out.trans hf (fun _ h => .inl h)); clear hx hf)
    go_end0
    exact ⟨rfl, _, H1.out, KP.out, F1.out⟩
  have q3 : (k == 3) = false := by simpa using h3
  by_cases h4 : k = 4
  · subst h4
    have KP := Lib.hid (keeps_set (x := ⟨4, t, n, a, vk, vn⟩) SJ0.out rfl)
    clear h1 h2 h3
    go_enter Tryz.func7, Tryz.ntmps7
    go_wp2_with (go_at_call 9; refine (sset_any H.out SJ0.out a n vk vn).mono ?_; rintro e w1 ⟨rfl, hx, hf⟩; have H1 := Lib.hid hx; have F1 := Lib.hid (F0.out.trans hf (fun _ h => .inl h)); clear hx hf)
    go_end0
    exact ⟨rfl, _, H1.out, KP.out, F1.out⟩
  have q4 : (k == 4) = false := by simpa using h4
  by_cases h5 : k = 5
  · subst h5
    have KP := Lib.hid (keeps_quit (x := ⟨5, t, n, a, vk, vn⟩) SJ0.out t)
    clear h1 h2 h3 h4
    go_enter Tryz.func7, Tryz.ntmps7
    go_wp2_with (go_at_call 20; refine (squit_any H.out t WT.out).mono ?_; rintro e w1 ⟨rfl, hx, hf⟩; have H1 := Lib.hid hx; have F1 := Lib.hid (F0.out.trans hf (fun _ h => .inl h)); clear hx hf)
    go_end0
    exact ⟨rfl, _, H1.out, KP.out, F1.out⟩
  have q5 : (k == 5) = false := by simpa using h5
  have KP := Lib.hid (keeps_trim (x := ⟨k, t, n, a, vk, vn⟩) SJ0.out a)
  clear h1 h2 h3 h4 h5
  go_enter Tryz.func7, Tryz.ntmps7
  go_wp2_with (go_at_call 21; refine (strim_any H.out a).mono ?_; rintro e w1 ⟨rfl, hx, hf⟩; have H1 := Lib.hid hx; have F1 := Lib.hid (F0.out.trans hf (fun _ h => .inl h)); clear hx hf)
  go_end0
  exact ⟨rfl, _, H1.out, KP.out, F1.out⟩
end
end Go.Proofs.YtjoejjhgneccgaaGreat

/- A store: two of the greatest small ones. -/
namespace Go.Proofs.YtjoejjhgneccgaaGreat
open Go.RowKit

def al0 : Sm := Sm.new 2 1
def al1 : Sm := slowS al0 0 15
def al2 : Sm := fastS al1 0 15
def al3 : Sm := slowS al2 0 15
def al4 : Sm := slowS al3 0 16
theorem al_v0 : slowV al0 0 15 = (0, 0) := by kernel_rfl
theorem al_v1 : fastV al1 0 15 = some 16 := by kernel_rfl
theorem al_v2 : slowV al2 0 15 = (32, 0) := by kernel_rfl
theorem al_v3 : slowV al3 0 16 = (0, 10) := by kernel_rfl
theorem al_m1 : al1.md = 1 := by kernel_rfl
theorem al_m2 : al2.md = 2 := by kernel_rfl
theorem al_m3 : al3.md = 3 := by kernel_rfl
theorem al_m4 : al4.md = 3 := by kernel_rfl
theorem al_f4 : (readV al4 16).2 = 15 := by kernel_rfl
theorem al_s4 : (readV al4 32).1 = 2 := by kernel_rfl
end Go.Proofs.YtjoejjhgneccgaaGreat

/- A store: the law's alive. -/
namespace Go.Proofs.YtjoejjhgneccgaaGreat
open Go.RowKit

theorem SI.al0 : SI al0 := SI.new (by decide) (by decide)
theorem SI.al1 : SI al1 := SI.al0.slow 0 15
theorem SI.al2 : SI al2 := SI.al1.fast 0 15
theorem SI.al3 : SI al3 := SI.al2.slow 0 15
section
variable {w w' : World} {b : Sl}
theorem al_new (w : World) : Calls Tryz.prog 5 #[.int .i64 2, .int .i64 1] w fun e w' => NewS 2 1 w.heap.size e w' ∧ Below w.heap.size w w' := by
  have := stnew_any 2 1 w
  rwa [show (clampN 2 0 64).toNat = 2 by decide, show clampN 1 0 9 = 1 by decide] at this
theorem al_c1 (h : StX w b al0) : Calls Tryz.prog 8 #[.pointer (some ⟨b.s, 0, none⟩), .int .i64 0, .int .i64 15] w fun e w' => e = .returned (.tuple #[.int .i64 0, .int .i64 0]) ∧ StX w' b al1 ∧ Frm b.fp w w' := by
  have := sslow_any h SI.al0 0 15 (by decide) (by decide)
  rw [al_v0] at this
  exact this
theorem al_c2 (h : StX w b al1) : Calls Tryz.prog 14 #[.pointer (some ⟨b.s, 0, none⟩), .int .i64 0, .int .i64 15] w fun e w' => e = .returned (.tuple #[.int .i64 16, .bool true]) ∧ StX w' b al2 ∧ Frm b.fp w w' := by
  have := sfast_any h SI.al1 0 15 ⟨by decide, by decide⟩ (by rw [al_m1]; decide) (by rw [al_m1]; decide)
  rw [al_v1] at this
  exact this
theorem al_c3 (h : StX w b al2) : Calls Tryz.prog 8 #[.pointer (some ⟨b.s, 0, none⟩), .int .i64 0, .int .i64 15] w fun e w' => e = .returned (.tuple #[.int .i64 32, .int .i64 0]) ∧ StX w' b al3 ∧ Frm b.fp w w' := by
  have := sslow_any h SI.al2 0 15 (by rw [al_m2]; decide) (by rw [al_m2]; decide)
  rw [al_v2] at this
  exact this
theorem al_c4 (h : StX w b al3) : Calls Tryz.prog 8 #[.pointer (some ⟨b.s, 0, none⟩), .int .i64 0, .int .i64 16] w fun e w' => e = .returned (.tuple #[.int .i64 0, .int .i64 10]) ∧ StX w' b al4 ∧ Frm b.fp w w' := by
  have := sslow_any h SI.al3 0 16 (by rw [al_m3]; decide) (by rw [al_m3]; decide)
  rw [al_v3] at this
  exact this
theorem al_q1 (h : StX w b al4) : Calls Tryz.prog 15 #[.pointer (some ⟨b.s, 0, none⟩)] w fun e w' => e = .returned (.int .i64 3) ∧ w = w' := by
  have := smade_any h
  rwa [al_m4] at this
theorem al_q2 (h : StX w b al4) : Calls Tryz.prog 12 #[.pointer (some ⟨b.s, 0, none⟩), .int .i64 16] w fun e w' => e = .returned (.int .i64 15) ∧ w = w' := by
  have := sfields_any h 16
  rwa [al_f4] at this
theorem al_q3 (h : StX w b al4) : Calls Tryz.prog 10 #[.pointer (some ⟨b.s, 0, none⟩), .int .i64 32] w fun e w' => e = .returned (.int .i64 2) ∧ w = w' := by
  have := sserial_any h 32
  rwa [al_s4] at this
set_option maxHeartbeats 4000000 in
set_option maxRecDepth 100000 in
theorem stalive_any (w : World) :
    Calls Tryz.prog 4 #[] w fun e w' => e = .returned (.bool true) ∧ Below w.heap.size w w' := by
  go_enter Tryz.func4, Tryz.ntmps4
  go_wp2_with (first
    | (go_at_call 5; refine (al_new _).mono ?_; rintro e w1 ⟨⟨b, rfl, hx, hg, -⟩, hb⟩; have H1 := Lib.hid hx; have G1 := Lib.hid hg; have B1 := Lib.hid hb; clear hx hg hb)
    | (go_at_call 8; (with_reducible refine (al_c1 H1.out).mono ?_); rintro e w2 ⟨rfl, hx, hf⟩; have H2 := Lib.hid hx; have F2 := Lib.hid hf; clear hx hf)
    | (go_at_call 14; (with_reducible refine (al_c2 H2.out).mono ?_); rintro e w3 ⟨rfl, hx, hf⟩; have H3 := Lib.hid hx; have F3 := Lib.hid (F2.out.trans hf (fun x hx => .inl hx)); clear hx hf)
    | (go_at_call 8; (with_reducible refine (al_c3 H3.out).mono ?_); rintro e w4 ⟨rfl, hx, hf⟩; have H4 := Lib.hid hx; have F4 := Lib.hid (F3.out.trans hf (fun x hx => .inl hx)); clear hx hf)
    | (go_at_call 8; (with_reducible refine (al_c4 H4.out).mono ?_); rintro e w5 ⟨rfl, hx, hf⟩; have H5 := Lib.hid hx; have F5 := Lib.hid (F4.out.trans hf (fun x hx => .inl hx)); clear hx hf)
    | (go_at_call 15; refine (al_q1 H5.out).mono ?_; rintro e w6 ⟨rfl, rfl⟩)
    | (go_at_call 12; refine (al_q2 H5.out).mono ?_; rintro e w6 ⟨rfl, rfl⟩)
    | (go_at_call 10; refine (al_q3 H5.out).mono ?_; rintro e w6 ⟨rfl, rfl⟩))
  go_ret
  exact ⟨rfl, B1.out.trans (F5.out.below B1.out.size G1.out)⟩
end
end Go.Proofs.YtjoejjhgneccgaaGreat

/- A law's own blocks, seen from below; all of a store's blocks. -/
namespace Go.Proofs.YtjoejjhgneccgaaGreat
open Go.RowKit

/-- All of a store's blocks. -/
def stfp (b : Sl) : List Nat := b.oc :: b.fp
section
variable {w w' : World} {b : Sl} {S : Sm}
theorem StX.lt (h : StX w b S) : ∀ k ∈ stfp b, k < w.heap.size := by
  intro k hk
  simp only [stfp, Sl.fp, List.mem_cons] at hk
  rcases hk with rfl | rfl | rfl | hk
  · exact heap_lt h.ca.hd
  · exact heap_lt h.hd
  · exact h.ca.mp.lt
  · exact h.cx.lt k hk
theorem StX.keep (h : StX w b S) (hk : ∀ k ∈ stfp b, w'.heap[k]? = w.heap[k]?) : StX w' b S :=
  ⟨(hk b.s (by simp [stfp, Sl.fp])).trans h.hd, h.cx.keep fun k e => hk k (by simp [stfp, Sl.fp, e]), h.ca.keep (hk b.oc (by simp [stfp])) (hk b.ob (by simp [stfp, Sl.fp]))⟩
theorem stfp_sub (b : Sl) : ∀ k ∈ b.fp, k ∈ stfp b := fun _ h => List.mem_cons_of_mem _ h
end
/-- Blocks of a law's own, and what lay there ahead of it. -/
structure Lay (B : Nat) (w0 w : World) (fp : List Nat) : Prop where
  bl : Below B w0 w
  ge : ∀ k ∈ fp, B ≤ k
  sz : B ≤ w.heap.size
section
variable {B : Nat} {w0 w w' : World} {fp fp' : List Nat}
theorem Lay.start (w : World) : Lay w.heap.size w w [] := ⟨Below.refl _ _, fun _ h => by simp at h, Nat.le_refl _⟩
theorem Lay.turn (h : Lay B w0 w fp) (ht : Turn fp fp' w w') : Lay B w0 w' fp' :=
  ⟨h.bl.trans (ht.frm.below h.sz h.ge), fun k hk => by
    rcases ht.fr k hk with h1 | h1
    · exact h.ge k h1
    · exact Nat.le_trans h.sz h1, Nat.le_trans h.sz ht.size⟩
theorem Lay.sub (h : Lay B w0 w fp) (hs : ∀ k ∈ fp', k ∈ fp) : Lay B w0 w fp' := ⟨h.bl, fun k hk => h.ge k (hs k hk), h.sz⟩
theorem Lay.below (h : Lay B w0 w fp) (hb : Below w.heap.size w w') : Lay B w0 w' fp := ⟨h.bl.trans (hb.mono h.sz), h.ge, Nat.le_trans h.sz hb.size⟩
/-- New blocks. -/
theorem Lay.new (h : Lay B w0 w fp) (hb : Below w.heap.size w w') (hn : ∀ k ∈ fp', k ∈ fp ∨ w.heap.size ≤ k) : Lay B w0 w' fp' :=
  ⟨h.bl.trans (hb.mono h.sz), fun k hk => by
    rcases hn k hk with h1 | h1
    · exact h.ge k h1
    · exact Nat.le_trans h.sz h1, Nat.le_trans h.sz hb.size⟩
theorem SJ.new {N : Nat} (hN : N ≤ 64) {th : Int} (h : 0 ≤ th ∧ th ≤ 9) : SJ (Sm.new N th) :=
  ⟨SI.new hN h, Int.le_refl _, by show (0 : Int) ≤ 1000000; decide, fun a ha => by
    rw [mem_bits] at ha
    have := ha.2
    rw [show bit (Sm.new N th).C.ws a = false from zero_bits a] at this
    cases this⟩
theorem stfp_ge {b : Sl} {B : Nat} (h1 : ∀ x ∈ b.fp, B ≤ x) (h2 : B ≤ b.oc) : ∀ k ∈ stfp b, B ≤ k := fun k hk => by
  rcases List.mem_cons.1 hk with rfl | hk
  · exact h2
  · exact h1 k hk
end
end Go.Proofs.YtjoejjhgneccgaaGreat

/- Arguments, opened: a struct of whole numbers by value; a slice of octets. -/
namespace Go.Proofs.YtjoejjhgneccgaaGreat
open Go.ChangeShapes Go.WideShapes Go.ChangeAt Go.RowKit Go.Deep

section
variable {H : Type} {enc : TypeId × Value → H} {P : Program} {w : World} {base : Nat} {spare : Nat → Bool} {held : Bool}

theorem open_ints_struct {r : Reach} {b0 : Nat} {t : TypeId} {fs : Array Field} {v : Value} {d : DataW H} {p : List MemPlace} (hs : P.underlying t = some (.struct fs)) (hone : oneCellFields P fs = true) (hC : P.cellsOf t = fs.size)
    (hk : ∀ (i : Nat) (f : Field), fs[i]? = some f → P.underlying f.type = some (.int .i64))
    (hv : Value.okWide P w r b0 t v) (h : DataW.Trod enc P w base spare held t v d p) :
    ∃ xs : List Int, xs.length = fs.size ∧ v = .agg (xs.map (Value.int .i64)).toArray ∧ ∀ x ∈ xs, (Lit.int .i64 x).wf = true := by
  obtain ⟨cs, rfl, hsz⟩ := okWide_struct hs hv
  obtain ⟨fuel, hf⟩ := h
  obtain ⟨ys, n, _, _, _, hlen, hg⟩ := DataW.trod_struct hs hf
  have hcs : ∀ j, j < fs.size → ∃ x : Int, cs[j]? = some (.int .i64 x) ∧ (Lit.int .i64 x).wf = true := by
    intro j hj
    have hjs : fs[j]? = some fs[j] := Array.getElem?_eq_getElem hj
    obtain ⟨ho, hk1⟩ := hone_of hone j _ hjs
    have h1 := hg j _ hjs
    rw [ho, hk1] at h1
    have hys : ys[j]? = some (ys[j]'(by omega)) := List.getElem?_eq_getElem (by omega)
    rw [hys] at h1
    obtain ⟨x, e1, _, e3⟩ := DataW.trod_int (hk j _ hjs) h1
    refine ⟨x, ?_, e3⟩
    have hjc : j < cs.toList.length := by simp [hsz, hC]; exact hj
    have : ((Value.agg cs).cells.toList.drop j).take 1 = [cs.toList[j]] := by
      show (cs.toList.drop j).take 1 = _
      rw [List.drop_eq_getElem_cons hjc]; rfl
    rw [this] at e1
    have e2 : cs.toList[j] = Value.int .i64 x := by simpa using e1
    rw [← e2, ← Array.getElem?_toList, List.getElem?_eq_getElem hjc]
  refine ⟨cs.toList.map intOf, by simp [hsz, hC], ?_, ?_⟩
  · congr 1
    apply Array.ext
    · simp
    · intro i h1 h2
      obtain ⟨x, hx, _⟩ := hcs i (by rw [← hC, ← hsz]; exact h1)
      have : cs[i] = .int .i64 x := by rw [Array.getElem?_eq_getElem h1] at hx; simpa using hx
      simp [this, intOf]
  · intro x hx
    obtain ⟨u, hu, rfl⟩ := List.mem_map.1 hx
    obtain ⟨i, hi, rfl⟩ := List.getElem_of_mem hu
    have hi' : i < cs.size := by simpa using hi
    obtain ⟨x, hx, hwf⟩ := hcs i (by rw [← hC, ← hsz]; exact hi')
    have : cs.toList[i] = .int .i64 x := by rw [Array.getElem?_eq_getElem hi'] at hx; simpa using hx
    rw [this]; exact hwf

theorem open_bytes {r : Reach} {b0 : Nat} {t e : TypeId} {v : Value} {d : DataW H} {p : List MemPlace} (ht : P.underlying t = some (.slice e)) (he : P.underlying e = some (.int .u8)) (hc : P.cellsOf e = 1)
    (hv : Value.okWide P w r b0 t v) (h : DataW.Trod enc P w base spare held t v d p) :
    ∃ A n cap xs, v = .slice A n cap ∧ RdB w A n xs := by
  obtain ⟨a, n, cap, rfl⟩ := okWide_slice ht hv
  obtain ⟨fuel, hf⟩ := h
  rcases open_ints ht he hc hf with ⟨hcs, _⟩ | ⟨x, l, c, zs, hcs, _, hl, hm, hz, _, hcell, hwz⟩
  · simp [Value.cells] at hcs
    obtain ⟨rfl, rfl, rfl⟩ := hcs
    exact ⟨_, _, _, [], rfl, rfl, by omega, by simp, fun h0 => absurd h0 (by omega)⟩
  · simp [Value.cells] at hcs
    obtain ⟨rfl, rfl, rfl⟩ := hcs
    have hzl : n ≤ zs.length := by rw [hz]; split <;> omega
    refine ⟨_, n, cap, zs.take n, rfl, by simp; omega, ?_, ?_, fun h0 => ?_⟩
    · unfold maxLen at hm; omega
    · intro y hy
      have := hwz y (List.mem_of_mem_take hy)
      simp only [Lit.wf, Bool.and_eq_true, decide_eq_true_eq] at this
      exact ⟨this.1, this.2⟩
    · obtain ⟨b, off, spot⟩ := x
      have hspot : spot = none := by simpa [Addr.add] using World.cell?_spot (hcell 0 (by omega))
      subst hspot
      refine ⟨b, off, rfl, fun j hj => ?_⟩
      have := hcell j (by omega)
      rw [add_plain] at this
      rw [this]
      simp [List.getD_eq_getElem?_getD, hj]
end
end Go.Proofs.YtjoejjhgneccgaaGreat

/- A slice of structs of whole numbers that came in, opened: each as a list of numbers. -/
namespace Go.Proofs.YtjoejjhgneccgaaGreat
open Go.ChangeShapes Go.WideShapes Go.ChangeAt Go.RowKit Go.Deep

def w64 (z : Int) : Prop := -9223372036854775808 ≤ z ∧ z ≤ 9223372036854775807
structure IOps (size : Nat) (w : World) (A : Option Addr) (n : Nat) (xs : List (List Int)) : Prop where
  len : xs.length = n
  max : n ≤ 140737488355328
  cell : 0 < n → ∃ b o, A = some ⟨b, o, none⟩ ∧ ∀ j, j < n → (∀ k, w64 ((xs.getD j []).getD k 0)) ∧ ∀ k, k < size → w.cell? ⟨b, o + j * size + k, none⟩ = some (.int .i64 ((xs.getD j []).getD k 0))
theorem IOps.below {size : Nat} {w w' : World} {A : Option Addr} {n : Nat} {xs : List (List Int)} (h : IOps size w A n xs) (hb : Below w.heap.size w w') : IOps size w' A n xs :=
  ⟨h.len, h.max, fun h0 => by
    obtain ⟨b, o, e, hc⟩ := h.cell h0
    exact ⟨b, o, e, fun j hj => ⟨(hc j hj).1, fun k hk => cell_keep hb ((hc j hj).2 k hk)⟩⟩⟩
theorem IOps.take {size : Nat} {w : World} {A : Option Addr} {n m : Nat} {xs : List (List Int)} (h : IOps size w A n xs) (hm : m ≤ n) : IOps size w A m (xs.take m) :=
  ⟨by have := h.len; simp; omega, by have := h.max; omega, fun h0 => by
    obtain ⟨b, o, e, hc⟩ := h.cell (by omega)
    refine ⟨b, o, e, fun j hj => ?_⟩
    have he : (xs.take m).getD j [] = xs.getD j [] := by simp only [List.getD_eq_getElem?_getD, List.getElem?_take, hj, if_true]
    rw [he]
    exact hc j (by omega)⟩
/-- What a struct's cells come to. -/
def EachI {H : Type} (enc : TypeId × Value → H) (w : World) (base : Nat) (spare : Nat → Bool) (held : Bool) (E : TypeId) (size : Nat) : Prop :=
  ∀ (fuel : Nat) (cs : List Value) (x : DataW H × List MemPlace), DataW.trod enc Tryz.prog w base spare held fuel E cs = some x → cs.length = size → ∃ l : List Int, l.length = size ∧ (∀ z ∈ l, w64 z) ∧ cs = l.map (Value.int .i64)
section
variable {H : Type} {enc : TypeId × Value → H} {w : World} {base : Nat} {spare : Nat → Bool} {held : Bool} {r : Reach} {b0 : Nat} {v : Value} {d : DataW H} {p : List MemPlace}
theorem int_field {fuel j : Nat} {t : TypeId} {cs : List Value} {y : Option (DataW H × List MemPlace)} (hk : Tryz.prog.underlying t = some (.int .i64)) (hc : Tryz.prog.cellsOf t = 1) (hj : j < cs.length) (hy : y.isSome)
    (h1 : DataW.trod enc Tryz.prog w base spare held fuel t ((cs.drop j).take (Tryz.prog.cellsOf t)) = y) : ∃ z : Int, cs[j]? = some (.int .i64 z) ∧ w64 z := by
  obtain ⟨y, rfl⟩ := Option.isSome_iff_exists.1 hy
  rw [hc] at h1
  obtain ⟨z, e1, _, hwf⟩ := DataW.trod_int hk h1
  refine ⟨z, ?_, bounds_i64 hwf⟩
  have e4 : (cs.drop j).take 1 = [cs[j]] := by rw [List.drop_eq_getElem_cons hj]; rfl
  rw [e4] at e1
  have e2 : cs[j] = Value.int .i64 z := by simpa using e1
  rw [List.getElem?_eq_getElem hj, e2]
/-- Places that are numbers, put together. -/
theorem ints_of_places : ∀ (cs : List Value), (∀ j, j < cs.length → ∃ z : Int, cs[j]? = some (.int .i64 z) ∧ w64 z) → ∃ l : List Int, l.length = cs.length ∧ (∀ z ∈ l, w64 z) ∧ cs = l.map (Value.int .i64)
  | [], _ => ⟨[], rfl, fun z hz => by simp at hz, rfl⟩
  | c :: cs, h => by
    obtain ⟨z, h1, h2⟩ := h 0 (by simp)
    obtain ⟨l, h3, h4, h5⟩ := ints_of_places cs (fun j hj => h (j + 1) (by simpa using hj))
    simp only [List.getElem?_cons_zero, Option.some.injEq] at h1
    refine ⟨z :: l, by simp [h3], fun y hy => ?_, by rw [h1, h5]; rfl⟩
    rcases List.mem_cons.1 hy with rfl | hy
    · exact h2
    · exact h4 y hy
set_option maxRecDepth 100000 in
/-- A struct whose fields are numbers, but for a last one that is a struct of such. -/
theorem each_struct {E : TypeId} {fs : Array Field} {m k size : Nat} (hu : Tryz.prog.underlying E = some (.struct fs)) (hsz : size = m + k)
    (hflat : ∀ i, i < m → ∃ f, fs[i]? = some f ∧ f.offset = i ∧ Tryz.prog.cellsOf f.type = 1 ∧ Tryz.prog.underlying f.type = some (.int .i64))
    (hlast : 0 < k → ∃ f, fs[m]? = some f ∧ f.offset = m ∧ Tryz.prog.cellsOf f.type = k ∧ EachI enc w base spare held f.type k) : EachI enc w base spare held E size := by
  intro fuel cs x h hl
  obtain ⟨ys, n, _, _, _, hlen, hg⟩ := DataW.trod_struct hu h
  have hsome : ∀ i f, fs[i]? = some f → (ys[i]?).isSome := fun i f hf => by
    have := (Array.getElem?_eq_some_iff.1 hf).1
    rw [List.getElem?_eq_getElem (by omega)]; rfl
  refine (ints_of_places cs fun j hj => ?_).imp fun l hh => ⟨hh.1.trans hl, hh.2⟩
  by_cases hjm : j < m
  · obtain ⟨f, h1, h2, h3, h4⟩ := hflat j hjm
    have h5 := hg j f h1
    rw [h2] at h5
    exact int_field h4 h3 hj (hsome j f h1) h5
  · obtain ⟨f, h1, h2, h3, h4⟩ := hlast (by omega)
    have h5 := hg m f h1
    obtain ⟨y, hy⟩ := Option.isSome_iff_exists.1 (hsome m f h1)
    rw [h2, h3, hy] at h5
    obtain ⟨l, q1, q2, q3⟩ := h4 n _ y h5 (by simp; omega)
    have q4 : cs[j]? = ((cs.drop m).take k)[j - m]? := by rw [List.getElem?_take, if_pos (by omega), List.getElem?_drop, show m + (j - m) = j by omega]
    rw [q4, q3, List.getElem?_map, List.getElem?_eq_getElem (by omega)]
    exact ⟨_, rfl, q2 _ (List.getElem_mem _)⟩
set_option maxRecDepth 100000 in
theorem open_iops {T E : TypeId} {size : Nat} (hT : Tryz.prog.underlying T = some (.slice E)) (hbytes : Tryz.prog.bytesOf E = size * 8) (hcells : Tryz.prog.cellsOf E = size) (hs : 0 < size) (he : EachI enc w base spare held E size)
    (hv : Value.okWide Tryz.prog w r b0 T v) (h : DataW.Trod enc Tryz.prog w base spare held T v d p) :
    ∃ A n cap, v = .slice A n cap ∧ n ≤ cap ∧ n ≤ 9223372036854775807 ∧ ((∀ m ∈ d.weights Tryz.prog T, m ≤ reachBytes) → ∃ xs, IOps size w A n xs) := by
  obtain ⟨a0, n0, cap0, rfl⟩ := okWide_slice hT hv
  obtain ⟨fuel, hf⟩ := h
  rcases open_slice hT hf with ⟨hcs, _⟩ | ⟨a, len, cap, m, n, D, Pl, hcs, _, hl, hm, hmm, hd, hx⟩
  · simp [Value.cells] at hcs
    obtain ⟨rfl, rfl, rfl⟩ := hcs
    exact ⟨none, 0, 0, rfl, Nat.le_refl _, by omega, fun _ => ⟨[], rfl, by omega, fun h => absurd h (by omega)⟩⟩
  · simp [Value.cells] at hcs
    obtain ⟨rfl, rfl, rfl⟩ := hcs
    simp only [Prod.mk.injEq] at hd
    obtain ⟨rfl, _⟩ := hd
    have hlm : n0 ≤ m := by rw [hmm]; split <;> omega
    refine ⟨some a, n0, cap0, rfl, hl, by unfold maxLen at hm; omega, fun hw => ?_⟩
    have hlen : n0 ≤ 140737488351232 := by
      have h1 := hw ((n0 + (m - n0)) * (size * 8)) (by simp [DataW.weights, hT, hbytes])
      simp only [reachBytes] at h1
      have h2 : (n0 + (m - n0)) * 1 ≤ (n0 + (m - n0)) * (size * 8) := Nat.mul_le_mul_left _ (by omega)
      omega
    have each : ∀ i, i < n0 → ∃ c : List Int, c.length = size ∧ (∀ z ∈ c, w64 z) ∧ ∀ k, k < size → w.cell? (a.add (i * size + k)) = some (.int .i64 (c.getD k 0)) := by
      intro i hi
      obtain ⟨cs', h1, h2⟩ := hx i (by omega)
      rw [hcells] at h1
      obtain ⟨_, hlen', hcell⟩ := World.cells?_some h1
      obtain ⟨c, hc1, hc2, rfl⟩ := he _ _ _ h2 hlen'
      refine ⟨c, hc1, hc2, fun k hk => ?_⟩
      have := hcell k hk
      rw [add_add] at this
      rw [this, List.getElem?_map, List.getElem?_eq_getElem (by omega), List.getD_eq_getElem?_getD, List.getElem?_eq_getElem (by omega)]
      rfl
    obtain ⟨f, hff⟩ := choose_lt each
    refine ⟨(List.range n0).map f, by simp, by omega, fun h0 => ?_⟩
    obtain ⟨b, off, spot⟩ := a
    have hspot : spot = none := by simpa [Addr.add] using World.cell?_spot ((hff 0 h0).2.2 0 hs)
    subst hspot
    refine ⟨b, off, rfl, fun j hj => ?_⟩
    have hd : ((List.range n0).map f).getD j [] = f j := by simp [List.getD_eq_getElem?_getD, hj]
    rw [hd]
    refine ⟨fun k => ?_, fun k hk => ?_⟩
    · rw [List.getD_eq_getElem?_getD]
      cases hq : (f j)[k]? with
      | none => exact ⟨by decide, by decide⟩
      | some z => exact (hff j hj).2.1 z (List.mem_of_getElem? hq)
    · have := (hff j hj).2.2 k hk
      rw [add_plain] at this
      rw [Nat.add_assoc]; exact this
theorem each_val : EachI enc w base spare held 24 2 :=
  each_struct (m := 2) (k := 0) Tryz.underlying24 rfl (fun i hi => by
    match i, hi with
    | 0, _ => exact ⟨_, rfl, rfl, by kernel_rfl, Tryz.underlying3⟩
    | 1, _ => exact ⟨_, rfl, rfl, by kernel_rfl, Tryz.underlying2⟩) (fun h => absurd h (by decide))
end
end Go.Proofs.YtjoejjhgneccgaaGreat
