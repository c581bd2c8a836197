/- Cells, in plain lists: taken, and given back. -/
import Derived.Test.YtjoejjhgneccgaaGreatQSK01
import Derived.Test.YtjoejjhgneccgaaGreatQSK02
import Derived.Test.YtjoejjhgneccgaaGreatQSK07
namespace Go.Proofs.YtjoejjhgneccgaaGreat
open Go.RowKit

theorem aligned {k : Int} (hk : 1 ≤ k ∧ k ≤ 4) {a : Nat} (h : (a : Int) % 32 % sizeI k = 0) : (a : Int) = cad ((a / 32 : Nat) : Int) k ((a : Int) % 32 / sizeI k) := by
  have hc : k = 1 ∨ k = 2 ∨ k = 3 ∨ k = 4 := by omega
  unfold cad
  rcases hc with rfl | rfl | rfl | rfl <;> simp [sizeI] at * <;> omega
theorem cad_idx {p : Nat} {k i : Int} (hk : 1 ≤ k ∧ k ≤ 4) (h0 : 0 ≤ i) (h1 : i < cellsI k) : (cad p k i).toNat / 32 = p ∧ (((cad p k i).toNat : Int) % 32 % sizeI k = 0) ∧ ((cad p k i).toNat : Int) % 32 / sizeI k = i := by
  have hc : k = 1 ∨ k = 2 ∨ k = 3 ∨ k = 4 := by omega
  unfold cad
  rcases hc with rfl | rfl | rfl | rfl <;> simp [cellsI, sizeI] at * <;> omega
theorem tkB_small {C : Cs} {F : Nat → List Int} {a : Nat} {k : Int} (h : C.ks.getD (a / 32) 0 = k) (hk : 1 ≤ k ∧ k ≤ 4) : tkB C F a = decide ((a : Int) % 32 % sizeI k = 0 ∧ (a : Int) % 32 / sizeI k ∉ F (a / 32)) := by
  unfold tkB; rw [h, if_pos hk]
theorem tkB_other {C : Cs} {F : Nat → List Int} {a : Nat} {k : Int} (h : C.ks.getD (a / 32) 0 = k) (hk : ¬ (1 ≤ k ∧ k ≤ 4)) : tkB C F a = decide (k = 5 ∧ a % 32 = 0) := by
  unfold tkB; rw [h, if_neg hk]
theorem few_ints : ∀ (n : Nat) (l : List Int), l.Nodup → (∀ x ∈ l, 0 ≤ x ∧ x < n) → l.length ≤ n
  | 0, l, _, h => by
    cases l with
    | nil => simp
    | cons x l => have := h x (by simp); omega
  | n + 1, l, hn, h => by
    have h1 := few_ints n (l.erase (n : Int)) (hn.erase _) (fun x hx => by
      have hm := (List.Nodup.mem_erase_iff hn).1 hx
      have := h x hm.2
      have : x ≠ (n : Int) := hm.1
      omega)
    have h2 := List.length_erase (l := l) (a := (n : Int))
    split at h2 <;> omega
/-- A free cell, as the chain tells it. -/
theorem take_ok {C : Cs} {F : Nat → List Int} {q : Nat} {f : Int} {l : List Int} (h : Inv C F) (hq : q < C.ks.length) (k1 : 1 ≤ C.ks.getD q 0) (k4 : C.ks.getD q 0 ≤ 4) (hf : F q = f :: l) :
    ∃ g, TakeP C q (C.ks.getD q 0) f ((l.length : Int) + 1) (-1 - g) ∧ Lnk C.xs q (C.ks.getD q 0) g l := by
  obtain ⟨h1, h2, h3⟩ := h.ln q hq k1 k4
  rw [hf] at h1 h2 h3
  obtain ⟨e1, e2, e3, g, e4, e5, e6, e7⟩ := h1
  have hc := cellsI_pos ⟨k1, k4⟩
  have hfew := few_ints (cellsI (C.ks.getD q 0)).toNat (f :: l) h3 (fun x hx => by
    rcases List.mem_cons.1 hx with rfl | hx
    · omega
    · have := e7.mem x hx; omega)
  rw [List.length_cons] at hfew
  have h2' : (C.ch.getD q (0, 0)).2 = (l.length : Int) + 1 := by rw [h2]; simp
  exact ⟨g, ⟨hq, kindL_in hq, k1, k4, Prod.ext e1 h2', by omega, by omega, e2, e3, e6, by omega, by omega⟩, e7⟩
theorem inv_take {C : Cs} {F : Nat → List Int} {q : Nat} {f g : Int} {l : List Int} (h : Inv C F) (hq : q < C.ks.length) (k1 : 1 ≤ C.ks.getD q 0) (k4 : C.ks.getD q 0 ≤ 4) (hf : F q = f :: l)
    (ht : TakeP C q (C.ks.getD q 0) f ((l.length : Int) + 1) (-1 - g)) (hl : Lnk C.xs q (C.ks.getD q 0) g l) : Inv (takeC C q (C.ks.getD q 0) f ((l.length : Int) + 1) (-1 - g)) (upd F q l) := by
  obtain ⟨k, hk⟩ : ∃ k, k = C.ks.getD q 0 := ⟨_, rfl⟩
  rw [← hk] at k1 k4 ht hl ⊢
  have hkk : 1 ≤ k ∧ k ≤ 4 := ⟨k1, k4⟩
  have hcp := cad_page (p := q) hkk ht.f0 ht.f1
  have hci := cad_idx (p := q) hkk ht.f0 ht.f1
  have hsz := sizeI_pos hkk
  have hlen := h.len
  have hle := h.le
  have hnd : (f :: l).Nodup := by rw [← hf]; exact (h.ln q hq (by rw [← hk]; exact k1) (by rw [← hk]; exact k4)).2.2
  have hfl : f ∉ l := (List.nodup_cons.1 hnd).1
  have hal : (cad q k f).toNat < 32 * C.ks.length := by omega
  have hold : bit C.ws (cad q k f).toNat = false := by
    rw [h.bt _ hal]
    unfold tkB
    rw [hci.1, ← hk, if_pos hkk, hci.2.1, hci.2.2, hf]
    simp
  have hadd : addL C.xs.length C.ws (cad q k f) = bitOn C.ws (cad q k f).toNat := by
    unfold addL
    rw [if_pos]
    simp [addB, inB, hold]; omega
  have hx : ∀ a, a < C.xs.length → (a + 1 ≤ (cad q k f).toNat ∨ (cad q k f).toNat + (sizeI k).toNat ≤ a) → (fillL C.xs (cad q k f).toNat (sizeI k).toNat 0).getD a 0 = C.xs.getD a 0 := fun a ha hd => by
    rw [fillL_get _ _ _ _ _ ha, if_neg (by omega)]
  unfold takeC
  rw [hadd]
  refine ⟨hle, by rw [← hlen]; exact fillL_len _ _ _ _, by simpa using h.chl, by rw [← h.wl]; exact bitOn_len _ _, h.kd, h.sx, fun p hp p1 p4 => ?_, fun a ha => ?_, fun a ha ha2 => ?_⟩
  · by_cases e : p = q
    · subst e
      show Lnk (fillL C.xs (cad p k f).toNat (sizeI k).toNat 0) p (C.ks.getD p 0) ((C.ch.set p (-1 - (-1 - g), (l.length : Int) + 1 - 1)).getD p (0, 0)).1 (upd F p l p) ∧ ((C.ch.set p (-1 - (-1 - g), (l.length : Int) + 1 - 1)).getD p (0, 0)).2 = ((upd F p l p).length : Int) ∧ (upd F p l p).Nodup
      rw [upd_same, getD_set_same (by rw [h.chl]; omega), ← hk]
      refine ⟨?_, by simp, (List.nodup_cons.1 hnd).2⟩
      rw [show -1 - (-1 - g) = g by omega]
      refine hl.keep fun i hi => ?_
      have hm := hl.mem i hi
      have hc2 := cad_page (p := p) hkk hm.1 hm.2
      have hd := cad_ne (p := (p : Int)) (k := k) (i := i) (j := f) (by omega) hkk hm.1 ht.f0 (by rintro rfl; exact hfl hi)
      exact hx _ (by omega) (by omega)
    · show Lnk (fillL C.xs (cad q k f).toNat (sizeI k).toNat 0) p (C.ks.getD p 0) ((C.ch.set q (-1 - (-1 - g), (l.length : Int) + 1 - 1)).getD p (0, 0)).1 (upd F q l p) ∧ ((C.ch.set q (-1 - (-1 - g), (l.length : Int) + 1 - 1)).getD p (0, 0)).2 = ((upd F q l p).length : Int) ∧ (upd F q l p).Nodup
      rw [upd_other _ e, getD_set_other (fun e2 => e e2.symm)]
      have p1' : 1 ≤ C.ks.getD p 0 := p1
      have p4' : C.ks.getD p 0 ≤ 4 := p4
      have hp' : p < C.ks.length := hp
      clear p1 p4 hp
      obtain ⟨g1, g2, g3⟩ := h.ln p hp' p1' p4'
      refine ⟨g1.keep fun i hi => ?_, g2, g3⟩
      have hm := g1.mem i hi
      have hc2 := cad_page (p := p) ⟨p1', p4'⟩ hm.1 hm.2
      have hs2 := sizeI_pos (k := C.ks.getD p 0) ⟨p1', p4'⟩
      exact hx _ (by omega) (by omega)
  · have ha' : a < 32 * C.ks.length := ha
    show bit (bitOn C.ws (cad q k f).toNat) a = tkB _ _ a
    rw [bitOn_get h.wl (by omega), h.bt a ha']
    by_cases e : a / 32 = q
    · rw [tkB_small (C := C) (F := F) (a := a) (k := k) (by rw [e]; exact hk.symm) hkk, tkB_small (C := { C with ch := C.ch.set q (-1 - (-1 - g), (l.length : Int) + 1 - 1), ws := bitOn C.ws (cad q k f).toNat, xs := fillL C.xs (cad q k f).toNat (sizeI k).toNat 0 }) (F := upd F q l) (a := a) (k := k) (by rw [e]; exact hk.symm) hkk, e, upd_same, hf]
      by_cases al : (a : Int) % 32 % sizeI k = 0
      · have ha3 := aligned hkk al
        rw [e] at ha3
        by_cases ef : (a : Int) % 32 / sizeI k = f
        · have : a = (cad q k f).toNat := by rw [ef] at ha3; omega
          have hd : decide (a = (cad q k f).toNat) = true := by simp [this]
          rw [hd, Bool.or_true]
          exact (decide_eq_true ⟨al, by rw [ef]; exact hfl⟩).symm
        · have : ¬ a = (cad q k f).toNat := by rintro rfl; exact ef hci.2.2
          simp [al, ef, this]
      · have : ¬ a = (cad q k f).toNat := by rintro rfl; exact al hci.2.1
        simp [al, this]
    · have hts := tkB_same (C := C) (F := F) (C' := { C with ch := C.ch.set q (-1 - (-1 - g), (l.length : Int) + 1 - 1), ws := bitOn C.ws (cad q k f).toNat, xs := fillL C.xs (cad q k f).toNat (sizeI k).toNat 0 }) (F' := upd F q l) (a := a) rfl (upd_other _ e)
      rw [hts]
      have : ¬ a = (cad q k f).toNat := by rintro rfl; exact e hci.1
      simp [this]
  · show bit (bitOn C.ws (cad q k f).toNat) a = false
    have ha3 : 32 * C.ks.length ≤ a := ha
    rw [bitOn_get h.wl (by omega), h.tp a ha3 ha2]
    simp; omega
end Go.Proofs.YtjoejjhgneccgaaGreat

/- The map of whose pages are: what it holds. -/
namespace Go.Proofs.YtjoejjhgneccgaaGreat
open Go.RowKit Go.Maps Go.WideElems

abbrev OwnM := Int → Int → Option Int
def wfI (x : Int) : Prop := -9223372036854775808 ≤ x ∧ x ≤ 9223372036854775807
theorem wfI.wf {x : Int} (h : wfI x) : (Lit.int .i64 x).wf = true := wf_small h.1 h.2
theorem wf_wfI {x : Int} (h : (Lit.int .i64 x).wf = true) : wfI x := by
  simp only [Lit.wf, Bool.and_eq_true, decide_eq_true_eq] at h
  exact h
structure Rep (D : DataW Unit) (M : OwnM) : Prop where
  is : IsMap D
  has : ∀ t k, wfI t → wfI k → Maps.has D (sk t k) = (M t k).isSome
  at_ : ∀ t k p, wfI t → wfI k → M t k = some p → D.atKey (sk t k) (.lit (.int .i64 0)) = .lit (.int .i64 p)
/-- Threads from 0 to 8, small classes, pages. -/
def Dom (M : OwnM) : Prop := ∀ t k p, M t k = some p → 0 ≤ t ∧ t < 9 ∧ 1 ≤ k ∧ k ≤ 4 ∧ 0 ≤ p ∧ p < 64
def updM (M : OwnM) (t k : Int) (v : Option Int) : OwnM := fun t' k' => if t' = t ∧ k' = k then v else M t' k'
theorem updM_same (M : OwnM) (t k : Int) (v : Option Int) : updM M t k v t k = v := if_pos ⟨rfl, rfl⟩
theorem updM_other {M : OwnM} {t k t' k' : Int} (v : Option Int) (h : ¬ (t' = t ∧ k' = k)) : updM M t k v t' k' = M t' k' := if_neg h
theorem sk_key {t k : Int} (ht : wfI t) (hk : wfI k) : WideAt.IsKeyLit (sk t k) := lawSeat.key (keyOf_seat ht.wf hk.wf)
theorem rep_empty : Rep (.map []) (fun _ _ => none) := ⟨isMap_empty, fun _ _ _ _ => rfl, fun _ _ _ _ _ h => by cases h⟩
theorem Rep.put {D : DataW Unit} {M : OwnM} (h : Rep D M) {t k p : Int} (ht : wfI t) (hk : wfI k) : Rep (D.put (sk t k) (.lit (.int .i64 p))) (updM M t k (some p)) := by
  refine ⟨h.is.put _ _, fun t' k' w1 w2 => ?_, fun t' k' p' w1 w2 he => ?_⟩
  · by_cases e : t' = t ∧ k' = k
    · obtain ⟨rfl, rfl⟩ := e
      rw [updM_same, has_put_same h.is (sk_key w1 w2)]; rfl
    · rw [updM_other _ e, has_put_other (fun c => e (sk_inj w1.wf w2.wf ht.wf hk.wf c))]
      exact h.has t' k' w1 w2
  · by_cases e : t' = t ∧ k' = k
    · obtain ⟨rfl, rfl⟩ := e
      rw [updM_same] at he
      cases he
      exact atKey_put_same h.is (sk_key w1 w2) _ _
    · rw [updM_other _ e] at he
      rw [atKey_put_other (fun c => e (sk_inj w1.wf w2.wf ht.wf hk.wf c))]
      exact h.at_ t' k' p' w1 w2 he
theorem Rep.del {D : DataW Unit} {M : OwnM} (h : Rep D M) {t k : Int} (ht : wfI t) (hk : wfI k) : Rep (D.del (sk t k)) (updM M t k none) := by
  refine ⟨h.is.del _, fun t' k' w1 w2 => ?_, fun t' k' p' w1 w2 he => ?_⟩
  · by_cases e : t' = t ∧ k' = k
    · obtain ⟨rfl, rfl⟩ := e
      rw [updM_same, has_del_same]; rfl
    · rw [updM_other _ e, has_del_other (fun c => e (sk_inj w1.wf w2.wf ht.wf hk.wf c))]
      exact h.has t' k' w1 w2
  · by_cases e : t' = t ∧ k' = k
    · obtain ⟨rfl, rfl⟩ := e
      rw [updM_same] at he
      cases he
    · rw [updM_other _ e] at he
      rw [atKey_del_other (fun c => e (sk_inj w1.wf w2.wf ht.wf hk.wf c))]
      exact h.at_ t' k' p' w1 w2 he
def seatIx : Value → Int
  | .agg cs => match cs.toList with
    | [.int _ t, .int _ k] => t * 4 + k - 1
    | _ => 0
  | _ => 0
/-- There are few entries. -/
theorem own_few {w : World} {b n : Nat} {D : DataW Unit} {M : OwnM} (h : w.ownsMap Tryz.prog 91 (plainElem Tryz.prog 3) b n D) (hr : Rep D M) (hd : Dom M) : w.ownsMap Tryz.prog 91 (plainElem Tryz.prog 3) b 36 D := by
  obtain ⟨es, clock, hb, F, hs, rfl⟩ := h
  refine ⟨es, clock, hb, F, ?_, rfl⟩
  have key : ∀ x ∈ es.toList, ∃ t k : Int, x.key = .agg #[.int .i64 t, .int .i64 k] ∧ (rg (H := Unit) Tryz.prog 91 (plainElem Tryz.prog 3) x).1 = sk t k ∧ 0 ≤ t ∧ t < 9 ∧ 1 ≤ k ∧ k ≤ 4 := by
    intro x hx
    obtain ⟨y, hy⟩ := F.reads x hx
    have hk := rd_key hy
    obtain ⟨⟨t, k⟩, e, wt, wk⟩ := keyOf_seat_inv hk
    simp only at e wt wk
    rw [e, keyOf_seat wt wk] at hk
    have hyk : y.1 = sk t k := (Option.some.inj hk).symm
    have hrg : (rg (H := Unit) Tryz.prog 91 (plainElem Tryz.prog 3) x).1 = sk t k := by rw [rg_of hy]; exact hyk
    have hhas : Maps.has (DataW.map ((es.toList.map (rg (H := Unit) Tryz.prog 91 (plainElem Tryz.prog 3))).foldr DataW.insert [])) (sk t k) = true :=
      List.any_eq_true.2 ⟨rg Tryz.prog 91 (plainElem Tryz.prog 3) x, mem_sorted.2 (List.mem_map.2 ⟨x, hx, rfl⟩), by rw [hrg]; exact WideAt.sameKey_self (sk_key (wf_wfI wt) (wf_wfI wk))⟩
    rw [hr.has t k (wf_wfI wt) (wf_wfI wk)] at hhas
    obtain ⟨p, hp⟩ := Option.isSome_iff_exists.1 hhas
    have := hd t k p hp
    exact ⟨t, k, e, hrg, this.1, this.2.1, this.2.2.1, this.2.2.2.1⟩
  have hn : (es.toList.map fun x => seatIx x.key).Nodup := by
    have hap := Maps.fit_apart lawSeat F
    rw [List.pairwise_map] at hap
    unfold List.Nodup
    rw [List.pairwise_map]
    refine List.Pairwise.imp_of_mem (fun {x y} hx hy hne hc => ?_) hap
    obtain ⟨t, k, e1, e2, r1, r2, r3, r4⟩ := key x hx
    obtain ⟨t', k', e1', e2', r1', r2', r3', r4'⟩ := key y hy
    rw [e2, e2'] at hne
    rw [e1, e1'] at hc
    simp only [seatIx] at hc
    exact hne (by rw [show t = t' by omega, show k = k' by omega])
  have := few_ints 36 _ hn (fun z hz => by
    obtain ⟨x, hx, rfl⟩ := List.mem_map.1 hz
    obtain ⟨t, k, e1, -, r1, r2, r3, r4⟩ := key x hx
    rw [e1]
    simp only [seatIx]
    omega)
  simpa using this
/-- The map in memory. -/
structure MpX (w : World) (b : Nat) (M : OwnM) : Prop where
  ow : ∃ D : DataW Unit, w.ownsMap Tryz.prog 91 (plainElem Tryz.prog 3) b 36 D ∧ Rep D M
  dom : Dom M
theorem MpX.lt {w : World} {b : Nat} {M : OwnM} (h : MpX w b M) : b < w.heap.size := by obtain ⟨D, h1, -⟩ := h.ow; exact h1.lt
theorem MpX.keep {w w' : World} {b : Nat} {M : OwnM} (h : MpX w b M) (hk : w'.heap[b]? = w.heap[b]?) : MpX w' b M := by
  obtain ⟨⟨D, ⟨es, clock, hb, r⟩, h2⟩, hd⟩ := h
  exact ⟨⟨D, ⟨es, clock, hk.trans hb, r⟩, h2⟩, hd⟩
theorem MpX.below {w w' : World} {b : Nat} {M : OwnM} (h : MpX w b M) (hb : Below w.heap.size w w') : MpX w' b M := h.keep (hb.block b h.lt)
end Go.Proofs.YtjoejjhgneccgaaGreat

/- Whose pages are: made; a thread's page. -/
namespace Go.Proofs.YtjoejjhgneccgaaGreat
open Go.RowKit Go.Maps Go.WideElems

/-- The cache in memory. -/
structure CaX (w : World) (c b : Nat) (th : Int) (M : OwnM) : Prop where
  hd : w.heap[c]? = some (.cells #[.int .i64 th, .map (some b)] 82 (0, 0))
  mp : MpX w b M
  t0 : 0 ≤ th ∧ th ≤ 9
theorem zero_int (w : World) : (zeroValue 3).run Tryz.prog w = .ok (.int .i64 0) w := by kernel_rfl
section
variable {w w' : World} {c b : Nat} {th : Int} {M : OwnM}
theorem CaX.keep (h : CaX w c b th M) (h1 : w'.heap[c]? = w.heap[c]?) (h2 : w'.heap[b]? = w.heap[b]?) : CaX w' c b th M := ⟨h1.trans h.hd, h.mp.keep h2, h.t0⟩
theorem CaX.below (h : CaX w c b th M) (hb : Below w.heap.size w w') : CaX w' c b th M := h.keep (hb.block c (heap_lt h.hd)) (hb.block b h.mp.lt)
theorem CaX.cells (h : CaX w c b th M) : w.cell? ⟨c, 0, none⟩ = some (.int .i64 th) ∧ w.cell? ⟨c, 1, none⟩ = some (.map (some b)) := ⟨cell_of_row _ _ _ _ _ _ h.hd, cell_of_row _ _ _ _ _ _ h.hd⟩
def pageM (M : OwnM) (t k : Int) : Int := (M t k).getD (-1)
set_option maxHeartbeats 1000000 in
theorem capage_any (h : CaX w c b th M) (t k : Int) (ht : wfI t) (hk : wfI k) :
    Calls Tryz.prog 37 #[.pointer (some ⟨c, 0, none⟩), .int .i64 t, .int .i64 k] w fun e w' => e = .returned (.int .i64 (pageM M t k)) ∧ w = w' := by
  obtain ⟨-, c1⟩ := h.cells
  obtain ⟨⟨D, ho, hr⟩, -⟩ := h.mp
  have HO := Lib.hid ho
  have HK := Lib.hid (keyOf_seat ht.wf hk.wf)
  have HH := Lib.hid (hr.has t k ht hk)
  cases hm : M t k with
  | none =>
    have HP := Lib.hid (show pageM M t k = -1 by unfold pageM; rw [hm]; rfl)
    have HH2 := Lib.hid (show Maps.has D (sk t k) = false by rw [HH.out, hm]; rfl)
    clear h ho hr ht hk hm HH
    go_enter Tryz.func37, Tryz.ntmps37
    go_wp2_with (at_lookup; refine wpList_lookup_own_ok_int _ rfl _ _ 80 rfl 91 3 .i64 lawSeat Tryz.underlying80 Tryz.underlying3 (zero_int _) b 36 D (by rfl) HO.out _ (sk t k) (by rfl) HK.out ?_; intro p hat hwc; rw [HH2.out]; clear hat hwc)
    go_ret
    exact ⟨ret_int HP.out.symm, rfl⟩
  | some p =>
    have HP := Lib.hid (show pageM M t k = p by unfold pageM; rw [hm]; rfl)
    have HH2 := Lib.hid (show Maps.has D (sk t k) = true by rw [HH.out, hm]; rfl)
    have HA := Lib.hid (hr.at_ t k p ht hk hm)
    clear h ho hr ht hk hm HH
    go_enter Tryz.func37, Tryz.ntmps37
    go_wp2_with (at_lookup; refine wpList_lookup_own_ok_int _ rfl _ _ 80 rfl 91 3 .i64 lawSeat Tryz.underlying80 Tryz.underlying3 (zero_int _) b 36 D (by rfl) HO.out _ (sk t k) (by rfl) HK.out ?_; intro q hat hwc; rw [HH2.out]; obtain rfl : p = q := (by have e := HA.out.symm.trans hat; simpa using e); clear hat hwc)
    go_ret
    exact ⟨ret_int HP.out.symm, rfl⟩
def CaNew (B : Nat) (t : Int) (e : Ending) (w' : World) : Prop := ∃ c b, e = .returned (.pointer (some ⟨c, 0, none⟩)) ∧ CaX w' c b (clampN t 0 9) (fun _ _ => none) ∧ B ≤ c ∧ B ≤ b
set_option maxHeartbeats 1000000 in
theorem canew_any (t : Int) (w : World) :
    Calls Tryz.prog 17 #[.int .i64 t] w fun e w' => CaNew w.heap.size t e w' ∧ Below w.heap.size w w' := by
  have hmm := @run_makeMap Tryz.prog
  have HB := Lib.hid (clampN_bd (a := t) (lo := 0) (hi := 9) (by omega))
  go_enter Tryz.func17, Tryz.ntmps17
  go_wp2_with (go_at_call 42; refine (clampn_any t 0 9 _).mono ?_; rintro e w1 ⟨rfl, rfl⟩)
  go_ret
  have B1 := (below_alloc0 w (.map #[] 0))
  refine ⟨⟨w.heap.size + 1, w.heap.size, rfl, ⟨?_, ⟨⟨.map [], ?_, rep_empty⟩, fun t k p h => by cases h⟩, HB.out⟩, Nat.le_succ _, Nat.le_refl _⟩, B1.alloc B1.size _⟩
  · have h := heap_alloc_new (w.alloc (.map #[] 0)) (.cells #[.int .i64 (clampN t 0 9), .map (some w.heap.size)] 82)
    rwa [World.size_alloc] at h
  · exact ((World.ownsMap_made w Tryz.prog 91 (plainElem Tryz.prog 3)).alloc _).mono (by decide)
end
end Go.Proofs.YtjoejjhgneccgaaGreat

/- Whose pages are: whose a page is. -/
namespace Go.Proofs.YtjoejjhgneccgaaGreat
open Go.RowKit Go.Maps Go.WideElems

theorem rep_some {D : DataW Unit} {M : OwnM} (h : Rep D M) {t k q : Int} (ht : wfI t) (hk : wfI k) (ha : ∀ zd, D.atKey (sk t k) zd = .lit (.int .i64 q)) : M t k = some q := by
  cases hm : M t k with
  | some p =>
    have := (h.at_ t k p ht hk hm).symm.trans (ha _)
    rw [show p = q by simpa using this]
  | none =>
    have h1 := h.has t k ht hk
    rw [hm] at h1
    have h2 := ha (.lit (.bool true))
    have h3 : D.atKey (sk t k) (.lit (.bool true)) = .lit (.bool true) := by
      have := atKey_del_same (D := D) (k := sk t k) (.lit (.bool true))
      rwa [del_of_not_has h1] at this
    rw [h3] at h2
    cases h2
/-- Whose a page is. -/
def OwnerE (M : OwnM) (p : Int) (e : Ending) : Prop := ∃ t k : Int, e = .returned (.tuple #[.int .i64 t, .int .i64 k]) ∧ ((M t k = some p ∧ wfI t ∧ wfI k) ∨ (t = -1 ∧ k = 0 ∧ ∀ t' k', wfI t' → wfI k' → M t' k' ≠ some p))
section
variable {w w' : World} {c b : Nat} {th : Int} {M : OwnM}
set_option maxHeartbeats 4000000 in
set_option maxRecDepth 100000 in
theorem caowner_any (h : CaX w c b th M) (p : Int) :
    Calls Tryz.prog 55 #[.pointer (some ⟨c, 0, none⟩), .int .i64 p] w fun e w' => OwnerE M p e ∧ Below w.heap.size w w' := by
  obtain ⟨-, c1⟩ := h.cells
  obtain ⟨⟨D, ho, hr⟩, -⟩ := h.mp
  have HO := Lib.hid ho
  have HR := Lib.hid hr
  clear h ho hr
  go_enter Tryz.func55, Tryz.ntmps55
  go_wp2_with (at_range; refine wpList_range_own _ rfl _ 80 rfl 91 3 lawSeat Tryz.underlying80 (plainElem Tryz.prog 3) b 36 D (by rfl) HO.out ?_; intro w0 hrg hg hs)
  go_frame
  have B0 : Below w.heap.size w w0 := (Below.refl _ _).grown hg (Nat.le_refl _) (fun k hk => by cases hk)
  have S0 : Hid (∀ t k, wfI t → wfI k → M t k = some p → Maps.has D (sk t k) = true) := Lib.hid fun t k h1 h2 h3 => by rw [HR.out.has t k h1 h2, h3]; rfl
  have R0 := Lib.hid hrg
  replace B0 := Lib.hid B0
  clear hrg hg hs
  go_loopw [6, 7] (fun _ _ wr => ∃ left cnt, Hid (wr.ranges Tryz.prog 91 (plainElem Tryz.prog 3) b w.heap.size 36 D left cnt) ∧ Hid (Below w.heap.size w wr) ∧ Hid (∀ t k, wfI t → wfI k → M t k = some p → left (sk t k) = true)) (fun _ _ wr => wr.rangeLeft b w.heap.size)
  case atStart => exact ⟨_, _, R0, B0, S0⟩
  case round =>
    clear R0 B0 S0
    obtain ⟨left, cnt, HG, HB, HS⟩ := hrel
    go_wp2_with (at_next; refine wpList_next_ranges _ rfl _ rfl 91 lawSeat (plainElem Tryz.prog 3) (fun x : Int × Int => .agg #[.int .i64 x.1, .int .i64 x.2]) (Value.int .i64) (fun key kl hk => (keyOf_seat_inv hk).imp fun _ h => h.1) (fun v y hv => by obtain ⟨q, rfl, -⟩ := plainElem_int_inv Tryz.underlying3 hv; exact ⟨q, rfl⟩) b w.heap.size 36 D left cnt (by rfl) HG.out ?_ ?_)
    · intro _ hl
      have HE := Lib.hid (show ∀ t' k', wfI t' → wfI k' → M t' k' ≠ some p from fun t' k' h1 h2 h3 => by
        have := HS.out t' k' h1 h2 h3
        rw [hl] at this
        cases this)
      clear hl
      go_wp2_with fail
      go_ret2
      exact ⟨⟨-1, 0, rfl, .inr ⟨rfl, rfl, HE.out⟩⟩, HB.out⟩
    · intro t k q kl ya yb w1 cnt1 hkey hlk hv hat hrg1 hlt1 hg1 hs1 hen
      obtain ⟨⟨t', k'⟩, e', wt, wk⟩ := keyOf_seat_inv hkey
      obtain ⟨rfl, rfl⟩ : t = t' ∧ k = k' := by simpa using e'
      simp only at wt wk
      obtain rfl : sk t k = kl := Option.some.inj ((keyOf_seat wt wk).symm.trans hkey)
      obtain ⟨q', eq', ey, -⟩ := plainElem_int_inv Tryz.underlying3 hv
      obtain rfl : q = q' := by simpa using eq'
      have hya : ya = .lit (.int .i64 q) := congrArg Prod.fst ey
      have HM := Lib.hid (rep_some HR.out (wf_wfI wt) (wf_wfI wk) (fun zd => (hat zd).trans hya))
      have B1 := HB.out.grown hg1 HB.out.size (fun j hj => by cases hj; exact Nat.le_refl _)
      replace B1 := Lib.hid B1
      have HWT := Lib.hid (wf_wfI wt)
      have HWK := Lib.hid (wf_wfI wk)
      have LT := Lib.hid hlt1
      have RG := Lib.hid hrg1
      have HS1 := Lib.hid (show q ≠ p → ∀ t' k', wfI t' → wfI k' → M t' k' = some p → (left (sk t' k') && !(sk t' k').sameKey (sk t k)) = true from fun hne t' k' h1 h2 h3 => by
        rw [HS.out t' k' h1 h2 h3, sameKey_ne fun c => ?_]
        · rfl
        · obtain ⟨rfl, rfl⟩ := sk_inj h1.wf h2.wf wt wk c
          rw [HM.out] at h3
          exact hne (Option.some.inj h3))
      clear e' eq' ey hya hkey hv hat hrg1 hlt1 hg1 hs1 wt wk hlk HS
      by_cases hq : q = p
      · subst hq
        go_wp2_with fail
        go_quiet (fail)
        go_wp2_with fail
        go_ret2
        exact ⟨⟨t, k, rfl, .inl ⟨HM.out, HWT.out, HWK.out⟩⟩, below_drewN (B1.out.alloc B1.out.size _) _⟩
      · have hq' : (q == p) = false := by simpa using hq
        have HN := Lib.hid (HS1.out hq)
        clear hq
        go_wp2_with fail
        go_roundw
        case rel => exact ⟨_, _, Lib.hid (RG.out.alloc _), Lib.hid (B1.out.alloc B1.out.size _), HN⟩
        case measure =>
          rw [(RG.out.alloc _).left_eq, HG.out.left_eq]
          exact LT.out
end
end Go.Proofs.YtjoejjhgneccgaaGreat

/- Whose pages are: a page is a thread's. -/
namespace Go.Proofs.YtjoejjhgneccgaaGreat
open Go.RowKit Go.Maps Go.WideElems

theorem CaX.ne {w : World} {c b : Nat} {th : Int} {M : OwnM} (h : CaX w c b th M) : c ≠ b := by
  rintro rfl
  obtain ⟨⟨D, ⟨es, clock, hb, r⟩, h2⟩, hd⟩ := h.mp
  rw [h.hd] at hb
  cases hb
section
variable {w w' : World} {c b : Nat} {th : Int} {M : OwnM}
theorem CaX.turn {M' : OwnM} (h : CaX w c b th M) (hg : w.grownBy w' (some b)) (hm : MpX w' b M') : CaX w' c b th M' :=
  ⟨(hg.block c (heap_lt h.hd) (by rw [Ne, Option.some.injEq]; exact h.ne)).trans h.hd, hm, h.t0⟩
theorem frm_grown {r : Nat} (hg : w.grownBy w' (some r)) : Frm [r] w w' := Frm.of_grown hg fun k hk => by cases hk; exact .inl (by simp)
/-- A page that is nobody's becomes a thread's. -/
structure SetP (M : OwnM) (th t k p : Int) : Prop where
  t0 : 0 ≤ t
  t1 : t < th
  k0 : 1 ≤ k
  k1 : k ≤ 4
  p0 : 0 ≤ p
  p1 : p < 64
  no : ∀ t' k', wfI t' → wfI k' → M t' k' ≠ some p
set_option maxHeartbeats 4000000 in
set_option maxRecDepth 100000 in
theorem caset_any (h : CaX w c b th M) (t k p : Int) (s : SetP M th t k p) :
    Calls Tryz.prog 28 #[.pointer (some ⟨c, 0, none⟩), .int .i64 t, .int .i64 k, .int .i64 p] w fun e w' => e = .returned (.bool true) ∧ CaX w' c b th (updM M t k (some p)) ∧ Frm [b] w w' := by
  obtain ⟨c0, c1⟩ := h.cells
  have H := Lib.hid h
  have S := Lib.hid s
  have wt : wfI t := by have := s.t0; have := s.t1; have := h.t0; exact ⟨by omega, by omega⟩
  have wk : wfI k := by have := s.k0; have := s.k1; exact ⟨by omega, by omega⟩
  have wp : wfI p := by have := s.p0; have := s.p1; exact ⟨by omega, by omega⟩
  have WT := Lib.hid wt
  have WK := Lib.hid wk
  have WP := Lib.hid wp
  have qT := fun W => run_eql_map_nil (P := Tryz.prog) W 80 91 3 (some b) Tryz.underlying80
  have t0 : decide (t < 0) = false := by have := s.t0; rw [decide_eq_false_iff_not]; omega
  have t1 : decide (th ≤ t) = false := by have := s.t1; rw [decide_eq_false_iff_not]; omega
  have hs := sizeI_pos ⟨s.k0, s.k1⟩
  have k0 : (sizeI k == 0) = false := by simp; omega
  have p0 : decide (p < 0) = false := by have := s.p0; rw [decide_eq_false_iff_not]; omega
  have p1 : decide (64 ≤ p) = false := by have := s.p1; rw [decide_eq_false_iff_not]; omega
  clear h s wt wk wp hs
  go_enter Tryz.func28, Tryz.ntmps28
  go_wp2_with (first
    | (go_at_call 49; refine (size_any k _).mono ?_; rintro e w1 ⟨rfl, rfl⟩)
    | (go_at_call 55; refine (caowner_any H.out p).mono ?_; rintro e w2 ⟨⟨t', k', rfl, hor⟩, hb⟩; rcases hor with ⟨h1, h2, h3⟩ | ⟨rfl, rfl, -⟩; exact absurd h1 (S.out.no t' k' h2 h3); have B2 := Lib.hid hb; have hx := H.out.below hb; have H2 := Lib.hid hx; have d1 := hx.cells.2; clear hb hx)
    | (at_mapUpdate; obtain ⟨⟨D, ho, hr⟩, hd⟩ := H2.out.mp; refine wpList_mapUpdate_own _ rfl _ _ _ 80 rfl 91 3 lawSeat Tryz.underlying80 (plainElem Tryz.prog 3) b 36 D (by rfl) ho (by decide) _ _ (sk t k) (by rfl) (by rfl) (keyOf_seat WT.out.wf WK.out.wf) _ [] (plainElem_int Tryz.underlying3 WP.out.wf) ?_; intro w3 ho3 hg3; have hr3 := hr.put (p := p) WT.out WK.out; have hd3 : Dom (updM M t k (some p)) := (fun t' k' p' he => by
        by_cases e : t' = t ∧ k' = k
        · obtain ⟨rfl, rfl⟩ := e
          rw [updM_same] at he
          cases he
          have := S.out.t0; have := S.out.t1; have := S.out.k0; have := S.out.k1; have := S.out.p0; have := S.out.p1; have := H.out.t0
          omega
        · rw [updM_other _ e] at he
          exact hd t' k' p' he); have X3 := Lib.hid (H2.out.turn hg3 ⟨⟨_, own_few ho3 hr3 hd3, hr3⟩, hd3⟩); have F3 := Lib.hid ((Frm.of_below [b] B2.out).trans (frm_grown hg3) (fun x hx => .inl hx)); clear ho hr hd ho3 hg3 hr3 hd3))
  go_ret
  exact ⟨rfl, X3.out, F3.out⟩
end
end Go.Proofs.YtjoejjhgneccgaaGreat
