/- The graph's field. -/
import Derived.Test.YtaefcmmjeloccaaGr3
import Derived.Deep.CutRange
import Derived.Deep.RegionWith
namespace Go.Proofs.Ytaefcmmjeloccaa
open Go.RowKit

-- What stands when only new blocks were made and written.
section
variable {w : World} {g : Nat} {c : Cfg} {G : Gr} {tb tcap nb ncap : Nat} {hv nv : List Value}
/-- A thread's values are where they were. -/
theorem Gx.hold (h : Gx 60 72 w g c G tb tcap nb ncap hv nv) {t : Nat} (hlt : t < G.thr.length) {W' : World} (hb : Below w.heap.size w W') :
    W'.cell? ⟨tb, t * 2 + 1, none⟩ = some (hv.getD t undef) ∧ Own W' 57 2 (G.thr.getD t Th.none).held.length (hv.getD t undef) (vls (G.thr.getD t Th.none).held) :=
  ⟨((h.below hb).thread hlt).2, (h.below hb).heldRow hlt⟩
/-- What field comes to. -/
def FieldR (G : Gr) (nv : List Value) (x : Stp) (e : Ending) : Prop :=
  (G.object x true ≠ 0 ∧ e = .returned (.tuple #[.pointer none, .int .i64 (G.object x true)])) ∨
  (G.object x true = 0 ∧ ∃ d cap, nv.getD (Gr.at? (G.held x.t) x.i).2.toNat undef = .slice (some ⟨d, 0, none⟩) (G.node (Gr.at? (G.held x.t) x.i).2).length cap ∧ e = .returned (.tuple #[.pointer (some ⟨d, x.f.toNat * 2, none⟩), .int .i64 0]))
theorem fieldR_no {G : Gr} {nv : List Value} {x : Stp} {c : Int} (h : G.object x true = c) (hc : c ≠ 0) : FieldR G nv x (.returned (.tuple #[.pointer none, .int .i64 c])) := .inl ⟨h ▸ hc, by rw [h]⟩
theorem fieldR_yes {G : Gr} {nv : List Value} {x : Stp} {d cap : Nat} (h : G.object x true = 0) (hn : nv.getD (Gr.at? (G.held x.t) x.i).2.toNat undef = .slice (some ⟨d, 0, none⟩) (G.node (Gr.at? (G.held x.t) x.i).2).length cap) (f : Nat) (hf : x.f = (f : Int)) :
    FieldR G nv x (.returned (.tuple #[.pointer (some ⟨d, f * 2, none⟩), .int .i64 0])) := .inr ⟨h, d, cap, hn, by rw [hf]; rfl⟩
theorem getv_out {vs : List Vl} {i : Int} (h : (vs.length : Int) ≤ i) : getv vs i = ((0, 0), false) := by unfold getv; rw [if_neg (by omega)]
theorem getv_in {vs : List Vl} {i : Int} (h0 : 0 ≤ i) (h : i < (vs.length : Int)) : getv vs i = (Gr.at? vs i, true) := by unfold getv; rw [if_pos ⟨h0, h⟩]; rfl
theorem th_at1 (w : World) (a b c : Obj) : (((w.alloc a).alloc b).alloc c).heap[w.heap.size + 1]? = some b := keep_alloc c (heap_two w a b)
theorem th_at2 (w : World) (a b c : Obj) : (((w.alloc a).alloc b).alloc c).heap[w.heap.size + 1 + 1]? = some c := by
  have h := heap_two (w.alloc a) b c
  rwa [show (w.alloc a).heap.size = w.heap.size + 1 by show (w.heap.push a).size = _; simp] at h
/-- An own of values, read. -/
theorem val_at {vs : List Vl} {i : Int} (h0 : 0 ≤ i) (h : i < (vs.length : Int)) : Gr.at? vs i ∈ vs := by
  unfold Gr.at?
  rw [List.getD_eq_getElem?_getD, List.getElem?_eq_getElem (by omega)]
  exact List.getElem_mem _
theorem Gr.Good.held_ok {G : Gr} (hg : G.Good) {t : Nat} (hlt : t < G.thr.length) {i : Int} (h0 : 0 ≤ i) (h : i < ((G.thr.getD t Th.none).held.length : Int)) : VlOk G.nod.length (Gr.at? (G.thr.getD t Th.none).held i) := by
  refine hg.vals (G.thr.getD t Th.none) ?_ _ (val_at h0 h)
  rw [List.getD_eq_getElem?_getD, List.getElem?_eq_getElem hlt]
  exact List.getElem_mem _
set_option maxHeartbeats 2000000 in
theorem gfield_any (h : Gx 60 72 w g c G tb tcap nb ncap hv nv) (hg : G.Good) (x : Stp) (t : Nat) (ht : x.t = (t : Int)) (hlt : t < G.thr.length) (hi : 0 ≤ x.i) (hf : 0 ≤ x.f) :
    Calls Try.prog 48 #[.pointer (some ⟨g, 0, none⟩), .agg x.cells] w fun e w' => FieldR G nv x e ∧ Below w.heap.size w w' := by
  have B0 := Lib.hid (below_alloc0 w (.cells x.cells 39))
  obtain ⟨g0, g1, g2, g3, g4, g5, g6⟩ := stp_box w x
  have hG := h.below B0.out
  obtain ⟨q3, q10, q11⟩ := hG.head
  rw [ht] at g1
  have i1 : (0 : Int) ≤ (t : Int) := by omega
  have i2 : (t : Int) < (G.thr.length : Int) := by omega
  have HTH : Hid (G.held x.t = (G.thr.getD t Th.none).held) := Lib.hid (by rw [ht]; rfl)
  obtain ⟨u, hu⟩ : ∃ u, u = getv (G.thr.getD t Th.none).held x.i := ⟨_, rfl⟩
  have HG := Lib.hid h
  have HU := Lib.hid hu
  have HGD := Lib.hid hg
  have G3 := Lib.hid g3
  clear h hG ht hu hg g3
  go_enter Try.func48, Try.ntmps48
  go_wp2_with fail
  go_cut [6, 7] from 8 (fun q v wc => ∃ Q, q = .pointer (some ⟨Q, 0, none⟩) ∧ v = .bool u.2 ∧ Hid (wc.heap[Q]? = some (.cells #[.int .i64 u.1.1, .int .i64 u.1.2] 57 (0, 0))) ∧ Hid (Below (w.alloc (.cells x.cells 39)).heap.size (w.alloc (.cells x.cells 39)) wc))
  case first =>
    go_region_held3 (fun w' => w'.cell? ⟨g, 10, none⟩ = some (.slice (some ⟨tb, 0, none⟩) G.thr.length tcap) ∧ w'.cell? ⟨w.heap.size, 1, none⟩ = some (.int .i64 (t : Int)) ∧ w'.cell? ⟨w.heap.size, 2, none⟩ = some (.int .i64 x.i))
      (first
        | exact ⟨q10, g1, g2⟩
        | exact ⟨cell_keep (by (repeat (first | exact (Below.refl _ _) | exact Below.refl _ _ | refine Below.drew ?_ | refine below_new ?_ _ | refine below_drewN ?_ _ | refine Below.setCell ?_ (by first | exact Nat.le_refl _ | (simp only [World.size_alloc]; omega)) _))) q10, cell_keep (by (repeat (first | exact (Below.refl _ _) | exact Below.refl _ _ | refine Below.drew ?_ | refine below_new ?_ _ | refine below_drewN ?_ _ | refine Below.setCell ?_ (by first | exact Nat.le_refl _ | (simp only [World.size_alloc]; omega)) _))) g1, cell_keep (by (repeat (first | exact (Below.refl _ _) | exact Below.refl _ _ | refine Below.drew ?_ | refine below_new ?_ _ | refine below_drewN ?_ _ | refine Below.setCell ?_ (by first | exact Nat.le_refl _ | (simp only [World.size_alloc]; omega)) _))) g2⟩)
      (first
        | (go_at_call 47; refine (gget_any _ _ _ _ (G.thr.getD t Th.none).held x.i _ (HG.out.hold hlt (by (repeat (first | exact B0.out | exact Below.refl _ _ | refine Below.drew ?_ | refine below_new ?_ _ | refine below_drewN ?_ _ | refine Below.setCell ?_ (by first | exact Nat.le_refl _ | (simp only [World.size_alloc]; omega)) _)))).1 (HG.out.hold hlt (by (repeat (first | exact B0.out | exact Below.refl _ _ | refine Below.drew ?_ | refine below_new ?_ _ | refine below_drewN ?_ _ | refine Below.setCell ?_ (by first | exact Nat.le_refl _ | (simp only [World.size_alloc]; omega)) _)))).2).mono ?_; rintro e w5 ⟨rfl, rfl⟩; rw [← HU.out]))
    all_goals
      go_wp2_with fail
      go_meet
      first
        | exact ⟨_, rfl, rfl, Lib.hid (th_at2 _ _ _ _), Lib.hid (by (repeat (first | exact (Below.refl _ _) | exact Below.refl _ _ | refine Below.drew ?_ | refine below_new ?_ _ | refine below_drewN ?_ _ | refine Below.setCell ?_ (by first | exact Nat.le_refl _ | (simp only [World.size_alloc]; omega)) _)))⟩
        | exact ⟨_, rfl, rfl, Lib.hid (th_at1 _ _ _ _), Lib.hid (by (repeat (first | exact (Below.refl _ _) | exact Below.refl _ _ | refine Below.drew ?_ | refine below_new ?_ _ | refine below_drewN ?_ _ | refine Below.setCell ?_ (by first | exact Nat.le_refl _ | (simp only [World.size_alloc]; omega)) _)))⟩
  case rest =>
    obtain ⟨Q, rfl, rfl, HQ, HB⟩ := hcut
    have B1 := Lib.hid (below_next B0.out HB.out)
    have r3 := cell_keep HB.out G3.out
    have hG := HG.out.below B1.out
    obtain ⟨-, -, q11⟩ := hG.head
    have v0 : wc.cell? ⟨Q, 0, none⟩ = some (.int .i64 u.1.1) := cell_of_row _ _ _ _ _ _ HQ.out
    have v1 : wc.cell? ⟨Q, 1, none⟩ = some (.int .i64 u.1.2) := cell_of_row _ _ _ _ _ _ HQ.out
    clear g0 g1 g2 g4 g5 g6 q3 q10
    by_cases ho : ((G.thr.getD t Th.none).held.length : Int) ≤ x.i
    · have hob : G.object x true = 4 := by unfold Gr.object; rw [HTH.out, if_pos ho]
      have hu := HU.out
      rw [getv_out ho] at hu
      subst hu
      clear hG
      go_wp2_with fail
      go_ret2
      exact ⟨fieldR_no hob (by decide), B1.out⟩
    have hok := HGD.out.held_ok hlt hi (by omega : x.i < _)
    have hu := HU.out
    rw [getv_in hi (by omega)] at hu
    obtain ⟨v, hv1⟩ : ∃ v, v = Gr.at? (G.thr.getD t Th.none).held x.i := ⟨_, rfl⟩
    rw [← hv1] at hu hok
    subst hu
    have HV1 := Lib.hid hv1
    clear hv1
    by_cases hk : v.1 ≠ 2
    · have hob : G.object x true = 12 := by unfold Gr.object; rw [HTH.out, if_neg ho, ← HV1.out, if_pos hk]
      have dk : (v.1 != 2) = true := by simpa using hk
      clear hG
      go_wp2_with fail
      go_ret2
      exact ⟨fieldR_no hob (by decide), B1.out⟩
    have dk : (v.1 != 2) = false := by simpa using hk
    have hk : v.1 = 2 := by omega
    obtain ⟨hs0, hs1⟩ := hok.2 hk
    obtain ⟨s, hs⟩ : ∃ s : Nat, v.2 = (s : Int) := ⟨v.2.toNat, by omega⟩
    have hsl : s < G.nod.length := by omega
    obtain ⟨n0, n1⟩ := hG.nodeRow hsl
    have i3 : (0 : Int) ≤ (s : Int) := by omega
    have i4 : (s : Int) < (G.nod.length : Int) := by omega
    rw [hs] at v1
    have hnode : G.node (Gr.at? (G.held x.t) x.i).2 = G.nod.getD s [] := by rw [HTH.out, ← HV1.out, hs]; rfl
    obtain ⟨p, cap, hp, hcap, hpb⟩ := own_slice n1
    rw [hp] at n0
    clear n1
    have HP := Lib.hid hp
    have HN := Lib.hid hnode
    have HS : Hid (G.node (s : Int) = G.nod.getD s []) := Lib.hid rfl
    clear hp hnode
    generalize G.nod.getD s [] = L at *
    by_cases hfl : (L.length : Int) ≤ x.f
    · have hob : G.object x true = 4 := by unfold Gr.object; rw [HTH.out, if_neg ho, ← HV1.out, if_neg (by omega), if_pos ⟨rfl, by rw [hs, HS.out]; exact hfl⟩]
      have df : decide ((L.length : Int) ≤ x.f) = true := by simpa using hfl
      clear hG
      go_wp2_with fail
      go_quiet (fail)
      go_wp2_with fail
      go_ret2
      exact ⟨fieldR_no hob (by decide), by (repeat (first | exact B1.out | exact Below.refl _ _ | refine Below.drew ?_ | refine below_new ?_ _ | refine below_drewN ?_ _ | refine Below.setCell ?_ (by first | exact Nat.le_refl _ | (simp only [World.size_alloc]; omega)) _))⟩
    · have hob : G.object x true = 0 := by
        unfold Gr.object; rw [HTH.out, if_neg ho, ← HV1.out, if_neg (by omega), if_neg (fun hh => hfl (by have := hh.2; rw [hs, HS.out] at this; exact this))]
      obtain ⟨f, hff⟩ : ∃ f : Nat, x.f = (f : Int) := ⟨x.f.toNat, by omega⟩
      rw [hff] at r3 hfl
      have df : decide (L.length ≤ f) = false := by simp; omega
      obtain ⟨d, rfl⟩ := hpb (by omega)
      have i5 : (0 : Int) ≤ (f : Int) := by omega
      have i6 : (f : Int) < (L.length : Int) := by omega
      clear hG
      go_wp2_with fail
      go_quiet (fail)
      go_wp2_with fail
      go_quiet (fail)
      go_wp2_with fail
      go_ret2
      refine ⟨fieldR_yes (cap := cap) hob ?_ f hff, by (repeat (first | exact B1.out | exact Below.refl _ _ | refine Below.drew ?_ | refine below_new ?_ _ | refine below_drewN ?_ _ | refine Below.setCell ?_ (by first | exact Nat.le_refl _ | (simp only [World.size_alloc]; omega)) _))⟩
      rw [HN.out, HTH.out, ← HV1.out, hs]
      exact HP.out
end
end Go.Proofs.Ytaefcmmjeloccaa
