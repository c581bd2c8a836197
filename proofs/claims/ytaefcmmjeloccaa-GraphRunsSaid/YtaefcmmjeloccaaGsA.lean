/- The reference graph: who, object, numbers. -/
import Derived.Test.YtaefcmmjeloccaaGr4
namespace Go.Proofs.Ytaefcmmjeloccaa
open Go.RowKit

section
variable {w : World} {g : Nat} {c : Cfg} {G : Gr} {tb tcap nb ncap : Nat} {hv nv : List Value}
set_option maxHeartbeats 1000000 in
theorem rwho_any (h : Gx 50 85 w g c G tb tcap nb ncap hv nv) (x : Stp) (ht : 0 ≤ x.t) :
    Calls Try.prog 50 #[.pointer (some ⟨g, 0, none⟩), .agg x.cells] w fun e w' => e = .returned (.int .i64 (G.who x)) ∧ Below w.heap.size w w' := by
  have B0 := Lib.hid (below_alloc0 w (.cells x.cells 39))
  obtain ⟨g0, g1, g2, g3, g4, g5, g6⟩ := stp_box w x
  by_cases hk : 16 ≤ x.k
  · have hr : G.who x = 0 := by unfold Gr.who; rw [if_pos hk]
    rw [hr]
    go_enter Try.func50, Try.ntmps50
    go_wp2_with fail
    go_ret
    exact ⟨rfl, B0.out⟩
  have hG := h.below B0.out
  obtain ⟨q3, q10, q11⟩ := hG.head
  by_cases hl : (G.thr.length : Int) ≤ x.t
  · have hr : G.who x = 4 := by unfold Gr.who; rw [if_neg hk, if_pos hl]
    rw [hr]
    have d1 : decide ((G.thr.length : Int) ≤ x.t) = true := by simpa using hl
    clear hG h
    go_enter Try.func50, Try.ntmps50
    (go_wp2_with fail; repeat (go_quiet (fail); go_wp2_with fail))
    go_ret
    exact ⟨rfl, by (repeat (first | exact B0.out | refine below_drewN ?_ _))⟩
  obtain ⟨t, htt⟩ : ∃ t : Nat, x.t = (t : Int) := ⟨x.t.toNat, by omega⟩
  rw [htt] at g1 hl
  have hlt : t < G.thr.length := by omega
  obtain ⟨t0, t1⟩ := hG.thread hlt
  have hth : G.th x.t = G.thr.getD t Th.none := by rw [htt]; rfl
  have d1 : decide ((G.thr.length : Int) ≤ (t : Int)) = false := by simp; omega
  have i1 : (0 : Int) ≤ (t : Int) := by omega
  have i2 : (t : Int) < (G.thr.length : Int) := by omega
  obtain ⟨b, hb⟩ : ∃ b, b = (G.thr.getD t Th.none).live := ⟨_, rfl⟩
  have hr : G.who x = if x.k = 1 ∧ b = true then 9 else if x.k ≠ 1 ∧ b = false then 14 else 0 := by unfold Gr.who; rw [if_neg hk, if_neg (by omega), hth, ← hb]
  rw [← hb] at t0
  clear hG h hb hth t1 q3 q11 g2 g3 g4 g5 g6
  by_cases h1 : x.k = 1
  · have dk1 : decide (x.k = 1) = true := by simpa using h1
    cases b
    · have e : G.who x = 0 := by rw [hr]; simp [h1]
      rw [e]
      clear hr e
      go_enter Try.func50, Try.ntmps50
      (go_wp2_with fail; repeat (go_quiet (fail); go_wp2_with fail))
      go_ret
      exact ⟨rfl, by (repeat (first | exact B0.out | refine below_drewN ?_ _))⟩
    · have e : G.who x = 9 := by rw [hr]; simp [h1]
      rw [e]
      clear hr e
      go_enter Try.func50, Try.ntmps50
      (go_wp2_with fail; repeat (go_quiet (fail); go_wp2_with fail))
      go_ret
      exact ⟨rfl, by (repeat (first | exact B0.out | refine below_drewN ?_ _))⟩
  · have dk1 : decide (x.k = 1) = false := by simpa using h1
    have dk2 : (x.k != 1) = true := by simpa using h1
    cases b
    · have e : G.who x = 14 := by rw [hr]; simp [h1]
      rw [e]
      clear hr e
      go_enter Try.func50, Try.ntmps50
      (go_wp2_with fail; repeat (go_quiet (fail); go_wp2_with fail))
      go_ret
      exact ⟨rfl, by (repeat (first | exact B0.out | refine below_drewN ?_ _))⟩
    · have e : G.who x = 0 := by rw [hr]; simp [h1]
      rw [e]
      clear hr e
      go_enter Try.func50, Try.ntmps50
      (go_wp2_with fail; repeat (go_quiet (fail); go_wp2_with fail))
      go_ret
      exact ⟨rfl, by (repeat (first | exact B0.out | refine below_drewN ?_ _))⟩
set_option maxHeartbeats 2000000 in
theorem robject_any (h : Gx 50 85 w g c G tb tcap nb ncap hv nv) (hg : G.Good) (x : Stp) (fl : Bool) (t : Nat) (ht : x.t = (t : Int)) (hlt : t < G.thr.length) (hi : 0 ≤ x.i) :
    Calls Try.prog 52 #[.pointer (some ⟨g, 0, none⟩), .agg x.cells, .bool fl] w fun e w' => e = .returned (.int .i64 (G.object x fl)) ∧ Below w.heap.size w w' := by
  have B0 := Lib.hid (below_alloc0 w (.cells x.cells 39))
  obtain ⟨g0, g1, g2, g3, g4, g5, g6⟩ := stp_box w x
  have hG := h.below B0.out
  obtain ⟨-, q10, q11⟩ := hG.head
  obtain ⟨-, t1⟩ := hG.thread hlt
  have ho := hG.heldRow hlt
  rw [ht] at g1
  have i1 : (0 : Int) ≤ (t : Int) := by omega
  have i2 : (t : Int) < (G.thr.length : Int) := by omega
  have HTH : Hid (G.held x.t = (G.thr.getD t Th.none).held) := Lib.hid (by rw [ht]; rfl)
  have HG := Lib.hid hG
  have HGD := Lib.hid hg
  have HOK := Lib.hid (fun (h0 : 0 ≤ x.i) (h1 : x.i < ((G.thr.getD t Th.none).held.length : Int)) => hg.held_ok hlt h0 h1)
  clear h hG hg ht g0 g4 g5 g6
  obtain ⟨vs, hvs⟩ : ∃ vs, vs = (G.thr.getD t Th.none).held := ⟨_, rfl⟩
  rw [← hvs] at ho HTH HOK
  clear hvs
  obtain ⟨hs, hhs⟩ : ∃ hs, hs = hv.getD t undef := ⟨_, rfl⟩
  rw [← hhs] at t1 ho
  clear hhs
  obtain ⟨p, cap, rfl, -, hpb⟩ := own_slice ho
  have HO := Lib.hid ho
  clear ho
  by_cases h1 : (vs.length : Int) ≤ x.i
  · have e : Hid (G.object x fl = 4) := Lib.hid (by unfold Gr.object; rw [HTH.out, if_pos h1])
    have d1 : decide ((vs.length : Int) ≤ x.i) = true := by simpa using h1
    clear hpb HOK h1
    go_enter Try.func52, Try.ntmps52
    (go_wp2_with fail; repeat (go_quiet (fail); go_wp2_with fail))
    go_ret
    exact ⟨by rw [e.out]; rfl, by (repeat (first | exact B0.out | refine below_drewN ?_ _))⟩
  have hok := HOK.out hi (by omega)
  have e1 : Hid (G.object x fl = if (Gr.at? vs x.i).1 ≠ 2 then 12 else if fl = true ∧ ((G.node (Gr.at? vs x.i).2).length : Int) ≤ x.f then 4 else 0) := Lib.hid (by unfold Gr.object; rw [HTH.out, if_neg h1])
  obtain ⟨i, hii⟩ : ∃ i : Nat, x.i = (i : Int) := ⟨x.i.toNat, by omega⟩
  rw [hii] at g2 e1 hok h1
  have hil : i < vs.length := by omega
  obtain ⟨b, rfl⟩ := hpb (by omega)
  obtain ⟨v0, v1⟩ := own_val HO.out hil
  have d1 : decide (vs.length ≤ i) = false := by simp; omega
  have d1' : decide ((vs.length : Int) ≤ (i : Int)) = false := by simp; omega
  have i3 : (0 : Int) ≤ (i : Int) := by omega
  have i4 : (i : Int) < (vs.length : Int) := by omega
  have ea : Gr.at? vs (i : Int) = vs.getD i (0, 0) := rfl
  rw [ea] at e1 hok
  obtain ⟨v, hv1⟩ : ∃ v, v = vs.getD i (0, 0) := ⟨_, rfl⟩
  rw [← hv1] at v0 v1 e1 hok
  clear hpb HOK h1 ea hv1 hil hi hii
  by_cases hk : v.1 ≠ 2
  · have e : Hid (G.object x fl = 12) := Lib.hid (by rw [e1.out, if_pos hk])
    have dk : (v.1 != 2) = true := by simpa using hk
    clear e1 hk hok
    go_enter Try.func52, Try.ntmps52
    (go_wp2_with fail; repeat (go_quiet (fail); go_wp2_with fail))
    go_ret
    exact ⟨by rw [e.out]; rfl, by (repeat (first | exact B0.out | refine below_drewN ?_ _))⟩
  have dk : (v.1 != 2) = false := by simpa using hk
  have hk : v.1 = 2 := by omega
  have e2 : Hid (G.object x fl = if fl = true ∧ ((G.node v.2).length : Int) ≤ x.f then 4 else 0) := Lib.hid (by rw [e1.out, if_neg (by omega)])
  cases fl
  · have e : Hid (G.object x false = 0) := Lib.hid (by rw [e2.out]; simp)
    clear e1 e2 hok hk
    go_enter Try.func52, Try.ntmps52
    (go_wp2_with fail; repeat (go_quiet (fail); go_wp2_with fail))
    go_ret
    exact ⟨by rw [e.out]; rfl, by (repeat (first | exact B0.out | refine below_drewN ?_ _))⟩
  obtain ⟨hs0, hs1⟩ := hok.2 hk
  obtain ⟨s, hs⟩ : ∃ s : Nat, v.2 = (s : Int) := ⟨v.2.toNat, by omega⟩
  have hsl : s < G.nod.length := by omega
  obtain ⟨n0, n1⟩ := HG.out.nodeRow hsl
  have i5 : (0 : Int) ≤ (s : Int) := by omega
  have i6 : (s : Int) < (G.nod.length : Int) := by omega
  rw [hs] at v1 e2
  obtain ⟨q, cap2, hp, -, -⟩ := own_slice n1
  rw [hp] at n0
  clear n1 hp
  have en : G.node (s : Int) = G.nod.getD s [] := rfl
  rw [en] at e2
  generalize (G.nod.getD s []).length = L at *
  obtain ⟨d, hd⟩ : ∃ d, decide ((L : Int) ≤ x.f) = d := ⟨_, rfl⟩
  have e3 : Hid (G.object x true = if d = true then 4 else 0) := Lib.hid (by rw [e2.out, ← hd]; simp)
  clear e1 e2 hok hk hs hs0 hs1 en hsl
  cases d
  all_goals
    go_enter Try.func52, Try.ntmps52
    (go_wp2_with fail; repeat (go_quiet (fail); go_wp2_with fail))
    go_ret
    exact ⟨by rw [e3.out]; rfl, by (repeat (first | exact B0.out | refine below_drewN ?_ _))⟩
end
end Go.Proofs.Ytaefcmmjeloccaa
