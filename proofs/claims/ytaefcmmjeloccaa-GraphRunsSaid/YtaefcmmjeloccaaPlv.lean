/- scutageplain: like lists, like views. -/
import Derived.Test.YtaefcmmjeloccaaGrO
namespace Go.Proofs.Ytaefcmmjeloccaa
open Go.RowKit

set_option maxHeartbeats 2000000 in
theorem pvalues_same (n : Nat) (hn : n ≤ 1000000) (s1 s2 : Value) (vs : List Vl) (w : World) (b1 b2 : Nat) (h1 : w.ownsRow b1 57 2 s1 n (vls vs)) (h2 : w.ownsRow b2 57 2 s2 n (vls vs)) :
    Calls Try.prog 36 #[s1, s2] w fun e w' => e = .returned (.bool true) ∧ ∃ m, w' = w.drewN m := by
  have k1 : Own w 57 2 n s1 (vls vs) := own_mono h1 (Nat.zero_le _)
  have k2 : Own w 57 2 n s2 (vls vs) := own_mono h2 (Nat.zero_le _)
  clear h1 h2
  have H1 := Lib.hid k1
  have H2 := Lib.hid k2
  obtain ⟨p1, c1, rfl, -, hb1⟩ := own_slice k1
  obtain ⟨p2, c2, rfl, -, hb2⟩ := own_slice k2
  clear k1 k2
  go_enter Try.func36, Try.ntmps36
  go_wp2_with fail
  go_loopw [5] (fun i wr => ∃ k m : Nat, k ≤ n ∧ i = .int .i64 k ∧ wr = w.drewN m) (fun i _ => n - (intOf i).toNat)
  case atStart => exact ⟨0, 0, by omega, rfl, rfl⟩
  case round =>
    obtain ⟨k, m, hk, rfl, rfl⟩ := hrel
    by_cases hlt : k < n
    · obtain ⟨d1, rfl⟩ := hb1 (by omega)
      obtain ⟨d2, rfl⟩ := hb2 (by omega)
      obtain ⟨g1, g2⟩ := own_val H1.out hlt
      obtain ⟨g3, g4⟩ := own_val H2.out hlt
      generalize vs.getD k (0, 0) = v at *
      have i1 : (0 : Int) ≤ (k : Int) := by omega
      have i2 : (k : Int) < (n : Int) := by omega
      go_wp2_with fail
      go_quiet (fail)
      go_wp2_with fail
      go_roundw
      case rel => exact ⟨k + 1, _, by omega, by go_num, rfl⟩
      case measure => simp [intOf]; omega
    · obtain rfl : k = n := by omega
      go_wp2_with fail
      go_ret
      exact ⟨rfl, _, rfl⟩
theorem drewN_add (w : World) (n m : Nat) : (w.drewN n).drewN m = w.drewN (n + m) := by
  simp [World.drewN, Nat.add_assoc]
theorem quiet_more {P : Program} {f : FuncId} {args : Array Value} {w : World} {n : Nat} {v : Value} (h : Calls P f args (w.drewN n) fun e w' => e = .returned v ∧ ∃ m, w' = (w.drewN n).drewN m) : Calls P f args (w.drewN n) fun e w'' => e = .returned v ∧ ∃ m, w'' = w.drewN m :=
  h.mono fun _ _ ⟨he, m, hm⟩ => ⟨he, n + m, by rw [hm, drewN_add]⟩
set_option maxHeartbeats 4000000 in
theorem pview_same {w : World} {B1 B2 : Nat} {rv nv rv2 nv2 : Value} {rs : List (List Vl)} {ns : List (Int × List Vl)} (h1 : Vw w B1 rv nv rs ns) (h2 : Vw w B2 rv2 nv2 rs ns) (hr : rs.length ≤ 1000000) (hn : ns.length ≤ 1000000)
    (hrl : ∀ j, (rs.getD j []).length ≤ 1000) (hnl : ∀ j, ((ns.map fun n => n.2).getD j []).length ≤ 1000) :
    Calls Try.prog 14 #[.agg #[rv, nv], .agg #[rv2, nv2]] w fun e w' => e = .returned (.bool true) ∧ Below w.heap.size w w' := by
  obtain ⟨⟨xs, hx, hxc⟩, ys, hy, hyc⟩ := h1
  obtain ⟨⟨xs2, hx2, hxc2⟩, ys2, hy2, hyc2⟩ := h2
  have hyl : ys.length = ns.length := by have := hyc.len; simpa using this
  have hyl2 : ys2.length = ns.length := by have := hyc2.len; simpa using this
  have HX := Lib.hid (own_mono hx (Nat.zero_le _))
  have HX2 := Lib.hid (own_mono hx2 (Nat.zero_le _))
  have HY := Lib.hid (own_mono hy (Nat.zero_le _))
  have HY2 := Lib.hid (own_mono hy2 (Nat.zero_le _))
  have HXC := Lib.hid hxc
  have HXC2 := Lib.hid hxc2
  have HYC := Lib.hid hyc
  have HYC2 := Lib.hid hyc2
  have HYL := Lib.hid hyl
  have HYL2 := Lib.hid hyl2
  have HRL := Lib.hid hrl
  have HNL := Lib.hid hnl
  obtain ⟨p1, c1, rfl, -, hb1⟩ := own_slice hx
  obtain ⟨p2, c2, rfl, -, hb2⟩ := own_slice hx2
  obtain ⟨p3, c3, rfl, -, hb3⟩ := own_slice hy
  obtain ⟨p4, c4, rfl, -, hb4⟩ := own_slice hy2
  clear hx hxc hy hyc hx2 hxc2 hy2 hyc2 hyl hyl2 hrl hnl
  obtain ⟨R, hR⟩ : ∃ R, R = rs.length := ⟨_, rfl⟩
  obtain ⟨N, hN⟩ : ∃ N, N = ns.length := ⟨_, rfl⟩
  rw [← hR] at HX HX2 hr hb1 hb2 ⊢
  rw [← hN] at HY HY2 hn hb3 hb4 HYL HYL2 ⊢
  have HR := Lib.hid hR
  have HN := Lib.hid hN
  clear hR hN
  obtain ⟨W, hW⟩ : ∃ W, W = (w.alloc (.cells #[.slice p1 R c1, .slice p3 N c3] 45)).alloc (.cells #[.slice p2 R c2, .slice p4 N c4] 45) := ⟨_, rfl⟩
  have hA : W.heap[w.heap.size]? = some (.cells #[.slice p1 R c1, .slice p3 N c3] 45 (0, 0)) := by rw [hW]; exact keep_alloc _ (heap_alloc_new w _)
  have hB : W.heap[w.heap.size + 1]? = some (.cells #[.slice p2 R c2, .slice p4 N c4] 45 (0, 0)) := by rw [hW]; exact heap_two w _ _
  have hBel : Below w.heap.size w W := by rw [hW]; exact below_new (below_alloc0 w _) _
  have a0 : W.cell? ⟨w.heap.size, 0, none⟩ = some (.slice p1 R c1) := cell_of_row _ _ _ _ _ _ hA
  have a1 : W.cell? ⟨w.heap.size, 1, none⟩ = some (.slice p3 N c3) := cell_of_row _ _ _ _ _ _ hA
  have e0 : W.cell? ⟨w.heap.size + 1, 0, none⟩ = some (.slice p2 R c2) := cell_of_row _ _ _ _ _ _ hB
  have e1 : W.cell? ⟨w.heap.size + 1, 1, none⟩ = some (.slice p4 N c4) := cell_of_row _ _ _ _ _ _ hB
  have HBEL := Lib.hid hBel
  clear hA hB hBel
  go_enter Try.func14, Try.ntmps14
  go_upto_region 1 with (fail)
  rw [← hW]
  clear hW
  go_wp2_with fail
  go_loopw [5] (fun i wr => ∃ k : Nat, k ≤ R ∧ i = .int .i64 k ∧ Hid (∃ m, wr = W.drewN m)) (fun i _ => R - (intOf i).toNat)
  case atStart => exact ⟨0, by omega, rfl, Lib.hid ⟨0, rfl⟩⟩
  case round =>
    obtain ⟨k, hk, rfl, HW⟩ := hrel
    have EW : ∀ a, wr.cell? a = W.cell? a := fun a => by obtain ⟨m, rfl⟩ := HW.out; rfl
    have BW := Lib.hid (show Below W.heap.size W wr by obtain ⟨m, rfl⟩ := HW.out; exact below_drewN (Below.refl _ _) m)
    have y0 := (EW _).trans a0
    have y1 := (EW _).trans a1
    have z0 := (EW _).trans e0
    have z1 := (EW _).trans e1
    replace EW := Lib.hid EW
    by_cases hlt : k < R
    · obtain ⟨d1, rfl⟩ := hb1 (by omega)
      obtain ⟨d2, rfl⟩ := hb2 (by omega)
      have f1 : wr.cell? ⟨d1, k, none⟩ = some (xs.getD k undef) := cell_keep BW.out <| cell_keep HBEL.out (by
        have h1 := HX.out.1
        rw [HX.out.cellAt k (by omega), List.getD_eq_getElem?_getD, List.getElem?_eq_getElem (by omega)]; rfl)
      have f2 : wr.cell? ⟨d2, k, none⟩ = some (xs2.getD k undef) := cell_keep BW.out <| cell_keep HBEL.out (by
        have h1 := HX2.out.1
        rw [HX2.out.cellAt k (by omega), List.getD_eq_getElem?_getD, List.getElem?_eq_getElem (by omega)]; rfl)
      have HC1 := Lib.hid (pw_own_keep (pw_own_keep (HXC.out.own k (by rw [← HR.out]; exact hlt)) HBEL.out) BW.out)
      have HC2 := Lib.hid (pw_own_keep (pw_own_keep (HXC2.out.own k (by rw [← HR.out]; exact hlt)) HBEL.out) BW.out)
      have HL := Lib.hid (HRL.out k)
      generalize xs.getD k undef = x1 at *
      generalize xs2.getD k undef = x2 at *
      generalize rs.getD k [] = l at *
      have i1 : (0 : Int) ≤ (k : Int) := by omega
      have i2 : (k : Int) < (R : Int) := by omega
      go_wp2_with fail
      go_quiet ((go_at_call 36; exact quiet_more (pvalues_same _ (by have := HL.out; omega) x1 x2 l _ _ _ (pw_own_keep HC1.out (below_drewN (Below.refl _ _) _)) (pw_own_keep HC2.out (below_drewN (Below.refl _ _) _)))))
      go_wp2_with fail
      go_roundw
      case rel => exact ⟨k + 1, by omega, by go_num, Lib.hid (by obtain ⟨m, rfl⟩ := HW.out; exact ⟨_, drewN_add _ _ _⟩)⟩
      case measure => simp [intOf]; omega
    · obtain rfl : k = R := by omega
      go_wp2_with fail
      go_loopw [6] (fun i wr => ∃ k : Nat, k ≤ N ∧ i = .int .i64 k ∧ Hid (∃ m, wr = W.drewN m)) (fun i _ => N - (intOf i).toNat)
      case atStart => exact ⟨0, by omega, rfl, HW⟩
      case round =>
        clear hk hlt
        clear EW BW y0 y1 z0 z1 HW
        obtain ⟨j, hk, rfl, HW⟩ := hrel
        have EW : ∀ a, wr.cell? a = W.cell? a := fun a => by obtain ⟨m, rfl⟩ := HW.out; rfl
        have BW := Lib.hid (show Below W.heap.size W wr by obtain ⟨m, rfl⟩ := HW.out; exact below_drewN (Below.refl _ _) m)
        have y0 := (EW _).trans a0
        have y1 := (EW _).trans a1
        have z0 := (EW _).trans e0
        have z1 := (EW _).trans e1
        replace EW := Lib.hid EW
        by_cases hlt : j < N
        · obtain ⟨d1, rfl⟩ := hb3 (by omega)
          obtain ⟨d2, rfl⟩ := hb4 (by omega)
          obtain ⟨u1, u2⟩ := ndC_get (ns := ns) (ys := ys) (j := j) (by rw [HYL.out, HN.out]) (by rw [← HN.out]; exact hlt)
          obtain ⟨u3, u4⟩ := ndC_get (ns := ns) (ys := ys2) (j := j) (by rw [HYL2.out, HN.out]) (by rw [← HN.out]; exact hlt)
          have f1 : wr.cell? ⟨d1, j * 2, none⟩ = some (.int .i64 (ns.getD j (0, [])).1) := cell_keep BW.out <| cell_keep HBEL.out ((HY.out.cellAt _ (by omega)).trans u1)
          have f2 : wr.cell? ⟨d1, j * 2 + 1, none⟩ = some (ys.getD j undef) := cell_keep BW.out <| cell_keep HBEL.out ((HY.out.cellAt _ (by omega)).trans u2)
          have f3 : wr.cell? ⟨d2, j * 2, none⟩ = some (.int .i64 (ns.getD j (0, [])).1) := cell_keep BW.out <| cell_keep HBEL.out ((HY2.out.cellAt _ (by omega)).trans u3)
          have f4 : wr.cell? ⟨d2, j * 2 + 1, none⟩ = some (ys2.getD j undef) := cell_keep BW.out <| cell_keep HBEL.out ((HY2.out.cellAt _ (by omega)).trans u4)
          clear u1 u2 u3 u4
          have HC1 := Lib.hid (pw_own_keep (pw_own_keep (HYC.out.own j (by rw [List.length_map, ← HN.out]; exact hlt)) HBEL.out) BW.out)
          have HC2 := Lib.hid (pw_own_keep (pw_own_keep (HYC2.out.own j (by rw [List.length_map, ← HN.out]; exact hlt)) HBEL.out) BW.out)
          have HL := Lib.hid (HNL.out j)
          generalize ys.getD j undef = x1 at *
          generalize ys2.getD j undef = x2 at *
          generalize (ns.map fun n => n.2).getD j [] = l at *
          generalize (ns.getD j (0, [])).1 = sr at *
          have i1 : (0 : Int) ≤ (j : Int) := by omega
          have i2 : (j : Int) < (N : Int) := by omega
          go_wp2_with fail
          go_quiet ((go_at_call 36; exact quiet_more (pvalues_same _ (by have := HL.out; omega) x1 x2 l _ _ _ (pw_own_keep HC1.out (below_drewN (Below.refl _ _) _)) (pw_own_keep HC2.out (below_drewN (Below.refl _ _) _)))))
          go_wp2_with fail
          go_roundw
          case rel => exact ⟨j + 1, by omega, by go_num, Lib.hid (by obtain ⟨m, rfl⟩ := HW.out; exact ⟨_, drewN_add _ _ _⟩)⟩
          case measure => simp [intOf]; omega
        · obtain rfl : j = N := by omega
          go_wp2_with fail
          go_ret
          exact ⟨rfl, below_next HBEL.out BW.out⟩
end Go.Proofs.Ytaefcmmjeloccaa
