/- The law StoreKeeps. -/
import Derived.Test.YtjoejjhgneccgaaGreatQSK16
import Derived.Test.YtjoejjhgneccgaaGreatRows
import Derived.KernelRfl
import Derived.ProofKit
namespace Go.Proofs.YtjoejjhgneccgaaGreat
open Go.RowKit

def op13 (l : List Int) : Op13 := ⟨l.getD 0 0, l.getD 1 0, l.getD 2 0, l.getD 3 0, l.getD 4 0, l.getD 5 0⟩
theorem IOps.op13 {w : World} {A : Option Addr} {n k : Nat} {xs : List (List Int)} (h : IOps 6 w A n xs) (hk : k < n) : ∃ b o, A = some ⟨b, o, none⟩ ∧ wfI (op13 (xs.getD k [])).t ∧
    w.cell? ⟨b, o + k * 6, none⟩ = some (.int .i64 (op13 (xs.getD k [])).k) ∧ w.cell? ⟨b, o + k * 6 + 1, none⟩ = some (.int .i64 (op13 (xs.getD k [])).t) ∧ w.cell? ⟨b, o + k * 6 + 2, none⟩ = some (.int .i64 (op13 (xs.getD k [])).n) ∧
    w.cell? ⟨b, o + k * 6 + 3, none⟩ = some (.int .i64 (op13 (xs.getD k [])).a) ∧ w.cell? ⟨b, o + k * 6 + 4, none⟩ = some (.int .i64 (op13 (xs.getD k [])).vk) ∧ w.cell? ⟨b, o + k * 6 + 5, none⟩ = some (.int .i64 (op13 (xs.getD k [])).vn) := by
  obtain ⟨b, o, e, hc⟩ := h.cell (by omega)
  obtain ⟨h1, h2⟩ := hc k hk
  exact ⟨b, o, e, h1 1, h2 0 (by decide), h2 1 (by decide), h2 2 (by decide), h2 3 (by decide), h2 4 (by decide), h2 5 (by decide)⟩
def FewE (m : Nat) (A : Option Addr) (n cap : Nat) (e : Ending) : Prop := ∃ p, e = .returned (.slice A p cap) ∧ p ≤ n ∧ p ≤ m
set_option maxRecDepth 100000 in
theorem few13_any {w : World} {A : Option Addr} {n cap : Nat} (hc : n ≤ cap) (hm : n ≤ 140737488355328) :
    Calls Tryz.prog 6 #[.slice A n cap] w fun e w' => FewE 40 A n cap e ∧ w = w' := by
  by_cases hn : 40 < n
  · have d1 : decide ((40 : Int) < (n : Int)) = true := by simp; omega
    have HN := Lib.hid (show 40 ≤ n by omega)
    have i1 : (40 : Int) ≤ (cap : Int) := by omega
    go_enter Tryz.func6, Tryz.ntmps6
    go_wp2_with fail
    go_ret
    exact ⟨⟨40, rfl, HN.out, Nat.le_refl _⟩, rfl⟩
  · have d1 : decide ((40 : Int) < (n : Int)) = false := by simp; omega
    have HN := Lib.hid (show n ≤ 40 by omega)
    go_enter Tryz.func6, Tryz.ntmps6
    go_wp2_with fail
    go_ret
    exact ⟨⟨n, rfl, Nat.le_refl _, HN.out⟩, rfl⟩
set_option maxHeartbeats 2000000 in
set_option maxRecDepth 100000 in
theorem check03_any (k n : Int) (w : World) :
    Calls Tryz.prog 13 #[.agg #[.int .i64 k, .int .i64 n]] w fun e w' => e = .returned (.int .i64 (checkV k n)) ∧ Below w.heap.size w w' := by
  have B0 := Lib.hid (below_alloc0 w (.cells #[.int .i64 k, .int .i64 n] 24))
  have c0 : (w.alloc (.cells #[.int .i64 k, .int .i64 n] 24)).cell? ⟨w.heap.size, 0, none⟩ = some (.int .i64 k) := cell_of_row _ _ _ _ _ _ (heap_alloc_new w _)
  have c1 : (w.alloc (.cells #[.int .i64 k, .int .i64 n] 24)).cell? ⟨w.heap.size, 1, none⟩ = some (.int .i64 n) := cell_of_row _ _ _ _ _ _ (heap_alloc_new w _)
  obtain ⟨r, hr⟩ : ∃ r, r = checkV k n := ⟨_, rfl⟩
  rw [← hr]
  unfold checkV at hr
  by_cases h0 : k = 0
  · subst h0
    cases hb : (n == 0)
    all_goals
      have hb2 : (n != 0) = !(n == 0) := rfl
      rw [hb] at hr hb2
      simp only [reduceIte, reduceCtorEq, Bool.not_false, Bool.not_true] at hr hb2
      subst hr
      go_enter Tryz.func13, Tryz.ntmps13
      go_wp2_with fail
      go_ret
      exact ⟨rfl, B0.out⟩
  by_cases h1 : k = 1
  · subst h1
    by_cases g1 : -1099511627776 ≤ n
    · by_cases g2 : n < 1099511627776
      · have d1 : decide (n < -1099511627776) = false := by rw [decide_eq_false_iff_not]; omega
        have d2 : decide (1099511627775 < n) = false := by rw [decide_eq_false_iff_not]; omega
        simp [g1, g2] at hr
        subst hr
        clear g1 g2
        go_enter Tryz.func13, Tryz.ntmps13
        go_wp2_with fail
        go_ret
        exact ⟨rfl, B0.out⟩
      · have d1 : decide (n < -1099511627776) = false := by rw [decide_eq_false_iff_not]; omega
        have d2 : decide (1099511627775 < n) = true := by rw [decide_eq_true_eq]; omega
        simp [g1, g2] at hr
        subst hr
        clear g1 g2
        go_enter Tryz.func13, Tryz.ntmps13
        go_wp2_with fail
        go_ret
        exact ⟨rfl, B0.out⟩
    · have d1 : decide (n < -1099511627776) = true := by rw [decide_eq_true_eq]; omega
      simp [g1] at hr
      subst hr
      clear g1
      go_enter Tryz.func13, Tryz.ntmps13
      go_wp2_with fail
      go_ret
      exact ⟨rfl, B0.out⟩
  by_cases h2 : k = 2
  · subst h2
    by_cases g1 : 0 ≤ n
    · by_cases g2 : n < 2048
      · have d1 : decide (n < 0) = false := by rw [decide_eq_false_iff_not]; omega
        have d2 : decide (2047 < n) = false := by rw [decide_eq_false_iff_not]; omega
        simp [g1, g2] at hr
        subst hr
        clear g1 g2
        go_enter Tryz.func13, Tryz.ntmps13
        go_wp2_with fail
        go_ret
        exact ⟨rfl, B0.out⟩
      · have d1 : decide (n < 0) = false := by rw [decide_eq_false_iff_not]; omega
        have d2 : decide (2047 < n) = true := by rw [decide_eq_true_eq]; omega
        simp [g1, g2] at hr
        subst hr
        clear g1 g2
        go_enter Tryz.func13, Tryz.ntmps13
        go_wp2_with fail
        go_ret
        exact ⟨rfl, B0.out⟩
    · have d1 : decide (n < 0) = true := by rw [decide_eq_true_eq]; omega
      simp [g1] at hr
      subst hr
      clear g1
      go_enter Tryz.func13, Tryz.ntmps13
      go_wp2_with fail
      go_ret
      exact ⟨rfl, B0.out⟩
  rw [if_neg h0, if_neg h1, if_neg h2] at hr
  subst hr
  by_cases g0 : k < 0
  · have d0 : decide (k < 0) = true := by rw [decide_eq_true_eq]; omega
    clear h0 h1 h2 g0
    go_enter Tryz.func13, Tryz.ntmps13
    go_wp2_with fail
    go_ret
    exact ⟨rfl, B0.out⟩
  · have d0 : decide (k < 0) = false := by rw [decide_eq_false_iff_not]; omega
    have d1 : decide (2 < k) = true := by rw [decide_eq_true_eq]; omega
    clear h0 h1 h2 g0
    go_enter Tryz.func13, Tryz.ntmps13
    go_wp2_with fail
    go_ret
    exact ⟨rfl, B0.out⟩
end Go.Proofs.YtjoejjhgneccgaaGreat

/- The law StoreKeeps: the walk. -/
namespace Go.Proofs.YtjoejjhgneccgaaGreat
open Go.RowKit

section
variable {w w' w0 : World} {b : Sl} {S : Sm} {B m : Nat}
/-- A store behind a call of the law's. -/
structure StW (B : Nat) (w0 w : World) (b : Sl) (S : Sm) (m : Nat) : Prop where
  st : StX w b S
  sj : SJ S
  md : S.md ≤ m
  th : S.th = 4
  ly : Lay B w0 w (stfp b)
theorem StW.below (h : StW B w0 w b S m) (hb : Below w.heap.size w w') : StW B w0 w' b S m := ⟨h.st.below hb, h.sj, h.md, h.th, h.ly.below hb⟩
def StDo (B : Nat) (w0 w' : World) (b : Sl) (S : Sm) (m : Nat) (x : Op13) (e : Ending) : Prop := e = .returned (.tuple #[]) ∧ ∃ S', StW B w0 w' b S' (m + 1) ∧ Keeps S S' x
theorem StW.do (h : StW B w0 w b S m) (hm : m < 1000) (x : Op13) (wt : wfI x.t) :
    Calls Tryz.prog 7 #[.pointer (some ⟨b.s, 0, none⟩), .agg #[.int .i64 x.k, .int .i64 x.t, .int .i64 x.n, .int .i64 x.a, .int .i64 x.vk, .int .i64 x.vn]] w fun e w' => StDo B w0 w' b S m x e := by
  have h1 := h.md
  refine (sdo_any h.st h.sj (by omega) x wt).mono ?_
  rintro e w' ⟨rfl, S', hx, hk, hf⟩
  have h2 := hk.md
  exact ⟨rfl, S', ⟨hx, hk.sj, by omega, hk.th.trans h.th, h.ly.turn (Turn.of (hf.mono (stfp_sub b)))⟩, hk⟩
theorem StW.slow (h : StW B w0 w b S m) (hm : m < 1000) (n : Int) {v : Int × Int} (hv : slowV S 0 n = v) :
    Calls Tryz.prog 8 #[.pointer (some ⟨b.s, 0, none⟩), .int .i64 0, .int .i64 n] w fun e w' => e = .returned (.tuple #[.int .i64 v.1, .int .i64 v.2]) ∧ StW B w0 w' b (slowS S 0 n) (m + 1) := by
  have h1 := h.md
  refine (sslow_any h.st h.sj.si 0 n h.sj.m0 (by omega)).mono ?_
  rintro e w' ⟨rfl, hx, hf⟩
  have hk := keeps_slow (x := ⟨0, 0, 0, 0, 0, 0⟩) h.sj (by omega) 0 n
  have h2 := hk.md
  rw [hv]
  exact ⟨rfl, hx, hk.sj, by omega, hk.th.trans h.th, h.ly.turn (Turn.of (hf.mono (stfp_sub b)))⟩
theorem StW.set (h : StW B w0 w b S m) (a i k n : Int) {r : Bool} (hr : mayB S a i k n = r) :
    Calls Tryz.prog 9 #[.pointer (some ⟨b.s, 0, none⟩), .int .i64 a, .int .i64 i, .agg #[.int .i64 k, .int .i64 n]] w fun e w' => e = .returned (.bool r) ∧ StW B w0 w' b (setS S a i k n) m := by
  refine (sset_any h.st h.sj a i k n).mono ?_
  rintro e w' ⟨rfl, hx, hf⟩
  have hk := keeps_set (x := ⟨4, 0, i, a, k, n⟩) h.sj rfl
  rw [hr]
  refine ⟨rfl, hx, hk.sj, ?_, hk.th.trans h.th, h.ly.turn (Turn.of (hf.mono (stfp_sub b)))⟩
  have h1 := h.md
  unfold setS
  split <;> exact h1
end
/-- The object that was made. -/
structure Got (S : Sm) (z n ser : Nat) (l : List (Int × Int)) : Prop where
  at_ : z ∈ bitsN S.C.ws
  obj : objN S.C z = (ser, l)
  len : l.length = n
theorem Got.keep {S S' : Sm} {z n ser : Nat} {l : List (Int × Int)} {x : Op13} (h : Got S z n ser l) (hk : Keeps S S' x) (hx : x.a ≠ z ∨ (x.k ≠ 3 ∧ x.k ≠ 4)) : Got S' z n ser l := by
  obtain ⟨h1, h2⟩ := hk.st z h.at_ hx
  exact ⟨h1, h2.trans h.obj, h.len⟩
section
variable {S : Sm} {z n ser : Nat} {l : List (Int × Int)}
theorem Got.parts (h : Got S z n ser l) : serN S.C z = ser ∧ lenN S.C z = n ∧ ∀ j, j < n → fldN S.C z j = l.getD j (0, 0) := by
  have h1 := h.obj
  unfold objN at h1
  simp only [Prod.mk.injEq] at h1
  have h2 : lenN S.C z = n := by rw [← h.len, ← h1.2]; simp
  refine ⟨h1.1, h2, fun j hj => ?_⟩
  rw [← h1.2, List.getD_eq_getElem?_getD, List.getElem?_map, List.getElem?_range (by omega)]
  rfl
theorem Got.fields (h : Got S z n ser l) (sj : SJ S) : (readV S (z : Int)).2 = (n : Int) ∧ (readV S (z : Int)).1 = (ser : Int) := by
  obtain ⟨h1, h2, -⟩ := h.parts
  rw [sj.read h.at_, h1, h2]
  exact ⟨rfl, rfl⟩
theorem Got.get (h : Got S z n ser l) (sj : SJ S) {j : Nat} (hj : j < n) : getV S z j = (l.getD j (0, 0), true) := by
  obtain ⟨-, h2, h3⟩ := h.parts
  rw [get_in sj h.at_ (by omega), h3 j hj]
theorem Got.no (h : Got S z n ser l) (sj : SJ S) {i : Int} (hi : ¬ (0 ≤ i ∧ i < n)) : fieldB S z i = false := by
  cases hf : fieldB S z i with
  | false => rfl
  | true =>
    obtain ⟨a, j, ha, rfl, -, hj⟩ := sj.field.1 hf
    obtain rfl : z = a := by omega
    rw [h.parts.2.1] at hj
    omega
theorem Got.yes (h : Got S z n ser l) (sj : SJ S) {j : Nat} (hj : j < n) : fieldB S z j = true := sj.field.2 ⟨z, j, rfl, rfl, h.at_, by rw [h.parts.2.1]; exact hj⟩
end
/-- What the end of the law asks. -/
theorem keeps_fin {S S1 : Sm} {z nn : Nat} {i k m : Int} (h : SJ S1) (hA : Alc S S1 z nn) (hi : i = (nn : Int) - 1) :
    ∃ (r : Bool) (u1 u2 : Int) (ok : Bool) (l : List (Int × Int)) (ser : Nat), mayB S1 z i k m = r ∧ Got (setS S1 z i k m) z nn ser l ∧ (∀ S', Got S' z nn ser l → SJ S' → getV S' z i = ((u1, u2), ok)) ∧
      ((false = r ∧ 0 = u1 ∧ 0 = u2 ∧ false = ok ∧ decide (0 < nn) = false ∧ True) ∨ (true = r ∧ k = u1 ∧ m = u2 ∧ true = ok ∧ decide (0 < nn) = true ∧ (checkV k m == 0) = true) ∨ (false = r ∧ 0 = u1 ∧ 0 = u2 ∧ true = ok ∧ decide (0 < nn) = true ∧ (checkV k m == 0) = false)) := by
  have hz : z ∈ bitsN S1.C.ws := (hA.mem z).2 (.inl rfl)
  have hg : Got S1 z nn S.md.toNat (List.replicate nn (0, 0)) := ⟨hz, hA.obj, by simp⟩
  cases nn with
  | zero =>
    have hf := hg.no h (i := i) (by omega)
    have hm : mayB S1 z i k m = false := by unfold mayB; rw [hf, Bool.and_false]
    refine ⟨false, 0, 0, false, _, _, hm, by rw [(set_no hm).2]; exact hg, fun S' g' j' => ?_, .inl ⟨rfl, rfl, rfl, rfl, rfl, trivial⟩⟩
    unfold getV
    rw [g'.no j' (by omega)]
    rfl
  | succ q =>
    obtain rfl : i = (q : Int) := by omega
    have hf := hg.yes h (j := q) (by omega)
    cases hc : (checkV k m == 0) with
    | true =>
      have hm : mayB S1 z q k m = true := by unfold mayB; rw [hf, hc]; rfl
      obtain ⟨-, -, hp⟩ := h.set hz (j := q) (by rw [hg.parts.2.1]; omega) (k := k) (n := m) (by simpa using hc)
      refine ⟨true, k, m, true, (List.replicate (q + 1) (0, 0)).set q (k, m), _, hm, ⟨by rw [hp.ws]; exact hz, by rw [hp.obj, hA.obj], by simp⟩, fun S' g' j' => ?_, .inr (.inl ⟨rfl, rfl, rfl, rfl, by simp, rfl⟩)⟩
      rw [g'.get j' (by omega), getD_set_same (by simp)]
    | false =>
      have hm : mayB S1 z q k m = false := by unfold mayB; rw [hc]; rfl
      refine ⟨false, 0, 0, true, _, _, hm, by rw [(set_no hm).2]; exact hg, fun S' g' j' => ?_, .inr (.inr ⟨rfl, rfl, rfl, rfl, by simp, rfl⟩)⟩
      rw [g'.get j' (by omega), List.getD_eq_getElem?_getD, List.getElem?_replicate, if_pos (by omega)]
      rfl
set_option maxHeartbeats 16000000 in
set_option maxRecDepth 100000 in
theorem storeKeeps_any (pages : Int) (A1 : Option Addr) (n1 cap1 : Nat) (hc1 : n1 ≤ cap1) (n k m : Int) (A2 : Option Addr) (n2 cap2 : Nat) (hc2 : n2 ≤ cap2) (xs1 xs2 : List (List Int)) (w : World) (hr1 : IOps 6 w A1 n1 xs1) (hr2 : IOps 6 w A2 n2 xs2) :
    Calls Tryz.prog 3 #[.int .i64 pages, .slice A1 n1 cap1, .int .i64 n, .agg #[.int .i64 k, .int .i64 m], .slice A2 n2 cap2] w fun e w' => e = .returned (.bool true) ∧ Below w.heap.size w w' := by
  have B0 := Lib.hid (below_alloc0 w (.cells #[.int .i64 k, .int .i64 m] 24))
  have V0 := Lib.hid (heap_alloc_new w (.cells #[.int .i64 k, .int .i64 m] 24))
  have HR1 := Lib.hid hr1
  have HR2 := Lib.hid hr2
  have HC1 := Lib.hid hc1
  have HC2 := Lib.hid hc2
  clear hr1 hr2 hc1 hc2
  go_enter Tryz.func3, Tryz.ntmps3
  go_wp2_with (first
    | (go_at_call 4; refine (stalive_any _).mono ?_; rintro e w1 ⟨rfl, hb⟩; have B1 := Lib.hid (below_next B0.out hb); have V1 := Lib.hid (keep hb V0.out); clear hb)
    | (go_at_call 5; refine (stnew_any pages 4 _).mono ?_; rintro e w2 ⟨⟨b, rfl, hx, hf, hc⟩, hb⟩; have hcp := clampN_bd (a := pages) (lo := 0) (hi := 64) (by omega); have L2 := Lib.hid ((Lay.start w1).new hb (fp' := stfp b) (fun k hk => .inr (stfp_ge hf hc k hk))); have W2 := Lib.hid (show StW w1.heap.size w1 w2 b (Sm.new (clampN pages 0 64).toNat 4) 0 from ⟨hx, SJ.new (by omega) (by decide), Int.le_refl _, rfl, L2.out⟩); clear hx hf hc hb hcp)
    | (go_at_call 6; first
      | ((with_reducible refine (few13_any HC1.out HR1.out.max).mono ?_); rintro e w3 ⟨⟨p1, rfl, hx, hp⟩, rfl⟩; have P1 := Lib.hid ((HR1.out.below B1.out).take hx); have Q1 := Lib.hid hp; clear hx hp)
      | ((with_reducible refine (few13_any HC2.out HR2.out.max).mono ?_); rintro e w3 ⟨⟨p2, rfl, hx, hp⟩, rfl⟩; have P2 := Lib.hid ((HR2.out.below B1.out).take hx); have Q2 := Lib.hid hp; clear hx hp)))
  obtain ⟨ys1, hy1⟩ : ∃ ys, ys = xs1.take p1 := ⟨_, rfl⟩
  obtain ⟨ys2, hy2⟩ : ∃ ys, ys = xs2.take p2 := ⟨_, rfl⟩
  rw [← hy1] at P1
  rw [← hy2] at P2
  clear hy1 hy2
  go_loopw [12] (fun i wr => ∃ (j : Nat) (S : Sm), i = .int .i64 (j : Int) ∧ j ≤ p1 ∧ Hid (StW w1.heap.size w1 wr b S j)) (fun i _ => 41 - (intOf i).toNat)
  case atStart => exact ⟨0, _, rfl, Nat.zero_le _, W2⟩
  case round =>
    clear W2
    obtain ⟨j, S, rfl, hj, HW⟩ := hrel
    by_cases hlt : j < p1
    · have hd : decide (j < p1) = true := by simpa using hlt
      obtain ⟨g, o, rfl, wt, e0, e1, e2, e3, e4, e5⟩ := (P1.out.below HW.out.ly.bl).op13 hlt
      obtain ⟨x, hx⟩ : ∃ x, x = op13 (ys1.getD j []) := ⟨_, rfl⟩
      rw [← hx] at wt e0 e1 e2 e3 e4 e5
      have WT := Lib.hid wt
      have i1 : (0 : Int) ≤ (j : Int) := by omega
      have i2 : (j : Int) < (p1 : Int) := by omega
      have k1 : IntKind.i64.wrap ((j : Int) + 1) = ((j + 1 : Nat) : Int) := by have := Q1.out; rw [IntKind.wrap_i64]; omega
      have HJ := Lib.hid hlt
      clear hx wt hlt hj
      go_wp2_with (go_at_call 7; refine (HW.out.do (by have := HJ.out; have := Q1.out; omega) x WT.out).mono ?_; rintro e w4 ⟨rfl, S4, hW4, -⟩; have W4 := Lib.hid hW4; clear hW4)
      go_roundw
      case rel => exact ⟨j + 1, S4, rfl, HJ.out, W4⟩
      case measure => have := HJ.out; have := Q1.out; simp only [intOf]; omega
    · have hd : decide (j < p1) = false := by simpa using hlt
      have HJ := Lib.hid (show j < 1000 by have := Q1.out; omega)
      have HJ4 := Lib.hid (show j ≤ 40 by have := Q1.out; omega)
      clear hlt hj
      rcases slow_cases HW.out.sj.si HW.out.sj.m0 0 n with ⟨z, nn, rfl, hin, hv, hA⟩ | ⟨hS, ⟨hv, hin⟩ | ⟨hv, hin⟩⟩
      · obtain ⟨q0, -, -⟩ := inr_in hin
        have hnb : nn ≤ 127 := by
          apply Decidable.byContradiction; intro hc
          exact q0 (ofI_out (by omega))
        have hsj : SJ (slowS S 0 nn) := HW.out.sj.slow (by have := HW.out.md; have := HJ.out; omega) 0 nn
        obtain ⟨i, hi⟩ : ∃ i : Int, i = (nn : Int) - 1 := ⟨_, rfl⟩
        have k0 : IntKind.i64.wrap ((nn : Int) - 1) = i := by rw [IntKind.wrap_i64]; omega
        obtain ⟨r, u1, u2, ok, l, ser, hr, hg, hget, hfin⟩ := keeps_fin hsj hA hi (k := k) (m := m)
        have HV := Lib.hid hv
        have HM := Lib.hid hr
        have HG := Lib.hid hg
        have HGT := Lib.hid hget
        clear hv hin q0 hA hsj hr hg hget hi
        rcases hfin with ⟨rfl, rfl, rfl, rfl, dn, hck⟩ | ⟨rfl, rfl, rfl, rfl, dn, hck⟩ | ⟨rfl, rfl, rfl, rfl, dn, hck⟩
        all_goals
          have HCK := Lib.hid hck
          go_wp2_with (first
            | (go_at_call 8; refine (HW.out.slow HJ.out nn HV.out).mono ?_; rintro e w4 ⟨rfl, hW4⟩; have hv4 := keep hW4.ly.bl V1.out; have v0 := cell_of_row _ _ 0 _ _ _ hv4; have v1 := cell_of_row _ _ 1 _ _ _ hv4; have W4 := Lib.hid hW4; clear hW4 hv4)
            | (go_at_call 9; refine (W4.out.set z i k m HM.out).mono ?_; rintro e w5 ⟨rfl, hW5⟩; have W5 := Lib.hid hW5; clear hW5)
            | (go_at_call 10; refine (sserial_any W5.out.st z).mono ?_; rw [(HG.out.fields W5.out.sj).2]; rintro e w6 ⟨rfl, rfl⟩))
          obtain ⟨wo, rfl⟩ : ∃ wo : World, wo = w5 := ⟨_, rfl⟩
          go_loopw [17] (fun q wr => ∃ (j2 : Nat) (S : Sm), q = .int .i64 (j2 : Int) ∧ j2 ≤ p2 ∧ Hid (StW w1.heap.size w1 wr b S (j + 1 + j2)) ∧ Hid (Got S z nn ser l)) (fun q _ => 41 - (intOf q).toNat)
          case atStart => exact ⟨0, _, rfl, Nat.zero_le _, W5, HG⟩
          case round =>
            obtain ⟨j2, S2, rfl, hj2, HW2, HG2⟩ := hrel
            by_cases hlt : j2 < p2
            · have hd2 : decide (j2 < p2) = true := by simpa using hlt
              obtain ⟨g, o, rfl, wt, e0, e1, e2, e3, e4, e5⟩ := (P2.out.below HW2.out.ly.bl).op13 hlt
              obtain ⟨x, hx⟩ : ∃ x, x = op13 (ys2.getD j2 []) := ⟨_, rfl⟩
              rw [← hx] at wt e0 e1 e2 e3 e4 e5
              have WT := Lib.hid wt
              have i1 : (0 : Int) ≤ (j2 : Int) := by omega
              have i2 : (j2 : Int) < (p2 : Int) := by omega
              have k1 : IntKind.i64.wrap ((j2 : Int) + 1) = ((j2 + 1 : Nat) : Int) := by have := Q2.out; rw [IntKind.wrap_i64]; omega
              have HJ2 := Lib.hid hlt
              have HJ3 := Lib.hid (show j + 1 + j2 < 1000 by have := HJ.out; have := Q2.out; have := Q1.out; have := HJ4.out; omega)
              clear hx wt hlt hj2
              by_cases ha : x.a = (z : Int)
              · have qa : (x.a != (z : Int)) = false := by simpa using ha
                by_cases hk3 : x.k = 3
                · have qk : (x.k != 3) = false := by simpa using hk3
                  clear ha hk3
                  go_wp2_with fail
                  go_roundw
                  case rel => exact ⟨j2 + 1, S2, rfl, HJ2.out, Lib.hid ⟨HW2.out.st, HW2.out.sj, by have := HW2.out.md; omega, HW2.out.th, HW2.out.ly⟩, HG2⟩
                  case measure => have := HJ2.out; have := Q2.out; simp only [intOf]; omega
                · have qk : (x.k != 3) = true := by simpa using hk3
                  by_cases hk4 : x.k = 4
                  · have qk4 : (x.k != 4) = false := by simpa using hk4
                    clear ha hk3 hk4
                    go_wp2_with fail
                    go_roundw
                    case rel => exact ⟨j2 + 1, S2, rfl, HJ2.out, Lib.hid ⟨HW2.out.st, HW2.out.sj, by have := HW2.out.md; omega, HW2.out.th, HW2.out.ly⟩, HG2⟩
                    case measure => have := HJ2.out; have := Q2.out; simp only [intOf]; omega
                  · have qk4 : (x.k != 4) = true := by simpa using hk4
                    have HK := Lib.hid (show x.a ≠ z ∨ (x.k ≠ 3 ∧ x.k ≠ 4) from .inr ⟨hk3, hk4⟩)
                    clear ha hk3 hk4
                    go_wp2_with (go_at_call 7; refine (HW2.out.do HJ3.out x WT.out).mono ?_; rintro e w7 ⟨rfl, S4, hW4, hkp⟩; have W7 := Lib.hid hW4; have G7 := Lib.hid (HG2.out.keep hkp HK.out); clear hW4 hkp)
                    go_roundw
                    case rel => exact ⟨j2 + 1, S4, rfl, HJ2.out, W7, G7⟩
                    case measure => have := HJ2.out; have := Q2.out; simp only [intOf]; omega
              · have qa : (x.a != (z : Int)) = true := by simpa using ha
                have HK := Lib.hid (show x.a ≠ z ∨ (x.k ≠ 3 ∧ x.k ≠ 4) from .inl ha)
                clear ha
                go_wp2_with (go_at_call 7; refine (HW2.out.do HJ3.out x WT.out).mono ?_; rintro e w7 ⟨rfl, S4, hW4, hkp⟩; have W7 := Lib.hid hW4; have G7 := Lib.hid (HG2.out.keep hkp HK.out); clear hW4 hkp)
                go_roundw
                case rel => exact ⟨j2 + 1, S4, rfl, HJ2.out, W7, G7⟩
                case measure => have := HJ2.out; have := Q2.out; simp only [intOf]; omega
            · have hd2 : decide (j2 < p2) = false := by simpa using hlt
              clear hlt hj2
              have HFS := Lib.hid (HG2.out.fields HW2.out.sj)
              have HGV := Lib.hid (HGT.out S2 HG2.out HW2.out.sj)
              go_wp2_with (first
                | (go_at_call 11; refine (sget_any HW2.out.st HW2.out.sj z i).mono ?_; rw [HGV.out]; rintro e w8 ⟨rfl, hb⟩; have hw8 := HW2.out.below hb; have VV8 := Lib.hid (keep hw8.ly.bl V1.out); have W8 := Lib.hid hw8; have x0 := fun o => cell_of_row _ _ 0 _ _ _ (keep (below_alloc0 w8 o) VV8.out); have x1 := fun o => cell_of_row _ _ 1 _ _ _ (keep (below_alloc0 w8 o) VV8.out); clear hb hw8)
                | (go_at_call 12; refine (sfields_any (W8.out.below (below_alloc0 w8 _)).st z).mono ?_; rw [HFS.out.1]; rintro e w9 ⟨rfl, rfl⟩)
                | (go_at_call 10; refine (sserial_any (W8.out.below (below_alloc0 w8 _)).st z).mono ?_; rw [HFS.out.2]; rintro e w9 ⟨rfl, rfl⟩)
                | (go_at_call 13; refine (check03_any k m _).mono ?_; rintro e w10 ⟨rfl, hb⟩; have hA := keep hb (heap_alloc_new w8 _); have y0 := cell_of_row _ _ 0 _ _ _ hA; have y1 := cell_of_row _ _ 1 _ _ _ hA; have hV := keep hb (keep (below_alloc0 w8 _) VV8.out); have y2 := cell_of_row _ _ 0 _ _ _ hV; have y3 := cell_of_row _ _ 1 _ _ _ hV; have W10 := Lib.hid (below_next (W8.out.ly.bl.trans ((below_alloc0 w8 _).mono W8.out.ly.sz)) hb); clear hb hA hV))
              go_ret
              first
                | exact ⟨rfl, below_next B1.out W10.out⟩
                | exact ⟨rfl, below_next B1.out (W8.out.ly.bl.trans ((below_alloc0 w8 _).mono W8.out.ly.sz))⟩
      · -- out of range
        have HV := Lib.hid hv
        have hn0 : n < 0 ∨ 127 < n := by
          have hth := HW.out.th
          unfold inRB at hin
          rw [hth] at hin
          have h0 : ofI n = 0 := by
            apply Decidable.byContradiction; intro hc
            have : (ofI n == 0) = false := by simpa using hc
            rw [this] at hin
            simp at hin
          unfold ofI at h0
          omega
        clear hv hin hS
        by_cases hneg : n < 0
        · have d1 : decide (n < 0) = true := by simpa using hneg
          clear hn0 hneg
          go_wp2_with (go_at_call 8; refine (HW.out.slow HJ.out n HV.out).mono ?_; rintro e w4 ⟨rfl, hW4⟩; have W4 := Lib.hid hW4; clear hW4)
          go_ret
          exact ⟨rfl, B1.out.trans (W4.out.ly.bl.mono B1.out.size)⟩
        · have d1 : decide (n < 0) = false := by simpa using hneg
          have d2 : decide (127 < n) = true := by rw [decide_eq_true_eq]; omega
          clear hn0 hneg
          go_wp2_with (go_at_call 8; refine (HW.out.slow HJ.out n HV.out).mono ?_; rintro e w4 ⟨rfl, hW4⟩; have W4 := Lib.hid hW4; clear hW4)
          go_ret
          exact ⟨rfl, B1.out.trans (W4.out.ly.bl.mono B1.out.size)⟩
      · have HV := Lib.hid hv
        clear hv hin hS
        go_wp2_with (go_at_call 8; refine (HW.out.slow HJ.out n HV.out).mono ?_; rintro e w4 ⟨rfl, hW4⟩; have W4 := Lib.hid hW4; clear hW4)
        go_ret
        exact ⟨rfl, B1.out.trans (W4.out.ly.bl.mono B1.out.size)⟩
end Go.Proofs.YtjoejjhgneccgaaGreat

/- StoreKeeps' calls, opened. -/
namespace Go.Proofs.YtjoejjhgneccgaaGreat
open Go.ChangeShapes Go.WideShapes Go.ChangeAt Go.RowKit Go.Deep

theorem each_op13 {H : Type} {enc : TypeId × Value → H} {w : World} {base : Nat} {spare : Nat → Bool} {held : Bool} : EachI enc w base spare held 31 6 :=
  each_struct (m := 4) (k := 2) Tryz.underlying31 rfl (fun i hi => by
    match i, hi with
    | 0, _ => exact ⟨_, rfl, rfl, by kernel_rfl, Tryz.underlying3⟩
    | 1, _ => exact ⟨_, rfl, rfl, by kernel_rfl, Tryz.underlying3⟩
    | 2, _ => exact ⟨_, rfl, rfl, by kernel_rfl, Tryz.underlying3⟩
    | 3, _ => exact ⟨_, rfl, rfl, by kernel_rfl, Tryz.underlying3⟩) (fun _ => ⟨_, rfl, rfl, by kernel_rfl, each_val⟩)
end Go.Proofs.YtjoejjhgneccgaaGreat

/- A value that came in, opened. -/
namespace Go.Proofs.YtjoejjhgneccgaaGreat
open Go.ChangeShapes Go.WideShapes Go.ChangeAt Go.RowKit Go.Deep

section
variable {H : Type} {enc : TypeId × Value → H} {w : World} {base : Nat} {spare : Nat → Bool} {held : Bool} {r : Reach} {b0 : Nat} {v : Value} {d : DataW H} {p : List MemPlace}
set_option maxRecDepth 100000 in
theorem open_val (hv : Value.okWide Tryz.prog w r b0 24 v) (h : DataW.Trod enc Tryz.prog w base spare held 24 v d p) :
    ∃ k n : Int, v = .agg #[.int .i64 k, .int .i64 n] := by
  obtain ⟨xs, hl, rfl, -⟩ := open_ints_struct Tryz.underlying24 (by kernel_rfl) (by kernel_rfl) (fun i f hf => by
    match i, hf with
    | 0, hf => cases hf; exact Tryz.underlying3
    | 1, hf => cases hf; exact Tryz.underlying2
    | i + 2, hf => simp at hf) hv h
  match xs, hl with
  | [k, n], _ => exact ⟨k, n, rfl⟩
end
end Go.Proofs.YtjoejjhgneccgaaGreat

/- What each row of this seat leans on. -/
namespace Go.Proofs.YtjoejjhgneccgaaGreat
theorem rowOwn : ownKnob Tryz.prog.godebug = none := by kernel_rfl
theorem rowLaidOut : laidOutB Tryz.prog = true := by kernel_rfl
end Go.Proofs.YtjoejjhgneccgaaGreat
