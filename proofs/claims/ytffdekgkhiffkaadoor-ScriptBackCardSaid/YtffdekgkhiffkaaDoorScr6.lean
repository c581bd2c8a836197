/- scutageref01.Parse (printed by wip/rnum.py). -/
import Derived.Test.YtffdekgkhiffkaaDoorLin1
namespace Go.Proofs.YtffdekgkhiffkaaDoor
open Go.RowKit

theorem wrap_step (a d : Nat) : wrap64 (wrap64 (wrap64 (-(a : Int)) * 10) - d) = wrap64 (-((a * 10 + d : Nat) : Int)) := by unfold wrap64; omega
theorem wrap_zero : wrap64 (-(valA 0 [] : Int)) = 0 := by simp [valA, wrap64]
theorem wrap_neg {a : Nat} (h : a ≤ 9223372036854775808) : wrap64 (-(a : Int)) = -(a : Int) := by unfold wrap64; omega
theorem wrap_pos {a : Nat} (h : a < 9223372036854775808) : wrap64 (a : Int) = (a : Int) := by unfold wrap64; omega
theorem val_take {l : List UInt8} {j : Nat} (h : j < l.length) : valA 0 (l.take (j + 1)) = valA 0 (l.take j) * 10 + ((l.getD j 0).toNat - 48) := by
  rw [List.take_succ_eq_append_getElem h, valA_snoc, List.getD_eq_getElem?_getD, List.getElem?_eq_getElem h]; rfl
theorem getD_mem {l : List UInt8} {j : Nat} (h : j < l.length) : l.getD j 0 ∈ l := by
  rw [List.getD_eq_getElem?_getD, List.getElem?_eq_getElem h]; exact List.getElem_mem h
theorem take_dig {l : List UInt8} {j : Nat} (h : j < l.length) (hd : ∀ c ∈ l.take j, Dig c) (hc : Dig (l.getD j 0)) : ∀ c ∈ l.take (j + 1), Dig c := by
  intro c hm
  rw [List.take_succ_eq_append_getElem h] at hm
  rcases List.mem_append.1 hm with hm | hm
  · exact hd c hm
  · rw [List.mem_singleton] at hm
    subst hm
    rw [List.getD_eq_getElem?_getD, List.getElem?_eq_getElem h] at hc
    exact hc
/-- What the reference says of a text. -/
def RNum (l : List UInt8) (w : World) (e : Ending) (w' : World) : Prop := ∃ v, e = .returned (.tuple #[.int .i64 v, .bool (numT l).isSome]) ∧ (∀ n, numT l = some n → v = n) ∧ w' = w
theorem rnum_none {l : List UInt8} {w : World} {v : Int} (h : numT l = none) : RNum l w (.returned (.tuple #[.int .i64 v, .bool false])) w :=
  ⟨v, by rw [h]; rfl, (fun n hn => by rw [h] at hn; cases hn), rfl⟩
theorem rnum_some {l : List UInt8} {w : World} {v n : Int} (h : numT l = some n) (hv : v = n) : RNum l w (.returned (.tuple #[.int .i64 v, .bool true])) w :=
  ⟨v, by rw [h]; rfl, (fun m hm => by rw [h] at hm; cases hm; exact hv), rfl⟩
theorem j_up {j : Nat} (h : j ≤ 281474976710656) : wrap64 ((j : Int) + 1) = ((j + 1 : Nat) : Int) := by unfold wrap64; omega
theorem str_is (l m : List UInt8) : ((S l).toList == m) = decide (l = m) := by rw [toList_S]; by_cases h : l = m <;> simp [h]
theorem str_empty (l : List UInt8) : (S l).toList.isEmpty = decide (l = []) := by rw [toList_S]; cases l <;> simp


set_option maxHeartbeats 4000000 in
set_option maxRecDepth 100000 in
theorem rnum_neg (r : List UInt8) (hl : r.length ≤ 281474976710655) (w : World) :
    Calls Tryd.prog 27 #[.string (S (45 :: r))] w fun e w' => RNum (45 :: r) w e w' := by
  have hix : ∀ wx : World, (Instr.index 9 (.string (S (45 :: r))) (.int .i64 0)).run Tryd.prog wx = .ok (.int .u8 45) wx := fun wx => str_index (45 :: r) 0 (by simp) wx
  have hex : (S (45 :: r)).extract 1 (S (45 :: r)).size = S r := by
    apply ByteArray.ext
    simp [S, ByteArray.size]
  have hs0 : 0 < (S (45 :: r)).size := by rw [S_size]; simp
  have HDS : Hid (digsOf (45 :: r) = r) := Lib.hid rfl
  have HTP : Hid (topOf (45 :: r) = [57, 50, 50, 51, 51, 55, 50, 48, 51, 54, 56, 53, 52, 55, 55, 53, 56, 48, 56]) := Lib.hid rfl
  by_cases k1 : r = []
  · have f1 : (S (r)).toList.isEmpty = true := by rw [str_empty]; exact decide_eq_true k1
    have HN : Hid (numT (45 :: r) = none) := Lib.hid (num_fail (.inl (by rw [HDS.out, HTP.out]; exact (.inl k1))))

    clear k1
    go_enter Tryd.func27, Tryd.ntmps27
    go_wp2_with fail
    go_ret2
    exact rnum_none HN.out
  have f1 : (S (r)).toList.isEmpty = false := by rw [str_empty]; exact decide_eq_false k1
  by_cases k2 : 19 < (r).length
  · have f2 : decide (19 < ((S (r)).size : Int)) = true := by rw [S_size]; exact decide_eq_true (by omega)
    have HN : Hid (numT (45 :: r) = none) := Lib.hid (num_fail (.inl (by rw [HDS.out, HTP.out]; exact (.inr (.inl k2)))))
    clear k2
    clear k1
    go_enter Tryd.func27, Tryd.ntmps27
    go_wp2_with fail
    go_ret2
    exact rnum_none HN.out
  have f2 : decide (19 < ((S (r)).size : Int)) = false := by rw [S_size]; exact decide_eq_false (by omega)
  by_cases h1 : 1 < (r).length
  · have f3 : decide (1 < ((S (r)).size : Int)) = true := by rw [S_size]; exact decide_eq_true (by omega)
    have b5 : (45 :: r) ≠ [45, 48] := by intro h; injection h with _ h; subst h; simp at h1
    have f5 : ((S (45 :: r)).toList == [45, 48]) = false := by rw [str_is]; exact decide_eq_false b5
    have hx0 : ∀ wx : World, (Instr.index 9 (.string (S (r))) (.int .i64 0)).run Tryd.prog wx = .ok (.int .u8 (((r).getD 0 0).toNat : Int)) wx := fun wx => str_index (r) 0 (by omega) wx
    obtain ⟨c0, hc0⟩ : ∃ c0, c0 = (r).getD 0 0 := ⟨_, rfl⟩
    rw [← hc0] at hx0
    by_cases k4 : (r).getD 0 0 = 48
    · have f4 : ((c0.toNat : Int) == 48) = true := by rw [hc0, k4]; rfl
      have HN : Hid (numT (45 :: r) = none) := Lib.hid (num_fail (.inl (by rw [HDS.out, HTP.out]; exact (.inr (.inr (.inl ⟨h1, k4⟩))))))
      clear k2 k4 hc0 h1 b5
      clear k1
      go_enter Tryd.func27, Tryd.ntmps27
      go_wp2_with fail
      go_ret2
      exact rnum_none HN.out
    have f4 : ((c0.toNat : Int) == 48) = false := by
      simp; intro h; exact k4 (by rw [← hc0]; exact UInt8.toNat_inj.1 (by show c0.toNat = 48; omega))
    by_cases h19 : (r).length = 19
    · have f6 : (((S (r)).size : Int) == 19) = true := by rw [S_size, h19]; rfl
      by_cases k6 : Op.bytesLess (r) [57, 50, 50, 51, 51, 55, 50, 48, 51, 54, 56, 53, 52, 55, 55, 53, 56, 48, 56] = false ∧ (r) ≠ [57, 50, 50, 51, 51, 55, 50, 48, 51, 54, 56, 53, 52, 55, 55, 53, 56, 48, 56]
      · have f7 : (!Op.bytesLess (S (r)).toList [57, 50, 50, 51, 51, 55, 50, 48, 51, 54, 56, 53, 52, 55, 55, 53, 56, 48, 56] && !((S (r)).toList == [57, 50, 50, 51, 51, 55, 50, 48, 51, 54, 56, 53, 52, 55, 55, 53, 56, 48, 56])) = true := by
          rw [str_is, toList_S, k6.1, decide_eq_false k6.2]; rfl
        have HN : Hid (numT (45 :: r) = none) := Lib.hid (num_fail (.inl (by rw [HDS.out, HTP.out]; exact (.inr (.inr (.inr (.inl ⟨h19, k6.1, k6.2⟩)))))))
        clear k2 k4 hc0 h1 h19 k6 b5
        clear k1
        go_enter Tryd.func27, Tryd.ntmps27
        go_wp2_with fail
        go_ret2
        exact rnum_none HN.out
      have f7 : (!Op.bytesLess (S (r)).toList [57, 50, 50, 51, 51, 55, 50, 48, 51, 54, 56, 53, 52, 55, 55, 53, 56, 48, 56] && !((S (r)).toList == [57, 50, 50, 51, 51, 55, 50, 48, 51, 54, 56, 53, 52, 55, 55, 53, 56, 48, 56])) = false := by
        rw [str_is, toList_S]
        cases hb : Op.bytesLess (r) [57, 50, 50, 51, 51, 55, 50, 48, 51, 54, 56, 53, 52, 55, 55, 53, 56, 48, 56] with
        | true => rfl
        | false => rw [decide_eq_true (Decidable.not_not.1 fun h => k6 ⟨hb, h⟩)]; rfl
      have HB : Hid (¬ Bad1 (45 :: r) (r) [57, 50, 50, 51, 51, 55, 50, 48, 51, 54, 56, 53, 52, 55, 55, 53, 56, 48, 56]) := Lib.hid (by
        unfold Bad1
        rintro (h | h | h | h | h)
        · exact k1 h
        · exact k2 h
        · exact k4 h.2
        · exact k6 h.2
        · exact b5 h)
      clear k1 k2 k4 hc0 h1 h19 k6 b5
      go_enter Tryd.func27, Tryd.ntmps27
      go_wp2_with fail
      go_loopw [6, 7] (fun n i wr => ∃ j : Nat, j ≤ (r).length ∧ i = .int .i64 j ∧ n = .int .i64 (wrap64 (-(valA 0 ((r).take j) : Int))) ∧ Hid (∀ c ∈ (r).take j, Dig c) ∧ wr = w) (fun _ i _ => (r).length - (intOf i).toNat)
      case atStart => exact ⟨0, Nat.zero_le _, rfl, by rw [List.take_zero, wrap_zero], Lib.hid (by simp), rfl⟩
      case round =>
        obtain ⟨j, hj, rfl, rfl, HD, rfl⟩ := hrel
        by_cases hlt : j < (r).length
        · have d1 : decide ((j : Int) < ((S (r)).size : Int)) = true := by rw [S_size]; exact decide_eq_true (by omega)
          have dx : ∀ wx : World, (Instr.index 9 (.string (S (r))) (.int .i64 (j : Int))).run Tryd.prog wx = .ok (.int .u8 (((r).getD j 0).toNat : Int)) wx := fun wx => str_index (r) j hlt wx
          have hw : wrap64 ((j : Int) + 1) = ((j + 1 : Nat) : Int) := j_up (by omega)
          have HT := Lib.hid (val_take hlt)
          have HM := Lib.hid (getD_mem hlt)
          have HG := Lib.hid (fun h => take_dig hlt HD.out h)
          have HL := Lib.hid hlt
          generalize (r).getD j 0 = c at *
          have hb := c.toNat_lt
          have HC : Hid (Dig c ↔ 48 ≤ c.toNat ∧ c.toNat ≤ 57) := Lib.hid Iff.rfl
          obtain ⟨q, hq⟩ : ∃ q : Nat, q = c.toNat := ⟨_, rfl⟩
          rw [← hq] at dx hb HT HC
          by_cases h48 : q < 48
          · have e1 : decide ((q : Int) < 48) = true := decide_eq_true (by omega)
            have HN : Hid (numT (45 :: r) = none) := Lib.hid (num_fail (.inr ⟨c, by rw [HDS.out]; exact HM.out, fun h => by have := HC.out.1 h; omega⟩))
            clear hlt hj hq hb h48
            go_wp2_with fail
            go_ret2
            exact rnum_none HN.out
          · have e1 : decide ((q : Int) < 48) = false := decide_eq_false (by omega)
            by_cases h57 : 57 < q
            · have e2 : decide (57 < (q : Int)) = true := decide_eq_true (by omega)
              have HN : Hid (numT (45 :: r) = none) := Lib.hid (num_fail (.inr ⟨c, by rw [HDS.out]; exact HM.out, fun h => by have := HC.out.1 h; omega⟩))
              clear hlt hj hq hb h48 h57
              go_wp2_with fail
              go_ret2
              exact rnum_none HN.out
            · have e2 : decide (57 < (q : Int)) = false := decide_eq_false (by omega)
              have HD2 := Lib.hid (HG.out (HC.out.2 ⟨by omega, by omega⟩))
              have HE : Hid (wrap64 (wrap64 (wrap64 (-(valA 0 ((r).take j) : Int)) * 10) - ((q - 48 : Nat) : Int)) = wrap64 (-(valA 0 ((r).take (j + 1)) : Int))) := Lib.hid (by rw [HT.out]; exact wrap_step _ _)
              have HQ : Hid ((q : Int) - 48 = ((q - 48 : Nat) : Int)) := Lib.hid (by omega)
              have h9 : ((q : Int) - 48) % 256 = ((q - 48 : Nat) : Int) := by omega
              have h10 : wrap64 ((q - 48 : Nat) : Int) = ((q - 48 : Nat) : Int) := by unfold wrap64; omega
              clear hlt hj hq hb h48 h57
              generalize wrap64 (-(valA 0 ((r).take j) : Int)) = n at *
              go_wp2_with fail
              refine ⟨⟨j + 1, HL.out, ?_, ?_, HD2, trivial⟩, ?_⟩
              · rw [hw]
              · rw [HQ.out, HE.out]
              · have := HL.out
                rw [hw]
                show (r).length - ((j + 1 : Nat) : Int).toNat < (r).length - (j : Int).toNat
                omega
        · have d1 : decide ((j : Int) < ((S (r)).size : Int)) = false := by rw [S_size]; exact decide_eq_false (by omega)
          obtain rfl : j = (r).length := by omega
          have hD := HD.out
          rw [List.take_length] at hD ⊢
          obtain ⟨hle, hnum⟩ := num_pass (l := 45 :: r) (by rw [HDS.out, HTP.out]; exact HB.out) (by rw [HDS.out]; exact hD)
          rw [HDS.out] at hle hnum
          rw [if_pos ⟨rfl, by simp⟩] at hnum
          have HN := Lib.hid hnum
          rw [wrap_neg hle]
          generalize -(valA 0 r : Int) = v at *
          clear hle hnum hj hD
          go_wp2_with fail
          go_ret2
          exact rnum_some HN.out rfl
    · have f6 : (((S (r)).size : Int) == 19) = false := by rw [S_size]; simp; omega
      have HB : Hid (¬ Bad1 (45 :: r) (r) [57, 50, 50, 51, 51, 55, 50, 48, 51, 54, 56, 53, 52, 55, 55, 53, 56, 48, 56]) := Lib.hid (by
        unfold Bad1
        rintro (h | h | h | h | h)
        · exact k1 h
        · exact k2 h
        · exact k4 h.2
        · exact h19 h.1
        · exact b5 h)
      clear k1 k2 k4 hc0 h1 h19 b5
      go_enter Tryd.func27, Tryd.ntmps27
      go_wp2_with fail
      go_loopw [6, 7] (fun n i wr => ∃ j : Nat, j ≤ (r).length ∧ i = .int .i64 j ∧ n = .int .i64 (wrap64 (-(valA 0 ((r).take j) : Int))) ∧ Hid (∀ c ∈ (r).take j, Dig c) ∧ wr = w) (fun _ i _ => (r).length - (intOf i).toNat)
      case atStart => exact ⟨0, Nat.zero_le _, rfl, by rw [List.take_zero, wrap_zero], Lib.hid (by simp), rfl⟩
      case round =>
        obtain ⟨j, hj, rfl, rfl, HD, rfl⟩ := hrel
        by_cases hlt : j < (r).length
        · have d1 : decide ((j : Int) < ((S (r)).size : Int)) = true := by rw [S_size]; exact decide_eq_true (by omega)
          have dx : ∀ wx : World, (Instr.index 9 (.string (S (r))) (.int .i64 (j : Int))).run Tryd.prog wx = .ok (.int .u8 (((r).getD j 0).toNat : Int)) wx := fun wx => str_index (r) j hlt wx
          have hw : wrap64 ((j : Int) + 1) = ((j + 1 : Nat) : Int) := j_up (by omega)
          have HT := Lib.hid (val_take hlt)
          have HM := Lib.hid (getD_mem hlt)
          have HG := Lib.hid (fun h => take_dig hlt HD.out h)
          have HL := Lib.hid hlt
          generalize (r).getD j 0 = c at *
          have hb := c.toNat_lt
          have HC : Hid (Dig c ↔ 48 ≤ c.toNat ∧ c.toNat ≤ 57) := Lib.hid Iff.rfl
          obtain ⟨q, hq⟩ : ∃ q : Nat, q = c.toNat := ⟨_, rfl⟩
          rw [← hq] at dx hb HT HC
          by_cases h48 : q < 48
          · have e1 : decide ((q : Int) < 48) = true := decide_eq_true (by omega)
            have HN : Hid (numT (45 :: r) = none) := Lib.hid (num_fail (.inr ⟨c, by rw [HDS.out]; exact HM.out, fun h => by have := HC.out.1 h; omega⟩))
            clear hlt hj hq hb h48
            go_wp2_with fail
            go_ret2
            exact rnum_none HN.out
          · have e1 : decide ((q : Int) < 48) = false := decide_eq_false (by omega)
            by_cases h57 : 57 < q
            · have e2 : decide (57 < (q : Int)) = true := decide_eq_true (by omega)
              have HN : Hid (numT (45 :: r) = none) := Lib.hid (num_fail (.inr ⟨c, by rw [HDS.out]; exact HM.out, fun h => by have := HC.out.1 h; omega⟩))
              clear hlt hj hq hb h48 h57
              go_wp2_with fail
              go_ret2
              exact rnum_none HN.out
            · have e2 : decide (57 < (q : Int)) = false := decide_eq_false (by omega)
              have HD2 := Lib.hid (HG.out (HC.out.2 ⟨by omega, by omega⟩))
              have HE : Hid (wrap64 (wrap64 (wrap64 (-(valA 0 ((r).take j) : Int)) * 10) - ((q - 48 : Nat) : Int)) = wrap64 (-(valA 0 ((r).take (j + 1)) : Int))) := Lib.hid (by rw [HT.out]; exact wrap_step _ _)
              have HQ : Hid ((q : Int) - 48 = ((q - 48 : Nat) : Int)) := Lib.hid (by omega)
              have h9 : ((q : Int) - 48) % 256 = ((q - 48 : Nat) : Int) := by omega
              have h10 : wrap64 ((q - 48 : Nat) : Int) = ((q - 48 : Nat) : Int) := by unfold wrap64; omega
              clear hlt hj hq hb h48 h57
              generalize wrap64 (-(valA 0 ((r).take j) : Int)) = n at *
              go_wp2_with fail
              refine ⟨⟨j + 1, HL.out, ?_, ?_, HD2, trivial⟩, ?_⟩
              · rw [hw]
              · rw [HQ.out, HE.out]
              · have := HL.out
                rw [hw]
                show (r).length - ((j + 1 : Nat) : Int).toNat < (r).length - (j : Int).toNat
                omega
        · have d1 : decide ((j : Int) < ((S (r)).size : Int)) = false := by rw [S_size]; exact decide_eq_false (by omega)
          obtain rfl : j = (r).length := by omega
          have hD := HD.out
          rw [List.take_length] at hD ⊢
          obtain ⟨hle, hnum⟩ := num_pass (l := 45 :: r) (by rw [HDS.out, HTP.out]; exact HB.out) (by rw [HDS.out]; exact hD)
          rw [HDS.out] at hle hnum
          rw [if_pos ⟨rfl, by simp⟩] at hnum
          have HN := Lib.hid hnum
          rw [wrap_neg hle]
          generalize -(valA 0 r : Int) = v at *
          clear hle hnum hj hD
          go_wp2_with fail
          go_ret2
          exact rnum_some HN.out rfl
  · have f3 : decide (1 < ((S (r)).size : Int)) = false := by rw [S_size]; exact decide_eq_false (by omega)
    have f6 : (((S (r)).size : Int) == 19) = false := by rw [S_size]; simp; omega
    by_cases b5 : (45 :: r) = [45, 48]
    · have f5 : ((S (45 :: r)).toList == [45, 48]) = true := by rw [str_is]; exact decide_eq_true b5
      have HN : Hid (numT (45 :: r) = none) := Lib.hid (num_fail (.inl (by rw [HDS.out, HTP.out]; exact (.inr (.inr (.inr (.inr b5)))))))
      clear k2 h1 b5
      clear k1
      go_enter Tryd.func27, Tryd.ntmps27
      go_wp2_with fail
      go_ret2
      exact rnum_none HN.out
    have f5 : ((S (45 :: r)).toList == [45, 48]) = false := by rw [str_is]; exact decide_eq_false b5
    have HB : Hid (¬ Bad1 (45 :: r) (r) [57, 50, 50, 51, 51, 55, 50, 48, 51, 54, 56, 53, 52, 55, 55, 53, 56, 48, 56]) := Lib.hid (by
      unfold Bad1
      rintro (h | h | h | h | h)
      · exact k1 h
      · exact k2 h
      · exact h1 h.1
      · omega
      · exact b5 h)
    clear k1 k2 h1 b5
    go_enter Tryd.func27, Tryd.ntmps27
    go_wp2_with fail
    go_loopw [6, 7] (fun n i wr => ∃ j : Nat, j ≤ (r).length ∧ i = .int .i64 j ∧ n = .int .i64 (wrap64 (-(valA 0 ((r).take j) : Int))) ∧ Hid (∀ c ∈ (r).take j, Dig c) ∧ wr = w) (fun _ i _ => (r).length - (intOf i).toNat)
    case atStart => exact ⟨0, Nat.zero_le _, rfl, by rw [List.take_zero, wrap_zero], Lib.hid (by simp), rfl⟩
    case round =>
      obtain ⟨j, hj, rfl, rfl, HD, rfl⟩ := hrel
      by_cases hlt : j < (r).length
      · have d1 : decide ((j : Int) < ((S (r)).size : Int)) = true := by rw [S_size]; exact decide_eq_true (by omega)
        have dx : ∀ wx : World, (Instr.index 9 (.string (S (r))) (.int .i64 (j : Int))).run Tryd.prog wx = .ok (.int .u8 (((r).getD j 0).toNat : Int)) wx := fun wx => str_index (r) j hlt wx
        have hw : wrap64 ((j : Int) + 1) = ((j + 1 : Nat) : Int) := j_up (by omega)
        have HT := Lib.hid (val_take hlt)
        have HM := Lib.hid (getD_mem hlt)
        have HG := Lib.hid (fun h => take_dig hlt HD.out h)
        have HL := Lib.hid hlt
        generalize (r).getD j 0 = c at *
        have hb := c.toNat_lt
        have HC : Hid (Dig c ↔ 48 ≤ c.toNat ∧ c.toNat ≤ 57) := Lib.hid Iff.rfl
        obtain ⟨q, hq⟩ : ∃ q : Nat, q = c.toNat := ⟨_, rfl⟩
        rw [← hq] at dx hb HT HC
        by_cases h48 : q < 48
        · have e1 : decide ((q : Int) < 48) = true := decide_eq_true (by omega)
          have HN : Hid (numT (45 :: r) = none) := Lib.hid (num_fail (.inr ⟨c, by rw [HDS.out]; exact HM.out, fun h => by have := HC.out.1 h; omega⟩))
          clear hlt hj hq hb h48
          go_wp2_with fail
          go_ret2
          exact rnum_none HN.out
        · have e1 : decide ((q : Int) < 48) = false := decide_eq_false (by omega)
          by_cases h57 : 57 < q
          · have e2 : decide (57 < (q : Int)) = true := decide_eq_true (by omega)
            have HN : Hid (numT (45 :: r) = none) := Lib.hid (num_fail (.inr ⟨c, by rw [HDS.out]; exact HM.out, fun h => by have := HC.out.1 h; omega⟩))
            clear hlt hj hq hb h48 h57
            go_wp2_with fail
            go_ret2
            exact rnum_none HN.out
          · have e2 : decide (57 < (q : Int)) = false := decide_eq_false (by omega)
            have HD2 := Lib.hid (HG.out (HC.out.2 ⟨by omega, by omega⟩))
            have HE : Hid (wrap64 (wrap64 (wrap64 (-(valA 0 ((r).take j) : Int)) * 10) - ((q - 48 : Nat) : Int)) = wrap64 (-(valA 0 ((r).take (j + 1)) : Int))) := Lib.hid (by rw [HT.out]; exact wrap_step _ _)
            have HQ : Hid ((q : Int) - 48 = ((q - 48 : Nat) : Int)) := Lib.hid (by omega)
            have h9 : ((q : Int) - 48) % 256 = ((q - 48 : Nat) : Int) := by omega
            have h10 : wrap64 ((q - 48 : Nat) : Int) = ((q - 48 : Nat) : Int) := by unfold wrap64; omega
            clear hlt hj hq hb h48 h57
            generalize wrap64 (-(valA 0 ((r).take j) : Int)) = n at *
            go_wp2_with fail
            refine ⟨⟨j + 1, HL.out, ?_, ?_, HD2, trivial⟩, ?_⟩
            · rw [hw]
            · rw [HQ.out, HE.out]
            · have := HL.out
              rw [hw]
              show (r).length - ((j + 1 : Nat) : Int).toNat < (r).length - (j : Int).toNat
              omega
      · have d1 : decide ((j : Int) < ((S (r)).size : Int)) = false := by rw [S_size]; exact decide_eq_false (by omega)
        obtain rfl : j = (r).length := by omega
        have hD := HD.out
        rw [List.take_length] at hD ⊢
        obtain ⟨hle, hnum⟩ := num_pass (l := 45 :: r) (by rw [HDS.out, HTP.out]; exact HB.out) (by rw [HDS.out]; exact hD)
        rw [HDS.out] at hle hnum
        rw [if_pos ⟨rfl, by simp⟩] at hnum
        have HN := Lib.hid hnum
        rw [wrap_neg hle]
        generalize -(valA 0 r : Int) = v at *
        clear hle hnum hj hD
        go_wp2_with fail
        go_ret2
        exact rnum_some HN.out rfl


set_option maxHeartbeats 4000000 in
set_option maxRecDepth 100000 in
theorem rnum_pos (l : List UInt8) (hng : ¬ (l.getD 0 0 = 45 ∧ 0 < l.length)) (hl : l.length ≤ 281474976710655) (w : World) :
    Calls Tryd.prog 27 #[.string (S l)] w fun e w' => RNum l w e w' := by
  have HDS : Hid (digsOf l = l) := Lib.hid (if_neg hng)
  have HTP : Hid (topOf l = [57, 50, 50, 51, 51, 55, 50, 48, 51, 54, 56, 53, 52, 55, 55, 53, 56, 48, 55]) := Lib.hid (if_neg hng)
  have HNG := Lib.hid hng
  by_cases hne : l = []
  · have HN : Hid (numT l = none) := Lib.hid (num_fail (.inl (by rw [HDS.out, HTP.out]; exact .inl hne)))
    subst hne
    clear hng
    have z1 : (S []).toList.isEmpty = true := by rw [str_empty]; rfl
    have z2 : (S []).size = 0 := rfl
    go_enter Tryd.func27, Tryd.ntmps27
    go_wp2_with fail
    go_ret2
    exact rnum_none HN.out
  have hp : 0 < l.length := List.length_pos_iff.2 hne
  have hs0 : 0 < (S l).size := by rw [S_size]; exact hp
  have hix : ∀ wx : World, (Instr.index 9 (.string (S l)) (.int .i64 0)).run Tryd.prog wx = .ok (.int .u8 ((l.getD 0 0).toNat : Int)) wx := fun wx => str_index l 0 hp wx
  have f0 : (((l.getD 0 0).toNat : Int) == 45) = false := by
    simp only [beq_eq_false_iff_ne, ne_eq]; intro h; exact hng ⟨UInt8.toNat_inj.1 (by show (l.getD 0 0).toNat = 45; omega), hp⟩
  obtain ⟨c0, hcx⟩ : ∃ c0, c0 = l.getD 0 0 := ⟨_, rfl⟩
  rw [← hcx] at hix f0
  have HC0 := Lib.hid hcx
  clear hcx hng hne hp
  by_cases k1 : l = []
  · have f1 : (S (l)).toList.isEmpty = true := by rw [str_empty]; exact decide_eq_true k1
    have HN : Hid (numT (l) = none) := Lib.hid (num_fail (.inl (by rw [HDS.out, HTP.out]; exact (.inl k1))))

    clear k1
    go_enter Tryd.func27, Tryd.ntmps27
    go_wp2_with fail
    go_ret2
    exact rnum_none HN.out
  have f1 : (S (l)).toList.isEmpty = false := by rw [str_empty]; exact decide_eq_false k1
  by_cases k2 : 19 < (l).length
  · have f2 : decide (19 < ((S (l)).size : Int)) = true := by rw [S_size]; exact decide_eq_true (by omega)
    have HN : Hid (numT (l) = none) := Lib.hid (num_fail (.inl (by rw [HDS.out, HTP.out]; exact (.inr (.inl k2)))))
    clear k2
    clear k1
    go_enter Tryd.func27, Tryd.ntmps27
    go_wp2_with fail
    go_ret2
    exact rnum_none HN.out
  have f2 : decide (19 < ((S (l)).size : Int)) = false := by rw [S_size]; exact decide_eq_false (by omega)
  by_cases h1 : 1 < (l).length
  · have f3 : decide (1 < ((S (l)).size : Int)) = true := by rw [S_size]; exact decide_eq_true (by omega)
    have b5 : (l) ≠ [45, 48] := by intro h; subst h; exact HNG.out (by decide)
    have f5 : ((S (l)).toList == [45, 48]) = false := by rw [str_is]; exact decide_eq_false b5
    have hc0 := HC0.out
    by_cases k4 : (l).getD 0 0 = 48
    · have f4 : ((c0.toNat : Int) == 48) = true := by rw [hc0, k4]; rfl
      have HN : Hid (numT (l) = none) := Lib.hid (num_fail (.inl (by rw [HDS.out, HTP.out]; exact (.inr (.inr (.inl ⟨h1, k4⟩))))))
      clear k2 k4 hc0 h1 b5
      clear k1
      go_enter Tryd.func27, Tryd.ntmps27
      go_wp2_with fail
      go_ret2
      exact rnum_none HN.out
    have f4 : ((c0.toNat : Int) == 48) = false := by
      simp; intro h; exact k4 (by rw [← hc0]; exact UInt8.toNat_inj.1 (by show c0.toNat = 48; omega))
    by_cases h19 : (l).length = 19
    · have f6 : (((S (l)).size : Int) == 19) = true := by rw [S_size, h19]; rfl
      by_cases k6 : Op.bytesLess (l) [57, 50, 50, 51, 51, 55, 50, 48, 51, 54, 56, 53, 52, 55, 55, 53, 56, 48, 55] = false ∧ (l) ≠ [57, 50, 50, 51, 51, 55, 50, 48, 51, 54, 56, 53, 52, 55, 55, 53, 56, 48, 55]
      · have f7 : (!Op.bytesLess (S (l)).toList [57, 50, 50, 51, 51, 55, 50, 48, 51, 54, 56, 53, 52, 55, 55, 53, 56, 48, 55] && !((S (l)).toList == [57, 50, 50, 51, 51, 55, 50, 48, 51, 54, 56, 53, 52, 55, 55, 53, 56, 48, 55])) = true := by
          rw [str_is, toList_S, k6.1, decide_eq_false k6.2]; rfl
        have HN : Hid (numT (l) = none) := Lib.hid (num_fail (.inl (by rw [HDS.out, HTP.out]; exact (.inr (.inr (.inr (.inl ⟨h19, k6.1, k6.2⟩)))))))
        clear k2 k4 hc0 h1 h19 k6 b5
        clear k1
        go_enter Tryd.func27, Tryd.ntmps27
        go_wp2_with fail
        go_ret2
        exact rnum_none HN.out
      have f7 : (!Op.bytesLess (S (l)).toList [57, 50, 50, 51, 51, 55, 50, 48, 51, 54, 56, 53, 52, 55, 55, 53, 56, 48, 55] && !((S (l)).toList == [57, 50, 50, 51, 51, 55, 50, 48, 51, 54, 56, 53, 52, 55, 55, 53, 56, 48, 55])) = false := by
        rw [str_is, toList_S]
        cases hb : Op.bytesLess (l) [57, 50, 50, 51, 51, 55, 50, 48, 51, 54, 56, 53, 52, 55, 55, 53, 56, 48, 55] with
        | true => rfl
        | false => rw [decide_eq_true (Decidable.not_not.1 fun h => k6 ⟨hb, h⟩)]; rfl
      have HB : Hid (¬ Bad1 (l) (l) [57, 50, 50, 51, 51, 55, 50, 48, 51, 54, 56, 53, 52, 55, 55, 53, 56, 48, 55]) := Lib.hid (by
        unfold Bad1
        rintro (h | h | h | h | h)
        · exact k1 h
        · exact k2 h
        · exact k4 h.2
        · exact k6 h.2
        · exact b5 h)
      clear k1 k2 k4 hc0 h1 h19 k6 b5
      go_enter Tryd.func27, Tryd.ntmps27
      go_wp2_with fail
      go_loopw [6, 7] (fun n i wr => ∃ j : Nat, j ≤ (l).length ∧ i = .int .i64 j ∧ n = .int .i64 (wrap64 (-(valA 0 ((l).take j) : Int))) ∧ Hid (∀ c ∈ (l).take j, Dig c) ∧ wr = w) (fun _ i _ => (l).length - (intOf i).toNat)
      case atStart => exact ⟨0, Nat.zero_le _, rfl, by rw [List.take_zero, wrap_zero], Lib.hid (by simp), rfl⟩
      case round =>
        obtain ⟨j, hj, rfl, rfl, HD, rfl⟩ := hrel
        by_cases hlt : j < (l).length
        · have d1 : decide ((j : Int) < ((S (l)).size : Int)) = true := by rw [S_size]; exact decide_eq_true (by omega)
          have dx : ∀ wx : World, (Instr.index 9 (.string (S (l))) (.int .i64 (j : Int))).run Tryd.prog wx = .ok (.int .u8 (((l).getD j 0).toNat : Int)) wx := fun wx => str_index (l) j hlt wx
          have hw : wrap64 ((j : Int) + 1) = ((j + 1 : Nat) : Int) := j_up (by omega)
          have HT := Lib.hid (val_take hlt)
          have HM := Lib.hid (getD_mem hlt)
          have HG := Lib.hid (fun h => take_dig hlt HD.out h)
          have HL := Lib.hid hlt
          generalize (l).getD j 0 = c at *
          have hb := c.toNat_lt
          have HC : Hid (Dig c ↔ 48 ≤ c.toNat ∧ c.toNat ≤ 57) := Lib.hid Iff.rfl
          obtain ⟨q, hq⟩ : ∃ q : Nat, q = c.toNat := ⟨_, rfl⟩
          rw [← hq] at dx hb HT HC
          by_cases h48 : q < 48
          · have e1 : decide ((q : Int) < 48) = true := decide_eq_true (by omega)
            have HN : Hid (numT (l) = none) := Lib.hid (num_fail (.inr ⟨c, by rw [HDS.out]; exact HM.out, fun h => by have := HC.out.1 h; omega⟩))
            clear hlt hj hq hb h48
            go_wp2_with fail
            go_ret2
            exact rnum_none HN.out
          · have e1 : decide ((q : Int) < 48) = false := decide_eq_false (by omega)
            by_cases h57 : 57 < q
            · have e2 : decide (57 < (q : Int)) = true := decide_eq_true (by omega)
              have HN : Hid (numT (l) = none) := Lib.hid (num_fail (.inr ⟨c, by rw [HDS.out]; exact HM.out, fun h => by have := HC.out.1 h; omega⟩))
              clear hlt hj hq hb h48 h57
              go_wp2_with fail
              go_ret2
              exact rnum_none HN.out
            · have e2 : decide (57 < (q : Int)) = false := decide_eq_false (by omega)
              have HD2 := Lib.hid (HG.out (HC.out.2 ⟨by omega, by omega⟩))
              have HE : Hid (wrap64 (wrap64 (wrap64 (-(valA 0 ((l).take j) : Int)) * 10) - ((q - 48 : Nat) : Int)) = wrap64 (-(valA 0 ((l).take (j + 1)) : Int))) := Lib.hid (by rw [HT.out]; exact wrap_step _ _)
              have HQ : Hid ((q : Int) - 48 = ((q - 48 : Nat) : Int)) := Lib.hid (by omega)
              have h9 : ((q : Int) - 48) % 256 = ((q - 48 : Nat) : Int) := by omega
              have h10 : wrap64 ((q - 48 : Nat) : Int) = ((q - 48 : Nat) : Int) := by unfold wrap64; omega
              clear hlt hj hq hb h48 h57
              generalize wrap64 (-(valA 0 ((l).take j) : Int)) = n at *
              go_wp2_with fail
              refine ⟨⟨j + 1, HL.out, ?_, ?_, HD2, trivial⟩, ?_⟩
              · rw [hw]
              · rw [HQ.out, HE.out]
              · have := HL.out
                rw [hw]
                show (l).length - ((j + 1 : Nat) : Int).toNat < (l).length - (j : Int).toNat
                omega
        · have d1 : decide ((j : Int) < ((S (l)).size : Int)) = false := by rw [S_size]; exact decide_eq_false (by omega)
          obtain rfl : j = (l).length := by omega
          have hD := HD.out
          rw [List.take_length] at hD ⊢
          obtain ⟨hle, hnum⟩ := num_pass (l := l) (by rw [HDS.out, HTP.out]; exact HB.out) (by rw [HDS.out]; exact hD)
          rw [HDS.out] at hle hnum
          rw [if_neg HNG.out] at hnum
          have HN := Lib.hid hnum
          rw [wrap_neg hle]
          have hlt : valA 0 l < 9223372036854775808 := (numT_some hnum).2.2 |> fun h => by omega
          have u1 := wrap_pos hlt
          generalize (valA 0 l : Int) = v at *
          have U1 := Lib.hid u1
          clear u1
          clear hle hnum hj hD
          go_wp2_with fail
          go_ret2
          exact rnum_some HN.out U1.out
    · have f6 : (((S (l)).size : Int) == 19) = false := by rw [S_size]; simp; omega
      have HB : Hid (¬ Bad1 (l) (l) [57, 50, 50, 51, 51, 55, 50, 48, 51, 54, 56, 53, 52, 55, 55, 53, 56, 48, 55]) := Lib.hid (by
        unfold Bad1
        rintro (h | h | h | h | h)
        · exact k1 h
        · exact k2 h
        · exact k4 h.2
        · exact h19 h.1
        · exact b5 h)
      clear k1 k2 k4 hc0 h1 h19 b5
      go_enter Tryd.func27, Tryd.ntmps27
      go_wp2_with fail
      go_loopw [6, 7] (fun n i wr => ∃ j : Nat, j ≤ (l).length ∧ i = .int .i64 j ∧ n = .int .i64 (wrap64 (-(valA 0 ((l).take j) : Int))) ∧ Hid (∀ c ∈ (l).take j, Dig c) ∧ wr = w) (fun _ i _ => (l).length - (intOf i).toNat)
      case atStart => exact ⟨0, Nat.zero_le _, rfl, by rw [List.take_zero, wrap_zero], Lib.hid (by simp), rfl⟩
      case round =>
        obtain ⟨j, hj, rfl, rfl, HD, rfl⟩ := hrel
        by_cases hlt : j < (l).length
        · have d1 : decide ((j : Int) < ((S (l)).size : Int)) = true := by rw [S_size]; exact decide_eq_true (by omega)
          have dx : ∀ wx : World, (Instr.index 9 (.string (S (l))) (.int .i64 (j : Int))).run Tryd.prog wx = .ok (.int .u8 (((l).getD j 0).toNat : Int)) wx := fun wx => str_index (l) j hlt wx
          have hw : wrap64 ((j : Int) + 1) = ((j + 1 : Nat) : Int) := j_up (by omega)
          have HT := Lib.hid (val_take hlt)
          have HM := Lib.hid (getD_mem hlt)
          have HG := Lib.hid (fun h => take_dig hlt HD.out h)
          have HL := Lib.hid hlt
          generalize (l).getD j 0 = c at *
          have hb := c.toNat_lt
          have HC : Hid (Dig c ↔ 48 ≤ c.toNat ∧ c.toNat ≤ 57) := Lib.hid Iff.rfl
          obtain ⟨q, hq⟩ : ∃ q : Nat, q = c.toNat := ⟨_, rfl⟩
          rw [← hq] at dx hb HT HC
          by_cases h48 : q < 48
          · have e1 : decide ((q : Int) < 48) = true := decide_eq_true (by omega)
            have HN : Hid (numT (l) = none) := Lib.hid (num_fail (.inr ⟨c, by rw [HDS.out]; exact HM.out, fun h => by have := HC.out.1 h; omega⟩))
            clear hlt hj hq hb h48
            go_wp2_with fail
            go_ret2
            exact rnum_none HN.out
          · have e1 : decide ((q : Int) < 48) = false := decide_eq_false (by omega)
            by_cases h57 : 57 < q
            · have e2 : decide (57 < (q : Int)) = true := decide_eq_true (by omega)
              have HN : Hid (numT (l) = none) := Lib.hid (num_fail (.inr ⟨c, by rw [HDS.out]; exact HM.out, fun h => by have := HC.out.1 h; omega⟩))
              clear hlt hj hq hb h48 h57
              go_wp2_with fail
              go_ret2
              exact rnum_none HN.out
            · have e2 : decide (57 < (q : Int)) = false := decide_eq_false (by omega)
              have HD2 := Lib.hid (HG.out (HC.out.2 ⟨by omega, by omega⟩))
              have HE : Hid (wrap64 (wrap64 (wrap64 (-(valA 0 ((l).take j) : Int)) * 10) - ((q - 48 : Nat) : Int)) = wrap64 (-(valA 0 ((l).take (j + 1)) : Int))) := Lib.hid (by rw [HT.out]; exact wrap_step _ _)
              have HQ : Hid ((q : Int) - 48 = ((q - 48 : Nat) : Int)) := Lib.hid (by omega)
              have h9 : ((q : Int) - 48) % 256 = ((q - 48 : Nat) : Int) := by omega
              have h10 : wrap64 ((q - 48 : Nat) : Int) = ((q - 48 : Nat) : Int) := by unfold wrap64; omega
              clear hlt hj hq hb h48 h57
              generalize wrap64 (-(valA 0 ((l).take j) : Int)) = n at *
              go_wp2_with fail
              refine ⟨⟨j + 1, HL.out, ?_, ?_, HD2, trivial⟩, ?_⟩
              · rw [hw]
              · rw [HQ.out, HE.out]
              · have := HL.out
                rw [hw]
                show (l).length - ((j + 1 : Nat) : Int).toNat < (l).length - (j : Int).toNat
                omega
        · have d1 : decide ((j : Int) < ((S (l)).size : Int)) = false := by rw [S_size]; exact decide_eq_false (by omega)
          obtain rfl : j = (l).length := by omega
          have hD := HD.out
          rw [List.take_length] at hD ⊢
          obtain ⟨hle, hnum⟩ := num_pass (l := l) (by rw [HDS.out, HTP.out]; exact HB.out) (by rw [HDS.out]; exact hD)
          rw [HDS.out] at hle hnum
          rw [if_neg HNG.out] at hnum
          have HN := Lib.hid hnum
          rw [wrap_neg hle]
          have hlt : valA 0 l < 9223372036854775808 := (numT_some hnum).2.2 |> fun h => by omega
          have u1 := wrap_pos hlt
          generalize (valA 0 l : Int) = v at *
          have U1 := Lib.hid u1
          clear u1
          clear hle hnum hj hD
          go_wp2_with fail
          go_ret2
          exact rnum_some HN.out U1.out
  · have f3 : decide (1 < ((S (l)).size : Int)) = false := by rw [S_size]; exact decide_eq_false (by omega)
    have f6 : (((S (l)).size : Int) == 19) = false := by rw [S_size]; simp; omega
    by_cases b5 : (l) = [45, 48]
    · exact absurd b5 (by intro h; subst h; exact HNG.out (by decide))
    have f5 : ((S (l)).toList == [45, 48]) = false := by rw [str_is]; exact decide_eq_false b5
    have HB : Hid (¬ Bad1 (l) (l) [57, 50, 50, 51, 51, 55, 50, 48, 51, 54, 56, 53, 52, 55, 55, 53, 56, 48, 55]) := Lib.hid (by
      unfold Bad1
      rintro (h | h | h | h | h)
      · exact k1 h
      · exact k2 h
      · exact h1 h.1
      · omega
      · exact b5 h)
    clear k1 k2 h1 b5
    go_enter Tryd.func27, Tryd.ntmps27
    go_wp2_with fail
    go_loopw [6, 7] (fun n i wr => ∃ j : Nat, j ≤ (l).length ∧ i = .int .i64 j ∧ n = .int .i64 (wrap64 (-(valA 0 ((l).take j) : Int))) ∧ Hid (∀ c ∈ (l).take j, Dig c) ∧ wr = w) (fun _ i _ => (l).length - (intOf i).toNat)
    case atStart => exact ⟨0, Nat.zero_le _, rfl, by rw [List.take_zero, wrap_zero], Lib.hid (by simp), rfl⟩
    case round =>
      obtain ⟨j, hj, rfl, rfl, HD, rfl⟩ := hrel
      by_cases hlt : j < (l).length
      · have d1 : decide ((j : Int) < ((S (l)).size : Int)) = true := by rw [S_size]; exact decide_eq_true (by omega)
        have dx : ∀ wx : World, (Instr.index 9 (.string (S (l))) (.int .i64 (j : Int))).run Tryd.prog wx = .ok (.int .u8 (((l).getD j 0).toNat : Int)) wx := fun wx => str_index (l) j hlt wx
        have hw : wrap64 ((j : Int) + 1) = ((j + 1 : Nat) : Int) := j_up (by omega)
        have HT := Lib.hid (val_take hlt)
        have HM := Lib.hid (getD_mem hlt)
        have HG := Lib.hid (fun h => take_dig hlt HD.out h)
        have HL := Lib.hid hlt
        generalize (l).getD j 0 = c at *
        have hb := c.toNat_lt
        have HC : Hid (Dig c ↔ 48 ≤ c.toNat ∧ c.toNat ≤ 57) := Lib.hid Iff.rfl
        obtain ⟨q, hq⟩ : ∃ q : Nat, q = c.toNat := ⟨_, rfl⟩
        rw [← hq] at dx hb HT HC
        by_cases h48 : q < 48
        · have e1 : decide ((q : Int) < 48) = true := decide_eq_true (by omega)
          have HN : Hid (numT (l) = none) := Lib.hid (num_fail (.inr ⟨c, by rw [HDS.out]; exact HM.out, fun h => by have := HC.out.1 h; omega⟩))
          clear hlt hj hq hb h48
          go_wp2_with fail
          go_ret2
          exact rnum_none HN.out
        · have e1 : decide ((q : Int) < 48) = false := decide_eq_false (by omega)
          by_cases h57 : 57 < q
          · have e2 : decide (57 < (q : Int)) = true := decide_eq_true (by omega)
            have HN : Hid (numT (l) = none) := Lib.hid (num_fail (.inr ⟨c, by rw [HDS.out]; exact HM.out, fun h => by have := HC.out.1 h; omega⟩))
            clear hlt hj hq hb h48 h57
            go_wp2_with fail
            go_ret2
            exact rnum_none HN.out
          · have e2 : decide (57 < (q : Int)) = false := decide_eq_false (by omega)
            have HD2 := Lib.hid (HG.out (HC.out.2 ⟨by omega, by omega⟩))
            have HE : Hid (wrap64 (wrap64 (wrap64 (-(valA 0 ((l).take j) : Int)) * 10) - ((q - 48 : Nat) : Int)) = wrap64 (-(valA 0 ((l).take (j + 1)) : Int))) := Lib.hid (by rw [HT.out]; exact wrap_step _ _)
            have HQ : Hid ((q : Int) - 48 = ((q - 48 : Nat) : Int)) := Lib.hid (by omega)
            have h9 : ((q : Int) - 48) % 256 = ((q - 48 : Nat) : Int) := by omega
            have h10 : wrap64 ((q - 48 : Nat) : Int) = ((q - 48 : Nat) : Int) := by unfold wrap64; omega
            clear hlt hj hq hb h48 h57
            generalize wrap64 (-(valA 0 ((l).take j) : Int)) = n at *
            go_wp2_with fail
            refine ⟨⟨j + 1, HL.out, ?_, ?_, HD2, trivial⟩, ?_⟩
            · rw [hw]
            · rw [HQ.out, HE.out]
            · have := HL.out
              rw [hw]
              show (l).length - ((j + 1 : Nat) : Int).toNat < (l).length - (j : Int).toNat
              omega
      · have d1 : decide ((j : Int) < ((S (l)).size : Int)) = false := by rw [S_size]; exact decide_eq_false (by omega)
        obtain rfl : j = (l).length := by omega
        have hD := HD.out
        rw [List.take_length] at hD ⊢
        obtain ⟨hle, hnum⟩ := num_pass (l := l) (by rw [HDS.out, HTP.out]; exact HB.out) (by rw [HDS.out]; exact hD)
        rw [HDS.out] at hle hnum
        rw [if_neg HNG.out] at hnum
        have HN := Lib.hid hnum
        rw [wrap_neg hle]
        have hlt : valA 0 l < 9223372036854775808 := (numT_some hnum).2.2 |> fun h => by omega
        have u1 := wrap_pos hlt
        generalize (valA 0 l : Int) = v at *
        have U1 := Lib.hid u1
        clear u1
        clear hle hnum hj hD
        go_wp2_with fail
        go_ret2
        exact rnum_some HN.out U1.out
theorem rnum_any (l : List UInt8) (hl : l.length ≤ 281474976710655) (w : World) :
    Calls Tryd.prog 27 #[.string (S l)] w fun e w' => RNum l w e w' := by
  by_cases h : l.getD 0 0 = 45 ∧ 0 < l.length
  · cases l with
    | nil => exact absurd h.2 (by simp)
    | cons a r =>
      have : a = 45 := h.1
      subst this
      exact rnum_neg r (by simp at hl; omega) w
  · exact rnum_pos l h hl w

end Go.Proofs.YtffdekgkhiffkaaDoor
