/- The reference's lists of pages: Size, Count, run. -/
import Derived.Test.YtjoejjhgneccgaaGreatDoorQTN02
import Derived.Test.YtjoejjhgneccgaaGreatDoorQTN04
import Derived.Test.YtjoejjhgneccgaaGreatDoorQTN11
import Derived.Test.YtjoejjhgneccgaaGreatDoorQTN12
namespace Go.Proofs.YtjoejjhgneccgaaGreatDoor
open Go.RowKit

def cnt0 (xs : List Int) : Nat → Nat
  | 0 => 0
  | i + 1 => cnt0 xs i + (if xs.getD i 0 = 0 then 1 else 0)
theorem cnt0_le (xs : List Int) : ∀ i, cnt0 xs i ≤ i
  | 0 => Nat.le_refl _
  | i + 1 => by have := cnt0_le xs i; unfold cnt0; split <;> omega
section
variable {base : Nat} {w : World} {A : Option Addr} {n cap : Nat} {xs : List Int}
set_option maxHeartbeats 1000000 in
set_option maxRecDepth 100000 in
theorem fsize_any (h : IRow base w (.slice A n cap) xs) (hle : xs.length ≤ 64) (p : Int) :
    Calls Tryz.prog 218 #[.slice A n cap, .int .i64 p] w fun e w' => e = .returned (.int .i64 (sizeL xs p)) ∧ Below w.heap.size w w' := by
  have H := Lib.hid h
  by_cases h1 : 0 < sizeI (kindL xs p)
  · have hs := Lib.hid (show sizeL xs p = 1 by unfold sizeL; rw [if_pos h1])
    have h1' : decide (0 < sizeI (kindL xs p)) = true := by simpa using h1
    clear h hle h1
    go_enter Tryz.func218, Tryz.ntmps218
    go_wp2_with (first | (go_at_call 178; refine (fkind_any H.out _).mono ?_; rintro e w1 ⟨rfl, rfl⟩) | (go_at_call 170; refine (rsize_any _ _).mono ?_; rintro e w1 ⟨rfl, hb1⟩; have B1 := Lib.hid hb1; clear hb1))
    go_ret
    exact ⟨ret_int hs.out.symm, B1.out⟩
  have h1' : decide (0 < sizeI (kindL xs p)) = false := by simpa using h1
  by_cases h5 : kindL xs p = 5
  · have hs := show sizeL xs p = 1 + (run6 xs (p.toNat + 1) : Int) by unfold sizeL; rw [if_neg h1, if_neg (by simpa using h5)]
    have hin : 0 ≤ p := by
      apply Decidable.byContradiction; intro hc
      rw [kindL_out (.inl (by omega))] at h5; omega
    obtain ⟨i, rfl⟩ := Int.eq_ofNat_of_zero_le hin
    rw [Int.toNat_natCast] at hs
    have h5' : (kindL xs i != 5) = false := by simp [h5]
    have HS := Lib.hid hs
    have hil : i < xs.length := by
      apply Decidable.byContradiction; intro hc
      rw [kindL_out (.inr (by omega))] at h5; omega
    obtain ⟨q, hq⟩ : ∃ q, q = xs.length := ⟨_, rfl⟩
    rw [← hq] at hil hle
    have HN := Lib.hid hq
    clear h hs hin h5 hq h1
    go_enter Tryz.func218, Tryz.ntmps218
    go_wp2_with (first | (go_at_call 178; refine (fkind_any H.out _).mono ?_; rintro e w1 ⟨rfl, rfl⟩) | (go_at_call 170; refine (rsize_any _ _).mono ?_; rintro e w1 ⟨rfl, hb1⟩; have B1 := Lib.hid hb1; have H1 := Lib.hid (H.out.below hb1); clear hb1))
    go_loop [6] (fun a => ∃ m : Nat, 1 ≤ m ∧ i + m ≤ q ∧ a = .int .i64 m ∧ Hid (1 + run6 xs (i + 1) = m + run6 xs (i + m))) (fun a => q - (intOf a).toNat)
    case atStart => exact ⟨1, Nat.le_refl _, hil, rfl, Lib.hid rfl⟩
    case round =>
      obtain ⟨m, hm, hml, rfl, HR⟩ := hrel
      have e1 : ((i : Int) + (m : Int)) = ((i + m : Nat) : Int) := by omega
      by_cases h6 : kindL xs ((i + m : Nat) : Int) = 6
      · have hlt : i + m < q := by
          apply Decidable.byContradiction; intro hc
          rw [kindL_out (.inr (by rw [← HN.out]; omega))] at h6; omega
        have h6' : (kindL xs ((i : Int) + (m : Int)) == 6) = true := by rw [e1]; exact beq_iff_eq.2 h6
        have HR' := Lib.hid (show 1 + run6 xs (i + 1) = (m + 1) + run6 xs (i + (m + 1)) by rw [HR.out, run6_step h6, ← Nat.add_assoc i m 1]; omega)
        clear h6 HR e1
        go_wp2_with (go_at_call 178; refine (fkind_any H1.out _).mono ?_; rintro e w2 ⟨rfl, rfl⟩)
        go_round
        case rel => exact ⟨m + 1, by omega, by omega, by go_num, HR'⟩
        case measure => simp [intOf]; omega
      · have h6' : (kindL xs ((i : Int) + (m : Int)) == 6) = false := by rw [e1]; exact beq_eq_false_iff_ne.2 h6
        have HR' := Lib.hid (show sizeL xs i = m by rw [HS.out]; have := HR.out; rw [run6_stop h6] at this; omega)
        clear h6 HR e1
        go_wp2_with (go_at_call 178; refine (fkind_any H1.out _).mono ?_; rintro e w2 ⟨rfl, rfl⟩)
        go_ret
        exact ⟨ret_int HR'.out.symm, B1.out⟩
  · have hs := Lib.hid (show sizeL xs p = 0 by unfold sizeL; rw [if_neg h1, if_pos (by simpa using h5)])
    have h5' : (kindL xs p != 5) = true := by simpa using h5
    clear h hle h5 h1
    go_enter Tryz.func218, Tryz.ntmps218
    go_wp2_with (first | (go_at_call 178; refine (fkind_any H.out _).mono ?_; rintro e w1 ⟨rfl, rfl⟩) | (go_at_call 170; refine (rsize_any _ _).mono ?_; rintro e w1 ⟨rfl, hb1⟩; have B1 := Lib.hid hb1; clear hb1))
    go_ret
    exact ⟨ret_int hs.out.symm, B1.out⟩
end
end Go.Proofs.YtjoejjhgneccgaaGreatDoor

/- The reference's lists of pages: Set, Span. -/
namespace Go.Proofs.YtjoejjhgneccgaaGreatDoor
open Go.RowKit

def setAt (xs : List Int) (p n : Nat) (k : Int) (i : Nat) : Int := if p ≤ i ∧ i < p + n then k else xs.getD i 0
def setTo (xs : List Int) (p n : Nat) (k : Int) (m : Nat) : List Int := (List.range m).map (setAt xs p n k)
def setL (xs : List Int) (p n : Nat) (k : Int) : List Int := setTo xs p n k xs.length
theorem setTo_step (xs : List Int) (p n : Nat) (k : Int) (m : Nat) : setTo xs p n k (m + 1) = setTo xs p n k m ++ [setAt xs p n k m] := by
  unfold setTo
  rw [List.range_succ, List.map_append]; rfl
theorem setTo_len (xs : List Int) (p n : Nat) (k : Int) (m : Nat) : (setTo xs p n k m).length = m := by simp [setTo]
theorem setL_len (xs : List Int) (p n : Nat) (k : Int) : (setL xs p n k).length = xs.length := setTo_len _ _ _ _ _
theorem setL_get {xs : List Int} {p n : Nat} {k : Int} {i : Nat} (h : i < xs.length) : (setL xs p n k).getD i 0 = setAt xs p n k i := by
  unfold setL setTo
  rw [List.getD_eq_getElem?_getD, List.getElem?_map, List.getElem?_range h]; rfl
def RowF (base : Nat) (xs : List Int) (e : Ending) (w' : World) : Prop := ∃ A n cap, e = .returned (.slice A n cap) ∧ IRow base w' (.slice A n cap) xs
section
variable {base : Nat} {w : World} {A : Option Addr} {n cap : Nat} {xs : List Int}
set_option maxHeartbeats 2000000 in
set_option maxRecDepth 100000 in
theorem fset_any (h : IRow base w (.slice A n cap) xs) (hm : n ≤ 999999) (p m : Nat) (hp : p + m ≤ 999999) (k : Int) :
    Calls Tryz.prog 180 #[.slice A n cap, .int .i64 p, .int .i64 m, .int .i64 k] w fun e w' => RowF w.heap.size (setL xs p m k) e w' ∧ Below w.heap.size w w' := by
  obtain ⟨hn, -⟩ := h.at_
  have H := Lib.hid h
  have HN := Lib.hid hn
  have B0 := Lib.hid (Below.refl w.heap.size w)
  have HP := Lib.hid hp
  have hp1 : (p : Int) + (m : Int) ≤ 999999 := by omega
  clear h hn hp
  go_enter Tryz.func180, Tryz.ntmps180
  go_wp2_with fail
  go_loopw [9, 10] (fun v a wr => ∃ i : Nat, i ≤ n ∧ a = .int .i64 i ∧ Hid (IRow w.heap.size wr v (setTo xs p m k i)) ∧ Hid (Below w.heap.size w wr)) (fun _ a _ => n - (intOf a).toNat)
  case atStart => exact ⟨0, Nat.zero_le _, rfl, Lib.hid (IRow.nil _ _), B0⟩
  case round =>
    clear B0
    obtain ⟨i, hi, rfl, HR, HB⟩ := hrel
    by_cases hlt : i < n
    · have hr := H.out.below HB.out
      obtain ⟨g, rfl, c2⟩ := hr.at_.2 i hlt
      obtain ⟨x, hx⟩ : ∃ x, x = xs.getD i 0 := ⟨_, rfl⟩
      rw [← hx] at c2
      have hd : decide ((i : Int) < (n : Int)) = true := by simpa using hlt
      have i1 : (0 : Int) ≤ (i : Int) := by omega
      have i2 : (i : Int) < (n : Int) := by omega
      have HLL : Hid ((setTo xs p m k i).length + 1 ≤ 1000000) := Lib.hid (by rw [setTo_len]; omega)
      by_cases h1 : p ≤ i ∧ i < p + m
      · have HE := Lib.hid (show setTo xs p m k (i + 1) = setTo xs p m k i ++ [k] by rw [setTo_step]; unfold setAt; rw [if_pos h1])
        have hd1 : decide ((p : Int) ≤ (i : Int)) = true := by rw [decide_eq_true_eq]; omega
        have hd2 : decide ((i : Int) < (p : Int) + (m : Int)) = true := by rw [decide_eq_true_eq]; omega
        have i3 : (p : Int) ≤ (i : Int) := by omega
        have i4 : (i : Int) < (p : Int) + (m : Int) := by omega
        clear h1 hx hr
        go_wp2_with (at_builtin; refine wpList_append_num rfl _ _ (by rfl) w.heap.size w _ _ k (by rfl) HR.out (by rfl) HLL.out HB.out HB.out.size ?_; intro v' w1 hr1 hb1 hgrow; have HR1 := Lib.hid hr1; have HB1 := Lib.hid hb1; clear hr1 hb1 hgrow)
        go_roundw
        case rel => exact ⟨i + 1, by omega, by go_num, by rw [HE.out]; exact HR1, HB1⟩
        case measure => simp [intOf]; omega
      · have HE := Lib.hid (show setTo xs p m k (i + 1) = setTo xs p m k i ++ [x] by rw [setTo_step]; unfold setAt; rw [if_neg h1, hx])
        have hor : i < p ∨ p + m ≤ i := by omega
        clear hx hr h1
        rcases hor with h1 | h1
        · have hd1 : decide ((p : Int) ≤ (i : Int)) = false := by rw [decide_eq_false_iff_not]; omega
          go_wp2_with (at_builtin; refine wpList_append_num rfl _ _ (by rfl) w.heap.size w _ _ x (by rfl) HR.out (by rfl) HLL.out HB.out HB.out.size ?_; intro v' w1 hr1 hb1 hgrow; have HR1 := Lib.hid hr1; have HB1 := Lib.hid hb1; clear hr1 hb1 hgrow)
          go_roundw
          case rel => exact ⟨i + 1, by omega, by go_num, by rw [HE.out]; exact HR1, HB1⟩
          case measure => simp [intOf]; omega
        · have hd1 : decide ((p : Int) ≤ (i : Int)) = true := by rw [decide_eq_true_eq]; omega
          have hd2 : decide ((i : Int) < (p : Int) + (m : Int)) = false := by rw [decide_eq_false_iff_not]; omega
          go_wp2_with (at_builtin; refine wpList_append_num rfl _ _ (by rfl) w.heap.size w _ _ x (by rfl) HR.out (by rfl) HLL.out HB.out HB.out.size ?_; intro v' w1 hr1 hb1 hgrow; have HR1 := Lib.hid hr1; have HB1 := Lib.hid hb1; clear hr1 hb1 hgrow)
          go_roundw
          case rel => exact ⟨i + 1, by omega, by go_num, by rw [HE.out]; exact HR1, HB1⟩
          case measure => simp [intOf]; omega
    · have hd : decide ((i : Int) < (n : Int)) = false := by simpa using hlt
      obtain rfl : i = n := by omega
      obtain ⟨p', c', rfl, -⟩ := HR.out.slice
      go_wp2_with fail
      go_ret
      refine ⟨⟨_, _, _, rfl, ?_⟩, HB.out⟩
      unfold setL
      rw [← HN.out]
      exact HR.out
end
end Go.Proofs.YtjoejjhgneccgaaGreatDoor

/- The reference's lists of pages: Span, New. -/
namespace Go.Proofs.YtjoejjhgneccgaaGreatDoor
open Go.RowKit

theorem IRow.fresh {base g : Nat} {w : World} {xs : List Int} (hg : base ≤ g) (h : w.heap[g]? = some (.cells (ints xs) 3 (0, 0))) (hm : xs.length ≤ 1000000) : IRow base w (.slice (some ⟨g, 0, none⟩) xs.length xs.length) xs := by
  refine ⟨by simp, .inr ⟨g, xs.length, _, rfl, hg, h, Nat.le_refl _, by unfold maxLen; omega, by simp [ints], ?_⟩⟩
  rw [Nat.mul_one, List.take_of_length_le (by simp [ints])]
  simp [ints]
def spanR (xs : List Int) (p n : Nat) : List Int := setL (setL xs p n 6) p 1 5
section
variable {base : Nat} {w : World} {A : Option Addr} {n cap : Nat} {xs : List Int}
theorem fspan_any (h : IRow base w (.slice A n cap) xs) (hm : n ≤ 999999) (p m : Nat) (hp : p + m ≤ 999998) :
    Calls Tryz.prog 172 #[.slice A n cap, .int .i64 p, .int .i64 m] w fun e w' => RowF w.heap.size (spanR xs p m) e w' ∧ Below w.heap.size w w' := by
  obtain ⟨hn, -⟩ := h.at_
  have H := Lib.hid h
  have HN := Lib.hid hn
  have HP := Lib.hid hp
  have HM := Lib.hid hm
  clear h hn hp hm
  go_enter Tryz.func172, Tryz.ntmps172
  go_wp2_with (first
    | (go_at_call 180; ((with_reducible refine (fset_any H.out HM.out p m (by have := HP.out; omega) 6).mono ?_); rintro e w1 ⟨⟨A1, n1, q1, rfl, hr⟩, hb⟩; have R1 := Lib.hid hr; have B1 := Lib.hid hb; have N1 : Hid (n1 ≤ 999999) := Lib.hid (by have h1 := hr.at_.1; rw [setL_len, ← HN.out] at h1; have := HM.out; omega); clear hr hb))
    | (go_at_call 180; (refine (fset_any R1.out N1.out p 1 (by have := HP.out; omega) 5).mono ?_; rintro e w2 ⟨⟨A2, n2, q2, rfl, hr⟩, hb⟩; have R2 : Hid (IRow w.heap.size w2 (.slice A2 n2 q2) (spanR xs p m)) := Lib.hid (hr.mono B1.out.size); have B2 := Lib.hid (below_next B1.out hb); clear hr hb)))
  go_ret
  exact ⟨⟨_, _, _, rfl, R2.out⟩, B2.out⟩
theorem clampN_dec (n : Int) : (n < 0 ∧ clampN n 0 64 = 0) ∨ (64 < n ∧ clampN n 0 64 = 64) ∨ (0 ≤ n ∧ n ≤ 64 ∧ clampN n 0 64 = n) := by
  unfold clampN
  by_cases h : n < 0
  · exact .inl ⟨h, by split <;> omega⟩
  · by_cases h2 : 64 < n
    · exact .inr (.inl ⟨h2, by split <;> (try split) <;> omega⟩)
    · exact .inr (.inr ⟨by omega, by omega, by split <;> (try split) <;> omega⟩)
set_option maxRecDepth 100000 in
theorem fnew_any (n : Int) (w : World) :
    Calls Tryz.prog 120 #[.int .i64 n] w fun e w' => RowF w.heap.size (List.replicate (clampN n 0 64).toNat 0) e w' ∧ Below w.heap.size w w' := by
  obtain ⟨k, hk⟩ : ∃ k, k = (clampN n 0 64).toNat := ⟨_, rfl⟩
  rw [← hk]
  have hk64 : k ≤ 64 := by have := clampN_dec n; omega
  have hd := clampN_dec n
  have mk := make_ints k (by omega)
  obtain ⟨R, hR⟩ : ∃ R, R = ints (List.replicate k 0) := ⟨_, rfl⟩
  rw [← hR] at mk
  have HR := Lib.hid hR
  have HK64 := Lib.hid hk64
  clear hR
  rcases hd with ⟨h1, h2⟩ | ⟨h1, h2⟩ | ⟨h1, h3, h2⟩
  · obtain rfl : k = 0 := by omega
    have mk' : ∀ W : World, (Instr.makeSlice 44 (.int .i64 0) (.int .i64 0)).run Tryz.prog W = .ok (.slice (some ⟨W.heap.size, 0, none⟩) 0 0) (W.alloc (.cells R 3)) := mk
    clear mk
    have d1 : decide (n < 0) = true := by simpa using h1
    clear h2 hk
    go_enter Tryz.func120, Tryz.ntmps120
    go_wp2_with fail
    go_ret
    refine ⟨⟨_, _, _, rfl, ?_⟩, below_alloc0 _ _⟩
    exact IRow.fresh (Nat.le_refl _) (by rw [← HR.out]; exact heap_alloc_new w _) (by simp)
  · obtain rfl : k = 64 := by omega
    have mk' : ∀ W : World, (Instr.makeSlice 44 (.int .i64 64) (.int .i64 64)).run Tryz.prog W = .ok (.slice (some ⟨W.heap.size, 0, none⟩) 64 64) (W.alloc (.cells R 3)) := mk
    clear mk
    have d1 : decide (n < 0) = false := by rw [decide_eq_false_iff_not]; omega
    have d2 : decide (64 < n) = true := by simpa using h1
    clear h2 hk
    go_enter Tryz.func120, Tryz.ntmps120
    go_wp2_with fail
    go_ret
    refine ⟨⟨_, _, _, rfl, ?_⟩, below_alloc0 _ _⟩
    exact IRow.fresh (xs := List.replicate 64 0) (Nat.le_refl _) (by rw [← HR.out]; exact heap_alloc_new w _) (by simp)
  · obtain rfl : n = (k : Int) := by omega
    have d1 : decide ((k : Int) < 0) = false := by rw [decide_eq_false_iff_not]; omega
    have d2 : decide (64 < (k : Int)) = false := by rw [decide_eq_false_iff_not]; omega
    clear h2 hk
    go_enter Tryz.func120, Tryz.ntmps120
    go_wp2_with fail
    go_ret
    refine ⟨⟨_, _, _, rfl, ?_⟩, below_alloc0 _ _⟩
    have h9 := IRow.fresh (base := w.heap.size) (xs := List.replicate k 0) (Nat.le_refl _) (show (w.alloc (.cells R 3)).heap[w.heap.size]? = _ by rw [← HR.out]; exact heap_alloc_new w _) (by simp; omega)
    rw [List.length_replicate] at h9
    exact h9
end
end Go.Proofs.YtjoejjhgneccgaaGreatDoor

/- The reference's heap in memory; Left. -/
namespace Go.Proofs.YtjoejjhgneccgaaGreatDoor
open Go.RowKit

/-- A row that is read, from an offset on, in a block of the call's own. -/
def OffR (base : Nat) (w : World) (v : Value) (xs : List Int) : Prop :=
  ∃ A n cap, v = .slice A n cap ∧ n = xs.length ∧ n ≤ cap ∧ n ≤ 64 ∧ (0 < n → ∃ g o, A = some ⟨g, o, none⟩ ∧ base ≤ g ∧ (∃ cur, w.heap[g]? = some (.cells cur 3 (0, 0))) ∧ ∀ j, j < n → w.cell? ⟨g, o + j, none⟩ = some (.int .i64 (xs.getD j 0)))
theorem OffR.below {base : Nat} {w w' : World} {v : Value} {xs : List Int} (h : OffR base w v xs) (hb : Below w.heap.size w w') : OffR base w' v xs := by
  obtain ⟨A, n, cap, h1, h2, h3, h4, h5⟩ := h
  refine ⟨A, n, cap, h1, h2, h3, h4, fun h0 => ?_⟩
  obtain ⟨g, o, e1, e2, ⟨cur, e3⟩, e4⟩ := h5 h0
  exact ⟨g, o, e1, e2, ⟨cur, keep hb e3⟩, fun j hj => cell_keep hb (e4 j hj)⟩
/-- The block that a slice lies in; .. and if it has elements. -/
def oblk : Value → Option Nat
  | .slice (some a) _ _ => some a.block
  | _ => none
def rblk : Value → Option Nat
  | .slice (some a) (_ + 1) _ => some a.block
  | _ => none
theorem rblk_oblk {v : Value} {g : Nat} (h : rblk v = some g) : oblk v = some g := by
  unfold rblk at h
  split at h
  · exact h
  · cases h
theorem rblk_pos {a : Addr} {n cap : Nat} (h : 0 < n) : rblk (.slice (some a) n cap) = some a.block := by
  cases n with
  | zero => omega
  | succ n => rfl
theorem rblk_some {A : Option Addr} {n cap g : Nat} (h : rblk (.slice A n cap) = some g) : 0 < n ∧ ∃ a, A = some a ∧ a.block = g := by
  cases n with
  | zero => cases A <;> cases h
  | succ n =>
    cases A with
    | none => cases h
    | some a => exact ⟨by omega, a, rfl, by simpa [rblk] using h⟩
def hrows (kv : Value) (fv : List Value) : List Nat := (oblk kv).toList ++ fv.filterMap rblk
theorem hrows_mem {kv : Value} {fv : List Value} {x : Nat} : x ∈ hrows kv fv ↔ oblk kv = some x ∨ ∃ v ∈ fv, rblk v = some x := by
  unfold hrows
  rw [List.mem_append, List.mem_filterMap, Option.mem_toList]
/-- Rows that were there, or are new. -/
def Rows0 (n : Nat) (R R' : List Nat) : Prop := ∀ x ∈ R', x ∈ R ∨ n ≤ x
theorem Rows0.refl (n : Nat) (R : List Nat) : Rows0 n R R := fun _ h => .inl h
theorem Rows0.kinds {n m : Nat} {kv kv' : Value} {fv : List Value} (h : ∀ g, oblk kv' = some g → m ≤ g) (hn : n ≤ m) : Rows0 n (hrows kv fv) (hrows kv' fv) := by
  intro x hx
  rcases hrows_mem.1 hx with h1 | h1
  · exact .inr (Nat.le_trans hn (h x h1))
  · exact .inl (hrows_mem.2 (.inr h1))
theorem Rows0.free {n : Nat} {kv v : Value} {fv : List Value} {p : Nat} (h : ∀ g, rblk v = some g → g ∈ hrows kv fv ∨ n ≤ g) : Rows0 n (hrows kv fv) (hrows kv (fv.set p v)) := by
  intro x hx
  rcases hrows_mem.1 hx with h1 | ⟨u, hu, h1⟩
  · exact .inl (hrows_mem.2 (.inl h1))
  · rcases List.mem_or_eq_of_mem_set hu with h2 | rfl
    · exact .inl (hrows_mem.2 (.inr ⟨u, h2, h1⟩))
    · exact h x h1
theorem Rows0.trans {n m : Nat} {R S T : List Nat} (h : Rows0 n R S) (k : Rows0 m S T) (hn : n ≤ m) : Rows0 n R T := fun x hx => (k x hx).elim (fun h1 => h x h1) (fun h1 => .inr (Nat.le_trans hn h1))
theorem IRow.oblk {base : Nat} {w : World} {v : Value} {xs : List Int} (h : IRow base w v xs) : ∀ g, oblk v = some g → base ≤ g ∧ ∃ cur, w.heap[g]? = some (.cells cur 3 (0, 0)) := by
  intro g hg
  rcases h.2 with ⟨rfl, -⟩ | ⟨g', cap, cur, rfl, h1, hh, -⟩
  · cases hg
  · cases hg
    exact ⟨h1, cur, hh⟩
def hpC (kv : Value) (fv rest : List Value) : Array Value := (kv :: (fv ++ rest)).toArray
structure Hp (base : Nat) (w : World) (h : Nat) (kv : Value) (fv rest : List Value) (ks : List Int) (F : Nat → List Int) : Prop where
  hd : w.heap[h]? = some (.cells (hpC kv fv rest) 56 (0, 0))
  own : base ≤ h
  fl : fv.length = 64
  kr : IRow base w kv ks
  kl : ks.length ≤ 64
  fr : ∀ p, p < 64 → OffR base w (fv.getD p (.slice none 0 0)) (F p)
theorem Hp.below {base : Nat} {w w' : World} {h : Nat} {kv : Value} {fv rest : List Value} {ks : List Int} {F : Nat → List Int} (H : Hp base w h kv fv rest ks F) (hb : Below w.heap.size w w') : Hp base w' h kv fv rest ks F :=
  ⟨keep hb H.hd, H.own, H.fl, H.kr.below hb, H.kl, fun p hp => (H.fr p hp).below hb⟩
theorem Hp.cells {base : Nat} {w : World} {h : Nat} {kv : Value} {fv rest : List Value} {ks : List Int} {F : Nat → List Int} (H : Hp base w h kv fv rest ks F) : w.cell? ⟨h, 0, none⟩ = some kv ∧ ∀ p, p < 64 → w.cell? ⟨h, 1 + p, none⟩ = some (fv.getD p (.slice none 0 0)) := by
  refine ⟨cell_of_row _ _ _ _ _ _ H.hd, fun p hp => ?_⟩
  have hl : p < fv.length := by rw [H.fl]; exact hp
  rw [cell_of_row _ _ _ _ _ _ H.hd]
  unfold hpC
  rw [List.getElem?_toArray, Nat.add_comm, List.getElem?_cons_succ, List.getElem?_append_left hl, List.getD_eq_getElem?_getD, List.getElem?_eq_getElem hl]; rfl
theorem OffR.keep {base : Nat} {w w' : World} {v : Value} {xs : List Int} {T : TypeId} {c : Array Value} {h : Nat} (ho : OffR base w v xs) (hd : w.heap[h]? = some (.cells c T (0, 0))) (hT : T ≠ 3) (hk : ∀ k, k ≠ h → w'.heap[k]? = w.heap[k]?) : OffR base w' v xs := by
  obtain ⟨A, n, cap, h1, h2, h3, h4, h5⟩ := ho
  refine ⟨A, n, cap, h1, h2, h3, h4, fun h0 => ?_⟩
  obtain ⟨g, o, e1, e2, ⟨cur, e3⟩, e4⟩ := h5 h0
  have hg : g ≠ h := by
    rintro rfl
    rw [hd] at e3
    simp only [Option.some.injEq, Obj.cells.injEq] at e3
    exact hT e3.2.1
  refine ⟨g, o, e1, e2, ⟨cur, (hk g hg).trans e3⟩, fun j hj => ?_⟩
  have := e4 j hj
  unfold World.cell? at this ⊢
  rw [hk g hg]
  exact this
theorem IRow.keepAt {base : Nat} {w w' : World} {v : Value} {xs : List Int} {T : TypeId} {c : Array Value} {h : Nat} (ho : IRow base w v xs) (hd : w.heap[h]? = some (.cells c T (0, 0))) (hT : T ≠ 3) (hk : ∀ k, k ≠ h → w'.heap[k]? = w.heap[k]?) : IRow base w' v xs :=
  ⟨ho.1, ho.2.imp id fun ⟨g, cap, cur, hv, hg, hh, r⟩ => ⟨g, cap, cur, hv, hg, (hk g (by
    rintro rfl
    rw [hd] at hh
    simp only [Option.some.injEq, Obj.cells.injEq] at hh
    exact hT hh.2.1)).trans hh, r⟩⟩
theorem Hp.setKinds {base : Nat} {w : World} {h : Nat} {kv kv' : Value} {fv rest : List Value} {ks ks' : List Int} {F : Nat → List Int} (H : Hp base w h kv fv rest ks F) (hk : IRow base w kv' ks') (hl : ks'.length ≤ 64) : Hp base (w.setCell ⟨h, 0, none⟩ kv') h kv' fv rest ks' F := by
  have o : ∀ k, k ≠ h → (w.setCell ⟨h, 0, none⟩ kv').heap[k]? = w.heap[k]? := fun k hne => heap_setCell_other _ _ _ _ (fun e => hne e)
  have hT : 56 ≠ 3 := by decide
  refine ⟨?_, H.own, H.fl, hk.keepAt H.hd hT o, hl, fun p hp => (H.fr p hp).keep H.hd hT o⟩
  rw [heap_setCell_same _ _ _ _ _ _ H.hd]
  rfl
theorem getD_mem {l : List Value} {p : Nat} {d : Value} (h : p < l.length) : l.getD p d ∈ l := by
  rw [List.getD_eq_getElem?_getD, List.getElem?_eq_getElem h]
  exact List.getElem_mem h
theorem OffR.rblk {base : Nat} {w : World} {v : Value} {xs : List Int} (ho : OffR base w v xs) : ∀ g, rblk v = some g → base ≤ g ∧ ∃ cur, w.heap[g]? = some (.cells cur 3 (0, 0)) := by
  obtain ⟨A, n, cap, rfl, h2, h3, h4, h5⟩ := ho
  intro g hg
  obtain ⟨h0, a, rfl, e⟩ := rblk_some hg
  obtain ⟨g', o, e1, e2, e3, -⟩ := h5 h0
  cases e1
  cases e
  exact ⟨e2, e3⟩
theorem OffR.stays {base : Nat} {w w' : World} {v : Value} {xs : List Int} (ho : OffR base w v xs) (hk : ∀ g, Go.Proofs.YtjoejjhgneccgaaGreatDoor.rblk v = some g → w'.heap[g]? = w.heap[g]?) : OffR base w' v xs := by
  obtain ⟨A, n, cap, rfl, h2, h3, h4, h5⟩ := ho
  refine ⟨A, n, cap, rfl, h2, h3, h4, fun h0 => ?_⟩
  obtain ⟨g, o, rfl, e2, ⟨cur, e3⟩, e4⟩ := h5 h0
  have e := hk g (rblk_pos h0)
  refine ⟨g, o, rfl, e2, ⟨cur, e.trans e3⟩, fun j hj => ?_⟩
  have := e4 j hj
  unfold World.cell? at this ⊢
  rw [e]
  exact this
theorem IRow.stays {base : Nat} {w w' : World} {v : Value} {xs : List Int} (ho : IRow base w v xs) (hk : ∀ g, Go.Proofs.YtjoejjhgneccgaaGreatDoor.oblk v = some g → w'.heap[g]? = w.heap[g]?) : IRow base w' v xs :=
  ⟨ho.1, ho.2.imp id fun ⟨g, cap, cur, hv, hg, hh, r⟩ => ⟨g, cap, cur, hv, hg, (hk g (by rw [hv]; rfl)).trans hh, r⟩⟩
theorem Hp.stays {base : Nat} {w w' : World} {h : Nat} {kv : Value} {fv rest : List Value} {ks : List Int} {F : Nat → List Int} (H : Hp base w h kv fv rest ks F) (h0 : w'.heap[h]? = w.heap[h]?) (hk : ∀ g ∈ hrows kv fv, w'.heap[g]? = w.heap[g]?) : Hp base w' h kv fv rest ks F :=
  ⟨h0.trans H.hd, H.own, H.fl, H.kr.stays fun g hg => hk g (hrows_mem.2 (.inl hg)), H.kl, fun p hp => (H.fr p hp).stays fun g hg => hk g (hrows_mem.2 (.inr ⟨_, getD_mem (by rw [H.fl]; exact hp), hg⟩))⟩
theorem Hp.rows {base : Nat} {w : World} {h : Nat} {kv : Value} {fv rest : List Value} {ks : List Int} {F : Nat → List Int} (H : Hp base w h kv fv rest ks F) : ∀ g ∈ hrows kv fv, base ≤ g ∧ ∃ cur, w.heap[g]? = some (.cells cur 3 (0, 0)) := by
  intro g hg
  rcases hrows_mem.1 hg with h1 | ⟨v, hv, h1⟩
  · exact H.kr.oblk g h1
  · obtain ⟨p, hp, e⟩ := List.getElem_of_mem hv
    have := H.fr p (by rw [← H.fl]; exact hp)
    rw [List.getD_eq_getElem?_getD, List.getElem?_eq_getElem hp] at this
    simp only [Option.getD_some] at this
    rw [e] at this
    exact this.rblk g h1
def rleft (ks : List Int) (F : Nat → List Int) (p : Int) : Int := if 0 < sizeI (kindL ks p) then ((F p.toNat).length : Int) else 0
section
variable {base h : Nat} {w : World} {kv : Value} {fv rest : List Value} {ks : List Int} {F : Nat → List Int}
set_option maxHeartbeats 1000000 in
set_option maxRecDepth 100000 in
theorem gleft_any (H0 : Hp base w h kv fv rest ks F) (p : Int) :
    Calls Tryz.prog 202 #[.pointer (some ⟨h, 0, none⟩), .int .i64 p] w fun e w' => e = .returned (.int .i64 (rleft ks F p)) ∧ Below w.heap.size w w' := by
  have H := Lib.hid H0
  obtain ⟨c0, cf⟩ := H0.cells
  obtain ⟨A, cap, rfl, -⟩ := H0.kr.slice
  have hsb := (sizeI_bd (kindL ks p)).1
  by_cases hs : 0 < sizeI (kindL ks p)
  · have hin : 0 ≤ p ∧ p < ks.length := by
      apply Decidable.byContradiction; intro hc
      rw [kindL_out (by omega)] at hs
      simp [sizeI] at hs
    obtain ⟨q, rfl⟩ := Int.eq_ofNat_of_zero_le hin.1
    have hq : q < 64 := by have := H0.kl; omega
    have hr := Lib.hid (show rleft ks F (q : Int) = ((F q).length : Int) by unfold rleft; rw [if_pos hs, Int.toNat_natCast])
    have cq := cf q hq
    obtain ⟨A', n', cap', e1, e2, -⟩ := H0.fr q hq
    rw [e1] at cq
    have HL := Lib.hid e2
    have cq2 := fun W (hb : Below w.heap.size w W) => cell_keep hb cq
    have CQ := Lib.hid cq2
    have z1 : (sizeI (kindL ks q) == 0) = false := by simp; omega
    have q1 : (0 : Int) ≤ (q : Int) := by omega
    have q2 : (q : Int) < 64 := by omega
    clear H0 cf hin hs hsb e1 e2 cq2 cq
    go_enter Tryz.func202, Tryz.ntmps202
    go_wp2_with (first
      | (go_at_call 178; refine (fkind_any H.out.kr _).mono ?_; rintro e w' ⟨rfl, rfl⟩)
      | (go_at_call 170; refine (rsize_any _ _).mono ?_; rintro e w2 ⟨rfl, hb⟩; have B2 := Lib.hid hb; have d1 := CQ.out _ hb; clear hb))
    go_ret
    exact ⟨ret_int (by rw [hr.out, HL.out]), B2.out⟩
  · have hr := Lib.hid (show rleft ks F p = 0 by unfold rleft; rw [if_neg hs])
    have z1 : (sizeI (kindL ks p) == 0) = true := by simp; omega
    clear H0 cf hs hsb
    go_enter Tryz.func202, Tryz.ntmps202
    go_wp2_with (first
      | (go_at_call 178; refine (fkind_any H.out.kr _).mono ?_; rintro e w' ⟨rfl, rfl⟩)
      | (go_at_call 170; refine (rsize_any _ _).mono ?_; rintro e w2 ⟨rfl, hb⟩; have B2 := Lib.hid hb; clear hb))
    go_ret
    exact ⟨ret_int hr.out.symm, B2.out⟩
end
end Go.Proofs.YtjoejjhgneccgaaGreatDoor

/- The reference's lists of pages: run, Find. -/
namespace Go.Proofs.YtjoejjhgneccgaaGreatDoor
open Go.RowKit

def run0 (ks : List Int) (q : Nat) : Nat := ((ks.drop q).takeWhile (· == 0)).length
theorem run0_step {ks : List Int} {q : Nat} (hl : q < ks.length) (h : ks.getD q 0 = 0) : run0 ks q = run0 ks (q + 1) + 1 := by
  rw [List.getD_eq_getElem?_getD, List.getElem?_eq_getElem hl] at h
  unfold run0
  rw [List.drop_eq_getElem_cons hl, List.takeWhile_cons, if_pos (by simpa using h)]
  rfl
theorem run0_stop {ks : List Int} {q : Nat} (h : q < ks.length → ks.getD q 0 ≠ 0) : run0 ks q = 0 := by
  unfold run0
  by_cases hl : q < ks.length
  · have h := h hl
    rw [List.getD_eq_getElem?_getD, List.getElem?_eq_getElem hl] at h
    rw [List.drop_eq_getElem_cons hl, List.takeWhile_cons, if_neg (by simpa using h)]
    rfl
  · rw [List.drop_eq_nil_of_le (by omega)]; rfl
theorem run0_le (ks : List Int) (q : Nat) : run0 ks q ≤ ks.length := by
  unfold run0
  have := List.takeWhile_sublist (l := ks.drop q) (· == 0) |>.length_le
  simp at this; omega
def findL (ks : List Int) (n : Int) : Option Nat := if n < 1 then none else (List.range ks.length).find? fun p => decide (n ≤ (run0 ks p : Int))
def FindE (o : Option Nat) (e : Ending) : Prop := e = .returned (.int .i64 (match o with | some m => (m : Int) | none => -1))
section
variable {base : Nat} {w : World} {A : Option Addr} {n cap : Nat} {xs : List Int}
set_option maxHeartbeats 1000000 in
theorem frun_any (h : IRow base w (.slice A n cap) xs) (hm : n ≤ 1000000) (p : Nat) (hp : p < n) :
    Calls Tryz.prog 201 #[.slice A n cap, .int .i64 p] w fun e w' => e = .returned (.int .i64 (run0 xs p)) ∧ w = w' := by
  obtain ⟨hn, hc⟩ := h.at_
  have HC := Lib.hid hc
  have HN := Lib.hid hn
  have H0 := Lib.hid (show run0 xs p = 0 + run0 xs (p + 0) by simp)
  clear h hn hc
  go_enter Tryz.func201, Tryz.ntmps201
  go_wp2_with fail
  go_loop [5] (fun a => ∃ i : Nat, p + i ≤ n ∧ a = .int .i64 i ∧ Hid (run0 xs p = i + run0 xs (p + i))) (fun a => n - (intOf a).toNat)
  case atStart => exact ⟨0, by omega, rfl, H0⟩
  case round =>
    clear H0
    obtain ⟨i, hi, rfl, HJ⟩ := hrel
    by_cases hlt : p + i < n
    · obtain ⟨g, rfl, c2⟩ := HC.out (p + i) hlt
      obtain ⟨v, hv⟩ : ∃ v, v = xs.getD (p + i) 0 := ⟨_, rfl⟩
      rw [← hv] at c2
      have hd : decide ((p : Int) + (i : Int) < (n : Int)) = true := by rw [decide_eq_true_eq]; omega
      have i1 : (0 : Int) ≤ (p : Int) + (i : Int) := by omega
      have i2 : (p : Int) + (i : Int) < (n : Int) := by omega
      by_cases h0 : v = 0
      · have HJ' := Lib.hid (show run0 xs p = (i + 1) + run0 xs (p + (i + 1)) by rw [HJ.out, run0_step (q := p + i) (by rw [← HN.out]; exact hlt) (by rw [← hv]; exact h0), ← Nat.add_assoc p i 1]; omega)
        have h0' : (v == 0) = true := by simpa using h0
        clear hv HJ h0
        go_wp2_with fail
        go_round
        case rel => exact ⟨i + 1, by omega, by go_num, HJ'⟩
        case measure => simp [intOf]; omega
      · have HJ' := Lib.hid (show run0 xs p = i by rw [HJ.out, run0_stop (q := p + i) (fun _ => by rw [← hv]; exact h0)]; rfl)
        have h0' : (v == 0) = false := by simpa using h0
        clear hv HJ h0
        go_wp2_with fail
        go_ret
        exact ⟨by rw [HJ'.out]; rfl, rfl⟩
    · have hd : decide ((p : Int) + (i : Int) < (n : Int)) = false := by rw [decide_eq_false_iff_not]; omega
      have HJ' := Lib.hid (show run0 xs p = i by rw [HJ.out, run0_stop (q := p + i) (fun hc => by have := HN.out; omega)]; rfl)
      clear HJ
      go_wp2_with fail
      go_ret
      exact ⟨by rw [HJ'.out]; rfl, rfl⟩
theorem findL_some {ks : List Int} {n : Int} {p : Nat} (h1 : 1 ≤ n) (hp : p < ks.length) (hr : n ≤ (run0 ks p : Int)) (hj : ∀ j, j < p → (run0 ks j : Int) < n) : findL ks n = some p := by
  unfold findL
  rw [if_neg (by omega), List.find?_range_eq_some]
  exact ⟨by simpa using hr, by simpa using hp, fun j hlt => by simpa using hj j hlt⟩
theorem findL_none {ks : List Int} {n : Int} (hj : ∀ j, j < ks.length → (run0 ks j : Int) < n) : findL ks n = none := by
  unfold findL
  split
  · rfl
  · rw [List.find?_range_eq_none]
    intro j hlt
    simpa using hj j hlt
set_option maxHeartbeats 1000000 in
theorem ffind_any (h : IRow base w (.slice A n cap) xs) (hm : n ≤ 1000000) (z : Int) :
    Calls Tryz.prog 171 #[.slice A n cap, .int .i64 z] w fun e w' => FindE (findL xs z) e ∧ w = w' := by
  obtain ⟨hn, -⟩ := h.at_
  have H := Lib.hid h
  have HN := Lib.hid hn
  clear h hn
  by_cases hz : z < 1
  · have HF := Lib.hid (show findL xs z = none by unfold findL; rw [if_pos hz])
    have hz' : decide (z < 1) = true := by simpa using hz
    go_enter Tryz.func171, Tryz.ntmps171
    go_wp2_with fail
    go_ret
    exact ⟨by rw [HF.out]; rfl, rfl⟩
  have hz' : decide (z < 1) = false := by simpa using hz
  have HZ := Lib.hid (show 1 ≤ z by omega)
  clear hz
  go_enter Tryz.func171, Tryz.ntmps171
  go_wp2_with fail
  go_loop [5] (fun a => ∃ i : Nat, i ≤ n ∧ a = .int .i64 i ∧ Hid (∀ j, j < i → (run0 xs j : Int) < z)) (fun a => n - (intOf a).toNat)
  case atStart => exact ⟨0, Nat.zero_le _, rfl, Lib.hid (fun j hj => by omega)⟩
  case round =>
    obtain ⟨i, hi, rfl, HJ⟩ := hrel
    by_cases hlt : i < n
    · have hd : decide ((i : Int) < (n : Int)) = true := by simpa using hlt
      have HLT := Lib.hid hlt
      obtain ⟨r, hr⟩ : ∃ r, r = run0 xs i := ⟨_, rfl⟩
      have HR := Lib.hid hr
      by_cases h0 : z ≤ (r : Int)
      · have h0' : decide (z ≤ (r : Int)) = true := by simpa using h0
        have HF := Lib.hid (findL_some (ks := xs) HZ.out (by rw [← HN.out]; exact hlt) (by rw [← hr]; exact h0) HJ.out)
        clear hr HJ h0
        go_wp2_with (go_at_call 201; refine (frun_any H.out hm i HLT.out).mono ?_; rw [← HR.out]; rintro e w' ⟨rfl, rfl⟩)
        go_ret
        exact ⟨by rw [HF.out]; rfl, rfl⟩
      · have h0' : decide (z ≤ (r : Int)) = false := by simpa using h0
        have HJ' := Lib.hid (show ∀ j, j < i + 1 → (run0 xs j : Int) < z from fun j hj => by
          by_cases e : j = i
          · rw [e, ← hr]; omega
          · exact HJ.out j (by omega))
        clear hr HJ h0
        go_wp2_with (go_at_call 201; refine (frun_any H.out hm i HLT.out).mono ?_; rw [← HR.out]; rintro e w' ⟨rfl, rfl⟩)
        go_round
        case rel => exact ⟨i + 1, by omega, by go_num, HJ'⟩
        case measure => simp [intOf]; omega
    · have hd : decide ((i : Int) < (n : Int)) = false := by simpa using hlt
      have HF := Lib.hid (findL_none (ks := xs) (n := z) (fun j hj => HJ.out j (by have := HN.out; omega)))
      go_wp2_with fail
      go_ret
      exact ⟨by rw [HF.out]; rfl, rfl⟩
end
end Go.Proofs.YtjoejjhgneccgaaGreatDoor

/- Cells and their reference: lists of pages come to the same. -/
namespace Go.Proofs.YtjoejjhgneccgaaGreatDoor
open Go.RowKit

theorem list_ext_getD {xs ys : List Int} (hl : xs.length = ys.length) (h : ∀ i, i < xs.length → xs.getD i 0 = ys.getD i 0) : xs = ys := by
  refine List.ext_getElem hl fun i h1 h2 => ?_
  have := h i h1
  rw [List.getD_eq_getElem?_getD, List.getD_eq_getElem?_getD, List.getElem?_eq_getElem h1, List.getElem?_eq_getElem h2] at this
  exact this
theorem setL_fill (xs : List Int) (p n : Nat) (k : Int) : setL xs p n k = fillL xs p n k := by
  refine list_ext_getD (by rw [setL_len, fillL_len]) fun i hi => ?_
  rw [setL_len] at hi
  rw [setL_get hi, fillL_get _ _ _ _ _ hi]
  rfl
theorem setL_one (xs : List Int) (p : Nat) (k : Int) : setL xs p 1 k = xs.set p k := by
  rw [setL_fill]; rfl
theorem spanR_eq (xs : List Int) (p m : Nat) : spanR xs p m = spanS xs p m := by
  unfold spanR spanS
  rw [setL_one, setL_fill]
theorem run0_pos {ks : List Int} {q : Nat} (hl : q < ks.length) : (1 : Int) ≤ (run0 ks q : Int) ↔ ks.getD q 0 = 0 := by
  constructor
  · intro h
    apply Decidable.byContradiction; intro hc
    rw [run0_stop (fun _ => hc)] at h
    omega
  · intro h
    rw [run0_step hl h]
    omega
theorem find_idx0 (ks : List Int) : findL ks 1 = idx0 ks := by
  cases h : findL ks 1 with
  | none =>
    unfold findL at h
    rw [if_neg (by omega), List.find?_range_eq_none] at h
    refine (idx0_none fun j hj => ?_).symm
    have := h j hj
    rw [Bool.not_eq_true', decide_eq_false_iff_not, run0_pos hj] at this
    exact this
  | some p =>
    unfold findL at h
    rw [if_neg (by omega), List.find?_range_eq_some] at h
    obtain ⟨h1, h2, h3⟩ := h
    have hp : p < ks.length := by simpa using h2
    refine (idx0_some hp ((run0_pos hp).1 (by simpa using h1)) fun j hj => ?_).symm
    have := h3 j hj
    rw [Bool.not_eq_true', decide_eq_false_iff_not, run0_pos (by omega)] at this
    exact this
end Go.Proofs.YtjoejjhgneccgaaGreatDoor
