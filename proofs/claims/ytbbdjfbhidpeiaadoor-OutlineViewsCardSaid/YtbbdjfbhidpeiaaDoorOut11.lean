/- The law's own line; texts, held against each other. -/
import Derived.Test.YtbbdjfbhidpeiaaDoorOut7
namespace Go.Proofs.YtbbdjfbhidpeiaaDoor
open Go.RowKit

def linePre (h : List UInt8) (vs : List (Int × Int)) (k : Nat) : List UInt8 := if k = 0 then h else h ++ [58] ++ valsText (vs.take k)

set_option maxHeartbeats 8000000 in
set_option maxRecDepth 100000 in
theorem lline_any (h : List UInt8) (hh : h.length ≤ 100) (A : Option Addr) (n cap : Nat) (vs : List (Int × Int)) (w : World) (hr : RdV w A n vs) :
    Calls Tryd.prog 11 #[.string (S h), .slice A n cap] w fun e w' => e = .returned (.string (S (lineText h vs))) ∧ Below w.heap.size w w' := by
  have hmax := hr.max
  have hlen := hr.len
  have R0 := Lib.hid hr
  clear hr
  go_enter Tryd.func11, Tryd.ntmps11
  go_wp2_with fail
  go_loopw [0, 5] (fun v i wr => ∃ k : Nat, k ≤ n ∧ i = .int .i64 k ∧ v = .string (S (linePre h vs k)) ∧ Hid (Below w.heap.size w wr)) (fun _ i _ => n - (intOf i).toNat)
  case atStart => exact ⟨0, by omega, rfl, rfl, Lib.hid (Below.refl _ _)⟩
  case round =>
    obtain ⟨k, hk, rfl, rfl, HB⟩ := hrel
    by_cases hlt : k < n
    · have HM := Lib.hid (vals_more hlen hlt)
      have hvl := vals_len (vs := vs.take k) fun v hv => R0.out.rng v (List.mem_of_mem_take hv)
      have htl : (vs.take k).length = k := by simp; omega
      obtain ⟨b, o, rfl, _, hcell⟩ := (R0.out.below HB.out).cell (by omega)
      obtain ⟨hc0, hc1⟩ := hcell k hlt
      clear hcell
      have HR : Hid (Rng (vs.getD k (0, 0)).2) := Lib.hid (R0.out.rng _ (by rw [List.getD_eq_getElem?_getD, List.getElem?_eq_getElem (by omega)]; exact List.getElem_mem _))
      obtain ⟨x, hx⟩ : ∃ x, x = (vs.getD k (0, 0)).1 := ⟨_, rfl⟩
      obtain ⟨y, hy⟩ : ∃ y, y = (vs.getD k (0, 0)).2 := ⟨_, rfl⟩
      rw [← hx] at hc0 HM
      rw [← hy] at hc1 HR HM
      clear hx hy
      have hvt := val_len (k := x) HR.out
      obtain ⟨cur, hcur⟩ : ∃ cur, cur = linePre h vs k := ⟨_, rfl⟩
      obtain ⟨c1, hc1'⟩ : ∃ c1, c1 = h ++ [58] ++ valsText (vs.take k) := ⟨_, rfl⟩
      obtain ⟨c2, hc2⟩ : ∃ c2, c2 = c1 ++ [32] := ⟨_, rfl⟩
      have l1 : c1.length ≤ 101 + 23 * k := by rw [hc1']; simp only [List.length_append, List.length_cons, List.length_nil]; omega
      have l2 : c2.length ≤ 102 + 23 * k := by rw [hc2]; simp only [List.length_append, List.length_cons, List.length_nil]; omega
      rw [← hcur]
      have g1 : ¬ 9223372036854775807 < (S c1).size + 1 := by rw [S_size]; omega
      have g2 : ¬ 9223372036854775807 < (S c2).size + (S (valText x y)).size := by rw [S_size, S_size]; omega
      have q1 : S c1 ++ (⟨#[32]⟩ : ByteArray) = S c2 := by rw [hc2]; exact S_app _ _
      have q2 : S c2 ++ S (valText x y) = S (c2 ++ valText x y) := S_app _ _
      have HE : Hid (linePre h vs (k + 1) = c2 ++ valText x y) := Lib.hid (by rw [linePre, if_neg (by omega), HM.out, hc2, hc1']; simp)
      by_cases hk0 : k = 0
      · subst hk0
        have hcc : cur = h := by rw [hcur]; rfl
        have hch : c1 = h ++ [58] := by rw [hc1']; simp [valsText]
        have g0 : ¬ 9223372036854775807 < (S cur).size + 1 := by rw [S_size, hcc]; omega
        have q0 : S cur ++ (⟨#[58]⟩ : ByteArray) = S c1 := by rw [hch, hcc]; exact S_app _ _
        simp only [Nat.zero_mul, Nat.add_zero] at hc0 hc1
        clear hcc hch hvt l1 l2 hc2 hc1' hcur hvl htl HM
        go_wp2_with (go_at_call 8; refine (lvalue_any x y HR.out _).mono ?_; rintro e w6 ⟨rfl, hb6⟩)
        go_roundw
        case rel => exact ⟨1, by omega, by go_num, by rw [HE.out], Lib.hid (below_next HB.out hb6)⟩
        case measure => simp [intOf]; omega
      · have hcc : cur = c1 := by rw [hcur, hc1', linePre, if_neg hk0]
        have z1 : ((k : Int) == 0) = false := by simp; omega
        have z2 : (k == 0) = false := by simp; omega
        rw [hcc]
        clear hcc hvt l1 l2 hc2 hc1' hcur hvl htl HM
        go_wp2_with (go_at_call 8; refine (lvalue_any x y HR.out _).mono ?_; rintro e w6 ⟨rfl, hb6⟩)
        go_roundw
        case rel => exact ⟨k + 1, by omega, by go_num, by rw [HE.out], Lib.hid (below_next HB.out hb6)⟩
        case measure => simp [intOf]; omega
    · obtain rfl : k = n := by omega
      clear hk hlt
      by_cases hk0 : k = 0
      · subst hk0
        have g0 : ¬ 9223372036854775807 < (S h).size + 1 := by rw [S_size]; omega
        have q0 : S h ++ (⟨#[58]⟩ : ByteArray) = S (h ++ [58]) := S_app _ _
        have HV : Hid (lineText h vs = h ++ [58]) := Lib.hid (by rw [lineText, List.eq_nil_of_length_eq_zero hlen]; simp [valsText])
        rw [show linePre h vs 0 = h from rfl]
        go_wp2_with fail
        go_ret
        exact ⟨ret_str (by rw [HV.out]), HB.out⟩
      · have z1 : ((k : Int) == 0) = false := by simp; omega
        have z2 : (k == 0) = false := by simp; omega
        have HV : Hid (linePre h vs k = lineText h vs) := Lib.hid (by rw [linePre, if_neg hk0, ← hlen, List.take_length]; rfl)
        rw [HV.out]
        go_wp2_with fail
        go_ret
        exact ⟨rfl, HB.out⟩

/-- A slice of texts, as a call reads it. -/
structure RdS (w : World) (A : Option Addr) (n : Nat) (l : List (List UInt8)) : Prop where
  len : l.length = n
  cell : 0 < n → ∃ b o, A = some ⟨b, o, none⟩ ∧ ∀ j, j < n → w.cell? ⟨b, o + j, none⟩ = some (.string (S (l.getD j [])))
theorem RdS.below {w w' : World} {A : Option Addr} {n : Nat} {l : List (List UInt8)} (h : RdS w A n l) (hb : Below w.heap.size w w') : RdS w' A n l :=
  ⟨h.len, fun h0 => by
    obtain ⟨b, o, e, hc⟩ := h.cell h0
    exact ⟨b, o, e, fun j hj => cell_keep hb (hc j hj)⟩⟩
theorem RdS.of_own {w : World} {base e n : Nat} {v : Value} {l : List (List UInt8)} (h : w.ownsRow base e 1 v n (strs l)) : ∃ A cap, v = .slice A n cap ∧ RdS w A n l := by
  have hl : l.length = n := by have := h.1; simpa [strs] using this
  rcases h.2 with ⟨hv, h0⟩ | ⟨g, cap, cur, hv, _⟩
  · subst h0
    exact ⟨none, 0, hv, hl, fun h => absurd h (by omega)⟩
  · subst hv
    refine ⟨_, cap, rfl, hl, fun _ => ⟨g, 0, rfl, fun j hj => ?_⟩⟩
    exact own_strs h j (S (l.getD j [])) (by rw [List.getElem?_map, List.getD_eq_getElem?_getD, List.getElem?_eq_getElem (by omega)]; rfl)

set_option maxHeartbeats 4000000 in
set_option maxRecDepth 100000 in
theorem texts_same (A : Option Addr) (cap : Nat) (A2 : Option Addr) (cap2 n : Nat) (l : List (List UInt8)) (w : World) (h1 : RdS w A n l) (h2 : RdS w A2 n l) (hn : n ≤ 1000000000000000) :
    Calls Tryd.prog 12 #[.slice A n cap, .slice A2 n cap2] w fun e w' => e = .returned (.bool true) ∧ Below w.heap.size w w' := by
  have hmm : Tryd.prog.follows .mixedOrders = true := by kernel_rfl
  have R1 := Lib.hid h1
  have R2 := Lib.hid h2
  clear h1 h2
  go_enter Tryd.func12, Tryd.ntmps12
  go_wp2_with fail
  go_loopw [5] (fun i wr => ∃ k : Nat, k ≤ n ∧ i = .int .i64 k ∧ Hid (Below w.heap.size w wr)) (fun i _ => n - (intOf i).toNat)
  case atStart => exact ⟨0, by omega, rfl, Lib.hid (Below.refl _ _)⟩
  case round =>
    obtain ⟨k, hk, rfl, HB⟩ := hrel
    by_cases hlt : k < n
    · obtain ⟨b, o, rfl, hc1⟩ := (R1.out.below HB.out.drew).cell (by omega)
      obtain ⟨b2, o2, rfl, hc2⟩ := (R2.out.below HB.out.drew).cell (by omega)
      have e1 := hc1 k hlt
      have e2 := hc2 k hlt
      clear hc1 hc2
      obtain ⟨x, hx⟩ : ∃ x, x = l.getD k [] := ⟨_, rfl⟩
      rw [← hx] at e1 e2
      clear hx
      have i1 : (0 : Int) ≤ (k : Int) := by omega
      have i2 : (k : Int) < (n : Int) := by omega
      go_wp2_with fail
      refine wp_region_still_lit hmm (by kernel_rfl) ?_
      repeat still_step
      refine wpStill_nil ?_
      go_wp2_with fail
      go_roundw
      case rel => exact ⟨k + 1, by omega, by go_num, Lib.hid HB.out.drew⟩
      case measure => simp [intOf]; omega
    · obtain rfl : k = n := by omega
      go_wp2_with fail
      go_ret
      exact ⟨rfl, HB.out⟩
end Go.Proofs.YtbbdjfbhidpeiaaDoor
