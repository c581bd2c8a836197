/- A line: a head, and values. -/
import Derived.Test.YtbbdjfbhidpeiaaDoorOut1
import Derived.Test.YtbbdjfbhidpeiaaDoorOpenInts
namespace Go.Proofs.YtbbdjfbhidpeiaaDoor
open Go.RowKit

/-- A slice of values, as a call reads it. -/
structure RdV (w : World) (A : Option Addr) (n : Nat) (vs : List (Int × Int)) : Prop where
  len : vs.length = n
  max : n * 16 ≤ 140737488355328
  rng : ∀ v ∈ vs, Rng v.2
  cell : 0 < n → ∃ b o, A = some ⟨b, o, none⟩ ∧ b < w.heap.size ∧ ∀ j, j < n → w.cell? ⟨b, o + j * 2, none⟩ = some (.int .i64 (vs.getD j (0, 0)).1) ∧ w.cell? ⟨b, o + j * 2 + 1, none⟩ = some (.int .i64 (vs.getD j (0, 0)).2)
theorem RdV.below {w w' : World} {A : Option Addr} {n : Nat} {vs : List (Int × Int)} (h : RdV w A n vs) (hb : Below w.heap.size w w') : RdV w' A n vs :=
  ⟨h.len, h.max, h.rng, fun h0 => by
    obtain ⟨b, o, e, hlt, hc⟩ := h.cell h0
    exact ⟨b, o, e, by have := hb.size; omega, fun j hj => ⟨cell_keep hb (hc j hj).1, cell_keep hb (hc j hj).2⟩⟩⟩
theorem RdV.nil (w : World) (A : Option Addr) : RdV w A 0 [] := ⟨rfl, by omega, by simp, fun h => absurd h (by omega)⟩
def valsText (vs : List (Int × Int)) : List UInt8 := (vs.map fun v => 32 :: valText v.1 v.2).flatten
theorem vals_len {vs : List (Int × Int)} (h : ∀ v ∈ vs, Rng v.2) : (valsText vs).length ≤ 23 * vs.length := by
  induction vs with
  | nil => simp [valsText]
  | cons v vs ih =>
    have h1 := ih fun x hx => h x (List.mem_cons_of_mem _ hx)
    have h2 := val_len (k := v.1) (h v (List.mem_cons_self))
    simp only [valsText, List.map_cons, List.flatten_cons, List.length_append, List.length_cons] at h1 ⊢
    omega
theorem vals_more {vs : List (Int × Int)} {n k : Nat} (hl : vs.length = n) (hk : k < n) : valsText (vs.take (k + 1)) = valsText (vs.take k) ++ (32 :: valText (vs.getD k (0, 0)).1 (vs.getD k (0, 0)).2) := by
  have hv : vs[k]? = some (vs.getD k (0, 0)) := by rw [List.getD_eq_getElem?_getD, List.getElem?_eq_getElem (by omega)]; rfl
  rw [List.take_add_one, hv]
  simp [valsText]
def lineText (h : List UInt8) (vs : List (Int × Int)) : List UInt8 := h ++ [58] ++ valsText vs

set_option maxHeartbeats 8000000 in
set_option maxRecDepth 100000 in
theorem line_any (h : List UInt8) (hh : h.length ≤ 100) (A : Option Addr) (n cap : Nat) (vs : List (Int × Int)) (w : World) (hr : RdV w A n vs) (ht : Tab w) :
    Calls Tryd.prog 17 #[.string (S h), .slice A n cap] w fun e w' => e = .returned (.string (S (lineText h vs))) ∧ Below w.heap.size w w' := by
  have hmax := hr.max
  have hlen := hr.len
  have R0 := Lib.hid hr
  have T0 := Lib.hid ht
  have g0 : ¬ 9223372036854775807 < (S h).size + 1 := by rw [S_size]; omega
  have q0 : S h ++ (⟨#[58]⟩ : ByteArray) = S (h ++ [58]) := S_app h [58]
  clear hr ht
  go_enter Tryd.func17, Tryd.ntmps17
  go_wp2_with fail
  clear g0 q0
  go_loopw [5, 12] (fun v i wr => ∃ k : Nat, k ≤ n ∧ i = .int .i64 k ∧ v = .string (S (h ++ [58] ++ valsText (vs.take k))) ∧ Hid (Below w.heap.size w wr)) (fun _ i _ => n - (intOf i).toNat)
  case atStart => exact ⟨0, by omega, rfl, by simp [valsText], Lib.hid (Below.refl _ _)⟩
  case round =>
    obtain ⟨k, hk, rfl, rfl, HB⟩ := hrel
    by_cases hlt : k < n
    · have HM := Lib.hid (vals_more hlen hlt)
      have hvl := vals_len (vs := vs.take k) fun v hv => R0.out.rng v (List.mem_of_mem_take hv)
      have htl : (vs.take k).length = k := by simp; omega
      obtain ⟨b, o, rfl, _, hcell⟩ := (R0.out.below HB.out).cell (by omega)
      obtain ⟨hc0, hc1⟩ := hcell k hlt
      clear hcell
      have HR : Hid (Rng (vs.getD k (0, 0)).2) := Lib.hid (R0.out.rng _ (by rw [List.getD_eq_getElem?_getD, List.getElem?_eq_getElem (by omega)]; exact List.getElem_mem _))
      obtain ⟨x, hx⟩ : ∃ x, x = (vs.getD k (0, 0)).1 := ⟨_, rfl⟩
      obtain ⟨y, hy⟩ : ∃ y, y = (vs.getD k (0, 0)).2 := ⟨_, rfl⟩
      rw [← hx] at hc0 HM
      rw [← hy] at hc1 HR HM
      clear hx hy
      have hvt := val_len (k := x) HR.out
      have TR := Lib.hid (T0.out.keep HB.out)
      obtain ⟨cur, hcur⟩ : ∃ cur, cur = h ++ [58] ++ valsText (vs.take k) := ⟨_, rfl⟩
      have hcl : cur.length ≤ 101 + 23 * k := by rw [hcur]; simp only [List.length_append, List.length_cons, List.length_nil]; omega
      rw [← hcur]
      obtain ⟨z, hz⟩ : ∃ z, z = 32 :: valText x y := ⟨_, rfl⟩
      have hzl : z.length ≤ 23 := by rw [hz]; simp; omega
      have g1 : ¬ 9223372036854775807 < 1 + (S (valText x y)).size := by rw [S_size]; omega
      have g2 : ¬ 9223372036854775807 < (S cur).size + (S z).size := by rw [S_size, S_size]; omega
      have q1 : (⟨#[32]⟩ : ByteArray) ++ S (valText x y) = S z := by rw [hz]; exact S_app [32] _
      have q2 : S cur ++ S z = S (cur ++ z) := S_app _ _
      have HE : Hid (cur ++ z = h ++ [58] ++ valsText (vs.take (k + 1))) := Lib.hid (by rw [HM.out, hz, hcur, List.append_assoc])
      clear hvt hcl hzl hz hcur hvl htl HM
      go_wp2_with (go_at_call 10; refine (value_any x y HR.out _ (TR.out.keep (below_alloc0 _ _))).mono ?_; rintro e w6 ⟨rfl, hb6⟩)
      rw [HE.out]
      go_roundw
      case rel => exact ⟨k + 1, by omega, by go_num, rfl, Lib.hid (below_next HB.out (below_next (below_alloc0 _ _) hb6))⟩
      case measure => simp [intOf]; omega
    · obtain rfl : k = n := by omega
      clear hk hlt
      have HT : Hid (vs.take k = vs) := Lib.hid (by rw [← hlen, List.take_length])
      go_wp2_with fail
      go_ret
      exact ⟨ret_str (by first | (rw [HT.out]; rfl) | skip), HB.out⟩
end Go.Proofs.YtbbdjfbhidpeiaaDoor
