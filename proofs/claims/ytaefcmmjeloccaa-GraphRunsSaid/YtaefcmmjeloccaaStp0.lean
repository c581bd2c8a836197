/- What a step is, in plain numbers: whether it may be, and its octets. -/
import Derived.Test.YtaefcmmjeloccaaKit2
namespace Go.Proofs.Ytaefcmmjeloccaa
open Go.RowKit

/-- A number's octets, the highest first. -/
def beI (n : Int) : Nat → List Int
  | 0 => []
  | k + 1 => n / 2 ^ (8 * k) % 256 :: beI n k
def beV (n : Int) (k : Nat) : List Value := (beI n k).map (Value.int .u8)
theorem beI_len (n : Int) : ∀ k, (beI n k).length = k
  | 0 => rfl
  | k + 1 => by simp [beI, beI_len n k]
theorem beI_byte (n : Int) : ∀ k, ∀ x ∈ beI n k, 0 ≤ x ∧ x ≤ 255
  | 0 => by simp [beI]
  | k + 1 => by
    intro x hx
    simp only [beI, List.mem_cons] at hx
    rcases hx with rfl | hx
    · omega
    · exact beI_byte n k x hx

/-- The number of octets, the highest first. -/
def valI : List Int → Int := List.foldl (fun n x => n * 256 + x) 0
theorem valI_snoc (xs : List Int) (x : Int) : valI (xs ++ [x]) = valI xs * 256 + x := by simp [valI, List.foldl_append]
theorem valI_take (xs : List Int) (j : Nat) (h : j < xs.length) : valI (xs.take (j + 1)) = valI (xs.take j) * 256 + xs.getD j 0 := by
  rw [List.take_succ_eq_append_getElem h, valI_snoc, List.getD_eq_getElem?_getD, List.getElem?_eq_getElem h]; rfl
theorem valI_bd {xs : List Int} (hb : ∀ x ∈ xs, 0 ≤ x ∧ x ≤ 255) : ∀ j, j ≤ xs.length → 0 ≤ valI (xs.take j) ∧ valI (xs.take j) < 256 ^ j := by
  intro j
  induction j with
  | zero => intro _; simp [valI]
  | succ j ih =>
    intro h
    have := ih (by omega)
    have hx := getD_byte hb j
    rw [valI_take xs j (by omega), Int.pow_succ]
    omega
theorem back8 {n : Int} (h0 : -9223372036854775808 ≤ n) (h1 : n ≤ 9223372036854775807) : wrap64 (valI (beI n 8)) = n := by
  simp only [beI, valI, List.foldl_cons, List.foldl_nil, wrap64]
  omega
theorem forth8 {xs : List Int} (hl : xs.length = 8) (hb : ∀ x ∈ xs, 0 ≤ x ∧ x ≤ 255) : beI (wrap64 (valI xs)) 8 = xs := by
  match xs, hl with
  | [a, b, c, d, e, f, g, h], _ =>
    simp only [List.mem_cons, List.not_mem_nil, or_false, forall_eq_or_imp, forall_eq] at hb
    simp only [beI, valI, List.foldl_cons, List.foldl_nil, wrap64, List.cons.injEq, and_true]
    omega
theorem back2 {n : Int} (h0 : 0 ≤ n) (h1 : n ≤ 65535) : wrap64 (valI (beI n 2)) = n := by
  simp only [beI, valI, List.foldl_cons, List.foldl_nil, wrap64]
  omega
theorem forth2 {xs : List Int} (hl : xs.length = 2) (hb : ∀ x ∈ xs, 0 ≤ x ∧ x ≤ 255) : beI (wrap64 (valI xs)) 2 = xs := by
  match xs, hl with
  | [a, b], _ =>
    simp only [List.mem_cons, List.not_mem_nil, or_false, forall_eq_or_imp, forall_eq] at hb
    simp only [beI, valI, List.foldl_cons, List.foldl_nil, wrap64, List.cons.injEq, and_true]
    omega
theorem val2 {xs : List Int} (hl : xs.length = 2) (hb : ∀ x ∈ xs, 0 ≤ x ∧ x ≤ 255) : 0 ≤ wrap64 (valI xs) ∧ wrap64 (valI xs) ≤ 65535 := by
  match xs, hl with
  | [a, b], _ =>
    simp only [List.mem_cons, List.not_mem_nil, or_false, forall_eq_or_imp, forall_eq] at hb
    simp only [valI, List.foldl_cons, List.foldl_nil, wrap64]
    omega

structure Stp where
  k : Int
  t : Int
  i : Int
  f : Int
  j : Int
  c : Int
  n : Int

namespace Stp
def cells (x : Stp) : Array Value := #[.int .i64 x.k, .int .i64 x.t, .int .i64 x.i, .int .i64 x.f, .int .i64 x.j, .int .i64 x.c, .int .i64 x.n]
theorem get (x : Stp) : x.cells[0]? = some (.int .i64 x.k) ∧ x.cells[1]? = some (.int .i64 x.t) ∧ x.cells[2]? = some (.int .i64 x.i) ∧ x.cells[3]? = some (.int .i64 x.f) ∧ x.cells[4]? = some (.int .i64 x.j) ∧ x.cells[5]? = some (.int .i64 x.c) ∧ x.cells[6]? = some (.int .i64 x.n) :=
  ⟨rfl, rfl, rfl, rfl, rfl, rfl, rfl⟩
/-- The fields that stand in one octet, but the kind. -/
def fld (x : Stp) : Nat → Int
  | 0 => x.t | 1 => x.i | 2 => x.f | 3 => x.j | _ => x.c
def small (x : Stp) : Array Value := #[.int .i64 x.t, .int .i64 x.i, .int .i64 x.f, .int .i64 x.j, .int .i64 x.c]
/-- Which fields a kind has: T, I, F, J, Cost, N. -/
def has (k : Int) : Nat → Bool
  | 0 => k != 16 && k != 17
  | 1 => k == 7 || (decide (9 ≤ k) && decide (k ≤ 12))
  | 2 => k == 9 || k == 10
  | 3 => k == 10 || k == 11
  | 4 => k == 3 || k == 15
  | _ => k == 3 || k == 4 || k == 13 || k == 15 || k == 16
/-- .. as cells. -/
def hasV (k : Int) : Array Value := #[.bool (has k 0), .bool (has k 1), .bool (has k 2), .bool (has k 3), .bool (has k 4), .bool (has k 5)]
/-- .. as a word. -/
def hasW : Nat → Int
  | 0 => 0 | 1 => 1 | 2 => 1 | 3 => 49 | 4 => 33 | 5 => 1 | 6 => 1 | 7 => 3 | 8 => 1 | 9 => 7 | 10 => 15 | 11 => 11 | 12 => 3 | 13 => 33 | 14 => 1 | 15 => 49 | 16 => 32 | _ => 0
theorem small_get (x : Stp) : ∀ j : Nat, j < 5 → x.small[j]? = some (.int .i64 (x.fld j))
  | 0, _ | 1, _ | 2, _ | 3, _ | 4, _ => rfl
  | _ + 5, h => absurd h (by omega)
theorem hasV_get (k : Int) : ∀ j : Nat, j < 6 → (hasV k)[j]? = some (.bool (has k j))
  | 0, _ | 1, _ | 2, _ | 3, _ | 4, _ | 5, _ => rfl
  | _ + 6, h => absurd h (by omega)
theorem hasW_le : ∀ k, 0 ≤ hasW k ∧ hasW k ≤ 63 := by
  intro k
  unfold hasW
  split <;> omega
theorem hasW_bit : ∀ k, k < 18 → 1 ≤ k → ∀ j, j < 5 → (bits BinOp.and IntKind.i64 (hasW k / 2 ^ j) 1 == 0) = !(has (k : Int) j) := by decide +kernel
theorem hasW_n : ∀ k, k < 18 → 1 ≤ k → (bits BinOp.and IntKind.i64 (hasW k) 32 == 0) = !(has (k : Int) 5) := by decide +kernel
/-- All small fields are octets. -/
def rng (x : Stp) : Prop := ∀ j, j < 5 → 0 ≤ x.fld j ∧ x.fld j ≤ 255
/-- No small field stands where the kind has none. -/
def fit (x : Stp) : Prop := ∀ j, j < 5 → x.fld j = 0 ∨ has x.k j = true
instance (x : Stp) : Decidable x.rng := by unfold rng; infer_instance
instance (x : Stp) : Decidable x.fit := by unfold fit; infer_instance
/-- Whether a step may be: an error's number, or 0. -/
def check (x : Stp) : Int :=
  if x.k < 1 ∨ 17 < x.k then 12 else if ¬ x.rng then 4 else if ¬ x.fit then 16 else if x.n ≠ 0 ∧ has x.k 5 = false then 16 else 0
theorem check_kind {x : Stp} (h : x.k < 1 ∨ 17 < x.k) : x.check = 12 := by unfold check; rw [if_pos h]
theorem check_rng {x : Stp} (h : 1 ≤ x.k ∧ x.k ≤ 17) {j : Nat} (hj : j < 5) (hb : x.fld j < 0 ∨ 255 < x.fld j) : x.check = 4 := by
  unfold check
  rw [if_neg (by omega), if_pos (fun hr => by have := hr j hj; omega)]
theorem check_fit {x : Stp} (h : 1 ≤ x.k ∧ x.k ≤ 17) (hr : x.rng) {j : Nat} (hj : j < 5) (hb : x.fld j ≠ 0) (hh : has x.k j = false) : x.check = 16 := by
  unfold check
  rw [if_neg (by omega), if_neg (by simpa using hr), if_pos (fun hf => by have := hf j hj; simp [hh] at this; exact hb this)]
theorem check_n {x : Stp} (h : 1 ≤ x.k ∧ x.k ≤ 17) (hr : x.rng) (hf : x.fit) (hb : x.n ≠ 0) (hh : has x.k 5 = false) : x.check = 16 := by
  unfold check
  rw [if_neg (by omega), if_neg (by simpa using hr), if_neg (by simpa using hf), if_pos ⟨hb, hh⟩]
theorem check_ok {x : Stp} (h : 1 ≤ x.k ∧ x.k ≤ 17) (hr : x.rng) (hf : x.fit) (hb : ¬ (x.n ≠ 0 ∧ has x.k 5 = false)) : x.check = 0 := by
  unfold check
  rw [if_neg (by omega), if_neg (by simpa using hr), if_neg (by simpa using hf), if_neg hb]
theorem check_zero {x : Stp} (h : x.check = 0) : (1 ≤ x.k ∧ x.k ≤ 17) ∧ x.rng ∧ x.fit := by
  unfold check at h
  split at h
  · omega
  · split at h
    · omega
    · rename_i h1 h2
      split at h
      · omega
      · rename_i h3
        exact ⟨by omega, Decidable.not_not.1 h2, Decidable.not_not.1 h3⟩
/-- The small fields, as octets' cells. -/
def smallV (x : Stp) : List Value := [.int .u8 x.t, .int .u8 x.i, .int .u8 x.f, .int .u8 x.j, .int .u8 x.c]
theorem smallV_step (x : Stp) : ∀ j, j < 5 → x.smallV.take (j + 1) = x.smallV.take j ++ [.int .u8 (x.fld j)]
  | 0, _ | 1, _ | 2, _ | 3, _ | 4, _ => rfl
  | _ + 5, h => absurd h (by omega)
/-- A step's octets. -/
def octs (x : Stp) : List Int := [x.k % 256, x.t % 256, x.i % 256, x.f % 256, x.j % 256, x.c % 256] ++ beI x.n 8
theorem octs_len (x : Stp) : x.octs.length = 14 := by simp [octs, beI_len]
theorem octs_byte (x : Stp) : ∀ y ∈ x.octs, 0 ≤ y ∧ y ≤ 255 := by
  intro y hy
  simp only [octs, List.mem_append, List.mem_cons, List.not_mem_nil, or_false] at hy
  rcases hy with (rfl | rfl | rfl | rfl | rfl | rfl) | hy
  · omega
  · omega
  · omega
  · omega
  · omega
  · omega
  · exact beI_byte x.n 8 y hy
def octV (x : Stp) : List Value := x.octs.map (Value.int .u8)
theorem octV_eq (x : Stp) : x.octV = [.int .u8 (x.k % 256), .int .u8 (x.t % 256), .int .u8 (x.i % 256), .int .u8 (x.f % 256), .int .u8 (x.j % 256), .int .u8 (x.c % 256)] ++ beV x.n 8 := by
  simp [octV, octs, beV]
/-- The step of fourteen octets. -/
def ofB (xs : List Int) : Stp := ⟨xs.getD 0 0, xs.getD 1 0, xs.getD 2 0, xs.getD 3 0, xs.getD 4 0, xs.getD 5 0, wrap64 (valI (xs.drop 6))⟩
def zero : Stp := ⟨0, 0, 0, 0, 0, 0, 0⟩
theorem forth {xs : List Int} (hl : xs.length = 14) (hb : ∀ x ∈ xs, 0 ≤ x ∧ x ≤ 255) : (ofB xs).octs = xs := by
  match xs, hl with
  | a :: b :: c :: d :: e :: f :: ys, hl =>
    have h8 : ys.length = 8 := by simpa using hl
    have hy : ∀ x ∈ ys, 0 ≤ x ∧ x ≤ 255 := fun x hx => hb x (by simp [hx])
    simp only [List.mem_cons, forall_eq_or_imp] at hb
    simp only [octs, ofB, List.drop_succ_cons, List.drop_zero, forth8 h8 hy]
    simp
    omega
theorem back {x : Stp} (h0 : x.check = 0) (h1 : -9223372036854775808 ≤ x.n) (h2 : x.n ≤ 9223372036854775807) : ofB x.octs = x := by
  obtain ⟨hk, hr, _⟩ := check_zero h0
  have r0 := hr 0 (by omega)
  have r1 := hr 1 (by omega)
  have r2 := hr 2 (by omega)
  have r3 := hr 3 (by omega)
  have r4 := hr 4 (by omega)
  clear h0 hr
  obtain ⟨k, t, i, f, j, c, n⟩ := x
  simp only [fld] at r0 r1 r2 r3 r4
  simp only [] at hk h1 h2
  simp only [ofB, octs, List.cons_append, List.nil_append, List.drop_succ_cons, List.drop_zero, back8 h1 h2]
  simp
  omega
/-- What reading comes to. -/
def readR (x : Stp) : Array Value := if x.check = 0 then #[.agg x.cells, .int .i64 0] else #[.agg zero.cells, .int .i64 x.check]
theorem readR_ok {x : Stp} (h : x.check = 0) : x.readR = #[.agg x.cells, .int .i64 0] := if_pos h
theorem readR_bad {x : Stp} (h : x.check ≠ 0) : x.readR = #[.agg zero.cells, .int .i64 x.check] := if_neg h
end Stp
end Go.Proofs.Ytaefcmmjeloccaa
