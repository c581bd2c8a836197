/- What a config is, in plain numbers: which field is the first wrong one. -/
import Derived.Test.YtaefcmmjeloccaaKit
namespace Go.Proofs.Ytaefcmmjeloccaa
open Go.RowKit

/-- A number, between two. -/
def clampI (n lo hi : Int) : Int := if n < lo then lo else if hi < n then hi else n

structure Cfg where
  p : Int
  t : Int
  w : Int
  q : Int
  g : Int
  cap : Int
  tax : Int
  ch : Int
  st : Int
  tr : Int

namespace Cfg
def cells (c : Cfg) : Array Value := #[.int .i64 c.p, .int .i64 c.t, .int .i64 c.w, .int .i64 c.q, .int .i64 c.g, .int .i64 c.cap, .int .i64 c.tax, .int .i64 c.ch, .int .i64 c.st, .int .i64 c.tr]
/-- The k-th field, from 0 on. -/
def fld (c : Cfg) : Nat → Int
  | 0 => c.p | 1 => c.t | 2 => c.w | 3 => c.q | 4 => c.g | 5 => c.cap | 6 => c.tax | 7 => c.ch | 8 => c.st | _ => c.tr
def lo : Nat → Int
  | 0 => 2 | 1 => 1 | 2 => 1 | 3 => 1 | 4 => 0 | 5 => 0 | 6 => 0 | 7 => 1 | 8 => 1 | _ => 0
def hi : Nat → Int
  | 0 => 64 | 1 => 8 | 2 => 64 | 3 => 16 | 4 => 1000 | 5 => 65535 | 6 => 64 | 7 => 16 | 8 => 256 | _ => 64
def bad (c : Cfg) (k : Nat) : Prop := c.fld k < lo k ∨ hi k < c.fld k
instance (c : Cfg) (k : Nat) : Decidable (c.bad k) := by unfold bad; infer_instance
/-- The first of some fields that is wrong, from one on. -/
def first (c : Cfg) : Nat → Nat → Int
  | 0, _ => if c.w * (1000 - c.g) < 1000 * c.q then 11 else 0
  | n + 1, k => if c.bad k then (k : Int) + 1 else first c n (k + 1)
/-- The first field that is wrong; 0: none. -/
def wrong (c : Cfg) : Int := c.first 10 0

/-- The octets of the first k fields. -/
def bytes (c : Cfg) : Nat → List Int
  | 0 => []
  | k + 1 => bytes c k ++ [c.fld k / 256 % 256, c.fld k % 256]
theorem bytes_len (c : Cfg) : ∀ k, (bytes c k).length = 2 * k
  | 0 => rfl
  | k + 1 => by simp [bytes, bytes_len c k]; omega
theorem bytes_byte (c : Cfg) : ∀ k, ∀ x ∈ bytes c k, 0 ≤ x ∧ x ≤ 255
  | 0 => by simp [bytes]
  | k + 1 => by
    intro x hx
    simp only [bytes, List.mem_append, List.mem_cons, List.not_mem_nil, or_false] at hx
    rcases hx with hx | rfl | rfl
    · exact bytes_byte c k x hx
    · omega
    · omega
/-- .. as cells. -/
def octs (c : Cfg) (k : Nat) : List Value := (bytes c k).map (Value.int .u8)
theorem octs_step (c : Cfg) (k : Nat) : octs c (k + 1) = octs c k ++ [.int .u8 (c.fld k / 256 % 256), .int .u8 (c.fld k % 256)] := by simp [octs, bytes]
/-- The config of twenty octets, its first k fields; the others are 0. -/
def num (xs : List Int) (k j : Nat) : Int := if j < k then xs.getD (2 * j) 0 * 256 + xs.getD (2 * j + 1) 0 else 0
def part (xs : List Int) (k : Nat) : Cfg := ⟨num xs k 0, num xs k 1, num xs k 2, num xs k 3, num xs k 4, num xs k 5, num xs k 6, num xs k 7, num xs k 8, num xs k 9⟩
def zero : Cfg := ⟨0, 0, 0, 0, 0, 0, 0, 0, 0, 0⟩
theorem part_zero (xs : List Int) : part xs 0 = zero := rfl
theorem num_same (xs : List Int) (k : Nat) : num xs (k + 1) k = xs.getD (2 * k) 0 * 256 + xs.getD (2 * k + 1) 0 := by unfold num; rw [if_pos (by omega)]
theorem num_other (xs : List Int) (k j : Nat) (h : j ≠ k) : num xs (k + 1) j = num xs k j := by
  unfold num
  by_cases e : j < k
  · rw [if_pos e, if_pos (by omega)]
  · rw [if_neg e, if_neg (by omega)]
theorem part_step (xs : List Int) : ∀ k, k < 10 → (part xs k).cells.setIfInBounds k (.int .i64 (xs.getD (2 * k) 0 * 256 + xs.getD (2 * k + 1) 0)) = (part xs (k + 1)).cells := by
  intro k hk
  rw [← num_same]
  match k, hk with
  | 0, _ | 1, _ | 2, _ | 3, _ | 4, _ | 5, _ | 6, _ | 7, _ | 8, _ | 9, _ =>
    simp only [part, cells]
    simp only [List.setIfInBounds_toArray]
    simp [num_other]
theorem clamp_bad {c : Cfg} {k : Nat} (h : c.bad k) : (clampI (c.fld k) (lo k) (hi k) != c.fld k) = true := by
  rw [bne_iff_ne]; unfold clampI; unfold bad at h
  split
  · omega
  · split <;> omega
theorem clamp_fine {c : Cfg} {k : Nat} (h : ¬ c.bad k) : (clampI (c.fld k) (lo k) (hi k) != c.fld k) = false := by
  unfold clampI; unfold bad at h
  rw [if_neg (by omega), if_neg (by omega)]; simp
theorem first_from (c : Cfg) : ∀ (k n : Nat), n + k = 10 → (∀ j, j < k → ¬ c.bad j) → c.wrong = c.first n k := by
  intro k
  induction k with
  | zero => intro n hn _; obtain rfl : n = 10 := by omega
            rfl
  | succ k ih =>
    intro n hn h
    rw [ih (n + 1) (by omega) (fun j hj => h j (by omega))]
    show (if c.bad k then (k : Int) + 1 else first c n (k + 1)) = _
    rw [if_neg (h k (by omega))]
theorem wrong_bad {c : Cfg} {k : Nat} (hk : k < 10) (h : ∀ j, j < k → ¬ c.bad j) (hb : c.bad k) : c.wrong = (k : Int) + 1 := by
  obtain ⟨n, hn⟩ : ∃ n, n + 1 + k = 10 := ⟨9 - k, by omega⟩
  rw [first_from c k (n + 1) hn h]
  show (if c.bad k then (k : Int) + 1 else first c n (k + 1)) = _
  rw [if_pos hb]
theorem wrong_fine {c : Cfg} (h : ∀ j, j < 10 → ¬ c.bad j) : c.wrong = if c.w * (1000 - c.g) < 1000 * c.q then 11 else 0 := first_from c 10 0 rfl h
/-- All fields are between their bounds. -/
structure Fine (c : Cfg) : Prop where
  p : 2 ≤ c.p ∧ c.p ≤ 64
  t : 1 ≤ c.t ∧ c.t ≤ 8
  w : 1 ≤ c.w ∧ c.w ≤ 64
  q : 1 ≤ c.q ∧ c.q ≤ 16
  g : 0 ≤ c.g ∧ c.g ≤ 1000
  cap : 0 ≤ c.cap ∧ c.cap ≤ 65535
  tax : 0 ≤ c.tax ∧ c.tax ≤ 64
  ch : 1 ≤ c.ch ∧ c.ch ≤ 16
  st : 1 ≤ c.st ∧ c.st ≤ 256
  tr : 0 ≤ c.tr ∧ c.tr ≤ 64
theorem not_bad {c : Cfg} {k : Nat} (h : ¬ c.bad k) : lo k ≤ c.fld k ∧ c.fld k ≤ hi k := by unfold bad at h; omega
theorem fine_of {c : Cfg} (h : ∀ j, j < 10 → ¬ c.bad j) : c.Fine :=
  ⟨not_bad (h 0 (by omega)), not_bad (h 1 (by omega)), not_bad (h 2 (by omega)), not_bad (h 3 (by omega)), not_bad (h 4 (by omega)), not_bad (h 5 (by omega)), not_bad (h 6 (by omega)), not_bad (h 7 (by omega)), not_bad (h 8 (by omega)), not_bad (h 9 (by omega))⟩
theorem Fine.none {c : Cfg} (h : c.Fine) : ∀ j, j < 10 → ¬ c.bad j := by
  intro j hj
  have hb : lo j ≤ c.fld j ∧ c.fld j ≤ hi j := by
    match j, hj with
    | 0, _ => exact h.p
    | 1, _ => exact h.t
    | 2, _ => exact h.w
    | 3, _ => exact h.q
    | 4, _ => exact h.g
    | 5, _ => exact h.cap
    | 6, _ => exact h.tax
    | 7, _ => exact h.ch
    | 8, _ => exact h.st
    | 9, _ => exact h.tr
  unfold bad; omega
/-- What a window leaves: a product with its bounds. -/
theorem Fine.left {c : Cfg} (h : c.Fine) : 0 ≤ c.w * (1000 - c.g) ∧ c.w * (1000 - c.g) ≤ 64000 := by
  have h1 := h.w
  have h2 := h.g
  refine ⟨Int.mul_nonneg (by omega) (by omega), ?_⟩
  have := Int.mul_le_mul (a := c.w) (b := 1000 - c.g) (c := 64) (d := 1000) (by omega) (by omega) (by omega) (by omega)
  omega
theorem wrong_zero {c : Cfg} (h : c.wrong = 0) : c.Fine ∧ 1000 * c.q ≤ c.w * (1000 - c.g) := by
  have hn : ∀ k, k ≤ 10 → ∀ j, j < k → ¬ c.bad j := by
    intro k
    induction k with
    | zero => intro _ j hj; omega
    | succ k ih =>
      intro hk j hj
      by_cases e : j < k
      · exact ih (by omega) j e
      · obtain rfl : j = k := by omega
        intro hb
        rw [wrong_bad (by omega) (ih (by omega)) hb] at h
        omega
  refine ⟨fine_of (hn 10 (by omega)), ?_⟩
  rw [wrong_fine (hn 10 (by omega))] at h
  split at h <;> omega
theorem Fine.fld {c : Cfg} (h : c.Fine) (k : Nat) (hk : k < 10) : 0 ≤ c.fld k ∧ c.fld k ≤ 65535 := by
  match k, hk with
  | 0, _ => have := h.p; simp only [Cfg.fld]; omega
  | 1, _ => have := h.t; simp only [Cfg.fld]; omega
  | 2, _ => have := h.w; simp only [Cfg.fld]; omega
  | 3, _ => have := h.q; simp only [Cfg.fld]; omega
  | 4, _ => have := h.g; simp only [Cfg.fld]; omega
  | 5, _ => have := h.cap; simp only [Cfg.fld]; omega
  | 6, _ => have := h.tax; simp only [Cfg.fld]; omega
  | 7, _ => have := h.ch; simp only [Cfg.fld]; omega
  | 8, _ => have := h.st; simp only [Cfg.fld]; omega
  | 9, _ => have := h.tr; simp only [Cfg.fld]; omega
/-- A config that may be comes back from its octets. -/
theorem back {c : Cfg} (h : c.Fine) : part (c.bytes 10) 10 = c := by
  have f0 := h.fld 0 (by omega)
  have f1 := h.fld 1 (by omega)
  have f2 := h.fld 2 (by omega)
  have f3 := h.fld 3 (by omega)
  have f4 := h.fld 4 (by omega)
  have f5 := h.fld 5 (by omega)
  have f6 := h.fld 6 (by omega)
  have f7 := h.fld 7 (by omega)
  have f8 := h.fld 8 (by omega)
  have f9 := h.fld 9 (by omega)
  obtain ⟨p, t, w, q, g, cap, tax, ch, st, tr⟩ := c
  simp only [Cfg.fld] at f0 f1 f2 f3 f4 f5 f6 f7 f8 f9
  simp only [part, num, bytes, Cfg.fld, Cfg.mk.injEq]
  simp
  omega
/-- Twenty octets come back from their config. -/
theorem forth {xs : List Int} (hl : xs.length = 20) (hb : ∀ x ∈ xs, 0 ≤ x ∧ x ≤ 255) : (part xs 10).bytes 10 = xs := by
  match xs, hl with
  | [a0, b0, a1, b1, a2, b2, a3, b3, a4, b4, a5, b5, a6, b6, a7, b7, a8, b8, a9, b9], _ =>
    simp only [List.mem_cons, List.not_mem_nil, or_false, forall_eq_or_imp, forall_eq] at hb
    simp only [part, num, bytes, Cfg.fld]
    simp
    omega
theorem wrong_zero_of {c : Cfg} (h : c.Fine) (h1 : 1000 * c.q ≤ c.w * (1000 - c.g)) : c.wrong = 0 := by
  rw [wrong_fine h.none, if_neg (by omega)]
theorem wrong_range (c : Cfg) : 0 ≤ c.wrong ∧ c.wrong ≤ 11 := by
  have : ∀ n k : Nat, n + k = 10 → 0 ≤ c.first n k ∧ c.first n k ≤ 11 := by
    intro n
    induction n with
    | zero => intro k _; unfold first; split <;> omega
    | succ n ih => intro k hk; unfold first; split
                   · omega
                   · exact ih (k + 1) (by omega)
  exact this 10 0 rfl
end Cfg
end Go.Proofs.Ytaefcmmjeloccaa
