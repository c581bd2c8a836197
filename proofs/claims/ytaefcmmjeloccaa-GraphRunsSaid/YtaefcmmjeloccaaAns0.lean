/- What an answer is, in plain numbers; its octets. -/
import Derived.Test.YtaefcmmjeloccaaStp0
namespace Go.Proofs.Ytaefcmmjeloccaa
open Go.RowKit

structure Ans where
  e : Int
  k : Int
  n : Int
  d : Int
  c : Int

namespace Ans
def cells (x : Ans) : Array Value := #[.int .i64 x.e, .int .i64 x.k, .int .i64 x.n, .int .i64 x.d, .int .i64 x.c]
def good (x : Ans) : Prop := (0 ≤ x.e ∧ x.e ≤ 255) ∧ (0 ≤ x.k ∧ x.k ≤ 255) ∧ (0 ≤ x.d ∧ x.d ≤ 65535) ∧ (0 ≤ x.c ∧ x.c ≤ 65535)
def octs (x : Ans) : List Int := [x.e, x.k] ++ beI x.n 8 ++ beI x.d 2 ++ beI x.c 2
def octV (x : Ans) : List Value := x.octs.map (Value.int .u8)
theorem octs_len (x : Ans) : x.octs.length = 14 := by simp [octs, beI_len]
theorem octs_byte {x : Ans} (h : x.good) : ∀ y ∈ x.octs, 0 ≤ y ∧ y ≤ 255 := by
  intro y hy
  obtain ⟨h1, h2, h3, h4⟩ := h
  simp only [octs, List.mem_append, List.mem_cons, List.not_mem_nil, or_false] at hy
  rcases hy with (((rfl | rfl) | hy) | hy) | hy
  · omega
  · omega
  · exact beI_byte x.n 8 y hy
  · exact beI_byte x.d 2 y hy
  · exact beI_byte x.c 2 y hy
theorem octV_eq (x : Ans) : x.octV = [.int .u8 x.e, .int .u8 x.k] ++ beV x.n 8 ++ beV x.d 2 ++ beV x.c 2 := by simp [octV, octs, beV]
def zero : Ans := ⟨0, 0, 0, 0, 0⟩
/-- The answer of fourteen octets. -/
def ofB (xs : List Int) : Ans := ⟨xs.getD 0 0, xs.getD 1 0, wrap64 (valI ((xs.drop 2).take 8)), wrap64 (valI ((xs.drop 10).take 2)), wrap64 (valI (xs.drop 12))⟩
theorem back {x : Ans} (h : x.good) (h1 : -9223372036854775808 ≤ x.n) (h2 : x.n ≤ 9223372036854775807) : ofB x.octs = x := by
  obtain ⟨e, k, n, d, c⟩ := x
  obtain ⟨g1, g2, g3, g4⟩ := h
  simp only [] at g1 g2 g3 g4 h1 h2
  have e1 : (List.drop 2 ([e, k] ++ beI n 8 ++ beI d 2 ++ beI c 2)).take 8 = beI n 8 := by simp [beI]
  have e2 : (List.drop 10 ([e, k] ++ beI n 8 ++ beI d 2 ++ beI c 2)).take 2 = beI d 2 := by simp [beI]
  have e3 : List.drop 12 ([e, k] ++ beI n 8 ++ beI d 2 ++ beI c 2) = beI c 2 := by simp [beI]
  simp only [ofB, octs, e1, e2, e3, back8 h1 h2, back2 g3.1 g3.2, back2 g4.1 g4.2]
  simp
theorem ofB_good {xs : List Int} (hl : xs.length = 14) (hb : ∀ x ∈ xs, 0 ≤ x ∧ x ≤ 255) : (ofB xs).good := by
  have d2 : ((xs.drop 10).take 2).length = 2 := by simp [hl]
  have c2 : (xs.drop 12).length = 2 := by simp [hl]
  exact ⟨getD_byte hb 0, getD_byte hb 1, val2 d2 (fun x hx => hb x (List.mem_of_mem_drop (List.mem_of_mem_take hx))), val2 c2 (fun x hx => hb x (List.mem_of_mem_drop hx))⟩
theorem forth {xs : List Int} (hl : xs.length = 14) (hb : ∀ x ∈ xs, 0 ≤ x ∧ x ≤ 255) : (ofB xs).octs = xs := by
  have n8 : ((xs.drop 2).take 8).length = 8 := by simp [hl]
  have d2 : ((xs.drop 10).take 2).length = 2 := by simp [hl]
  have c2 : (xs.drop 12).length = 2 := by simp [hl]
  simp only [ofB, octs]
  rw [forth8 n8 (fun x hx => hb x (List.mem_of_mem_drop (List.mem_of_mem_take hx))), forth2 d2 (fun x hx => hb x (List.mem_of_mem_drop (List.mem_of_mem_take hx))), forth2 c2 (fun x hx => hb x (List.mem_of_mem_drop hx))]
  match xs, hl with
  | [a0, a1, a2, a3, a4, a5, a6, a7, a8, a9, a10, a11, a12, a13], _ => rfl
/-- The octets as the law has them: of a step with code, kind and number, without four. -/
theorem octs_law {x : Ans} (h : x.good) : (Stp.octs ⟨x.e, x.k, 0, 0, 0, 0, x.n⟩).take 2 ++ (Stp.octs ⟨x.e, x.k, 0, 0, 0, 0, x.n⟩).drop 6 ++ [x.d / 256, x.d % 256, x.c / 256, x.c % 256] = x.octs := by
  obtain ⟨h1, h2, h3, h4⟩ := h
  simp only [Stp.octs, octs, beI]
  simp
  omega
end Ans
end Go.Proofs.Ytaefcmmjeloccaa
