/- What lies apart, and how it turns. -/
import Derived.Test.YtjoejjhgneccgaaGreatDoorQTN02
import Derived.Test.YtjoejjhgneccgaaGreatDoorQTN17
import Derived.WalkSmall
import Derived.Laws.BitsLemmas
namespace Go.Proofs.YtjoejjhgneccgaaGreatDoor
open Go.RowKit

/-- What a structure's call turns, and where it lies behind it. -/
structure Turn (fp fp' : List Nat) (w w' : World) : Prop where
  frm : Frm fp w w'
  fr : Fresh w.heap.size fp fp'
theorem Turn.refl (fp : List Nat) (w : World) : Turn fp fp w w := ⟨Frm.refl _ _, fun _ h => .inl h⟩
theorem Turn.of {fp : List Nat} {w w' : World} (h : Frm fp w w') : Turn fp fp w w' := ⟨h, fun _ h => .inl h⟩
theorem Turn.below {w w' : World} (fp : List Nat) (h : Below w.heap.size w w') : Turn fp fp w w' := .of (Frm.of_below fp h)
theorem Turn.trans {fp fp1 fp2 : List Nat} {w w1 w2 : World} (h : Turn fp fp1 w w1) (h2 : Turn fp1 fp2 w1 w2) : Turn fp fp2 w w2 :=
  ⟨h.frm.trans h2.frm h.fr, fun k hk => by
    rcases h2.fr k hk with h' | h'
    · exact h.fr k h'
    · have := h.frm.size; exact .inr (by omega)⟩
theorem Turn.sub {fp fp' gp gp' : List Nat} {w w' : World} (h : Turn fp fp' w w') (h1 : ∀ k ∈ fp, k ∈ gp) (h2 : ∀ k ∈ gp', k ∈ fp' ∨ k ∈ gp) : Turn gp gp' w w' :=
  ⟨h.frm.mono h1, fun k hk => by
    rcases h2 k hk with h' | h'
    · rcases h.fr k h' with h'' | h''
      · exact .inl (h1 k h'')
      · exact .inr h''
    · exact .inl h'⟩
/-- Seen from a place below. -/
theorem Turn.under {fp fp' : List Nat} {w w1 w' : World} (hb : Below w.heap.size w w1) (h : Turn fp fp' w1 w') : Turn fp fp' w w' := (Turn.below fp hb).trans h
theorem Turn.then {fp fp' : List Nat} {w w1 w' : World} (h : Turn fp fp' w w1) (hb : Below w1.heap.size w1 w') : Turn fp fp' w w' := h.trans (Turn.below fp' hb)
theorem Turn.size {fp fp' : List Nat} {w w' : World} (h : Turn fp fp' w w') : w.heap.size ≤ w'.heap.size := h.frm.size
theorem Turn.heap {fp fp' : List Nat} {w w' : World} (h : Turn fp fp' w w') {k : Nat} (hk : k < w.heap.size) (hn : k ∉ fp) : w'.heap[k]? = w.heap[k]? := h.frm.block k hk hn
/-- Parts that lie apart. -/
structure Parts (w : World) (fps : List (List Nat)) : Prop where
  lt : ∀ i, ∀ k ∈ fps.getD i [], k < w.heap.size
  ap : ∀ i j, i ≠ j → ∀ k ∈ fps.getD i [], k ∉ fps.getD j []
theorem Parts.nil (w : World) : Parts w [] := ⟨fun i k hk => by simp at hk, fun i j _ k hk => by simp at hk⟩
theorem Parts.grow {w w' : World} {fps : List (List Nat)} (h : Parts w fps) (hs : w.heap.size ≤ w'.heap.size) : Parts w' fps := ⟨fun i k hk => Nat.lt_of_lt_of_le (h.lt i k hk) hs, h.ap⟩
theorem Parts.snoc {w w' : World} {fps : List (List Nat)} {fp : List Nat} (h : Parts w fps) (hs : w.heap.size ≤ w'.heap.size) (h1 : ∀ k ∈ fp, w.heap.size ≤ k) (h2 : ∀ k ∈ fp, k < w'.heap.size) : Parts w' (fps ++ [fp]) := by
  have key : ∀ i, ((fps ++ [fp]).getD i [] = fps.getD i [] ∧ i < fps.length) ∨ ((fps ++ [fp]).getD i [] = fp ∧ i = fps.length) ∨ (fps ++ [fp]).getD i [] = [] := by
    intro i
    by_cases e : i < fps.length
    · refine .inl ⟨?_, e⟩
      rw [List.getD_eq_getElem?_getD, List.getElem?_append_left e, ← List.getD_eq_getElem?_getD]
    · refine .inr ?_
      by_cases e2 : i = fps.length
      · subst e2
        refine .inl ⟨?_, rfl⟩
        rw [List.getD_eq_getElem?_getD, List.getElem?_append_right (Nat.le_refl _)]
        simp
      · refine .inr ?_
        rw [List.getD_eq_getElem?_getD, List.getElem?_eq_none (by simp; omega)]
        rfl
  refine ⟨fun i k hk => ?_, fun i j hij k hk hk2 => ?_⟩
  · rcases key i with ⟨e, -⟩ | ⟨e, -⟩ | e
    · rw [e] at hk; exact Nat.lt_of_lt_of_le (h.lt i k hk) hs
    · rw [e] at hk; exact h2 k hk
    · rw [e] at hk; simp at hk
  · rcases key i with ⟨e, l⟩ | ⟨e, l⟩ | e
    · rw [e] at hk
      rcases key j with ⟨e2, l2⟩ | ⟨e2, l2⟩ | e2
      · rw [e2] at hk2; exact h.ap i j hij k hk hk2
      · rw [e2] at hk2; have := h.lt i k hk; have := h1 k hk2; omega
      · rw [e2] at hk2; simp at hk2
    · rw [e] at hk
      rcases key j with ⟨e2, l2⟩ | ⟨e2, l2⟩ | e2
      · rw [e2] at hk2; have := h.lt j k hk2; have := h1 k hk; omega
      · omega
      · rw [e2] at hk2; simp at hk2
    · rw [e] at hk; simp at hk
theorem Parts.turn {w w' : World} {fps : List (List Nat)} (h : Parts w fps) (i : Nat) {fp' : List Nat} (hs : w.heap.size ≤ w'.heap.size) (hf : Fresh w.heap.size (fps.getD i []) fp') (hl : ∀ k ∈ fp', k < w'.heap.size) : Parts w' (fps.set i fp') := by
  have key : ∀ j, (j ≠ i ∧ (fps.set i fp').getD j [] = fps.getD j []) ∨ (j = i ∧ i < fps.length ∧ (fps.set i fp').getD j [] = fp') ∨ ((fps.set i fp').getD j [] = []) := by
    intro j
    by_cases e : j = i
    · subst e
      by_cases hl : j < fps.length
      · exact .inr (.inl ⟨rfl, hl, getD_set_same hl _ _⟩)
      · refine .inr (.inr ?_)
        rw [List.getD_eq_getElem?_getD, List.getElem?_eq_none (by simp; omega)]
        rfl
    · exact .inl ⟨e, getD_set_other (Ne.symm e) _ _⟩
  refine ⟨fun j k hk => ?_, fun a b hab k hk hk2 => ?_⟩
  · rcases key j with ⟨-, e⟩ | ⟨-, -, e⟩ | e
    · rw [e] at hk; exact Nat.lt_of_lt_of_le (h.lt j k hk) hs
    · rw [e] at hk; exact hl k hk
    · rw [e] at hk; simp at hk
  · rcases key a with ⟨n1, e1⟩ | ⟨n1, -, e1⟩ | e1
    · rcases key b with ⟨n2, e2⟩ | ⟨n2, -, e2⟩ | e2
      · rw [e1] at hk; rw [e2] at hk2; exact h.ap a b hab k hk hk2
      · rw [e1] at hk; rw [e2] at hk2
        rcases hf k hk2 with h' | h'
        · exact h.ap a i n1 k hk h'
        · have := h.lt a k hk; omega
      · rw [e2] at hk2; simp at hk2
    · rcases key b with ⟨n2, e2⟩ | ⟨n2, -, e2⟩ | e2
      · rw [e1] at hk; rw [e2] at hk2
        rcases hf k hk with h' | h'
        · exact h.ap i b (Ne.symm n2) k h' hk2
        · have := h.lt b k hk2; omega
      · exact absurd (n1.trans n2.symm) hab
      · rw [e2] at hk2; simp at hk2
    · rw [e1] at hk; simp at hk
/-- The same blocks elsewhere: parts of parts. -/
theorem Parts.off {w w' : World} {fps : List (List Nat)} (h : Parts w fps) {fp fp' : List Nat} (ht : Turn fp fp' w w') (i : Nat) (hn : ∀ k ∈ fps.getD i [], k ∉ fp) : ∀ k ∈ fps.getD i [], w'.heap[k]? = w.heap[k]? := fun k hk => ht.heap (h.lt i k hk) (hn k hk)
end Go.Proofs.YtjoejjhgneccgaaGreatDoor

/- Rows that are owned: small words. -/
namespace Go.Proofs.YtjoejjhgneccgaaGreatDoor
open Go.RowKit

theorem row_slice {w : World} {base e size n : Nat} {v : Value} {xs : List Value} (h : w.ownsRow base e size v n xs) : ∃ p cap, v = .slice p n cap ∧ n ≤ cap ∧ (0 < n → ∃ b, p = some ⟨b, 0, none⟩) := by
  rcases h.2 with ⟨rfl, rfl⟩ | ⟨g, cap, cur, rfl, hg, hh, hc, _⟩
  · exact ⟨none, 0, rfl, Nat.le_refl _, fun h => absurd h (by omega)⟩
  · exact ⟨_, cap, rfl, hc, fun _ => ⟨g, rfl⟩⟩
theorem row_pos {w : World} {e : TypeId} {size n : Nat} {v : Value} {xs : List Value} (h : Own w e size n v xs) (hn : 0 < n) : ∃ d cap, v = .slice (some ⟨d, 0, none⟩) n cap := by
  rcases h.2 with ⟨_, h0⟩ | ⟨g, cap, cur, hv, _⟩
  · omega
  · exact ⟨g, cap, hv⟩
theorem row_new_at (w : World) (cs : List Value) (t : TypeId) (fr : Nat × Nat) (k : Nat) (hk : k = w.heap.size) : ∀ j u, cs[j]? = some u → (w.alloc (.cells cs.toArray t fr)).cell? ((⟨k, 0, none⟩ : Addr).add j) = some u := by
  subst hk; exact cell_new w cs t fr
theorem heap_one (w : World) (o : Obj) : w.heap.size + 1 = (w.alloc o).heap.size := by show _ = (w.heap.push o).size; simp
/-- The new slice is in the same block, or in one that is new. -/
theorem blk_old {w : World} {v v' : Value} {m : Nat} (h : v'.ownBlock = v.ownBlock ∨ v'.ownBlock = some m) (hs : w.heap.size ≤ m) : ∀ k, v'.ownBlock = some k → v.ownBlock = some k ∨ w.heap.size ≤ k := by
  intro k hk
  rcases h with h | h
  · exact .inl (h ▸ hk)
  · rw [h] at hk
    have : m = k := by simpa using hk
    exact .inr (by omega)
theorem grown_from {w w1 w2 : World} {row : Option Nat} (hb : Below w.heap.size w w1) (h : w1.grownBy w2 row) : w.grownBy w2 row :=
  ⟨h.os.trans hb.os, h.tape.trans hb.tape, h.output.trans hb.output, Nat.le_trans hb.size h.size, fun k hk hn => (h.block k (Nat.lt_of_lt_of_le hk hb.size) hn).trans (hb.block k hk)⟩
theorem mem_blk {v : Value} {k : Nat} : k ∈ v.ownBlock.toList ↔ v.ownBlock = some k := by
  rw [Option.mem_toList]
theorem nil_blk : (Value.slice none 0 0).ownBlock = none := rfl
theorem own_nil (w : World) (e : TypeId) (size : Nat) : Own w e size 0 (.slice none 0 0) [] := ⟨by simp, .inl ⟨rfl, rfl⟩⟩
end Go.Proofs.YtjoejjhgneccgaaGreatDoor

/- A store: a field is read, and set. -/
namespace Go.Proofs.YtjoejjhgneccgaaGreatDoor
open Go.RowKit

theorem i64_and1 (n : Int) : bits .and .i64 n 1 = n % 2 := by
  have h1 : (BitVec.ofInt 64 1).toNat = 2 ^ 1 - 1 := by decide
  have key : (BitVec.ofInt 64 n &&& BitVec.ofInt 64 1).toNat = (n % ((2 ^ 64 : Nat) : Int)).toNat % 2 ^ 1 := by
    rw [BitVec.toNat_and, BitVec.toNat_ofInt, h1, Nat.and_two_pow_sub_one_eq_mod]
  show IntKind.i64.wrap ((BitVec.ofInt 64 n &&& BitVec.ofInt 64 1).toNat : Nat) = n % 2
  rw [key, IntKind.wrap_i64]
  omega
def vlC (k n : Int) : Array Value := #[.int .i64 k, .int .i64 n]
def ReadE (k n : Int) (b : Bool) (e : Ending) : Prop := e = .returned (.tuple #[.agg #[.int .i64 k, .int .i64 n], .bool b])
theorem two_at (w : World) (a b : Obj) : ((w.alloc a).alloc b).heap[w.heap.size]? = some a ∧ ((w.alloc a).alloc b).heap[w.heap.size + 1]? = some b :=
  ⟨keep (below_alloc0 _ b) (heap_alloc_new w a), by rw [heap_one w a]; exact heap_alloc_new _ b⟩
theorem two_below (w : World) (a b : Obj) : Below w.heap.size w ((w.alloc a).alloc b) := (below_alloc0 w a).alloc (below_alloc0 w a).size b
set_option maxHeartbeats 1000000 in
set_option maxRecDepth 100000 in
theorem wread_ok {k n : Int} (h : checkV k n = 0) (w : World) :
    Calls Tryz.prog 96 #[.int .i64 (putW k n)] w fun e w' => ReadE k n true e ∧ Below w.heap.size w w' := by
  have HC := Lib.hid h
  rcases check_ok h with ⟨rfl, rfl⟩ | ⟨rfl, h1, h2⟩ | ⟨rfl, h1, h2⟩
  · have e : putW 0 0 = 0 := rfl
    rw [e]
    have q1 : bits .and .i64 0 1 = 0 := i64_and1 0
    clear h e
    go_enter Tryz.func96, Tryz.ntmps96
    go_wp2_with (first
      | (go_at_call 149; refine (wcheck_any 0 0 _).mono ?_; rw [HC.out]; rintro e w1 ⟨rfl, hb⟩; have A1 := Lib.hid (keep hb (two_at w _ _).1); have hc := keep hb (two_at w _ _).2; have d0 : w1.cell? ⟨w.heap.size + 1, 0, none⟩ = some (.int .i64 0) := cell_of_row _ _ _ _ _ _ hc; have d1 : w1.cell? ⟨w.heap.size + 1, 1, none⟩ = some (.int .i64 0) := cell_of_row _ _ _ _ _ _ hc; have B1 := Lib.hid (below_next (two_below w _ _) hb); clear hb hc)
      | (refine wpList_store_row rfl 70 _ _ rfl w.heap.size (vlC 0 0) rfl rfl 70 _ A1.out (by kernel_rfl) rfl (by kernel_rfl) ?_))
    refine bodyPost_ret (results_row_tmp rfl _ _ w.heap.size 70 (vlC 0 0) _ _ rfl (heap_setRow_same _ A1.out) Tryz.underlying70 rfl (by kernel_rfl)) rfl ⟨?_, below_setRow B1.out (Nat.le_refl _) _⟩
    exact rfl
  · have e : putW 1 n = 2 * n + 1 := rfl
    rw [e]
    have q1 : bits .and .i64 (2 * n + 1) 1 = 1 := by rw [i64_and1]; omega
    have q2 : (2 * n + 1) / 2 = n := by omega
    clear h e
    go_enter Tryz.func96, Tryz.ntmps96
    go_wp2_with (first
      | (go_at_call 149; refine (wcheck_any 1 n _).mono ?_; rw [HC.out]; rintro e w1 ⟨rfl, hb⟩; have A1 := Lib.hid (keep hb (two_at w _ _).1); have hc := keep hb (two_at w _ _).2; have d0 : w1.cell? ⟨w.heap.size + 1, 0, none⟩ = some (.int .i64 1) := cell_of_row _ _ _ _ _ _ hc; have d1 : w1.cell? ⟨w.heap.size + 1, 1, none⟩ = some (.int .i64 n) := cell_of_row _ _ _ _ _ _ hc; have B1 := Lib.hid (below_next (two_below w _ _) hb); clear hb hc)
      | (refine wpList_store_row rfl 70 _ _ rfl w.heap.size (vlC 1 n) rfl rfl 70 _ A1.out (by kernel_rfl) rfl (by kernel_rfl) ?_))
    refine bodyPost_ret (results_row_tmp rfl _ _ w.heap.size 70 (vlC 1 n) _ _ rfl (heap_setRow_same _ A1.out) Tryz.underlying70 rfl (by kernel_rfl)) rfl ⟨?_, below_setRow B1.out (Nat.le_refl _) _⟩
    exact rfl
  · have e : putW 2 n = 2 * n + 2 := rfl
    rw [e]
    have q1 : bits .and .i64 (2 * n + 2) 1 = 0 := by rw [i64_and1]; omega
    have q2 : (2 * n + 2) / 2 - 1 = n := by omega
    have q3 : (2 * n + 2 == 0) = false := by simp; omega
    clear h e
    go_enter Tryz.func96, Tryz.ntmps96
    go_wp2_with (first
      | (go_at_call 149; refine (wcheck_any 2 n _).mono ?_; rw [HC.out]; rintro e w1 ⟨rfl, hb⟩; have A1 := Lib.hid (keep hb (two_at w _ _).1); have hc := keep hb (two_at w _ _).2; have d0 : w1.cell? ⟨w.heap.size + 1, 0, none⟩ = some (.int .i64 2) := cell_of_row _ _ _ _ _ _ hc; have d1 : w1.cell? ⟨w.heap.size + 1, 1, none⟩ = some (.int .i64 n) := cell_of_row _ _ _ _ _ _ hc; have B1 := Lib.hid (below_next (two_below w _ _) hb); clear hb hc)
      | (refine wpList_store_row rfl 70 _ _ rfl w.heap.size (vlC 2 n) rfl rfl 70 _ A1.out (by kernel_rfl) rfl (by kernel_rfl) ?_))
    refine bodyPost_ret (results_row_tmp rfl _ _ w.heap.size 70 (vlC 2 n) _ _ rfl (heap_setRow_same _ A1.out) Tryz.underlying70 rfl (by kernel_rfl)) rfl ⟨?_, below_setRow B1.out (Nat.le_refl _) _⟩
    exact rfl
section
variable {w w' : World} {b : Sl} {S : Sm}
def getV (S : Sm) (a i : Int) : (Int × Int) × Bool := if fieldB S a i = true then (rdW (loadV S.C.xs (a + 1 + i)), true) else ((0, 0), false)
theorem SJ.word (h : SJ S) {a j : Nat} (ha : a ∈ bitsN S.C.ws) (hj : j < lenN S.C a) : ∃ k n, checkV k n = 0 ∧ loadV S.C.xs ((a : Int) + 1 + (j : Int)) = putW k n := by
  obtain ⟨F, hi⟩ := h.si.inv
  have hob := h.ob a ha
  have h4 := hob.at_.2.2.2
  obtain ⟨k, n, h1, h2⟩ := hob.fd (a + 1 + j) (by omega) (by omega)
  have hp := (pages_in hi ha (x := a + 1 + j) (by omega) (by omega)).1
  have hl := hi.len
  refine ⟨k, n, h1, ?_⟩
  rw [show (a : Int) + 1 + (j : Int) = ((a + 1 + j : Nat) : Int) by omega, loadV_yes (by omega), h2]
theorem get_in (h : SJ S) {a j : Nat} (ha : a ∈ bitsN S.C.ws) (hj : j < lenN S.C a) : getV S a j = (fldN S.C a j, true) := by
  obtain ⟨F, hi⟩ := h.si.inv
  have hob := h.ob a ha
  have h4 := hob.at_.2.2.2
  have hp := (pages_in hi ha (x := a + 1 + j) (by omega) (by omega)).1
  have hl := hi.len
  unfold getV fldN
  rw [if_pos (h.field.2 ⟨a, j, rfl, rfl, ha, hj⟩), show (a : Int) + 1 + (j : Int) = ((a + 1 + j : Nat) : Int) by omega, loadV_yes (by omega)]
def GetE (v : (Int × Int) × Bool) (e : Ending) : Prop := ReadE v.1.1 v.1.2 v.2 e
set_option maxHeartbeats 2000000 in
set_option maxRecDepth 100000 in
theorem sget_any (h : StX w b S) (sj : SJ S) (a i : Int) :
    Calls Tryz.prog 40 #[.pointer (some ⟨b.s, 0, none⟩), .int .i64 a, .int .i64 i] w fun e w' => GetE (getV S a i) e ∧ Below w.heap.size w w' := by
  have B0 := Lib.hid (below_alloc0 w (.cells #[.int .i64 0, .int .i64 0] 70))
  have H := Lib.hid (h.below B0.out)
  have A0 := Lib.hid (heap_alloc_new w (.cells #[.int .i64 0, .int .i64 0] 70))
  have c0 := H.out.cells.1
  cases hf : fieldB S a i with
  | false =>
    have HF := Lib.hid hf
    have HV := Lib.hid (show getV S a i = ((0, 0), false) by unfold getV; rw [hf]; rfl)
    clear h sj hf
    go_enter Tryz.func40, Tryz.ntmps40
    go_wp2_with (first
      | (go_at_call 94; refine (shas_any H.out a i).mono ?_; rw [HF.out]; rintro e w2 ⟨rfl, rfl⟩)
      | (refine wpList_store_row rfl 70 _ _ rfl w.heap.size (vlC 0 0) rfl rfl 70 _ A0.out (by kernel_rfl) rfl (by kernel_rfl) ?_))
    refine bodyPost_ret (results_row_tmp rfl _ _ w.heap.size 70 (vlC 0 0) _ _ rfl (heap_setRow_same _ A0.out) Tryz.underlying70 rfl (by kernel_rfl)) rfl ⟨?_, below_setRow B0.out (Nat.le_refl _) _⟩
    rw [HV.out]
    exact rfl
  | true =>
    obtain ⟨x, j, rfl, rfl, hx, hj⟩ := sj.field.1 hf
    obtain ⟨k, n, hv, hl⟩ := sj.word hx hj
    have hb := sj.lt hx
    have hb2 := (sj.ob x hx).at_.2.1
    have x0 : (0 : Int) ≤ (x : Int) := by omega
    have x1 : (x : Int) ≤ 2047 := by omega
    have j0 : (0 : Int) ≤ (j : Int) := by omega
    have j1 : (j : Int) ≤ 127 := by omega
    have HF := Lib.hid hf
    have HC := Lib.hid hv
    have HL := Lib.hid hl
    have HV := Lib.hid (show getV S x j = ((k, n), true) by unfold getV; rw [hf, if_pos rfl, hl, rdW_put hv])
    clear h sj hf hx hj hv hl hb hb2
    go_enter Tryz.func40, Tryz.ntmps40
    go_wp2_with (first
      | (go_at_call 94; refine (shas_any H.out x j).mono ?_; rw [HF.out]; rintro e w2 ⟨rfl, rfl⟩)
      | (go_at_call 95; refine (cload_any H.out.cx _).mono ?_; rw [HL.out]; rintro e w2 ⟨rfl, rfl⟩)
      | (go_at_call 96; refine (wread_ok HC.out _).mono ?_; rintro e w1 ⟨rfl, hb⟩; have A1 := Lib.hid (keep hb A0.out); have B1 := Lib.hid (below_next B0.out hb); clear hb)
      | (refine wpList_store_row rfl 70 _ _ rfl w.heap.size (vlC k n) rfl rfl 70 _ A1.out (by kernel_rfl) rfl (by kernel_rfl) ?_))
    refine bodyPost_ret (results_row_tmp rfl _ _ w.heap.size 70 (vlC k n) _ _ rfl (heap_setRow_same _ A1.out) Tryz.underlying70 rfl (by kernel_rfl)) rfl ⟨?_, below_setRow B1.out (Nat.le_refl _) _⟩
    rw [HV.out]
    exact rfl
set_option maxHeartbeats 4000000 in
set_option maxRecDepth 100000 in
theorem sset_any (h : StX w b S) (sj : SJ S) (a i k n : Int) :
    Calls Tryz.prog 42 #[.pointer (some ⟨b.s, 0, none⟩), .int .i64 a, .int .i64 i, .agg #[.int .i64 k, .int .i64 n]] w fun e w' => e = .returned (.bool (mayB S a i k n)) ∧ StX w' b (setS S a i k n) ∧ Frm b.fp w w' := by
  have B0 := Lib.hid (below_alloc0 w (.cells #[.int .i64 k, .int .i64 n] 70))
  have H := Lib.hid (h.below B0.out)
  have c0 : (w.alloc (.cells #[.int .i64 k, .int .i64 n] 70)).cell? ⟨w.heap.size, 0, none⟩ = some (.int .i64 k) := cell_of_row _ _ _ _ _ _ (heap_alloc_new w _)
  have c1 : (w.alloc (.cells #[.int .i64 k, .int .i64 n] 70)).cell? ⟨w.heap.size, 1, none⟩ = some (.int .i64 n) := cell_of_row _ _ _ _ _ _ (heap_alloc_new w _)
  by_cases hc : checkV k n = 0
  · have HP : Hid (∀ e, PutE k n e → e = .returned (.tuple #[.int .i64 (putW k n), .bool true])) := Lib.hid (fun e he => by unfold PutE at he; rw [if_pos hc, hc] at he; exact he)
    cases hf : fieldB S a i with
    | true =>
      obtain ⟨x, j, rfl, rfl, hx, hj⟩ := sj.field.1 hf
      have hb := sj.lt hx
      have hb2 := (sj.ob x hx).at_.2.1
      have x0 : (0 : Int) ≤ (x : Int) := by omega
      have x1 : (x : Int) ≤ 2047 := by omega
      have j0 : (0 : Int) ≤ (j : Int) := by omega
      have j1 : (j : Int) ≤ 127 := by omega
      have hm : mayB S x j k n = true := by unfold mayB; rw [hc, hf]; rfl
      have hs := (sj.set hx hj hc).1
      unfold setB at hs
      rw [hm, Bool.true_and, addr_nat sj hx hj] at hs
      obtain ⟨z, hz⟩ : ∃ z : Int, z = (x : Int) + 1 + (j : Int) := ⟨_, rfl⟩
      have hzn : z = ((x + 1 + j : Nat) : Int) := by omega
      rw [← hzn] at hs
      have HT := Lib.hid (show setS S x j k n = { S with C := storeC S.C z (putW k n) } by unfold setS; rw [if_pos hm, addr_nat sj hx hj, hzn])
      have HM := Lib.hid hm
      have HS := Lib.hid hs
      have HZ := Lib.hid hz
      have HF := Lib.hid hf
      clear h sj hc hf hm hx hj hs hz hzn hb hb2
      go_enter Tryz.func42, Tryz.ntmps42
      go_wp2_with (first
        | (go_at_call 98; refine (wput_any k n _).mono ?_; rintro e w1 ⟨he, hb⟩; obtain rfl := HP.out e he; have hx := H.out.below hb; have d0 := hx.cells.1; have H1 := Lib.hid hx; have F1 := Lib.hid (Frm.of_below b.fp (below_next B0.out hb)); clear he hb hx)
        | (go_at_call 94; refine (shas_any H1.out x j).mono ?_; rw [HF.out]; rintro e w2 ⟨rfl, rfl⟩)
        | (go_at_call 99; rw [← HZ.out]; refine (cstore_any H1.out.cx z (putW k n)).mono ?_; rw [HS.out]; rintro e w3 ⟨rfl, hx, hf⟩; have H3 := Lib.hid (H1.out.withCX hf hx); have F3 := Lib.hid (F1.out.trans (hf.sub (fp' := b.fp) b.sub_cb) (fun x hx => .inl hx)); clear hx hf))
      go_ret
      exact ⟨ret_bool HM.out.symm, by rw [HT.out]; exact H3.out, F3.out⟩
    | false =>
      have hm : mayB S a i k n = false := by unfold mayB; rw [hf, Bool.and_false]
      have HS := Lib.hid hm
      have HT := Lib.hid (set_no hm).2
      have HF := Lib.hid hf
      clear h sj hc hf hm
      go_enter Tryz.func42, Tryz.ntmps42
      go_wp2_with (first
        | (go_at_call 98; refine (wput_any k n _).mono ?_; rintro e w1 ⟨he, hb⟩; obtain rfl := HP.out e he; have H1 := Lib.hid (H.out.below hb); have F1 := Lib.hid (Frm.of_below b.fp (below_next B0.out hb)); clear he hb)
        | (go_at_call 94; refine (shas_any H1.out a i).mono ?_; rw [HF.out]; rintro e w2 ⟨rfl, rfl⟩))
      go_ret
      exact ⟨ret_bool HS.out.symm, by rw [HT.out]; exact H1.out, F1.out⟩
  · have z0 : (checkV k n == 0) = false := by simpa using hc
    have HP : Hid (∀ e, PutE k n e → e = .returned (.tuple #[.int .i64 0, .bool false])) := Lib.hid (fun e he => by unfold PutE at he; rw [if_neg hc, z0] at he; exact he)
    have hm : mayB S a i k n = false := by unfold mayB; rw [z0, Bool.false_and]
    have HS := Lib.hid hm
    have HT := Lib.hid (set_no hm).2
    clear h sj hc hm z0
    go_enter Tryz.func42, Tryz.ntmps42
    go_wp2_with (go_at_call 98; refine (wput_any k n _).mono ?_; rintro e w1 ⟨he, hb⟩; obtain rfl := HP.out e he; have H1 := Lib.hid (H.out.below hb); have F1 := Lib.hid (Frm.of_below b.fp (below_next B0.out hb)); clear he hb)
    go_ret
    exact ⟨ret_bool HS.out.symm, by rw [HT.out]; exact H1.out, F1.out⟩
end
end Go.Proofs.YtjoejjhgneccgaaGreatDoor

/- A store: all objects; those of a page; a thread's pages given up; a page trimmed. -/
namespace Go.Proofs.YtjoejjhgneccgaaGreatDoor
open Go.RowKit

theorem IRow.read {base : Nat} {w : World} {A : Option Addr} {n cap : Nat} {xs : List Int} (h : IRow base w (.slice A n cap) xs) : n = xs.length ∧ ∀ i, i < n → ∃ g, A = some ⟨g, 0, none⟩ ∧ w.cell? ⟨g, i, none⟩ = some (.int .i64 (xs.getD i 0)) := by
  obtain ⟨p, c, e, -, -, h1⟩ := h.slice
  cases e
  refine ⟨rfl, fun i hi => ?_⟩
  obtain ⟨b, rfl, -, hc⟩ := h1 i hi
  exact ⟨b, rfl, hc⟩
theorem take_all {α : Type} {l : List α} {n : Nat} (h : l.length ≤ n) : l.take n = l := List.take_of_length_le h
theorem take_one {xs : List Int} {k : Nat} (h : k < xs.length) : xs.take (k + 1) = xs.take k ++ [xs.getD k 0] := by
  rw [List.take_succ_eq_append_getElem h, List.getD_eq_getElem?_getD, List.getElem?_eq_getElem h]; rfl
section
variable {w w' : World} {b : Sl} {S : Sm}
theorem sobjects_any (h : StX w b S) (ht : Tab64 w) (hg : 0 < w.heap.size) :
    Calls Tryz.prog 46 #[.pointer (some ⟨b.s, 0, none⟩)] w fun e w' => RowE w.heap.size (bitsI S.C.ws) e w' ∧ Below w.heap.size w w' := by
  have H := Lib.hid h
  have HT := Lib.hid ht
  have HG := Lib.hid hg
  have c0 := h.cells.1
  clear h ht hg
  go_enter Tryz.func46, Tryz.ntmps46
  go_wp2_with (first
    | (go_at_call 84; refine (sis_any H.out).mono ?_; rintro e w1 ⟨rfl, rfl⟩)
    | (go_at_call 102; refine (call_any H.out.cx HT.out HG.out).mono ?_; rintro e w1 ⟨⟨v, rfl, hr⟩, hb⟩; have R1 := Lib.hid hr; have B1 := Lib.hid hb; clear hr hb))
  go_ret
  exact ⟨⟨_, rfl, R1.out⟩, B1.out⟩
/-- A page's objects. -/
def inL (S : Sm) (p : Int) : List Int := (bitsI S.C.ws).filter fun a => pageI a == p
set_option maxHeartbeats 4000000 in
set_option maxRecDepth 100000 in
theorem sin2_any (h : StX w b S) (ht : Tab64 w) (hg : 0 < w.heap.size) (p : Int) :
    Calls Tryz.prog 47 #[.pointer (some ⟨b.s, 0, none⟩), .int .i64 p] w fun e w' => RowE w.heap.size (inL S p) e w' ∧ Below w.heap.size w w' := by
  have H := Lib.hid h
  have HT := Lib.hid ht
  have HG := Lib.hid hg
  clear h ht hg
  obtain ⟨xs, hxs⟩ : ∃ xs, xs = bitsI S.C.ws := ⟨_, rfl⟩
  have HXS := Lib.hid hxs
  have HXL := Lib.hid (show xs.length ≤ 2048 by rw [hxs]; exact bitsI_len _)
  clear hxs
  go_enter Tryz.func47, Tryz.ntmps47
  go_wp2_with (go_at_call 46; refine (sobjects_any H.out HT.out HG.out).mono ?_; rw [← HXS.out]; rintro e w1 ⟨⟨v, rfl, hr⟩, hb⟩; obtain ⟨A, cap, rfl, -, -, -⟩ := hr.slice; have R1 := Lib.hid hr; have B1 := Lib.hid hb; clear hr hb)
  go_loopw [5, 11] (fun a i wr => ∃ k : Nat, i = .int .i64 (k : Int) ∧ k ≤ xs.length ∧ Hid (IRow w1.heap.size wr a ((xs.take k).filter fun a => pageI a == p)) ∧ Hid (Below w1.heap.size w1 wr)) (fun _ i _ => 2050 - (intOf i).toNat)
  case atStart => exact ⟨0, rfl, Nat.zero_le _, Lib.hid (IRow.nil _ _), Lib.hid (Below.refl _ _)⟩
  case round =>
    obtain ⟨k, rfl, hk, HR, HB⟩ := hrel
    by_cases hlt : k < xs.length
    · have hd : decide (k < xs.length) = true := by simpa using hlt
      obtain ⟨g, rfl, cx⟩ := (R1.out.below HB.out).read.2 k hlt
      have i1 : (0 : Int) ≤ (k : Int) := by omega
      have i2 : (k : Int) < (xs.length : Int) := by omega
      have HT1 := Lib.hid (take_one hlt)
      obtain ⟨x, hx⟩ : ∃ x, x = xs.getD k 0 := ⟨_, rfl⟩
      rw [← hx] at cx HT1
      have k1 : IntKind.i64.wrap ((k : Int) + 1) = ((k + 1 : Nat) : Int) := by have := HXL.out; rw [IntKind.wrap_i64]; omega
      have HLL := Lib.hid (show ((xs.take k).filter fun a => pageI a == p).length + 1 ≤ 1000000 by have h1 := List.length_filter_le (fun a => pageI a == p) (xs.take k); rw [List.length_take] at h1; have := HXL.out; omega)
      have HK := Lib.hid hlt
      clear hx hlt hk
      cases hp : (pageI x == p) with
      | true =>
        have HF := Lib.hid (show (xs.take (k + 1)).filter (fun a => pageI a == p) = (xs.take k).filter (fun a => pageI a == p) ++ [x] by rw [HT1.out, List.filter_append]; simp [hp])
        go_wp2_with (first
          | (go_at_call 103; refine (gpage_any x _).mono ?_; rintro e w2 ⟨rfl, rfl⟩)
          | (at_builtin; refine wpList_append_num rfl _ _ (by rfl) w1.heap.size w1 _ _ x (by rfl) HR.out (by rfl) HLL.out HB.out HB.out.size ?_; intro v' w2 hr1 hb1 hgrow; have R2 := Lib.hid hr1; have B2 := Lib.hid hb1; clear hr1 hb1 hgrow))
        go_roundw
        case rel => exact ⟨k + 1, rfl, HK.out, Lib.hid (by rw [HF.out]; exact R2.out), B2⟩
        case measure => have := HK.out; have := HXL.out; simp only [intOf]; omega
      | false =>
        have HF := Lib.hid (show (xs.take (k + 1)).filter (fun a => pageI a == p) = (xs.take k).filter (fun a => pageI a == p) by rw [HT1.out, List.filter_append]; simp [hp])
        go_wp2_with (go_at_call 103; refine (gpage_any x _).mono ?_; rintro e w2 ⟨rfl, rfl⟩)
        go_roundw
        case rel => exact ⟨k + 1, rfl, HK.out, Lib.hid (by rw [HF.out]; exact HR.out), HB⟩
        case measure => have := HK.out; have := HXL.out; simp only [intOf]; omega
    · have hd : decide (k < xs.length) = false := by simpa using hlt
      have HE := Lib.hid (show (xs.take k).filter (fun a => pageI a == p) = inL S p by rw [take_all (by omega), HXS.out]; rfl)
      clear hlt hk
      go_wp2_with fail
      go_ret
      exact ⟨⟨_, rfl, by rw [← HE.out]; exact HR.out.mono B1.out.size⟩, below_next B1.out HB.out⟩
theorem cdrop_any {w : World} {b : Bl} {C : Cs} (h : CX w b C) (p : Int) :
    Calls Tryz.prog 100 #[.pointer (some ⟨b.c, 0, none⟩), .int .i64 p] w fun e w' => e = .returned (.bool (dropOk C p)) ∧ CX w' b (dropC C p) ∧ Frm b.fp w w' := by
  unfold dropC
  cases hd : dropOk C p with
  | true =>
    unfold dropOk at hd
    rw [Bool.and_eq_true, decide_eq_true_eq, decide_eq_true_eq] at hd
    exact (cdrop_yes h p hd.1 hd.2).mono fun e w' hr => hr
  | false =>
    unfold dropOk at hd
    rw [Bool.and_eq_false_iff, decide_eq_false_iff_not, decide_eq_false_iff_not] at hd
    refine (cdrop_no h p (by omega)).mono ?_
    rintro e w' ⟨rfl, hb⟩
    exact ⟨rfl, h.below hb, Frm.of_below _ hb⟩
def OwnPos (e : Ending) : Prop := ∃ t : Int, e = .returned (.int .i64 t) ∧ 0 ≤ t
theorem sowner_yes (h : StX w b S) (q : Int) (ho : ownB S.M q = true) :
    Calls Tryz.prog 51 #[.pointer (some ⟨b.s, 0, none⟩), .int .i64 q] w fun e w' => OwnPos e ∧ Below w.heap.size w w' := by
  refine (sowner_any h q).mono ?_
  rintro e w' ⟨⟨t, rfl, ht⟩, hb⟩
  rcases ht with ⟨h1, -⟩ | ⟨-, h1⟩
  · exact ⟨⟨t, rfl, h1⟩, hb⟩
  · rw [ho] at h1; cases h1
theorem sowner_no (h : StX w b S) (q : Int) (ho : ownB S.M q = false) :
    Calls Tryz.prog 51 #[.pointer (some ⟨b.s, 0, none⟩), .int .i64 q] w fun e w' => e = .returned (.int .i64 (-1)) ∧ Below w.heap.size w w' := by
  have hd := h.ca.mp.dom
  refine (sowner_any h q).mono ?_
  rintro e w' ⟨⟨t, rfl, ht⟩, hb⟩
  rcases ht with ⟨-, k, h1⟩ | ⟨h1, -⟩
  · rw [(ownB_iff hd q).2 ⟨_, _, h1⟩] at ho; cases ho
  · rw [h1]; exact ⟨rfl, hb⟩
theorem strim_any (h : StX w b S) (p : Int) :
    Calls Tryz.prog 43 #[.pointer (some ⟨b.s, 0, none⟩), .int .i64 p] w fun e w' => e = .returned (.bool (trimB S p)) ∧ StX w' b (trimS S p) ∧ Frm b.fp w w' := by
  have H := Lib.hid h
  clear h
  cases ho : ownB S.M p with
  | true =>
    have HB := Lib.hid (show trimB S p = false by unfold trimB; rw [ho]; rfl)
    have HS := Lib.hid (show trimS S p = S by unfold trimS; rw [ho]; rfl)
    have HO := Lib.hid ho
    clear ho
    go_enter Tryz.func43, Tryz.ntmps43
    go_wp2_with (first
      | (go_at_call 84; refine (sis_any H.out).mono ?_; rintro e w1 ⟨rfl, rfl⟩)
      | (go_at_call 51; refine (sowner_yes H.out p HO.out).mono ?_; rintro e w1 ⟨⟨t, rfl, ht⟩, hb⟩; have t0 : decide (t < 0) = false := (by rw [decide_eq_false_iff_not]; omega); have B1 := Lib.hid hb; clear ht hb))
    go_ret
    exact ⟨ret_bool HB.out.symm, by rw [HS.out]; exact H.out.below B1.out, Frm.of_below _ B1.out⟩
  | false =>
    have HB := Lib.hid (show trimB S p = dropOk S.C p by unfold trimB; rw [ho]; rfl)
    have HS := Lib.hid (show trimS S p = { S with C := dropC S.C p } by unfold trimS; rw [ho]; rfl)
    have HO := Lib.hid ho
    obtain ⟨r, hr⟩ : ∃ r, r = dropOk S.C p := ⟨_, rfl⟩
    have HR := Lib.hid hr
    clear ho hr
    go_enter Tryz.func43, Tryz.ntmps43
    go_wp2_with (first
      | (go_at_call 84; refine (sis_any H.out).mono ?_; rintro e w1 ⟨rfl, rfl⟩)
      | (go_at_call 51; refine (sowner_no H.out p HO.out).mono ?_; rintro e w1 ⟨rfl, hb⟩; have hx := H.out.below hb; have d0 := hx.cells.1; have H1 := Lib.hid hx; have B1 := Lib.hid hb; clear hb hx)
      | (go_at_call 100; refine (cdrop_any H1.out.cx p).mono ?_; rw [← HR.out]; rintro e w2 ⟨rfl, hx, hf⟩; have H2 := Lib.hid (H1.out.withCX hf hx); have F2 := Lib.hid ((Frm.of_below b.fp B1.out).trans (hf.sub (fp' := b.fp) b.sub_cb) (fun x hx => .inl hx)); clear hx hf))
    go_ret
    exact ⟨ret_bool (by rw [HB.out, HR.out]), by rw [HS.out]; exact H2.out, F2.out⟩
def quitP (x : Cs × Int) (p : Int) : Cs × Int := (dropC x.1 p, if dropOk x.1 p = true then x.2 + 1 else x.2)
theorem quitP_fst : ∀ (l : List Int) (x : Cs × Int), (l.foldl quitP x).1 = l.foldl dropC x.1
  | [], _ => rfl
  | p :: l, x => quitP_fst l (quitP x p)
def quitV (S : Sm) (t : Int) : Int := ((quitL S t).foldl quitP (S.C, 0)).2
theorem quitP_bd : ∀ (l : List Int) (x : Cs × Int), x.2 ≤ (l.foldl quitP x).2 ∧ (l.foldl quitP x).2 ≤ x.2 + l.length
  | [], x => by simp
  | p :: l, x => by
    have := quitP_bd l (quitP x p)
    have h2 : x.2 ≤ (quitP x p).2 ∧ (quitP x p).2 ≤ x.2 + 1 := by unfold quitP; dsimp only; split <;> omega
    simp only [List.foldl_cons, List.length_cons]
    omega
set_option maxHeartbeats 4000000 in
set_option maxRecDepth 100000 in
theorem squit_any (h : StX w b S) (t : Int) (wt : wfI t) :
    Calls Tryz.prog 48 #[.pointer (some ⟨b.s, 0, none⟩), .int .i64 t] w fun e w' => e = .returned (.int .i64 (quitV S t)) ∧ StX w' b (quitS S t) ∧ Frm b.fp w w' := by
  have H := Lib.hid h
  have WT := Lib.hid wt
  have c1 := h.cells.2.1
  obtain ⟨xs, hxs⟩ : ∃ xs, xs = quitL S t := ⟨_, rfl⟩
  have HXS := Lib.hid hxs
  have HXL := Lib.hid (show xs.length ≤ 4 by rw [hxs]; unfold quitL; rw [sortI_len]; exact dropL_len _ _ _)
  have HBS := Lib.hid (fun k (hk : k ∈ b.fp) => (show k < w.heap.size from by
    simp only [Sl.fp, List.mem_cons] at hk
    rcases hk with rfl | rfl | hk
    · exact heap_lt h.hd
    · exact h.ca.mp.lt
    · exact h.cx.lt k hk))
  clear h wt hxs
  go_enter Tryz.func48, Tryz.ntmps48
  go_wp2_with (first
    | (go_at_call 84; refine (sis_any H.out).mono ?_; rintro e w1 ⟨rfl, rfl⟩)
    | (go_at_call 104; refine (cadrop_any H.out.ca t WT.out).mono ?_; rw [show sortI (dropL S.M t 4) = xs from HXS.out.symm]; rintro e w1 ⟨⟨v, rfl, hr⟩, hx, hf⟩; obtain ⟨A, cap, rfl, -, -, -⟩ := hr.slice; have R1 := Lib.hid hr; have H1 := Lib.hid (H.out.withCa hf hx); have F1 := Lib.hid (hf.sub (fp' := b.fp) b.sub_ob); clear hr hx hf))
  go_loopw [5, 18] (fun a i wr => ∃ k : Nat, i = .int .i64 (k : Int) ∧ a = .int .i64 ((xs.take k).foldl quitP (S.C, 0)).2 ∧ k ≤ xs.length ∧ Hid (StX wr b { S with M := cutM S.M t 4, C := ((xs.take k).foldl quitP (S.C, 0)).1 }) ∧ Hid (Frm b.fp w1 wr)) (fun _ i _ => 6 - (intOf i).toNat)
  case atStart => exact ⟨0, rfl, rfl, Nat.zero_le _, H1, Lib.hid (Frm.refl _ _)⟩
  case round =>
    obtain ⟨k, rfl, rfl, hk, HX, HF⟩ := hrel
    obtain ⟨y, hy⟩ : ∃ y, y = (xs.take k).foldl quitP (S.C, 0) := ⟨_, rfl⟩
    rw [← hy] at HX
    rw [← hy]
    have hbd := quitP_bd (xs.take k) (S.C, 0)
    rw [← hy, List.length_take] at hbd
    have hbd : 0 ≤ y.2 ∧ y.2 ≤ 4 := by have := HXL.out; simp only at hbd; omega
    by_cases hlt : k < xs.length
    · have hd : decide (k < xs.length) = true := by simpa using hlt
      obtain ⟨g, rfl, cx⟩ := (R1.out.frm HF.out HBS.out).read.2 k hlt
      have i1 : (0 : Int) ≤ (k : Int) := by omega
      have i2 : (k : Int) < (xs.length : Int) := by omega
      obtain ⟨x, hx⟩ : ∃ x, x = xs.getD k 0 := ⟨_, rfl⟩
      rw [← hx] at cx
      have HT1 := Lib.hid (show (xs.take (k + 1)).foldl quitP (S.C, 0) = quitP y x by rw [take_one hlt, List.foldl_append, ← hy, ← hx]; rfl)
      have k1 : IntKind.i64.wrap ((k : Int) + 1) = ((k + 1 : Nat) : Int) := by have := HXL.out; rw [IntKind.wrap_i64]; omega
      have k2 : IntKind.i64.wrap (y.2 + 1) = y.2 + 1 := by rw [IntKind.wrap_i64]; omega
      have HK := Lib.hid hlt
      have d0 := HX.out.cells.1
      clear hx hlt hk hy hbd
      cases hp : dropOk y.1 x with
      | true =>
        have HP := Lib.hid hp
        have HQ := Lib.hid (show quitP y x = (dropC y.1 x, y.2 + 1) by unfold quitP; rw [hp]; rfl)
        clear hp
        go_wp2_with (go_at_call 100; refine (cdrop_any HX.out.cx x).mono ?_; rw [show dropOk ({ S with M := cutM S.M t 4, C := y.1 } : Sm).C x = true from HP.out]; rintro e w2 ⟨rfl, hx, hf⟩; have H2 := Lib.hid (HX.out.withCX hf hx); have F2 := Lib.hid (HF.out.trans (hf.sub (fp' := b.fp) b.sub_cb) (fun x hx => .inl hx)); clear hx hf)
        go_roundw
        case rel => exact ⟨k + 1, rfl, by rw [HT1.out, HQ.out], HK.out, Lib.hid (by rw [HT1.out, HQ.out]; exact H2.out), F2⟩
        case measure => have := HK.out; have := HXL.out; simp only [intOf]; omega
      | false =>
        have HP := Lib.hid hp
        have HQ := Lib.hid (show quitP y x = (dropC y.1 x, y.2) by unfold quitP; rw [hp]; rfl)
        clear hp
        go_wp2_with (go_at_call 100; refine (cdrop_any HX.out.cx x).mono ?_; rw [show dropOk ({ S with M := cutM S.M t 4, C := y.1 } : Sm).C x = false from HP.out]; rintro e w2 ⟨rfl, hx, hf⟩; have H2 := Lib.hid (HX.out.withCX hf hx); have F2 := Lib.hid (HF.out.trans (hf.sub (fp' := b.fp) b.sub_cb) (fun x hx => .inl hx)); clear hx hf)
        go_roundw
        case rel => exact ⟨k + 1, rfl, by rw [HT1.out, HQ.out], HK.out, Lib.hid (by rw [HT1.out, HQ.out]; exact H2.out), F2⟩
        case measure => have := HK.out; have := HXL.out; simp only [intOf]; omega
    · have hd : decide (k < xs.length) = false := by simpa using hlt
      have HE := Lib.hid (show y = (quitL S t).foldl quitP (S.C, 0) by rw [hy, take_all (by omega), HXS.out])
      clear hlt hk hy hbd
      go_wp2_with fail
      go_ret
      refine ⟨?_, ?_, F1.out.trans HF.out (fun x hx => .inl hx)⟩
      · unfold quitV; rw [← HE.out]; rfl
      · have hS : quitS S t = { S with M := cutM S.M t 4, C := y.1 } := by unfold quitS; rw [HE.out, quitP_fst]
        rw [hS]; exact HX.out
end
end Go.Proofs.YtjoejjhgneccgaaGreatDoor
