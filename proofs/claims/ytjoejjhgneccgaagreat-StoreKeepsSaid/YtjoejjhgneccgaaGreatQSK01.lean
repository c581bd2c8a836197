/- Small words on worlds and blocks, for the walks of this seat. -/
import Derived.Test.YtjoejjhgneccgaaGreatRows
import Derived.WalkKit
import Derived.WalkSpells
import Derived.WalkLawsBesides
import Derived.BigRegion
import Derived.Deep.QuietTactic
import Derived.BigQuiet
import Derived.StillTailTactics
import Derived.Lib.Hide
import Derived.Deep.RegionHeld3
import Derived.Deep.AppendLies
import Derived.Deep.RegionLaw
import Derived.Laws.ResultCell
import Derived.Laws.BitsLemmas
import Derived.Laws.BytesArg
import Derived.Deep.MidRow
import Derived.Maps.RangeWalk
import Derived.Maps.OwnSet
import Derived.Maps.OwnOps
import Derived.DeepKeys5
namespace Go.Proofs.YtjoejjhgneccgaaGreat
open Go.RowKit

theorem heap_setRow_other (w : World) (g k : Nat) (cs : Array Value) (h : k ≠ g) : (w.setRow g cs).heap[k]? = w.heap[k]? := by
  unfold World.setRow
  simp only [Array.getElem?_modify]
  rw [if_neg (by omega)]

theorem heap_setRow_same {w : World} {g : Nat} {old : Array Value} {t : TypeId} {fr : Nat × Nat} (cs : Array Value) (h : w.heap[g]? = some (.cells old t fr)) :
    (w.setRow g cs).heap[g]? = some (.cells cs t fr) := setRow_heap w g old cs t fr h

theorem size_setRow (w : World) (g : Nat) (cs : Array Value) : (w.setRow g cs).heap.size = w.heap.size := by
  unfold World.setRow; simp

theorem below_setRow {B : Nat} {a w : World} (h : Below B a w) {g : Nat} (hp : B ≤ g) (cs : Array Value) : Below B a (w.setRow g cs) :=
  h.trans ⟨rfl, rfl, rfl, by rw [size_setRow]; exact Nat.le_refl _, fun k hk => heap_setRow_other _ _ _ _ (by omega)⟩

theorem below_alloc0 (w : World) (o : Obj) : Below w.heap.size w (w.alloc o) := (Below.refl _ _).alloc (Nat.le_refl _) o

theorem ret_int {k : IntKind} {a b : Int} (h : a = b) : Ending.returned (.int k a) = .returned (.int k b) := by rw [h]
theorem ret_bool {a b : Bool} (h : a = b) : Ending.returned (.bool a) = .returned (.bool b) := by rw [h]

theorem quiet_eq {P : Program} {f : FuncId} {args : Array Value} {w : World} {n : Nat} {v : Value}
    (h : Calls P f args (w.drewN n) fun e w' => e = .returned v ∧ w.drewN n = w') : Calls P f args (w.drewN n) fun e w'' => e = .returned v ∧ ∃ m, w'' = w.drewN m :=
  h.mono fun _ _ ⟨he, hm⟩ => ⟨he, n, hm.symm⟩

/-- A region that draws its order: reads ahead, and a tail in one order; the world drawn from once. -/
theorem region_tail {P : Program} {id : Nat} {Q : Exit → Act → World → Prop} {a : Act} {w : World} {l : List Oper} (n : Nat) (hm : P.follows .mixedOrders = true) (hB : Region.lexTailB .any l.toArray n = true)
    (h : wpStill P l.toArray w.drew (fun a' => wpList P l.toArray Q (l.drop n) a' w.drew) (l.take n) a) : (Code.region id l.toArray true).wp P Q a w := wp_region_still_tail n hm hB h

theorem cell_new1 (w : World) (c0 : Value) (t : TypeId) (fr : Nat × Nat) : ∀ j u, [c0][j]? = some u → (w.alloc (.cells #[c0] t fr)).cell? ((⟨w.heap.size, 0, none⟩ : Addr).add j) = some u := by
  intro j u h
  have hadd : (⟨w.heap.size, 0, none⟩ : Addr).add j = ⟨w.heap.size, j, none⟩ := by unfold Addr.add; split <;> simp_all
  rw [hadd, cell_of_row _ _ _ _ _ _ (heap_alloc_new w _)]
  simpa using h
theorem cell_new (w : World) (cs : List Value) (t : TypeId) (fr : Nat × Nat) : ∀ j u, cs[j]? = some u → (w.alloc (.cells cs.toArray t fr)).cell? ((⟨w.heap.size, 0, none⟩ : Addr).add j) = some u := by
  intro j u h
  have hadd : (⟨w.heap.size, 0, none⟩ : Addr).add j = ⟨w.heap.size, j, none⟩ := by unfold Addr.add; split <;> simp_all
  rw [hadd, cell_of_row _ _ _ _ _ _ (heap_alloc_new w _)]
  simpa using h

/-- The row that a value owns lies from the base on, and in the heap. -/
theorem own_ne {w : World} {base e size n : Nat} {v : Value} {xs : List Value} (h : w.ownsRow base e size v n xs) {b : Nat} (hb : b < base ∨ w.heap.size ≤ b) : v.ownBlock ≠ some b := by
  rcases h.2 with ⟨rfl, _⟩ | ⟨g, cap, cur, rfl, hg, hh, _⟩
  · simp [Value.ownBlock]
  · intro he
    have e : g = b := by simpa [Value.ownBlock] using he
    subst e
    have := (Array.getElem?_eq_some_iff.1 hh).1
    omega
theorem own_base {w : World} {base e size n : Nat} {v : Value} {xs : List Value} (h : w.ownsRow base e size v n xs) : ∀ k, v.ownBlock = some k → base ≤ k := by
  intro k hk
  rcases h.2 with ⟨rfl, _⟩ | ⟨g, cap, cur, rfl, hg, _⟩
  · simp [Value.ownBlock] at hk
  · have e : g = k := by simpa [Value.ownBlock] using hk
    omega
theorem own_mono {w : World} {base base' e size n : Nat} {v : Value} {xs : List Value} (h : w.ownsRow base e size v n xs) (hb : base' ≤ base) : w.ownsRow base' e size v n xs :=
  ⟨h.1, h.2.imp id fun ⟨g, cap, cur, hv, hg, r⟩ => ⟨g, cap, cur, hv, Nat.le_trans hb hg, r⟩⟩

/-- A slice of octets that is read. -/
structure RdB (w : World) (A : Option Addr) (n : Nat) (xs : List Int) : Prop where
  len : xs.length = n
  max : n ≤ 9223372036854775807
  byte : ∀ x ∈ xs, 0 ≤ x ∧ x ≤ 255
  cell : 0 < n → ∃ b o, A = some ⟨b, o, none⟩ ∧ ∀ j, j < n → w.cell? ⟨b, o + j, none⟩ = some (.int .u8 (xs.getD j 0))
theorem RdB.below {w w1 : World} {A : Option Addr} {n : Nat} {xs : List Int} (h : RdB w A n xs) (hb : Below w.heap.size w w1) : RdB w1 A n xs :=
  ⟨h.len, h.max, h.byte, fun hn => by
    obtain ⟨b, o, e, hc⟩ := h.cell hn
    exact ⟨b, o, e, fun j hj => (hb.cell (World.block_lt_of_cell? w _ (hc j hj))).trans (hc j hj)⟩⟩
theorem getD_byte {xs : List Int} (h : ∀ x ∈ xs, 0 ≤ x ∧ x ≤ 255) (j : Nat) : 0 ≤ xs.getD j 0 ∧ xs.getD j 0 ≤ 255 := by
  rw [List.getD_eq_getElem?_getD]
  rcases Nat.lt_or_ge j xs.length with hl | hl
  · rw [List.getElem?_eq_getElem hl]; exact h _ (List.getElem_mem hl)
  · rw [List.getElem?_eq_none hl]; simp

/-- Two results, the first one a struct that lies in a cell. -/
theorem results_row_tmp {P : Program} {fn : Func} {p u : Tmp} {ty : TypeId} (h : fn.results = #[.cell p ty, .tmp u]) (tmps : Array Value) (w : World) (g : Nat) (t : TypeId) (cs : Array Value) (fr : Nat × Nat) (d : TypeDesc)
    (hp : tmps.getD p undef = .pointer (some ⟨g, 0, none⟩)) (hg : w.heap[g]? = some (.cells cs t fr))
    (hu : P.underlying ty = some d) (hd : (match d with | .struct _ | .array _ _ => true | _ => false) = true) (hi : (P.info? ty).map (·.size) = some cs.size) :
    (results fn tmps).run P w = .ok (.tuple #[.agg cs, tmps.getD u undef]) w := by
  rw [results_cell_tmp h, hp]
  simp [asAddr, run_loadVar_row w g t ty cs fr d hg hu hd hi, Result.andThen]

theorem RdB.of_own {w : World} {base e n : Nat} {v : Value} {xs : List Int} (h : w.ownsRow base e 1 v n (xs.map (Value.int .u8))) (hb : ∀ x ∈ xs, 0 ≤ x ∧ x ≤ 255) (hn : n ≤ 9223372036854775807) :
    ∃ A cap, v = .slice A n cap ∧ RdB w A n xs := by
  have hl : xs.length = n := by have := h.1; simpa using this
  rcases h.2 with ⟨rfl, rfl⟩ | ⟨g, cap, cur, rfl, hg, hh, hc, hm, hs, ht⟩
  · exact ⟨none, 0, rfl, hl, hn, hb, fun h0 => absurd h0 (by omega)⟩
  · refine ⟨_, cap, rfl, hl, hn, hb, fun _ => ⟨g, 0, rfl, fun j hj => ?_⟩⟩
    rw [Nat.zero_add, h.cellAt j (by omega)]
    rw [List.getElem?_map, List.getD_eq_getElem?_getD, List.getElem?_eq_getElem (by omega)]
    rfl

theorem RdB.conv {P : Program} {w : World} {A : Option Addr} {n : Nat} {xs : List Int} (h : RdB w A n xs) (src dst e : TypeId) (hs : P.underlying src = some (.slice e)) (he : P.underlying e = some (.int .u8)) (hd : P.underlying dst = some .string) (cap : Nat) :
    (convert src dst (.slice A n cap)).run P w = .ok (.string (strOfNums xs)) w := by
  rcases Nat.eq_zero_or_pos n with h0 | h0
  · subst h0
    obtain rfl : xs = [] := List.eq_nil_of_length_eq_zero h.len
    rw [run_convert_bytes_string w src dst e _ 0 cap hs he hd]
    cases A <;> simp [Conv.bytesToString, loadCells] <;> rfl
  · obtain ⟨b, o, rfl, hc⟩ := h.cell h0
    exact run_convert_bytes_arg w src e hs he b o n cap xs h.len hc dst hd

theorem setRow_alloc (w : World) (old cs : Array Value) (t : TypeId) (fr : Nat × Nat) : (w.alloc (.cells old t fr)).setRow w.heap.size cs = w.alloc (.cells cs t fr) := by
  unfold World.setRow World.alloc
  congr 1
  apply Array.ext
  · simp
  · intro i h1 h2
    simp only [Array.getElem_modify, Array.getElem_push]
    simp only [Array.size_modify, Array.size_push] at h1
    by_cases hi : w.heap.size = i
    · subst hi; simp
    · have : i < w.heap.size := by omega
      simp [hi, this]
/-- A whole row is stored into the block that was just made. -/
theorem wpList_store_new {P : Program} {w : World} {ops : Array Oper} {rest : List Oper} {o : Oper} {a : Act} {Q : Exit → Act → World → Prop} (hgd : o.guard = none) (ty : TypeId) (x y : Operand) (ho : o.op = .store ty x y)
    (cells : Array Value) (hx : a.eval x = .pointer (some ⟨w.heap.size, 0, none⟩)) (hy : a.eval y = .agg cells)
    (t : TypeId) (old : Array Value) (hi : (P.info? ty).map (·.size) = some cells.size)
    (hold : old.size = cells.size) (h1 : cells.all (·.oneCell') = true)
    (h : wpList P ops Q rest (a.put o.dst undef) (w.alloc (.cells cells t (0, 0)))) : wpList P ops Q (o :: rest) a (w.alloc (.cells old t (0, 0))) :=
  wpList_store_row hgd ty x y ho w.heap.size cells hx hy t old (heap_alloc_new w _) hi hold h1 (by rw [setRow_alloc]; exact h)

theorem below_drewN {B : Nat} {a w : World} (h : Below B a w) (n : Nat) : Below B a (w.drewN n) := ⟨h.os, h.tape, h.output, h.size, h.block⟩

theorem below_up {B : Nat} {w w1 w2 : World} (h : Below B w w1) (hB : B ≤ w1.heap.size) (k : Below w1.heap.size w1 w2) : Below B w w2 := h.trans (k.mono hB)

end Go.Proofs.YtjoejjhgneccgaaGreat

/- More words on blocks that stay as they are. -/
namespace Go.Proofs.YtjoejjhgneccgaaGreat
open Go.RowKit
theorem heap_lt {w : World} {k : Nat} {o : Obj} (h : w.heap[k]? = some o) : k < w.heap.size := (Array.getElem?_eq_some_iff.1 h).1
theorem keep {w w1 : World} (hb : Below w.heap.size w w1) {k : Nat} {o : Obj} (h : w.heap[k]? = some o) : w1.heap[k]? = some o := (hb.block k (heap_lt h)).trans h
theorem alloc_at (w : World) (o : Obj) {k : Nat} (h : w.heap.size = k) : (w.alloc o).heap[k]? = some o := by subst h; exact heap_alloc_new w o
theorem keep_alloc {w : World} (x : Obj) {k : Nat} {o : Obj} (h : w.heap[k]? = some o) : (w.alloc x).heap[k]? = some o := keep (below_alloc0 w x) h
theorem keep_at {B : Nat} {w w1 : World} (hb : Below B w w1) {k : Nat} {o : Obj} (h : w.heap[k]? = some o) (hk : k < B) : w1.heap[k]? = some o := (hb.block k hk).trans h
theorem below_then {B : Nat} {w w1 w2 : World} (h : Below B w w1) (k : Below w1.heap.size w1 w2) (hB : B ≤ w1.heap.size) : Below B w w2 := h.trans (k.mono hB)
/-- Whatever came of the call, one step more. -/
theorem below_next {w w1 w2 : World} (h : Below w.heap.size w w1) (k : Below w1.heap.size w1 w2) : Below w.heap.size w w2 := h.trans (k.mono h.size)
theorem below_new {w w1 : World} (h : Below w.heap.size w w1) (o : Obj) : Below w.heap.size w (w1.alloc o) := h.alloc h.size o
/-- A guarded operation whose guard is known to want it: the same goal without the guard. -/
theorem gate_guard {P : Program} {ops : Array Oper} {rest : List Oper} {o : Oper} {a : Act} {Q : Exit → Act → World → Prop} {W : World} (hw : Region.wanted o (yielded ops a.tmps) = true)
    (h : wpList P ops Q ({ o with guard := none } :: rest) a W) : wpList P ops Q (o :: rest) a W := by
  have h1 : Region.wanted { o with guard := none } (yielded ops a.tmps) = true := rfl
  unfold wpList at h ⊢
  rw [if_pos h1] at h
  rw [if_pos hw]
  exact h
theorem range_of_row {w : World} {g : Nat} {cs : Array Value} {t : TypeId} {fr : Nat × Nat} (h : w.heap[g]? = some (.cells cs t fr)) : w.rangeAt g 0 cs.toList := by
  intro j v hv
  rw [Nat.zero_add, cell_of_row _ _ _ _ _ _ h, ← hv, Array.getElem?_toList]
theorem cell_keep {w w1 : World} (hb : Below w.heap.size w w1) {a : Addr} {v : Value} (h : w.cell? a = some v) : w1.cell? a = some v := (hb.cell (World.block_lt_of_cell? w a h)).trans h
theorem range_keep {w w1 : World} (hb : Below w.heap.size w w1) {g o : Nat} {cs : List Value} (h : w.rangeAt g o cs) : w1.rangeAt g o cs := fun j v hv => cell_keep hb (h j v hv)
/-- What the call owns, it owns behind another call too. -/
theorem pw_own_keep {w w1 : World} {base e size n : Nat} {v : Value} {xs : List Value} (h : w.ownsRow base e size v n xs) (hb : Below w.heap.size w w1) : w1.ownsRow base e size v n xs :=
  ⟨h.1, h.2.imp id fun ⟨g, cap, cur, hv, hg, hh, r⟩ => ⟨g, cap, cur, hv, hg, keep hb hh, r⟩⟩
/-- A slice literal: the call's own. -/
theorem own_new {w : World} {base e size : Nat} (cs : List Value) (g n : Nat) (hg : w.heap.size = g) (hb : base ≤ g) (hn : cs.length = n * size) (hm : n ≤ maxLen) :
    (w.alloc (.cells cs.toArray e (0, 0))).ownsRow base e size (.slice (some ⟨g, 0, none⟩) n n) n cs := by
  subst hg
  exact ⟨hn, .inr ⟨w.heap.size, n, cs.toArray, rfl, hb, heap_alloc_new w _, Nat.le_refl _, hm, by simpa using hn, by simp [List.take_of_length_le (Nat.le_of_eq hn)]⟩⟩
theorem RdB.of_ownc {w : World} {base e n : Nat} {v : Value} {xs : List Int} (h : w.ownsRow base e 1 v n (xs.map (Value.int .u8))) (hb : ∀ x ∈ xs, 0 ≤ x ∧ x ≤ 255) (hn : n ≤ 9223372036854775807) :
    ∃ A cap, v = .slice A n cap ∧ n ≤ cap ∧ RdB w A n xs := by
  obtain ⟨A, cap, hv, hr⟩ := RdB.of_own h hb hn
  refine ⟨A, cap, hv, ?_, hr⟩
  rcases h.2 with ⟨h1, h2⟩ | ⟨g, cap', cur, h1, _, _, hc, _⟩
  · omega
  · rw [hv] at h1
    cases h1
    exact hc
/-- A part of a slice of octets. -/
theorem RdB.part {w : World} {b o n : Nat} {xs : List Int} (h : RdB w (some ⟨b, o, none⟩) n xs) (lo m : Nat) (hm : lo + m ≤ n) : RdB w (some ⟨b, o + lo, none⟩) m ((xs.drop lo).take m) :=
  ⟨by have := h.len; simp; omega, by have := h.max; omega, fun x hx => h.byte x (List.mem_of_mem_drop (List.mem_of_mem_take hx)), fun h0 => by
    obtain ⟨b', o', e, hc⟩ := h.cell (by omega)
    cases e
    refine ⟨_, _, rfl, fun j hj => ?_⟩
    have := hc (lo + j) (by omega)
    rw [Nat.add_assoc, this]
    simp only [List.getD_eq_getElem?_getD, List.getElem?_take, hj, if_true, List.getElem?_drop]⟩
theorem RdB.drew {w : World} {A : Option Addr} {n : Nat} {xs : List Int} (h : RdB w A n xs) : RdB w.drew A n xs := h.below (Below.refl _ _).drew
theorem RdB.alloc {w : World} {A : Option Addr} {n : Nat} {xs : List Int} (h : RdB w A n xs) (o : Obj) : RdB (w.alloc o) A n xs := h.below (below_alloc0 w o)
end Go.Proofs.YtjoejjhgneccgaaGreat

/- Classes of cells, in plain numbers. -/
namespace Go.Proofs.YtjoejjhgneccgaaGreat
open Go.RowKit

def sizeI (k : Int) : Int := if k = 1 then 2 else if k = 2 then 4 else if k = 3 then 8 else if k = 4 then 16 else 0
def ofI (n : Int) : Int := if n < 0 ∨ 127 < n then 0 else if n ≤ 1 then 1 else if n ≤ 3 then 2 else if n ≤ 7 then 3 else if n ≤ 15 then 4 else 5
def cellsI (k : Int) : Int := if k = 1 then 16 else if k = 2 then 8 else if k = 3 then 4 else if k = 4 then 2 else 0
def pagesI (n : Int) : Int := if ofI n = 5 then (n + 32) / 32 else 0
theorem sizeI_pos {k : Int} (h : 1 ≤ k ∧ k ≤ 4) : 2 ≤ sizeI k ∧ sizeI k ≤ 16 := by unfold sizeI; omega
theorem sizeI_zero {k : Int} (h : k < 1 ∨ 5 ≤ k) : sizeI k = 0 := by unfold sizeI; omega
theorem sizeI_bd (k : Int) : 0 ≤ sizeI k ∧ sizeI k ≤ 16 := by unfold sizeI; omega
theorem ofI_bd (n : Int) : 0 ≤ ofI n ∧ ofI n ≤ 5 := by unfold ofI; omega
theorem ofI_out {n : Int} (h : n < 0 ∨ 127 < n) : ofI n = 0 := by unfold ofI; rw [if_pos h]
/-- The first class that is great enough. -/
theorem ofI_first {n k : Int} (h0 : 0 ≤ n) (h1 : n ≤ 127) (hk : 1 ≤ k) (hk5 : k ≤ 5) (hb : ∀ j : Int, 1 ≤ j → j < k → sizeI j < n + 1) (he : k = 5 ∨ n + 1 ≤ sizeI k) : ofI n = k := by
  have b1 : 1 < k → 2 < n + 1 := fun h => by have := hb 1 (by omega) h; simpa [sizeI] using this
  have b2 : 2 < k → 4 < n + 1 := fun h => by have := hb 2 (by omega) h; simpa [sizeI] using this
  have b3 : 3 < k → 8 < n + 1 := fun h => by have := hb 3 (by omega) h; simpa [sizeI] using this
  have b4 : 4 < k → 16 < n + 1 := fun h => by have := hb 4 (by omega) h; simpa [sizeI] using this
  unfold sizeI at he
  unfold ofI
  omega
theorem cellsI_eq (k : Int) : cellsI k = if sizeI k = 0 then 0 else 32 / sizeI k := by
  unfold cellsI sizeI
  by_cases h1 : k = 1
  · subst h1; decide
  by_cases h2 : k = 2
  · subst h2; decide
  by_cases h3 : k = 3
  · subst h3; decide
  by_cases h4 : k = 4
  · subst h4; decide
  simp [h1, h2, h3, h4]
theorem cellsI_pos {k : Int} (h : 1 ≤ k ∧ k ≤ 4) : 2 ≤ cellsI k ∧ cellsI k ≤ 16 := by unfold cellsI; omega
theorem pagesI_bd (n : Int) : 0 ≤ pagesI n ∧ pagesI n ≤ 4 := by unfold pagesI ofI; omega
theorem pagesI_five {n : Int} (h : ofI n = 5) : 16 ≤ n ∧ n ≤ 127 := by unfold ofI at h; omega
end Go.Proofs.YtjoejjhgneccgaaGreat

/- What package class says of a class of cells. -/
namespace Go.Proofs.YtjoejjhgneccgaaGreat
open Go.RowKit

set_option maxHeartbeats 1000000 in
theorem size_any (k : Int) (w : World) :
    Calls Tryz.prog 49 #[.int .i64 k] w fun e w' => e = .returned (.int .i64 (sizeI k)) ∧ w = w' := by
  by_cases h : 1 ≤ k ∧ k ≤ 4
  · have hc : k = 1 ∨ k = 2 ∨ k = 3 ∨ k = 4 := by omega
    clear h
    rcases hc with rfl | rfl | rfl | rfl
    all_goals
      go_enter Tryz.func49, Tryz.ntmps49
      go_wp2_with fail
      go_ret
      exact ⟨rfl, rfl⟩
  · have hs := Lib.hid (sizeI_zero (k := k) (by omega))
    by_cases h1 : k < 1
    · clear h
      go_enter Tryz.func49, Tryz.ntmps49
      go_wp2_with fail
      go_ret
      exact ⟨ret_int hs.out.symm, rfl⟩
    · have h2 : 5 ≤ k := by omega
      clear h
      go_enter Tryz.func49, Tryz.ntmps49
      go_wp2_with fail
      go_ret
      exact ⟨ret_int hs.out.symm, rfl⟩

set_option maxHeartbeats 1000000 in
theorem cells_any (k : Int) (w : World) :
    Calls Tryz.prog 76 #[.int .i64 k] w fun e w' => e = .returned (.int .i64 (cellsI k)) ∧ w = w' := by
  have HE := Lib.hid (cellsI_eq k)
  by_cases h : 1 ≤ k ∧ k ≤ 4
  · have hs := sizeI_pos h
    have h1 : (sizeI k == 0) = false := by simp; omega
    have HE2 := Lib.hid (show cellsI k = 32 / sizeI k from by rw [HE.out, if_neg (by omega)])
    clear h
    go_enter Tryz.func76, Tryz.ntmps76
    go_wp2_with (go_at_call 49; refine (size_any k _).mono ?_; rintro e w1 ⟨rfl, rfl⟩)
    go_ret
    exact ⟨ret_int HE2.out.symm, rfl⟩
  · have hs := sizeI_zero (k := k) (by omega)
    have h1 : (sizeI k == 0) = true := by simp [hs]
    have HE2 := Lib.hid (show cellsI k = 0 from by rw [HE.out, if_pos hs])
    clear h hs
    go_enter Tryz.func76, Tryz.ntmps76
    go_wp2_with (go_at_call 49; refine (size_any k _).mono ?_; rintro e w1 ⟨rfl, rfl⟩)
    go_ret
    exact ⟨ret_int HE2.out.symm, rfl⟩
end Go.Proofs.YtjoejjhgneccgaaGreat

/- The map of whose pages are: its keys. -/
namespace Go.Proofs.YtjoejjhgneccgaaGreat
open Go.RowKit Go.Maps

theorem laidOutP : laidOutB Tryz.prog = true := by kernel_rfl
theorem rowSeat : (91 : TypeId) < Tryz.prog.types.size := of_decide_eq_true (by kernel_rfl)
theorem wideSeat : (match Tryz.prog.underlying 91 with | some (.array _ _) | some (.struct _) => true | _ => false) = true := by rw [Tryz.underlying91]
set_option maxRecDepth 100000 in
theorem lawSeat : Keyed Tryz.prog 91 := Keyed.of_law (deep_law_laid laidOutP (m := 2) (by omega) rowSeat (by kernel_rfl) wideSeat)
theorem typesSucc : ∃ n, Tryz.prog.types.size = n + 1 + 1 := by
  have h : 2 ≤ Tryz.prog.types.size := Nat.le_trans (by decide) rowSeat
  exact ⟨Tryz.prog.types.size - 2, by omega⟩
theorem cellsSeat : Tryz.prog.cellsOf 91 = 2 := by kernel_rfl
theorem cellsInt : Tryz.prog.cellsOf 3 = 1 := by kernel_rfl
theorem formedSeat (a b : Value) : (Value.agg #[a, b]).formed Tryz.prog 91 = true := by simp [Value.formed, Tryz.underlying91, cellsSeat]
/-- A seat as a key. -/
def sk (t k : Int) : Lit := .string (keyBytes [.int .i64 t, .int .i64 k])
theorem keyOf_seat {t k : Int} (ht : (Lit.int .i64 t).wf = true) (hk : (Lit.int .i64 k).wf = true) : keyOf Tryz.prog 91 (.agg #[.int .i64 t, .int .i64 k]) = some (sk t k) := by
  unfold keyOf
  rw [Tryz.underlying91]
  have h1 : Tryz.prog.keyType 91 = true := by kernel_rfl
  obtain ⟨n, hn⟩ := typesSucc
  rw [h1, formedSeat, hn]
  simp [Value.cells, Program.keyLits, Tryz.underlying91, Tryz.underlying3, cellsSeat, cellsInt, ht, hk, sk]
set_option maxRecDepth 100000 in
theorem lits_int {n : Nat} {a : Value} {ls : List Lit} (h : Tryz.prog.keyLits (n + 1) 3 [a] = some ls) : ∃ x, a = .int .i64 x ∧ (Lit.int .i64 x).wf = true := by
  unfold Program.keyLits at h
  rw [Tryz.underlying3] at h
  cases a
  case int q x =>
    simp only at h
    split at h
    · rename_i hc
      exact ⟨x, by rw [hc.1], hc.2⟩
    · cases h
  all_goals exact absurd h (by simp)
set_option maxRecDepth 100000 in
theorem keyOf_seat_inv {key : Value} {kl : Lit} (h : keyOf Tryz.prog 91 key = some kl) : ∃ x : Int × Int, key = .agg #[.int .i64 x.1, .int .i64 x.2] ∧ (Lit.int .i64 x.1).wf = true ∧ (Lit.int .i64 x.2).wf = true := by
  unfold keyOf at h
  rw [Tryz.underlying91] at h
  have h1 : Tryz.prog.keyType 91 = true := by kernel_rfl
  obtain ⟨n, hn⟩ := typesSucc
  rw [h1, hn] at h
  simp only [Bool.true_and] at h
  split at h
  · rename_i hf
    cases key <;> simp [Value.formed, Tryz.underlying91, cellsSeat] at hf
    rename_i cs
    obtain ⟨l⟩ := cs
    match l, hf with
    | [a, b], _ =>
      obtain ⟨m, hm⟩ : ∃ m, m = n + 1 + 1 := ⟨_, rfl⟩
      rw [← hm] at h
      have e : Tryz.prog.keyLits (m + 1) 91 [a, b] = (Tryz.prog.keyLits m 3 [a]).bind fun x => (Tryz.prog.keyLits m 3 [b]).bind fun y => some (x ++ y) := by
        conv => lhs; unfold Program.keyLits
        rw [Tryz.underlying91]
        simp only [cellsSeat]
        simp [cellsInt]
        cases Tryz.prog.keyLits m 3 [a] <;> cases Tryz.prog.keyLits m 3 [b] <;> simp
      rw [show (Value.agg #[a, b]).cells.toList = [a, b] from rfl, e] at h
      cases ha : Tryz.prog.keyLits m 3 [a] with
      | none => rw [ha] at h; simp at h
      | some la =>
        cases hb : Tryz.prog.keyLits m 3 [b] with
        | none => rw [ha, hb] at h; simp at h
        | some lb =>
          rw [hm] at ha hb
          obtain ⟨x, rfl, wx⟩ := lits_int ha
          obtain ⟨y, rfl, wy⟩ := lits_int hb
          exact ⟨(x, y), rfl, wx, wy⟩
  · cases h
theorem sk_inj {t k t' k' : Int} (h1 : (Lit.int .i64 t).wf = true) (h2 : (Lit.int .i64 k).wf = true) (h3 : (Lit.int .i64 t').wf = true) (h4 : (Lit.int .i64 k').wf = true) (h : sk t k = sk t' k') : t = t' ∧ k = k' := by
  have e := lawSeat.inj (keyOf_seat h1 h2) (by rw [h]; exact keyOf_seat h3 h4)
  simpa using e
theorem wf_small {x : Int} (h0 : -9223372036854775808 ≤ x) (h1 : x ≤ 9223372036854775807) : (Lit.int .i64 x).wf = true := by
  simp only [Lit.wf, Bool.and_eq_true, decide_eq_true_eq]
  exact ⟨h0, h1⟩
end Go.Proofs.YtjoejjhgneccgaaGreat
