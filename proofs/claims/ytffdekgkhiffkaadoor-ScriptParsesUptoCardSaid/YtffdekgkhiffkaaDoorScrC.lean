/- script.All; scutageplain.Steps. -/
import Derived.Test.YtffdekgkhiffkaaDoorScrA
import Derived.Test.YtffdekgkhiffkaaDoorScrB
import Derived.BigQuiet
namespace Go.Proofs.YtffdekgkhiffkaaDoor
open Go.RowKit

/-- A slice of steps that is read. -/
structure RdX (w : World) (A : Option Addr) (n : Nat) (xs : List Stp) : Prop where
  len : xs.length = n
  max : n * 56 ≤ 140737488355328
  rng : ∀ x ∈ xs, Rng x.n
  cell : 0 < n → ∃ b o, A = some ⟨b, o, none⟩ ∧ ∀ j, j < n → ∀ k v, (xs.getD j Stp.zero).cells[k]? = some v → w.cell? ⟨b, o + j * 7 + k, none⟩ = some v
theorem RdX.below {w w' : World} {A : Option Addr} {n : Nat} {xs : List Stp} (h : RdX w A n xs) (hb : Below w.heap.size w w') : RdX w' A n xs :=
  ⟨h.len, h.max, h.rng, fun h0 => by
    obtain ⟨b, o, e, hc⟩ := h.cell h0
    exact ⟨b, o, e, fun j hj k v hv => cell_keep hb (hc j hj k v hv)⟩⟩
theorem stp_cells_at {w : World} {b o j : Nat} {x : Stp} (h : ∀ k v, x.cells[k]? = some v → w.cell? ⟨b, o + j * 7 + k, none⟩ = some v) :
    w.cell? ⟨b, o + j * 7, none⟩ = some (.int .i64 x.k) ∧ w.cell? ⟨b, o + j * 7 + 1, none⟩ = some (.int .i64 x.t) ∧ w.cell? ⟨b, o + j * 7 + 2, none⟩ = some (.int .i64 x.i) ∧ w.cell? ⟨b, o + j * 7 + 3, none⟩ = some (.int .i64 x.f) ∧
    w.cell? ⟨b, o + j * 7 + 4, none⟩ = some (.int .i64 x.j) ∧ w.cell? ⟨b, o + j * 7 + 5, none⟩ = some (.int .i64 x.c) ∧ w.cell? ⟨b, o + j * 7 + 6, none⟩ = some (.int .i64 x.n) :=
  ⟨h 0 _ rfl, h 1 _ rfl, h 2 _ rfl, h 3 _ rfl, h 4 _ rfl, h 5 _ rfl, h 6 _ rfl⟩
theorem stpsV_get : ∀ {xs : List Stp} {j k : Nat}, j < xs.length → k < 7 → (stpsV xs)[j * 7 + k]? = (xs.getD j Stp.zero).cells[k]?
  | [], j, k, h, _ => absurd h (by simp)
  | x :: xs, 0, k, _, hk => by
    have hl : x.cells.toList.length = 7 := rfl
    rw [stpsV, List.flatMap_cons, Nat.zero_mul, Nat.zero_add, List.getElem?_append_left (by omega), Array.getElem?_toList]; rfl
  | x :: xs, j + 1, k, h, hk => by
    have hl : x.cells.toList.length = 7 := rfl
    rw [stpsV, List.flatMap_cons, List.getElem?_append_right (by omega), hl]
    have := stpsV_get (xs := xs) (j := j) (k := k) (by simpa using h) hk
    rw [stpsV] at this
    rw [show (j + 1) * 7 + k - 7 = j * 7 + k by omega, this]
    simp
theorem RdX.of_own {w : World} {base e n : Nat} {v : Value} {xs : List Stp} (h : w.ownsRow base e 7 v n (stpsV xs)) (hn : n ≤ 1000) (hr : ∀ x ∈ xs, Rng x.n) : ∃ A cap, v = .slice A n cap ∧ RdX w A n xs := by
  have hl : xs.length = n := by have := h.1; rw [stpsV_len] at this; omega
  rcases h.2 with ⟨rfl, rfl⟩ | ⟨g, cap, cur, rfl, hg, hh, hc, hm, hs, ht⟩
  · exact ⟨none, 0, rfl, hl, by omega, hr, fun h0 => absurd h0 (by omega)⟩
  · refine ⟨_, cap, rfl, hl, by omega, hr, fun _ => ⟨g, 0, rfl, fun j hj k u hu => ?_⟩⟩
    have hk : k < 7 := by
      have := (Array.getElem?_eq_some_iff.1 hu).1
      exact this
    rw [Nat.zero_add, h.cellAt (j * 7 + k) (by omega)]
    rw [stpsV_get (by omega) hk]; exact hu

theorem lineT_len (x : Stp) : x.lineT.length ≤ 5 := by
  unfold Stp.lineT
  have := lets_len x.k.toNat
  simp; omega
theorem line_len (x : Stp) (hr : ∀ l, Rng (x.letF l)) : x.line.length ≤ 110 := by
  have h21 : ∀ y ∈ x.lineT, y.length ≤ 21 := by
    intro y hy
    rcases List.mem_cons.1 hy with rfl | hy
    · have : ∀ k : Nat, (wordI k).length ≤ 21 := by intro k; unfold wordI; split <;> decide
      exact this _
    · obtain ⟨l, _, rfl⟩ := List.mem_map.1 hy
      exact itoa_len (hr l)
  have := join_len x.lineT h21
  have h5 := lineT_len x
  unfold Stp.line
  omega
theorem textOf_le : ∀ xs : List Stp, (∀ x ∈ xs, Ok x) → (textOf xs).length ≤ 111 * xs.length
  | [], _ => by simp [textOf]
  | x :: xs, h => by
    have hx := h x (by simp)
    have h1 := line_len x (Stp.check_rngs hx.1 hx.2)
    have h2 := textOf_le xs fun y hy => h y (by simp [hy])
    rw [textOf_cons]
    simp only [List.length_append, List.length_cons]
    omega
theorem bytes_snoc (a b : List UInt8) : Lib.byteCells a ++ Lib.strCells (S b) = Lib.byteCells (a ++ b) := by
  rw [Lib.strCells_eq]
  show Lib.byteCells a ++ Lib.byteCells b = _
  simp [Lib.byteCells]
theorem take_text {xs : List Stp} {j : Nat} (h : j < xs.length) : textOf (xs.take (j + 1)) = textOf (xs.take j) ++ ((xs.getD j Stp.zero).line ++ [10]) := by
  rw [List.take_succ_eq_append_getElem h, textOf_snoc, List.getD_eq_getElem?_getD, List.getElem?_eq_getElem h]
  simp
theorem getD_memX {xs : List Stp} {j : Nat} (h : j < xs.length) : xs.getD j Stp.zero ∈ xs := by
  rw [List.getD_eq_getElem?_getD, List.getElem?_eq_getElem h]; exact List.getElem_mem h

/-- What all steps' lines come to. -/
def AllR (xs : List Stp) (w : World) (e : Ending) (w' : World) : Prop :=
  ((∀ x ∈ xs, Ok x) ∧ e = .returned (.tuple #[.string (S (textOf xs)), .int .i64 0]) ∧ Below w.heap.size w w') ∨
  (∃ m, m < xs.length ∧ (∀ x ∈ xs.take m, Ok x) ∧ (xs.getD m Stp.zero).check ≠ 0 ∧ e = .returned (.tuple #[.string (S []), .int .i64 (xs.getD m Stp.zero).check]) ∧ Below w.heap.size w w')
theorem allR_yes {xs : List Stp} {w w' : World} (h : ∀ x ∈ xs, Ok x) (hb : Below w.heap.size w w') : AllR xs w (.returned (.tuple #[.string (S (textOf xs)), .int .i64 0])) w' := .inl ⟨h, rfl, hb⟩
theorem allR_no {xs : List Stp} {w w' : World} {m : Nat} (hm : m < xs.length) (h : ∀ x ∈ xs.take m, Ok x) {x : Stp} (hx : x = xs.getD m Stp.zero) (hc : x.check ≠ 0) (hb : Below w.heap.size w w') : AllR xs w (.returned (.tuple #[.string (S []), .int .i64 x.check])) w' := by
  subst hx; exact .inr ⟨m, hm, h, hc, rfl, hb⟩
theorem all_many (A : Option Addr) (n cap : Nat) (h : 256 < n) (w : World) :
    Calls Tryd.prog 14 #[.slice A n cap] w fun e w' => e = .returned (.tuple #[.string (S []), .int .i64 3]) ∧ w = w' := by
  have d0 : decide (256 < (n : Int)) = true := decide_eq_true (by omega)
  clear h
  go_enter Tryd.func14, Tryd.ntmps14
  go_wp2_with fail
  go_ret2
  exact ⟨rfl, rfl⟩
theorem line_ok2 (x : Stp) (h : Ok x) (w : World) (ht : Tab w) :
    Calls Tryd.prog 8 #[.agg #[.int .i64 x.k, .int .i64 x.t, .int .i64 x.i, .int .i64 x.f, .int .i64 x.j, .int .i64 x.c, .int .i64 x.n]] w fun e w' => e = .returned (.tuple #[.string (S x.line), .int .i64 0]) ∧ Below w.heap.size w w' :=
  line_ok x h.1 (Stp.check_rngs h.1 h.2) w ht
theorem line_bad2 (x : Stp) (h : x.check ≠ 0) (w : World) :
    Calls Tryd.prog 8 #[.agg #[.int .i64 x.k, .int .i64 x.t, .int .i64 x.i, .int .i64 x.f, .int .i64 x.j, .int .i64 x.c, .int .i64 x.n]] w fun e w' => e = .returned (.tuple #[.string (S []), .int .i64 x.check]) ∧ Below w.heap.size w w' := line_bad x h w
theorem builder_keep {T e : TypeId} {B b : Nat} {bs : List Value} {w w1 : World} (h : Lib.IsBuilder T e B b bs w) (hb : Below w.heap.size w w1) : Lib.IsBuilder T e B b bs w1 := by
  rcases h with ⟨hB, v, h1, h2, h3⟩ | ⟨hB, v, h1, h2, h3⟩
  · exact .inl ⟨hB, v, keep hb h1, pw_own_keep h2 hb, h3⟩
  · exact .inr ⟨hB, v, keep hb h1, pw_own_keep h2 hb, h3⟩

set_option maxHeartbeats 4000000 in
set_option maxRecDepth 100000 in
theorem all_any (A : Option Addr) (n cap : Nat) (xs : List Stp) (hn : n ≤ 256) (w : World) (he : Env w) (hr : RdX w A n xs) :
    Calls Tryd.prog 14 #[.slice A n cap] w fun e w' => AllR xs w e w' := by
  have d0 : decide (256 < (n : Int)) = false := decide_eq_false (by omega)
  have HR := Lib.hid hr
  have EW := Lib.hid he
  have HN := Lib.hid hn
  have hlen := hr.len
  have HLEN := Lib.hid hlen
  clear hr he hlen
  go_enter Tryd.func14, Tryd.ntmps14
  go_wp2_with fail
  go_loopw [14] (fun i wr => ∃ j : Nat, j ≤ n ∧ i = .int .i64 j ∧ Hid (∀ x ∈ xs.take j, Ok x) ∧ Hid (Lib.IsBuilder 69 5 w.heap.size w.heap.size (Lib.byteCells (textOf (xs.take j))) wr) ∧ Hid (Below w.heap.size w wr)) (fun i _ => n - (intOf i).toNat)
  case atStart => exact ⟨0, Nat.zero_le _, rfl, Lib.hid (by simp), Lib.hid (Lib.fresh_isBuilder _ _ w), Lib.hid (below_alloc0 w _)⟩
  case round =>
    obtain ⟨j, hj, rfl, HOK, HBD, HB⟩ := hrel
    by_cases hlt : j < n
    · have d1 : decide ((j : Int) < (n : Int)) = true := decide_eq_true (by omega)
      have hjl : j < xs.length := by rw [HLEN.out]; exact hlt
      obtain ⟨b, o, rfl, hcell⟩ := (HR.out.below HB.out).cell (by omega)
      obtain ⟨g0, g1, g2, g3, g4, g5, g6⟩ := stp_cells_at (hcell j hlt)
      clear hcell
      have HT := Lib.hid (take_text hjl)
      have HRN : Hid (Rng (xs.getD j Stp.zero).n) := Lib.hid (HR.out.rng _ (getD_memX hjl))
      have HLT := Lib.hid hlt
      have HJL := Lib.hid hjl
      have HTL : Hid ((textOf (xs.take j)).length ≤ 111 * 256) := Lib.hid (by
        have := textOf_le _ HOK.out
        rw [List.length_take] at this
        have := HN.out
        omega)
      obtain ⟨x, hx⟩ : ∃ x, x = xs.getD j Stp.zero := ⟨_, rfl⟩
      rw [← hx] at g0 g1 g2 g3 g4 g5 g6 HT HRN
      have HX := Lib.hid hx
      have j0 : (0 : Int) ≤ (j : Int) := by omega
      have j1 : (j : Int) < (n : Int) := by omega
      clear hx hjl hlt
      by_cases hc : x.check = 0
      · have HO : Hid (Ok x) := Lib.hid ⟨hc, HRN.out⟩
        have HOK2 : Hid (∀ y ∈ xs.take (j + 1), Ok y) := Lib.hid (by
          intro y hy
          rw [List.take_succ_eq_append_getElem HJL.out] at hy
          rcases List.mem_append.1 hy with hy | hy
          · exact HOK.out y hy
          · rw [List.mem_singleton] at hy
            have hxx : xs.getD j Stp.zero = xs[j]'HJL.out := by rw [List.getD_eq_getElem?_getD, List.getElem?_eq_getElem HJL.out]; rfl
            rw [hy, ← hxx, ← HX.out]; exact HO.out)
        have hll := line_len x (Stp.check_rngs hc HRN.out)
        have q1 : S x.line ++ (⟨#[10]⟩ : ByteArray) = S (x.line ++ [10]) := S_app _ _
        have q2 : ¬ 9223372036854775807 < (S x.line).size + 1 := by rw [S_size]; omega
        have HWL : Hid ((Lib.byteCells (textOf (xs.take j))).length + (S (x.line ++ [10])).size ≤ 140737488355328) := Lib.hid (by
          rw [Lib.byteCells_length, S_size, List.length_append]; have := HTL.out; simp; omega)
        clear hc hll
        go_wp2_with (first
          | (go_at_call 8; refine (line_ok2 x HO.out _ ((EW.out.keep (below_new HB.out _)).tab)).mono ?_; rintro e w5 ⟨rfl, hb5⟩; have B5 := Lib.hid (below_next (below_new HB.out _) hb5); have D5 := Lib.hid (builder_keep (builder_keep HBD.out (below_alloc0 _ _)) hb5); clear hb5)
          | (go_at_call 29; refine (writestring_any w.heap.size w.heap.size _ (S (x.line ++ [10])) _ D5.out HWL.out B5.out.size).mono ?_; rintro e w6 ⟨rfl, hd6, hb6⟩; have B6 := Lib.hid (B5.out.trans hb6); have D6 := Lib.hid hd6; clear hb6 hd6))
        go_roundw
        case rel => exact ⟨j + 1, HLT.out, by go_num, HOK2, Lib.hid (.inr (by rw [HT.out, ← bytes_snoc]; exact D6.out)), B6⟩
        case measure => simp [intOf]; have := HLT.out; omega
      · have k1 : (x.check != 0) = true := by simpa using hc
        have HC := Lib.hid hc
        clear hc
        go_wp2_with (go_at_call 8; refine (line_bad2 x HC.out _).mono ?_; rintro e w5 ⟨rfl, hb5⟩; have B5 := Lib.hid (below_next (below_new HB.out _) hb5); clear hb5)
        go_ret2
        exact allR_no HJL.out HOK.out HX.out HC.out B5.out
    · obtain rfl : j = n := by omega
      have HTK : Hid (xs.take j = xs) := Lib.hid (by rw [← HLEN.out, List.take_length])
      have HOK2 : Hid (∀ x ∈ xs, Ok x) := Lib.hid (by have := HOK.out; rw [HTK.out] at this; exact this)
      have HBD2 : Hid (Lib.IsBuilder 69 5 w.heap.size w.heap.size (Lib.byteCells (textOf xs)) wr) := Lib.hid (by have := HBD.out; rw [HTK.out] at this; exact this)
      have d1 : decide ((j : Int) < (j : Int)) = false := decide_eq_false (by omega)
      clear hj hlt
      go_wp2_with (go_at_call 30; refine (Tryd.Builder_String_any w.heap.size w.heap.size (textOf xs) _ HBD2.out HB.out.size).mono ?_; rintro e w5 ⟨rfl, hb5⟩; have B5 := Lib.hid (HB.out.trans hb5); clear hb5)
      go_ret2
      exact allR_yes HOK2.out B5.out
end Go.Proofs.YtffdekgkhiffkaaDoor
