/- The law ScriptReads, as a walk. -/
import Derived.Test.YtffdekgkhiffkaaDoorScrE
namespace Go.Proofs.YtffdekgkhiffkaaDoor
open Go.RowKit

theorem sofar_unique {l : List UInt8} {xs done : List Stp} {left : List UInt8} (h : Sofar l done left) (hl : left = []) (hx : Lines l xs) : xs = done := by
  subst hl
  exact lines_unique hx (sofar_end h)
/-- What Read says of a text, held while the law goes on. -/
def Res (l : List UInt8) (B : Nat) (p : Option Addr) (n cap : Nat) (en : Int) (w : World) : Prop :=
  (∃ xs, Lines l xs ∧ xs.length ≤ 256 ∧ en = 0 ∧ n = xs.length ∧ w.ownsRow B 23 7 (.slice p n cap) n (stpsV xs)) ∨
  (∃ xs, Lines l xs ∧ 256 < xs.length ∧ en = 3 ∧ n = 0) ∨ ((∀ xs, ¬ Lines l xs) ∧ en = 16 ∧ n = 0)
theorem Res.keep {l : List UInt8} {B : Nat} {p : Option Addr} {n cap : Nat} {en : Int} {w w1 : World} (h : Res l B p n cap en w) (hb : Below w.heap.size w w1) : Res l B p n cap en w1 := by
  rcases h with ⟨xs, h1, h2, h3, h4, h5⟩ | h | h
  · exact .inl ⟨xs, h1, h2, h3, h4, pw_own_keep h5 hb⟩
  · exact .inr (.inl h)
  · exact .inr (.inr h)
theorem Res.none {l : List UInt8} {B : Nat} {p : Option Addr} {n cap : Nat} {en : Int} {w : World} (h : Res l B p n cap en w) (hn : ∀ xs, ¬ Lines l xs) : en = 16 ∧ n = 0 := by
  rcases h with ⟨xs, h1, _⟩ | ⟨xs, h1, _⟩ | ⟨_, h⟩
  · exact absurd h1 (hn xs)
  · exact absurd h1 (hn xs)
  · exact h
theorem Res.many {l : List UInt8} {B : Nat} {p : Option Addr} {n cap : Nat} {en : Int} {w : World} (h : Res l B p n cap en w) {xs : List Stp} (hx : Lines l xs) (hn : 256 < xs.length) : en = 3 ∧ n = 0 := by
  rcases h with ⟨ys, h1, h2, _⟩ | ⟨ys, h1, _, h⟩ | ⟨h, _⟩
  · obtain rfl := lines_unique hx h1; omega
  · exact h
  · exact absurd hx (h xs)
theorem Res.some {l : List UInt8} {B : Nat} {p : Option Addr} {n cap : Nat} {en : Int} {w : World} (h : Res l B p n cap en w) {xs : List Stp} (hx : Lines l xs) (hn : ¬ 256 < xs.length) : en = 0 ∧ n = xs.length ∧ w.ownsRow B 23 7 (.slice p n cap) n (stpsV xs) := by
  rcases h with ⟨ys, h1, _, h2, h3, h4⟩ | ⟨ys, h1, h2, _⟩ | ⟨h, _⟩
  · obtain rfl := lines_unique hx h1; exact ⟨h2, h3, h4⟩
  · obtain rfl := lines_unique hx h1; omega
  · exact absurd hx (h xs)
theorem read_res (l : List UInt8) (hl : l.length ≤ 16384) (w : World) (he : Env w) :
    Calls Tryd.prog 12 #[.string (S l)] w fun e w' => ∃ p n cap en, e = .returned (.tuple #[.slice p n cap, .int .i64 en]) ∧ Hid (Res l w.heap.size p n cap en w') ∧ Hid (Below w.heap.size w w') :=
  (read_any l hl w he).mono fun e w' hr => by
    rcases hr with ⟨xs, v, h1, h2, he, ho, hb⟩ | ⟨xs, h1, h2, he, hb⟩ | ⟨h1, he, hb⟩
    · obtain ⟨p, cap, rfl, _⟩ := own_slice ho
      exact ⟨p, xs.length, cap, 0, he, Lib.hid (.inl ⟨xs, h1, h2, rfl, rfl, ho⟩), Lib.hid hb⟩
    · exact ⟨none, 0, 0, 3, he, Lib.hid (.inr (.inl ⟨xs, h1, h2, rfl, rfl⟩)), Lib.hid hb⟩
    · exact ⟨none, 0, 0, 16, he, Lib.hid (.inr (.inr ⟨h1, rfl, rfl⟩)), Lib.hid hb⟩

/-- Where the law stands: done, the next line from f on, seen up to j. -/
def At (l : List UInt8) (done : List Stp) (f j : Nat) : Prop := f ≤ j ∧ j ≤ l.length ∧ Sofar l done (l.drop f) ∧ (10 : UInt8) ∉ (l.take j).drop f
theorem at_zero (l : List UInt8) : At l [] 0 0 := ⟨Nat.le_refl _, Nat.zero_le _, by rw [List.drop_zero]; exact sofar_zero l, by simp⟩
theorem at_more {l : List UInt8} {done : List Stp} {f j : Nat} (h : At l done f j) (hj : j < l.length) (hc : l.getD j 0 ≠ 10) : At l done f (j + 1) := by
  refine ⟨by have := h.1; omega, hj, h.2.2.1, ?_⟩
  rw [take_more hj, List.drop_append_of_le_length (by rw [List.length_take]; have := h.1; omega), List.mem_append, List.mem_singleton, not_or]
  exact ⟨h.2.2.2, fun e => hc e.symm⟩
theorem index_at {c : UInt8} : ∀ {a b : List UInt8}, c ∉ a → Lib.index (a ++ c :: b) [c] = (a.length : Int)
  | [], b, _ => by rw [List.nil_append, index_cons, if_pos rfl]; rfl
  | x :: a, b, h => by
    have h1 : ¬ c = x := fun e => h (by simp [e])
    have ih := index_at (c := c) (a := a) (b := b) (fun e => h (by simp [e]))
    rw [List.cons_append, index_cons, if_neg h1, ih, if_neg (by simp)]
    simp
theorem at_index {l : List UInt8} {done : List Stp} {f j : Nat} (h : At l done f j) (hj : j < l.length) (hc : l.getD j 0 = 10) : Lib.index (l.drop f) [10] = ((j - f : Nat) : Int) ∧ (l.drop f).take (j - f) = (l.take j).drop f := by
  have e : l.drop f = (l.take j).drop f ++ 10 :: l.drop (j + 1) := by
    have e1 : l = l.take j ++ (10 :: l.drop (j + 1)) := by
      rw [← hc, List.getD_eq_getElem?_getD, List.getElem?_eq_getElem hj]; simp
    have : l.drop f = (l.take j ++ (10 :: l.drop (j + 1))).drop f := by rw [← e1]
    rw [this, List.drop_append_of_le_length (by rw [List.length_take]; have := h.1; omega)]
  have hl : ((l.take j).drop f).length = j - f := by rw [List.length_drop, List.length_take]; omega
  refine ⟨?_, ?_⟩
  · rw [e, index_at h.2.2.2, hl]
  · rw [e, List.take_append_of_le_length (by omega), List.take_of_length_le (by omega)]
theorem at_line {l : List UInt8} {done : List Stp} {f j : Nat} (h : At l done f j) (hj : j < l.length) (hc : l.getD j 0 = 10) {x : Stp} (hx : Lin ((l.take j).drop f) x) : At l (done ++ [x]) (j + 1) (j + 1) := by
  obtain ⟨h1, h2⟩ := at_index h hj hc
  have h3 := sofar_step h.2.2.1 h1 (by rw [h2]; exact hx)
  rw [List.drop_drop] at h3
  rw [show f + (j - f + 1) = j + 1 by have := h.1; omega] at h3
  exact ⟨Nat.le_refl _, hj, h3, by simp⟩
theorem at_bad {l : List UInt8} {done : List Stp} {f j : Nat} (h : At l done f j) (hj : j < l.length) (hc : l.getD j 0 = 10) (hx : ∀ x, ¬ Lin ((l.take j).drop f) x) : ∀ xs, ¬ Lines l xs := by
  obtain ⟨h1, h2⟩ := at_index h hj hc
  exact sofar_no h.2.2.1 fun ys hy => by
    obtain ⟨y, _, _, h3⟩ := lines_first h1 hy
    rw [h2] at h3
    exact hx y h3
theorem index_none' {c : UInt8} : ∀ {l : List UInt8}, c ∉ l → Lib.index l [c] = -1
  | [], _ => by simp [Lib.index]
  | b :: l, h => by
    have h1 : ¬ c = b := fun e => h (by simp [e])
    rw [index_cons, if_neg h1, index_none' (fun e => h (by simp [e]))]; rfl
theorem at_rest {l : List UInt8} {done : List Stp} {f : Nat} (h : At l done f l.length) (hf : f < l.length) : ∀ xs, ¬ Lines l xs := by
  have h4 := h.2.2.2
  rw [List.take_length] at h4
  refine sofar_no h.2.2.1 (lines_no ?_ (index_none' h4))
  intro e
  have := congrArg List.length e
  rw [List.length_drop] at this
  simp at this; omega
theorem at_end {l : List UInt8} {done : List Stp} (h : At l done l.length l.length) : Lines l done := by
  have h3 := h.2.2.1
  rw [List.drop_length] at h3
  exact sofar_end h3
theorem at_len {l : List UInt8} {done : List Stp} {f j : Nat} (h : At l done f j) : done.length ≤ l.length := (sofar_len h.2.2.1).1

set_option maxHeartbeats 8000000 in
set_option maxRecDepth 100000 in
theorem reads_law (l : List UInt8) (hmax : l.length ≤ 9223372036854775807) (w : World) (he : Env w) :
    Calls Tryd.prog 5 #[.string (S l)] w fun e w' => e = .returned (.bool true) ∧ Below w.heap.size w w' := by
  have EW := Lib.hid he
  clear he
  by_cases hl : 16384 < l.length
  · have d0 : decide (16384 < ((S l).size : Int)) = true := by rw [S_size]; exact decide_eq_true (by omega)
    have HL := Lib.hid hl
    clear hl
    go_enter Tryd.func5, Tryd.ntmps5
    go_wp2_with (first
      | (go_at_call 7; refine (salive _ EW.out).mono ?_; rintro e w1 ⟨rfl, hb1⟩; have B1 := Lib.hid hb1; clear hb1)
      | (go_at_call 12; refine (read_long l HL.out _).mono ?_; rintro e w2 ⟨rfl, rfl⟩))
    go_ret
    exact ⟨rfl, B1.out⟩
  have hl2 : l.length ≤ 16384 := by omega
  have d0 : decide (16384 < ((S l).size : Int)) = false := by rw [S_size]; exact decide_eq_false (by omega)
  obtain ⟨i0, hi, hz0, hz1, hz2⟩ := info_parts info_stp
  have hi := Lib.hid hi
  have hz0 := Lib.hid hz0
  have hz1 := Lib.hid hz1
  have hz2 := Lib.hid hz2
  have HL := Lib.hid hl2
  have hS : (S l).size ≤ 16384 := hl2
  clear hl hl2 hmax
  go_enter Tryd.func5, Tryd.ntmps5
  go_wp2_with (first
    | (go_at_call 7; refine (salive _ EW.out).mono ?_; rintro e w1 ⟨rfl, hb1⟩; have B1 := Lib.hid hb1; clear hb1)
    | (go_at_call 12; refine (read_res l HL.out _ (EW.out.keep B1.out)).mono ?_; rintro e w2 ⟨p, n, cap, en, rfl, HRS, HB⟩; have B2 := Lib.hid (below_next B1.out HB.out); clear HB))
  go_loopw [5, 6, 7] (fun v fv i wr => ∃ (j f : Nat) (done : List Stp), i = .int .i64 j ∧ fv = .int .i64 f ∧ Hid (At l done f j) ∧ Hid (wr.ownsRow w2.heap.size 23 7 v done.length (stpsV done)) ∧ Hid (Below w.heap.size w wr) ∧ Hid (Below w2.heap.size w2 wr)) (fun _ _ i _ => l.length - (intOf i).toNat)
  case atStart => exact ⟨0, 0, [], rfl, rfl, Lib.hid (at_zero l), Lib.hid ⟨rfl, .inl ⟨rfl, rfl⟩⟩, B2, Lib.hid (Below.refl _ _)⟩
  case round =>
    obtain ⟨j, f, done, rfl, rfl, HA, HO, B3, HW⟩ := hrel
    have hj := HA.out.2.1
    have HDL : Hid (done.length ≤ 16384) := Lib.hid (Nat.le_trans (at_len HA.out) HL.out)
    by_cases hlt : j < l.length
    · have d1 : decide ((j : Int) < ((S l).size : Int)) = true := by rw [S_size]; exact decide_eq_true (by omega)
      have hidx := str_index l j hlt
      have HLT := Lib.hid hlt
      by_cases hc : l.getD j 0 = 10
      · rw [hc] at hidx
        have e10 : ((UInt8.toNat 10 : Nat) : Int) = 10 := rfl
        have hex := S_part l f j
        have f0 : (0 : Int) ≤ (f : Int) := by omega
        have f1 : (f : Int) ≤ (j : Int) := by have := HA.out.1; omega
        have f2 : (j : Int) ≤ ((S l).size : Int) := by rw [S_size]; omega
        have HPL : Hid (((l.take j).drop f).length ≤ 1073741824) := Lib.hid (by rw [List.length_drop, List.length_take]; have := HL.out; omega)
        by_cases hp : ∃ x, Lin ((l.take j).drop f) x
        · obtain ⟨x, hp⟩ := hp
          have HP := Lib.hid hp
          have HA2 := Lib.hid (at_line HA.out hlt hc hp)
          clear hp hc hlt hj
          generalize (l.take j).drop f = pc at *
          go_wp2_with (first
            | (at_builtin; refine Hid.out ?_)
            | (go_at_call 11; refine (rparse_yes pc HPL.out HP.out _).mono ?_; rintro e w6 ⟨rfl, hb6⟩; have B6 := Lib.hid (below_next B3.out hb6); have O6 := Lib.hid (pw_own_keep HO.out hb6); have W6 := Lib.hid (below_next HW.out hb6); clear hb6))
          refine Lib.hid ?_
          refine wpList_append_own _ rfl _ _ 36 rfl w2.heap.size 23 i0 (.agg Stp.zero.cells) 7 56 Tryd.underlying36 hi.out hz0.out hz1.out hz2.out rfl (by decide) _ done.length _ rfl ((O6.out.alloc _).alloc _) ⟨w6.heap.size + 1, 0, none⟩ 1 1 x.cells.toList rfl rfl ?c1 ?c2 ?c3 ?c4 ?c5 ?_
          case c1 => exact cell_new_at _ _ _ _ _ (by simp)
          case c2 => intro u hu; simp [Stp.cells] at hu; rcases hu with rfl | rfl | rfl | rfl | rfl | rfl | rfl <;> rfl
          case c3 => unfold maxLen; have := HDL.out; omega
          case c4 => have := HDL.out; omega
          case c5 => have := W6.out.size; simp; omega
          intro v' w7 hown hgrow _
          have HO7 : Hid (w7.ownsRow w2.heap.size 23 7 v' (done ++ [x]).length (stpsV (done ++ [x]))) := Lib.hid (by rw [stpsV_snoc, List.length_append]; exact hown)
          have HW7 : Hid (Below w2.heap.size w2 w7) := Lib.hid ((below_new (below_new W6.out _) _).grown hgrow (by simp; have := W6.out.size; omega) (own_base O6.out))
          have HB7 : Hid (Below w.heap.size w w7) := Lib.hid (B2.out.trans (HW7.out.mono B2.out.size))
          clear hown hgrow
          go_wp2_with fail
          go_roundw
          case rel => exact ⟨j + 1, j + 1, done ++ [x], by go_num, by go_num, HA2, HO7, HB7, HW7⟩
          case measure => simp [intOf]; have := HLT.out; omega
        · have HP : Hid (∀ x, ¬ Lin ((l.take j).drop f) x) := Lib.hid (fun x h => hp ⟨x, h⟩)
          obtain ⟨rfl, rfl⟩ := HRS.out.none (at_bad HA.out hlt hc HP.out)
          clear hp hc hlt hj
          generalize (l.take j).drop f = pc at *
          go_wp2_with (go_at_call 11; refine (rparse_no pc HPL.out HP.out _).mono ?_; rintro e w6 ⟨rfl, hb6⟩; have B6 := Lib.hid (below_next B3.out hb6); clear hb6)
          go_ret
          exact ⟨rfl, below_new B6.out _⟩
      · have e10 : (((l.getD j 0).toNat : Int) == 10) = false := by
          simp; intro h; exact hc (UInt8.toNat_inj.1 (by show (l.getD j 0).toNat = 10; rw [List.getD_eq_getElem?_getD]; omega))
        have HA2 := Lib.hid (at_more HA.out hlt hc)
        obtain ⟨q, hq⟩ : ∃ q : Int, q = ((l.getD j 0).toNat : Int) := ⟨_, rfl⟩
        rw [← hq] at hidx e10
        clear hc hq hlt hj
        go_wp2_with fail
        go_roundw
        case rel => exact ⟨j + 1, f, done, by go_num, rfl, HA2, HO, B3, HW⟩
        case measure => simp [intOf]; have := HLT.out; omega
    · obtain rfl : j = l.length := by omega
      have d1 : decide ((l.length : Int) < ((S l).size : Int)) = false := by rw [S_size]; exact decide_eq_false (by omega)
      have d1b : decide (l.length < (S l).size) = false := by rw [S_size]; exact decide_eq_false (by omega)
      clear hlt hj
      have hfl := HA.out.1
      by_cases hf : f < l.length
      · obtain ⟨rfl, rfl⟩ := HRS.out.none (at_rest HA.out hf)
        have d2 : decide ((f : Int) < ((S l).size : Int)) = true := by rw [S_size]; exact decide_eq_true (by omega)
        have d2b : decide (f < (S l).size) = true := by rw [S_size]; exact decide_eq_true (by omega)
        clear hf hfl
        go_wp2_with fail
        go_ret
        exact ⟨rfl, B3.out⟩
      · obtain rfl : f = l.length := by omega
        have HLN := Lib.hid (at_end HA.out)
        clear hf hfl
        obtain ⟨q, cap2, rfl, _⟩ := own_slice HO.out
        by_cases hn : 256 < done.length
        · obtain ⟨rfl, rfl⟩ := HRS.out.many HLN.out hn
          have d2 : decide (256 < (done.length : Int)) = true := decide_eq_true (by omega)
          clear hn
          go_wp2_with fail
          go_ret
          exact ⟨rfl, B3.out⟩
        · obtain ⟨rfl, rfl, hown⟩ := (HRS.out.keep HW.out).some HLN.out hn
          have d2 : decide (256 < (done.length : Int)) = false := decide_eq_false (by omega)
          have hrg : ∀ y ∈ done, Rng y.n := fun y hy => (HLN.out.1 y hy).2
          obtain ⟨A1, c1, e1, hr1⟩ := RdX.of_own hown (by omega) hrg
          obtain ⟨A2, c2, e2, hr2⟩ := RdX.of_own HO.out (by omega) hrg
          cases e1
          cases e2
          have HR1 := Lib.hid hr1
          have HR2 := Lib.hid hr2
          clear hr1 hr2 hown hrg hn
          go_wp2_with (go_at_call 13; refine (steps_same _ _ _ _ _ done _ HR1.out HR2.out).mono ?_; rintro e w6 ⟨rfl, hb6⟩; have B6 := Lib.hid (below_next B3.out hb6); clear hb6)
          go_ret
          exact ⟨rfl, B6.out⟩
end Go.Proofs.YtffdekgkhiffkaaDoor
