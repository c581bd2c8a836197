/- script.Read. -/
import Derived.Test.YtffdekgkhiffkaaDoorScr9
import Derived.Test.YtffdekgkhiffkaaDoorLin4
namespace Go.Proofs.YtffdekgkhiffkaaDoor
open Go.RowKit

theorem parse_yes (l : List UInt8) (hl : l.length ≤ 1073741824) {x : Stp} (h : Lin l x) (w : World) (he : Env w) :
    Calls Tryd.prog 10 #[.string (S l)] w fun e w' => e = .returned (.tuple #[.agg #[.int .i64 x.k, .int .i64 x.t, .int .i64 x.i, .int .i64 x.f, .int .i64 x.j, .int .i64 x.c, .int .i64 x.n], .int .i64 0]) ∧ Below w.heap.size w w' :=
  (parse_any l hl w he).mono fun e w' ⟨y, ok, he, hp, hb⟩ => by
    obtain ⟨rfl, rfl⟩ := parsed_unique hp (parsed_yes h)
    exact ⟨he, hb⟩
theorem parse_no (l : List UInt8) (hl : l.length ≤ 1073741824) (h : ∀ x, ¬ Lin l x) (w : World) (he : Env w) :
    Calls Tryd.prog 10 #[.string (S l)] w fun e w' => e = .returned (.tuple #[.agg #[.int .i64 0, .int .i64 0, .int .i64 0, .int .i64 0, .int .i64 0, .int .i64 0, .int .i64 0], .int .i64 16]) ∧ Below w.heap.size w w' :=
  (parse_any l hl w he).mono fun e w' ⟨y, ok, he, hp, hb⟩ => by
    obtain ⟨rfl, rfl⟩ := parsed_unique hp (parsed_no h)
    exact ⟨he, hb⟩
theorem cut_found (l : List UInt8) (hl : l.length ≤ 1073741824) {i : Nat} (h : Lib.index l [10] = (i : Int)) (w : World) (he : Env w) :
    Calls Tryd.prog 28 #[.string (S l), .string ⟨#[10]⟩] w fun e w' => e = .returned (.tuple #[.string (S (l.take i)), .string (S (l.drop (i + 1))), .bool true]) ∧ Below w.heap.size w w' := by
  obtain ⟨m, hm⟩ := he.len
  refine (Tryd.strings_Cut (S l) (S [10]) m w (by rw [S_size]; omega) hm).mono ?_
  rintro e w1 ⟨h1, n, rfl⟩
  refine ⟨?_, below_drewN (Below.refl _ _) n⟩
  have e1 : Lib.cut (S l).data.toList (S [10]).data.toList = (l.take i, l.drop (i + 1), true) := cut_yes h
  rw [h1, e1]; rfl
theorem cut_none (l : List UInt8) (hl : l.length ≤ 1073741824) (h : Lib.index l [10] = -1) (w : World) (he : Env w) :
    Calls Tryd.prog 28 #[.string (S l), .string ⟨#[10]⟩] w fun e w' => e = .returned (.tuple #[.string (S l), .string (S []), .bool false]) ∧ Below w.heap.size w w' := by
  obtain ⟨m, hm⟩ := he.len
  refine (Tryd.strings_Cut (S l) (S [10]) m w (by rw [S_size]; omega) hm).mono ?_
  rintro e w1 ⟨h1, n, rfl⟩
  refine ⟨?_, below_drewN (Below.refl _ _) n⟩
  have e1 : Lib.cut (S l).data.toList (S [10]).data.toList = (l, [], false) := cut_no h
  rw [h1, e1]; rfl

/-- Steps' cells, one behind the other. -/
def stpsV (xs : List Stp) : List Value := xs.flatMap fun x => x.cells.toList
theorem stpsV_len (xs : List Stp) : (stpsV xs).length = xs.length * 7 := by
  induction xs with
  | nil => rfl
  | cons x xs ih => simp only [stpsV, List.flatMap_cons, List.length_append, List.length_cons] at *; rw [ih, show x.cells.toList.length = 7 from rfl]; omega
theorem stpsV_snoc (xs : List Stp) (x : Stp) : stpsV (xs ++ [x]) = stpsV xs ++ x.cells.toList := by simp [stpsV]
theorem info_stp : (Tryd.prog.info? 23).map (fun i => (i.zero, i.size, i.bytes)) = some (some (.agg Stp.zero.cells), 7, 56) := by kernel_rfl
theorem cell_new_at (w : World) (cs : List Value) (t : TypeId) (fr : Nat × Nat) (k : Nat) (hk : k = w.heap.size) : ∀ j u, cs[j]? = some u → (w.alloc (.cells cs.toArray t fr)).cell? ((⟨k, 0, none⟩ : Addr).add j) = some u := by
  subst hk; exact cell_new w cs t fr
def strLen : Value → Nat
  | .string b => b.size
  | _ => 0
theorem own_slice {w : World} {base e size n : Nat} {v : Value} {xs : List Value} (h : w.ownsRow base e size v n xs) : ∃ p cap, v = .slice p n cap ∧ n ≤ cap := by
  rcases h.2 with ⟨rfl, rfl⟩ | ⟨g, cap, cur, rfl, hg, hh, hc, _⟩
  · exact ⟨none, 0, rfl, Nat.le_refl _⟩
  · exact ⟨_, cap, rfl, hc⟩
/-- What reading a text comes to. -/
def ReadR (l : List UInt8) (w : World) (e : Ending) (w' : World) : Prop :=
  (∃ xs v, Lines l xs ∧ xs.length ≤ 256 ∧ e = .returned (.tuple #[v, .int .i64 0]) ∧ w'.ownsRow w.heap.size 23 7 v xs.length (stpsV xs) ∧ Below w.heap.size w w') ∨
  (∃ xs, Lines l xs ∧ 256 < xs.length ∧ e = .returned (.tuple #[.slice none 0 0, .int .i64 3]) ∧ Below w.heap.size w w') ∨
  ((∀ xs, ¬ Lines l xs) ∧ e = .returned (.tuple #[.slice none 0 0, .int .i64 16]) ∧ Below w.heap.size w w')
theorem readR_no {l : List UInt8} {w w' : World} (h : ∀ xs, ¬ Lines l xs) (hb : Below w.heap.size w w') : ReadR l w (.returned (.tuple #[.slice none 0 0, .int .i64 16])) w' := .inr (.inr ⟨h, rfl, hb⟩)
theorem readR_many {l : List UInt8} {w w' : World} {xs : List Stp} (h : Lines l xs) (hn : 256 < xs.length) (hb : Below w.heap.size w w') : ReadR l w (.returned (.tuple #[.slice none 0 0, .int .i64 3])) w' := .inr (.inl ⟨xs, h, hn, rfl, hb⟩)
theorem readR_yes {l : List UInt8} {w w' : World} {xs : List Stp} {v : Value} (h : Lines l xs) (hn : xs.length ≤ 256) (ho : w'.ownsRow w.heap.size 23 7 v xs.length (stpsV xs)) (hb : Below w.heap.size w w') : ReadR l w (.returned (.tuple #[v, .int .i64 0])) w' := .inl ⟨xs, v, h, hn, rfl, ho, hb⟩

theorem read_long (l : List UInt8) (hl : 16384 < l.length) (w : World) :
    Calls Tryd.prog 12 #[.string (S l)] w fun e w' => e = .returned (.tuple #[.slice none 0 0, .int .i64 5]) ∧ w = w' := by
  have d0 : decide (16384 < ((S l).size : Int)) = true := by rw [S_size]; exact decide_eq_true (by omega)
  clear hl
  go_enter Tryd.func12, Tryd.ntmps12
  go_wp2_with fail
  go_ret2
  exact ⟨rfl, rfl⟩

set_option maxHeartbeats 4000000 in
set_option maxRecDepth 100000 in
theorem read_any (l : List UInt8) (hl : l.length ≤ 16384) (w : World) (he : Env w) :
    Calls Tryd.prog 12 #[.string (S l)] w fun e w' => ReadR l w e w' := by
  obtain ⟨i0, hi, hz0, hz1, hz2⟩ := info_parts info_stp
  have hi := Lib.hid hi
  have hz0 := Lib.hid hz0
  have hz1 := Lib.hid hz1
  have hz2 := Lib.hid hz2
  have EW := Lib.hid he
  have d0 : decide (16384 < ((S l).size : Int)) = false := by rw [S_size]; exact decide_eq_false (by omega)
  have HL := Lib.hid hl
  clear he hl
  go_enter Tryd.func12, Tryd.ntmps12
  go_wp2_with fail
  go_loopw [0, 4] (fun sv ov wr => ∃ (left : List UInt8) (done : List Stp), sv = .string (S left) ∧ Hid (Sofar l done left) ∧ Hid (wr.ownsRow w.heap.size 23 7 ov done.length (stpsV done)) ∧ Hid (Below w.heap.size w wr)) (fun sv _ _ => strLen sv)
  case atStart => exact ⟨l, [], rfl, Lib.hid (sofar_zero l), Lib.hid ⟨rfl, .inl ⟨rfl, rfl⟩⟩, Lib.hid (Below.refl _ _)⟩
  case round =>
    obtain ⟨left, done, rfl, HS, HO, HB⟩ := hrel
    have HDL : Hid (done.length ≤ 16384) := Lib.hid (Nat.le_trans (sofar_len HS.out).1 HL.out)
    have HLL : Hid (left.length ≤ 16384) := Lib.hid (Nat.le_trans (sofar_len HS.out).2 HL.out)
    by_cases h0 : left = []
    · have k1 : (S left).toList.isEmpty = true := by rw [str_empty]; exact decide_eq_true h0
      have k2 : (S left).toList = [] := by rw [toList_S]; exact h0
      have HLN : Hid (Lines l done) := Lib.hid (sofar_end (h0 ▸ HS.out))
      clear h0
      obtain ⟨p, cap, rfl, _⟩ := own_slice HO.out
      by_cases hn : 256 < done.length
      · have d1 : decide (256 < (done.length : Int)) = true := decide_eq_true (by omega)
        have HN := Lib.hid hn
        clear hn
        go_wp2_with fail
        go_ret2
        exact readR_many HLN.out HN.out HB.out
      · have d1 : decide (256 < (done.length : Int)) = false := decide_eq_false (by omega)
        have HN := Lib.hid hn
        clear hn
        go_wp2_with fail
        go_ret2
        exact readR_yes HLN.out (by have := HN.out; omega) HO.out HB.out
    · have k1 : (S left).toList.isEmpty = false := by rw [str_empty]; exact decide_eq_false h0
      have HNE := Lib.hid h0
      clear h0
      rcases index_or 10 left with hx | ⟨i, hx⟩
      · have HX := Lib.hid hx
        have HNO : Hid (∀ xs, ¬ Lines l xs) := Lib.hid (sofar_no HS.out (lines_no HNE.out hx))
        clear hx
        by_cases hp : ∃ x, Lin left x
        · obtain ⟨x, hp⟩ := hp
          have HP := Lib.hid hp
          clear hp
          go_wp2_with (first
            | (go_at_call 28; refine (cut_none left (by have := HLL.out; omega) HX.out _ (EW.out.keep HB.out)).mono ?_; rintro e w5 ⟨rfl, hb5⟩; have B5 := Lib.hid (below_next HB.out hb5); clear hb5)
            | (go_at_call 10; refine (parse_yes left (by have := HLL.out; omega) HP.out _ (EW.out.keep B5.out)).mono ?_; rintro e w6 ⟨rfl, hb6⟩; have B6 := Lib.hid (below_next B5.out hb6); clear hb6))
          go_ret2
          exact readR_no HNO.out (below_new B6.out _)
        · have HP : Hid (∀ x, ¬ Lin left x) := Lib.hid (fun x h => hp ⟨x, h⟩)
          clear hp
          go_wp2_with (first
            | (go_at_call 28; refine (cut_none left (by have := HLL.out; omega) HX.out _ (EW.out.keep HB.out)).mono ?_; rintro e w5 ⟨rfl, hb5⟩; have B5 := Lib.hid (below_next HB.out hb5); clear hb5)
            | (go_at_call 10; refine (parse_no left (by have := HLL.out; omega) HP.out _ (EW.out.keep B5.out)).mono ?_; rintro e w6 ⟨rfl, hb6⟩; have B6 := Lib.hid (below_next B5.out hb6); clear hb6))
          go_ret2
          exact readR_no HNO.out (below_new B6.out _)
      · have HX := Lib.hid hx
        have hil : Hid (i < left.length) := Lib.hid (index_yes hx).2.2
        have HTL : Hid ((left.take i).length ≤ 1073741824) := Lib.hid (by rw [List.length_take]; have := HLL.out; omega)
        clear hx
        by_cases hp : ∃ x, Lin (left.take i) x
        · obtain ⟨x, hp⟩ := hp
          have HP := Lib.hid hp
          have HS2 := Lib.hid (sofar_step HS.out HX.out hp)
          clear hp
          go_wp2_with (first
            | (at_builtin; refine Hid.out ?_)
            | (go_at_call 28; refine (cut_found left (by have := HLL.out; omega) HX.out _ (EW.out.keep HB.out)).mono ?_; rintro e w5 ⟨rfl, hb5⟩; have B5 := Lib.hid (below_next HB.out hb5); have O5 := Lib.hid (pw_own_keep HO.out hb5); clear hb5)
            | (go_at_call 10; refine (parse_yes (left.take i) HTL.out HP.out _ (EW.out.keep B5.out)).mono ?_; rintro e w6 ⟨rfl, hb6⟩; have B6 := Lib.hid (below_next B5.out hb6); have O6 := Lib.hid (pw_own_keep O5.out hb6); clear hb6))
          refine Lib.hid ?_
          refine wpList_append_own _ rfl _ _ 36 rfl w.heap.size 23 i0 (.agg Stp.zero.cells) 7 56 Tryd.underlying36 hi.out hz0.out hz1.out hz2.out rfl (by decide) _ done.length _ rfl ((O6.out.alloc _).alloc _) ⟨w6.heap.size + 1, 0, none⟩ 1 1 x.cells.toList rfl rfl ?c1 ?c2 ?c3 ?c4 ?c5 ?_
          case c1 => exact cell_new_at _ _ _ _ _ (by simp)
          case c2 => intro u hu; simp [Stp.cells] at hu; rcases hu with rfl | rfl | rfl | rfl | rfl | rfl | rfl <;> rfl
          case c3 => unfold maxLen; have := HDL.out; omega
          case c4 => have := HDL.out; omega
          case c5 => have := B6.out.size; simp; omega
          intro v' w7 hown hgrow _
          have HO7 : Hid (w7.ownsRow w.heap.size 23 7 v' (done ++ [x]).length (stpsV (done ++ [x]))) := Lib.hid (by rw [stpsV_snoc, List.length_append]; exact hown)
          have HB7 : Hid (Below w.heap.size w w7) := Lib.hid ((below_new (below_new B6.out _) _).grown hgrow (by simp; have := B6.out.size; omega) (own_base O6.out))
          have HMS : Hid (strLen (.string (S (left.drop (i + 1)))) < strLen (.string (S left))) := Lib.hid (by show (S _).size < (S _).size; rw [S_size, S_size, List.length_drop]; have := hil.out; omega)
          clear hown hgrow
          go_wp2_with fail
          go_roundw
          case rel => exact ⟨left.drop (i + 1), done ++ [x], rfl, HS2, HO7, HB7⟩
          case measure => exact HMS.out
        · have HP : Hid (∀ x, ¬ Lin (left.take i) x) := Lib.hid (fun x h => hp ⟨x, h⟩)
          have HNO : Hid (∀ xs, ¬ Lines l xs) := Lib.hid (sofar_no HS.out (fun ys hy => by
            obtain ⟨y, _, _, h⟩ := lines_first HX.out hy
            exact hp ⟨y, h⟩))
          clear hp
          go_wp2_with (first
            | (go_at_call 28; refine (cut_found left (by have := HLL.out; omega) HX.out _ (EW.out.keep HB.out)).mono ?_; rintro e w5 ⟨rfl, hb5⟩; have B5 := Lib.hid (below_next HB.out hb5); clear hb5)
            | (go_at_call 10; refine (parse_no (left.take i) HTL.out HP.out _ (EW.out.keep B5.out)).mono ?_; rintro e w6 ⟨rfl, hb6⟩; have B6 := Lib.hid (below_next B5.out hb6); clear hb6))
          go_ret2
          exact readR_no HNO.out (below_new B6.out _)
end Go.Proofs.YtffdekgkhiffkaaDoor
