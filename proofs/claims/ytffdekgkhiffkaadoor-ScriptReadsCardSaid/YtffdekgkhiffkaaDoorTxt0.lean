/- Texts, and the reference's decimals. -/
import Derived.Test.YtffdekgkhiffkaaDoorKit2
import Derived.Test.YtffdekgkhiffkaaDoorProg
import Derived.OwnWalk
import Derived.Lib.Join
import Derived.Lib.AppendIntMem
import Derived.Lib.ItoaLen
namespace Go.Proofs.YtffdekgkhiffkaaDoor
open Go.RowKit

/-- A text, of its letters. -/
def S (l : List UInt8) : ByteArray := ⟨l.toArray⟩
theorem S_app (a b : List UInt8) : S a ++ S b = S (a ++ b) := by
  apply ByteArray.ext
  rw [ByteArray.data_append]
  show a.toArray ++ b.toArray = (a ++ b).toArray
  simp
theorem S_size (l : List UInt8) : (S l).size = l.length := rfl
theorem dec_len (n : Int) (h0 : -9223372036854775808 ≤ n) (h1 : n ≤ 9223372036854775807) : (Lib.decDigits n.natAbs).length ≤ 21 := by
  have := Lib.itoa_length_le n h0 h1
  unfold Lib.itoa at this
  split at this
  · simp at this; omega
  · rename_i h; rw [show n.natAbs = n.toNat by omega]; exact this
abbrev Tab (w : World) : Prop := Lib.TabIs Tryd.prog w "internal/strconv.uint64pow10" .u64 Lib.pow10Tab
theorem Tab.keep {w w1 : World} (h : Tab w) (hb : Below w.heap.size w w1) : Tab w1 := by
  exact Lib.tabBelow_of_tabIs h w1 hb

theorem ret_str {a b : ByteArray} (h : a = b) : Ending.returned (.string a) = .returned (.string b) := by rw [h]
/-- One digit in front. -/
theorem dec_low {u : Nat} (h : u < 10) (s : List UInt8) : [UInt8.ofNat (48 + u % 10)] ++ s = Lib.decDigits u ++ s := by
  rw [Lib.decDigits, dif_pos h, Nat.mod_eq_of_lt h]
theorem dec_high {u : Nat} (h : ¬ u < 10) (s : List UInt8) : Lib.decDigits (u / 10) ++ ([UInt8.ofNat (48 + u % 10)] ++ s) = Lib.decDigits u ++ s := by
  conv => rhs; rw [Lib.decDigits, dif_neg h]
  rw [List.append_assoc]
theorem itoa_zero : Lib.itoa 0 = [48] := by decide +kernel

/-- A slice literal of one octet, as text. -/
theorem RdB.one (w : World) (x : Int) (h : 0 ≤ x ∧ x ≤ 255) (t : TypeId) : RdB (w.alloc (.cells #[.int .u8 x] t)) (some ⟨w.heap.size, 0, none⟩) 1 [x] :=
  ⟨rfl, by omega, by simpa using h, fun _ => ⟨w.heap.size, 0, rfl, fun j hj => by
    obtain rfl : j = 0 := by omega
    rw [cell_of_row _ _ _ _ _ _ (heap_alloc_new w _)]; rfl⟩⟩
theorem str_one (k : Nat) (h : k < 10) : strOfNums [(48 : Int) + k] = S [UInt8.ofNat (48 + k)] := by
  match k, h with
  | 0, _ => rfl
  | 1, _ => rfl
  | 2, _ => rfl
  | 3, _ => rfl
  | 4, _ => rfl
  | 5, _ => rfl
  | 6, _ => rfl
  | 7, _ => rfl
  | 8, _ => rfl
  | 9, _ => rfl

theorem wrap_tdiv {m : Int} (h : m.natAbs ≤ 9223372036854775808) : wrap64 (m.tdiv 10) = m.tdiv 10 := by
  have hdv : (m.tdiv 10).natAbs = m.natAbs / 10 := by rw [Int.natAbs_tdiv]; rfl
  have : (m.tdiv 10).natAbs ≤ 922337203685477580 := by omega
  clear hdv h
  generalize m.tdiv 10 = d at *
  unfold wrap64; omega
theorem tmod_neg {m : Int} (h : m.tmod 10 < 0) : m.tmod 10 = -((m.natAbs % 10 : Nat) : Int) := by
  have hnm : (m.tmod 10).natAbs = m.natAbs % 10 := by rw [Int.natAbs_tmod]; rfl
  generalize m.tmod 10 = d at *
  generalize m.natAbs % 10 = k at *
  omega
theorem tmod_pos {m : Int} (h : ¬ m.tmod 10 < 0) : m.tmod 10 = ((m.natAbs % 10 : Nat) : Int) := by
  have hnm : (m.tmod 10).natAbs = m.natAbs % 10 := by rw [Int.natAbs_tmod]; rfl
  generalize m.tmod 10 = d at *
  generalize m.natAbs % 10 = k at *
  omega
theorem tdiv_less {m : Int} (h : m ≠ 0) : (m.tdiv 10).natAbs < m.natAbs := by
  have hdv : (m.tdiv 10).natAbs = m.natAbs / 10 := by rw [Int.natAbs_tdiv]; rfl
  omega
theorem dec_step {m : Int} {u : Nat} {s : List UInt8} {g : UInt8} (hg : g = UInt8.ofNat (48 + m.natAbs % 10)) (hr : Lib.decDigits m.natAbs ++ s = Lib.decDigits u) :
    if m.tdiv 10 = 0 then [g] ++ s = Lib.decDigits u else Lib.decDigits (m.tdiv 10).natAbs ++ ([g] ++ s) = Lib.decDigits u := by
  have hdv : (m.tdiv 10).natAbs = m.natAbs / 10 := by rw [Int.natAbs_tdiv]; rfl
  subst hg
  split
  · rename_i h0
    have : m.natAbs < 10 := by rw [h0] at hdv; simp at hdv; omega
    rw [dec_low this, hr]
  · rename_i h0
    have : ¬ m.natAbs < 10 := by intro h; apply h0; have : (m.tdiv 10).natAbs = 0 := by rw [hdv]; omega
                                 exact Int.natAbs_eq_zero.1 this
    rw [hdv, dec_high this, hr]
theorem cat_ok {a : ByteArray} {s : List UInt8} (ha : a.size ≤ 100) (h : s.length ≤ 21) : ¬ 9223372036854775807 < a.size + (S s).size := by
  rw [S_size]; omega
theorem octet_ok (q : Nat) (h : q < 10) : 0 ≤ (48 : Int) + q ∧ (48 : Int) + q ≤ 255 := by omega
theorem wrap_small (q : Nat) (h : q < 10) : wrap64 ((48 : Int) + q) = 48 + q ∧ ((48 : Int) + q) % 256 = 48 + q ∧ wrap64 (q : Int) = q := by unfold wrap64; omega

set_option maxHeartbeats 4000000 in
set_option maxRecDepth 100000 in
theorem decimal_any (n : Int) (h0 : -9223372036854775808 ≤ n) (h1 : n ≤ 9223372036854775807) (w : World) :
    Calls Tryd.prog 23 #[.int .i64 n] w fun e w' => e = .returned (.string (S (Lib.itoa n))) ∧ Below w.heap.size w w' := by
  by_cases hz : n = 0
  · subst hz
    rw [itoa_zero]
    go_enter Tryd.func23, Tryd.ntmps23
    go_wp2_with fail
    go_ret
    exact ⟨rfl, Below.refl _ _⟩
  · have hz1 : (n == 0) = false := by simpa using hz
    have HZ := Lib.hid hz
    clear hz
    go_enter Tryd.func23, Tryd.ntmps23
    go_wp2_with fail
    go_loopw [3, 4] (fun v i wr => ∃ (m : Int) (s : List UInt8), i = .int .i64 m ∧ v = .string (S s) ∧ m.natAbs ≤ 9223372036854775808 ∧ Hid (if m = 0 then s = Lib.decDigits n.natAbs else Lib.decDigits m.natAbs ++ s = Lib.decDigits n.natAbs) ∧ Hid (Below w.heap.size w wr)) (fun _ i _ => (intOf i).natAbs)
    case atStart => exact ⟨n, [], rfl, rfl, by omega, Lib.hid (by rw [if_neg HZ.out, List.append_nil]), Lib.hid (Below.refl _ _)⟩
    case round =>
      obtain ⟨m, s, rfl, rfl, hm, HR, HB⟩ := hrel
      have hdl := dec_len n h0 h1
      have hsl : s.length ≤ 21 := by
        have := HR.out
        split at this
        · rw [this]; exact hdl
        · have e := congrArg List.length this
          simp at e; omega
      have hss := S_size s
      by_cases hm0 : m = 0
      · subst hm0
        have hs := HR.out
        rw [if_pos rfl] at hs
        have HS := Lib.hid hs
        clear hs HR
        have hcat : ¬ 9223372036854775807 < (⟨#[45]⟩ : ByteArray).size + (S s).size := cat_ok (by decide) hsl
        clear hdl hsl hss
        by_cases hn : n < 0
        · have hd : decide (n < 0) = true := by simpa using hn
          go_wp2_with fail
          go_ret
          exact ⟨ret_str (by rw [show (⟨#[45]⟩ : ByteArray) = S [45] from rfl, S_app, HS.out]; unfold Lib.itoa; rw [if_pos hn]; rfl), HB.out⟩
        · have hd : decide (n < 0) = false := by simpa using hn
          go_wp2_with fail
          go_ret
          exact ⟨ret_str (by rw [HS.out]; unfold Lib.itoa; rw [if_neg (by simpa using hn), show n.toNat = n.natAbs by omega]), HB.out⟩
      · have hme : (m == 0) = false := by simpa using hm0
        have hr := HR.out
        rw [if_neg hm0] at hr
        obtain ⟨q, hq⟩ : ∃ q, q = m.natAbs % 10 := ⟨_, rfl⟩
        have hq10 : q < 10 := by rw [hq]; exact Nat.mod_lt _ (by decide)
        have hwd := wrap_tdiv hm
        obtain ⟨hw4, hb, hwn⟩ := wrap_small q hq10
        have hcv := (RdB.one wr ((48 : Int) + q) (octet_ok q hq10) 5).conv (P := Tryd.prog) 67 9 5 Tryd.underlying67 Tryd.underlying5 Tryd.underlying9 1
        rw [str_one q hq10] at hcv
        obtain ⟨g, hg⟩ : ∃ g, g = UInt8.ofNat (48 + q) := ⟨_, rfl⟩
        rw [← hg] at hcv
        have hnew := Lib.hid (dec_step (hg.trans (by rw [hq])) hr)
        have hlt := Lib.hid (tdiv_less hm0)
        have hle : Hid ((m.tdiv 10).natAbs ≤ 9223372036854775808) := Lib.hid (Nat.le_trans (Nat.le_of_lt hlt.out) hm)
        have hcat : ¬ 9223372036854775807 < (S [g]).size + (S s).size := cat_ok (by rw [S_size]; simp) hsl
        by_cases hneg : m.tmod 10 < 0
        · have hrem : m.tmod 10 = -(q : Int) := by rw [hq]; exact tmod_neg hneg
          have hdn : decide (-(q : Int) < 0) = true := by rw [← hrem]; exact decide_eq_true hneg
          have hdq : decide (0 < q) = true := by simpa using hdn
          clear hneg hq hr hg hss hsl hdl HR hm
          go_wp2_with fail
          rw [hwd]
          refine ⟨⟨_, [g] ++ s, rfl, by rw [S_app], hle.out, hnew, Lib.hid (below_new HB.out _)⟩, hlt.out⟩
        · have hrem : m.tmod 10 = (q : Int) := by rw [hq]; exact tmod_pos hneg
          have hdn : decide ((q : Int) < 0) = false := by simp
          clear hneg hq hr hg hss hsl hdl HR hm
          go_wp2_with fail
          rw [hwd]
          refine ⟨⟨_, [g] ++ s, rfl, by rw [S_app], hle.out, hnew, Lib.hid (below_new HB.out _)⟩, hlt.out⟩
theorem cat_le {a b : ByteArray} (ha : a.size ≤ 1000000) (hb : b.size ≤ 1000000) : ¬ 9223372036854775807 < a.size + b.size := by omega
def Rng (n : Int) : Prop := -9223372036854775808 ≤ n ∧ n ≤ 9223372036854775807
theorem itoa_len {n : Int} (h : Rng n) : (Lib.itoa n).length ≤ 21 := Lib.itoa_length_le n h.1 h.2
theorem dec_any (n : Int) (h : Rng n) (w : World) :
    Calls Tryd.prog 23 #[.int .i64 n] w fun e w' => e = .returned (.string (S (Lib.itoa n))) ∧ Below w.heap.size w w' := decimal_any n h.1 h.2 w
theorem size_le {l : List UInt8} {m : Nat} (h : l.length ≤ m) (hm : m ≤ 1000000) : (S l).size ≤ 1000000 := by rw [S_size]; omega
def strs (l : List (List UInt8)) : List Value := l.map fun x => .string (S x)
theorem info_str : (Tryd.prog.info? 9).map (fun i => (i.zero, i.size, i.bytes)) = some (some (.string ⟨#[]⟩), 1, 16) := by kernel_rfl
theorem own_strs {w : World} {base e g cap n : Nat} {l : List (List UInt8)} (h : w.ownsRow base e 1 (.slice (some ⟨g, 0, none⟩) n cap) n (strs l)) : ∀ (j : Nat) x, (l.map S)[j]? = some x → w.cell? ⟨g, 0 + j, none⟩ = some (.string x) := by
  intro j x hx
  have hu : (strs l)[j]? = some (.string x) := by
    unfold strs
    rw [List.getElem?_map] at hx ⊢
    cases hj : l[j]? with
    | none => rw [hj] at hx; cases hx
    | some y => rw [hj] at hx; cases hx; rfl
  rw [Nat.zero_add]
  rcases h.2 with ⟨h1, _⟩ | ⟨g', cap', cur, h1, h2, h3, h4, h5, h6, h7⟩
  · cases h1
  · cases h1
    rw [cell_of_row _ _ _ _ _ _ h3]
    rw [← h7, List.getElem?_take] at hu
    split at hu
    · rw [Array.getElem?_toList] at hu; exact hu
    · cases hu

end Go.Proofs.YtffdekgkhiffkaaDoor
