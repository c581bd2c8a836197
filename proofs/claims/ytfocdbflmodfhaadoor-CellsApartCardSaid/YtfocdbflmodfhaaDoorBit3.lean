/- Sets: made; the next one; all of them. -/
import Derived.Test.YtfocdbflmodfhaaDoorBit2
import Derived.Shelf.Spec.TrailingZeros
namespace Go.Proofs.YtfocdbflmodfhaaDoor
open Go.RowKit

/-- math/bits' table, as the program's text lays it. -/
def Tab64 (w : World) : Prop := TabAt 0 Lib.deBruijn64tab w
theorem Tab64.below {B : Nat} {w w' : World} (h : Tab64 w) (hb : Below B w w') (hg : 0 < B) : Tab64 w' := fun j hj => (hb.cell (p := ⟨0, j, none⟩) hg).trans (h j hj)
theorem Tab64.frm {fp : List Nat} {w w' : World} (h : Tab64 w) (hf : Frm fp w w') (hg : 0 ∉ fp) : Tab64 w' := fun j hj => by
  have h1 := h j hj
  have hl := World.block_lt_of_cell? w _ h1
  unfold World.cell? at h1 ⊢
  rw [hf.block _ hl hg]
  exact h1
set_option maxHeartbeats 1000000 in
theorem tz_core (x k idx : Nat) (w : World) (hx0 : ((x : Int) == 0) = false)
    (key : IntKind.u64.wrap (bits BinOp.and IntKind.u64 (x : Int) (IntKind.u64.wrap (-(x : Int))) * 285870213051353865) / 288230376151711744 = (idx : Int))
    (hi : idx < 64) (hk : k < 64) (hcell : w.cell? ⟨0, idx, none⟩ = some (.int .u8 k)) :
    Calls Tryd.prog 94 #[.int .u64 x] w fun e w' => e = .returned (.int .i64 k) ∧ w = w' := by
  go_enter Tryd.func94, Tryd.ntmps94
  go_wp2_with (simp only [key])
  go_ret
  exact ⟨rfl, rfl⟩
theorem tz_any (x : Nat) (h0 : x ≠ 0) (hx : x < 18446744073709551616) (w : World) (ht : Tab64 w) :
    Calls Tryd.prog 94 #[.int .u64 x] w fun e w' => e = .returned (.int .i64 (Lib.ctz 64 x)) ∧ w = w' := by
  obtain ⟨hlow, hk⟩ := Lib.lowest_bit 64 x h0 hx
  obtain ⟨hi, htab⟩ := Lib.deBruijn64_at _ hk
  have hcell := ht _ hi
  rw [htab] at hcell
  exact tz_core x _ _ w (by simp; omega) (tz64_key x _ hx h0 hlow) hi hk hcell
theorem ctz_low {x : Nat} (h0 : x ≠ 0) (hx : x < 2 ^ 64) : Lib.ctz 64 x < 64 ∧ x.testBit (Lib.ctz 64 x) = true ∧ ∀ j, j < Lib.ctz 64 x → x.testBit j = false := by
  obtain ⟨m, hm, hk⟩ := Lib.ctzFrom_spec 64 x (by omega) hx
  have e : Lib.ctz 64 x = Lib.ctzFrom 64 x := by unfold Lib.ctz; rw [if_neg h0]
  rw [e]
  refine ⟨hk, ?_, fun j hj => ?_⟩
  · have h2 : (2 ^ Lib.ctzFrom 64 x * (2 * m + 1)).testBit (Lib.ctzFrom 64 x) = true := by
      rw [Nat.mul_comm, Nat.testBit_mul_two_pow]
      simp
    rw [← hm] at h2
    exact h2
  · have h2 : (2 ^ Lib.ctzFrom 64 x * (2 * m + 1)).testBit j = false := by
      rw [Nat.mul_comm, Nat.testBit_mul_two_pow]
      simp; omega
    rw [← hm] at h2
    exact h2
/-- The least one from a number on; -1: there is none. -/
def nextP (ws : List (BitVec 64)) (i : Nat) (v : Int) : Prop :=
  (v = -1 ∧ ∀ j, i ≤ j → j < 2048 → bit ws j = false) ∨ (∃ m : Nat, v = m ∧ i ≤ m ∧ m < 2048 ∧ bit ws m = true ∧ ∀ j, i ≤ j → j < m → bit ws j = false)
def NextE (ws : List (BitVec 64)) (i : Nat) (e : Ending) : Prop := ∃ v : Int, e = .returned (.int .i64 v) ∧ nextP ws i v
theorem rest_bit (x r j : Nat) : (x / 2 ^ r * 2 ^ r).testBit j = (decide (r ≤ j) && x.testBit j) := by
  rw [Nat.testBit_mul_two_pow]
  by_cases h : r ≤ j
  · rw [Nat.testBit_div_two_pow, show j - r + r = j by omega]
  · simp [h]
/-- What is left of a word. -/
def RestP (ws : List (BitVec 64)) (i k y : Nat) : Prop := y < 2 ^ 64 ∧ (∀ b, b < 64 → y.testBit b = (decide (i ≤ 64 * k + b) && bit ws (64 * k + b))) ∧ (∀ j, i ≤ j → j < 64 * k → bit ws j = false)
theorem rest_start (ws : List (BitVec 64)) (i : Nat) : RestP ws i (i / 64) ((ws.getD (i / 64) 0#64).toNat / 2 ^ (i % 64) * 2 ^ (i % 64)) := by
  refine ⟨Nat.lt_of_le_of_lt (Nat.div_mul_le_self _ _) (BitVec.isLt _), fun b hb => ?_, fun j h1 h2 => by omega⟩
  rw [rest_bit]
  unfold bit
  rw [show (64 * (i / 64) + b) / 64 = i / 64 by omega, show (64 * (i / 64) + b) % 64 = b by omega, BitVec.getLsbD]
  congr 1
  rw [decide_eq_decide]; omega
theorem rest_next {ws : List (BitVec 64)} {i k : Nat} (h : RestP ws i k 0) (hi : i < 64 * (k + 1)) : RestP ws i (k + 1) (ws.getD (k + 1) 0#64).toNat := by
  obtain ⟨-, h1, h2⟩ := h
  refine ⟨BitVec.isLt _, fun b hb => ?_, fun j h3 h4 => ?_⟩
  · have : decide (i ≤ 64 * (k + 1) + b) = true := by simp; omega
    rw [this, Bool.true_and]
    unfold bit
    rw [show (64 * (k + 1) + b) / 64 = k + 1 by omega, show (64 * (k + 1) + b) % 64 = b by omega, BitVec.getLsbD]
  · by_cases h5 : j < 64 * k
    · exact h2 j h3 h5
    · have := h1 (j - 64 * k) (by omega)
      rw [Nat.zero_testBit, show 64 * k + (j - 64 * k) = j by omega] at this
      simpa [h3] using this.symm
theorem rest_found {ws : List (BitVec 64)} {i k y : Nat} (h : RestP ws i k y) (h0 : y ≠ 0) (hk : k < 32) : nextP ws i ((k * 64 + Lib.ctz 64 y : Nat) : Int) := by
  obtain ⟨h1, h2, h3⟩ := h
  obtain ⟨c1, c2, c3⟩ := ctz_low h0 h1
  have h4 := h2 _ c1
  rw [c2] at h4
  have h5 := h4.symm
  rw [Bool.and_eq_true, decide_eq_true_eq] at h5
  refine .inr ⟨_, rfl, by omega, by omega, by rw [Nat.mul_comm]; exact h5.2, fun j hj1 hj2 => ?_⟩
  by_cases h6 : j < 64 * k
  · exact h3 j hj1 h6
  · have h7 := h2 (j - 64 * k) (by omega)
    rw [c3 _ (by omega), show 64 * k + (j - 64 * k) = j by omega] at h7
    simpa [hj1] using h7.symm
theorem rest_none {ws : List (BitVec 64)} {i : Nat} (h : RestP ws i 31 0) : nextP ws i (-1) := by
  obtain ⟨-, h1, h2⟩ := h
  refine .inl ⟨rfl, fun j h3 h4 => ?_⟩
  by_cases h5 : j < 64 * 31
  · exact h2 j h3 h5
  · have := h1 (j - 64 * 31) (by omega)
    rw [Nat.zero_testBit, show 64 * 31 + (j - 64 * 31) = j by omega] at this
    simpa [h3] using this.symm
set_option maxHeartbeats 2000000 in
set_option maxRecDepth 100000 in
theorem next_any {w : World} {s n : Nat} {ws : List (BitVec 64)} (h : Sx w s n ws) (ht : Tab64 w) (i : Nat) (hi : i ≤ 2048) :
    Calls Tryd.prog 82 #[.pointer (some ⟨s, 0, none⟩), .int .i64 i] w fun e w' => NextE ws i e ∧ w = w' := by
  obtain ⟨c0, c1⟩ := h.cells
  have hn := h.le
  by_cases hin : n ≤ i
  · have HN := Lib.hid (show nextP ws i (-1) from .inl ⟨rfl, fun j h1 h2 => h.top j (by omega) h2⟩)
    have hin' : (n : Int) ≤ i := by omega
    clear h hin
    go_enter Tryd.func82, Tryd.ntmps82
    go_wp2_with fail
    go_ret
    exact ⟨⟨_, rfl, HN.out⟩, rfl⟩
  · have hq : ((i : Int) / 64) = ((i / 64 : Nat) : Int) := by norm_cast
    have hr : ((i : Int) % 64) = ((i % 64 : Nat) : Int) := by norm_cast
    have hi64 : i / 64 < 32 := by omega
    have cw := h.word (q := i / 64) hi64
    have hs := rest_start ws i
    have hil : i < 64 * (i / 64 + 1) := by omega
    have hlt : (i : Int) < n := by omega
    have hi0 : (0 : Int) ≤ (i : Int) := by omega
    obtain ⟨q, e1⟩ : ∃ q, q = i / 64 := ⟨_, rfl⟩
    obtain ⟨r, e2⟩ : ∃ r, r = i % 64 := ⟨_, rfl⟩
    rw [← e1] at hq cw hs hi64 hil
    rw [← e2] at hr hs
    have hr64 : (r : Int) ≤ 64 := by omega
    have hq32 : (q : Int) < 32 := by omega
    obtain ⟨x, hx⟩ : ∃ x, x = ws.getD q 0#64 := ⟨_, rfl⟩
    rw [← hx] at cw hs
    have cw' : w.cell? ⟨s, 2 + q, none⟩ = some (.int .u64 x.toNat) := cw
    obtain ⟨y, hy⟩ : ∃ y, y = x.toNat / 2 ^ r * 2 ^ r := ⟨_, rfl⟩
    rw [← hy] at hs
    have hwy : IntKind.u64.wrap ((x.toNat : Int) / 2 ^ r * 2 ^ r) = y := by
      have e : ((x.toNat : Int) / 2 ^ r * 2 ^ r) = ((x.toNat / 2 ^ r * 2 ^ r : Nat) : Int) := by norm_cast
      rw [e, ← hy, u64_wrap y hs.1]
    have HS := Lib.hid hs
    have H := Lib.hid h
    have HT := Lib.hid ht
    have HIL := Lib.hid hil
    have HQ := Lib.hid hi64
    clear h hs cw hx hy e1 e2 ht hin hil hi64
    go_enter Tryd.func82, Tryd.ntmps82
    go_wp2_with fail
    go_loop [5, 6] (fun a b => ∃ (k z : Nat), k < 32 ∧ i < 64 * (k + 1) ∧ a = .int .u64 z ∧ b = .int .i64 k ∧ Hid (RestP ws i k z)) (fun _ b => 32 - (intOf b).toNat)
    case atStart => exact ⟨q, y, HQ.out, HIL.out, rfl, rfl, HS⟩
    case round =>
      clear HQ HIL HS hwy cw' hr64 hq32 hq hr
      obtain ⟨k, z, hk, hik, rfl, rfl, HS⟩ := hrel
      by_cases hz : z = 0
      · subst hz
        by_cases hk31 : k = 31
        · subst hk31
          have HN := Lib.hid (rest_none HS.out)
          go_wp2_with fail
          go_ret
          exact ⟨⟨_, rfl, HN.out⟩, rfl⟩
        · have hk1 : k + 1 < 32 := by omega
          have cw := H.out.word (q := k + 1) hk1
          have HS' := Lib.hid (rest_next HS.out hik)
          obtain ⟨x, hx⟩ : ∃ x, x = ws.getD (k + 1) 0#64 := ⟨_, rfl⟩
          rw [← hx] at cw HS'
          have cw' : w.cell? ⟨s, 2 + (k + 1), none⟩ = some (.int .u64 x.toNat) := cw
          have hne : ((k : Int) + 1 == 32) = false := by simp; omega
          clear hx cw
          go_wp2_with fail
          go_round
          case rel => exact ⟨k + 1, x.toNat, hk1, by omega, rfl, by go_num, HS'⟩
          case measure => simp [intOf]; omega
      · have hz0 : ((z : Int) != 0) = true := by simpa using hz
        have HN := Lib.hid (rest_found HS.out hz hk)
        have hc := (ctz_low hz HS.out.1).1
        have HZ := Lib.hid hz
        clear hz
        go_wp2_with (go_at_call 94; refine (tz_any z HZ.out HS.out.1 _ HT.out).mono ?_; rintro e w' ⟨rfl, rfl⟩)
        go_ret
        exact ⟨⟨_, rfl, HN.out⟩, rfl⟩
end Go.Proofs.YtfocdbflmodfhaaDoor
