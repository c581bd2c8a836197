/- Which letters are a number's numeral, as the reference asks it. -/
import Derived.Test.YtffdekgkhiffkaaDoorLin0
namespace Go.Proofs.YtffdekgkhiffkaaDoor
open Go.RowKit

def Dig (c : UInt8) : Prop := 48 ≤ c.toNat ∧ c.toNat ≤ 57
instance (c : UInt8) : Decidable (Dig c) := by unfold Dig; infer_instance
/-- The number of digits behind another one. -/
def valA (a : Nat) (l : List UInt8) : Nat := l.foldl (fun n c => n * 10 + (c.toNat - 48)) a
theorem valA_snoc (a : Nat) (l : List UInt8) (c : UInt8) : valA a (l ++ [c]) = valA a l * 10 + (c.toNat - 48) := by simp [valA, List.foldl_append]
theorem valA_lt : ∀ (l : List UInt8) (a : Nat), (∀ c ∈ l, Dig c) → a * 10 ^ l.length ≤ valA a l ∧ valA a l < (a + 1) * 10 ^ l.length
  | [], a, _ => by simp [valA]
  | c :: l, a, h => by
    have h1 := h c (by simp)
    unfold Dig at h1
    have h2 := valA_lt l (a * 10 + (c.toNat - 48)) fun d hd => h d (by simp [hd])
    have e : valA a (c :: l) = valA (a * 10 + (c.toNat - 48)) l := rfl
    rw [e, List.length_cons, Nat.pow_succ]
    have h3 : a * (10 ^ l.length * 10) ≤ (a * 10 + (c.toNat - 48)) * 10 ^ l.length := by
      rw [Nat.mul_comm (10 ^ l.length) 10, ← Nat.mul_assoc]
      exact Nat.mul_le_mul_right _ (by omega)
    have h4 : (a * 10 + (c.toNat - 48) + 1) * 10 ^ l.length ≤ (a + 1) * (10 ^ l.length * 10) := by
      rw [Nat.mul_comm (10 ^ l.length) 10, ← Nat.mul_assoc]
      exact Nat.mul_le_mul_right _ (by omega)
    exact ⟨Nat.le_trans h3 h2.1, Nat.lt_of_lt_of_le h2.2 h4⟩
theorem valA_mono {a b : Nat} (h : a < b) {x y : List UInt8} (hl : x.length = y.length) (hx : ∀ c ∈ x, Dig c) (hy : ∀ c ∈ y, Dig c) : valA a x < valA b y := by
  have h1 := (valA_lt x a hx).2
  have h2 := (valA_lt y b hy).1
  have h3 : (a + 1) * 10 ^ x.length ≤ b * 10 ^ y.length := by rw [hl]; exact Nat.mul_le_mul_right _ h
  omega
theorem less_val : ∀ (x y : List UInt8) (a : Nat), x.length = y.length → (∀ c ∈ x, Dig c) → (∀ c ∈ y, Dig c) → (Op.bytesLess x y = true ↔ valA a x < valA a y)
  | [], [], a, _, _, _ => by simp [Op.bytesLess, valA]
  | [], _ :: _, _, h, _, _ => by simp at h
  | _ :: _, [], _, h, _, _ => by simp at h
  | c :: x, d :: y, a, h, hx, hy => by
    have hc := hx c (by simp)
    have hd := hy d (by simp)
    unfold Dig at hc hd
    have hl : x.length = y.length := by simpa using h
    have hx' : ∀ c ∈ x, Dig c := fun e he => hx e (by simp [he])
    have hy' : ∀ c ∈ y, Dig c := fun e he => hy e (by simp [he])
    have e1 : valA a (c :: x) = valA (a * 10 + (c.toNat - 48)) x := rfl
    have e2 : valA a (d :: y) = valA (a * 10 + (d.toNat - 48)) y := rfl
    rw [e1, e2, Op.bytesLess]
    by_cases h1 : c = d
    · subst h1
      have := less_val x y (a * 10 + (c.toNat - 48)) hl hx' hy'
      simp [this]
    · by_cases h2 : c < d
      · have h3 : c.toNat < d.toNat := UInt8.lt_iff_toNat_lt.1 h2
        have := valA_mono (a := a * 10 + (c.toNat - 48)) (b := a * 10 + (d.toNat - 48)) (by omega) hl hx' hy'
        simp [h2, this]
      · have h3 : ¬ c.toNat < d.toNat := fun h => h2 (UInt8.lt_iff_toNat_lt.2 h)
        have h4 : c.toNat ≠ d.toNat := fun h => h1 (UInt8.toNat_inj.1 h)
        have := valA_mono (a := a * 10 + (d.toNat - 48)) (b := a * 10 + (c.toNat - 48)) (by omega) hl.symm hy' hx'
        simp [h1, h2]
        omega
theorem val_inj {x y : List UInt8} (a : Nat) (hl : x.length = y.length) (hx : ∀ c ∈ x, Dig c) (hy : ∀ c ∈ y, Dig c) (h : valA a x = valA a y) : x = y := by
  induction x generalizing y a with
  | nil => cases y with
    | nil => rfl
    | cons _ _ => simp at hl
  | cons c x ih => cases y with
    | nil => simp at hl
    | cons d y =>
      have hc := hx c (by simp)
      have hd := hy d (by simp)
      unfold Dig at hc hd
      have hl' : x.length = y.length := by simpa using hl
      have hx' : ∀ c ∈ x, Dig c := fun e he => hx e (by simp [he])
      have hy' : ∀ c ∈ y, Dig c := fun e he => hy e (by simp [he])
      have e1 : valA a (c :: x) = valA (a * 10 + (c.toNat - 48)) x := rfl
      have e2 : valA a (d :: y) = valA (a * 10 + (d.toNat - 48)) y := rfl
      rw [e1, e2] at h
      by_cases h1 : c.toNat = d.toNat
      · have hcd : c = d := UInt8.toNat_inj.1 h1
        subst hcd
        rw [ih _ hl' hx' hy' h]
      · rcases Nat.lt_or_ge c.toNat d.toNat with h2 | h2
        · have := valA_mono (a := a * 10 + (c.toNat - 48)) (b := a * 10 + (d.toNat - 48)) (by omega) hl' hx' hy'
          omega
        · have := valA_mono (a := a * 10 + (d.toNat - 48)) (b := a * 10 + (c.toNat - 48)) (by omega) hl'.symm hy' hx'
          omega
theorem val_dec (u : Nat) : valA 0 (Lib.decDigits u) = u := by
  induction u using Nat.strongRecOn with
  | _ u ih =>
  rw [Lib.decDigits]
  split
  · rename_i h10
    have e := digit_nat h10
    simp only [valA, List.foldl_cons, List.foldl_nil]
    omega
  · rename_i h10
    have e := digit_nat (Nat.mod_lt u (by decide : 0 < 10))
    rw [valA_snoc, ih (u / 10) (by omega)]
    omega
/-- Digits, and no 0 ahead. -/
def Canon (l : List UInt8) : Prop := l ≠ [] ∧ (∀ c ∈ l, Dig c) ∧ (1 < l.length → l.getD 0 0 ≠ 48)
theorem dec_canon (u : Nat) : Canon (Lib.decDigits u) := by
  refine ⟨dec_ne u, dec_all u, ?_⟩
  induction u using Nat.strongRecOn with
  | _ u ih =>
  intro h1
  rw [Lib.decDigits] at h1 ⊢
  split at h1
  · simp at h1
  · rename_i h10
    rw [dif_neg h10]
    have hne := dec_ne (u / 10)
    have e : (Lib.decDigits (u / 10) ++ [UInt8.ofNat (48 + u % 10)]).getD 0 0 = (Lib.decDigits (u / 10)).getD 0 0 := by
      cases hd : Lib.decDigits (u / 10) with
      | nil => exact absurd hd hne
      | cons a b => rfl
    rw [e]
    by_cases h2 : 1 < (Lib.decDigits (u / 10)).length
    · exact ih (u / 10) (by omega) h2
    · have hlt : u / 10 < 10 := by
        rcases Nat.lt_or_ge (u / 10) 10 with h | h
        · exact h
        · exfalso
          rw [Lib.decDigits, dif_neg (by omega)] at h2
          have := List.length_pos_iff.2 (dec_ne (u / 10 / 10))
          simp at h2
          exact dec_ne _ h2
      rw [Lib.decDigits, dif_pos hlt]
      intro hc
      have := digit_nat hlt
      have h3 : (UInt8.ofNat (48 + u / 10)).toNat = 48 := by
        have : UInt8.ofNat (48 + u / 10) = 48 := hc
        rw [this]; rfl
      omega
theorem canon_dec {l : List UInt8} (h : Canon l) : Lib.decDigits (valA 0 l) = l := by
  obtain ⟨h0, h1, h2⟩ := h
  have hk : ∀ n (l : List UInt8), l.length = n → l ≠ [] → (∀ c ∈ l, Dig c) → (1 < l.length → l.getD 0 0 ≠ 48) → Lib.decDigits (valA 0 l) = l := by
    intro n
    induction n with
    | zero => intro l hl h0; exact absurd (List.length_eq_zero_iff.1 hl) h0
    | succ n ih =>
      intro l hl h0 h1 h2
      obtain ⟨a, d, rfl⟩ : ∃ a d, l = a ++ [d] := ⟨l.dropLast, l.getLast h0, (List.dropLast_concat_getLast h0).symm⟩
      have hd := h1 d (by simp)
      unfold Dig at hd
      have hdd : UInt8.ofNat (48 + (d.toNat - 48)) = d := by
        apply UInt8.toNat_inj.1
        rw [digit_nat (by omega)]; omega
      rw [valA_snoc]
      by_cases ha : a = []
      · subst ha
        rw [Lib.decDigits, dif_pos (by simp [valA]; omega)]
        simp [valA, hdd]
      · have h3 : a.getD 0 0 ≠ 48 := by
          have := h2 (by have := List.length_pos_iff.2 ha; simp; omega)
          cases a with
          | nil => exact absurd rfl ha
          | cons b c => exact this
        have h4 := ih a (by simpa using hl) ha (fun c hc => h1 c (by simp [hc])) fun _ => h3
        have h5 : valA 0 a ≠ 0 := by
          intro h0
          rw [h0] at h4
          rw [← h4] at h3
          exact h3 (by rw [Lib.decDigits, dif_pos (by omega)]; rfl)
        rw [Lib.decDigits, dif_neg (by omega)]
        have e1 : (valA 0 a * 10 + (d.toNat - 48)) / 10 = valA 0 a := by omega
        have e2 : (valA 0 a * 10 + (d.toNat - 48)) % 10 = d.toNat - 48 := by omega
        rw [e1, e2, h4, hdd]
  exact hk _ l rfl h0 h1 h2
theorem canon_len {l : List UInt8} (h : Canon l) (m : Nat) (hm : 0 < m) : l.length ≤ m ↔ (valA 0 l < 10 ^ m ∨ l.length ≤ m) := by
  constructor
  · exact .inr
  · rintro (h1 | h1)
    · rcases Nat.lt_or_ge m l.length with h2 | h2
      · exfalso
        obtain ⟨h0, hd, hz⟩ := h
        cases l with
        | nil => exact h0 rfl
        | cons c r =>
          by_cases hr : r = []
          · subst hr
            simp at h2
            omega
          · have hl : 1 < (c :: r).length := by have := List.length_pos_iff.2 hr; simp; omega
            have hc := hz hl
            have hcd := hd c (by simp)
            unfold Dig at hcd
            have hc48 : c.toNat ≠ 48 := fun h => hc (UInt8.toNat_inj.1 (by show c.toNat = 48; exact h))
            have := (valA_lt r (0 * 10 + (c.toNat - 48)) (fun d hd' => hd d (by simp [hd']))).1
            have e : valA 0 (c :: r) = valA (0 * 10 + (c.toNat - 48)) r := rfl
            rw [← e] at this
            have h3 : 10 ^ m ≤ 10 ^ r.length := Nat.pow_le_pow_right (by decide) (by simp at h2; omega)
            have h4 : 10 ^ r.length ≤ (0 * 10 + (c.toNat - 48)) * 10 ^ r.length := Nat.le_mul_of_pos_left _ (by omega)
            omega
      · exact h2
    · exact h1

/-- The digits of a text, and the greatest ones. -/
def digsOf (l : List UInt8) : List UInt8 := if l.getD 0 0 = 45 ∧ 0 < l.length then l.drop 1 else l
def topOf (l : List UInt8) : List UInt8 := if l.getD 0 0 = 45 ∧ 0 < l.length then [57, 50, 50, 51, 51, 55, 50, 48, 51, 54, 56, 53, 52, 55, 55, 53, 56, 48, 56] else [57, 50, 50, 51, 51, 55, 50, 48, 51, 54, 56, 53, 52, 55, 55, 53, 56, 48, 55]
/-- What the reference refuses at once. -/
def Bad1 (l ds tp : List UInt8) : Prop := ds = [] ∨ 19 < ds.length ∨ (1 < ds.length ∧ ds.getD 0 0 = 48) ∨ (ds.length = 19 ∧ Op.bytesLess ds tp = false ∧ ds ≠ tp) ∨ l = [45, 48]
theorem top_pos {l : List UInt8} (h : ¬ (l.getD 0 0 = 45 ∧ 0 < l.length)) : (∀ c ∈ topOf l, Dig c) ∧ (topOf l).length = 19 ∧ valA 0 (topOf l) = 9223372036854775807 := by
  unfold topOf
  rw [if_neg h]
  exact ⟨by decide, rfl, by decide +kernel⟩
theorem top_neg {l : List UInt8} (h : l.getD 0 0 = 45 ∧ 0 < l.length) : (∀ c ∈ topOf l, Dig c) ∧ (topOf l).length = 19 ∧ valA 0 (topOf l) = 9223372036854775808 := by
  unfold topOf
  rw [if_pos h]
  exact ⟨by decide, rfl, by decide +kernel⟩
/-- What passes is a numeral. -/
theorem num_pass {l : List UInt8} (h : ¬ Bad1 l (digsOf l) (topOf l)) (hd : ∀ c ∈ digsOf l, Dig c) :
    valA 0 (digsOf l) ≤ 9223372036854775808 ∧ numT l = some (if l.getD 0 0 = 45 ∧ 0 < l.length then -(valA 0 (digsOf l) : Int) else (valA 0 (digsOf l) : Int)) := by
  unfold Bad1 at h
  simp only [not_or, not_and] at h
  obtain ⟨h1, h2, h3, h4, h5⟩ := h
  have hc : Canon (digsOf l) := ⟨h1, hd, fun h => h3 h⟩
  have hdec := canon_dec hc
  have hv : valA 0 (digsOf l) ≤ valA 0 (topOf l) ∨ valA 0 (digsOf l) < 10 ^ 18 := by
    by_cases h19 : (digsOf l).length = 19
    · left
      have ht : (∀ c ∈ topOf l, Dig c) ∧ (topOf l).length = 19 := by
        by_cases hn : l.getD 0 0 = 45 ∧ 0 < l.length
        · exact ⟨(top_neg hn).1, (top_neg hn).2.1⟩
        · exact ⟨(top_pos hn).1, (top_pos hn).2.1⟩
      have hb := less_val (digsOf l) (topOf l) 0 (by rw [h19, ht.2]) hd ht.1
      cases hbl : Op.bytesLess (digsOf l) (topOf l) with
      | true => exact Nat.le_of_lt (hb.1 hbl)
      | false =>
        have := h4 h19 hbl
        rw [Decidable.not_not.1 this]
        exact Nat.le_refl _
    · right
      have := (valA_lt (digsOf l) 0 hd).2
      have h6 : 10 ^ (digsOf l).length ≤ 10 ^ 18 := Nat.pow_le_pow_right (by decide) (by omega)
      omega
  by_cases hn : l.getD 0 0 = 45 ∧ 0 < l.length
  · have ht := (top_neg hn).2.2
    rw [if_pos hn]
    have hle : valA 0 (digsOf l) ≤ 9223372036854775808 := by omega
    refine ⟨hle, ?_⟩
    have hl : l = 45 :: digsOf l := by
      unfold digsOf
      rw [if_pos hn]
      cases l with
      | nil => exact absurd hn.2 (by simp)
      | cons a r =>
        have : a = 45 := hn.1
        rw [this]; rfl
    have hz : valA 0 (digsOf l) ≠ 0 := by
      intro h0
      rw [h0, Lib.decDigits, dif_pos (by omega)] at hdec
      exact h5 (by rw [hl, ← hdec]; rfl)
    have := numT_itoa (v := -(valA 0 (digsOf l) : Int)) ⟨by omega, by omega⟩
    have e : Lib.itoa (-(valA 0 (digsOf l) : Int)) = l := by
      unfold Lib.itoa
      rw [if_pos (by omega), show (-(valA 0 (digsOf l) : Int)).natAbs = valA 0 (digsOf l) by omega, hdec]
      exact hl.symm
    rw [e] at this
    exact this
  · have ht := (top_pos hn).2.2
    rw [if_neg hn]
    have hle : valA 0 (digsOf l) ≤ 9223372036854775807 := by omega
    refine ⟨by omega, ?_⟩
    have hl : digsOf l = l := by unfold digsOf; rw [if_neg hn]
    have := numT_itoa (v := (valA 0 (digsOf l) : Int)) ⟨by omega, by omega⟩
    have e : Lib.itoa (valA 0 (digsOf l) : Int) = l := by
      unfold Lib.itoa
      rw [if_neg (by omega), show ((valA 0 (digsOf l) : Int)).toNat = valA 0 (digsOf l) by omega, hdec, hl]
    rw [e] at this
    exact this
/-- A numeral passes. -/
theorem num_fail {l : List UInt8} (h : Bad1 l (digsOf l) (topOf l) ∨ ∃ c ∈ digsOf l, ¬ Dig c) : numT l = none := by
  cases hn : numT l with
  | none => rfl
  | some v =>
    exfalso
    obtain ⟨he, hr0, hr1⟩ := numT_some hn
    have key : ∃ u, digsOf l = Lib.decDigits u ∧ u ≤ valA 0 (topOf l) ∧ l ≠ [45, 48] ∧ (∀ c ∈ topOf l, Dig c) ∧ (topOf l).length = 19 ∧ valA 0 (topOf l) ≤ 9223372036854775808 := by
      unfold Lib.itoa at he
      split at he
      · have hng : l.getD 0 0 = 45 ∧ 0 < l.length := by rw [← he]; exact ⟨rfl, by simp⟩
        obtain ⟨t1, t2, t3⟩ := top_neg hng
        refine ⟨v.natAbs, ?_, by omega, ?_, t1, t2, by omega⟩
        · unfold digsOf; rw [if_pos hng, ← he]; rfl
        · intro hc
          rw [hc] at he
          injection he with _ he
          have := val_dec v.natAbs
          rw [he] at this
          simp [valA] at this
          omega
      · obtain ⟨c, r, hc⟩ : ∃ c r, Lib.decDigits v.toNat = c :: r := by
          cases hd : Lib.decDigits v.toNat with
          | nil => exact absurd hd (dec_ne _)
          | cons c r => exact ⟨c, r, rfl⟩
        have hm := dec_all v.toNat c (by rw [hc]; simp)
        have hc45 : c ≠ 45 := by
          intro h; subst h; exact absurd hm.1 (by decide)
        have hng : ¬ (l.getD 0 0 = 45 ∧ 0 < l.length) := by rw [← he, hc]; intro h; exact hc45 h.1
        obtain ⟨t1, t2, t3⟩ := top_pos hng
        refine ⟨v.toNat, ?_, by omega, ?_, t1, t2, by omega⟩
        · unfold digsOf; rw [if_neg hng]; exact he.symm
        · intro h; rw [← he, hc] at h; injection h with h _; exact hc45 h
    obtain ⟨u, hu, hle, hl0, t1, t2, t3⟩ := key
    obtain ⟨k1, k2, k3⟩ := dec_canon u
    have hlen : (Lib.decDigits u).length ≤ 19 := (canon_len (dec_canon u) 19 (by decide)).2 (.inl (by rw [val_dec]; omega))
    rcases h with h | ⟨c, hc, hnd⟩
    · rw [hu] at h
      rcases h with h | h | h | h | h
      · exact k1 h
      · omega
      · exact k3 h.1 h.2
      · obtain ⟨h1, h2, h3⟩ := h
        have hb := less_val (Lib.decDigits u) (topOf l) 0 (by rw [h1, t2]) k2 t1
        rw [val_dec] at hb
        by_cases hlt : u < valA 0 (topOf l)
        · rw [hb.2 hlt] at h2; cases h2
        · exact h3 (val_inj 0 (by rw [h1, t2]) k2 t1 (by rw [val_dec]; omega))
      · exact hl0 h
    · rw [hu] at hc
      exact hnd (k2 c hc)
end Go.Proofs.YtffdekgkhiffkaaDoor
