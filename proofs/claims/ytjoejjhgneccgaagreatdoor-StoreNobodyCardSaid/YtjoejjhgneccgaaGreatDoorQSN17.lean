/- Cells: each call keeps what is taken. -/
import Derived.Test.YtjoejjhgneccgaaGreatDoorQSN01
import Derived.Test.YtjoejjhgneccgaaGreatDoorQSN04
import Derived.Test.YtjoejjhgneccgaaGreatDoorQSN05
import Derived.Test.YtjoejjhgneccgaaGreatDoorQSN16
namespace Go.Proofs.YtjoejjhgneccgaaGreatDoor
open Go.RowKit

theorem carve_kept {C : Cs} {F : Nat → List Int} {k : Int} {p : Nat} (h : Inv C F) (ht : takeT C.ks k = some p) : (carveC C k).ws = C.ws ∧ ∀ a ∈ bitsN C.ws, Kept C (carveC C k) a := by
  have hz : sizeI k ≠ 0 := by intro e; unfold takeT at ht; rw [if_pos e] at ht; cases ht
  have hk : 1 ≤ k ∧ k ≤ 4 := by
    apply Decidable.byContradiction; intro hc
    exact hz (sizeI_zero (by omega))
  have hi : idx0 C.ks = some p := by unfold takeT at ht; rw [if_neg hz] at ht; exact ht
  have hp := idx0_lt hi
  have h0 := idx0_zero hi
  have hc : carveC C k = { C with ks := C.ks.set p k, ch := C.ch.set p (0, cellsI k), xs := buildL C.xs p k } := by unfold carveC; rw [ht]
  rw [hc]
  refine ⟨rfl, fun a ha => ?_⟩
  have hne : ∀ x, a ≤ x → x < endN C a → x / 32 ≠ p := fun x h1 h2 e => (pages_in h ha h1 h2).2.1 (by rw [e]; exact h0)
  obtain ⟨he, hkd⟩ := end_turned (C' := { C with ks := C.ks.set p k, ch := C.ch.set p (0, cellsI k), xs := buildL C.xs p k }) h ha (by simp) (fun q hq hd => by
    have e : q = p := by
      apply Decidable.byContradiction; intro hn
      exact hd (getD_set_other (fun e => hn e.symm) _ _)
    subst e
    refine ⟨hne, .inl ?_⟩
    show (C.ks.set q k).getD q 0 ≠ 6
    rw [getD_set_same hq]; omega)
  refine ⟨ha, he, hkd, fun x h1 h2 => ?_⟩
  have hx := (pages_in h ha h1 h2).1
  have hl := h.len
  have := hne x h1 h2
  exact (buildL_at hk (by omega)).2 x (by omega) (by omega)
theorem addL_mem {C : Cs} {F : Nat → List Int} (h : Inv C F) {z : Nat} (hz : z < 32 * C.ks.length) {a : Nat} : a ∈ bitsN (addL C.xs.length C.ws (z : Int)) ↔ a = z ∨ a ∈ bitsN C.ws := by
  have hle := h.le
  have hlen := h.len
  have hb := bitOn_get h.wl (show z < 2048 by omega)
  rw [mem_bits, mem_bits]
  unfold addL addB inB
  rw [Int.toNat_natCast]
  by_cases hbit : bit C.ws z = true
  · rw [hbit]
    simp only [Bool.not_true, Bool.and_false, Bool.false_eq_true, if_false]
    constructor
    · exact .inr
    · rintro (rfl | h1)
      · exact ⟨by omega, hbit⟩
      · exact h1
  · have hbit' : bit C.ws z = false := by simpa using hbit
    rw [hbit', decide_eq_true (by omega)]
    simp only [Bool.not_false, Bool.and_true, if_true]
    rw [hb]
    simp only [Bool.or_eq_true, decide_eq_true_eq]
    constructor
    · rintro ⟨h1, h2 | h2⟩
      · exact .inr ⟨h1, h2⟩
      · exact .inl h2
    · rintro (rfl | ⟨h1, h2⟩)
      · exact ⟨by omega, .inr rfl⟩
      · exact ⟨h1, .inl h2⟩
theorem off_mem {C : Cs} {F : Nat → List Int} (h : Inv C F) {z : Nat} (hz : z < 2048) {a : Nat} : a ∈ bitsN (bitOff C.ws z) ↔ a ≠ z ∧ a ∈ bitsN C.ws := by
  rw [mem_bits, mem_bits, bitOff_get h.wl hz]
  simp only [Bool.and_eq_true, Bool.not_eq_true', decide_eq_false_iff_not]
  constructor
  · rintro ⟨h1, h2, h3⟩; exact ⟨h3, h1, h2⟩
  · rintro ⟨h3, h1, h2⟩; exact ⟨h1, h2, h3⟩
/-- What lies in what is taken lies in nothing else that is. -/
theorem apart_ne {C : Cs} {F : Nat → List Int} (h : Inv C F) {a b x : Nat} (ha : a ∈ bitsN C.ws) (hb : b ∈ bitsN C.ws) (hne : a ≠ b) (h1 : a ≤ x) (h2 : x < endN C a) : x < b ∨ endN C b ≤ x := by
  rcases Nat.lt_or_gt_of_ne hne with hlt | hlt
  · have := apart_next h ha hb hlt; omega
  · have := apart_next h hb ha hlt; omega
theorem take_kept {C : Cs} {F : Nat → List Int} {q : Nat} {f g : Int} {l : List Int} (h : Inv C F) (hq : q < C.ks.length) (k1 : 1 ≤ C.ks.getD q 0) (k4 : C.ks.getD q 0 ≤ 4) (hf : F q = f :: l)
    (ht : TakeP C q (C.ks.getD q 0) f ((l.length : Int) + 1) (-1 - g)) (hl : Lnk C.xs q (C.ks.getD q 0) g l) (C' : Cs) (hC : C' = takeC C q (C.ks.getD q 0) f ((l.length : Int) + 1) (-1 - g)) (z : Nat) (hz : z = (cad q (C.ks.getD q 0) f).toNat) :
    z ∉ bitsN C.ws ∧ (∀ a, a ∈ bitsN C'.ws ↔ a = z ∨ a ∈ bitsN C.ws) ∧ (∀ a ∈ bitsN C.ws, Kept C C' a) ∧ endN C' z = z + (sizeI (C.ks.getD q 0)).toNat ∧ z / 32 = q ∧ C'.ks = C.ks ∧ ∀ x, z ≤ x → x < endN C' z → C'.xs.getD x 0 = 0 := by
  have hinv : Inv C' (upd F q l) := by rw [hC]; exact inv_take h hq k1 k4 hf ht hl
  have hks : C'.ks = C.ks := by rw [hC]; rfl
  obtain ⟨k, ek⟩ : ∃ k, k = C.ks.getD q 0 := ⟨_, rfl⟩
  rw [← ek] at k1 k4 ht hC hz ⊢
  have hkk : 1 ≤ k ∧ k ≤ 4 := ⟨k1, k4⟩
  have hcp := cad_page (p := q) hkk ht.f0 ht.f1
  have hci := cad_idx (p := q) hkk ht.f0 ht.f1
  rw [← hz] at hcp hci
  have hlen := h.len
  have hsz := sizeI_pos hkk
  have hzl : z < 32 * C.ks.length := by omega
  have hzc : cad q k f = (z : Int) := hcp.2.2.symm
  have hn : z ∉ bitsN C.ws := by
    rw [mem_bits, h.bt z hzl, tkB_small (k := k) (by rw [hci.1]; exact ek.symm) hkk, hci.1, hci.2.2, hf]
    simp
  have hm : ∀ a, a ∈ bitsN C'.ws ↔ a = z ∨ a ∈ bitsN C.ws := fun a => by
    have e : C'.ws = addL C.xs.length C.ws (z : Int) := by rw [hC, ← hzc]; rfl
    rw [e]; exact addL_mem h hzl
  have hend : ∀ a, endN C' a = endN C a := fun a => by unfold endN; rw [hks]
  have hez : endN C' z = z + (sizeI k).toNat := by
    unfold endN
    rw [hks, hci.1, ← ek, if_pos (by omega)]
  have hxs : C'.xs = fillL C.xs z (sizeI k).toNat 0 := by rw [hC, hz]; rfl
  refine ⟨hn, hm, fun a ha => ⟨(hm a).2 (.inr ha), hend a, by rw [hks], fun x h1 h2 => ?_⟩, hez, hci.1, hks, fun x h1 h2 => ?_⟩
  · have hne : a ≠ z := fun e => hn (e ▸ ha)
    have hap := apart_ne hinv ((hm a).2 (.inr ha)) ((hm z).2 (.inl rfl)) hne h1 (by rw [hend]; exact h2)
    have hx := (pages_in h ha h1 h2).1
    rw [hxs, fillL_get _ _ _ _ _ (by omega), if_neg (by omega)]
  · rw [hxs, fillL_get _ _ _ _ _ (by omega), if_pos (by omega)]
theorem large_kept {C : Cs} {F : Nat → List Int} {n : Int} {p : Nat} (h : Inv C F) (hs : spanL C.ks n = some p) (C' : Cs) (hC : C' = largeC C n) :
    32 * p ∉ bitsN C.ws ∧ (∀ a, a ∈ bitsN C'.ws ↔ a = 32 * p ∨ a ∈ bitsN C.ws) ∧ (∀ a ∈ bitsN C.ws, Kept C C' a) ∧ C'.ks = spanS C.ks p n.toNat ∧ endN C' (32 * p) = 32 * p + 32 * n.toNat ∧ p + n.toNat ≤ C.ks.length ∧ ∀ x, 32 * p ≤ x → x < endN C' (32 * p) → C'.xs.getD x 0 = 0 := by
  have hinv : Inv C' F := by rw [hC]; exact inv_large h hs
  obtain ⟨hn, hpl⟩ := spanL_lt hs
  have hz := span_zero hs
  have hle := h.le
  have hlen := h.len
  obtain ⟨m, rfl⟩ := Int.eq_ofNat_of_zero_le (show 0 ≤ n by omega)
  rw [Int.toNat_natCast] at hpl hz ⊢
  have hm1 : 1 ≤ m := by omega
  have hc : largeC C m = { C with ks := spanS C.ks p m, ws := addL C.xs.length C.ws ((32 * p : Nat) : Int), xs := fillL C.xs (32 * p) (32 * m) 0 } := by
    unfold largeC
    rw [hs]
    show ({ C with ks := _, ws := _, xs := fillL C.xs ((p : Int) * 32).toNat ((m : Int) * 32).toNat 0 } : Cs) = _
    rw [show ((p : Int) * 32).toNat = 32 * p by omega, show ((m : Int) * 32).toNat = 32 * m by omega, Int.toNat_natCast, show ((32 * p : Nat) : Int) = (p : Int) * 32 by omega]
  rw [hc] at hC
  have hks : C'.ks = spanS C.ks p m := by rw [hC]
  have hws : C'.ws = addL C.xs.length C.ws ((32 * p : Nat) : Int) := by rw [hC]
  have hxs : C'.xs = fillL C.xs (32 * p) (32 * m) 0 := by rw [hC]
  have hlk : C'.ks.length = C.ks.length := by rw [hks]; unfold spanS; simp [fillL_len]
  have hget : ∀ q, q < C.ks.length → C'.ks.getD q 0 = if q = p then 5 else if p ≤ q ∧ q < p + m then 6 else C.ks.getD q 0 := fun q hq => by
    rw [hks]; unfold spanS
    by_cases e : q = p
    · subst e; rw [getD_set_same (by rw [fillL_len]; exact hq), if_pos rfl]
    · rw [getD_set_other (fun c => e c.symm), fillL_get _ _ _ _ _ hq, if_neg e]
  have hold : 32 * p ∉ bitsN C.ws := by
    rw [mem_bits, h.bt _ (by omega), tkB_other (k := 0) (by rw [show 32 * p / 32 = p by omega]; exact hz p (Nat.le_refl _) (by omega)) (by omega)]
    simp
  have hm : ∀ a, a ∈ bitsN C'.ws ↔ a = 32 * p ∨ a ∈ bitsN C.ws := fun a => by rw [hws]; exact addL_mem h (by omega)
  have hne : ∀ a ∈ bitsN C.ws, ∀ x, a ≤ x → x < endN C a → ¬ (p ≤ x / 32 ∧ x / 32 < p + m) := fun a ha x h1 h2 hc => (pages_in h ha h1 h2).2.1 (hz _ hc.1 hc.2)
  have hrun : run6 C'.ks (p + 1) = m - 1 := by
    have h1 : m - 1 ≤ run6 C'.ks (p + 1) := run6_ge _ _ fun j hj => by
      rw [kindL_in (by rw [hlk]; omega), hget _ (by omega), if_neg (by omega), if_pos (by omega)]
    apply Decidable.byContradiction; intro hc
    have h6 := run6_all C'.ks (p + 1) (m - 1) (by omega)
    rw [show p + 1 + (m - 1) = p + m by omega] at h6
    by_cases hpm : p + m < C.ks.length
    · rw [hget _ hpm, if_neg (by omega), if_neg (by omega)] at h6
      have := (h.sx _ hpm h6).2
      rw [hz (p + m - 1) (by omega) (by omega)] at this
      omega
    · rw [getD_out (by rw [hlk]; omega)] at h6; omega
  have hez : endN C' (32 * p) = 32 * p + 32 * m := by
    unfold endN
    rw [show 32 * p / 32 = p by omega, hget p (by omega), if_pos rfl, if_neg (by simp [sizeI]), hrun]
    omega
  refine ⟨hold, hm, fun a ha => ?_, hks, hez, hpl, fun x h1 h2 => ?_⟩
  · obtain ⟨he, hkd⟩ := end_turned (C' := C') h ha hlk (fun q hq hd => by
      have hin : p ≤ q ∧ q < p + m := by
        apply Decidable.byContradiction; intro hn
        rw [hget q hq, if_neg (by omega), if_neg hn] at hd
        exact hd rfl
      refine ⟨fun x h1 h2 e => hne a ha x h1 h2 (by rw [e]; exact hin), ?_⟩
      by_cases e : q = p
      · left; rw [hget q hq, if_pos e]; decide
      · right; exact hz (q - 1) (by omega) (by omega))
    refine ⟨(hm a).2 (.inr ha), he, hkd, fun x h1 h2 => ?_⟩
    have hx := (pages_in h ha h1 h2).1
    have := hne a ha x h1 h2
    rw [hxs, fillL_get _ _ _ _ _ (by omega), if_neg (by omega)]
  · rw [hez] at h2
    rw [hxs, fillL_get _ _ _ _ _ (by omega), if_pos (by omega)]
end Go.Proofs.YtjoejjhgneccgaaGreatDoor

/- The reference's lists of pages: read. -/
namespace Go.Proofs.YtjoejjhgneccgaaGreatDoor
open Go.RowKit

theorem IRow.at_ {base : Nat} {w : World} {A : Option Addr} {n cap : Nat} {xs : List Int} (h : IRow base w (.slice A n cap) xs) : n = xs.length ∧ ∀ j, j < n → ∃ b, A = some ⟨b, 0, none⟩ ∧ w.cell? ⟨b, j, none⟩ = some (.int .i64 (xs.getD j 0)) := by
  obtain ⟨p', c', he, -, -, hcell⟩ := h.slice
  simp only [Value.slice.injEq] at he
  obtain ⟨e1, e2, -⟩ := he
  refine ⟨e2, fun j hj => ?_⟩
  obtain ⟨g, h1, -, h3⟩ := hcell j (Nat.lt_of_lt_of_eq hj e2)
  exact ⟨g, e1.trans h1, h3⟩
section
variable {base : Nat} {w : World} {A : Option Addr} {n cap : Nat} {xs : List Int}
theorem fkind_any (h : IRow base w (.slice A n cap) xs) (p : Int) :
    Calls Tryz.prog 178 #[.slice A n cap, .int .i64 p] w fun e w' => e = .returned (.int .i64 (kindL xs p)) ∧ w = w' := by
  obtain ⟨hn, hc⟩ := h.at_
  by_cases h0 : p < 0
  · have hs := Lib.hid (kindL_out (ks := xs) (.inl h0))
    clear h hc hn
    go_enter Tryz.func178, Tryz.ntmps178
    go_wp2_with fail
    go_ret
    exact ⟨ret_int hs.out.symm, rfl⟩
  obtain ⟨i, rfl⟩ := Int.eq_ofNat_of_zero_le (show 0 ≤ p by omega)
  by_cases h1 : n ≤ i
  · have hs := Lib.hid (kindL_out (ks := xs) (p := (i : Int)) (.inr (by omega)))
    have h1' : (n : Int) ≤ i := by omega
    clear h h0 h1 hn hc
    go_enter Tryz.func178, Tryz.ntmps178
    go_wp2_with fail
    go_ret
    exact ⟨ret_int hs.out.symm, rfl⟩
  · have hi : i < n := by omega
    obtain ⟨g, rfl, c2⟩ := hc i hi
    rw [kindL_in (by omega)]
    obtain ⟨v, hv⟩ : ∃ v, v = xs.getD i 0 := ⟨_, rfl⟩
    rw [← hv] at c2 ⊢
    clear h h0 h1 hv hn hc
    go_enter Tryz.func178, Tryz.ntmps178
    go_wp2_with fail
    go_ret
    exact ⟨rfl, rfl⟩
def nearI (a lo hi : Int) : Int := if a < lo then lo else if hi < a then hi else a
theorem near_any (a lo hi : Int) (w : World) :
    Calls Tryz.prog 26 #[.int .i64 a, .int .i64 lo, .int .i64 hi] w fun e w' => e = .returned (.int .i64 (nearI a lo hi)) ∧ w = w' := by
  obtain ⟨r, hr⟩ : ∃ r, r = nearI a lo hi := ⟨_, rfl⟩
  rw [← hr]
  have HR := Lib.hid hr
  unfold nearI at hr
  by_cases h1 : a < lo
  · rw [if_pos h1] at hr
    subst hr
    clear HR
    go_enter Tryz.func26, Tryz.ntmps26
    go_wp2_with fail
    go_ret
    exact ⟨rfl, rfl⟩
  · rw [if_neg h1] at hr
    by_cases h2 : hi < a
    · rw [if_pos h2] at hr
      subst hr
      clear HR
      go_enter Tryz.func26, Tryz.ntmps26
      go_wp2_with fail
      go_ret
      exact ⟨rfl, rfl⟩
    · rw [if_neg h2] at hr
      subst hr
      clear HR
      go_enter Tryz.func26, Tryz.ntmps26
      go_wp2_with fail
      go_ret
      exact ⟨rfl, rfl⟩
set_option maxHeartbeats 1000000 in
theorem in_any (h : IRow base w (.slice A n cap) xs) (x : Int) (hm : n ≤ 1000000) :
    Calls Tryz.prog 78 #[.slice A n cap, .int .i64 x] w fun e w' => e = .returned (.bool (decide (x ∈ xs))) ∧ w = w' := by
  obtain ⟨hn, hc⟩ := h.at_
  have HN := Lib.hid hn
  have HC := Lib.hid hc
  obtain ⟨r, hr⟩ : ∃ r, r = decide (x ∈ xs) := ⟨_, rfl⟩
  rw [← hr]
  have HR := Lib.hid hr
  clear h hn hc hr
  go_enter Tryz.func78, Tryz.ntmps78
  go_wp2_with fail
  go_loop [5] (fun a => ∃ i : Nat, i ≤ n ∧ a = .int .i64 i ∧ Hid (∀ j, j < i → xs.getD j 0 ≠ x)) (fun a => n - (intOf a).toNat)
  case atStart => exact ⟨0, Nat.zero_le _, rfl, Lib.hid (fun j hj => by omega)⟩
  case round =>
    obtain ⟨i, hi, rfl, HJ⟩ := hrel
    by_cases hlt : i < n
    · obtain ⟨g, rfl, c2⟩ := HC.out i hlt
      obtain ⟨v, hv⟩ : ∃ v, v = xs.getD i 0 := ⟨_, rfl⟩
      rw [← hv] at c2
      have hd : decide ((i : Int) < (n : Int)) = true := by simpa using hlt
      have i1 : (0 : Int) ≤ (i : Int) := by omega
      have i2 : (i : Int) < (n : Int) := by omega
      by_cases h0 : v = x
      · have HT := Lib.hid (show r = true by
          rw [HR.out, decide_eq_true_eq, ← h0, hv, List.getD_eq_getElem?_getD, List.getElem?_eq_getElem (by rw [← HN.out]; exact hlt)]
          exact List.getElem_mem _)
        have h0' : (v == x) = true := by simpa using h0
        clear hv HJ h0
        go_wp2_with fail
        go_ret
        exact ⟨by rw [HT.out]; rfl, rfl⟩
      · have h0' : (v == x) = false := by simpa using h0
        have HJ' := Lib.hid (show ∀ j, j < i + 1 → xs.getD j 0 ≠ x from fun j hj => by
          by_cases e : j = i
          · rw [e, ← hv]; exact h0
          · exact HJ.out j (by omega))
        clear hv HJ h0
        go_wp2_with fail
        go_round
        case rel => exact ⟨i + 1, by omega, by go_num, HJ'⟩
        case measure => simp [intOf]; omega
    · have hd : decide ((i : Int) < (n : Int)) = false := by simpa using hlt
      have HF := Lib.hid (show r = false by
        rw [HR.out, decide_eq_false_iff_not]
        intro hx
        obtain ⟨j, hj, e⟩ := List.getElem_of_mem hx
        refine HJ.out j (by have := HN.out; omega) ?_
        rw [List.getD_eq_getElem?_getD, List.getElem?_eq_getElem hj]; exact e)
      go_wp2_with fail
      go_ret
      exact ⟨by rw [HF.out]; rfl, rfl⟩
end
end Go.Proofs.YtjoejjhgneccgaaGreatDoor

/- .. and the reference. -/
namespace Go.Proofs.YtjoejjhgneccgaaGreatDoor
open Go.RowKit

set_option maxHeartbeats 1000000 in
theorem rsize_any (k : Int) (w : World) :
    Calls Tryz.prog 170 #[.int .i64 k] w fun e w' => e = .returned (.int .i64 (sizeI k)) ∧ Below w.heap.size w w' := by
  by_cases h : 1 ≤ k ∧ k ≤ 4
  · have hc : k = 1 ∨ k = 2 ∨ k = 3 ∨ k = 4 := by omega
    clear h
    rcases hc with rfl | rfl | rfl | rfl
    all_goals
      go_enter Tryz.func170, Tryz.ntmps170
      go_wp2_with fail
      go_ret
      exact ⟨rfl, below_alloc0 w _⟩
  · have hs := Lib.hid (sizeI_zero (k := k) (by omega))
    by_cases h1 : k < 1
    · clear h
      go_enter Tryz.func170, Tryz.ntmps170
      go_wp2_with fail
      go_ret
      exact ⟨ret_int hs.out.symm, below_alloc0 w _⟩
    · have h2 : 4 < k := by omega
      clear h
      go_enter Tryz.func170, Tryz.ntmps170
      go_wp2_with fail
      go_ret
      exact ⟨ret_int hs.out.symm, below_alloc0 w _⟩

set_option maxHeartbeats 1000000 in
theorem rcells_any (k : Int) (w : World) :
    Calls Tryz.prog 179 #[.int .i64 k] w fun e w' => e = .returned (.int .i64 (cellsI k)) ∧ Below w.heap.size w w' := by
  have HE := Lib.hid (cellsI_eq k)
  by_cases h : 1 ≤ k ∧ k ≤ 4
  · have hs := sizeI_pos h
    have h1 : (sizeI k == 0) = false := by simp; omega
    have HE2 := Lib.hid (show cellsI k = 32 / sizeI k from by rw [HE.out, if_neg (by omega)])
    clear h
    go_enter Tryz.func179, Tryz.ntmps179
    go_wp2_with (first | (go_at_call 170; (with_reducible refine (rsize_any k w).mono ?_); rintro e w1 ⟨rfl, hb1⟩) | (go_at_call 170; refine (rsize_any k _).mono ?_; rintro e w2 ⟨rfl, hb2⟩))
    go_ret
    exact ⟨ret_int HE2.out.symm, below_next hb1 hb2⟩
  · have hs := sizeI_zero (k := k) (by omega)
    have h1 : (sizeI k == 0) = true := by simp [hs]
    have HE2 := Lib.hid (show cellsI k = 0 from by rw [HE.out, if_pos hs])
    clear h hs
    go_enter Tryz.func179, Tryz.ntmps179
    go_wp2_with (go_at_call 170; refine (rsize_any k _).mono ?_; rintro e w1 ⟨rfl, hb1⟩)
    go_ret
    exact ⟨ret_int HE2.out.symm, hb1⟩

end Go.Proofs.YtjoejjhgneccgaaGreatDoor

/- The reference's lists of pages: Size, Count, run. -/
namespace Go.Proofs.YtjoejjhgneccgaaGreatDoor
open Go.RowKit

def cnt0 (xs : List Int) : Nat → Nat
  | 0 => 0
  | i + 1 => cnt0 xs i + (if xs.getD i 0 = 0 then 1 else 0)
theorem cnt0_le (xs : List Int) : ∀ i, cnt0 xs i ≤ i
  | 0 => Nat.le_refl _
  | i + 1 => by have := cnt0_le xs i; unfold cnt0; split <;> omega
section
variable {base : Nat} {w : World} {A : Option Addr} {n cap : Nat} {xs : List Int}
set_option maxHeartbeats 1000000 in
set_option maxRecDepth 100000 in
theorem fsize_any (h : IRow base w (.slice A n cap) xs) (hle : xs.length ≤ 64) (p : Int) :
    Calls Tryz.prog 218 #[.slice A n cap, .int .i64 p] w fun e w' => e = .returned (.int .i64 (sizeL xs p)) ∧ Below w.heap.size w w' := by
  have H := Lib.hid h
  by_cases h1 : 0 < sizeI (kindL xs p)
  · have hs := Lib.hid (show sizeL xs p = 1 by unfold sizeL; rw [if_pos h1])
    have h1' : decide (0 < sizeI (kindL xs p)) = true := by simpa using h1
    clear h hle h1
    go_enter Tryz.func218, Tryz.ntmps218
    go_wp2_with (first | (go_at_call 178; refine (fkind_any H.out _).mono ?_; rintro e w1 ⟨rfl, rfl⟩) | (go_at_call 170; refine (rsize_any _ _).mono ?_; rintro e w1 ⟨rfl, hb1⟩; have B1 := Lib.hid hb1; clear hb1))
    go_ret
    exact ⟨ret_int hs.out.symm, B1.out⟩
  have h1' : decide (0 < sizeI (kindL xs p)) = false := by simpa using h1
  by_cases h5 : kindL xs p = 5
  · have hs := show sizeL xs p = 1 + (run6 xs (p.toNat + 1) : Int) by unfold sizeL; rw [if_neg h1, if_neg (by simpa using h5)]
    have hin : 0 ≤ p := by
      apply Decidable.byContradiction; intro hc
      rw [kindL_out (.inl (by omega))] at h5; omega
    obtain ⟨i, rfl⟩ := Int.eq_ofNat_of_zero_le hin
    rw [Int.toNat_natCast] at hs
    have h5' : (kindL xs i != 5) = false := by simp [h5]
    have HS := Lib.hid hs
    have hil : i < xs.length := by
      apply Decidable.byContradiction; intro hc
      rw [kindL_out (.inr (by omega))] at h5; omega
    obtain ⟨q, hq⟩ : ∃ q, q = xs.length := ⟨_, rfl⟩
    rw [← hq] at hil hle
    have HN := Lib.hid hq
    clear h hs hin h5 hq h1
    go_enter Tryz.func218, Tryz.ntmps218
    go_wp2_with (first | (go_at_call 178; refine (fkind_any H.out _).mono ?_; rintro e w1 ⟨rfl, rfl⟩) | (go_at_call 170; refine (rsize_any _ _).mono ?_; rintro e w1 ⟨rfl, hb1⟩; have B1 := Lib.hid hb1; have H1 := Lib.hid (H.out.below hb1); clear hb1))
    go_loop [6] (fun a => ∃ m : Nat, 1 ≤ m ∧ i + m ≤ q ∧ a = .int .i64 m ∧ Hid (1 + run6 xs (i + 1) = m + run6 xs (i + m))) (fun a => q - (intOf a).toNat)
    case atStart => exact ⟨1, Nat.le_refl _, hil, rfl, Lib.hid rfl⟩
    case round =>
      obtain ⟨m, hm, hml, rfl, HR⟩ := hrel
      have e1 : ((i : Int) + (m : Int)) = ((i + m : Nat) : Int) := by omega
      by_cases h6 : kindL xs ((i + m : Nat) : Int) = 6
      · have hlt : i + m < q := by
          apply Decidable.byContradiction; intro hc
          rw [kindL_out (.inr (by rw [← HN.out]; omega))] at h6; omega
        have h6' : (kindL xs ((i : Int) + (m : Int)) == 6) = true := by rw [e1]; exact beq_iff_eq.2 h6
        have HR' := Lib.hid (show 1 + run6 xs (i + 1) = (m + 1) + run6 xs (i + (m + 1)) by rw [HR.out, run6_step h6, ← Nat.add_assoc i m 1]; omega)
        clear h6 HR e1
        go_wp2_with (go_at_call 178; refine (fkind_any H1.out _).mono ?_; rintro e w2 ⟨rfl, rfl⟩)
        go_round
        case rel => exact ⟨m + 1, by omega, by omega, by go_num, HR'⟩
        case measure => simp [intOf]; omega
      · have h6' : (kindL xs ((i : Int) + (m : Int)) == 6) = false := by rw [e1]; exact beq_eq_false_iff_ne.2 h6
        have HR' := Lib.hid (show sizeL xs i = m by rw [HS.out]; have := HR.out; rw [run6_stop h6] at this; omega)
        clear h6 HR e1
        go_wp2_with (go_at_call 178; refine (fkind_any H1.out _).mono ?_; rintro e w2 ⟨rfl, rfl⟩)
        go_ret
        exact ⟨ret_int HR'.out.symm, B1.out⟩
  · have hs := Lib.hid (show sizeL xs p = 0 by unfold sizeL; rw [if_neg h1, if_pos (by simpa using h5)])
    have h5' : (kindL xs p != 5) = true := by simpa using h5
    clear h hle h5 h1
    go_enter Tryz.func218, Tryz.ntmps218
    go_wp2_with (first | (go_at_call 178; refine (fkind_any H.out _).mono ?_; rintro e w1 ⟨rfl, rfl⟩) | (go_at_call 170; refine (rsize_any _ _).mono ?_; rintro e w1 ⟨rfl, hb1⟩; have B1 := Lib.hid hb1; clear hb1))
    go_ret
    exact ⟨ret_int hs.out.symm, B1.out⟩
end
end Go.Proofs.YtjoejjhgneccgaaGreatDoor

/- The reference's lists of pages: Set, Span. -/
namespace Go.Proofs.YtjoejjhgneccgaaGreatDoor
open Go.RowKit

def setAt (xs : List Int) (p n : Nat) (k : Int) (i : Nat) : Int := if p ≤ i ∧ i < p + n then k else xs.getD i 0
def setTo (xs : List Int) (p n : Nat) (k : Int) (m : Nat) : List Int := (List.range m).map (setAt xs p n k)
def setL (xs : List Int) (p n : Nat) (k : Int) : List Int := setTo xs p n k xs.length
theorem setTo_step (xs : List Int) (p n : Nat) (k : Int) (m : Nat) : setTo xs p n k (m + 1) = setTo xs p n k m ++ [setAt xs p n k m] := by
  unfold setTo
  rw [List.range_succ, List.map_append]; rfl
theorem setTo_len (xs : List Int) (p n : Nat) (k : Int) (m : Nat) : (setTo xs p n k m).length = m := by simp [setTo]
theorem setL_len (xs : List Int) (p n : Nat) (k : Int) : (setL xs p n k).length = xs.length := setTo_len _ _ _ _ _
theorem setL_get {xs : List Int} {p n : Nat} {k : Int} {i : Nat} (h : i < xs.length) : (setL xs p n k).getD i 0 = setAt xs p n k i := by
  unfold setL setTo
  rw [List.getD_eq_getElem?_getD, List.getElem?_map, List.getElem?_range h]; rfl
def RowF (base : Nat) (xs : List Int) (e : Ending) (w' : World) : Prop := ∃ A n cap, e = .returned (.slice A n cap) ∧ IRow base w' (.slice A n cap) xs
section
variable {base : Nat} {w : World} {A : Option Addr} {n cap : Nat} {xs : List Int}
set_option maxHeartbeats 2000000 in
set_option maxRecDepth 100000 in
theorem fset_any (h : IRow base w (.slice A n cap) xs) (hm : n ≤ 999999) (p m : Nat) (hp : p + m ≤ 999999) (k : Int) :
    Calls Tryz.prog 180 #[.slice A n cap, .int .i64 p, .int .i64 m, .int .i64 k] w fun e w' => RowF w.heap.size (setL xs p m k) e w' ∧ Below w.heap.size w w' := by
  obtain ⟨hn, -⟩ := h.at_
  have H := Lib.hid h
  have HN := Lib.hid hn
  have B0 := Lib.hid (Below.refl w.heap.size w)
  have HP := Lib.hid hp
  have hp1 : (p : Int) + (m : Int) ≤ 999999 := by omega
  clear h hn hp
  go_enter Tryz.func180, Tryz.ntmps180
  go_wp2_with fail
  go_loopw [9, 10] (fun v a wr => ∃ i : Nat, i ≤ n ∧ a = .int .i64 i ∧ Hid (IRow w.heap.size wr v (setTo xs p m k i)) ∧ Hid (Below w.heap.size w wr)) (fun _ a _ => n - (intOf a).toNat)
  case atStart => exact ⟨0, Nat.zero_le _, rfl, Lib.hid (IRow.nil _ _), B0⟩
  case round =>
    clear B0
    obtain ⟨i, hi, rfl, HR, HB⟩ := hrel
    by_cases hlt : i < n
    · have hr := H.out.below HB.out
      obtain ⟨g, rfl, c2⟩ := hr.at_.2 i hlt
      obtain ⟨x, hx⟩ : ∃ x, x = xs.getD i 0 := ⟨_, rfl⟩
      rw [← hx] at c2
      have hd : decide ((i : Int) < (n : Int)) = true := by simpa using hlt
      have i1 : (0 : Int) ≤ (i : Int) := by omega
      have i2 : (i : Int) < (n : Int) := by omega
      have HLL : Hid ((setTo xs p m k i).length + 1 ≤ 1000000) := Lib.hid (by rw [setTo_len]; omega)
      by_cases h1 : p ≤ i ∧ i < p + m
      · have HE := Lib.hid (show setTo xs p m k (i + 1) = setTo xs p m k i ++ [k] by rw [setTo_step]; unfold setAt; rw [if_pos h1])
        have hd1 : decide ((p : Int) ≤ (i : Int)) = true := by rw [decide_eq_true_eq]; omega
        have hd2 : decide ((i : Int) < (p : Int) + (m : Int)) = true := by rw [decide_eq_true_eq]; omega
        have i3 : (p : Int) ≤ (i : Int) := by omega
        have i4 : (i : Int) < (p : Int) + (m : Int) := by omega
        clear h1 hx hr
        go_wp2_with (at_builtin; refine wpList_append_num rfl _ _ (by rfl) w.heap.size w _ _ k (by rfl) HR.out (by rfl) HLL.out HB.out HB.out.size ?_; intro v' w1 hr1 hb1 hgrow; have HR1 := Lib.hid hr1; have HB1 := Lib.hid hb1; clear hr1 hb1 hgrow)
        go_roundw
        case rel => exact ⟨i + 1, by omega, by go_num, by rw [HE.out]; exact HR1, HB1⟩
        case measure => simp [intOf]; omega
      · have HE := Lib.hid (show setTo xs p m k (i + 1) = setTo xs p m k i ++ [x] by rw [setTo_step]; unfold setAt; rw [if_neg h1, hx])
        have hor : i < p ∨ p + m ≤ i := by omega
        clear hx hr h1
        rcases hor with h1 | h1
        · have hd1 : decide ((p : Int) ≤ (i : Int)) = false := by rw [decide_eq_false_iff_not]; omega
          go_wp2_with (at_builtin; refine wpList_append_num rfl _ _ (by rfl) w.heap.size w _ _ x (by rfl) HR.out (by rfl) HLL.out HB.out HB.out.size ?_; intro v' w1 hr1 hb1 hgrow; have HR1 := Lib.hid hr1; have HB1 := Lib.hid hb1; clear hr1 hb1 hgrow)
          go_roundw
          case rel => exact ⟨i + 1, by omega, by go_num, by rw [HE.out]; exact HR1, HB1⟩
          case measure => simp [intOf]; omega
        · have hd1 : decide ((p : Int) ≤ (i : Int)) = true := by rw [decide_eq_true_eq]; omega
          have hd2 : decide ((i : Int) < (p : Int) + (m : Int)) = false := by rw [decide_eq_false_iff_not]; omega
          go_wp2_with (at_builtin; refine wpList_append_num rfl _ _ (by rfl) w.heap.size w _ _ x (by rfl) HR.out (by rfl) HLL.out HB.out HB.out.size ?_; intro v' w1 hr1 hb1 hgrow; have HR1 := Lib.hid hr1; have HB1 := Lib.hid hb1; clear hr1 hb1 hgrow)
          go_roundw
          case rel => exact ⟨i + 1, by omega, by go_num, by rw [HE.out]; exact HR1, HB1⟩
          case measure => simp [intOf]; omega
    · have hd : decide ((i : Int) < (n : Int)) = false := by simpa using hlt
      obtain rfl : i = n := by omega
      obtain ⟨p', c', rfl, -⟩ := HR.out.slice
      go_wp2_with fail
      go_ret
      refine ⟨⟨_, _, _, rfl, ?_⟩, HB.out⟩
      unfold setL
      rw [← HN.out]
      exact HR.out
end
end Go.Proofs.YtjoejjhgneccgaaGreatDoor
