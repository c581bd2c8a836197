/- A store: an object is gone. -/
import Derived.Test.YtjoejjhgneccgaaGreatQSK03
import Derived.Test.YtjoejjhgneccgaaGreatQSK13
namespace Go.Proofs.YtjoejjhgneccgaaGreat
open Go.RowKit

/-- What begins at an address is given back. -/
def giveD (C : Cs) (a : Nat) : Cs :=
  if C.ks.getD (a / 32) 0 = 5 then giveL C a else giveS C a (a / 32) (C.ks.getD (a / 32) 0) ((a : Int) % 32 / sizeI (C.ks.getD (a / 32) 0)) (C.ch.getD (a / 32) (0, 0)).1 (C.ch.getD (a / 32) (0, 0)).2
def giveC (C : Cs) (a : Int) : Cs := if hasB C.xs.length C.ws a = true then giveD C a.toNat else C
theorem cgive_any {w : World} {b : Bl} {C : Cs} {F : Nat → List Int} (h : CX w b C) (hi : Inv C F) (a : Int) :
    Calls Tryz.prog 45 #[.pointer (some ⟨b.c, 0, none⟩), .int .i64 a] w fun e w' => e = .returned (.bool (hasB C.xs.length C.ws a)) ∧ CX w' b (giveC C a) ∧ Frm b.fp w w' := by
  cases hb : hasB C.xs.length C.ws a with
  | false =>
    have hg : giveC C a = C := by unfold giveC; rw [hb]; rfl
    rw [hg]
    refine (cgive_no h a hb).mono ?_
    rintro e w' ⟨rfl, rfl⟩
    exact ⟨rfl, h, Frm.refl _ _⟩
  | true =>
    have hg : giveC C a = giveD C a.toNat := by unfold giveC; rw [hb]; rfl
    rw [hg]
    obtain ⟨x, rfl, hl, -, ht⟩ := has_tk hi hb
    rw [Int.toNat_natCast]
    have hle := hi.le
    unfold giveD
    rcases tk_cases ht with ⟨k1, k4, hal, hn⟩ | ⟨h5, h0⟩
    · rw [if_neg (by omega)]
      exact (cgive_small h x hb _ _ _ _ _ (give_ok hi hl k1 k4 hal hn)).mono fun e w' hr => hr
    · rw [if_pos h5]
      have hp : kindL C.ks (pageI (x : Int)) = 5 := by
        rw [pageI_in (by omega) (by omega), show (x : Int) / 32 = ((x / 32 : Nat) : Int) by omega, kindL_in (by omega)]
        exact h5
      exact (cgive_large h x hb hp).mono fun e w' hr => hr
section
variable {w w' : World} {b : Sl} {S : Sm}
def freeS (S : Sm) (a : Int) : Sm := { S with C := giveC S.C a }
theorem sfree_any (h : StX w b S) (si : SI S) (a : Int) :
    Calls Tryz.prog 19 #[.pointer (some ⟨b.s, 0, none⟩), .int .i64 a] w fun e w' => e = .returned (.bool (hasO S a)) ∧ StX w' b (freeS S a) ∧ Frm b.fp w w' := by
  have H := Lib.hid h
  obtain ⟨F, hi⟩ := si.inv
  have HI := Lib.hid hi
  obtain ⟨c0, -⟩ := h.cells
  obtain ⟨r, hr⟩ : ∃ r, r = hasB S.C.xs.length S.C.ws a := ⟨_, rfl⟩
  have HR := Lib.hid hr
  clear h hr hi si
  go_enter Tryz.func19, Tryz.ntmps19
  go_wp2_with (first
    | (go_at_call 23; refine (sis_any H.out).mono ?_; rintro e w1 ⟨rfl, rfl⟩)
    | (go_at_call 45; refine (cgive_any H.out.cx HI.out a).mono ?_; rw [← HR.out]; rintro e w1 ⟨rfl, hx, hf⟩; have H1 := Lib.hid (H.out.withCX hf hx); have F1 := Lib.hid (hf.sub (fp' := b.fp) b.sub_cb); clear hx hf))
  go_ret
  exact ⟨ret_bool HR.out, H1.out, F1.out⟩
end
end Go.Proofs.YtjoejjhgneccgaaGreat

/- A store: what holds behind Free (plain). -/
namespace Go.Proofs.YtjoejjhgneccgaaGreat
open Go.RowKit

section
variable {S : Sm}
theorem SI.withK {C : Cs} (h : SI S) (hi : ∃ F, Inv C F) (hl : C.ks.length = S.C.ks.length) (hk : ∀ t k, ∀ q : Nat, S.M t k = some (q : Int) → q < S.C.ks.length → C.ks.getD q 0 = S.C.ks.getD q 0) : SI { S with C := C } :=
  ⟨hi, h.np.trans (by rw [hl]), h.dom, fun t k p hm => by
    obtain ⟨q, rfl, h1, h2, h3⟩ := h.own t k p hm
    refine ⟨q, rfl, ?_, ?_, h3⟩
    · show q < C.ks.length
      omega
    · show C.ks.getD q 0 = k
      rw [hk t k q hm h1, h2], h.inj, h.th⟩
theorem free_small {ks : List Int} {p q : Nat} (hp : p < ks.length) (h5 : ks.getD p 0 = 5) (hq : q < ks.length) (k1 : 1 ≤ ks.getD q 0) (k4 : ks.getD q 0 ≤ 4) : (freeL ks (p : Int)).getD q 0 = ks.getD q 0 := by
  unfold freeL
  rw [Int.toNat_natCast, fillL_get _ _ _ _ _ hq, if_neg]
  rintro ⟨h1, h2⟩
  have hk : kindL ks (p : Int) = 5 := by rw [kindL_in hp]; exact h5
  have hs : sizeL ks (p : Int) = 1 + (run6 ks (p + 1) : Int) := by
    unfold sizeL
    rw [hk, if_neg (by decide), if_neg (by decide), Int.toNat_natCast]
  rw [hs] at h2
  by_cases e : q = p
  · subst e; omega
  · have := run6_all ks (p + 1) (q - (p + 1)) (by omega)
    rw [show p + 1 + (q - (p + 1)) = q by omega] at this
    omega
theorem SI.free (h : SI S) (a : Int) : SI (freeS S a) := by
  obtain ⟨F, hi⟩ := h.inv
  unfold freeS giveC
  cases hb : hasB S.C.xs.length S.C.ws a with
  | false => exact h
  | true =>
    obtain ⟨x, rfl, hl, -, ht⟩ := has_tk hi hb
    rw [if_pos rfl, Int.toNat_natCast]
    have hle := hi.le
    unfold giveD
    rcases tk_cases ht with ⟨k1, k4, hal, hn⟩ | ⟨h5, h0⟩
    · rw [if_neg (by omega)]
      exact h.withK ⟨_, inv_give hi hb hl k1 k4 hal hn⟩ rfl fun _ _ _ _ _ => rfl
    · rw [if_pos h5]
      refine h.withK ⟨_, inv_give_large hi hb hl h5 h0⟩ (freeL_len _ _) fun t k q hm hq => ?_
      show (freeL S.C.ks (pageI (x : Int))).getD q 0 = _
      obtain ⟨q', e, -, h2, -⟩ := h.own t k _ hm
      have := h.dom t k _ hm
      obtain rfl : q = q' := by omega
      rw [pageI_in (by omega) (by omega), show (x : Int) / 32 = ((x / 32 : Nat) : Int) by omega]
      exact free_small (by omega) h5 hq (by omega) (by omega)
end
end Go.Proofs.YtjoejjhgneccgaaGreat

/- A value's word: may it be. -/
namespace Go.Proofs.YtjoejjhgneccgaaGreat
open Go.RowKit

def checkV (k n : Int) : Int :=
  if k = 0 then (if (n == 0) = true then 0 else 4)
  else if k = 1 then (if decide (-1099511627776 ≤ n) = true then (if decide (n < 1099511627776) = true then 0 else 4) else 4)
  else if k = 2 then (if decide (0 ≤ n) = true then (if decide (n < 2048) = true then 0 else 4) else 4)
  else 12
set_option maxHeartbeats 2000000 in
theorem wcheck_any (k n : Int) (w : World) :
    Calls Tryz.prog 59 #[.agg #[.int .i64 k, .int .i64 n]] w fun e w' => e = .returned (.int .i64 (checkV k n)) ∧ Below w.heap.size w w' := by
  have B0 := Lib.hid (below_alloc0 w (.cells #[.int .i64 k, .int .i64 n] 24))
  have c0 : (w.alloc (.cells #[.int .i64 k, .int .i64 n] 24)).cell? ⟨w.heap.size, 0, none⟩ = some (.int .i64 k) := cell_of_row _ _ _ _ _ _ (heap_alloc_new w _)
  have c1 : (w.alloc (.cells #[.int .i64 k, .int .i64 n] 24)).cell? ⟨w.heap.size, 1, none⟩ = some (.int .i64 n) := cell_of_row _ _ _ _ _ _ (heap_alloc_new w _)
  obtain ⟨r, hr⟩ : ∃ r, r = checkV k n := ⟨_, rfl⟩
  rw [← hr]
  unfold checkV at hr
  by_cases h0 : k = 0
  · subst h0
    cases hb : (n == 0)
    all_goals
      rw [hb] at hr
      simp only [reduceIte, reduceCtorEq] at hr
      subst hr
      go_enter Tryz.func59, Tryz.ntmps59
      go_wp2_with fail
      go_ret
      exact ⟨rfl, B0.out⟩
  by_cases h1 : k = 1
  · subst h1
    cases hb : decide (-1099511627776 ≤ n)
    · rw [hb] at hr
      simp at hr
      subst hr
      go_enter Tryz.func59, Tryz.ntmps59
      go_wp2_with fail
      go_ret
      exact ⟨rfl, B0.out⟩
    · cases hc : decide (n < 1099511627776)
      all_goals
        rw [hb, hc] at hr
        simp at hr
        subst hr
        go_enter Tryz.func59, Tryz.ntmps59
        go_wp2_with fail
        go_ret
        exact ⟨rfl, B0.out⟩
  by_cases h2 : k = 2
  · subst h2
    cases hb : decide (0 ≤ n)
    · rw [hb] at hr
      simp at hr
      subst hr
      go_enter Tryz.func59, Tryz.ntmps59
      go_wp2_with fail
      go_ret
      exact ⟨rfl, B0.out⟩
    · cases hc : decide (n < 2048)
      all_goals
        rw [hb, hc] at hr
        simp at hr
        subst hr
        go_enter Tryz.func59, Tryz.ntmps59
        go_wp2_with fail
        go_ret
        exact ⟨rfl, B0.out⟩
  rw [if_neg h0, if_neg h1, if_neg h2] at hr
  subst hr
  have e0 : (k == 0) = false := by simpa using h0
  have e1 : (k == 1) = false := by simpa using h1
  have e2 : (k == 2) = false := by simpa using h2
  go_enter Tryz.func59, Tryz.ntmps59
  go_wp2_with fail
  go_ret
  exact ⟨rfl, B0.out⟩
end Go.Proofs.YtjoejjhgneccgaaGreat

/- A value's word: put. -/
namespace Go.Proofs.YtjoejjhgneccgaaGreat
open Go.RowKit

def putW (k n : Int) : Int := if k = 0 then 0 else if k = 1 then 2 * n + 1 else 2 * n + 2
theorem check_ok {k n : Int} (h : checkV k n = 0) : (k = 0 ∧ n = 0) ∨ (k = 1 ∧ -1099511627776 ≤ n ∧ n < 1099511627776) ∨ (k = 2 ∧ 0 ≤ n ∧ n < 2048) := by
  unfold checkV at h
  simp only [beq_iff_eq, decide_eq_true_eq] at h
  split at h
  · split at h <;> omega
  split at h
  · split at h
    · split at h <;> omega
    · omega
  split at h
  · split at h
    · split at h <;> omega
    · omega
  · omega
def PutE (k n : Int) (e : Ending) : Prop := e = .returned (.tuple #[.int .i64 (if checkV k n = 0 then putW k n else 0), .bool (checkV k n == 0)])
set_option maxHeartbeats 2000000 in
theorem wput_any (k n : Int) (w : World) :
    Calls Tryz.prog 29 #[.agg #[.int .i64 k, .int .i64 n]] w fun e w' => PutE k n e ∧ Below w.heap.size w w' := by
  have B0 := Lib.hid (below_alloc0 w (.cells #[.int .i64 k, .int .i64 n] 24))
  have A0 := Lib.hid (heap_alloc_new w (.cells #[.int .i64 k, .int .i64 n] 24))
  have c0 : (w.alloc (.cells #[.int .i64 k, .int .i64 n] 24)).cell? ⟨w.heap.size, 0, none⟩ = some (.int .i64 k) := cell_of_row _ _ _ _ _ _ A0.out
  have c1 : (w.alloc (.cells #[.int .i64 k, .int .i64 n] 24)).cell? ⟨w.heap.size, 1, none⟩ = some (.int .i64 n) := cell_of_row _ _ _ _ _ _ A0.out
  by_cases hc : checkV k n = 0
  · have HC := Lib.hid hc
    have HE : Hid (∀ e, e = .returned (.tuple #[.int .i64 (putW k n), .bool true]) → PutE k n e) := Lib.hid (fun e he => by unfold PutE; rw [if_pos hc, hc]; exact he)
    rcases check_ok hc with ⟨rfl, rfl⟩ | ⟨rfl, h1, h2⟩ | ⟨rfl, h1, h2⟩
    · clear hc
      go_enter Tryz.func29, Tryz.ntmps29
      go_wp2_with (go_at_call 59; refine (wcheck_any _ _ _).mono ?_; rw [HC.out]; rintro e w1 ⟨rfl, hb⟩; have B1 := Lib.hid (below_next B0.out hb); have z := keep hb A0.out; have d0 : w1.cell? ⟨w.heap.size, 0, none⟩ = some (.int .i64 0) := cell_of_row _ _ _ _ _ _ z; clear z hb)
      go_ret2
      exact ⟨HE.out _ rfl, B1.out⟩
    · have k1 : IntKind.i64.wrap (2 * n) = 2 * n := by rw [IntKind.wrap_i64]; omega
      have k2 : IntKind.i64.wrap (2 * n + 1) = 2 * n + 1 := by rw [IntKind.wrap_i64]; omega
      have k3 : IntKind.i64.wrap (0 + (2 * n + 1)) = 2 * n + 1 := by rw [IntKind.wrap_i64]; omega
      clear hc h1 h2
      go_enter Tryz.func29, Tryz.ntmps29
      go_wp2_with (go_at_call 59; refine (wcheck_any _ _ _).mono ?_; rw [HC.out]; rintro e w1 ⟨rfl, hb⟩; have B1 := Lib.hid (below_next B0.out hb); have z := keep hb A0.out; have d0 : w1.cell? ⟨w.heap.size, 0, none⟩ = some (.int .i64 1) := cell_of_row _ _ _ _ _ _ z; have d1 : w1.cell? ⟨w.heap.size, 1, none⟩ = some (.int .i64 n) := cell_of_row _ _ _ _ _ _ z; clear z hb)
      go_ret2
      exact ⟨HE.out _ rfl, B1.out⟩
    · have k1 : IntKind.i64.wrap (2 * n) = 2 * n := by rw [IntKind.wrap_i64]; omega
      have k2 : IntKind.i64.wrap (2 * n + 1) = 2 * n + 1 := by rw [IntKind.wrap_i64]; omega
      have k3 : IntKind.i64.wrap (1 + (2 * n + 1)) = 2 * n + 2 := by rw [IntKind.wrap_i64]; omega
      clear hc h1 h2
      go_enter Tryz.func29, Tryz.ntmps29
      go_wp2_with (go_at_call 59; refine (wcheck_any _ _ _).mono ?_; rw [HC.out]; rintro e w1 ⟨rfl, hb⟩; have B1 := Lib.hid (below_next B0.out hb); have z := keep hb A0.out; have d0 : w1.cell? ⟨w.heap.size, 0, none⟩ = some (.int .i64 2) := cell_of_row _ _ _ _ _ _ z; have d1 : w1.cell? ⟨w.heap.size, 1, none⟩ = some (.int .i64 n) := cell_of_row _ _ _ _ _ _ z; clear z hb)
      go_ret2
      exact ⟨HE.out _ rfl, B1.out⟩
  · have z0 : (checkV k n == 0) = false := by simpa using hc
    have HE : Hid (∀ e, e = .returned (.tuple #[.int .i64 0, .bool false]) → PutE k n e) := Lib.hid (fun e he => by unfold PutE; rw [if_neg hc, z0]; exact he)
    clear hc
    go_enter Tryz.func29, Tryz.ntmps29
    go_wp2_with (go_at_call 59; refine (wcheck_any _ _ _).mono ?_; rintro e w1 ⟨rfl, hb⟩; have B1 := Lib.hid (below_next B0.out hb); clear hb)
    go_ret2
    exact ⟨HE.out _ rfl, B1.out⟩
end Go.Proofs.YtjoejjhgneccgaaGreat

/- A store's objects: what begins at an address (plain). -/
namespace Go.Proofs.YtjoejjhgneccgaaGreat
open Go.RowKit

/-- A word's value. -/
def rdW (x : Int) : Int × Int := if x % 2 = 1 then (1, x / 2) else if x = 0 then (0, 0) else (2, x / 2 - 1)
theorem rdW_put {k n : Int} (h : checkV k n = 0) : rdW (putW k n) = (k, n) := by
  rcases check_ok h with ⟨rfl, rfl⟩ | ⟨rfl, -, -⟩ | ⟨rfl, h1, -⟩
  · rfl
  · have e : putW 1 n = 2 * n + 1 := rfl
    rw [e]
    unfold rdW
    rw [if_pos (by omega)]
    exact Prod.ext rfl (by show (2 * n + 1) / 2 = n; omega)
  · have e : putW 2 n = 2 * n + 2 := rfl
    rw [e]
    unfold rdW
    rw [if_neg (by omega), if_neg (by omega)]
    exact Prod.ext rfl (by show (2 * n + 2) / 2 - 1 = n; omega)
theorem Kept.refl {C : Cs} {a : Nat} (h : a ∈ bitsN C.ws) : Kept C C a := ⟨h, rfl, rfl, fun _ _ _ => rfl⟩
theorem Kept.trans {C C1 C2 : Cs} {a : Nat} (h : Kept C C1 a) (h2 : Kept C1 C2 a) : Kept C C2 a :=
  ⟨h2.at_, h2.end_.trans h.end_, h2.kd.trans h.kd, fun x h1 h3 => (h2.xs x h1 (by rw [h.end_]; exact h3)).trans (h.xs x h1 h3)⟩
/-- An object: its first word, and its fields. -/
structure Ob (C : Cs) (md : Int) (a : Nat) : Prop where
  hd : ∃ s n : Nat, (s : Int) < md ∧ n ≤ 127 ∧ C.xs.getD a 0 = (s : Int) * 128 + n ∧ a + 1 + n ≤ endN C a
  fd : ∀ x, a < x → x < endN C a → ∃ k v, checkV k v = 0 ∧ C.xs.getD x 0 = putW k v
def serN (C : Cs) (a : Nat) : Nat := (C.xs.getD a 0 / 128).toNat
def lenN (C : Cs) (a : Nat) : Nat := (C.xs.getD a 0 % 128).toNat
def fldN (C : Cs) (a i : Nat) : Int × Int := rdW (C.xs.getD (a + 1 + i) 0)
def objN (C : Cs) (a : Nat) : Nat × List (Int × Int) := (serN C a, (List.range (lenN C a)).map (fldN C a))
section
variable {C C' : Cs} {md md' : Int} {a : Nat} {F : Nat → List Int}
theorem Ob.at_ (h : Ob C md a) : (serN C a : Int) < md ∧ lenN C a ≤ 127 ∧ C.xs.getD a 0 = (serN C a : Int) * 128 + lenN C a ∧ a + 1 + lenN C a ≤ endN C a := by
  obtain ⟨s, n, h1, h2, h3, h4⟩ := h.hd
  have e1 : serN C a = s := by unfold serN; rw [h3]; omega
  have e2 : lenN C a = n := by unfold lenN; rw [h3]; omega
  rw [e1, e2]
  exact ⟨h1, h2, h3, h4⟩
theorem Ob.keep (h : Ob C md a) (hk : Kept C C' a) (hm : md ≤ md') : Ob C' md' a := by
  obtain ⟨s, n, h1, h2, h3, h4⟩ := h.hd
  refine ⟨⟨s, n, by omega, h2, by rw [hk.xs a (Nat.le_refl _) (by omega)]; exact h3, by rw [hk.end_]; exact h4⟩, fun x hx1 hx2 => ?_⟩
  rw [hk.end_] at hx2
  rw [hk.xs x (by omega) hx2]
  exact h.fd x hx1 hx2
theorem obj_keep (h : Ob C md a) (hk : Kept C C' a) : objN C' a = objN C a := by
  obtain ⟨-, -, -, h4⟩ := h.at_
  have e0 := hk.xs a (Nat.le_refl _) (by omega)
  have e1 : serN C' a = serN C a := by unfold serN; rw [e0]
  have e2 : lenN C' a = lenN C a := by unfold lenN; rw [e0]
  unfold objN
  rw [e1, e2]
  congr 1
  refine List.map_congr_left fun i hi => ?_
  have := List.mem_range.1 hi
  unfold fldN
  rw [hk.xs _ (by omega) (by omega)]
theorem storeC_in (h : Inv C F) {z x : Nat} (hz : z ∈ bitsN C.ws) (h1 : z ≤ x) (h2 : x < endN C z) (v : Int) : storeC C (x : Int) v = { C with xs := putL C.xs x v } := by
  unfold storeC
  rw [if_pos (by rw [base_in h hz (by omega) (by omega)]; omega)]
theorem store_kept (h : Inv C F) {z x : Nat} (hz : z ∈ bitsN C.ws) (h1 : z ≤ x) (h2 : x < endN C z) (v : Int) : ∀ b ∈ bitsN C.ws, b ≠ z → Kept C { C with xs := putL C.xs x v } b := fun b hb hne =>
  ⟨hb, rfl, rfl, fun y y1 y2 => by
    have hy := (pages_in h hb y1 y2).1
    have := h.len
    show (putL C.xs x v).getD y 0 = _
    rw [putL_get (by omega), if_neg]
    intro e
    rcases apart_ne h hb hz hne y1 y2 with h3 | h3 <;> omega⟩
/-- An object begins where nothing but zeros lies. -/
theorem ob_begin (h : Inv C F) {z n : Nat} (hz : z ∈ bitsN C.ws) (m0 : 0 ≤ md) (hn : n ≤ 127) (he : z + 1 + n ≤ endN C z) (h0 : ∀ x, z ≤ x → x < endN C z → C.xs.getD x 0 = 0) (hC : C' = storeC C z (md * 128 + n)) :
    Inv C' F ∧ C'.ws = C.ws ∧ C'.ks = C.ks ∧ Ob C' (md + 1) z ∧ objN C' z = (md.toNat, List.replicate n (0, 0)) ∧ ∀ b ∈ bitsN C.ws, b ≠ z → Kept C C' b := by
  rw [storeC_in h hz (Nat.le_refl _) (by omega)] at hC
  subst hC
  have hpl := (pages_in h hz (x := endN C z - 1) (by omega) (by omega)).1
  have hlen := h.len
  have hx : ∀ y, y < endN C z → (putL C.xs z (md * 128 + n)).getD y 0 = if y = z then md * 128 + n else C.xs.getD y 0 := fun y hy => by
    rw [putL_get (by omega)]
    by_cases e : y = z
    · rw [if_pos e, if_pos (by omega)]
    · rw [if_neg e, if_neg (by omega)]
  have hz0 : (putL C.xs z (md * 128 + n)).getD z 0 = md * 128 + n := by rw [hx z (by omega), if_pos rfl]
  obtain ⟨m, rfl⟩ := Int.eq_ofNat_of_zero_le m0
  refine ⟨inv_store h hz (Nat.le_refl _) (by omega) _, rfl, rfl, ⟨⟨m, n, by omega, hn, hz0, he⟩, fun x h1 h2 => ⟨0, 0, rfl, ?_⟩⟩, ?_, store_kept h hz (Nat.le_refl _) (by omega) _⟩
  · exact (hx x h2).trans (by rw [if_neg (by omega), h0 x (by omega) h2]; rfl)
  · have e1 : serN { C with xs := putL C.xs z ((m : Int) * 128 + n) } z = m := by unfold serN; rw [hz0]; omega
    have e2 : lenN { C with xs := putL C.xs z ((m : Int) * 128 + n) } z = n := by unfold lenN; rw [hz0]; omega
    unfold objN
    rw [e1, e2, Int.toNat_natCast]
    congr 1
    refine List.eq_replicate_iff.2 ⟨by simp, fun b hb => ?_⟩
    obtain ⟨i, hi, rfl⟩ := List.mem_map.1 hb
    have := List.mem_range.1 hi
    unfold fldN
    rw [hx _ (by omega), if_neg (by omega), h0 _ (by omega) (by omega)]
    rfl
/-- A field is set. -/
theorem ob_set (h : Inv C F) (ha : a ∈ bitsN C.ws) (ob : Ob C md a) {i : Nat} (hi : i < lenN C a) {k n : Int} (hv : checkV k n = 0) (hC : C' = storeC C ((a + 1 + i : Nat) : Int) (putW k n)) :
    Inv C' F ∧ C'.ws = C.ws ∧ C'.ks = C.ks ∧ Ob C' md a ∧ objN C' a = ((objN C a).1, (objN C a).2.set i (k, n)) ∧ ∀ b ∈ bitsN C.ws, b ≠ a → Kept C C' b := by
  obtain ⟨a1, a2, a3, a4⟩ := ob.at_
  rw [storeC_in h ha (by omega) (by omega)] at hC
  subst hC
  have hpl := (pages_in h ha (x := endN C a - 1) (by omega) (by omega)).1
  have hlen := h.len
  have hx : ∀ y, y < endN C a → (putL C.xs ((a + 1 + i : Nat) : Int) (putW k n)).getD y 0 = if y = a + 1 + i then putW k n else C.xs.getD y 0 := fun y hy => by
    rw [putL_get (by omega)]
    by_cases e : y = a + 1 + i
    · rw [if_pos e, if_pos (by omega)]
    · rw [if_neg e, if_neg (by omega)]
  have h0 : (putL C.xs ((a + 1 + i : Nat) : Int) (putW k n)).getD a 0 = C.xs.getD a 0 := by rw [hx a (by omega), if_neg (by omega)]
  refine ⟨inv_store h ha (by omega) (by omega) _, rfl, rfl, ⟨⟨serN C a, lenN C a, a1, a2, h0.trans a3, a4⟩, fun x h1 h2 => ?_⟩, ?_, store_kept h ha (by omega) (by omega) _⟩
  · show ∃ k' v, checkV k' v = 0 ∧ (putL C.xs ((a + 1 + i : Nat) : Int) (putW k n)).getD x 0 = putW k' v
    rw [hx x h2]
    split
    · exact ⟨k, n, hv, rfl⟩
    · exact ob.fd x h1 h2
  · have e1 : serN { C with xs := putL C.xs ((a + 1 + i : Nat) : Int) (putW k n) } a = serN C a := by unfold serN; rw [h0]
    have e2 : lenN { C with xs := putL C.xs ((a + 1 + i : Nat) : Int) (putW k n) } a = lenN C a := by unfold lenN; rw [h0]
    unfold objN
    rw [e1, e2]
    congr 1
    refine List.ext_getElem (by simp) fun j h1 h2 => ?_
    have hj : j < lenN C a := by simpa using h1
    rw [List.getElem_map, List.getElem_range, List.getElem_set]
    unfold fldN
    rw [hx _ (by omega)]
    by_cases e : i = j
    · subst e
      rw [if_pos rfl, if_pos rfl, rdW_put hv]
    · rw [if_neg (by omega), if_neg e, List.getElem_map, List.getElem_range]
end
end Go.Proofs.YtjoejjhgneccgaaGreat

/- A store: has an object a field. -/
namespace Go.Proofs.YtjoejjhgneccgaaGreat
open Go.RowKit

section
variable {w w' : World} {b : Sl} {S : Sm}
def fieldB (S : Sm) (a i : Int) : Bool := decide (0 ≤ i) && decide (i < (readV S a).2)
theorem shas_any (h : StX w b S) (a i : Int) :
    Calls Tryz.prog 30 #[.pointer (some ⟨b.s, 0, none⟩), .int .i64 a, .int .i64 i] w fun e w' => e = .returned (.bool (fieldB S a i)) ∧ w = w' := by
  have H := Lib.hid h
  clear h
  by_cases h0 : 0 ≤ i
  · have d0 : decide (0 ≤ i) = true := by simpa using h0
    have HF := Lib.hid (show fieldB S a i = decide (i < (readV S a).2) by unfold fieldB; rw [d0, Bool.true_and])
    clear h0
    go_enter Tryz.func30, Tryz.ntmps30
    go_wp2_with (go_at_call 12; refine (sfields_any H.out a).mono ?_; rintro e w1 ⟨rfl, rfl⟩)
    go_ret
    exact ⟨ret_bool HF.out.symm, rfl⟩
  · have d0 : decide (0 ≤ i) = false := by simpa using h0
    have HF := Lib.hid (show fieldB S a i = false by unfold fieldB; rw [d0, Bool.false_and])
    clear h0
    go_enter Tryz.func30, Tryz.ntmps30
    go_wp2_with fail
    go_ret
    exact ⟨ret_bool HF.out.symm, rfl⟩
end
end Go.Proofs.YtjoejjhgneccgaaGreat

/- A store: a field is set. -/
namespace Go.Proofs.YtjoejjhgneccgaaGreat
open Go.RowKit

section
variable {w w' : World} {b : Sl} {S : Sm}
/-- A field is set, where it may be. -/
def mayB (S : Sm) (a i k n : Int) : Bool := (checkV k n == 0) && fieldB S a i
def addr (a i : Int) : Int := IntKind.i64.wrap (IntKind.i64.wrap (a + 1) + i)
def setB (S : Sm) (a i k n : Int) : Bool := mayB S a i k n && storeB S.C (addr a i)
def setS (S : Sm) (a i k n : Int) : Sm := if mayB S a i k n = true then { S with C := storeC S.C (addr a i) (putW k n) } else S
theorem SI.set (si : SI S) (a i k n : Int) : SI (setS S a i k n) := by
  obtain ⟨F, hi⟩ := si.inv
  unfold setS
  split
  · exact si.withK ⟨F, inv_storeC hi _ _⟩ (by rw [storeC_ks]) (fun _ _ _ _ _ => by rw [storeC_ks])
  · exact si
end
end Go.Proofs.YtjoejjhgneccgaaGreat

/- A store's objects: made, set, gone (plain). -/
namespace Go.Proofs.YtjoejjhgneccgaaGreat
open Go.RowKit

/-- What holds of a store and its objects behind each call. -/
structure SJ (S : Sm) : Prop where
  si : SI S
  m0 : 0 ≤ S.md
  m1 : S.md ≤ 1000000
  ob : ∀ a ∈ bitsN S.C.ws, Ob S.C S.md a
theorem split_head {s n : Nat} (h : s < 1000000) (hn : n ≤ 127) : splitV ((s : Int) * 128 + n) = ((s : Int), (n : Int), true) := by
  have e1 : quoW ((s : Int) * 128 + n) = s := by
    unfold quoW
    rw [Int.tdiv_eq_ediv_of_nonneg (by omega), IntKind.wrap_i64]
    omega
  have e2 : ((s : Int) * 128 + n).tmod 128 = n := by rw [Int.tmod_eq_emod_of_nonneg (by omega)]; omega
  unfold splitV
  rw [if_neg (by rw [e1]; omega), e1, e2]
section
variable {S S' : Sm}
theorem SJ.has (h : SJ S) (x : Int) : hasO S x = true ↔ ∃ a : Nat, x = a ∧ a ∈ bitsN S.C.ws := by
  obtain ⟨F, hi⟩ := h.si.inv
  unfold hasO
  rw [has_iff hi, decide_eq_true_eq, mem_bitsI]
  exact ⟨fun ⟨a, h1, h2⟩ => ⟨a, h2, h1⟩, fun ⟨a, h1, h2⟩ => ⟨a, h2, h1⟩⟩
theorem SJ.lt (h : SJ S) {a : Nat} (ha : a ∈ bitsN S.C.ws) : a < 32 * S.C.ks.length ∧ a < 2048 := by
  obtain ⟨F, hi⟩ := h.si.inv
  have := (bits_lt hi ha).1
  have := hi.le
  omega
theorem SJ.read (h : SJ S) {a : Nat} (ha : a ∈ bitsN S.C.ws) : readV S (a : Int) = ((serN S.C a : Int), (lenN S.C a : Int)) := by
  obtain ⟨F, hi⟩ := h.si.inv
  have hl := (bits_lt hi ha).1
  have hlen := hi.len
  obtain ⟨h1, h2, h3, -⟩ := (h.ob a ha).at_
  have hm := h.m1
  unfold readV
  rw [if_pos ((h.has _).2 ⟨a, rfl, ha⟩), loadV_yes (by omega), h3, split_head (by omega) h2]
theorem SJ.readNo (_h : SJ S) {x : Int} (hx : hasO S x = false) : readV S x = (-1, -1) := by
  unfold readV
  rw [hx]; rfl
theorem SJ.field (h : SJ S) {x i : Int} : fieldB S x i = true ↔ ∃ a j : Nat, x = a ∧ i = j ∧ a ∈ bitsN S.C.ws ∧ j < lenN S.C a := by
  unfold fieldB
  rw [Bool.and_eq_true, decide_eq_true_eq, decide_eq_true_eq]
  constructor
  · rintro ⟨h0, h1⟩
    cases hx : hasO S x with
    | false =>
      rw [h.readNo hx] at h1
      have h1' : i < -1 := h1
      omega
    | true =>
      obtain ⟨a, rfl, ha⟩ := (h.has x).1 hx
      obtain ⟨j, rfl⟩ := Int.eq_ofNat_of_zero_le h0
      rw [h.read ha] at h1
      exact ⟨a, j, rfl, rfl, ha, Int.ofNat_lt.1 h1⟩
  · rintro ⟨a, j, rfl, rfl, ha, hj⟩
    rw [h.read ha]
    exact ⟨by omega, Int.ofNat_lt.2 hj⟩
theorem addr_nat {S : Sm} (h : SJ S) {a j : Nat} (ha : a ∈ bitsN S.C.ws) (hj : j < lenN S.C a) : addr (a : Int) (j : Int) = ((a + 1 + j : Nat) : Int) := by
  have h1 := (h.lt ha).2
  have h2 := (h.ob a ha).at_.2.1
  unfold addr
  rw [IntKind.wrap_i64, IntKind.wrap_i64]
  omega
/-- An object was made. -/
structure Alc (S S' : Sm) (z n : Nat) : Prop where
  nw : z ∉ bitsN S.C.ws
  mem : ∀ a, a ∈ bitsN S'.C.ws ↔ a = z ∨ a ∈ bitsN S.C.ws
  kept : ∀ a ∈ bitsN S.C.ws, Kept S.C S'.C a
  ob : Ob S'.C S'.md z
  obj : objN S'.C z = (S.md.toNat, List.replicate n (0, 0))
  md : S'.md = S.md + 1
theorem SJ.alc (h : SJ S) {z n : Nat} (hN : Alc S S' z n) (si : SI S') (m : S.md < 1000000) : SJ S' :=
  ⟨si, by rw [hN.md]; have := h.m0; omega, by rw [hN.md]; omega, fun a ha => by
    rcases (hN.mem a).1 ha with rfl | hb
    · exact hN.ob
    · exact (h.ob a hb).keep (hN.kept a hb) (by rw [hN.md]; omega)⟩
theorem Alc.old {z n : Nat} (h : Alc S S' z n) (hj : SJ S) {a : Nat} (ha : a ∈ bitsN S.C.ws) : objN S'.C a = objN S.C a := obj_keep (hj.ob a ha) (h.kept a ha)
/-- .. in what was taken. -/
theorem alc_of {S S1 : Sm} {F : Nat → List Int} {z n : Nat} (hi : Inv S1.C F) (m0 : 0 ≤ S.md) (hmd : S1.md = S.md) (nw : z ∉ bitsN S.C.ws) (mem : ∀ a, a ∈ bitsN S1.C.ws ↔ a = z ∨ a ∈ bitsN S.C.ws) (kept : ∀ a ∈ bitsN S.C.ws, Kept S.C S1.C a)
    (hn : n ≤ 127) (he : z + 1 + n ≤ endN S1.C z) (h0 : ∀ x, z ≤ x → x < endN S1.C z → S1.C.xs.getD x 0 = 0) : Alc S (S1.begin z n) z n ∧ (S1.begin z n).C.ks = S1.C.ks := by
  obtain ⟨-, b2, b3, b4, b5, b6⟩ := ob_begin (C' := (S1.begin z n).C) hi ((mem z).2 (.inl rfl)) (md := S1.md) (by rw [hmd]; exact m0) hn he h0 rfl
  refine ⟨⟨nw, fun a => by rw [b2]; exact mem a, fun a ha => ?_, b4, by rw [b5, hmd], by show S1.md + 1 = _; rw [hmd]⟩, b3⟩
  exact (kept a ha).trans (b6 a ((mem a).2 (.inr ha)) fun e => nw (e ▸ ha))
/-- From a page's free cells. -/
theorem take_alc (si : SI S) (m0 : 0 ≤ S.md) {q n : Nat} (hq : q < S.C.ks.length) (h0 : leftL S.C q ≠ 0) (hn : (n : Int) + 1 ≤ sizeI (S.C.ks.getD q 0)) :
    ∃ z : Nat, cellA S.C q = z ∧ z / 32 = q ∧ Alc S ((takeS S q).begin (cellA S.C q) n) z n ∧ ((takeS S q).begin (cellA S.C q) n).C.ks = S.C.ks := by
  obtain ⟨F, hi⟩ := si.inv
  have hk : 1 ≤ S.C.ks.getD q 0 ∧ S.C.ks.getD q 0 ≤ 4 := by
    apply Decidable.byContradiction; intro hc
    rw [sizeI_zero (by omega)] at hn; omega
  have hs := sizeI_pos hk
  obtain ⟨-, h2, -⟩ := hi.ln q hq hk.1 hk.2
  cases hF : F q with
  | nil =>
    rw [hF] at h2
    exact absurd (by unfold leftL; rw [kindL_in hq, if_pos (by omega)]; simpa using h2) h0
  | cons f l =>
    obtain ⟨g, ht, hl⟩ := take_ok hi hq hk.1 hk.2 hF
    have e1 : (S.C.ch.getD q (0, 0)).1 = f := by rw [ht.ch]
    have e2 : (S.C.ch.getD q (0, 0)).2 = (l.length : Int) + 1 := by rw [ht.ch]
    have eA : cellA S.C q = cad q (S.C.ks.getD q 0) f := by unfold cellA; rw [e1]
    have eT : (takeS S q) = { S with C := takeC S.C q (S.C.ks.getD q 0) f ((l.length : Int) + 1) (-1 - g) } := by
      unfold takeS Sm.take
      rw [e1, e2, ht.wd]
    have hz := (cad_page (p := q) hk ht.f0 ht.f1).2.2
    obtain ⟨t1, t2, t3, t4, t5, t6, t7⟩ := take_kept hi hq hk.1 hk.2 hF ht hl _ rfl _ rfl
    have hv := inv_take hi hq hk.1 hk.2 hF ht hl
    obtain ⟨z, ez⟩ : ∃ z, z = (cad q (S.C.ks.getD q 0) f).toNat := ⟨_, rfl⟩
    rw [← ez] at hz t1 t2 t4 t5 t7
    have hAl := alc_of (S := S) (S1 := { S with C := takeC S.C q (S.C.ks.getD q 0) f ((l.length : Int) + 1) (-1 - g) }) (z := z) (n := n) hv m0 rfl t1 t2 t3 (by omega) (by rw [t4]; omega) t7
    refine ⟨z, by rw [eA]; exact hz.symm, t5, ?_⟩
    rw [eA, ← hz, eT]
    exact ⟨hAl.1, hAl.2.trans t6⟩
theorem small_size {n : Int} (h : smallB n = true) : n + 1 ≤ sizeI (ofI n) ∧ 1 ≤ ofI n ∧ ofI n ≤ 4 := by
  have h2 := small_bd h
  unfold smallB at h
  rw [decide_eq_true_eq] at h
  have hk : 1 ≤ ofI n ∧ ofI n ≤ 4 := by
    apply Decidable.byContradiction; intro hc
    rw [sizeI_zero (by omega)] at h; omega
  refine ⟨?_, hk⟩
  unfold ofI at hk ⊢
  unfold sizeI
  omega
theorem fast_alc (si : SI S) (m0 : 0 ≤ S.md) {t n : Int} (hb : fastB S t n = true) : ∃ z m : Nat, n = m ∧ fastV S t n = some (z : Int) ∧ Alc S (fastS S t n) z m ∧ (fastS S t n).C.ks = S.C.ks ∧ S.M t (ofI n) = some ((z / 32 : Nat) : Int) := by
  have hb' := hb
  unfold fastB at hb'
  rw [Bool.and_eq_true, Bool.not_eq_true', beq_eq_false_iff_ne] at hb'
  obtain ⟨hs, h0⟩ := hb'
  obtain ⟨h1, k1, k4⟩ := small_size hs
  obtain ⟨n0, n1⟩ := small_bd hs
  obtain ⟨m, rfl⟩ := Int.eq_ofNat_of_zero_le n0
  cases hM : S.M t (ofI m) with
  | none =>
    refine absurd ?_ h0
    have e : kindL S.C.ks (pageOf S t m) = -1 := by
      unfold pageOf pageM kindL
      rw [hM]
      exact if_pos (.inl (by decide))
    unfold leftL
    rw [e]
    exact if_neg (by decide)
  | some p =>
    obtain ⟨q, rfl, hq, hk, -⟩ := si.own t _ p hM
    have hp : pageOf S t m = (q : Int) := by unfold pageOf pageM; rw [hM]; rfl
    rw [hp] at h0
    obtain ⟨z, hz, hz2, hA, hK⟩ := take_alc si m0 hq h0 (n := m) (by rw [hk]; exact h1)
    refine ⟨z, m, rfl, ?_, ?_⟩
    · unfold fastV; rw [if_pos hb, hp, Int.toNat_natCast, hz]
    · unfold fastS
      rw [if_pos hb, hp, Int.toNat_natCast, hz2]
      rw [hz] at hA hK ⊢
      exact ⟨hA, hK, rfl⟩
end
end Go.Proofs.YtjoejjhgneccgaaGreat
