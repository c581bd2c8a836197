/- A store's objects: what begins at an address (plain). -/
import Derived.Test.YtjoejjhgneccgaaGreatDoorQTN09
import Derived.Test.YtjoejjhgneccgaaGreatDoorQTN16
namespace Go.Proofs.YtjoejjhgneccgaaGreatDoor
open Go.RowKit

/-- A word's value. -/
def rdW (x : Int) : Int × Int := if x % 2 = 1 then (1, x / 2) else if x = 0 then (0, 0) else (2, x / 2 - 1)
theorem rdW_put {k n : Int} (h : checkV k n = 0) : rdW (putW k n) = (k, n) := by
  rcases check_ok h with ⟨rfl, rfl⟩ | ⟨rfl, -, -⟩ | ⟨rfl, h1, -⟩
  · rfl
  · have e : putW 1 n = 2 * n + 1 := rfl
    rw [e]
    unfold rdW
    rw [if_pos (by omega)]
    exact Prod.ext rfl (by show (2 * n + 1) / 2 = n; omega)
  · have e : putW 2 n = 2 * n + 2 := rfl
    rw [e]
    unfold rdW
    rw [if_neg (by omega), if_neg (by omega)]
    exact Prod.ext rfl (by show (2 * n + 2) / 2 - 1 = n; omega)
theorem Kept.refl {C : Cs} {a : Nat} (h : a ∈ bitsN C.ws) : Kept C C a := ⟨h, rfl, rfl, fun _ _ _ => rfl⟩
theorem Kept.trans {C C1 C2 : Cs} {a : Nat} (h : Kept C C1 a) (h2 : Kept C1 C2 a) : Kept C C2 a :=
  ⟨h2.at_, h2.end_.trans h.end_, h2.kd.trans h.kd, fun x h1 h3 => (h2.xs x h1 (by rw [h.end_]; exact h3)).trans (h.xs x h1 h3)⟩
/-- An object: its first word, and its fields. -/
structure Ob (C : Cs) (md : Int) (a : Nat) : Prop where
  hd : ∃ s n : Nat, (s : Int) < md ∧ n ≤ 127 ∧ C.xs.getD a 0 = (s : Int) * 128 + n ∧ a + 1 + n ≤ endN C a
  fd : ∀ x, a < x → x < endN C a → ∃ k v, checkV k v = 0 ∧ C.xs.getD x 0 = putW k v
def serN (C : Cs) (a : Nat) : Nat := (C.xs.getD a 0 / 128).toNat
def lenN (C : Cs) (a : Nat) : Nat := (C.xs.getD a 0 % 128).toNat
def fldN (C : Cs) (a i : Nat) : Int × Int := rdW (C.xs.getD (a + 1 + i) 0)
def objN (C : Cs) (a : Nat) : Nat × List (Int × Int) := (serN C a, (List.range (lenN C a)).map (fldN C a))
section
variable {C C' : Cs} {md md' : Int} {a : Nat} {F : Nat → List Int}
theorem Ob.at_ (h : Ob C md a) : (serN C a : Int) < md ∧ lenN C a ≤ 127 ∧ C.xs.getD a 0 = (serN C a : Int) * 128 + lenN C a ∧ a + 1 + lenN C a ≤ endN C a := by
  obtain ⟨s, n, h1, h2, h3, h4⟩ := h.hd
  have e1 : serN C a = s := by unfold serN; rw [h3]; omega
  have e2 : lenN C a = n := by unfold lenN; rw [h3]; omega
  rw [e1, e2]
  exact ⟨h1, h2, h3, h4⟩
theorem Ob.keep (h : Ob C md a) (hk : Kept C C' a) (hm : md ≤ md') : Ob C' md' a := by
  obtain ⟨s, n, h1, h2, h3, h4⟩ := h.hd
  refine ⟨⟨s, n, by omega, h2, by rw [hk.xs a (Nat.le_refl _) (by omega)]; exact h3, by rw [hk.end_]; exact h4⟩, fun x hx1 hx2 => ?_⟩
  rw [hk.end_] at hx2
  rw [hk.xs x (by omega) hx2]
  exact h.fd x hx1 hx2
theorem obj_keep (h : Ob C md a) (hk : Kept C C' a) : objN C' a = objN C a := by
  obtain ⟨-, -, -, h4⟩ := h.at_
  have e0 := hk.xs a (Nat.le_refl _) (by omega)
  have e1 : serN C' a = serN C a := by unfold serN; rw [e0]
  have e2 : lenN C' a = lenN C a := by unfold lenN; rw [e0]
  unfold objN
  rw [e1, e2]
  congr 1
  refine List.map_congr_left fun i hi => ?_
  have := List.mem_range.1 hi
  unfold fldN
  rw [hk.xs _ (by omega) (by omega)]
theorem storeC_in (h : Inv C F) {z x : Nat} (hz : z ∈ bitsN C.ws) (h1 : z ≤ x) (h2 : x < endN C z) (v : Int) : storeC C (x : Int) v = { C with xs := putL C.xs x v } := by
  unfold storeC
  rw [if_pos (by rw [base_in h hz (by omega) (by omega)]; omega)]
theorem store_kept (h : Inv C F) {z x : Nat} (hz : z ∈ bitsN C.ws) (h1 : z ≤ x) (h2 : x < endN C z) (v : Int) : ∀ b ∈ bitsN C.ws, b ≠ z → Kept C { C with xs := putL C.xs x v } b := fun b hb hne =>
  ⟨hb, rfl, rfl, fun y y1 y2 => by
    have hy := (pages_in h hb y1 y2).1
    have := h.len
    show (putL C.xs x v).getD y 0 = _
    rw [putL_get (by omega), if_neg]
    intro e
    rcases apart_ne h hb hz hne y1 y2 with h3 | h3 <;> omega⟩
/-- An object begins where nothing but zeros lies. -/
theorem ob_begin (h : Inv C F) {z n : Nat} (hz : z ∈ bitsN C.ws) (m0 : 0 ≤ md) (hn : n ≤ 127) (he : z + 1 + n ≤ endN C z) (h0 : ∀ x, z ≤ x → x < endN C z → C.xs.getD x 0 = 0) (hC : C' = storeC C z (md * 128 + n)) :
    Inv C' F ∧ C'.ws = C.ws ∧ C'.ks = C.ks ∧ Ob C' (md + 1) z ∧ objN C' z = (md.toNat, List.replicate n (0, 0)) ∧ ∀ b ∈ bitsN C.ws, b ≠ z → Kept C C' b := by
  rw [storeC_in h hz (Nat.le_refl _) (by omega)] at hC
  subst hC
  have hpl := (pages_in h hz (x := endN C z - 1) (by omega) (by omega)).1
  have hlen := h.len
  have hx : ∀ y, y < endN C z → (putL C.xs z (md * 128 + n)).getD y 0 = if y = z then md * 128 + n else C.xs.getD y 0 := fun y hy => by
    rw [putL_get (by omega)]
    by_cases e : y = z
    · rw [if_pos e, if_pos (by omega)]
    · rw [if_neg e, if_neg (by omega)]
  have hz0 : (putL C.xs z (md * 128 + n)).getD z 0 = md * 128 + n := by rw [hx z (by omega), if_pos rfl]
  obtain ⟨m, rfl⟩ := Int.eq_ofNat_of_zero_le m0
  refine ⟨inv_store h hz (Nat.le_refl _) (by omega) _, rfl, rfl, ⟨⟨m, n, by omega, hn, hz0, he⟩, fun x h1 h2 => ⟨0, 0, rfl, ?_⟩⟩, ?_, store_kept h hz (Nat.le_refl _) (by omega) _⟩
  · exact (hx x h2).trans (by rw [if_neg (by omega), h0 x (by omega) h2]; rfl)
  · have e1 : serN { C with xs := putL C.xs z ((m : Int) * 128 + n) } z = m := by unfold serN; rw [hz0]; omega
    have e2 : lenN { C with xs := putL C.xs z ((m : Int) * 128 + n) } z = n := by unfold lenN; rw [hz0]; omega
    unfold objN
    rw [e1, e2, Int.toNat_natCast]
    congr 1
    refine List.eq_replicate_iff.2 ⟨by simp, fun b hb => ?_⟩
    obtain ⟨i, hi, rfl⟩ := List.mem_map.1 hb
    have := List.mem_range.1 hi
    unfold fldN
    rw [hx _ (by omega), if_neg (by omega), h0 _ (by omega) (by omega)]
    rfl
/-- A field is set. -/
theorem ob_set (h : Inv C F) (ha : a ∈ bitsN C.ws) (ob : Ob C md a) {i : Nat} (hi : i < lenN C a) {k n : Int} (hv : checkV k n = 0) (hC : C' = storeC C ((a + 1 + i : Nat) : Int) (putW k n)) :
    Inv C' F ∧ C'.ws = C.ws ∧ C'.ks = C.ks ∧ Ob C' md a ∧ objN C' a = ((objN C a).1, (objN C a).2.set i (k, n)) ∧ ∀ b ∈ bitsN C.ws, b ≠ a → Kept C C' b := by
  obtain ⟨a1, a2, a3, a4⟩ := ob.at_
  rw [storeC_in h ha (by omega) (by omega)] at hC
  subst hC
  have hpl := (pages_in h ha (x := endN C a - 1) (by omega) (by omega)).1
  have hlen := h.len
  have hx : ∀ y, y < endN C a → (putL C.xs ((a + 1 + i : Nat) : Int) (putW k n)).getD y 0 = if y = a + 1 + i then putW k n else C.xs.getD y 0 := fun y hy => by
    rw [putL_get (by omega)]
    by_cases e : y = a + 1 + i
    · rw [if_pos e, if_pos (by omega)]
    · rw [if_neg e, if_neg (by omega)]
  have h0 : (putL C.xs ((a + 1 + i : Nat) : Int) (putW k n)).getD a 0 = C.xs.getD a 0 := by rw [hx a (by omega), if_neg (by omega)]
  refine ⟨inv_store h ha (by omega) (by omega) _, rfl, rfl, ⟨⟨serN C a, lenN C a, a1, a2, h0.trans a3, a4⟩, fun x h1 h2 => ?_⟩, ?_, store_kept h ha (by omega) (by omega) _⟩
  · show ∃ k' v, checkV k' v = 0 ∧ (putL C.xs ((a + 1 + i : Nat) : Int) (putW k n)).getD x 0 = putW k' v
    rw [hx x h2]
    split
    · exact ⟨k, n, hv, rfl⟩
    · exact ob.fd x h1 h2
  · have e1 : serN { C with xs := putL C.xs ((a + 1 + i : Nat) : Int) (putW k n) } a = serN C a := by unfold serN; rw [h0]
    have e2 : lenN { C with xs := putL C.xs ((a + 1 + i : Nat) : Int) (putW k n) } a = lenN C a := by unfold lenN; rw [h0]
    unfold objN
    rw [e1, e2]
    congr 1
    refine List.ext_getElem (by simp) fun j h1 h2 => ?_
    have hj : j < lenN C a := by simpa using h1
    rw [List.getElem_map, List.getElem_range, List.getElem_set]
    unfold fldN
    rw [hx _ (by omega)]
    by_cases e : i = j
    · subst e
      rw [if_pos rfl, if_pos rfl, rdW_put hv]
    · rw [if_neg (by omega), if_neg e, List.getElem_map, List.getElem_range]
end
end Go.Proofs.YtjoejjhgneccgaaGreatDoor

/- A store: has an object a field. -/
namespace Go.Proofs.YtjoejjhgneccgaaGreatDoor
open Go.RowKit

section
variable {w w' : World} {b : Sl} {S : Sm}
def fieldB (S : Sm) (a i : Int) : Bool := decide (0 ≤ i) && decide (i < (readV S a).2)
theorem shas_any (h : StX w b S) (a i : Int) :
    Calls Tryz.prog 94 #[.pointer (some ⟨b.s, 0, none⟩), .int .i64 a, .int .i64 i] w fun e w' => e = .returned (.bool (fieldB S a i)) ∧ w = w' := by
  have H := Lib.hid h
  clear h
  by_cases h0 : 0 ≤ i
  · have d0 : decide (0 ≤ i) = true := by simpa using h0
    have HF := Lib.hid (show fieldB S a i = decide (i < (readV S a).2) by unfold fieldB; rw [d0, Bool.true_and])
    clear h0
    go_enter Tryz.func94, Tryz.ntmps94
    go_wp2_with (go_at_call 44; refine (sfields_any H.out a).mono ?_; rintro e w1 ⟨rfl, rfl⟩)
    go_ret
    exact ⟨ret_bool HF.out.symm, rfl⟩
  · have d0 : decide (0 ≤ i) = false := by simpa using h0
    have HF := Lib.hid (show fieldB S a i = false by unfold fieldB; rw [d0, Bool.false_and])
    clear h0
    go_enter Tryz.func94, Tryz.ntmps94
    go_wp2_with fail
    go_ret
    exact ⟨ret_bool HF.out.symm, rfl⟩
end
end Go.Proofs.YtjoejjhgneccgaaGreatDoor

/- A store: a field is set. -/
namespace Go.Proofs.YtjoejjhgneccgaaGreatDoor
open Go.RowKit

section
variable {w w' : World} {b : Sl} {S : Sm}
/-- A field is set, where it may be. -/
def mayB (S : Sm) (a i k n : Int) : Bool := (checkV k n == 0) && fieldB S a i
def addr (a i : Int) : Int := IntKind.i64.wrap (IntKind.i64.wrap (a + 1) + i)
def setB (S : Sm) (a i k n : Int) : Bool := mayB S a i k n && storeB S.C (addr a i)
def setS (S : Sm) (a i k n : Int) : Sm := if mayB S a i k n = true then { S with C := storeC S.C (addr a i) (putW k n) } else S
theorem SI.set (si : SI S) (a i k n : Int) : SI (setS S a i k n) := by
  obtain ⟨F, hi⟩ := si.inv
  unfold setS
  split
  · exact si.withK ⟨F, inv_storeC hi _ _⟩ (by rw [storeC_ks]) (fun _ _ _ _ _ => by rw [storeC_ks])
  · exact si
end
end Go.Proofs.YtjoejjhgneccgaaGreatDoor

/- A store's objects: made, set, gone (plain). -/
namespace Go.Proofs.YtjoejjhgneccgaaGreatDoor
open Go.RowKit

/-- What holds of a store and its objects behind each call. -/
structure SJ (S : Sm) : Prop where
  si : SI S
  m0 : 0 ≤ S.md
  m1 : S.md ≤ 1000000
  ob : ∀ a ∈ bitsN S.C.ws, Ob S.C S.md a
theorem split_head {s n : Nat} (h : s < 1000000) (hn : n ≤ 127) : splitV ((s : Int) * 128 + n) = ((s : Int), (n : Int), true) := by
  have e1 : quoW ((s : Int) * 128 + n) = s := by
    unfold quoW
    rw [Int.tdiv_eq_ediv_of_nonneg (by omega), IntKind.wrap_i64]
    omega
  have e2 : ((s : Int) * 128 + n).tmod 128 = n := by rw [Int.tmod_eq_emod_of_nonneg (by omega)]; omega
  unfold splitV
  rw [if_neg (by rw [e1]; omega), e1, e2]
section
variable {S S' : Sm}
theorem SJ.has (h : SJ S) (x : Int) : hasO S x = true ↔ ∃ a : Nat, x = a ∧ a ∈ bitsN S.C.ws := by
  obtain ⟨F, hi⟩ := h.si.inv
  unfold hasO
  rw [has_iff hi, decide_eq_true_eq, mem_bitsI]
  exact ⟨fun ⟨a, h1, h2⟩ => ⟨a, h2, h1⟩, fun ⟨a, h1, h2⟩ => ⟨a, h2, h1⟩⟩
theorem SJ.lt (h : SJ S) {a : Nat} (ha : a ∈ bitsN S.C.ws) : a < 32 * S.C.ks.length ∧ a < 2048 := by
  obtain ⟨F, hi⟩ := h.si.inv
  have := (bits_lt hi ha).1
  have := hi.le
  omega
theorem SJ.read (h : SJ S) {a : Nat} (ha : a ∈ bitsN S.C.ws) : readV S (a : Int) = ((serN S.C a : Int), (lenN S.C a : Int)) := by
  obtain ⟨F, hi⟩ := h.si.inv
  have hl := (bits_lt hi ha).1
  have hlen := hi.len
  obtain ⟨h1, h2, h3, -⟩ := (h.ob a ha).at_
  have hm := h.m1
  unfold readV
  rw [if_pos ((h.has _).2 ⟨a, rfl, ha⟩), loadV_yes (by omega), h3, split_head (by omega) h2]
theorem SJ.readNo (_h : SJ S) {x : Int} (hx : hasO S x = false) : readV S x = (-1, -1) := by
  unfold readV
  rw [hx]; rfl
theorem SJ.field (h : SJ S) {x i : Int} : fieldB S x i = true ↔ ∃ a j : Nat, x = a ∧ i = j ∧ a ∈ bitsN S.C.ws ∧ j < lenN S.C a := by
  unfold fieldB
  rw [Bool.and_eq_true, decide_eq_true_eq, decide_eq_true_eq]
  constructor
  · rintro ⟨h0, h1⟩
    cases hx : hasO S x with
    | false =>
      rw [h.readNo hx] at h1
      have h1' : i < -1 := h1
      omega
    | true =>
      obtain ⟨a, rfl, ha⟩ := (h.has x).1 hx
      obtain ⟨j, rfl⟩ := Int.eq_ofNat_of_zero_le h0
      rw [h.read ha] at h1
      exact ⟨a, j, rfl, rfl, ha, Int.ofNat_lt.1 h1⟩
  · rintro ⟨a, j, rfl, rfl, ha, hj⟩
    rw [h.read ha]
    exact ⟨by omega, Int.ofNat_lt.2 hj⟩
theorem addr_nat {S : Sm} (h : SJ S) {a j : Nat} (ha : a ∈ bitsN S.C.ws) (hj : j < lenN S.C a) : addr (a : Int) (j : Int) = ((a + 1 + j : Nat) : Int) := by
  have h1 := (h.lt ha).2
  have h2 := (h.ob a ha).at_.2.1
  unfold addr
  rw [IntKind.wrap_i64, IntKind.wrap_i64]
  omega
/-- An object was made. -/
structure Alc (S S' : Sm) (z n : Nat) : Prop where
  nw : z ∉ bitsN S.C.ws
  mem : ∀ a, a ∈ bitsN S'.C.ws ↔ a = z ∨ a ∈ bitsN S.C.ws
  kept : ∀ a ∈ bitsN S.C.ws, Kept S.C S'.C a
  ob : Ob S'.C S'.md z
  obj : objN S'.C z = (S.md.toNat, List.replicate n (0, 0))
  md : S'.md = S.md + 1
theorem SJ.alc (h : SJ S) {z n : Nat} (hN : Alc S S' z n) (si : SI S') (m : S.md < 1000000) : SJ S' :=
  ⟨si, by rw [hN.md]; have := h.m0; omega, by rw [hN.md]; omega, fun a ha => by
    rcases (hN.mem a).1 ha with rfl | hb
    · exact hN.ob
    · exact (h.ob a hb).keep (hN.kept a hb) (by rw [hN.md]; omega)⟩
theorem Alc.old {z n : Nat} (h : Alc S S' z n) (hj : SJ S) {a : Nat} (ha : a ∈ bitsN S.C.ws) : objN S'.C a = objN S.C a := obj_keep (hj.ob a ha) (h.kept a ha)
/-- .. in what was taken. -/
theorem alc_of {S S1 : Sm} {F : Nat → List Int} {z n : Nat} (hi : Inv S1.C F) (m0 : 0 ≤ S.md) (hmd : S1.md = S.md) (nw : z ∉ bitsN S.C.ws) (mem : ∀ a, a ∈ bitsN S1.C.ws ↔ a = z ∨ a ∈ bitsN S.C.ws) (kept : ∀ a ∈ bitsN S.C.ws, Kept S.C S1.C a)
    (hn : n ≤ 127) (he : z + 1 + n ≤ endN S1.C z) (h0 : ∀ x, z ≤ x → x < endN S1.C z → S1.C.xs.getD x 0 = 0) : Alc S (S1.begin z n) z n ∧ (S1.begin z n).C.ks = S1.C.ks := by
  obtain ⟨-, b2, b3, b4, b5, b6⟩ := ob_begin (C' := (S1.begin z n).C) hi ((mem z).2 (.inl rfl)) (md := S1.md) (by rw [hmd]; exact m0) hn he h0 rfl
  refine ⟨⟨nw, fun a => by rw [b2]; exact mem a, fun a ha => ?_, b4, by rw [b5, hmd], by show S1.md + 1 = _; rw [hmd]⟩, b3⟩
  exact (kept a ha).trans (b6 a ((mem a).2 (.inr ha)) fun e => nw (e ▸ ha))
/-- From a page's free cells. -/
theorem take_alc (si : SI S) (m0 : 0 ≤ S.md) {q n : Nat} (hq : q < S.C.ks.length) (h0 : leftL S.C q ≠ 0) (hn : (n : Int) + 1 ≤ sizeI (S.C.ks.getD q 0)) :
    ∃ z : Nat, cellA S.C q = z ∧ z / 32 = q ∧ Alc S ((takeS S q).begin (cellA S.C q) n) z n ∧ ((takeS S q).begin (cellA S.C q) n).C.ks = S.C.ks := by
  obtain ⟨F, hi⟩ := si.inv
  have hk : 1 ≤ S.C.ks.getD q 0 ∧ S.C.ks.getD q 0 ≤ 4 := by
    apply Decidable.byContradiction; intro hc
    rw [sizeI_zero (by omega)] at hn; omega
  have hs := sizeI_pos hk
  obtain ⟨-, h2, -⟩ := hi.ln q hq hk.1 hk.2
  cases hF : F q with
  | nil =>
    rw [hF] at h2
    exact absurd (by unfold leftL; rw [kindL_in hq, if_pos (by omega)]; simpa using h2) h0
  | cons f l =>
    obtain ⟨g, ht, hl⟩ := take_ok hi hq hk.1 hk.2 hF
    have e1 : (S.C.ch.getD q (0, 0)).1 = f := by rw [ht.ch]
    have e2 : (S.C.ch.getD q (0, 0)).2 = (l.length : Int) + 1 := by rw [ht.ch]
    have eA : cellA S.C q = cad q (S.C.ks.getD q 0) f := by unfold cellA; rw [e1]
    have eT : (takeS S q) = { S with C := takeC S.C q (S.C.ks.getD q 0) f ((l.length : Int) + 1) (-1 - g) } := by
      unfold takeS Sm.take
      rw [e1, e2, ht.wd]
    have hz := (cad_page (p := q) hk ht.f0 ht.f1).2.2
    obtain ⟨t1, t2, t3, t4, t5, t6, t7⟩ := take_kept hi hq hk.1 hk.2 hF ht hl _ rfl _ rfl
    have hv := inv_take hi hq hk.1 hk.2 hF ht hl
    obtain ⟨z, ez⟩ : ∃ z, z = (cad q (S.C.ks.getD q 0) f).toNat := ⟨_, rfl⟩
    rw [← ez] at hz t1 t2 t4 t5 t7
    have hAl := alc_of (S := S) (S1 := { S with C := takeC S.C q (S.C.ks.getD q 0) f ((l.length : Int) + 1) (-1 - g) }) (z := z) (n := n) hv m0 rfl t1 t2 t3 (by omega) (by rw [t4]; omega) t7
    refine ⟨z, by rw [eA]; exact hz.symm, t5, ?_⟩
    rw [eA, ← hz, eT]
    exact ⟨hAl.1, hAl.2.trans t6⟩
theorem small_size {n : Int} (h : smallB n = true) : n + 1 ≤ sizeI (ofI n) ∧ 1 ≤ ofI n ∧ ofI n ≤ 4 := by
  have h2 := small_bd h
  unfold smallB at h
  rw [decide_eq_true_eq] at h
  have hk : 1 ≤ ofI n ∧ ofI n ≤ 4 := by
    apply Decidable.byContradiction; intro hc
    rw [sizeI_zero (by omega)] at h; omega
  refine ⟨?_, hk⟩
  unfold ofI at hk ⊢
  unfold sizeI
  omega
theorem fast_alc (si : SI S) (m0 : 0 ≤ S.md) {t n : Int} (hb : fastB S t n = true) : ∃ z m : Nat, n = m ∧ fastV S t n = some (z : Int) ∧ Alc S (fastS S t n) z m ∧ (fastS S t n).C.ks = S.C.ks ∧ S.M t (ofI n) = some ((z / 32 : Nat) : Int) := by
  have hb' := hb
  unfold fastB at hb'
  rw [Bool.and_eq_true, Bool.not_eq_true', beq_eq_false_iff_ne] at hb'
  obtain ⟨hs, h0⟩ := hb'
  obtain ⟨h1, k1, k4⟩ := small_size hs
  obtain ⟨n0, n1⟩ := small_bd hs
  obtain ⟨m, rfl⟩ := Int.eq_ofNat_of_zero_le n0
  cases hM : S.M t (ofI m) with
  | none =>
    refine absurd ?_ h0
    have e : kindL S.C.ks (pageOf S t m) = -1 := by
      unfold pageOf pageM kindL
      rw [hM]
      exact if_pos (.inl (by decide))
    unfold leftL
    rw [e]
    exact if_neg (by decide)
  | some p =>
    obtain ⟨q, rfl, hq, hk, -⟩ := si.own t _ p hM
    have hp : pageOf S t m = (q : Int) := by unfold pageOf pageM; rw [hM]; rfl
    rw [hp] at h0
    obtain ⟨z, hz, hz2, hA, hK⟩ := take_alc si m0 hq h0 (n := m) (by rw [hk]; exact h1)
    refine ⟨z, m, rfl, ?_, ?_⟩
    · unfold fastV; rw [if_pos hb, hp, Int.toNat_natCast, hz]
    · unfold fastS
      rw [if_pos hb, hp, Int.toNat_natCast, hz2]
      rw [hz] at hA hK ⊢
      exact ⟨hA, hK, rfl⟩
end
end Go.Proofs.YtjoejjhgneccgaaGreatDoor

/- A store's objects: wherever there is room; set; gone; pages given up (plain). -/
namespace Go.Proofs.YtjoejjhgneccgaaGreatDoor
open Go.RowKit

section
variable {S S' S1 S2 : Sm}
/-- The objects are as they were. -/
structure Sam (S S' : Sm) : Prop where
  mem : ∀ a, a ∈ bitsN S'.C.ws ↔ a ∈ bitsN S.C.ws
  kept : ∀ a ∈ bitsN S.C.ws, Kept S.C S'.C a
  md : S'.md = S.md
theorem Sam.refl (S : Sm) : Sam S S := ⟨fun _ => Iff.rfl, fun _ ha => Kept.refl ha, rfl⟩
theorem Sam.trans (h : Sam S S1) (h2 : Sam S1 S2) : Sam S S2 := ⟨fun a => (h2.mem a).trans (h.mem a), fun a ha => (h.kept a ha).trans (h2.kept a ((h.mem a).2 ha)), h2.md.trans h.md⟩
theorem SJ.sam (h : SJ S) (hs : Sam S S') (si : SI S') : SJ S' :=
  ⟨si, by rw [hs.md]; exact h.m0, by rw [hs.md]; exact h.m1, fun a ha => (h.ob a ((hs.mem a).1 ha)).keep (hs.kept a ((hs.mem a).1 ha)) (by rw [hs.md]; omega)⟩
theorem Sam.obj (hs : Sam S S') (h : SJ S) {a : Nat} (ha : a ∈ bitsN S.C.ws) : objN S'.C a = objN S.C a := obj_keep (h.ob a ha) (hs.kept a ha)
theorem Alc.sam {z n : Nat} (h : Sam S S1) (h2 : Alc S1 S2 z n) : Alc S S2 z n :=
  ⟨fun hz => h2.nw ((h.mem z).2 hz), fun a => (h2.mem a).trans (or_congr Iff.rfl (h.mem a)), fun a ha => (h.kept a ha).trans (h2.kept a ((h.mem a).2 ha)), h2.ob, by rw [h2.obj, h.md], by rw [h2.md, h.md]⟩
theorem open_sam (si : SI S) (k : Int) : Sam S (openS S k) := by
  obtain ⟨F, hi⟩ := si.inv
  unfold openS
  split
  · exact Sam.refl S
  · cases ht : takeT S.C.ks k with
    | none =>
      have : carveC S.C k = S.C := by unfold carveC; rw [ht]
      rw [this]
      exact Sam.refl S
    | some p =>
      obtain ⟨h1, h2⟩ := carve_kept hi ht
      exact ⟨fun a => by show a ∈ bitsN (carveC S.C k).ws ↔ _; rw [h1], h2, rfl⟩
theorem got_sam (si : SI S) (t n : Int) (p : Nat) : Sam S (gotS S t n p) := by
  have h := open_sam si (ofI n)
  exact ⟨h.mem, h.kept, h.md⟩
/-- What was opened has room. -/
theorem open_left {k : Int} (k1 : 1 ≤ k) (k4 : k ≤ 4) (si : SI S) {p : Nat} (ho : openP S k = some p) : leftL (openS S k).C p ≠ 0 := by
  unfold openP at ho
  unfold openS
  cases hL : openL S k with
  | some q =>
    rw [hL] at ho
    obtain rfl : q = p := by simpa using ho
    unfold openL at hL
    have h1 := List.find?_some hL
    unfold openB at h1
    simp only [Bool.and_eq_true, decide_eq_true_eq] at h1
    have := h1.2
    show leftL S.C q ≠ 0
    omega
  | none =>
    rw [hL] at ho
    simp only at ho
    obtain ⟨F, hi⟩ := si.inv
    have hp : p < S.C.ks.length := by
      unfold takeT at ho
      split at ho
      · cases ho
      · exact idx0_lt ho
    have hle := hi.le
    have hc : carveC S.C k = { S.C with ks := S.C.ks.set p k, ch := S.C.ch.set p (0, cellsI k), xs := buildL S.C.xs p k } := by unfold carveC; rw [ho]
    show leftL (carveC S.C k) p ≠ 0
    rw [hc]
    unfold leftL
    have e : kindL (S.C.ks.set p k) p = k := by rw [kindL_in (by simpa using hp), getD_set_same hp]
    have hs := sizeI_pos ⟨k1, k4⟩
    have hcl := cellsI_pos ⟨k1, k4⟩
    show (if 0 < sizeI (kindL (S.C.ks.set p k) p) then ((S.C.ch.set p (0, cellsI k)).getD (p : Int).toNat (0, 0)).2 else 0) ≠ 0
    rw [e, if_pos (by omega), Int.toNat_natCast, getD_set_same (by rw [hi.chl]; omega)]
    show cellsI k ≠ 0
    omega
theorem inr_in {t n : Int} (hb : inRB S t n = true) : ofI n ≠ 0 ∧ 0 ≤ t ∧ t < S.th := by
  have hr := inR_of hb
  exact ⟨by simpa using hr.z0, by simpa using hr.z1, by simpa using hr.z2⟩
/-- A large one. -/
theorem large_alc (si : SI S) (m0 : 0 ≤ S.md) {n : Int} (h5 : ofI n = 5) {p : Nat} (hs : spanL S.C.ks (pagesI n) = some p) :
    ∃ m : Nat, n = m ∧ largeV S n = (((32 * p : Nat) : Int), 0) ∧ Alc S (largeS S n) (32 * p) m ∧ (largeS S n).C.ks = spanS S.C.ks p (pagesI n).toNat := by
  obtain ⟨F, hi⟩ := si.inv
  obtain ⟨n0, n1⟩ := five_bd h5
  obtain ⟨m, rfl⟩ := Int.eq_ofNat_of_zero_le n0
  obtain ⟨t1, t2, t3, t4, t5, t6, t7⟩ := large_kept hi hs _ rfl
  have hpg : pagesI m = ((m : Int) + 32) / 32 := by unfold pagesI; rw [if_pos h5]
  have hv := inv_large hi hs
  have hA := alc_of (S := S) (S1 := { S with C := largeC S.C (pagesI m) }) (z := 32 * p) (n := m) hv m0 rfl t1 t2 t3 (by omega) (by rw [t5]; omega) t7
  have e : ((p : Int) * 32) = ((32 * p : Nat) : Int) := by omega
  refine ⟨m, rfl, ?_, ?_⟩
  · unfold largeV; rw [hs, ← e]
  · unfold largeS; rw [hs]; simp only [e]
    exact ⟨hA.1, hA.2.trans t4⟩
/-- What Slow comes to. -/
theorem slow_cases (si : SI S) (m0 : 0 ≤ S.md) (t n : Int) :
    (∃ z m : Nat, n = m ∧ inRB S t n = true ∧ slowV S t n = ((z : Int), 0) ∧ Alc S (slowS S t n) z m) ∨ (slowS S t n = S ∧ ((slowV S t n = (0, 4) ∧ inRB S t n = false) ∨ (slowV S t n = (0, 10) ∧ inRB S t n = true))) := by
  unfold slowV slowS
  cases hb : inRB S t n with
  | false => exact .inr ⟨rfl, .inl ⟨rfl, rfl⟩⟩
  | true =>
    obtain ⟨q0, q1, q2⟩ := inr_in hb
    have hbd := ofI_bd n
    rw [if_neg (show ¬ true = false by decide), if_neg (show ¬ true = false by decide)]
    by_cases h5 : ofI n = 5
    · rw [if_pos h5, if_pos h5]
      cases hs : spanL S.C.ks (pagesI n) with
      | none =>
        refine .inr ⟨by unfold largeS; rw [hs], .inr ⟨by unfold largeV; rw [hs], rfl⟩⟩
      | some p =>
        obtain ⟨m, e, h1, h2, -⟩ := large_alc si m0 h5 hs
        exact .inl ⟨_, m, e, rfl, h1, h2⟩
    · rw [if_neg h5, if_neg h5]
      have k1 : 1 ≤ ofI n := by omega
      have k4 : ofI n ≤ 4 := by omega
      unfold smallV smallS
      cases hv : fastV S t n with
      | some v =>
        have hf : fastB S t n = true := by
          unfold fastV at hv
          split at hv
          · assumption
          · cases hv
        obtain ⟨z, m, e, h1, h2, -⟩ := fast_alc si m0 hf
        rw [h1] at hv
        obtain rfl : (z : Int) = v := by simpa using hv
        exact .inl ⟨z, m, e, rfl, rfl, h2⟩
      | none =>
        simp only
        cases ho : openP S (ofI n) with
        | none => exact .inr ⟨rfl, .inr ⟨rfl, trivial⟩⟩
        | some p =>
          simp only
          have hg := got_si si q1 q2 k1 k4 ho
          have hs := got_sam si t n p
          have hf : fastB (gotS S t n p) t n = true := by
            unfold fastB
            rw [Bool.and_eq_true]
            refine ⟨?_, ?_⟩
            · unfold smallB
              have := sizeI_pos ⟨k1, k4⟩
              simp; omega
            · have hp : pageOf (gotS S t n p) t n = (p : Int) := by
                unfold pageOf pageM
                show (updM (openS S (ofI n)).M t (ofI n) (some (p : Int)) t (ofI n)).getD (-1) = _
                rw [updM_same]; rfl
              have hl := open_left k1 k4 si ho
              rw [hp]
              show (!(leftL (openS S (ofI n)).C p == 0)) = true
              simpa using hl
          have m0' : 0 ≤ (gotS S t n p).md := by rw [hs.md]; exact m0
          obtain ⟨z, m, e, h1, h2, -⟩ := fast_alc hg.1 m0' hf
          refine .inl ⟨z, m, e, trivial, ?_, h2.sam hs⟩
          rw [h1]; rfl
theorem SJ.slow (h : SJ S) (m : S.md < 1000000) (t n : Int) : SJ (slowS S t n) := by
  rcases slow_cases h.si h.m0 t n with ⟨z, k, -, -, -, hA⟩ | ⟨e, -⟩
  · exact h.alc hA (h.si.slow t n) m
  · rw [e]; exact h
theorem SJ.fast (h : SJ S) (m : S.md < 1000000) (t n : Int) : SJ (fastS S t n) := by
  cases hb : fastB S t n with
  | false => unfold fastS; rw [hb]; exact h
  | true =>
    obtain ⟨z, k, -, -, hA, -⟩ := fast_alc h.si h.m0 hb
    exact h.alc hA (h.si.fast t n) m
/-- A field is set. -/
structure Put (S S' : Sm) (a j : Nat) (k n : Int) : Prop where
  ws : S'.C.ws = S.C.ws
  ks : S'.C.ks = S.C.ks
  kept : ∀ b ∈ bitsN S.C.ws, b ≠ a → Kept S.C S'.C b
  obj : objN S'.C a = ((objN S.C a).1, (objN S.C a).2.set j (k, n))
  md : S'.md = S.md
  M : S'.M = S.M
  th : S'.th = S.th
theorem SJ.set (h : SJ S) {a j : Nat} (ha : a ∈ bitsN S.C.ws) (hj : j < lenN S.C a) {k n : Int} (hv : checkV k n = 0) :
    setB S a j k n = true ∧ SJ (setS S a j k n) ∧ Put S (setS S a j k n) a j k n := by
  obtain ⟨F, hi⟩ := h.si.inv
  have hA := addr_nat h ha hj
  have hm : mayB S a j k n = true := by
    unfold mayB
    rw [hv, h.field.2 ⟨a, j, rfl, rfl, ha, hj⟩]; rfl
  have hS : setS S a j k n = { S with C := storeC S.C ((a + 1 + j : Nat) : Int) (putW k n) } := by unfold setS; rw [if_pos hm, hA]
  have hob := h.ob a ha
  obtain ⟨h1, h2, h3, h4, h5, h6⟩ := ob_set hi ha hob hj hv (C' := storeC S.C ((a + 1 + j : Nat) : Int) (putW k n)) rfl
  have hat := hob.at_
  refine ⟨?_, ?_, ?_⟩
  · unfold setB
    rw [hm, hA, Bool.true_and]
    unfold storeB
    rw [Bool.and_eq_true, decide_eq_true_eq, base_in hi ha (by omega) (by omega)]
    refine ⟨by omega, ?_⟩
    have := (pages_in hi ha (x := a + 1 + j) (by omega) (by omega)).1
    have := hi.len
    unfold fitB
    simp; omega
  · have hsi : SI (setS S a j k n) := h.si.set _ _ _ _
    rw [hS] at hsi ⊢
    refine ⟨hsi, h.m0, h.m1, fun b hb => ?_⟩
    have hb' : b ∈ bitsN S.C.ws := by rw [← h2]; exact hb
    by_cases e : b = a
    · subst e; exact h4
    · exact (h.ob b hb').keep (h6 b hb' e) (Int.le_refl _)
  · rw [hS]
    exact ⟨h2, h3, h6, h5, rfl, rfl, rfl⟩
theorem set_no {a i k n : Int} (hm : mayB S a i k n = false) : setB S a i k n = false ∧ setS S a i k n = S := by
  unfold setB setS
  rw [hm]
  exact ⟨rfl, rfl⟩
/-- An object is gone. -/
structure Gon (S S' : Sm) (a : Nat) : Prop where
  mem : ∀ b, b ∈ bitsN S'.C.ws ↔ b ≠ a ∧ b ∈ bitsN S.C.ws
  kept : ∀ b ∈ bitsN S.C.ws, b ≠ a → Kept S.C S'.C b
  md : S'.md = S.md
  M : S'.M = S.M
  th : S'.th = S.th
theorem SJ.free (h : SJ S) {a : Nat} (ha : a ∈ bitsN S.C.ws) : SJ (freeS S a) ∧ Gon S (freeS S a) a := by
  obtain ⟨F, hi⟩ := h.si.inv
  obtain ⟨hl, ht⟩ := bits_lt hi ha
  have hb := has_of hi ha
  have hG : Gon S (freeS S a) a := by
    have key : ∀ C', C' = giveD S.C a → (∀ b, b ∈ bitsN C'.ws ↔ b ≠ a ∧ b ∈ bitsN S.C.ws) ∧ (∀ b ∈ bitsN S.C.ws, b ≠ a → Kept S.C C' b) := by
      intro C' hC
      rw [hC]
      unfold giveD
      rcases tk_cases ht with ⟨k1, k4, hal, hn⟩ | ⟨h5, h0⟩
      · rw [if_neg (by omega)]
        exact give_kept hi ha (giveS S.C a (a / 32) (S.C.ks.getD (a / 32) 0) ((a : Int) % 32 / sizeI (S.C.ks.getD (a / 32) 0)) (S.C.ch.getD (a / 32) (0, 0)).1 (S.C.ch.getD (a / 32) (0, 0)).2) rfl (by unfold giveS; exact remL_off hb) (fun x hx hne => by
          have hc := aligned ⟨k1, k4⟩ hal
          show (putL S.C.xs _ _).getD x 0 = _
          rw [← hc, putL_get hx, if_neg (by omega)])
      · rw [if_pos h5]
        obtain ⟨e1, e2, -⟩ := giveL_kept hi ha h5
        exact ⟨e1, e2⟩
    obtain ⟨k1, k2⟩ := key _ rfl
    have hS : freeS S a = { S with C := giveD S.C a } := by unfold freeS giveC; rw [if_pos hb, Int.toNat_natCast]
    rw [hS]
    exact ⟨k1, k2, rfl, rfl, rfl⟩
  exact ⟨⟨h.si.free a, by rw [hG.md]; exact h.m0, by rw [hG.md]; exact h.m1, fun b hb2 => by
    obtain ⟨h1, h2⟩ := (hG.mem b).1 hb2
    exact (h.ob b h2).keep (hG.kept b h2 h1) (by rw [hG.md]; omega)⟩, hG⟩
theorem Gon.obj {a b : Nat} (hg : Gon S S' a) (h : SJ S) (hb : b ∈ bitsN S.C.ws) (hne : b ≠ a) : objN S'.C b = objN S.C b := obj_keep (h.ob b hb) (hg.kept b hb hne)
theorem Put.other {a b j : Nat} {k n : Int} (hp : Put S S' a j k n) (h : SJ S) (hb : b ∈ bitsN S.C.ws) (hne : b ≠ a) : objN S'.C b = objN S.C b := obj_keep (h.ob b hb) (hp.kept b hb hne)
theorem free_no {x : Int} (hx : hasO S x = false) : freeS S x = S := by
  unfold freeS giveC
  unfold hasO at hx
  rw [hx]; rfl
/-- A page is dropped, where nothing is taken. -/
def dropOk (C : Cs) (p : Int) : Bool := decide (0 < sizeI (kindL C.ks p)) && decide (cellsI (kindL C.ks p) ≤ leftL C p)
def dropC (C : Cs) (p : Int) : Cs := if dropOk C p = true then { C with ks := freeL C.ks p } else C
theorem SI.drop (h : SI S) {p : Int} (hn : ownB S.M p = false) : SI { S with C := dropC S.C p } ∧ Sam S { S with C := dropC S.C p } := by
  unfold dropC
  split
  · rename_i hd
    obtain ⟨F, hi⟩ := h.inv
    unfold dropOk at hd
    rw [Bool.and_eq_true, decide_eq_true_eq, decide_eq_true_eq] at hd
    obtain ⟨hs, hl⟩ := hd
    obtain ⟨p0, p1⟩ := small_in hs
    obtain ⟨q, rfl⟩ := Int.eq_ofNat_of_zero_le p0
    have hq : q < S.C.ks.length := by omega
    rw [kindL_in hq] at hs hl
    have hk : 1 ≤ S.C.ks.getD q 0 ∧ S.C.ks.getD q 0 ≤ 4 := by
      apply Decidable.byContradiction; intro hc
      rw [sizeI_zero (by omega)] at hs; omega
    have hlf : leftL S.C q = (F q).length := by
      unfold leftL
      rw [kindL_in hq, if_pos hs, Int.toNat_natCast]
      exact (hi.ln q hq hk.1 hk.2).2.1
    obtain ⟨e1, -, e3⟩ := drop_kept hi hq hk.1 hk.2 (by rw [← hlf]; exact hl)
    refine ⟨h.withK ⟨_, inv_drop hi hq hk.1 hk.2 hl⟩ (freeL_len _ _) fun t k r hm hr => ?_, fun a => Iff.rfl, e3, rfl⟩
    have hne : r ≠ q := by
      rintro rfl
      rw [(ownB_iff h.dom _).2 ⟨t, k, hm⟩] at hn
      cases hn
    show (freeL S.C.ks q).getD r 0 = _
    rw [e1, fillL_get _ _ _ _ _ hr, if_neg (by omega)]
  · exact ⟨h, Sam.refl S⟩
theorem cut_some {M : OwnM} {t t' k' p : Int} : ∀ {n : Nat}, cutM M t n t' k' = some p → M t' k' = some p ∧ ¬ (t' = t ∧ 1 ≤ k' ∧ k' ≤ n)
  | 0, h => ⟨h, by omega⟩
  | n + 1, h => by
    unfold cutM at h
    by_cases e : t' = t ∧ k' = (n : Int) + 1
    · obtain ⟨rfl, rfl⟩ := e
      rw [updM_same] at h
      cases h
    · rw [updM_other _ e] at h
      obtain ⟨h1, h2⟩ := cut_some h
      exact ⟨h1, by omega⟩
theorem SI.cut (h : SI S) (t : Int) (n : Nat) : SI { S with M := cutM S.M t n } :=
  ⟨h.inv, h.np, fun _ _ _ hm => h.dom _ _ _ (cut_some hm).1, fun _ _ _ hm => h.own _ _ _ (cut_some hm).1, fun _ _ _ _ _ h1 h2 => h.inj _ _ _ _ _ (cut_some h1).1 (cut_some h2).1, h.th⟩
theorem dropL_mem {M : OwnM} {t p : Int} {n : Nat} : p ∈ dropL M t n ↔ ∃ k : Int, 1 ≤ k ∧ k ≤ n ∧ M t k = some p := by
  unfold dropL
  rw [List.mem_filterMap]
  constructor
  · rintro ⟨i, hi, h⟩
    have := List.mem_range.1 hi
    exact ⟨(i : Int) + 1, by omega, by omega, h⟩
  · rintro ⟨k, h1, h2, h⟩
    obtain ⟨i, rfl⟩ : ∃ i : Nat, k = (i : Int) + 1 := ⟨(k - 1).toNat, by omega⟩
    exact ⟨i, List.mem_range.2 (by omega), h⟩
theorem drop_fold : ∀ (l : List Int) {S : Sm}, SI S → (∀ p ∈ l, ownB S.M p = false) → SI { S with C := l.foldl dropC S.C } ∧ Sam S { S with C := l.foldl dropC S.C }
  | [], S, h, _ => ⟨h, Sam.refl S⟩
  | p :: l, S, h, hn => by
    obtain ⟨h1, h2⟩ := h.drop (hn p (by simp))
    obtain ⟨h3, h4⟩ := drop_fold l h1 (fun q hq => hn q (List.mem_cons_of_mem _ hq))
    exact ⟨h3, h2.trans h4⟩
/-- A thread has no pages any more. -/
def quitL (S : Sm) (t : Int) : List Int := sortI (dropL S.M t 4)
def quitS (S : Sm) (t : Int) : Sm := { S with M := cutM S.M t 4, C := (quitL S t).foldl dropC S.C }
theorem quit_free (h : SI S) {t p : Int} (hp : p ∈ dropL S.M t 4) : ownB (cutM S.M t 4) p = false := by
  cases ho : ownB (cutM S.M t 4) p with
  | false => rfl
  | true =>
    obtain ⟨t', k', hm⟩ := (ownB_iff (h.cut t 4).dom _).1 ho
    obtain ⟨h1, h2⟩ := cut_some hm
    obtain ⟨k, k1, k4, hk⟩ := dropL_mem.1 hp
    obtain ⟨rfl, rfl⟩ := h.inj _ _ _ _ _ h1 hk
    omega
theorem SI.quit (h : SI S) (t : Int) : SI (quitS S t) ∧ Sam S (quitS S t) := by
  have := drop_fold (quitL S t) (h.cut t 4) (fun p hp => quit_free h ((sortI_perm _).mem_iff.1 hp))
  exact ⟨this.1, this.2.mem, this.2.kept, this.2.md⟩
/-- A page that is nobody's is dropped. -/
def trimB (S : Sm) (p : Int) : Bool := !ownB S.M p && dropOk S.C p
def trimS (S : Sm) (p : Int) : Sm := if ownB S.M p = true then S else { S with C := dropC S.C p }
theorem SI.trim (h : SI S) (p : Int) : SI (trimS S p) ∧ Sam S (trimS S p) := by
  unfold trimS
  cases ho : ownB S.M p with
  | true => exact ⟨h, Sam.refl S⟩
  | false => exact h.drop ho
end
end Go.Proofs.YtjoejjhgneccgaaGreatDoor
