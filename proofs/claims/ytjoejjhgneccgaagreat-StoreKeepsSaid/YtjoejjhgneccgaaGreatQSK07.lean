/- Cells: made; a page carved. -/
import Derived.Test.YtjoejjhgneccgaaGreatQSK06
namespace Go.Proofs.YtjoejjhgneccgaaGreat
open Go.RowKit

def Cs.new (n : Nat) : Cs := ⟨List.replicate n 0, List.replicate (n * 32) 0, List.replicate 64 (0, 0), List.replicate 32 0#64⟩
def NewC (n : Nat) (B : Nat) (e : Ending) (w' : World) : Prop := ∃ b : Bl, e = .returned (.pointer (some ⟨b.c, 0, none⟩)) ∧ CX w' b (Cs.new n) ∧ ∀ x ∈ b.fp, B ≤ x
set_option maxHeartbeats 4000000 in
set_option maxRecDepth 100000 in
theorem cnew_any (n : Int) (w : World) :
    Calls Tryz.prog 16 #[.int .i64 n] w fun e w' => NewC (clampN n 0 64).toNat w.heap.size e w' ∧ Below w.heap.size w w' := by
  have hb := clampN_bd (a := n) (lo := 0) (hi := 64) (by omega)
  obtain ⟨p, hp⟩ := Int.eq_ofNat_of_zero_le hb.1
  have HP := Lib.hid hp
  have hp64 : p ≤ 64 := by omega
  have hc : clampN ((p : Int) * 32) 0 2048 = ((p * 32 : Nat) : Int) := by unfold clampN; rw [if_neg (by omega), if_neg (by omega)]; omega
  have HC := Lib.hid hc
  clear hb hp hc
  go_enter Tryz.func16, Tryz.ntmps16
  go_wp2_with (first
    | (go_at_call 38; refine (pnew_any n _).mono ?_; rw [HP.out, Int.toNat_natCast]; rintro e w1 ⟨rfl, ht, hb⟩; have T1 := Lib.hid ht; have B1 := Lib.hid hb; clear ht hb)
    | (go_at_call 39; refine (pall_any T1.out).mono ?_; rintro e w2 ⟨⟨v, rfl, hr⟩, hb⟩; obtain ⟨a, cap, rfl, -⟩ := hr.slice; rw [List.length_replicate]; have T2 := Lib.hid (T1.out.below hb); have B2 := Lib.hid (below_next B1.out hb); clear hr hb)
    | (go_at_call 40; refine (mnew_any _ _).mono ?_; rw [HC.out, Int.toNat_natCast]; rintro e w3 ⟨rfl, hm, hb⟩; have M3 := Lib.hid hm; have T3 := Lib.hid (T2.out.below hb); have B3 := Lib.hid (below_next B2.out hb); clear hm hb)
    | (go_at_call 41; refine (snew_any _ _).mono ?_; rw [HC.out, Int.toNat_natCast]; rintro e w4 ⟨rfl, hs, hb⟩; have S4 := Lib.hid hs; have M4 := Lib.hid (M3.out.below hb); have T4 := Lib.hid (T3.out.below hb); have B4 := Lib.hid (below_next B3.out hb); clear hs hb))
  go_ret
  rw [HP.out, Int.toNat_natCast]
  refine ⟨⟨⟨w4.heap.size, w.heap.size + 1, w.heap.size, w2.heap.size + 1, w2.heap.size, w3.heap.size⟩, rfl, ?_, ?_⟩, B4.out.alloc B4.out.size _⟩
  · refine ⟨heap_alloc_new w4 _, T4.out.below (below_alloc0 w4 _), M4.out.below (below_alloc0 w4 _), ?_, rfl, by simp [Cs.new]; omega⟩
    have e : (Cs.new p).xs.length = p * 32 := by simp [Cs.new]
    rw [e]
    exact S4.out.below (below_alloc0 w4 _)
  · have h1 := B2.out.size
    have h2 := B3.out.size
    have h3 := B4.out.size
    intro x hx
    simp only [Bl.fp, List.mem_cons, List.not_mem_nil, or_false] at hx
    omega
section
variable {w : World} {b : Bl} {C : Cs}
def carveC (C : Cs) (k : Int) : Cs := match takeT C.ks k with | some p => { C with ks := C.ks.set p k, ch := C.ch.set p (0, cellsI k), xs := buildL C.xs p k } | none => C
set_option maxHeartbeats 8000000 in
set_option maxRecDepth 100000 in
theorem ccarve_any (h : CX w b C) (k : Int) :
    Calls Tryz.prog 58 #[.pointer (some ⟨b.c, 0, none⟩), .int .i64 k] w fun e w' => TakeE (takeT C.ks k) e ∧ CX w' b (carveC C k) ∧ Frm b.fp w w' := by
  have H := Lib.hid h
  obtain ⟨c0, c1, -⟩ := h.cells
  cases ht : takeT C.ks k with
  | none =>
    have HT := Lib.hid ht
    have HC := Lib.hid (show carveC C k = C by unfold carveC; rw [ht])
    have HK := Lib.hid (show takeK C.ks k = C.ks by unfold takeK; rw [ht])
    clear h ht
    go_enter Tryz.func58, Tryz.ntmps58
    go_wp2_with (first
      | (go_at_call 43; refine (cis_any H.out).mono ?_; rintro e w' ⟨rfl, rfl⟩)
      | (go_at_call 82; refine (ptake_any H.out.tx k).mono ?_; rw [HT.out, HK.out]; rintro e w1 ⟨rfl, hx, hf⟩; have H1 := Lib.hid (H.out.withTx hf hx rfl); have F1 := Lib.hid hf; clear hx hf))
    go_ret2
    exact ⟨rfl, by rw [HC.out]; exact H1.out, F1.out.sub (by simp [Bl.fp])⟩
  | some p =>
    have hz : sizeI k ≠ 0 := by intro e; unfold takeT at ht; rw [if_pos e] at ht; cases ht
    have hk : 1 ≤ k ∧ k ≤ 4 := by
      apply Decidable.byContradiction; intro hc
      exact hz (sizeI_zero (by omega))
    have hpl : p < C.ks.length := by
      unfold takeT at ht; rw [if_neg hz] at ht; exact idx0_lt ht
    have hp64 : p < 64 := by have := h.tx.le; omega
    have HO := Lib.hid (show OpP C.xs.length p k from ⟨by omega, by omega, hk.1, hk.2, by rw [h.len]; omega⟩)
    have HT := Lib.hid ht
    have HP := Lib.hid hp64
    have HC := Lib.hid (show carveC C k = { C with ks := C.ks.set p k, ch := C.ch.set p (0, cellsI k), xs := buildL C.xs p k } by unfold carveC; rw [ht])
    have HK := Lib.hid (show takeK C.ks k = C.ks.set p k by unfold takeK; rw [ht])
    have q1 : (0 : Int) ≤ (p : Int) := by omega
    have q2 : (p : Int) < 64 := by omega
    clear h ht hz hk hpl hp64
    go_enter Tryz.func58, Tryz.ntmps58
    go_wp2_with (first
      | (go_at_call 43; refine (cis_any H.out).mono ?_; rintro e w' ⟨rfl, rfl⟩)
      | (go_at_call 82; refine (ptake_any H.out.tx k).mono ?_; rw [HT.out, HK.out]; rintro e w1 ⟨rfl, hx, hf⟩; have H1 := Lib.hid (H.out.withTx hf hx (by simp)); have F1 := Lib.hid hf; clear hx hf))
    have d1 : w1.cell? ⟨b.c, 1, none⟩ = some (.pointer (some ⟨b.m, 0, none⟩)) := H1.out.cells.2.1
    clear c0 c1
    have G1 : Hid (CX w1.drew b { C with ks := C.ks.set p k }) := Lib.hid (H1.out.below (Below.refl _ _).drew)
    have M1 := Lib.hid G1.out.mx
    go_region_held3 (fun w' => w'.cell? ⟨b.c, 1, none⟩ = some (.pointer (some ⟨b.m, 0, none⟩))) (first | assumption | exact cell_set2 (.inl (by decide)) HP.out (by assumption) | go_keep)
      ((go_at_call 83; refine (build_yes M1.out p k HO.out).mono ?_; rintro e w2 ⟨rfl, hm, hf⟩; have hx2 := G1.out.withMx hf hm (buildL_len _ _ _); have H2 := Lib.hid hx2; have F2 := Lib.hid hf; obtain ⟨-, d2, -⟩ := hx2.cells; obtain ⟨d3, d4, d5, d6⟩ := hx2.chain HP.out; clear hm hf hx2))
    go_wp2_with fail
    go_ret2
    refine ⟨rfl, ?_, ?_⟩
    · rw [HC.out]
      exact H2.out.setChain HP.out (0, cellsI k)
    · refine ((F1.out.sub (fp' := b.fp) (by simp [Bl.fp])).trans ((Frm.of_below b.fp (Below.refl _ _).drew).trans (F2.out.sub (fp' := b.fp) (by simp [Bl.fp])) (fun x hx => .inl hx)) (fun x hx => .inl hx)).trans ?_ (fun x hx => .inl hx)
      exact (Frm.setCell _ (fp := b.fp) (by simp [Bl.fp]) _).trans (Frm.setCell _ (fp := b.fp) (by simp [Bl.fp]) _) (fun x hx => .inl hx)
end
end Go.Proofs.YtjoejjhgneccgaaGreat

/- Cells, in plain lists: what holds behind every call. -/
namespace Go.Proofs.YtjoejjhgneccgaaGreat
open Go.RowKit

/-- Free cells, one behind the other, from the first on. -/
def Lnk (xs : List Int) (p k : Int) : Int → List Int → Prop
  | f, [] => f = cellsI k
  | f, i :: l => f = i ∧ 0 ≤ i ∧ i < cellsI k ∧ ∃ g, 0 ≤ g ∧ g ≤ cellsI k ∧ xs.getD (cad p k i).toNat 0 = -1 - g ∧ Lnk xs p k g l
theorem Lnk.keep {xs ys : List Int} {p k : Int} : ∀ {f : Int} {l : List Int}, Lnk xs p k f l → (∀ i ∈ l, ys.getD (cad p k i).toNat 0 = xs.getD (cad p k i).toNat 0) → Lnk ys p k f l
  | _, [], h, _ => h
  | _, i :: l, ⟨h1, h2, h3, g, h4, h5, h6, h7⟩, hx => ⟨h1, h2, h3, g, h4, h5, (hx i (by simp)).trans h6, h7.keep fun j hj => hx j (by simp [hj])⟩
theorem Lnk.mem {xs : List Int} {p k : Int} : ∀ {f : Int} {l : List Int}, Lnk xs p k f l → ∀ i ∈ l, 0 ≤ i ∧ i < cellsI k
  | _, [], _, i, hi => by simp at hi
  | _, j :: l, ⟨_, h2, h3, _, _, _, _, h7⟩, i, hi => by
    rcases List.mem_cons.1 hi with rfl | hi
    · exact ⟨h2, h3⟩
    · exact h7.mem i hi
theorem Lnk.first {xs : List Int} {p k : Int} {f : Int} {l : List Int} (h : Lnk xs p k f l) (hk : 1 ≤ k ∧ k ≤ 4) : 0 ≤ f ∧ f ≤ cellsI k := by
  have hc := cellsI_pos hk
  cases l with
  | nil => have : f = cellsI k := h; omega
  | cons i l => obtain ⟨h1, h2, h3, _⟩ := h; omega
/-- Is what begins at an address taken? -/
def tkB (C : Cs) (F : Nat → List Int) (a : Nat) : Bool :=
  if 1 ≤ C.ks.getD (a / 32) 0 ∧ C.ks.getD (a / 32) 0 ≤ 4 then decide ((a : Int) % 32 % sizeI (C.ks.getD (a / 32) 0) = 0 ∧ ((a : Int) % 32 / sizeI (C.ks.getD (a / 32) 0)) ∉ F (a / 32))
  else decide (C.ks.getD (a / 32) 0 = 5 ∧ a % 32 = 0)
structure Inv (C : Cs) (F : Nat → List Int) : Prop where
  le : C.ks.length ≤ 64
  len : C.xs.length = 32 * C.ks.length
  chl : C.ch.length = 64
  wl : C.ws.length = 32
  kd : ∀ p, p < C.ks.length → 0 ≤ C.ks.getD p 0 ∧ C.ks.getD p 0 ≤ 6
  sx : ∀ p, p < C.ks.length → C.ks.getD p 0 = 6 → 0 < p ∧ (C.ks.getD (p - 1) 0 = 5 ∨ C.ks.getD (p - 1) 0 = 6)
  ln : ∀ p, p < C.ks.length → 1 ≤ C.ks.getD p 0 → C.ks.getD p 0 ≤ 4 → Lnk C.xs p (C.ks.getD p 0) (C.ch.getD p (0, 0)).1 (F p) ∧ (C.ch.getD p (0, 0)).2 = (F p).length ∧ (F p).Nodup
  bt : ∀ a, a < 32 * C.ks.length → bit C.ws a = tkB C F a
  tp : ∀ a, 32 * C.ks.length ≤ a → a < 2048 → bit C.ws a = false
theorem inv_new {n : Nat} (hn : n ≤ 64) : Inv (Cs.new n) (fun _ => []) := by
  have hk : ∀ p, (Cs.new n).ks.getD p 0 = 0 := fun p => by
    simp only [Cs.new, List.getD_eq_getElem?_getD, List.getElem?_replicate]; split <;> rfl
  have hb : ∀ a, bit (Cs.new n).ws a = false := zero_bits
  refine ⟨by simpa [Cs.new] using hn, by simp [Cs.new]; omega, rfl, rfl, fun p _ => by rw [hk]; omega, fun p _ h => by rw [hk] at h; omega, fun p _ h => by rw [hk] at h; omega, fun a _ => ?_, fun a _ _ => hb a⟩
  rw [hb]
  unfold tkB
  rw [hk, if_neg (by omega)]
  simp
/-- Cells of a page lie apart, and in their page. -/
theorem cad_page {p : Nat} {k i : Int} (hk : 1 ≤ k ∧ k ≤ 4) (h0 : 0 ≤ i) (h1 : i < cellsI k) : 32 * p ≤ (cad p k i).toNat ∧ (cad p k i).toNat + (sizeI k).toNat ≤ 32 * p + 32 ∧ ((cad p k i).toNat : Int) = cad p k i := by
  have hc : k = 1 ∨ k = 2 ∨ k = 3 ∨ k = 4 := by omega
  unfold cad
  rcases hc with rfl | rfl | rfl | rfl <;> simp [cellsI, sizeI] at * <;> omega
theorem cad_ne {p : Int} {k i j : Int} (hp : 0 ≤ p) (hk : 1 ≤ k ∧ k ≤ 4) (hi : 0 ≤ i) (hj : 0 ≤ j) (h : i ≠ j) : (cad p k i).toNat + (sizeI k).toNat ≤ (cad p k j).toNat ∨ (cad p k j).toNat + (sizeI k).toNat ≤ (cad p k i).toNat := by
  have hc : k = 1 ∨ k = 2 ∨ k = 3 ∨ k = 4 := by omega
  unfold cad
  rcases hc with rfl | rfl | rfl | rfl <;> simp [sizeI] <;> omega
theorem putL_get {xs : List Int} {a v : Int} {j : Nat} (hj : j < xs.length) : (putL xs a v).getD j 0 = if (j : Int) = a then v else xs.getD j 0 := by
  unfold putL fitB
  by_cases h : (j : Int) = a
  · subst h
    rw [if_pos (by simp; omega), if_pos rfl, Int.toNat_natCast, getD_set_same hj]
  · rw [if_neg h]
    split
    · rename_i hf
      simp at hf
      rw [getD_set_other (by omega)]
    · rfl
end Go.Proofs.YtjoejjhgneccgaaGreat

/- Cells, in plain lists: a page carved. -/
namespace Go.Proofs.YtjoejjhgneccgaaGreat
open Go.RowKit

/-- All cells of a class's page. -/
def allC (k : Int) : List Int := (List.range' 0 (cellsI k).toNat).map Int.ofNat
def upd (F : Nat → List Int) (p : Nat) (l : List Int) : Nat → List Int := fun q => if q = p then l else F q
theorem upd_same (F : Nat → List Int) (p : Nat) (l : List Int) : upd F p l p = l := if_pos rfl
theorem upd_other {F : Nat → List Int} {p q : Nat} (l : List Int) (h : q ≠ p) : upd F p l q = F q := if_neg h
theorem allC_mem {k i : Int} : i ∈ allC k ↔ 0 ≤ i ∧ i < cellsI k := by
  unfold allC
  rw [List.mem_map]
  constructor
  · rintro ⟨j, hj, rfl⟩
    rw [List.mem_range'_1] at hj
    exact ⟨by simp, by have := hj.2; simp; omega⟩
  · rintro ⟨h0, h1⟩
    exact ⟨i.toNat, by rw [List.mem_range'_1]; omega, by simp; omega⟩
theorem allC_nodup (k : Int) : (allC k).Nodup := by
  unfold allC
  refine List.Pairwise.map _ (fun a b h => ?_) (List.nodup_range' (step := 1) (by decide))
  intro e; exact h (Int.ofNat.inj e)
theorem allC_len (k : Int) : (allC k).length = (cellsI k).toNat := by simp [allC]
theorem linkL_at {xs : List Int} {p : Nat} {k : Int} (hk : 1 ≤ k ∧ k ≤ 4) (hl : 32 * p + 32 ≤ xs.length) : ∀ j : Nat, (j : Int) ≤ cellsI k →
    (∀ i : Nat, i < j → (linkL xs p k j).getD (cad p k i).toNat 0 = -1 - ((i : Int) + 1)) ∧ (∀ a, a < xs.length → (a < 32 * p ∨ 32 * p + 32 ≤ a) → (linkL xs p k j).getD a 0 = xs.getD a 0)
  | 0, _ => ⟨fun i h => absurd h (by omega), fun _ _ _ => rfl⟩
  | j + 1, hj => by
    obtain ⟨h1, h2⟩ := linkL_at hk hl j (by omega)
    have hc := cad_page (p := p) hk (i := (j : Int)) (by omega) (by omega)
    have hs := sizeI_pos hk
    constructor
    · intro i hi
      have hci := cad_page (p := p) hk (i := (i : Int)) (by omega) (by omega)
      rw [linkL, putL_get (by rw [linkL_len]; omega)]
      by_cases e : i = j
      · subst e
        rw [if_pos hci.2.2]
      · have := cad_ne (p := (p : Int)) (k := k) (i := (i : Int)) (j := (j : Int)) (by omega) hk (by omega) (by omega) (by omega)
        rw [if_neg (by omega), h1 i (by omega)]
    · intro a ha hp
      rw [linkL, putL_get (by rw [linkL_len]; exact ha), if_neg (by omega), h2 a ha hp]
theorem buildL_at {xs : List Int} {p : Nat} {k : Int} (hk : 1 ≤ k ∧ k ≤ 4) (hl : 32 * p + 32 ≤ xs.length) :
    (∀ i : Nat, (i : Int) < cellsI k → (buildL xs p k).getD (cad p k i).toNat 0 = -1 - ((i : Int) + 1)) ∧ (∀ a, a < xs.length → (a < 32 * p ∨ 32 * p + 32 ≤ a) → (buildL xs p k).getD a 0 = xs.getD a 0) := by
  have hc := cellsI_pos hk
  have e : ((p : Int) * 32).toNat = 32 * p := by omega
  obtain ⟨h1, h2⟩ := linkL_at (xs := fillL xs (32 * p) 32 0) (p := p) hk (by rw [fillL_len]; exact hl) (cellsI k).toNat (by omega)
  unfold buildL
  rw [e]
  refine ⟨fun i hi => h1 i (by omega), fun a ha hp => ?_⟩
  rw [h2 a (by rw [fillL_len]; exact ha) hp, fillL_get _ _ _ _ _ ha, if_neg (by omega)]
theorem lnk_all {xs : List Int} {p : Nat} {k : Int} (hk : 1 ≤ k ∧ k ≤ 4) (h : ∀ i : Nat, (i : Int) < cellsI k → xs.getD (cad p k i).toNat 0 = -1 - ((i : Int) + 1)) :
    ∀ (d i : Nat), ((i + d : Nat) : Int) = cellsI k → Lnk xs p k i ((List.range' i d).map Int.ofNat)
  | 0, i, e => by show (i : Int) = cellsI k; omega
  | d + 1, i, e => by
    rw [List.range'_succ, List.map_cons]
    exact ⟨rfl, by simp, by simp; omega, (i : Int) + 1, by omega, by omega, h i (by omega), by
      have := lnk_all hk h d (i + 1) (by omega)
      simpa using this⟩
theorem idx_lt {k : Int} (hk : 1 ≤ k ∧ k ≤ 4) (a : Nat) : 0 ≤ (a : Int) % 32 / sizeI k ∧ (a : Int) % 32 / sizeI k < cellsI k := by
  have hc : k = 1 ∨ k = 2 ∨ k = 3 ∨ k = 4 := by omega
  rcases hc with rfl | rfl | rfl | rfl <;> simp [cellsI, sizeI] <;> omega
theorem tkB_same {C C' : Cs} {F F' : Nat → List Int} {a : Nat} (h1 : C'.ks.getD (a / 32) 0 = C.ks.getD (a / 32) 0) (h2 : F' (a / 32) = F (a / 32)) : tkB C' F' a = tkB C F a := by
  unfold tkB; rw [h1, h2]
theorem idx0_zero : ∀ {ks : List Int} {m : Nat}, idx0 ks = some m → ks.getD m 0 = 0
  | [], m, h => by simp [idx0] at h
  | x :: xs, m, h => by
    unfold idx0 at h
    split at h
    · rename_i hx
      obtain rfl : 0 = m := by simpa using h
      simpa using hx
    · cases h1 : idx0 xs with
      | none => rw [h1] at h; simp at h
      | some j =>
        rw [h1] at h
        obtain rfl : j + 1 = m := by simpa using h
        have := idx0_zero h1
        simpa using this
theorem inv_carve {C : Cs} {F : Nat → List Int} {k : Int} {p : Nat} (h : Inv C F) (ht : takeT C.ks k = some p) : Inv (carveC C k) (upd F p (allC k)) := by
  have hz : sizeI k ≠ 0 := by intro e; unfold takeT at ht; rw [if_pos e] at ht; cases ht
  have hk : 1 ≤ k ∧ k ≤ 4 := by
    apply Decidable.byContradiction; intro hc
    exact hz (sizeI_zero (by omega))
  have hi : idx0 C.ks = some p := by unfold takeT at ht; rw [if_neg hz] at ht; exact ht
  have hpl := idx0_lt hi
  have hp0 := idx0_zero hi
  have hc : carveC C k = { C with ks := C.ks.set p k, ch := C.ch.set p (0, cellsI k), xs := buildL C.xs p k } := by unfold carveC; rw [ht]
  have hcl := cellsI_pos hk
  have hlen := h.len
  have hle := h.le
  have hb := buildL_at (xs := C.xs) (p := p) hk (by omega)
  rw [hc]
  have kq : ∀ q, q ≠ p → (C.ks.set p k).getD q 0 = C.ks.getD q 0 := fun q hq => getD_set_other (fun e => hq e.symm) _ _
  have kp : (C.ks.set p k).getD p 0 = k := getD_set_same hpl _ _
  refine ⟨by simpa using hle, ?_, by simpa using h.chl, h.wl, fun q hq => ?_, fun q hq h6 => ?_, fun q hq k1 k4 => ?_, fun a ha => ?_, fun a ha ha2 => h.tp a (by simpa using ha) ha2⟩
  · show (buildL C.xs p k).length = 32 * (C.ks.set p k).length
    rw [buildL_len, List.length_set]; exact hlen
  · rw [List.length_set] at hq
    by_cases e : q = p
    · subst e; rw [kp]; omega
    · rw [kq q e]; exact h.kd q hq
  · rw [List.length_set] at hq
    have e : q ≠ p := by rintro rfl; rw [kp] at h6; omega
    rw [kq q e] at h6
    obtain ⟨g0, g1⟩ := h.sx q hq h6
    have e2 : q - 1 ≠ p := by intro e2; rw [e2, hp0] at g1; omega
    exact ⟨g0, by rw [kq _ e2]; exact g1⟩
  · rw [List.length_set] at hq
    by_cases e : q = p
    · subst e
      rw [kp] at k1 k4 ⊢
      rw [upd_same]
      refine ⟨?_, ?_, allC_nodup k⟩
      · rw [show (C.ch.set q (0, cellsI k)).getD q (0, 0) = (0, cellsI k) from getD_set_same (by rw [h.chl]; omega) _ _]
        exact lnk_all hk hb.1 (cellsI k).toNat 0 (by omega)
      · rw [show (C.ch.set q (0, cellsI k)).getD q (0, 0) = (0, cellsI k) from getD_set_same (by rw [h.chl]; omega) _ _, allC_len]
        omega
    · rw [kq q e] at k1 k4 ⊢
      rw [upd_other _ e, show (C.ch.set p (0, cellsI k)).getD q (0, 0) = C.ch.getD q (0, 0) from getD_set_other (fun e2 => e e2.symm) _ _]
      obtain ⟨g1, g2, g3⟩ := h.ln q hq k1 k4
      refine ⟨g1.keep fun i hi => ?_, g2, g3⟩
      have hm := g1.mem i hi
      have hcp := cad_page (p := q) ⟨k1, k4⟩ hm.1 hm.2
      have hs := sizeI_pos ⟨k1, k4⟩
      exact hb.2 _ (by omega) (by omega)
  · rw [List.length_set] at ha
    rw [show bit C.ws a = tkB C F a from h.bt a ha]
    by_cases e : a / 32 = p
    · unfold tkB
      rw [e, kp, hp0, if_neg (by omega), if_pos hk, upd_same]
      have := idx_lt hk a
      have hm : (a : Int) % 32 / sizeI k ∈ allC k := allC_mem.2 this
      simp [hm]
    · exact (tkB_same (kq _ e) (upd_other _ e)).symm
end Go.Proofs.YtjoejjhgneccgaaGreat

/- Cells: one taken. -/
namespace Go.Proofs.YtjoejjhgneccgaaGreat
open Go.RowKit

section
variable {w : World} {b : Bl} {C : Cs}
theorem ctake_no (h : CX w b C) (p : Int) (h0 : leftL C p = 0) :
    Calls Tryz.prog 36 #[.pointer (some ⟨b.c, 0, none⟩), .int .i64 p] w fun e w' => e = .returned (.tuple #[.int .i64 0, .bool false]) ∧ Below w.heap.size w w' := by
  have H := Lib.hid h
  have HL := Lib.hid h0
  clear h h0
  go_enter Tryz.func36, Tryz.ntmps36
  go_wp2_with (go_at_call 57; refine (cleft_any H.out p).mono ?_; rw [HL.out]; rintro e w' ⟨rfl, hb⟩; have HB := Lib.hid hb; clear hb)
  go_ret2
  exact ⟨rfl, HB.out⟩
def takeC (C : Cs) (q : Nat) (k f n y : Int) : Cs :=
  { C with ch := C.ch.set q (-1 - y, n - 1), ws := addL C.xs.length C.ws (cad q k f), xs := fillL C.xs (cad q k f).toNat (sizeI k).toNat 0 }
/-- A page of a small class, whose chain tells a free cell. -/
structure TakeP (C : Cs) (q : Nat) (k f n y : Int) : Prop where
  q0 : q < C.ks.length
  kd : kindL C.ks q = k
  k0 : 1 ≤ k
  k1 : k ≤ 4
  ch : C.ch.getD q (0, 0) = (f, n)
  n0 : 1 ≤ n
  n1 : n ≤ 1000000
  f0 : 0 ≤ f
  f1 : f < cellsI k
  wd : C.xs.getD (cad q k f).toNat 0 = y
  y0 : y < 0
  y1 : -1 - cellsI k ≤ y
set_option maxHeartbeats 16000000 in
set_option maxRecDepth 100000 in
theorem ctake_ok (h : CX w b C) (q : Nat) (k f n y : Int) (t : TakeP C q k f n y) :
    Calls Tryz.prog 36 #[.pointer (some ⟨b.c, 0, none⟩), .int .i64 q] w fun e w' => e = .returned (.tuple #[.int .i64 (cad q k f), .bool true]) ∧ CX w' b (takeC C q k f n y) ∧ Frm b.fp w w' := by
  have H := Lib.hid h
  have hs : 0 < sizeI (kindL C.ks q) := by rw [t.kd]; have := sizeI_pos ⟨t.k0, t.k1⟩; omega
  have hl : leftL C q = n := by unfold leftL; rw [if_pos hs, Int.toNat_natCast, t.ch]
  have HL := Lib.hid hl
  have hne : (n == 0) = false := by have := t.n0; simp; omega
  have HK := Lib.hid t.kd
  have hq64 : q < 64 := by have := t.q0; have := h.tx.le; omega
  have HQ := Lib.hid hq64
  have HO := Lib.hid (show OpP C.xs.length q k from ⟨by omega, by omega, t.k0, t.k1, by rw [h.len]; have := t.q0; omega⟩)
  have T := Lib.hid t
  have HA := Lib.hid (cad_in HO.out t.f0 t.f1).1
  have q1 : (0 : Int) ≤ (q : Int) := by omega
  have q2 : (q : Int) < 64 := by omega
  have HS := Lib.hid (sizeI_pos ⟨t.k0, t.k1⟩)
  have F0 := Lib.hid (Frm.refl b.fp w)
  clear h t hs hl hq64
  go_enter Tryz.func36, Tryz.ntmps36
  go_wp2_with (first
    | (go_at_call 57; refine (cleft_any H.out q).mono ?_; rw [HL.out]; rintro e w1 ⟨rfl, hb⟩; have H1 := Lib.hid (H.out.below hb); have F1 := Lib.hid (F0.out.trans (Frm.of_below b.fp hb) (fun x hx => .inl hx)); clear hb)
    | (go_at_call 56; refine (ckind_any H1.out q).mono ?_; rw [HK.out]; rintro e w2 ⟨rfl, hb⟩; have hx := H1.out.below hb; have H2 := Lib.hid hx; have F2 := Lib.hid (F1.out.trans (Frm.of_below b.fp hb) (fun x hx => .inl hx)); obtain ⟨-, d1, -⟩ := hx.cells; obtain ⟨d3, d4, -⟩ := hx.chain HQ.out; rw [T.out.ch] at d3 d4; clear hb hx))
  have G2 : Hid (CX w2.drew b C) := Lib.hid (H2.out.below (Below.refl _ _).drew)
  have E2 : Hid (Frm b.fp w w2.drew) := Lib.hid (F2.out.trans (Frm.of_below b.fp (Below.refl _ _).drew) (fun x hx => .inl hx))
  have bz : Below w2.heap.size w2 (w2.alloc (.cells #[.int .i64 0, .int .i64 0] 75)).drew := (below_alloc0 w2 _).drew
  have G3 : Hid (CX (w2.alloc (.cells #[.int .i64 0, .int .i64 0] 75)).drew b C) := Lib.hid (H2.out.below bz)
  have E3 : Hid (Frm b.fp w (w2.alloc (.cells #[.int .i64 0, .int .i64 0] 75)).drew) := Lib.hid (F2.out.trans (Frm.of_below b.fp bz) (fun x hx => .inl hx))
  have Z3 : Hid ((w2.alloc (.cells #[.int .i64 0, .int .i64 0] 75)).drew.heap[w2.heap.size]? = some (.cells #[.int .i64 0, .int .i64 0] 75 (0, 0))) := Lib.hid (heap_alloc_new w2 _)
  have hbz := F2.out.size
  have hcn : b.c ≠ w2.heap.size := Nat.ne_of_lt (heap_lt H2.out.hd)
  clear bz
  go_region_held3 (fun w' => w'.cell? ⟨b.c, 1, none⟩ = some (.pointer (some ⟨b.m, 0, none⟩)) ∧ w'.cell? ⟨b.c, 2 + q * 2, none⟩ = some (.int .i64 f) ∧ w'.cell? ⟨b.c, 2 + q * 2 + 1, none⟩ = some (.int .i64 n)) (first | (go_split_ands; exact ⟨by assumption, by assumption, by assumption⟩) | (go_split_ands; exact ⟨cell_setB hcn (by assumption), cell_setB hcn (by assumption), cell_setB hcn (by assumption)⟩) | go_keep)
    (first
      | ((go_at_call 65; with_reducible refine (ctake_yes G2.out.mx q k f n y HO.out T.out.n0 T.out.n1 T.out.f0 T.out.f1 T.out.wd T.out.y0 T.out.y1).mono ?_); rintro e w3 ⟨rfl, hb⟩; have hx := G2.out.below hb; have H3 := Lib.hid hx; have F3 := Lib.hid (E2.out.trans (Frm.of_below b.fp hb) (fun x hx => .inl hx)); obtain ⟨-, e1, -⟩ := hx.cells; obtain ⟨e3, e4, -⟩ := hx.chain HQ.out; rw [T.out.ch] at e3 e4; have hcl : b.c < w3.heap.size := heap_lt hx.hd; clear hb hx)
      | ((go_at_call 65; with_reducible refine (ctake_yes G3.out.mx q k f n y HO.out T.out.n0 T.out.n1 T.out.f0 T.out.f1 T.out.wd T.out.y0 T.out.y1).mono ?_); rintro e w3 ⟨rfl, hb⟩; have hx := G3.out.below hb; have H3 := Lib.hid hx; have F3 := Lib.hid (E3.out.trans (Frm.of_below b.fp hb) (fun x hx => .inl hx)); have z := keep hb Z3.out; have Z4 := Lib.hid z; have z1 : w3.cell? ⟨w2.heap.size, 0, none⟩ = some (.int .i64 0) := cell_of_row _ _ _ _ _ _ z; have z2 : w3.cell? ⟨w2.heap.size, 1, none⟩ = some (.int .i64 0) := cell_of_row _ _ _ _ _ _ z; have z3 := frozen_of_row w3 w2.heap.size 0 _ _ z; have z4 := frozen_of_row w3 w2.heap.size 1 _ _ z; obtain ⟨-, e1, -⟩ := hx.cells; obtain ⟨e3, e4, -⟩ := hx.chain HQ.out; rw [T.out.ch] at e3 e4; have hcl : b.c < w3.heap.size := heap_lt hx.hd; clear hb hx z))
  all_goals
    rename_i hheld
    clear hheld
  all_goals first
    | (
       have hzn : ∀ j ∈ b.fp, j ≠ w2.heap.size := fun j hj => Nat.ne_of_lt (H2.out.lt j hj)
       have A4 : CX ((w3.setCell ⟨w2.heap.size, 0, none⟩ (.int .i64 (-1 - y))).setCell ⟨w2.heap.size, 1, none⟩ (.int .i64 (n - 1))) b C := H3.out.keep fun j hj => (heap_setCell_other _ _ _ _ (hzn j hj)).trans (heap_setCell_other _ _ _ _ (hzn j hj))
       have E4 : Frm b.fp w ((w3.setCell ⟨w2.heap.size, 0, none⟩ (.int .i64 (-1 - y))).setCell ⟨w2.heap.size, 1, none⟩ (.int .i64 (n - 1))) := (F3.out.trans_new (Frm.setCell w3 (fp := [w2.heap.size]) (by simp) _) (by simpa using hbz)).trans_new (Frm.setCell _ (fp := [w2.heap.size]) (by simp) _) (by simpa using hbz)
       have Z5 : ((w3.setCell ⟨w2.heap.size, 0, none⟩ (.int .i64 (-1 - y))).setCell ⟨w2.heap.size, 1, none⟩ (.int .i64 (n - 1))).heap[w2.heap.size]? = some (.cells #[.int .i64 (-1 - y), .int .i64 (n - 1)] 75 (0, 0)) := heap_setCell_same _ _ 1 _ _ _ (heap_setCell_same _ _ 0 _ _ _ Z4.out)
       have hzw : w.heap.size ≤ w2.heap.size := hbz
       generalize (w3.setCell ⟨w2.heap.size, 0, none⟩ (.int .i64 (-1 - y))).setCell ⟨w2.heap.size, 1, none⟩ (.int .i64 (n - 1)) = W at A4 E4 Z5 ⊢
       generalize w2.heap.size = z at Z5 hzw ⊢)
    | (
       have A4 := H3.out.below (below_alloc0 w3 (.cells #[.int .i64 (-1 - y), .int .i64 (n - 1)] 75))
       have E4 := F3.out.trans (Frm.of_below b.fp (below_alloc0 w3 (.cells #[.int .i64 (-1 - y), .int .i64 (n - 1)] 75))) (fun x hx => .inl hx)
       have Z5 := heap_alloc_new w3 (.cells #[.int .i64 (-1 - y), .int .i64 (n - 1)] 75)
       have hzw : w.heap.size ≤ w3.heap.size := F3.out.size
       generalize w3.alloc (.cells #[.int .i64 (-1 - y), .int .i64 (n - 1)] 75) = W at A4 E4 Z5 ⊢
       generalize w3.heap.size = z at Z5 hzw ⊢)
  all_goals
    replace A4 := Lib.hid A4
    replace E4 := Lib.hid E4
    have y0 : W.cell? ⟨z, 0, none⟩ = some (.int .i64 (-1 - y)) := cell_of_row _ _ _ _ _ _ Z5
    have y1 : W.cell? ⟨z, 1, none⟩ = some (.int .i64 (n - 1)) := cell_of_row _ _ _ _ _ _ Z5
    replace Z5 := Lib.hid Z5
    obtain ⟨t3, t4, t5, t6⟩ := A4.out.chain HQ.out
    rw [T.out.ch] at t3 t4
    have hzc : z ≠ b.c := by have := heap_lt H.out.hd; omega
    go_wp2_with (go_at_call 66; refine (at_cad q k f HA.out _).mono ?_; rintro e w' ⟨rfl, rfl⟩)
    go_region_held3 (fun w' => w'.cell? ⟨z, 0, none⟩ = some (.int .i64 (-1 - y)) ∧ w'.cell? ⟨z, 1, none⟩ = some (.int .i64 (n - 1))) (first | (go_split_ands; exact ⟨cell_setB hzc (by assumption), cell_setB hzc (by assumption)⟩) | go_keep) (fail)
    rename_i hheld
    clear hheld
    have A6 := (A4.out.setChain HQ.out (-1 - y, n - 1)).below (Below.refl _ _).drew
    have E6 : Frm b.fp w ((W.setCell ⟨b.c, 2 + q * 2, none⟩ (.int .i64 (-1 - y))).setCell ⟨b.c, 2 + q * 2 + 1, none⟩ (.int .i64 (n - 1))).drew :=
      (E4.out.trans ((Frm.setCell _ (fp := b.fp) (by simp [Bl.fp]) _).trans (Frm.setCell _ (fp := b.fp) (by simp [Bl.fp]) _) (fun x hx => .inl hx)) (fun x hx => .inl hx)).trans (Frm.of_below b.fp (Below.refl _ _).drew) (fun x hx => .inl hx)
    generalize ((W.setCell ⟨b.c, 2 + q * 2, none⟩ (.int .i64 (-1 - y))).setCell ⟨b.c, 2 + q * 2 + 1, none⟩ (.int .i64 (n - 1))).drew = V at A6 E6 ⊢
    obtain ⟨-, v1, v3⟩ := A6.cells
    replace A6 := Lib.hid A6
    replace E6 := Lib.hid E6
    clear t3 t4 t5 t6 y0 y1
    have hcad := cad_in HO.out T.out.f0 T.out.f1
    have HC := Lib.hid hcad
    clear hcad
    go_wp2_with (go_at_call 52; refine (add_any A6.out.sx _).mono ?_; rintro e w7 ⟨rfl, hs, hf⟩; have hx := A6.out.withSx hf hs; have H7 := Lib.hid hx; have F7 := Lib.hid (E6.out.trans (hf.sub (fp' := b.fp) (by simp [Bl.fp])) (fun x hx => .inl hx)); obtain ⟨-, u1, -⟩ := hx.cells; clear hs hf hx)
    have M7 : Hid (CX w7.drew b { C with ch := C.ch.set q (-1 - y, n - 1), ws := addL C.xs.length C.ws (cad q k f) }) := Lib.hid (H7.out.below (Below.refl _ _).drew)
    go_region_held3 (fun w' => w'.cell? ⟨b.c, 1, none⟩ = some (.pointer (some ⟨b.m, 0, none⟩))) (first | assumption | go_keep)
      (first
        | ((go_at_call 49; refine (size_any k _).mono ?_; rintro e w8 ⟨rfl, rfl⟩))
        | ((go_at_call 53; refine (fill_int M7.out.mx (cad q k f) (sizeI k) 0 HC.out.2.1 (by have := HS.out; omega) (by have := HO.out.fit; have h9 := HC.out.2.2.2.1; have e9 : (({ C with ch := C.ch.set q (-1 - y, n - 1), ws := addL C.xs.length C.ws (cad q k f) } : Cs).xs.length) = C.xs.length := rfl; rw [e9]; omega)).mono ?_; rintro e w9 ⟨rfl, hm, hf⟩; have hx := M7.out.withMx hf hm (fillL_len _ _ _ _); have H9 := Lib.hid hx; have F9 := Lib.hid ((F7.out.trans (Frm.of_below b.fp (Below.refl _ _).drew) (fun x hx => .inl hx)).trans (hf.sub (fp' := b.fp) (by simp [Bl.fp])) (fun x hx => .inl hx)); obtain ⟨-, u9, -⟩ := hx.cells; clear hm hf hx)))
    go_wp2_with fail
    go_ret2
    exact ⟨rfl, H9.out, F9.out⟩
end
end Go.Proofs.YtjoejjhgneccgaaGreat

/- Cells: given back; a page dropped. -/
namespace Go.Proofs.YtjoejjhgneccgaaGreat
open Go.RowKit

section
variable {w : World} {b : Bl} {C : Cs}
theorem cgive_no (h : CX w b C) (a : Int) (hb : hasB C.xs.length C.ws a = false) :
    Calls Tryz.prog 45 #[.pointer (some ⟨b.c, 0, none⟩), .int .i64 a] w fun e w' => e = .returned (.bool false) ∧ w = w' := by
  have H := Lib.hid h
  have HB := Lib.hid hb
  clear h hb
  go_enter Tryz.func45, Tryz.ntmps45
  go_wp2_with (go_at_call 62; refine (cisa_any H.out a).mono ?_; rw [HB.out]; rintro e w' ⟨rfl, rfl⟩)
  go_ret
  exact ⟨rfl, rfl⟩
def giveL (C : Cs) (a : Int) : Cs := { C with ws := remL C.xs.length C.ws a, ks := freeL C.ks (pageI a) }
set_option maxHeartbeats 4000000 in
theorem cgive_large (h : CX w b C) (a : Int) (hb : hasB C.xs.length C.ws a = true) (hk : kindL C.ks (pageI a) = 5) :
    Calls Tryz.prog 45 #[.pointer (some ⟨b.c, 0, none⟩), .int .i64 a] w fun e w' => e = .returned (.bool true) ∧ CX w' b (giveL C a) ∧ Frm b.fp w w' := by
  have H := Lib.hid h
  have HB := Lib.hid hb
  have HK := Lib.hid hk
  obtain ⟨-, -, c3⟩ := h.cells
  clear h hb hk
  go_enter Tryz.func45, Tryz.ntmps45
  go_wp2_with (first
    | (go_at_call 62; refine (cisa_any H.out a).mono ?_; rw [HB.out]; rintro e w' ⟨rfl, rfl⟩)
    | (go_at_call 69; refine (rem_any H.out.sx a).mono ?_; rintro e w1 ⟨rfl, hs, hf⟩; have hx := H.out.withSx hf hs; have H1 := Lib.hid hx; have F1 := Lib.hid (hf.sub (fp' := b.fp) (by simp [Bl.fp])); clear hs hf hx)
    | (go_at_call 70; refine (gpage_any a _).mono ?_; rintro e w' ⟨rfl, rfl⟩)
    | (go_at_call 56; refine (ckind_any H1.out _).mono ?_; rw [HK.out]; rintro e w2 ⟨rfl, hb⟩; have hx := H1.out.below hb; have H2 := Lib.hid hx; have F2 := Lib.hid (F1.out.trans (Frm.of_below b.fp hb) (fun x hx => .inl hx)); obtain ⟨d0, -, -⟩ := hx.cells; clear hb hx)
    | (go_at_call 71; refine (pfree_any H2.out.tx _).mono ?_; rintro e w3 ⟨rfl, ht, hf⟩; have H3 := Lib.hid (H2.out.withTx hf ht (freeL_len _ _)); have F3 := Lib.hid (F2.out.trans (hf.sub (fp' := b.fp) (by simp [Bl.fp])) (fun x hx => .inl hx)); clear ht hf))
  go_ret
  exact ⟨rfl, H3.out, F3.out⟩
def giveS (C : Cs) (a : Int) (q : Nat) (k i f n : Int) : Cs := { C with ws := remL C.xs.length C.ws a, ch := C.ch.set q (i, n + 1), xs := putL C.xs (cad q k i) (-1 - f) }
/-- A cell of a small class's page, that may be given back. -/
structure GiveP (C : Cs) (a : Int) (q : Nat) (k i f n : Int) : Prop where
  q0 : q < C.ks.length
  pg : pageI a = q
  a0 : 0 ≤ a
  a1 : a < 2048
  kd : kindL C.ks q = k
  k0 : 1 ≤ k
  k1 : k ≤ 4
  al : a % sizeI k = 0
  ix : a % 32 / sizeI k = i
  i0 : 0 ≤ i
  i1 : i < cellsI k
  ch : C.ch.getD q (0, 0) = (f, n)
  n0 : 0 ≤ n
  n1 : n < cellsI k
  f0 : 0 ≤ f
  f1 : f ≤ cellsI k
set_option maxHeartbeats 8000000 in
set_option maxRecDepth 100000 in
theorem cgive_small (h : CX w b C) (a : Int) (hb : hasB C.xs.length C.ws a = true) (q : Nat) (k i f n : Int) (t : GiveP C a q k i f n) :
    Calls Tryz.prog 45 #[.pointer (some ⟨b.c, 0, none⟩), .int .i64 a] w fun e w' => e = .returned (.bool true) ∧ CX w' b (giveS C a q k i f n) ∧ Frm b.fp w w' := by
  have H := Lib.hid h
  have HB := Lib.hid hb
  have HK := Lib.hid t.kd
  have HPG := Lib.hid t.pg
  have hk5 : (k == 5) = false := by have := t.k1; simp; omega
  have hq64 : q < 64 := by have := t.q0; have := h.tx.le; omega
  have HQ := Lib.hid hq64
  have HO := Lib.hid (show OpP C.xs.length q k from ⟨by omega, by omega, t.k0, t.k1, by rw [h.len]; have := t.q0; omega⟩)
  have T := Lib.hid t
  have HSZ := Lib.hid (show sizeI k ≠ 0 by have := sizeI_pos ⟨t.k0, t.k1⟩; omega)
  have q1 : (0 : Int) ≤ (q : Int) := by omega
  have q2 : (q : Int) < 64 := by omega
  obtain ⟨-, -, c3⟩ := h.cells
  clear h hb t hq64
  go_enter Tryz.func45, Tryz.ntmps45
  go_wp2_with (first
    | (go_at_call 62; refine (cisa_any H.out a).mono ?_; rw [HB.out]; rintro e w' ⟨rfl, rfl⟩)
    | (go_at_call 69; refine (rem_any H.out.sx a).mono ?_; rintro e w1 ⟨rfl, hs, hf⟩; have hx := H.out.withSx hf hs; have H1 := Lib.hid hx; have F1 := Lib.hid (hf.sub (fp' := b.fp) (by simp [Bl.fp])); clear hs hf hx)
    | (go_at_call 70; refine (gpage_any a _).mono ?_; rw [HPG.out]; rintro e w' ⟨rfl, rfl⟩)
    | (go_at_call 56; refine (ckind_any H1.out _).mono ?_; rw [HK.out]; rintro e w2 ⟨rfl, hb⟩; have hx := H1.out.below hb; have H2 := Lib.hid hx; have F2 := Lib.hid (F1.out.trans (Frm.of_below b.fp hb) (fun x hx => .inl hx)); obtain ⟨-, d1, -⟩ := hx.cells; obtain ⟨d3, d4, -, -⟩ := hx.chain HQ.out; rw [T.out.ch] at d3 d4; clear hb hx)
    | (go_at_call 72; refine (gcell_yes k a HSZ.out T.out.a0 T.out.a1 T.out.al _).mono ?_; rw [T.out.ix]; rintro e w' ⟨rfl, rfl⟩))
  have G2 : Hid (CX w2.drew b { C with ws := remL C.xs.length C.ws a }) := Lib.hid (H2.out.below (Below.refl _ _).drew)
  have E2 : Hid (Frm b.fp w w2.drew) := Lib.hid (F2.out.trans (Frm.of_below b.fp (Below.refl _ _).drew) (fun x hx => .inl hx))
  go_region_with ((go_at_call 73; refine (cgive_yes G2.out.mx q k f n i HO.out T.out.n0 T.out.n1 T.out.f0 T.out.f1 T.out.i0 T.out.i1).mono ?_; rintro e w3 ⟨rfl, hm, hf⟩; have hx := G2.out.withMx hf hm (putL_len _ _ _); have H3 := Lib.hid hx; have F3 := Lib.hid (E2.out.trans (hf.sub (fp' := b.fp) (by simp [Bl.fp])) (fun x hx => .inl hx)); obtain ⟨-, e1, -⟩ := hx.cells; obtain ⟨e3, e4, e5, e6⟩ := hx.chain HQ.out; rw [show ({ C with ws := remL C.xs.length C.ws a, xs := putL C.xs (cad q k i) (-1 - f) } : Cs).ch = C.ch from rfl, T.out.ch] at e3 e4; clear hm hf hx))
  all_goals
    go_wp2_with fail
    go_ret
    exact ⟨rfl, H3.out.setChain HQ.out (i, n + 1), F3.out.trans ((Frm.setCell _ (fp := b.fp) (by simp [Bl.fp]) _).trans (Frm.setCell _ (fp := b.fp) (by simp [Bl.fp]) _) (fun x hx => .inl hx)) (fun x hx => .inl hx)⟩
set_option maxHeartbeats 4000000 in
theorem cdrop_no (h : CX w b C) (p : Int) (hd : ¬ (0 < sizeI (kindL C.ks p) ∧ cellsI (kindL C.ks p) ≤ leftL C p)) :
    Calls Tryz.prog 47 #[.pointer (some ⟨b.c, 0, none⟩), .int .i64 p] w fun e w' => e = .returned (.bool false) ∧ Below w.heap.size w w' := by
  have H := Lib.hid h
  clear h
  by_cases hs : 0 < sizeI (kindL C.ks p)
  · have hl : leftL C p < cellsI (kindL C.ks p) := by omega
    have HS := Lib.hid (show decide (0 < sizeI (kindL C.ks p)) = true by simpa using hs)
    clear hd hs
    go_enter Tryz.func47, Tryz.ntmps47
    go_wp2_with (first
      | (go_at_call 75; refine (csmall_any H.out p).mono ?_; rw [HS.out]; rintro e w1 ⟨rfl, hb⟩; have H1 := Lib.hid (H.out.below hb); have B1 := Lib.hid hb; clear hb)
      | (go_at_call 57; refine (cleft_any H1.out p).mono ?_; rintro e w2 ⟨rfl, hb⟩; have H2 := Lib.hid (H1.out.below hb); have B2 := Lib.hid (below_next B1.out hb); clear hb)
      | (go_at_call 56; refine (ckind_any H2.out p).mono ?_; rintro e w3 ⟨rfl, hb⟩; have B3 := Lib.hid (below_next B2.out hb); clear hb)
      | (go_at_call 76; refine (cells_any _ _).mono ?_; rintro e w' ⟨rfl, rfl⟩))
    go_ret
    exact ⟨rfl, B3.out⟩
  · have HS := Lib.hid (show decide (0 < sizeI (kindL C.ks p)) = false by simpa using hs)
    clear hd hs
    go_enter Tryz.func47, Tryz.ntmps47
    go_wp2_with (go_at_call 75; refine (csmall_any H.out p).mono ?_; rw [HS.out]; rintro e w1 ⟨rfl, hb⟩; have B1 := Lib.hid hb; clear hb)
    go_ret
    exact ⟨rfl, B1.out⟩
set_option maxHeartbeats 4000000 in
theorem cdrop_yes (h : CX w b C) (p : Int) (hs : 0 < sizeI (kindL C.ks p)) (hl : cellsI (kindL C.ks p) ≤ leftL C p) :
    Calls Tryz.prog 47 #[.pointer (some ⟨b.c, 0, none⟩), .int .i64 p] w fun e w' => e = .returned (.bool true) ∧ CX w' b { C with ks := freeL C.ks p } ∧ Frm b.fp w w' := by
  have H := Lib.hid h
  have hl' : ¬ (leftL C p < cellsI (kindL C.ks p)) := by omega
  have HS := Lib.hid (show decide (0 < sizeI (kindL C.ks p)) = true by simpa using hs)
  clear h hs hl
  go_enter Tryz.func47, Tryz.ntmps47
  go_wp2_with (first
    | (go_at_call 75; refine (csmall_any H.out p).mono ?_; rw [HS.out]; rintro e w1 ⟨rfl, hb⟩; have H1 := Lib.hid (H.out.below hb); have B1 := Lib.hid hb; clear hb)
    | (go_at_call 57; refine (cleft_any H1.out p).mono ?_; rintro e w2 ⟨rfl, hb⟩; have H2 := Lib.hid (H1.out.below hb); have B2 := Lib.hid (below_next B1.out hb); clear hb)
    | (go_at_call 56; refine (ckind_any H2.out p).mono ?_; rintro e w3 ⟨rfl, hb⟩; have hx := H2.out.below hb; have H3 := Lib.hid hx; have B3 := Lib.hid (below_next B2.out hb); obtain ⟨d0, -, -⟩ := hx.cells; clear hb hx)
    | (go_at_call 76; refine (cells_any _ _).mono ?_; rintro e w' ⟨rfl, rfl⟩)
    | (go_at_call 71; refine (pfree_any H3.out.tx p).mono ?_; rintro e w4 ⟨rfl, ht, hf⟩; have H4 := Lib.hid (H3.out.withTx hf ht (freeL_len _ _)); have F4 := Lib.hid ((Frm.of_below b.fp B3.out).trans (hf.sub (fp' := b.fp) (by simp [Bl.fp])) (fun x hx => .inl hx)); clear ht hf))
  go_ret
  exact ⟨rfl, H4.out, F4.out⟩
end
end Go.Proofs.YtjoejjhgneccgaaGreat
