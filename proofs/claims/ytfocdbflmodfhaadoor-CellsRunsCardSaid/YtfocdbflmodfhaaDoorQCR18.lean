/- Cells: each address in what is taken tells it, and no other. -/
import Derived.Test.YtfocdbflmodfhaaDoorQCR14
import Derived.Test.YtfocdbflmodfhaaDoorQCR16
import Derived.Test.YtfocdbflmodfhaaDoorQCR17
namespace Go.Proofs.YtfocdbflmodfhaaDoor
open Go.RowKit

theorem base_small {C : Cs} {F : Nat → List Int} (h : Inv C F) {a : Nat} (ha : a ∈ bitsN C.ws) (hs : 0 < sizeI (C.ks.getD (a / 32) 0)) {x : Int} (h1 : (a : Int) ≤ x) (h2 : x < a + sizeI (C.ks.getD (a / 32) 0)) : baseC C x = a := by
  obtain ⟨hl, ht⟩ := bits_lt h ha
  have hle := h.le
  have hk : 1 ≤ C.ks.getD (a / 32) 0 ∧ C.ks.getD (a / 32) 0 ≤ 4 := by
    apply Decidable.byContradiction; intro hc
    rw [sizeI_zero (by omega)] at hs; omega
  obtain ⟨k, ek⟩ : ∃ k, k = C.ks.getD (a / 32) 0 := ⟨_, rfl⟩
  rcases tk_cases ht with ⟨k1, k4, al, _⟩ | ⟨h5, _⟩
  · rw [← ek] at hk al hs h2
    have hd := size_div hk al
    have hsz := sizeI_pos hk
    have hhas := has_of h ha
    have h3 : x - x % sizeI k = a := by
      have hc : k = 1 ∨ k = 2 ∨ k = 3 ∨ k = 4 := by omega
      rcases hc with rfl | rfl | rfl | rfl <;> simp [sizeI] at * <;> omega
    have hp : pageI x = ((a / 32 : Nat) : Int) := by rw [pageI_in (by omega) (by omega)]; omega
    have hkx : kindL C.ks (pageI x) = k := by rw [hp, kindL_in (by omega), ek]
    have hbx : baseI k x = a := by rw [baseI_in (by omega) (by omega) (by omega)]; exact h3
    have hg : begC C x = a := by unfold begC; rw [hkx, hbx, if_neg (by omega)]
    unfold baseC; rw [hg, if_pos hhas]
  · omega
theorem base_large {C : Cs} {F : Nat → List Int} (h : Inv C F) {a : Nat} (ha : a ∈ bitsN C.ws) (hs : ¬ 0 < sizeI (C.ks.getD (a / 32) 0)) {x : Int} (h1 : (a : Int) ≤ x) (h2 : x < (a + 32 * (1 + run6 C.ks (a / 32 + 1)) : Nat)) : baseC C x = a := by
  obtain ⟨h5, h0, hend, -⟩ := apart_large h ha hs
  have hle := h.le
  have hhas := has_of h ha
  obtain ⟨r, er⟩ : ∃ r, r = run6 C.ks (a / 32 + 1) := ⟨_, rfl⟩
  rw [← er] at h2 hend
  have h6 : ∀ j, j < r → C.ks.getD (a / 32 + 1 + j) 0 = 6 := fun j hj => run6_all _ _ _ (by rw [← er]; exact hj)
  obtain ⟨d, hd⟩ : ∃ d : Nat, (x : Int) / 32 = ((a / 32 + d : Nat) : Int) := ⟨(x / 32 - a / 32).toNat, by omega⟩
  have hdr : d ≤ r := by omega
  have hp : pageI x = ((a / 32 + d : Nat) : Int) := by rw [pageI_in (by omega) (by omega)]; exact hd
  have hkd : kindL C.ks ((a / 32 + d : Nat) : Int) = 5 ∨ kindL C.ks ((a / 32 + d : Nat) : Int) = 6 := by
    rw [kindL_in (by omega)]
    by_cases e : d = 0
    · subst e; left; exact h5
    · right
      have := h6 (d - 1) (by omega)
      rwa [show a / 32 + 1 + (d - 1) = a / 32 + d by omega] at this
  have hz : sizeI (kindL C.ks ((a / 32 + d : Nat) : Int)) = 0 := by rcases hkd with e | e <;> rw [e] <;> rfl
  have hbx : baseI (kindL C.ks ((a / 32 + d : Nat) : Int)) x = -1 := baseI_out (.inl hz)
  have hdn : downL C.ks (a / 32 + d) = ((a / 32 : Nat) : Int) := down_to (by rw [h5]; omega) (by omega) d (by omega) (fun j h1 h2 => by
    have := h6 (j - 1) (by omega)
    rwa [show a / 32 + 1 + (j - 1) = a / 32 + j by omega] at this)
  have hsz : sizeL C.ks ((a / 32 : Nat) : Int) ≠ 0 := by
    unfold sizeL
    rw [kindL_in (by omega), h5, if_neg (by simp [sizeI]), if_neg (by simp)]
    omega
  have hf : firstL C.ks ((a / 32 + d : Nat) : Int) = ((a / 32 : Nat) : Int) := by
    unfold firstL
    simp only [if_neg (show ¬ ((a / 32 + d : Nat) : Int) < 0 by omega), Int.toNat_natCast, hdn]
    rw [if_neg hsz]
  have hg : begC C x = a := by
    unfold begC
    rw [hp, hbx, hf, if_pos (by omega)]
    omega
  unfold baseC; rw [hg, if_pos hhas]
theorem base_in {C : Cs} {F : Nat → List Int} (h : Inv C F) {a : Nat} (ha : a ∈ bitsN C.ws) {x : Int} (h1 : (a : Int) ≤ x) (h2 : x < endN C a) : baseC C x = a := by
  unfold endN at h2
  by_cases hs : 0 < sizeI (C.ks.getD (a / 32) 0)
  · rw [if_pos hs] at h2
    exact base_small h ha hs h1 (by omega)
  · rw [if_neg hs] at h2
    exact base_large h ha hs h1 h2
theorem down_back (ks : List Int) : ∀ p : Nat, 0 ≤ downL ks p → ∃ f d : Nat, downL ks p = f ∧ p = f + d ∧ kindL ks f ≠ 6 ∧ ∀ j, 1 ≤ j → j ≤ d → kindL ks ((f + j : Nat) : Int) = 6
  | 0, h => by
    by_cases e : kindL ks 0 = 6
    · rw [downL_zero e] at h; omega
    · exact ⟨0, 0, downL_stop (p := 0) e, rfl, e, fun j h1 h2 => by omega⟩
  | p + 1, h => by
    by_cases e : kindL ks ((p + 1 : Nat) : Int) = 6
    · rw [downL_step e] at h ⊢
      obtain ⟨f, d, h1, h2, h3, h4⟩ := down_back ks p h
      refine ⟨f, d + 1, h1, by omega, h3, fun j j1 j2 => ?_⟩
      by_cases ej : j = d + 1
      · subst ej
        rw [show f + (d + 1) = p + 1 by omega]; exact e
      · exact h4 j j1 (by omega)
    · exact ⟨p + 1, 0, downL_stop e, rfl, e, fun j h1 h2 => by omega⟩
theorem run6_ge {ks : List Int} : ∀ (d q : Nat), (∀ j, j < d → kindL ks ((q + j : Nat) : Int) = 6) → d ≤ run6 ks q
  | 0, _, _ => Nat.zero_le _
  | d + 1, q, h => by
    rw [run6_step (ks := ks) (q := q) (by have := h 0 (by omega); simpa using this)]
    have := run6_ge d (q + 1) (fun j hj => by
      have := h (j + 1) (by omega)
      rwa [show q + (j + 1) = q + 1 + j by omega] at this)
    omega
theorem base_back {C : Cs} {F : Nat → List Int} (h : Inv C F) {x : Int} (h0 : 0 ≤ baseC C x) : ∃ a : Nat, a ∈ bitsN C.ws ∧ baseC C x = a ∧ (a : Int) ≤ x ∧ x < endN C a := by
  have hle := h.le
  unfold baseC at h0 ⊢
  split at h0
  case isFalse => omega
  case isTrue hb =>
    rw [if_pos hb]
    obtain ⟨a, ea, hl, hbit, ht⟩ := has_tk h hb
    have ha : a ∈ bitsN C.ws := by
      unfold bitsN
      rw [List.mem_filter, List.mem_range]
      exact ⟨by omega, hbit⟩
    refine ⟨a, ha, ea, ?_⟩
    have hx : 0 ≤ x ∧ x < 2048 := by
      apply Decidable.byContradiction; intro hc
      have hp : pageI x = -1 := by unfold pageI; rw [if_pos (by omega)]
      unfold begC at ea
      rw [hp, kindL_out (.inl (by omega))] at ea
      have h1 : baseI (-1) x = -1 := baseI_out (.inl rfl)
      have h2 : firstL C.ks (-1) = -1 := by unfold firstL; simp
      rw [h1, h2, if_neg (by omega)] at ea
      omega
    obtain ⟨y, rfl⟩ := Int.eq_ofNat_of_zero_le hx.1
    have hp : pageI (y : Int) = ((y / 32 : Nat) : Int) := by rw [pageI_in (by omega) (by omega)]; omega
    unfold begC at ea
    rw [hp] at ea
    by_cases hz : sizeI (kindL C.ks ((y / 32 : Nat) : Int)) = 0
    · rw [show baseI (kindL C.ks ((y / 32 : Nat) : Int)) y = -1 from baseI_out (.inl hz)] at ea
      by_cases hf : 0 ≤ firstL C.ks ((y / 32 : Nat) : Int)
      · rw [if_pos (by omega)] at ea
        have hfd : firstL C.ks ((y / 32 : Nat) : Int) = downL C.ks (y / 32) := by
          unfold firstL at hf ⊢
          rw [if_neg (show ¬ ((y / 32 : Nat) : Int) < 0 by omega), Int.toNat_natCast] at hf ⊢
          simp only at hf ⊢
          split at hf
          · omega
          · rename_i hne
            rw [if_neg hne]
        rw [hfd] at ea hf
        obtain ⟨f, d, e1, e2, e3, e4⟩ := down_back C.ks (y / 32) hf
        rw [e1] at ea
        obtain rfl : a = f * 32 := by omega
        have hfl : f < C.ks.length := by omega
        have e5 : f * 32 / 32 = f := by omega
        rcases tk_cases ht with ⟨k1, k4, -⟩ | ⟨h5, -⟩
        · rw [e5] at k1 k4
          by_cases hd : d = 0
          · subst hd
            rw [show y / 32 = f by omega, kindL_in hfl] at hz
            have := sizeI_pos ⟨k1, k4⟩
            omega
          · have h6 := e4 1 (by omega) (by omega)
            have hl1 : f + 1 < C.ks.length := by
              apply Decidable.byContradiction; intro hc
              rw [kindL_out (.inr (by omega))] at h6; omega
            rw [kindL_in hl1] at h6
            have := (h.sx (f + 1) hl1 h6).2
            rw [show f + 1 - 1 = f by omega] at this
            omega
        · rw [e5] at h5
          have hr := run6_ge (ks := C.ks) d (f + 1) (fun j hj => by
            have := e4 (j + 1) (by omega) (by omega)
            rwa [show f + (j + 1) = f + 1 + j by omega] at this)
          have hend : endN C (f * 32) = f * 32 + 32 * (1 + run6 C.ks (f + 1)) := by
            unfold endN
            rw [e5, h5, if_neg (by simp [sizeI])]
          rw [hend]
          omega
      · rw [if_neg (by omega)] at ea
        omega
    · have hk : 1 ≤ kindL C.ks ((y / 32 : Nat) : Int) ∧ kindL C.ks ((y / 32 : Nat) : Int) ≤ 4 := by
        apply Decidable.byContradiction; intro hc
        exact hz (sizeI_zero (by omega))
      obtain ⟨k, ek⟩ : ∃ k, k = kindL C.ks ((y / 32 : Nat) : Int) := ⟨_, rfl⟩
      rw [← ek] at ea hk hz
      have hsz := sizeI_pos hk
      rw [baseI_in (by omega) (by omega) (by omega), if_neg (by
        have hc : k = 1 ∨ k = 2 ∨ k = 3 ∨ k = 4 := by omega
        have : 0 ≤ (y : Int) - y % sizeI k := by rcases hc with rfl | rfl | rfl | rfl <;> simp [sizeI] <;> omega
        omega)] at ea
      have hya : a / 32 = y / 32 ∧ (a : Int) ≤ y ∧ (y : Int) < a + sizeI k := by
        have hc : k = 1 ∨ k = 2 ∨ k = 3 ∨ k = 4 := by omega
        rcases hc with rfl | rfl | rfl | rfl <;> simp [sizeI] at * <;> omega
      have hyl : y / 32 < C.ks.length := by omega
      rw [kindL_in hyl] at ek
      have hend : endN C a = a + (sizeI k).toNat := by
        unfold endN
        rw [hya.1, ← ek, if_pos (by omega)]
      rw [hend]
      omega
end Go.Proofs.YtfocdbflmodfhaaDoor

/- The law's book of what is taken: in memory; size, base. -/
namespace Go.Proofs.YtfocdbflmodfhaaDoor
open Go.RowKit

def bkC (h : Nat) (tv : Value) (ws : List Int) : Array Value := (.pointer (some ⟨h, 0, none⟩) :: tv :: ws.map (Value.int .i64)).toArray
structure Bk (base : Nat) (w : World) (bk h : Nat) (tv : Value) (ts ws : List Int) : Prop where
  hd : w.heap[bk]? = some (.cells (bkC h tv ws) 42 (0, 0))
  own : base ≤ bk
  tk : IRow base w tv ts
  tl : ts.length ≤ 50
  wl : ws.length = 2048
section
variable {base bk h : Nat} {w w' : World} {kv tv : Value} {fv rest : List Value} {ks ts ws : List Int} {F : Nat → List Int}
theorem Bk.below (H : Bk base w bk h tv ts ws) (hb : Below w.heap.size w w') : Bk base w' bk h tv ts ws := ⟨keep hb H.hd, H.own, H.tk.below hb, H.tl, H.wl⟩
theorem Bk.cells (H : Bk base w bk h tv ts ws) : w.cell? ⟨bk, 0, none⟩ = some (.pointer (some ⟨h, 0, none⟩)) ∧ w.cell? ⟨bk, 1, none⟩ = some tv ∧ ∀ x, x < 2048 → w.cell? ⟨bk, 2 + x, none⟩ = some (.int .i64 (ws.getD x 0)) := by
  refine ⟨cell_of_row _ _ _ _ _ _ H.hd, cell_of_row _ _ _ _ _ _ H.hd, fun x hx => ?_⟩
  rw [cell_of_row _ _ _ _ _ _ H.hd]
  unfold bkC
  rw [List.getElem?_toArray, show 2 + x = x + 1 + 1 by omega, List.getElem?_cons_succ, List.getElem?_cons_succ, List.getElem?_map, List.getD_eq_getElem?_getD, List.getElem?_eq_getElem (by rw [H.wl]; exact hx)]; rfl
theorem Bk.frozen (H : Bk base w bk h tv ts ws) (o : Nat) : w.frozen? ⟨bk, o, none⟩ = false := frozen_of_row _ _ _ _ _ H.hd
/-- How many words what begins at an address has. -/
def bsize (ks : List Int) (a : Nat) : Int := if kindL ks ((a / 32 : Nat) : Int) = 5 then 32 * sizeL ks ((a / 32 : Nat) : Int) else sizeI (kindL ks ((a / 32 : Nat) : Int))
theorem bsize_bd (ks : List Int) (hl : ks.length ≤ 64) (a : Nat) : 0 ≤ bsize ks a ∧ bsize ks a ≤ 2080 := by
  have h1 := sizeL_bd ks ((a / 32 : Nat) : Int)
  have h2 := sizeI_bd (kindL ks ((a / 32 : Nat) : Int))
  unfold bsize
  split <;> omega
set_option maxHeartbeats 1000000 in
set_option maxRecDepth 100000 in
theorem bsize_any (H0 : Hp base w h kv fv rest ks F) (B0 : Bk base w bk h tv ts ws) (a : Nat) (ha : a < 2048) :
    Calls Tryd.prog 65 #[.pointer (some ⟨bk, 0, none⟩), .int .i64 a] w fun e w' => e = .returned (.int .i64 (bsize ks a)) ∧ Below w.heap.size w w' := by
  have H := Lib.hid H0
  have HKL := Lib.hid H0.kl
  obtain ⟨c0, -⟩ := B0.cells
  obtain ⟨d0, -⟩ := H0.cells
  obtain ⟨A, cap, rfl, -⟩ := H0.kr.slice
  obtain ⟨q, hq⟩ : ∃ q, q = a / 32 := ⟨_, rfl⟩
  have e1 : (a : Int) / 32 = (q : Int) := by omega
  have a0 : (0 : Int) ≤ (a : Int) := by omega
  have a1 : (a : Int) < 2048 := by omega
  by_cases h5 : kindL ks (q : Int) = 5
  · obtain ⟨m, hm⟩ := Int.eq_ofNat_of_zero_le (sizeL_bd ks (q : Int)).1
    have hm64 : m ≤ 65 := by have := (sizeL_bd ks (q : Int)).2; have := H0.kl; omega
    have HM := Lib.hid hm
    have HR := Lib.hid (show bsize ks a = 32 * (m : Int) by unfold bsize; rw [← hq, if_pos h5, hm])
    have HK := Lib.hid h5
    clear H0 B0 hq ha h5 hm
    go_enter Tryd.func65, Tryd.ntmps65
    go_wp2_with (first
      | (go_at_call 62; refine (fkind_any H.out.kr _).mono ?_; rw [HK.out]; rintro e w' ⟨rfl, rfl⟩)
      | (go_at_call 91; refine (fsize_any H.out.kr HKL.out _).mono ?_; rw [HM.out]; rintro e w1 ⟨rfl, hb⟩; have B1 := Lib.hid hb; clear hb))
    go_ret
    exact ⟨ret_int HR.out.symm, B1.out⟩
  · have HR := Lib.hid (show bsize ks a = sizeI (kindL ks (q : Int)) by unfold bsize; rw [← hq, if_neg h5])
    have h5' : (kindL ks (q : Int) == 5) = false := by simpa using h5
    clear H0 B0 hq ha h5
    go_enter Tryd.func65, Tryd.ntmps65
    go_wp2_with (first
      | (go_at_call 62; refine (fkind_any H.out.kr _).mono ?_; rintro e w' ⟨rfl, rfl⟩)
      | (go_at_call 15; refine (rsize_any _ _).mono ?_; rintro e w1 ⟨rfl, hb⟩; have B1 := Lib.hid hb; clear hb))
    go_ret
    exact ⟨ret_int HR.out.symm, B1.out⟩
/-- What has an address: the first that is found. -/
def inAt (ks : List Int) (x : Int) (a : Int) : Bool := decide (a ≤ x ∧ x < a + bsize ks a.toNat)
def bbase (ks ts : List Int) (x : Int) : Int := (ts.find? (inAt ks x)).getD (-1)
theorem find_at {ts : List Int} {f : Int → Bool} {i : Nat} (hi : i < ts.length) (hf : f (ts.getD i 0) = true) (hj : ∀ j, j < i → f (ts.getD j 0) = false) : ts.find? f = some (ts.getD i 0) := by
  rw [List.getD_eq_getElem?_getD, List.getElem?_eq_getElem hi] at hf ⊢
  rw [List.find?_eq_some_iff_getElem]
  refine ⟨hf, i, hi, rfl, fun j hj' => ?_⟩
  have := hj j hj'
  rw [List.getD_eq_getElem?_getD, List.getElem?_eq_getElem (by omega)] at this
  simpa using this
theorem find_no {ts : List Int} {f : Int → Bool} (hj : ∀ j, j < ts.length → f (ts.getD j 0) = false) : ts.find? f = none := by
  rw [List.find?_eq_none]
  intro x hx
  obtain ⟨j, hj', e⟩ := List.getElem_of_mem hx
  have := hj j hj'
  rw [List.getD_eq_getElem?_getD, List.getElem?_eq_getElem hj', e] at this
  simpa using this
set_option maxHeartbeats 2000000 in
set_option maxRecDepth 100000 in
theorem bbase_any (H0 : Hp base w h kv fv rest ks F) (B0 : Bk base w bk h tv ts ws) (ht : ∀ x ∈ ts, 0 ≤ x ∧ x < 2048) (x : Int) :
    Calls Tryd.prog 60 #[.pointer (some ⟨bk, 0, none⟩), .int .i64 x] w fun e w' => e = .returned (.int .i64 (bbase ks ts x)) ∧ Below w.heap.size w w' := by
  have H := Lib.hid H0
  have HB := Lib.hid B0
  have HT := Lib.hid ht
  have HL := Lib.hid B0.tl
  have HKL := Lib.hid H0.kl
  obtain ⟨A, cap, rfl, -⟩ := B0.tk.slice
  have hn := B0.tl
  obtain ⟨n, hnl⟩ : ∃ n, n = ts.length := ⟨_, rfl⟩
  rw [← hnl] at hn HB
  have HN := Lib.hid hnl
  have C0 := Lib.hid (Below.refl w.heap.size w)
  clear H0 B0 ht hnl
  go_enter Tryd.func60, Tryd.ntmps60
  go_wp2_with fail
  go_loopw [5] (fun a wr => ∃ i : Nat, i ≤ n ∧ a = .int .i64 i ∧ Hid (∀ j, j < i → inAt ks x (ts.getD j 0) = false) ∧ Hid (Below w.heap.size w wr)) (fun a _ => n - (intOf a).toNat)
  case atStart => exact ⟨0, Nat.zero_le _, rfl, Lib.hid (fun j hj => by omega), C0⟩
  case round =>
    clear C0
    obtain ⟨i, hi, rfl, HJ, HW⟩ := hrel
    have hbk := HB.out.below HW.out
    have HK := Lib.hid hbk
    have HH := Lib.hid (H.out.below HW.out)
    obtain ⟨-, c1, -⟩ := hbk.cells
    have i0 : (0 : Int) ≤ (i : Int) := by omega
    by_cases hlt : i < n
    · have hd : decide ((i : Int) < (n : Int)) = true := by simpa using hlt
      have i1 : (i : Int) < (n : Int) := by omega
      obtain ⟨g, rfl, cc⟩ := hbk.tk.at_.2 i hlt
      obtain ⟨y, hy⟩ : ∃ y, y = ts.getD i 0 := ⟨_, rfl⟩
      have hym := HT.out y (by
        rw [hy, List.getD_eq_getElem?_getD, List.getElem?_eq_getElem (by rw [← HN.out]; exact hlt)]
        exact List.getElem_mem _)
      rw [← hy] at cc
      obtain ⟨a, rfl⟩ := Int.eq_ofNat_of_zero_le hym.1
      have ha : a < 2048 := by omega
      have HA := Lib.hid ha
      obtain ⟨z, hz⟩ := Int.eq_ofNat_of_zero_le (bsize_bd ks HKL.out a).1
      have hz2 : z ≤ 2080 := by have := (bsize_bd ks HKL.out a).2; omega
      have HZ := Lib.hid hz
      have a0 : (0 : Int) ≤ (a : Int) := by omega
      have a1 : (a : Int) < 2048 := by omega
      have HY := Lib.hid hy
      have hdec : inAt ks x (a : Int) = decide ((a : Int) ≤ x ∧ x < (a : Int) + (z : Int)) := by unfold inAt; rw [Int.toNat_natCast, hz]
      by_cases h1 : (a : Int) ≤ x
      · have h1' : decide ((a : Int) ≤ x) = true := by simpa using h1
        by_cases h2 : x < (a : Int) + (z : Int)
        · have h2' : decide (x < (a : Int) + (z : Int)) = true := by simpa using h2
          have HF := Lib.hid (show bbase ks ts x = a by
            unfold bbase
            rw [find_at (i := i) (by rw [← HN.out]; exact hlt) (by rw [← hy, hdec, decide_eq_true_eq]; exact ⟨h1, h2⟩) HJ.out, ← hy]; rfl)
          clear hbk hy hym hz hdec HJ ha h1 h2
          go_wp2_with (go_at_call 65; refine (bsize_any HH.out HK.out a HA.out).mono ?_; rw [HZ.out]; rintro e w2 ⟨rfl, hb⟩; have B2 := Lib.hid (below_next HW.out hb); clear hb)
          go_ret
          exact ⟨ret_int HF.out.symm, B2.out⟩
        · have h2' : decide (x < (a : Int) + (z : Int)) = false := by simpa using h2
          have HJ' := Lib.hid (show ∀ j, j < i + 1 → inAt ks x (ts.getD j 0) = false from fun j hj => by
            by_cases e : j = i
            · rw [e, ← hy, hdec, decide_eq_false_iff_not]; exact fun c => h2 c.2
            · exact HJ.out j (by omega))
          clear hbk hy hym hz hdec HJ ha h1 h2
          go_wp2_with (go_at_call 65; refine (bsize_any HH.out HK.out a HA.out).mono ?_; rw [HZ.out]; rintro e w2 ⟨rfl, hb⟩; have B2 := Lib.hid (below_next HW.out hb); clear hb)
          go_roundw
          case rel => exact ⟨i + 1, by omega, by go_num, HJ', B2⟩
          case measure => simp [intOf]; omega
      · have h1' : decide ((a : Int) ≤ x) = false := by simpa using h1
        have HJ' := Lib.hid (show ∀ j, j < i + 1 → inAt ks x (ts.getD j 0) = false from fun j hj => by
          by_cases e : j = i
          · rw [e, ← hy, hdec, decide_eq_false_iff_not]; exact fun c => h1 c.1
          · exact HJ.out j (by omega))
        clear hbk hy hym hz hdec HJ ha h1
        go_wp2_with fail
        go_roundw
        case rel => exact ⟨i + 1, by omega, by go_num, HJ', HW⟩
        case measure => simp [intOf]; omega
    · have hd : decide ((i : Int) < (n : Int)) = false := by simpa using hlt
      have HF := Lib.hid (show bbase ks ts x = -1 by
        unfold bbase
        rw [find_no (fun j hj => HJ.out j (by have := HN.out; omega))]; rfl)
      clear hbk
      go_wp2_with fail
      go_ret
      exact ⟨ret_int HF.out.symm, HW.out⟩
end
end Go.Proofs.YtfocdbflmodfhaaDoor

/- The law's book: put. -/
namespace Go.Proofs.YtfocdbflmodfhaaDoor
open Go.RowKit

theorem Frm.below_base {base : Nat} {w w' : World} {fp : List Nat} (h : Frm fp w w') (hb : base ≤ w.heap.size) (hf : ∀ x ∈ fp, base ≤ x) : Below base w w' := ⟨h.os, h.tape, h.output, h.size, fun k hk => h.block k (Nat.lt_of_lt_of_le hk hb) (fun hm => by have := hf k hm; omega)⟩
theorem below_base {base : Nat} {w w' : World} (h : Below w.heap.size w w') (hb : base ≤ w.heap.size) : Below base w w' := h.mono hb
section
variable {base bk h : Nat} {w w' : World} {kv tv : Value} {fv rest : List Value} {ks ts ws : List Int} {F : Nat → List Int}
theorem Bk.setTaken (hd : w.heap[bk]? = some (.cells (bkC h tv ws) 42 (0, 0))) (ho : base ≤ bk) (hw : ws.length = 2048) {tv' : Value} {ts' : List Int} (ht : IRow base w tv' ts') (hl : ts'.length ≤ 50) :
    Bk base (w.setCell ⟨bk, 1, none⟩ tv') bk h tv' ts' ws := by
  refine ⟨?_, ho, ht.keepAt hd (by decide) (fun k hne => heap_setCell_other _ _ _ _ (fun e => hne e)), hl, hw⟩
  rw [heap_setCell_same _ _ _ _ _ _ hd]
  rfl
theorem Bk.setWord (H : Bk base w bk h tv ts ws) {x : Nat} (y : Int) : Bk base (w.setCell ⟨bk, 2 + x, none⟩ (.int .i64 y)) bk h tv ts (ws.set x y) := by
  refine ⟨?_, H.own, H.tk.keepAt H.hd (by decide) (fun k hne => heap_setCell_other _ _ _ _ (fun e => hne e)), H.tl, by rw [List.length_set]; exact H.wl⟩
  rw [heap_setCell_same _ _ _ _ _ _ H.hd]
  congr 2
  unfold bkC
  rw [List.setIfInBounds_toArray, show 2 + x = x + 1 + 1 by omega, List.set_cons_succ, List.set_cons_succ, List.map_set]
theorem Hp.other {c : Array Value} {T : TypeId} {z : Nat} (H : Hp base w h kv fv rest ks F) (hz : w.heap[z]? = some (.cells c T (0, 0))) (h1 : T ≠ 80) (h2 : T ≠ 3) (hk : ∀ k, k ≠ z → w'.heap[k]? = w.heap[k]?) : Hp base w' h kv fv rest ks F := by
  refine H.stays (hk h fun e => ?_) (fun g hg => hk g fun e => ?_)
  · have := H.hd
    rw [e, hz] at this
    simp only [Option.some.injEq, Obj.cells.injEq] at this
    exact h1 this.2.1
  · subst e
    obtain ⟨-, cur, hh⟩ := H.rows g hg
    rw [hz] at hh
    simp only [Option.some.injEq, Obj.cells.injEq] at hh
    exact h2 hh.2.1
/-- The row of what is taken has grown. -/
theorem put_grown {v1 : Value} {w1 : World} {a : Int} (H : Hp base w h kv fv rest ks F) (B : Bk base w bk h tv ts ws) (hs : ∀ g, oblk tv = some g → g ∉ hrows kv fv) (hl : ts.length + 1 ≤ 50)
    (hr : IRow base w1 v1 (ts ++ [a])) (hg : (w.alloc (.cells #[.int .i64 a] 3 (0, 0))).grownBy w1 tv.ownBlock) :
    Bk base (w1.setCell ⟨bk, 1, none⟩ v1) bk h v1 (ts ++ [a]) ws ∧ Hp base (w1.setCell ⟨bk, 1, none⟩ v1) h kv fv rest ks F ∧ w1.frozen? ⟨bk, 1, none⟩ = false ∧ w1.cell? ⟨bk, 1, none⟩ = some tv := by
  have ob : tv.ownBlock = oblk tv := by unfold Value.ownBlock oblk; rfl
  have kk : ∀ k, k < w.heap.size → (∀ g, oblk tv = some g → g ≠ k) → w1.heap[k]? = w.heap[k]? := fun k hk hne =>
    (hg.block k (by simp only [World.size_alloc]; omega) (fun e => hne k (by rw [← ob]; exact e.symm) rfl)).trans ((below_alloc0 w _).block k hk)
  have ne : ∀ {k : Nat} {c : Array Value} {T : TypeId}, w.heap[k]? = some (.cells c T (0, 0)) → T ≠ 3 → ∀ g, oblk tv = some g → g ≠ k := fun hk hT g hg e => by
    subst e
    obtain ⟨-, cur, hh⟩ := B.tk.oblk g hg
    rw [hk] at hh
    simp only [Option.some.injEq, Obj.cells.injEq] at hh
    exact hT hh.2.1
  have kb := kk bk (heap_lt B.hd) (ne B.hd (by decide))
  have hd1 := kb.trans B.hd
  have H1 : Hp base w1 h kv fv rest ks F := H.stays (kk h (heap_lt H.hd) (ne H.hd (by decide))) fun g hgr => by
    obtain ⟨-, cur, hh⟩ := H.rows g hgr
    exact kk g (heap_lt hh) fun g' e e' => hs g' e (e' ▸ hgr)
  exact ⟨Bk.setTaken hd1 B.own B.wl hr (by rw [List.length_append]; exact hl), H1.other hd1 (by decide) (by decide) (fun k hne => heap_setCell_other _ _ _ _ (fun e => hne e)), frozen_of_row _ _ _ _ _ hd1, cell_of_row _ _ _ _ _ _ hd1⟩
/-- What is put leaves: the book, with a row of its own that is new. -/
def BkE (base bk h : Nat) (kv : Value) (fv rest : List Value) (ks : List Int) (F : Nat → List Int) (ts ws : List Int) (n : Nat) (w' : World) : Prop := Hp base w' h kv fv rest ks F ∧ ∃ tv, Bk base w' bk h tv ts ws ∧ ∀ g, oblk tv = some g → n ≤ g
set_option maxHeartbeats 4000000 in
set_option maxRecDepth 100000 in
theorem bput_any (H0 : Hp base w h kv fv rest ks F) (B0 : Bk base w bk h tv ts ws) (hs : ∀ g, oblk tv = some g → g ∉ hrows kv fv) (hb0 : base ≤ w.heap.size) (a n : Nat) (hn : bsize ks a = (n : Int)) (ha : a < 2048) (han : a + n ≤ 2048) (htl : ts.length + 1 ≤ 50) :
    Calls Tryd.prog 87 #[.pointer (some ⟨bk, 0, none⟩), .int .i64 a] w fun e w' => e = .returned (.tuple #[]) ∧ BkE base bk h kv fv rest ks F (risL (ts ++ [(a : Int)])) (fillL ws a n 0) w.heap.size w' ∧ Below base w w' := by
  have H := Lib.hid H0
  have B := Lib.hid B0
  have HS := Lib.hid hs
  have HB := Lib.hid hb0
  have HN := Lib.hid hn
  have HA := Lib.hid ha
  have HT := Lib.hid htl
  have HT1 := Lib.hid (show ts.length + 1 ≤ 1000000 by omega)
  obtain ⟨-, c1, -⟩ := B0.cells
  have fz := B0.frozen 1
  obtain ⟨A, cap, rfl, -⟩ := B0.tk.slice
  have a0 : (0 : Int) ≤ (a : Int) := by omega
  have a1 : (a : Int) < 2048 := by omega
  clear H0 B0 hs hb0 hn ha htl
  go_enter Tryd.func87, Tryd.ntmps87
  go_wp2_with (first
    | (at_builtin; refine wpList_append_num rfl (.tmp 9) (.tmp 11) (by rfl) base w _ ts (a : Int) (by rfl) B.out.tk (by rfl) HT1.out (Below.refl _ _) HB.out ?_
       intro v1 w1 hr1 hb1 hgrow
       obtain ⟨p1, q1, rfl, -⟩ := hr1.slice
       rw [List.length_append, List.length_singleton] at hr1
       obtain ⟨hx1, hx2, f1, d1⟩ := put_grown H.out B.out HS.out HT.out hr1 hgrow
       have B2 := Lib.hid hx1
       have H2 := Lib.hid hx2
       have L1 := Lib.hid hb1
       clear hx1 hx2 hr1 hb1 hgrow)
    | (go_at_call 97; refine (rising_any B2.out.tk (Nat.le_trans HT.out (by decide))).mono ?_
       rintro e w3 ⟨⟨A3, n3, q3, rfl, hr3⟩, hb3⟩
       have B3 := Lib.hid (B2.out.below hb3)
       have H3 := Lib.hid (H2.out.below hb3)
       have R3 := Lib.hid hr3
       have L3 := Lib.hid hb3
       have f3 := B3.out.frozen 1
       have d3 := B3.out.cells.2.1
       clear hr3 hb3))
  have Z2 : w.heap.size ≤ (w1.setCell ⟨bk, 1, none⟩ (.slice p1 (ts.length + 1) q1)).heap.size := (L1.out.setCell (p := ⟨bk, 1, none⟩) B.out.own _).size
  have S4 := Bk.setTaken B3.out.hd B3.out.own B3.out.wl (R3.out.mono (Nat.le_trans HB.out Z2)) (Nat.le_trans (by have := risL_len (ts ++ [(a : Int)]) (ts ++ [(a : Int)]).length (Nat.le_refl _); rwa [List.take_length] at this) (by rw [List.length_append]; exact HT.out))
  have G4 : Hp base (w3.setCell ⟨bk, 1, none⟩ (.slice A3 n3 q3)) h kv fv rest ks F := H3.out.other B3.out.hd (by decide) (by decide) (fun k hne => heap_setCell_other _ _ _ _ (fun e => hne e))
  have L4 : Below base w (w3.setCell ⟨bk, 1, none⟩ (.slice A3 n3 q3)) := ((L1.out.setCell B.out.own _).trans (L3.out.mono (Nat.le_trans HB.out Z2))).setCell B.out.own _
  have Q4 : ∀ g, oblk (.slice A3 n3 q3) = some g → w.heap.size ≤ g := fun g hg => Nat.le_trans Z2 (R3.out.oblk g hg).1
  clear d3 f3 c1 fz Z2
  generalize w3.setCell ⟨bk, 1, none⟩ (.slice A3 n3 q3) = w4 at S4 G4 L4 ⊢
  replace S4 := Lib.hid S4
  replace G4 := Lib.hid G4
  replace L4 := Lib.hid L4
  replace Q4 := Lib.hid Q4
  go_loopw [4] (fun b wr => ∃ i : Nat, i ≤ n ∧ b = .int .i64 i ∧ Hid (Bk base wr bk h (.slice A3 n3 q3) (risL (ts ++ [(a : Int)])) (fillL ws a i 0)) ∧ Hid (Hp base wr h kv fv rest ks F) ∧ Hid (Below base w wr)) (fun b _ => n - (intOf b).toNat)
  case atStart => exact ⟨0, Nat.zero_le _, rfl, S4, G4, L4⟩
  case round =>
    clear S4 G4 L4 R3 L3 H3 B3 H2 B2 L1
    obtain ⟨i, hi, rfl, HK, HH, HL⟩ := hrel
    have i0 : (0 : Int) ≤ (i : Int) := by omega
    by_cases hlt : i < n
    · have hd : decide ((i : Int) < (n : Int)) = true := by simpa using hlt
      have i1 : (i : Int) < (n : Int) := by omega
      have i2 : (a : Int) + (i : Int) < 2048 := by omega
      have i3 : (0 : Int) ≤ (a : Int) + (i : Int) := by omega
      have e1 : ((a : Int) + (i : Int)).toNat = a + i := by omega
      have HX := Lib.hid (show a + i < 2048 by omega)
      go_wp2_with (go_at_call 65; refine (bsize_any HH.out HK.out a HA.out).mono ?_; rw [HN.out]; rintro e w5 ⟨rfl, hb⟩; have K5 := Lib.hid (HK.out.below hb); have H5 := Lib.hid (HH.out.below hb); have L5 := Lib.hid (HL.out.trans (hb.mono (Nat.le_trans HB.out HL.out.size))); have f5 := K5.out.frozen (2 + (a + i)); have d5 := K5.out.cells.2.2 (a + i) HX.out; clear hb)
      go_roundw
      case rel => exact ⟨i + 1, by omega, by go_num, Lib.hid (K5.out.setWord 0), Lib.hid (H5.out.other K5.out.hd (by decide) (by decide) (fun k hne => heap_setCell_other _ _ _ _ (fun e => hne e))), Lib.hid (L5.out.setCell B.out.own _)⟩
      case measure => simp [intOf]; omega
    · have hd : decide ((i : Int) < (n : Int)) = false := by simpa using hlt
      obtain rfl : i = n := by omega
      go_wp2_with (go_at_call 65; refine (bsize_any HH.out HK.out a HA.out).mono ?_; rw [HN.out]; rintro e w5 ⟨rfl, hb⟩; have K5 := Lib.hid (HK.out.below hb); have H5 := Lib.hid (HH.out.below hb); have L5 := Lib.hid (HL.out.trans (hb.mono (Nat.le_trans HB.out HL.out.size))); clear hb)
      go_end0
      exact ⟨rfl, ⟨H5.out, _, K5.out, Q4.out⟩, L5.out⟩
end
end Go.Proofs.YtfocdbflmodfhaaDoor
