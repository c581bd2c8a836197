/- plain.Rising: numbers, each once, the least first. -/
import Derived.Test.YtjoejjhgneccgaaGreatDoorQTN10
import Derived.Test.YtjoejjhgneccgaaGreatDoorQTN12
import Derived.Test.YtjoejjhgneccgaaGreatDoorQTN13
import Derived.Test.YtjoejjhgneccgaaGreatDoorQTN14
namespace Go.Proofs.YtjoejjhgneccgaaGreatDoor
open Go.RowKit

/-- How many stand ahead that are less. -/
def lessN (out : List Int) (x : Int) : Nat := (out.takeWhile (fun y => decide (y < x))).length
theorem lessN_le (out : List Int) (x : Int) : lessN out x ≤ out.length := by
  unfold lessN
  exact (List.takeWhile_sublist _).length_le
theorem lessN_lt : ∀ (out : List Int) (x : Int) (j : Nat), j < lessN out x → out.getD j 0 < x
  | [], x, j, h => absurd h (by simp [lessN])
  | y :: out, x, j, h => by
    unfold lessN at h
    rw [List.takeWhile_cons] at h
    split at h
    · rename_i hy
      cases j with
      | zero => simpa using hy
      | succ j =>
        have := lessN_lt out x j (by unfold lessN; simpa using h)
        simpa using this
    · simp at h
theorem lessN_at : ∀ (out : List Int) (x : Int), lessN out x < out.length → x ≤ out.getD (lessN out x) 0
  | [], x, h => absurd h (by simp)
  | y :: out, x, h => by
    by_cases hy : y < x
    · have e : lessN (y :: out) x = lessN out x + 1 := by unfold lessN; rw [List.takeWhile_cons, if_pos (by simpa using hy)]; rfl
      rw [e] at h ⊢
      have := lessN_at out x (by simpa using h)
      simpa using this
    · have e : lessN (y :: out) x = 0 := by unfold lessN; rw [List.takeWhile_cons, if_neg (by simpa using hy)]; rfl
      rw [e]
      simp; omega
theorem lessN_eq {out : List Int} {x : Int} {k : Nat} (h1 : ∀ j, j < k → out.getD j 0 < x) (hk : k ≤ out.length) (h2 : k < out.length → x ≤ out.getD k 0) : lessN out x = k := by
  have a := lessN_le out x
  rcases Nat.lt_trichotomy (lessN out x) k with h | h | h
  · have := lessN_at out x (by omega)
    have := h1 _ h
    omega
  · exact h
  · have := lessN_lt out x k h
    have := h2 (by omega)
    omega
def insL (out : List Int) (x : Int) : List Int := out.take (lessN out x) ++ [x] ++ out.drop (lessN out x)
def risN (out : List Int) (x : Int) : List Int := if x ∈ out then out else insL out x
def risL (l : List Int) : List Int := l.foldl risN []
theorem insL_len (out : List Int) (x : Int) : (insL out x).length = out.length + 1 := by
  have := lessN_le out x
  unfold insL
  simp; omega
theorem risN_len (out : List Int) (x : Int) : (risN out x).length ≤ out.length + 1 := by
  unfold risN
  split
  · omega
  · rw [insL_len]; exact Nat.le_refl _
theorem risL_snoc (l : List Int) (x : Int) : risL (l ++ [x]) = risN (risL l) x := by unfold risL; rw [List.foldl_append]; rfl
theorem risL_take {l : List Int} {i : Nat} (h : i < l.length) : risL (l.take (i + 1)) = risN (risL (l.take i)) (l.getD i 0) := by
  rw [List.take_succ_eq_append_getElem h, risL_snoc, List.getD_eq_getElem?_getD, List.getElem?_eq_getElem h]; rfl
theorem risL_len (l : List Int) : ∀ i, i ≤ l.length → (risL (l.take i)).length ≤ i
  | 0, _ => by simp [risL]
  | i + 1, h => by
    rw [risL_take (by omega)]
    have := risL_len l i (by omega)
    have := risN_len (risL (l.take i)) (l.getD i 0)
    omega
theorem mem_insL {out : List Int} {x y : Int} : y ∈ insL out x ↔ y = x ∨ y ∈ out := by
  unfold insL
  rw [List.mem_append, List.mem_append, List.mem_singleton]
  constructor
  · rintro ((h | h) | h)
    · exact .inr (List.mem_of_mem_take h)
    · exact .inl h
    · exact .inr (List.mem_of_mem_drop h)
  · rintro (h | h)
    · exact .inl (.inr h)
    · rw [← List.take_append_drop (lessN out x) out, List.mem_append] at h
      rcases h with h | h
      · exact .inl (.inl h)
      · exact .inr h
theorem mem_risN {out : List Int} {x y : Int} : y ∈ risN out x ↔ y = x ∨ y ∈ out := by
  unfold risN
  split
  · rename_i h
    exact ⟨.inr, fun h2 => h2.elim (fun e => e ▸ h) id⟩
  · exact mem_insL
theorem mem_foldl_risN (l : List Int) : ∀ (out : List Int) (y : Int), y ∈ l.foldl risN out ↔ y ∈ out ∨ y ∈ l := by
  induction l with
  | nil => intro out y; simp
  | cons x l ih =>
    intro out y
    rw [List.foldl_cons, ih, mem_risN, List.mem_cons]
    constructor
    · rintro ((h | h) | h)
      · exact .inr (.inl h)
      · exact .inl h
      · exact .inr (.inr h)
    · rintro (h | h | h)
      · exact .inl (.inr h)
      · exact .inl (.inl h)
      · exact .inr h
theorem mem_risL {l : List Int} {y : Int} : y ∈ risL l ↔ y ∈ l := by
  unfold risL; rw [mem_foldl_risN]; simp
theorem getD_take {l : List Int} {k j : Nat} (h : j < k) : (l.take k).getD j 0 = l.getD j 0 := by
  rw [List.getD_eq_getElem?_getD, List.getD_eq_getElem?_getD, List.getElem?_take, if_pos h]
theorem insL_sorted {out : List Int} {x : Int} (h : out.Pairwise (· < ·)) (hx : x ∉ out) : (insL out x).Pairwise (· < ·) := by
  have hl := lessN_le out x
  have low : ∀ y ∈ out.take (lessN out x), y < x := by
    intro y hy
    obtain ⟨j, hj, e⟩ := List.getElem_of_mem hy
    rw [List.length_take] at hj
    have h1 := lessN_lt out x j (by omega)
    rw [← getD_take (k := lessN out x) (by omega), List.getD_eq_getElem?_getD, List.getElem?_eq_getElem (by rw [List.length_take]; omega)] at h1
    rw [← e]; simpa using h1
  have high : ∀ y ∈ out.drop (lessN out x), x < y := by
    intro y hy
    obtain ⟨j, hj, e⟩ := List.getElem_of_mem hy
    rw [List.length_drop] at hj
    have h1 := lessN_at out x (by omega)
    have h2 : y ∈ out := List.mem_of_mem_drop hy
    have h3 : y ≠ x := fun e => hx (e ▸ h2)
    rw [List.getElem_drop] at e
    have h4 : out.getD (lessN out x) 0 ≤ y := by
      rw [List.getD_eq_getElem?_getD, List.getElem?_eq_getElem (by omega)]
      by_cases e0 : j = 0
      · subst e0; simp only [Nat.add_zero] at e; simp [e]
      · have := List.pairwise_iff_getElem.1 h (lessN out x) (lessN out x + j) (by omega) (by omega) (by omega)
        simp only [Option.getD_some]
        rw [e] at this
        omega
    omega
  unfold insL
  rw [List.pairwise_append, List.pairwise_append]
  refine ⟨⟨h.sublist (List.take_sublist _ _), List.pairwise_singleton _ _, fun y hy z hz => ?_⟩, h.sublist (List.drop_sublist _ _), fun y hy z hz => ?_⟩
  · rw [List.mem_singleton.1 hz]; exact low y hy
  · rw [List.mem_append, List.mem_singleton] at hy
    have := high z hz
    rcases hy with hy | rfl
    · have := low y hy; omega
    · exact this
theorem risN_sorted {out : List Int} {x : Int} (h : out.Pairwise (· < ·)) : (risN out x).Pairwise (· < ·) := by
  unfold risN
  split
  · exact h
  · rename_i hx; exact insL_sorted h hx
theorem risL_sorted (l : List Int) : (risL l).Pairwise (· < ·) := by
  unfold risL
  have : ∀ (l out : List Int), out.Pairwise (· < ·) → (l.foldl risN out).Pairwise (· < ·) := by
    intro l
    induction l with
    | nil => intro out h; exact h
    | cons x l ih => intro out h; exact ih _ (risN_sorted h)
  exact this l [] List.Pairwise.nil
/-- Two rising lists with the same members are one. -/
theorem sorted_ext : ∀ {a b : List Int}, a.Pairwise (· < ·) → b.Pairwise (· < ·) → (∀ y, y ∈ a ↔ y ∈ b) → a = b
  | [], [], _, _, _ => rfl
  | [], y :: b, _, _, h => absurd ((h y).2 (by simp)) (by simp)
  | x :: a, [], _, _, h => absurd ((h x).1 (by simp)) (by simp)
  | x :: a, y :: b, ha, hb, h => by
    rw [List.pairwise_cons] at ha hb
    have e : x = y := by
      rcases List.mem_cons.1 ((h x).1 (by simp)) with e | hx
      · exact e
      · rcases List.mem_cons.1 ((h y).2 (by simp)) with e | hy
        · exact e.symm
        · have := ha.1 y hy
          have := hb.1 x hx
          omega
    subst e
    rw [sorted_ext ha.2 hb.2 fun z => ?_]
    constructor
    · intro hz
      rcases List.mem_cons.1 ((h z).1 (List.mem_cons_of_mem _ hz)) with e | hz'
      · have := ha.1 z hz; omega
      · exact hz'
    · intro hz
      rcases List.mem_cons.1 ((h z).2 (List.mem_cons_of_mem _ hz)) with e | hz'
      · have := hb.1 z hz; omega
      · exact hz'
end Go.Proofs.YtjoejjhgneccgaaGreatDoor

/- How many words what begins at an address has; where what has a word begins (plain). -/
namespace Go.Proofs.YtjoejjhgneccgaaGreatDoor
open Go.RowKit

/-- How many words what begins at an address has. -/
def bsize (ks : List Int) (a : Nat) : Int := if kindL ks ((a / 32 : Nat) : Int) = 5 then 32 * sizeL ks ((a / 32 : Nat) : Int) else sizeI (kindL ks ((a / 32 : Nat) : Int))
theorem bsize_bd (ks : List Int) (hl : ks.length ≤ 64) (a : Nat) : 0 ≤ bsize ks a ∧ bsize ks a ≤ 2080 := by
  have h1 := sizeL_bd ks ((a / 32 : Nat) : Int)
  have h2 := sizeI_bd (kindL ks ((a / 32 : Nat) : Int))
  unfold bsize
  split <;> omega
/-- What has an address: the first that is found. -/
def inAt (ks : List Int) (x : Int) (a : Int) : Bool := decide (a ≤ x ∧ x < a + bsize ks a.toNat)
def bbase (ks ts : List Int) (x : Int) : Int := (ts.find? (inAt ks x)).getD (-1)
end Go.Proofs.YtjoejjhgneccgaaGreatDoor

/- Cells: given back, dropped, stored to: what is kept; the book's view. -/
namespace Go.Proofs.YtjoejjhgneccgaaGreatDoor
open Go.RowKit

theorem give_kept {C : Cs} {F : Nat → List Int} {z : Nat} (h : Inv C F) (hb : z ∈ bitsN C.ws) (C' : Cs) (hks : C'.ks = C.ks) (hws : C'.ws = bitOff C.ws z) (hxs : ∀ x, x < C.xs.length → x ≠ z → C'.xs.getD x 0 = C.xs.getD x 0) :
    (∀ a, a ∈ bitsN C'.ws ↔ a ≠ z ∧ a ∈ bitsN C.ws) ∧ ∀ a ∈ bitsN C.ws, a ≠ z → Kept C C' a := by
  have hz := (bits_lt h hb).1
  have hle := h.le
  have hlen := h.len
  have hm : ∀ a, a ∈ bitsN C'.ws ↔ a ≠ z ∧ a ∈ bitsN C.ws := fun a => by rw [hws]; exact off_mem h (by omega)
  refine ⟨hm, fun a ha hne => ⟨(hm a).2 ⟨hne, ha⟩, by unfold endN; rw [hks], by rw [hks], fun x h1 h2 => ?_⟩⟩
  have hx := (pages_in h ha h1 h2).1
  refine hxs x (by omega) fun e => ?_
  have := (end_le h hb).1
  rcases apart_ne h ha hb hne h1 h2 with h3 | h3 <;> omega
theorem free_kept {C : Cs} {F : Nat → List Int} (h : Inv C F) (p m : Nat) (C' : Cs) (hks : C'.ks = fillL C.ks p m 0) (hxs : C'.xs = C.xs)
    {a : Nat} (ha : a ∈ bitsN C.ws) (hin : a ∈ bitsN C'.ws) (hne : ∀ x, a ≤ x → x < endN C a → ¬ (p ≤ x / 32 ∧ x / 32 < p + m)) : Kept C C' a := by
  have hlk : C'.ks.length = C.ks.length := by rw [hks, fillL_len]
  obtain ⟨he, hkd⟩ := end_turned (C' := C') h ha hlk (fun q hq hd => by
    have hin : p ≤ q ∧ q < p + m := by
      apply Decidable.byContradiction; intro hn
      rw [hks, fillL_get _ _ _ _ _ hq, if_neg hn] at hd
      exact hd rfl
    refine ⟨fun x h1 h2 e => hne x h1 h2 (by rw [e]; exact hin), .inl ?_⟩
    rw [hks, fillL_get _ _ _ _ _ hq, if_pos hin]; decide)
  exact ⟨hin, he, hkd, fun x _ _ => by rw [hxs]⟩
theorem giveL_kept {C : Cs} {F : Nat → List Int} {z : Nat} (h : Inv C F) (hb : z ∈ bitsN C.ws) (h5 : C.ks.getD (z / 32) 0 = 5) :
    (∀ a, a ∈ bitsN (giveL C z).ws ↔ a ≠ z ∧ a ∈ bitsN C.ws) ∧ (∀ a ∈ bitsN C.ws, a ≠ z → Kept C (giveL C z) a) ∧ (giveL C z).ks = fillL C.ks (z / 32) (sizeL C.ks ((z / 32 : Nat) : Int)).toNat 0 := by
  have hz := (bits_lt h hb).1
  have hle := h.le
  obtain ⟨-, h0, hend, -⟩ := apart_large h hb (by rw [h5]; simp [sizeI])
  have hpg : pageI (z : Int) = ((z / 32 : Nat) : Int) := by rw [pageI_in (by omega) (by omega)]; omega
  have hws : (giveL C z).ws = bitOff C.ws z := by unfold giveL; exact remL_off (has_of h hb)
  have hm : ∀ a, a ∈ bitsN (giveL C z).ws ↔ a ≠ z ∧ a ∈ bitsN C.ws := fun a => by rw [hws]; exact off_mem h (by omega)
  have hks : (giveL C z).ks = fillL C.ks (z / 32) (sizeL C.ks ((z / 32 : Nat) : Int)).toNat 0 := by unfold giveL freeL; rw [hpg, Int.toNat_natCast]
  have hsz : sizeL C.ks ((z / 32 : Nat) : Int) = 1 + (run6 C.ks (z / 32 + 1) : Int) := by
    unfold sizeL
    rw [kindL_in (by omega), h5, if_neg (by simp [sizeI]), if_neg (by simp), Int.toNat_natCast]
  refine ⟨hm, fun a ha hne => ?_, hks⟩
  refine free_kept h (z / 32) _ (giveL C z) hks rfl ha ((hm a).2 ⟨hne, ha⟩) fun x h1 h2 hc => ?_
  have hez : endN C z = z + 32 * (1 + run6 C.ks (z / 32 + 1)) := by
    unfold endN; rw [h5, if_neg (by simp [sizeI])]
  rcases apart_ne h ha hb hne h1 h2 with h3 | h3 <;> omega
theorem drop_all {C : Cs} {F : Nat → List Int} {p : Nat} (h : Inv C F) (hp : p < C.ks.length) (k1 : 1 ≤ C.ks.getD p 0) (k4 : C.ks.getD p 0 ≤ 4) (hl : cellsI (C.ks.getD p 0) ≤ ((F p).length : Int)) : ∀ i, 0 ≤ i → i < cellsI (C.ks.getD p 0) → i ∈ F p := by
  obtain ⟨g1, g2, g3⟩ := h.ln p hp k1 k4
  intro i h0 h1
  apply Decidable.byContradiction; intro hn
  have hfew := few_ints (cellsI (C.ks.getD p 0)).toNat (i :: F p) (List.nodup_cons.2 ⟨hn, g3⟩) (fun x hx => by
    rcases List.mem_cons.1 hx with rfl | hx
    · omega
    · have := g1.mem x hx; omega)
  rw [List.length_cons] at hfew
  omega
theorem drop_kept {C : Cs} {F : Nat → List Int} {p : Nat} (h : Inv C F) (hp : p < C.ks.length) (k1 : 1 ≤ C.ks.getD p 0) (k4 : C.ks.getD p 0 ≤ 4) (hl : cellsI (C.ks.getD p 0) ≤ ((F p).length : Int)) :
    freeL C.ks p = fillL C.ks p 1 0 ∧ (∀ a ∈ bitsN C.ws, a / 32 ≠ p) ∧ ∀ a ∈ bitsN C.ws, Kept C { C with ks := freeL C.ks p } a := by
  have hall := drop_all h hp k1 k4 hl
  have hsp := sizeI_pos ⟨k1, k4⟩
  have hs : sizeL C.ks p = 1 := by unfold sizeL; rw [kindL_in hp, if_pos (by omega)]
  have hf : freeL C.ks p = fillL C.ks p 1 0 := by unfold freeL; rw [hs, Int.toNat_natCast]; rfl
  have hnp : ∀ a ∈ bitsN C.ws, a / 32 ≠ p := fun a ha e => by
    rcases tk_cases (bits_lt h ha).2 with ⟨t1, t2, al, hn⟩ | ⟨t5, -⟩
    · rw [e] at hn
      have := idx_lt ⟨k1, k4⟩ a
      exact hn (hall _ this.1 this.2)
    · rw [e] at t5; omega
  refine ⟨hf, hnp, fun a ha => free_kept h p 1 { C with ks := freeL C.ks p } hf rfl ha ha fun x h1 h2 hc => ?_⟩
  have e : x / 32 = p := by omega
  rcases (pages_in h ha h1 h2).2.2 with ⟨-, e2⟩ | ⟨h5, e2 | h6⟩
  · exact hnp a ha (by omega)
  · rw [← e2, e] at h5; omega
  · rw [e] at h6; omega
/-- The book's size is what is taken's. -/
theorem bsize_end {C : Cs} {F : Nat → List Int} (h : Inv C F) {a : Nat} (ha : a ∈ bitsN C.ws) : (endN C a : Int) = a + bsize C.ks a := by
  have hl := (bits_lt h ha).1
  unfold bsize
  rw [kindL_in (by omega)]
  rcases tk_cases (bits_lt h ha).2 with ⟨t1, t2, -⟩ | ⟨t5, -⟩
  · have := sizeI_pos ⟨t1, t2⟩
    have e : endN C a = a + (sizeI (C.ks.getD (a / 32) 0)).toNat := by unfold endN; rw [if_pos (by omega)]
    rw [e, if_neg (by omega)]
    omega
  · have e : endN C a = a + 32 * (1 + run6 C.ks (a / 32 + 1)) := by unfold endN; rw [t5, if_neg (by simp [sizeI])]
    have e2 : sizeL C.ks ((a / 32 : Nat) : Int) = 1 + (run6 C.ks (a / 32 + 1) : Int) := by
      unfold sizeL
      rw [kindL_in (by omega), t5, if_neg (by simp [sizeI]), if_neg (by simp), Int.toNat_natCast]
    rw [e, e2, if_pos t5]
    omega
theorem mem_bitsI {ws : List (BitVec 64)} {x : Int} : x ∈ bitsI ws ↔ ∃ a : Nat, a ∈ bitsN ws ∧ x = a := by
  unfold bitsI
  rw [List.mem_map]
  exact ⟨fun ⟨a, h1, h2⟩ => ⟨a, h1, h2.symm⟩, fun ⟨a, h1, h2⟩ => ⟨a, h1, h2.symm⟩⟩
theorem bitsI_sorted (ws : List (BitVec 64)) : (bitsI ws).Pairwise (· < ·) := by
  unfold bitsI
  exact (bitsN_sorted ws).map _ fun a b h => Int.ofNat_lt.2 h
theorem bbase_eq {C : Cs} {F : Nat → List Int} (h : Inv C F) (x : Int) : bbase C.ks (bitsI C.ws) x = baseC C x := by
  unfold bbase
  cases hf : (bitsI C.ws).find? (inAt C.ks x) with
  | some y =>
    have h1 := List.find?_some hf
    obtain ⟨a, ha, rfl⟩ := mem_bitsI.1 (List.mem_of_find?_eq_some hf)
    unfold inAt at h1
    rw [decide_eq_true_eq, Int.toNat_natCast, ← bsize_end h ha] at h1
    rw [base_in h ha h1.1 h1.2]; rfl
  | none =>
    rw [List.find?_eq_none] at hf
    by_cases h0 : 0 ≤ baseC C x
    · obtain ⟨a, ha, e, h1, h2⟩ := base_back h h0
      refine absurd ?_ (hf (a : Int) (mem_bitsI.2 ⟨a, ha, rfl⟩))
      unfold inAt
      rw [decide_eq_true_eq, Int.toNat_natCast, ← bsize_end h ha]
      exact ⟨h1, h2⟩
    · unfold baseC at h0 ⊢
      split at h0
      · rename_i hb
        obtain ⟨a, e, -⟩ := has_tk h hb
        omega
      · rename_i hb
        rw [if_neg hb]; rfl
/-- The words of what is taken, as the book has them. -/
def WS (C : Cs) (ws : List Int) : Prop := ∀ a ∈ bitsN C.ws, ∀ x, a ≤ x → x < endN C a → ws.getD x 0 = C.xs.getD x 0
theorem WS.keep {C C' : Cs} {ws : List Int} (h : WS C ws) (hm : ∀ a ∈ bitsN C'.ws, a ∈ bitsN C.ws) (hk : ∀ a ∈ bitsN C'.ws, Kept C C' a) : WS C' ws := fun a ha x h1 h2 => by
  have k := hk a ha
  rw [k.end_] at h2
  rw [h a (hm a ha) x h1 h2, k.xs x h1 h2]
theorem WS.put {C C' : Cs} {F' : Nat → List Int} {ws : List Int} {z n : Nat} (h : WS C ws) (hi : Inv C' F') (hw : ws.length = 2048) (hm : ∀ a, a ∈ bitsN C'.ws ↔ a = z ∨ a ∈ bitsN C.ws) (hz : z ∉ bitsN C.ws) (hk : ∀ a ∈ bitsN C.ws, Kept C C' a)
    (he : endN C' z = z + n) (h0 : ∀ x, z ≤ x → x < endN C' z → C'.xs.getD x 0 = 0) : WS C' (fillL ws z n 0) := fun a ha x h1 h2 => by
  have hle := hi.le
  have hx := (pages_in hi ha h1 h2).1
  rcases (hm a).1 ha with rfl | hb
  · rw [h0 x h1 h2, fillL_get _ _ _ _ _ (by omega), if_pos (by omega)]
  · have k := hk a hb
    have hne : a ≠ z := fun e => hz (e ▸ hb)
    have hap := apart_ne hi ha ((hm z).2 (.inl rfl)) hne h1 h2
    rw [k.end_] at h2
    rw [fillL_get _ _ _ _ _ (by omega), if_neg (by omega), h a hb x h1 h2, k.xs x h1 h2]
theorem ris_bits {C C' : Cs} {z : Nat} (hm : ∀ a, a ∈ bitsN C'.ws ↔ a = z ∨ a ∈ bitsN C.ws) : risL (bitsI C.ws ++ [(z : Int)]) = bitsI C'.ws := by
  refine sorted_ext (risL_sorted _) (bitsI_sorted _) fun y => ?_
  rw [mem_risL, List.mem_append, List.mem_singleton, mem_bitsI, mem_bitsI]
  constructor
  · rintro (⟨a, ha, rfl⟩ | rfl)
    · exact ⟨a, (hm a).2 (.inr ha), rfl⟩
    · exact ⟨z, (hm z).2 (.inl rfl), rfl⟩
  · rintro ⟨a, ha, rfl⟩
    rcases (hm a).1 ha with rfl | hb
    · exact .inr rfl
    · exact .inl ⟨a, hb, rfl⟩
theorem filt_bits {C C' : Cs} {z : Nat} (hm : ∀ a, a ∈ bitsN C'.ws ↔ a ≠ z ∧ a ∈ bitsN C.ws) : ((bitsI C.ws).filter fun y => decide (y ≠ (z : Int))) = bitsI C'.ws := by
  refine sorted_ext ((bitsI_sorted _).filter _) (bitsI_sorted _) fun y => ?_
  rw [List.mem_filter, mem_bitsI, mem_bitsI]
  constructor
  · rintro ⟨⟨a, ha, rfl⟩, h2⟩
    exact ⟨a, (hm a).2 ⟨fun e => by simp [e] at h2, ha⟩, rfl⟩
  · rintro ⟨a, ha, rfl⟩
    obtain ⟨h1, h2⟩ := (hm a).1 ha
    exact ⟨⟨a, h2, rfl⟩, by simpa using fun e : (a : Int) = z => h1 (by omega)⟩
end Go.Proofs.YtjoejjhgneccgaaGreatDoor

/- Cells: a word stored; what is asked. -/
namespace Go.Proofs.YtjoejjhgneccgaaGreatDoor
open Go.RowKit

theorem has_iff {C : Cs} {F : Nat → List Int} (h : Inv C F) (x : Int) : hasB C.xs.length C.ws x = decide (x ∈ bitsI C.ws) := by
  rw [Bool.eq_iff_iff, decide_eq_true_eq, mem_bitsI]
  constructor
  · intro hb
    obtain ⟨a, e, hl, hbit, -⟩ := has_tk h hb
    have := h.le
    exact ⟨a, mem_bits.2 ⟨by omega, hbit⟩, e⟩
  · rintro ⟨a, ha, rfl⟩
    exact has_of h ha
theorem free_few {C : Cs} {F : Nat → List Int} (h : Inv C F) {q : Nat} (hq : q < C.ks.length) (k1 : 1 ≤ C.ks.getD q 0) (k4 : C.ks.getD q 0 ≤ 4) : (F q).length ≤ 16 := by
  obtain ⟨g1, -, g3⟩ := h.ln q hq k1 k4
  have hf := few_ints (cellsI (C.ks.getD q 0)).toNat (F q) g3 (fun x hx => by
    have := g1.mem x hx
    omega)
  have hc : C.ks.getD q 0 = 1 ∨ C.ks.getD q 0 = 2 ∨ C.ks.getD q 0 = 3 ∨ C.ks.getD q 0 = 4 := by omega
  rcases hc with e | e | e | e <;> rw [e] at hf <;> simp [cellsI] at hf <;> omega
/-- A free cell's first word lies in nothing that is taken. -/
theorem free_out {C : Cs} {F : Nat → List Int} (h : Inv C F) {q : Nat} (hq : q < C.ks.length) (k1 : 1 ≤ C.ks.getD q 0) (k4 : C.ks.getD q 0 ≤ 4) {i : Int} (hi : i ∈ F q) {a : Nat} (ha : a ∈ bitsN C.ws) : ¬ (a ≤ (cad q (C.ks.getD q 0) i).toNat ∧ (cad q (C.ks.getD q 0) i).toNat < endN C a) := by
  rintro ⟨h1, h2⟩
  obtain ⟨g1, -, -⟩ := h.ln q hq k1 k4
  obtain ⟨i0, i1⟩ := g1.mem i hi
  obtain ⟨k, ek⟩ : ∃ k, k = C.ks.getD q 0 := ⟨_, rfl⟩
  rw [← ek] at k1 k4 i1 h1 h2
  have hci := cad_idx (p := q) ⟨k1, k4⟩ i0 i1
  have hp := (pages_in h ha h1 h2).2.2
  rw [hci.1] at hp
  rcases hp with ⟨hs, e⟩ | ⟨h5, e | h6⟩
  · have hak : C.ks.getD (a / 32) 0 = k := by rw [← e]; exact ek.symm
    rcases tk_cases (bits_lt h ha).2 with ⟨-, -, al, hn⟩ | ⟨t5, -⟩
    · rw [hak] at al hn
      rw [← e] at hn
      have hend : endN C a = a + (sizeI k).toNat := by unfold endN; rw [hak, if_pos (by rw [← hak]; exact hs)]
      rw [hend] at h2
      have hx := aligned ⟨k1, k4⟩ al
      have hcp := cad_page (p := q) ⟨k1, k4⟩ i0 i1
      rw [← e] at hx
      have hne : i ≠ (a : Int) % 32 / sizeI k := fun c => hn (c ▸ hi)
      have hid := idx_lt ⟨k1, k4⟩ a
      have := cad_ne (p := (q : Int)) (by omega) ⟨k1, k4⟩ i0 hid.1 hne
      have h3 : (cad (q : Int) k ((a : Int) % 32 / sizeI k)).toNat = a := by rw [← hx]; simp
      rw [h3] at this
      omega
    · rw [hak] at t5; omega
  · rw [← e, ← ek] at h5; omega
  · rw [← ek] at h6; omega
theorem inv_store {C : Cs} {F : Nat → List Int} (h : Inv C F) {a x : Nat} (ha : a ∈ bitsN C.ws) (h1 : a ≤ x) (h2 : x < endN C a) (v : Int) : Inv { C with xs := putL C.xs x v } F := by
  have hx := (pages_in h ha h1 h2).1
  have hlen := h.len
  refine ⟨h.le, by rw [putL_len]; exact hlen, h.chl, h.wl, h.kd, h.sx, fun p (hp : p < C.ks.length) (k1 : 1 ≤ C.ks.getD p 0) (k4 : C.ks.getD p 0 ≤ 4) => ?_, h.bt, h.tp⟩
  obtain ⟨g1, g2, g3⟩ := h.ln p hp k1 k4
  refine ⟨(show Lnk (putL C.xs x v) p (C.ks.getD p 0) (C.ch.getD p (0, 0)).1 (F p) from g1.keep fun i hi => ?_), g2, g3⟩
  obtain ⟨i0, i1⟩ := g1.mem i hi
  have hcp := cad_page (p := p) ⟨k1, k4⟩ i0 i1
  have hs := sizeI_pos ⟨k1, k4⟩
  rw [putL_get (by omega), if_neg fun e => free_out h hp k1 k4 hi ha ⟨by omega, by omega⟩]
theorem store_ws {C : Cs} {F : Nat → List Int} {ws : List Int} (h : Inv C F) (hw : WS C ws) (hl : ws.length = 2048) (x : Nat) (v : Int) : WS { C with xs := putL C.xs x v } (ws.set x v) := by
  intro a' ha' y y1 y2
  have hle := h.le
  have hlen := h.len
  have hy := (pages_in h ha' y1 y2).1
  show (ws.set x v).getD y 0 = (putL C.xs x v).getD y 0
  rw [putL_get (by omega)]
  by_cases e : y = x
  · subst e
    rw [getD_set_same (by omega), if_pos rfl]
  · rw [getD_set_other (fun c => e c.symm), if_neg (by omega)]
    exact hw a' ha' y y1 y2
theorem base_in_mem {C : Cs} {F : Nat → List Int} (h : Inv C F) {x : Int} (h0 : 0 ≤ baseC C x) : ∃ a y : Nat, x = (y : Int) ∧ a ∈ bitsN C.ws ∧ a ≤ y ∧ y < endN C a ∧ y < C.xs.length := by
  obtain ⟨a, ha, -, h1, h2⟩ := base_back h h0
  obtain ⟨y, rfl⟩ := Int.eq_ofNat_of_zero_le (show 0 ≤ x by omega)
  have := (pages_in h ha (x := y) (by omega) (by omega)).1
  have := h.len
  exact ⟨a, y, rfl, ha, by omega, by omega, by omega⟩
end Go.Proofs.YtjoejjhgneccgaaGreatDoor

/- A store: what holds behind each call (plain). -/
namespace Go.Proofs.YtjoejjhgneccgaaGreatDoor
open Go.RowKit

theorem inv_storeC {C : Cs} {F : Nat → List Int} (h : Inv C F) (a v : Int) : Inv (storeC C a v) F := by
  unfold storeC
  split
  · rename_i h0
    obtain ⟨z, y, rfl, hz, h1, h2, -⟩ := base_in_mem h h0
    exact inv_store h hz h1 h2 v
  · exact h
theorem storeC_ks (C : Cs) (a v : Int) : (storeC C a v).ks = C.ks := by unfold storeC; split <;> rfl
/-- What holds of a store behind each call. -/
structure SI (S : Sm) : Prop where
  inv : ∃ F, Inv S.C F
  np : S.np = (S.C.ks.length : Nat)
  dom : Dom S.M
  own : ∀ t k p, S.M t k = some p → ∃ q : Nat, p = q ∧ q < S.C.ks.length ∧ S.C.ks.getD q 0 = k ∧ t < S.th
  inj : ∀ t k t' k' p, S.M t k = some p → S.M t' k' = some p → t = t' ∧ k = k'
  th : 0 ≤ S.th ∧ S.th ≤ 9
section
variable {S : Sm}
theorem SI.withC {C : Cs} (h : SI S) (hi : ∃ F, Inv C F) (hl : C.ks.length = S.C.ks.length) (hk : ∀ q, q < S.C.ks.length → S.C.ks.getD q 0 ≠ 0 → C.ks.getD q 0 = S.C.ks.getD q 0) : SI { S with C := C } :=
  ⟨hi, h.np.trans (by rw [hl]), h.dom, fun t k p hm => by
    obtain ⟨q, rfl, h1, h2, h3⟩ := h.own t k p hm
    have := h.dom t k _ hm
    refine ⟨q, rfl, ?_, ?_, h3⟩
    · show q < C.ks.length
      omega
    · show C.ks.getD q 0 = k
      rw [hk q h1 (by omega), h2], h.inj, h.th⟩
theorem SI.begin (h : SI S) (a n : Int) : SI (S.begin a n) := by
  obtain ⟨F, hi⟩ := h.inv
  have := h.withC (C := storeC S.C a (S.md * 128 + n)) ⟨F, inv_storeC hi _ _⟩ (by rw [storeC_ks]) (fun q _ _ => by rw [storeC_ks])
  exact ⟨this.inv, this.np, this.dom, this.own, this.inj, this.th⟩
/-- The free cell of a page. -/
structure Tak (C : Cs) (q : Nat) : Prop where
  ok : TakeP C q (C.ks.getD q 0) (C.ch.getD q (0, 0)).1 (C.ch.getD q (0, 0)).2 (C.xs.getD (cad q (C.ks.getD q 0) (C.ch.getD q (0, 0)).1).toNat 0)
  inv : ∃ F, Inv (takeC C q (C.ks.getD q 0) (C.ch.getD q (0, 0)).1 (C.ch.getD q (0, 0)).2 (C.xs.getD (cad q (C.ks.getD q 0) (C.ch.getD q (0, 0)).1).toNat 0)) F
theorem tak_at {C : Cs} {F : Nat → List Int} (hi : Inv C F) {p : Int} (h0 : leftL C p ≠ 0) : ∃ q : Nat, p = q ∧ q < C.ks.length ∧ Tak C q := by
  have hs : 0 < sizeI (kindL C.ks p) := by
    apply Decidable.byContradiction; intro hc
    exact h0 (by unfold leftL; rw [if_neg hc])
  obtain ⟨p0, p1⟩ := small_in hs
  obtain ⟨q, rfl⟩ := Int.eq_ofNat_of_zero_le p0
  have hq : q < C.ks.length := by omega
  refine ⟨q, rfl, hq, ?_⟩
  rw [kindL_in hq] at hs
  have hk : 1 ≤ C.ks.getD q 0 ∧ C.ks.getD q 0 ≤ 4 := by
    apply Decidable.byContradiction; intro hc
    rw [sizeI_zero (by omega)] at hs; omega
  obtain ⟨-, h2, -⟩ := hi.ln q hq hk.1 hk.2
  cases hF : F q with
  | nil =>
    rw [hF] at h2
    exact absurd (by unfold leftL; rw [kindL_in hq, if_pos hs]; simpa using h2) h0
  | cons f l =>
    obtain ⟨g, ht, hl⟩ := take_ok hi hq hk.1 hk.2 hF
    have hv := inv_take hi hq hk.1 hk.2 hF ht hl
    have e1 : (C.ch.getD q (0, 0)).1 = f := by rw [ht.ch]
    have e2 : (C.ch.getD q (0, 0)).2 = (l.length : Int) + 1 := by rw [ht.ch]
    refine ⟨?_, ?_⟩
    · rw [e1, e2, ht.wd]; exact ht
    · rw [e1, e2, ht.wd]; exact ⟨_, hv⟩
/-- A page's cell is taken, and an object begins in it. -/
def cellA (C : Cs) (q : Nat) : Int := cad q (C.ks.getD q 0) (C.ch.getD q (0, 0)).1
def takeS (S : Sm) (q : Nat) : Sm := S.take q (S.C.ks.getD q 0) (S.C.ch.getD q (0, 0)).1 (S.C.ch.getD q (0, 0)).2 (S.C.xs.getD (cad q (S.C.ks.getD q 0) (S.C.ch.getD q (0, 0)).1).toNat 0)
def pageOf (S : Sm) (t n : Int) : Int := pageM S.M t (ofI n)
def fastB (S : Sm) (t n : Int) : Bool := smallB n && !(leftL S.C (pageOf S t n) == 0)
def fastV (S : Sm) (t n : Int) : Option Int := if fastB S t n = true then some (cellA S.C (pageOf S t n).toNat) else none
def fastS (S : Sm) (t n : Int) : Sm := if fastB S t n = true then (takeS S (pageOf S t n).toNat).begin (cellA S.C (pageOf S t n).toNat) n else S
theorem SI.take (h : SI S) {q : Nat} (ht : Tak S.C q) : SI (takeS S q) := h.withC ht.inv rfl (fun _ _ _ => rfl)
theorem SI.fast (h : SI S) (t n : Int) : SI (fastS S t n) := by
  unfold fastS
  split
  · rename_i hb
    obtain ⟨F, hi⟩ := h.inv
    unfold fastB at hb
    have h0 : leftL S.C (pageOf S t n) ≠ 0 := by simp at hb; exact hb.2
    obtain ⟨q, hq, -, ht⟩ := tak_at hi h0
    rw [hq, Int.toNat_natCast]
    exact (h.take ht).begin _ _
  · exact h
theorem SI.large (h : SI S) {n : Int} {p : Nat} (hs : spanL S.C.ks n = some p) : SI { S with C := largeC S.C n } := by
  obtain ⟨F, hi⟩ := h.inv
  have hz := span_zero hs
  obtain ⟨hn, hp⟩ := spanL_lt hs
  have hks : (largeC S.C n).ks = spanS S.C.ks p n.toNat := by unfold largeC; rw [hs]
  have hle := hi.le
  refine h.withC ⟨F, inv_large hi hs⟩ (by rw [hks]; unfold spanS; simp [fillL_len]) (fun q hq h0 => ?_)
  have hne : ¬ (p ≤ q ∧ q < p + n.toNat) := fun hc => h0 (hz q hc.1 hc.2)
  have hqp : q ≠ p := by omega
  rw [hks]
  unfold spanS
  rw [getD_set_other (by omega), fillL_get _ _ _ _ _ (by omega), if_neg (by omega)]
theorem SI.carve (h : SI S) {k : Int} {p : Nat} (ht : takeT S.C.ks k = some p) : SI { S with C := carveC S.C k } := by
  obtain ⟨F, hi⟩ := h.inv
  have hk : (carveC S.C k).ks = S.C.ks.set p k := by unfold carveC; rw [ht]
  have h0 : S.C.ks.getD p 0 = 0 := by
    unfold takeT at ht
    split at ht
    · cases ht
    · exact idx0_zero ht
  refine h.withC ⟨_, inv_carve hi ht⟩ (by rw [hk]; simp) (fun q hq h1 => ?_)
  have hqp : q ≠ p := fun e => h1 (e ▸ h0)
  rw [hk, getD_set_other (Ne.symm hqp)]
/-- A page that is nobody's becomes a thread's. -/
def Sm.give (S : Sm) (t k p : Int) : Sm := { S with M := updM S.M t k (some p) }
theorem SI.give (h : SI S) {t k : Int} {q : Nat} (t0 : 0 ≤ t) (t1 : t < S.th) (k1 : 1 ≤ k) (k4 : k ≤ 4) (hq : q < S.C.ks.length) (hk : S.C.ks.getD q 0 = k) (hn : ∀ t' k', S.M t' k' ≠ some (q : Int)) : SI (S.give t k q) := by
  obtain ⟨F, hi⟩ := h.inv
  have hle := hi.le
  have hth := h.th
  refine ⟨h.inv, h.np, fun t' k' p hm => ?_, fun t' k' p hm => ?_, fun t1 k1 t2 k2 p hm1 hm2 => ?_, h.th⟩
  · by_cases e : t' = t ∧ k' = k
    · obtain ⟨rfl, rfl⟩ := e
      simp only [Sm.give, updM_same] at hm
      cases hm
      omega
    · simp only [Sm.give, updM_other _ e] at hm
      exact h.dom t' k' p hm
  · by_cases e : t' = t ∧ k' = k
    · obtain ⟨rfl, rfl⟩ := e
      simp only [Sm.give, updM_same] at hm
      cases hm
      exact ⟨q, rfl, hq, hk, t1⟩
    · simp only [Sm.give, updM_other _ e] at hm
      exact h.own t' k' p hm
  · by_cases e1 : t1 = t ∧ k1 = k
    · by_cases e2 : t2 = t ∧ k2 = k
      · omega
      · obtain ⟨rfl, rfl⟩ := e1
        simp only [Sm.give, updM_same, updM_other _ e2] at hm1 hm2
        cases hm1
        exact absurd hm2 (hn _ _)
    · by_cases e2 : t2 = t ∧ k2 = k
      · obtain ⟨rfl, rfl⟩ := e2
        simp only [Sm.give, updM_same, updM_other _ e1] at hm1 hm2
        cases hm2
        exact absurd hm1 (hn _ _)
      · simp only [Sm.give, updM_other _ e1, updM_other _ e2] at hm1 hm2
        exact h.inj _ _ _ _ _ hm1 hm2
/-- What is opened. -/
theorem SI.open (h : SI S) {k : Int} {p : Nat} (ho : openP S k = some p) : SI (openS S k) ∧ p < (openS S k).C.ks.length ∧ (openS S k).C.ks.getD p 0 = k ∧ (openS S k).M = S.M ∧ (openS S k).th = S.th ∧ ∀ t' k', S.M t' k' ≠ some (p : Int) := by
  unfold openP at ho
  unfold openS
  cases hL : openL S k with
  | some q =>
    rw [hL] at ho
    cases ho
    unfold openL at hL
    have hlt := List.mem_range.1 (List.mem_of_find?_eq_some hL)
    have h1 := List.find?_some hL
    unfold openB at h1
    simp only [Bool.and_eq_true, Bool.not_eq_true', beq_iff_eq, decide_eq_true_eq] at h1
    obtain ⟨⟨h1, h2⟩, h3⟩ := h1
    refine ⟨h, hlt, by rw [← kindL_in hlt]; exact h2, rfl, rfl, fun t' k' hm => ?_⟩
    rw [(ownB_iff h.dom _).2 ⟨t', k', hm⟩] at h1
    cases h1
  | none =>
    rw [hL] at ho
    simp only at ho
    have h0 : S.C.ks.getD p 0 = 0 ∧ p < S.C.ks.length := by
      unfold takeT at ho
      split at ho
      · cases ho
      · exact ⟨idx0_zero ho, idx0_lt ho⟩
    have hk : (carveC S.C k).ks = S.C.ks.set p k := by unfold carveC; rw [ho]
    refine ⟨h.carve ho, ?_, ?_, rfl, rfl, fun t' k' hm => ?_⟩
    · show p < (carveC S.C k).ks.length
      rw [hk]; simpa using h0.2
    · show (carveC S.C k).ks.getD p 0 = k
      rw [hk, getD_set_same h0.2]
    · obtain ⟨q, e, -, h2, -⟩ := h.own t' k' _ hm
      have := h.dom t' k' _ hm
      have : q = p := by omega
      subst this
      omega
end
end Go.Proofs.YtjoejjhgneccgaaGreatDoor

/- A store: fast and slow, from what holds. -/
namespace Go.Proofs.YtjoejjhgneccgaaGreatDoor
open Go.RowKit

def FastE (o : Option Int) (e : Ending) : Prop := e = .returned (.tuple #[.int .i64 (o.getD 0), .bool o.isSome])
def SlowE (v : Int × Int) (e : Ending) : Prop := e = .returned (.tuple #[.int .i64 v.1, .int .i64 v.2])
section
variable {w w' : World} {b : Sl} {S : Sm}
theorem sfast_any (h : StX w b S) (si : SI S) (t n : Int) (wt : wfI t) (m0 : 0 ≤ S.md) (m1 : S.md < 1000000) :
    Calls Tryz.prog 38 #[.pointer (some ⟨b.s, 0, none⟩), .int .i64 t, .int .i64 n] w fun e w' => FastE (fastV S t n) e ∧ StX w' b (fastS S t n) ∧ Frm b.fp w w' := by
  cases hb : fastB S t n with
  | false =>
    have hv : fastV S t n = none := by unfold fastV; rw [hb]; rfl
    have hS : fastS S t n = S := by unfold fastS; rw [hb]; rfl
    rw [hv, hS]
    cases hs : smallB n with
    | false =>
      refine (sfast_small h t n hs).mono ?_
      rintro e w' ⟨he, rfl⟩
      exact ⟨he, h, Frm.refl _ _⟩
    | true =>
      have hl : leftL S.C (pageM S.M t (ofI n)) = 0 := by
        unfold fastB pageOf at hb
        rw [hs] at hb
        simpa using hb
      refine (sfast_no h t n wt hl).mono ?_
      rintro e w' ⟨he, hb'⟩
      exact ⟨he, h.below hb', Frm.of_below _ hb'⟩
  | true =>
    have hv : fastV S t n = some (cellA S.C (pageOf S t n).toNat) := by unfold fastV; rw [hb]; rfl
    have hS : fastS S t n = (takeS S (pageOf S t n).toNat).begin (cellA S.C (pageOf S t n).toNat) n := by unfold fastS; rw [hb]; rfl
    rw [hv, hS]
    unfold fastB at hb
    simp only [Bool.and_eq_true, Bool.not_eq_true', beq_eq_false_iff_ne] at hb
    obtain ⟨F, hi⟩ := si.inv
    obtain ⟨q, hq, -, ht⟩ := tak_at hi hb.2
    rw [hq, Int.toNat_natCast]
    exact (sfast_ok h t n wt hb.1 q _ _ _ _ hq ht.ok m0 m1).mono fun e w' hr => hr
theorem sslow_range (h : StX w b S) (t n : Int) (hr : ofI n = 0 ∨ t < 0 ∨ S.th ≤ t) :
    Calls Tryz.prog 39 #[.pointer (some ⟨b.s, 0, none⟩), .int .i64 t, .int .i64 n] w fun e w' => SlowE (0, 4) e ∧ w = w' := by
  have H := Lib.hid h
  obtain ⟨-, -, c2, -⟩ := h.cells
  clear h
  by_cases h0 : ofI n = 0
  · have z0 : (ofI n == 0) = true := by simpa using h0
    clear h0 hr
    go_enter Tryz.func39, Tryz.ntmps39
    go_wp2_with (first
      | (go_at_call 84; refine (sis_any H.out).mono ?_; rintro e w1 ⟨rfl, rfl⟩)
      | (go_at_call 88; refine (of_any n _).mono ?_; rintro e w1 ⟨rfl, rfl⟩))
    go_ret2
    exact ⟨rfl, rfl⟩
  · have z0 : (ofI n == 0) = false := by simpa using h0
    by_cases h1 : t < 0
    · have z1 : decide (t < 0) = true := by simpa using h1
      clear h0 h1 hr
      go_enter Tryz.func39, Tryz.ntmps39
      go_wp2_with (first
        | (go_at_call 84; refine (sis_any H.out).mono ?_; rintro e w1 ⟨rfl, rfl⟩)
        | (go_at_call 88; refine (of_any n _).mono ?_; rintro e w1 ⟨rfl, rfl⟩))
      go_ret2
      exact ⟨rfl, rfl⟩
    · have z1 : decide (t < 0) = false := by simpa using h1
      have z2 : decide (S.th ≤ t) = true := by
        rw [decide_eq_true_eq]
        omega
      clear h0 h1 hr
      go_enter Tryz.func39, Tryz.ntmps39
      go_wp2_with (first
        | (go_at_call 84; refine (sis_any H.out).mono ?_; rintro e w1 ⟨rfl, rfl⟩)
        | (go_at_call 88; refine (of_any n _).mono ?_; rintro e w1 ⟨rfl, rfl⟩))
      go_ret2
      exact ⟨rfl, rfl⟩
/-- A large one. -/
def largeV (S : Sm) (n : Int) : Int × Int := match spanL S.C.ks (pagesI n) with | none => (0, 10) | some p => ((p : Int) * 32, 0)
def largeS (S : Sm) (n : Int) : Sm := match spanL S.C.ks (pagesI n) with | none => S | some p => Sm.begin { S with C := largeC S.C (pagesI n) } ((p : Int) * 32) n
structure InR (S : Sm) (t n : Int) : Prop where
  z0 : (ofI n == 0) = false
  z1 : decide (t < 0) = false
  z2 : decide (S.th ≤ t) = false
theorem five_bd {n : Int} (h : ofI n = 5) : 0 ≤ n ∧ n ≤ 127 := by have := pagesI_five h; omega
theorem pagesI_le (n : Int) : pagesI n ≤ 9223372036854775807 := by have := pagesI_bd n; omega
set_option maxHeartbeats 4000000 in
set_option maxRecDepth 100000 in
theorem sslow_large (h : StX w b S) (t n : Int) (hr : InR S t n) (h5 : ofI n = 5) (m0 : 0 ≤ S.md) (m1 : S.md < 1000000) :
    Calls Tryz.prog 39 #[.pointer (some ⟨b.s, 0, none⟩), .int .i64 t, .int .i64 n] w fun e w' => SlowE (largeV S n) e ∧ StX w' b (largeS S n) ∧ Frm b.fp w w' := by
  have H := Lib.hid h
  have B0 := Lib.hid ((Below.refl w.heap.size w).drew)
  have HD := Lib.hid (h.below B0.out)
  have F0 := Lib.hid (Frm.of_below b.fp B0.out)
  obtain ⟨c0, -, c2, -⟩ := h.cells
  obtain ⟨z0, z1, z2⟩ := hr
  have z5 : (ofI n == 5) = true := by simpa using h5
  have NB := Lib.hid (five_bd h5)
  cases hs : spanL S.C.ks (pagesI n) with
  | none =>
    have HS := Lib.hid hs
    have HC := Lib.hid (show largeC S.C (pagesI n) = S.C by unfold largeC; rw [hs])
    have HV := Lib.hid (show largeV S n = (0, 10) by unfold largeV; rw [hs])
    have HL := Lib.hid (show largeS S n = S by unfold largeS; rw [hs])
    clear h h5 hs m0 m1
    go_enter Tryz.func39, Tryz.ntmps39
    go_wp2_with (first
      | (go_at_call 84; refine (sis_any H.out).mono ?_; rintro e w1 ⟨rfl, rfl⟩)
      | (go_at_call 88; refine (of_any n _).mono ?_; rintro e w1 ⟨rfl, rfl⟩))
    go_region_held3 (fun w' => w'.cell? ⟨b.s, 0, none⟩ = some (.pointer (some ⟨b.cb.c, 0, none⟩))) (first | assumption | go_keep)
      (first
        | (go_at_call 91; refine (pages_any n _).mono ?_; rintro e w1 ⟨rfl, rfl⟩)
        | (go_at_call 90; refine (clarge_any HD.out.cx _ (pagesI_le n)).mono ?_; rw [HS.out, HC.out]; rintro e w2 ⟨rfl, hx, hf⟩; have hy := HD.out.withCX hf hx; obtain ⟨d0, -⟩ := hy.cells; have H2 := Lib.hid hy; have F2 := Lib.hid (F0.out.trans (hf.sub (fp' := b.fp) b.sub_cb) (fun x hx => .inl hx)); clear hx hf hy))
    go_wp2_with fail
    go_ret2
    exact ⟨by rw [HV.out]; rfl, by rw [HL.out]; exact H2.out, F2.out⟩
  | some p =>
    have HS := Lib.hid hs
    have HV := Lib.hid (show largeV S n = ((p : Int) * 32, 0) by unfold largeV; rw [hs])
    have HL := Lib.hid (show largeS S n = Sm.begin { S with C := largeC S.C (pagesI n) } ((p : Int) * 32) n by unfold largeS; rw [hs])
    have M0 := Lib.hid (show 0 ≤ ({ S with C := largeC S.C (pagesI n) } : Sm).md from m0)
    have M1 := Lib.hid (show ({ S with C := largeC S.C (pagesI n) } : Sm).md < 1000000 from m1)
    clear h h5 hs m0 m1
    go_enter Tryz.func39, Tryz.ntmps39
    go_wp2_with (first
      | (go_at_call 84; refine (sis_any H.out).mono ?_; rintro e w1 ⟨rfl, rfl⟩)
      | (go_at_call 88; refine (of_any n _).mono ?_; rintro e w1 ⟨rfl, rfl⟩))
    go_region_held3 (fun w' => w'.cell? ⟨b.s, 0, none⟩ = some (.pointer (some ⟨b.cb.c, 0, none⟩))) (first | assumption | go_keep)
      (first
        | (go_at_call 91; refine (pages_any n _).mono ?_; rintro e w1 ⟨rfl, rfl⟩)
        | (go_at_call 90; refine (clarge_any HD.out.cx _ (pagesI_le n)).mono ?_; rw [HS.out]; rintro e w2 ⟨rfl, hx, hf⟩; have hy := HD.out.withCX hf hx; obtain ⟨d0, -⟩ := hy.cells; have H2 := Lib.hid hy; have F2 := Lib.hid (F0.out.trans (hf.sub (fp' := b.fp) b.sub_cb) (fun x hx => .inl hx)); clear hx hf hy))
    go_wp2_with (go_at_call 89; refine (sbegin_ok H2.out ((p : Int) * 32) n M0.out M1.out NB.out.1 NB.out.2).mono ?_; rintro e w3 ⟨rfl, hx, hf⟩; have H3 := Lib.hid hx; have F3 := Lib.hid (F2.out.trans hf (fun x hx => .inl hx)); clear hx hf)
    go_ret2
    exact ⟨by rw [HV.out]; rfl, by rw [HL.out]; exact H3.out, F3.out⟩
end
end Go.Proofs.YtjoejjhgneccgaaGreatDoor
