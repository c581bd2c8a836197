/- Numerals, lines and their pieces, in plain lists. -/
import Derived.Test.YtffdekgkhiffkaaDoorScr3
import Derived.Lib.AtoiAllCases
namespace Go.Proofs.YtffdekgkhiffkaaDoor
open Go.RowKit

theorem pu_app : ∀ (l r : List UInt8) (acc : Nat), Lib.parseUint10 acc (l ++ r) = match Lib.parseUint10 acc l with | .ok v => Lib.parseUint10 v r | .«syntax» => .«syntax» | .range => .range
  | [], r, acc => rfl
  | c :: l, r, acc => by
    simp only [List.cons_append, Lib.parseUint10]
    split
    · split
      · rfl
      · split
        · rfl
        · exact pu_app l r _
    · rfl
theorem digit_nat {u : Nat} (h : u < 10) : (UInt8.ofNat (48 + u)).toNat = 48 + u := by
  simp [UInt8.toNat_ofNat']
  omega
theorem pu_dec (u : Nat) (h : u < 18446744073709551616) : Lib.parseUint10 0 (Lib.decDigits u) = .ok u := by
  induction u using Nat.strongRecOn with
  | _ u ih =>
  rw [Lib.decDigits]
  split
  · rename_i h10
    have e := digit_nat h10
    simp only [Lib.parseUint10]
    rw [e, if_pos (by omega), if_neg (by omega), if_neg (by omega)]
    congr 1; omega
  · rename_i h10
    have e := digit_nat (Nat.mod_lt u (by decide : 0 < 10))
    rw [pu_app, ih (u / 10) (by omega) (by omega)]
    simp only [Lib.parseUint10]
    rw [e, if_pos (by omega), if_neg (by omega), if_neg (by omega)]
    congr 1; omega
theorem dec_all (u : Nat) : ∀ x ∈ Lib.decDigits u, 48 ≤ x.toNat ∧ x.toNat ≤ 57 := by
  induction u using Nat.strongRecOn with
  | _ u ih =>
  rw [Lib.decDigits]
  split
  · rename_i h10
    intro x hx
    have e := digit_nat h10
    rw [List.mem_singleton] at hx
    subst hx; omega
  · rename_i h10
    intro x hx
    have e := digit_nat (Nat.mod_lt u (by decide : 0 < 10))
    rcases List.mem_append.1 hx with hx | hx
    · exact ih (u / 10) (by omega) x hx
    · rw [List.mem_singleton] at hx
      subst hx; omega
theorem dec_ne (u : Nat) : Lib.decDigits u ≠ [] := by
  rw [Lib.decDigits]
  split <;> simp
theorem numT_itoa {v : Int} (h : Rng v) : numT (Lib.itoa v) = some v := by
  obtain ⟨h0, h1⟩ := h
  have hp : Lib.parseIntB 64 (Lib.itoa v) = .ok v := by
    rw [Lib.parseIntB_64]
    unfold Lib.itoa
    split
    · rename_i hn
      rw [Lib.atoiAll_minus, Lib.parseMag, if_neg (dec_ne _), pu_dec _ (by omega), Lib.signed, if_neg (by omega)]
      congr 1; omega
    · rename_i hn
      obtain ⟨c, r, hc⟩ : ∃ c r, Lib.decDigits v.toNat = c :: r := by
        cases hd : Lib.decDigits v.toNat with
        | nil => exact absurd hd (dec_ne _)
        | cons c r => exact ⟨c, r, rfl⟩
      have hm := dec_all v.toNat c (by rw [hc]; simp)
      have hq : Lib.parseMag (c :: r) = .ok v.toNat := by rw [Lib.parseMag, if_neg (by simp), ← hc, pu_dec _ (by omega)]
      rw [hc, Lib.atoiAll_plain _ _ (by omega) (by omega), hq, Lib.signless, if_neg (by omega)]
      congr 1; omega
  unfold numT
  rw [hp]
  simp
theorem numT_some {l : List UInt8} {v : Int} (h : numT l = some v) : Lib.itoa v = l ∧ Rng v := by
  unfold numT at h
  split at h
  · rename_i u hu
    split at h
    · rename_i he
      cases h
      have := Lib.parseIntB_bounds hu
      simp at this
      exact ⟨he, by omega, by omega⟩
    · cases h
  · cases h
theorem itoa_inj {u v : Int} (hu : Rng u) (hv : Rng v) (h : Lib.itoa u = Lib.itoa v) : u = v := by
  have := numT_itoa hu
  rw [h, numT_itoa hv] at this
  exact (Option.some.inj this).symm
theorem itoa_free (v : Int) : (32 : UInt8) ∉ Lib.itoa v ∧ (10 : UInt8) ∉ Lib.itoa v := by
  have hd : ∀ u : Nat, (32 : UInt8) ∉ Lib.decDigits u ∧ (10 : UInt8) ∉ Lib.decDigits u := fun u =>
    ⟨fun h => by have := (dec_all u _ h).1; exact absurd this (by decide), fun h => by have := (dec_all u _ h).1; exact absurd this (by decide)⟩
  unfold Lib.itoa
  split
  · exact ⟨fun h => by rcases List.mem_cons.1 h with h | h; exact absurd h (by decide); exact (hd _).1 h, fun h => by rcases List.mem_cons.1 h with h | h; exact absurd h (by decide); exact (hd _).2 h⟩
  · exact hd _

/-- A text's pieces between letters c. -/
def Pieces (c : UInt8) (l : List UInt8) (ps : List (List UInt8)) : Prop := ps ≠ [] ∧ Lib.join ps [c] = l ∧ ∀ p ∈ ps, c ∉ p
theorem tail_form (c : UInt8) : ∀ r : List (List UInt8), Lib.joinTail [c] r = [] ∧ r = [] ∨ ∃ a q, r = a :: q ∧ Lib.joinTail [c] r = c :: (a ++ Lib.joinTail [c] q)
  | [] => .inl ⟨rfl, rfl⟩
  | a :: q => .inr ⟨a, q, rfl, by simp [Lib.joinTail]⟩
theorem head_same {c : UInt8} : ∀ {x y T U : List UInt8}, c ∉ x → c ∉ y → (T = [] ∨ ∃ t, T = c :: t) → (U = [] ∨ ∃ t, U = c :: t) → x ++ T = y ++ U → x = y ∧ T = U
  | [], [], T, U, _, _, _, _, h => ⟨rfl, h⟩
  | [], b :: y, T, U, _, hy, hT, _, h => by
    rcases hT with rfl | ⟨t, rfl⟩
    · simp at h
    · simp at h
      exact absurd h.1 (fun e => hy (by simp [e]))
  | a :: x, [], T, U, hx, _, _, hU, h => by
    rcases hU with rfl | ⟨t, rfl⟩
    · simp at h
    · simp at h
      exact absurd h.1 (fun e => hx (by simp [e]))
  | a :: x, b :: y, T, U, hx, hy, hT, hU, h => by
    simp only [List.cons_append, List.cons.injEq] at h
    obtain ⟨h1, h2⟩ := head_same (fun e => hx (List.mem_cons_of_mem _ e)) (fun e => hy (List.mem_cons_of_mem _ e)) hT hU h.2
    exact ⟨by rw [h.1, h1], h2⟩
theorem tail_or (c : UInt8) (r : List (List UInt8)) : Lib.joinTail [c] r = [] ∨ ∃ t, Lib.joinTail [c] r = c :: t := by
  rcases tail_form c r with ⟨h, _⟩ | ⟨a, q, _, h⟩
  · exact .inl h
  · exact .inr ⟨_, h⟩
theorem tail_inj (c : UInt8) : ∀ (r q : List (List UInt8)), (∀ p ∈ r, c ∉ p) → (∀ p ∈ q, c ∉ p) → Lib.joinTail [c] r = Lib.joinTail [c] q → r = q
  | [], q, _, _, h => by
    rcases tail_form c q with ⟨_, h2⟩ | ⟨a, q', _, h2⟩
    · exact h2.symm
    · rw [h2] at h; cases h
  | a :: r, q, hr, hq, h => by
    rcases tail_form c q with ⟨h1, _⟩ | ⟨b, q', rfl, h2⟩
    · rw [h1] at h; simp [Lib.joinTail] at h
    · have h3 : Lib.joinTail [c] (a :: r) = c :: (a ++ Lib.joinTail [c] r) := by simp [Lib.joinTail]
      rw [h2, h3] at h
      injection h with _ h
      obtain ⟨e1, e2⟩ := head_same (hr a (by simp)) (hq b (by simp)) (tail_or c r) (tail_or c q') h
      rw [e1, tail_inj c r q' (fun p hp => hr p (by simp [hp])) (fun p hp => hq p (by simp [hp])) e2]
theorem Pieces.unique {c : UInt8} {l : List UInt8} {ps qs : List (List UInt8)} (hp : Pieces c l ps) (hq : Pieces c l qs) : ps = qs := by
  obtain ⟨hp0, hp1, hp2⟩ := hp
  obtain ⟨hq0, hq1, hq2⟩ := hq
  cases ps with
  | nil => exact absurd rfl hp0
  | cons a r =>
    cases qs with
    | nil => exact absurd rfl hq0
    | cons b q =>
      rw [← hq1, Lib.join_cons, Lib.join_cons] at hp1
      obtain ⟨e1, e2⟩ := head_same (hp2 a (by simp)) (hq2 b (by simp)) (tail_or c r) (tail_or c q) hp1
      rw [e1, tail_inj c r q (fun p h => hp2 p (by simp [h])) (fun p h => hq2 p (by simp [h])) e2]
/-- A piece more at the end. -/
theorem Pieces.snoc {c : UInt8} {l p : List UInt8} {ps : List (List UInt8)} (h : Pieces c l ps) (hp : c ∉ p) : Pieces c (l ++ c :: p) (ps ++ [p]) := by
  obtain ⟨h0, h1, h2⟩ := h
  cases ps with
  | nil => exact absurd rfl h0
  | cons a r =>
    refine ⟨by simp, ?_, ?_⟩
    · rw [List.cons_append, Lib.join_cons] at *
      rw [← h1]
      simp [Lib.joinTail]
    · intro q hq
      rcases List.mem_append.1 hq with hq | hq
      · exact h2 q hq
      · rw [List.mem_singleton] at hq; subst hq; exact hp
theorem Pieces.one {c : UInt8} {p : List UInt8} (hp : c ∉ p) : Pieces c p [p] := ⟨by simp, Lib.join_one _ _, fun q hq => by rw [List.mem_singleton] at hq; subst hq; exact hp⟩
/-- A piece more at the front. -/
theorem Pieces.front {c : UInt8} {l p : List UInt8} {ps : List (List UInt8)} (h : Pieces c l ps) (hp : c ∉ p) : Pieces c (p ++ c :: l) (p :: ps) := by
  obtain ⟨h0, h1, h2⟩ := h
  cases ps with
  | nil => exact absurd rfl h0
  | cons a r =>
    refine ⟨by simp, ?_, ?_⟩
    · rw [Lib.join_cons] at h1 ⊢
      rw [← h1]
      simp [Lib.joinTail]
    · intro q hq
      rcases List.mem_cons.1 hq with rfl | hq
      · exact hp
      · exact h2 q hq

theorem word_free : ∀ k : Nat, (32 : UInt8) ∉ wordI k ∧ (10 : UInt8) ∉ wordI k := by
  intro k
  unfold wordI
  split <;> decide
theorem word_inj : ∀ a b : Nat, 1 ≤ a → a ≤ 17 → 1 ≤ b → b ≤ 17 → wordI a = wordI b → a = b := by
  have h : ∀ a : Fin 18, ∀ b : Fin 18, 1 ≤ a.val → 1 ≤ b.val → wordI a = wordI b → a.val = b.val := by decide +kernel
  intro a b h1 h2 h3 h4 e
  exact h ⟨a, by omega⟩ ⟨b, by omega⟩ h1 h3 e
theorem line_pieces (x : Stp) : Pieces 32 x.line x.lineT := by
  refine ⟨by simp [Stp.lineT], rfl, ?_⟩
  intro p hp
  rcases List.mem_cons.1 hp with rfl | hp
  · exact (word_free _).1
  · obtain ⟨l, _, rfl⟩ := List.mem_map.1 hp
    exact (itoa_free _).1
theorem join_free {d c : UInt8} (hd : d ≠ c) : ∀ ps : List (List UInt8), (∀ p ∈ ps, d ∉ p) → d ∉ Lib.join ps [c]
  | [], _ => by simp [Lib.join]
  | [a], h => by rw [Lib.join_one]; exact h a (by simp)
  | a :: b :: r, h => by
    have h2 := join_free hd (b :: r) fun p hp => h p (by simp [hp])
    rw [Lib.join_cons] at h2 ⊢
    intro hm
    rcases List.mem_append.1 hm with hm | hm
    · exact h a (by simp) hm
    · have e : Lib.joinTail [c] (b :: r) = c :: (b ++ Lib.joinTail [c] r) := by simp [Lib.joinTail]
      rw [e] at hm
      rcases List.mem_cons.1 hm with hm | hm
      · exact hd hm
      · exact h2 hm
theorem line_free (x : Stp) : (10 : UInt8) ∉ x.line := by
  refine join_free (by decide) _ ?_
  intro p hp
  rcases List.mem_cons.1 hp with rfl | hp
  · exact (word_free _).2
  · obtain ⟨l, _, rfl⟩ := List.mem_map.1 hp
    exact (itoa_free _).2

/-- A text is a step's line. -/
def Lin (l : List UInt8) (x : Stp) : Prop := x.check = 0 ∧ Rng x.n ∧ x.line = l
namespace Stp
/-- A field is set, by its letter. -/
def setF (x : Stp) (l : UInt8) (v : Int) : Stp := if l = 84 then { x with t := v } else if l = 73 then { x with i := v } else if l = 70 then { x with f := v } else if l = 74 then { x with j := v } else if l = 78 then { x with n := v } else { x with c := v }
def Let (l : UInt8) : Prop := l = 84 ∨ l = 73 ∨ l = 70 ∨ l = 74 ∨ l = 78 ∨ l = 67
theorem setF_k (x : Stp) (l : UInt8) (v : Int) : (x.setF l v).k = x.k := by
  unfold setF
  split
  · rfl
  split
  · rfl
  split
  · rfl
  split
  · rfl
  split <;> rfl
theorem setF_same (x : Stp) {l : UInt8} (v : Int) (h : Let l) : (x.setF l v).letF l = v := by
  rcases h with rfl | rfl | rfl | rfl | rfl | rfl <;> rfl
theorem setF_other (x : Stp) {l m : UInt8} (v : Int) (h : Let l) (hm : Let m) (hn : m ≠ l) : (x.setF l v).letF m = x.letF m := by
  rcases h with rfl | rfl | rfl | rfl | rfl | rfl <;> rcases hm with rfl | rfl | rfl | rfl | rfl | rfl <;> first | rfl | exact absurd rfl hn
theorem ext_let {x y : Stp} (hk : x.k = y.k) (h : ∀ l, Let l → x.letF l = y.letF l) : x = y := by
  obtain ⟨k, t, i, f, j, c, n⟩ := x
  obtain ⟨k', t', i', f', j', c', n'⟩ := y
  have h1 : t = t' := h 84 (.inl rfl)
  have h2 : i = i' := h 73 (.inr (.inl rfl))
  have h3 : f = f' := h 70 (.inr (.inr (.inl rfl)))
  have h4 : j = j' := h 74 (.inr (.inr (.inr (.inl rfl))))
  have h5 : n = n' := h 78 (.inr (.inr (.inr (.inr (.inl rfl)))))
  have h6 : c = c' := h 67 (.inr (.inr (.inr (.inr (.inr rfl)))))
  cases hk; subst h1 h2 h3 h4 h5 h6; rfl
/-- Which of the six a letter is. -/
def idx (l : UInt8) : Nat := if l = 84 then 0 else if l = 73 then 1 else if l = 70 then 2 else if l = 74 then 3 else if l = 78 then 5 else 4
theorem lets_has : ∀ k : Nat, 1 ≤ k → k ≤ 17 → ∀ l, Let l → (l ∈ letsI k ↔ has (k : Int) (idx l) = true) := by
  have h : ∀ k : Fin 18, 1 ≤ k.val → (84 ∈ letsI k ↔ has (k.val : Int) 0 = true) ∧ (73 ∈ letsI k ↔ has (k.val : Int) 1 = true) ∧ (70 ∈ letsI k ↔ has (k.val : Int) 2 = true) ∧ (74 ∈ letsI k ↔ has (k.val : Int) 3 = true) ∧ (78 ∈ letsI k ↔ has (k.val : Int) 5 = true) ∧ (67 ∈ letsI k ↔ has (k.val : Int) 4 = true) := by decide +kernel
  intro k h1 h2 l hl
  obtain ⟨a, b, c, d, e, f⟩ := h ⟨k, by omega⟩ h1
  rcases hl with rfl | rfl | rfl | rfl | rfl | rfl <;> assumption
theorem lets_let : ∀ k l, l ∈ letsI k → Let l := by
  intro k l hl
  unfold letsI at hl
  unfold Let
  split at hl <;> simp at hl <;> first | (subst hl; simp) | (rcases hl with rfl | rfl <;> simp) | (rcases hl with rfl | rfl | rfl <;> simp) | (rcases hl with rfl | rfl | rfl | rfl <;> simp)
theorem lets_nodup : ∀ k : Nat, (letsI k).Nodup := by
  intro k
  unfold letsI
  split <;> decide
theorem letF_fld (x : Stp) : ∀ l, Let l → l ≠ 78 → x.letF l = x.fld (idx l) := by
  intro l hl hn
  rcases hl with rfl | rfl | rfl | rfl | rfl | rfl
  · rfl
  · rfl
  · rfl
  · rfl
  · exact absurd rfl hn
  · rfl
/-- Where a step that may be has no letter, it has 0. -/
theorem check_zero' {x : Stp} (h : x.check = 0) {kk : Nat} (hk : x.k = (kk : Int)) : ∀ l, Let l → l ∉ letsI kk → x.letF l = 0 := by
  intro l hl hn
  obtain ⟨h1, h2, h3⟩ := check_zero h
  have hh := lets_has kk (by omega) (by omega) l hl
  by_cases hN : l = 78
  · subst hN
    have hf : has x.k 5 = false := by
      cases hb : has x.k 5 with
      | false => rfl
      | true => rw [hk] at hb; exact absurd (hh.2 hb) hn
    have : ¬ (x.n ≠ 0 ∧ has x.k 5 = false) := by
      intro hc
      have := check_n h1 h2 h3 hc.1 hc.2
      omega
    by_cases h0 : x.n = 0
    · exact h0
    · exact absurd ⟨h0, hf⟩ this
  · rw [letF_fld x l hl hN]
    have hj : idx l < 5 := by rcases hl with rfl | rfl | rfl | rfl | rfl | rfl <;> first | decide | exact absurd rfl hN
    rcases h3 (idx l) hj with h0 | h0
    · exact h0
    · rw [hk] at h0; exact absurd (hh.2 h0) hn
theorem check_rngs {x : Stp} (h : x.check = 0) (hn : Rng x.n) : ∀ l, Rng (x.letF l) := by
  obtain ⟨_, h2, _⟩ := check_zero h
  have r0 := h2 0 (by omega)
  have r1 := h2 1 (by omega)
  have r2 := h2 2 (by omega)
  have r3 := h2 3 (by omega)
  have r4 := h2 4 (by omega)
  simp only [fld] at r0 r1 r2 r3 r4
  intro l
  unfold letF
  split
  · exact ⟨by omega, by omega⟩
  split
  · exact ⟨by omega, by omega⟩
  split
  · exact ⟨by omega, by omega⟩
  split
  · exact ⟨by omega, by omega⟩
  split
  · exact hn
  · exact ⟨by omega, by omega⟩
end Stp
/-- What a line's pieces say of its step. -/
theorem lin_parts {l : List UInt8} {x : Stp} {p : List UInt8} {rest : List (List UInt8)} (h : Lin l x) (hp : Pieces 32 l (p :: rest)) :
    wordI x.k.toNat = p ∧ (letsI x.k.toNat).map (fun c => Lib.itoa (x.letF c)) = rest := by
  obtain ⟨_, _, rfl⟩ := h
  have := (line_pieces x).unique hp
  unfold Stp.lineT at this
  injection this with h1 h2
  exact ⟨h1, h2⟩
/-- A step whose parts are the pieces has this line. -/
theorem lin_of {l : List UInt8} {x : Stp} {p : List UInt8} {rest : List (List UInt8)} (hc : x.check = 0) (hn : Rng x.n) (hp : Pieces 32 l (p :: rest)) (h1 : wordI x.k.toNat = p) (h2 : (letsI x.k.toNat).map (fun c => Lib.itoa (x.letF c)) = rest) : Lin l x := by
  refine ⟨hc, hn, ?_⟩
  rw [← hp.2.1, ← h1, ← h2]
  rfl
theorem lin_unique {l : List UInt8} {x y : Stp} (hx : Lin l x) (hy : Lin l y) : x = y := by
  have hp := hy.2.2 ▸ line_pieces y
  obtain ⟨h1, h2⟩ := lin_parts hx hp
  obtain ⟨kx, hkx, _⟩ := Stp.check_zero hx.1
  obtain ⟨ky, hky, _⟩ := Stp.check_zero hy.1
  have hk : x.k.toNat = y.k.toNat := word_inj _ _ (by omega) (by omega) (by omega) (by omega) h1
  have hk' : x.k = y.k := by omega
  refine Stp.ext_let hk' fun l hl => ?_
  by_cases hm : l ∈ letsI y.k.toNat
  · rw [hk] at h2
    have := List.map_inj_left.1 h2 l hm
    exact itoa_inj (Stp.check_rngs hx.1 hx.2.1 l) (Stp.check_rngs hy.1 hy.2.1 l) this
  · rw [Stp.check_zero' hx.1 (kk := y.k.toNat) (by omega) l hl hm, Stp.check_zero' hy.1 (kk := y.k.toNat) (by omega) l hl hm]
end Go.Proofs.YtffdekgkhiffkaaDoor
