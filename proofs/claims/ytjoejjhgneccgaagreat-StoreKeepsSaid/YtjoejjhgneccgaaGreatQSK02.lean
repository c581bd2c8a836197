/- Rows that a structure owns: appended to, written, kept apart. -/
import Derived.Test.YtjoejjhgneccgaaGreatQSK01
import Derived.Test.YtjoejjhgneccgaaGreatProg
import Derived.Lib.OwnKind
import Derived.OwnWalk
namespace Go.Proofs.YtjoejjhgneccgaaGreat
open Go.RowKit

/-- All blocks but some stand as they stood. -/
structure Frm (fp : List Nat) (w w' : World) : Prop where
  os : w'.os = w.os
  tape : w'.tape = w.tape
  output : w'.output = w.output
  size : w.heap.size ≤ w'.heap.size
  block : ∀ k, k < w.heap.size → k ∉ fp → w'.heap[k]? = w.heap[k]?
theorem Frm.refl (fp : List Nat) (w : World) : Frm fp w w := ⟨rfl, rfl, rfl, Nat.le_refl _, fun _ _ _ => rfl⟩
/-- What is new, or was the structure's. -/
def Fresh (n : Nat) (fp fp' : List Nat) : Prop := ∀ k ∈ fp', k ∈ fp ∨ n ≤ k
theorem Frm.trans {fp fp1 : List Nat} {w w1 w2 : World} (h : Frm fp w w1) (h2 : Frm fp1 w1 w2) (hf : Fresh w.heap.size fp fp1) : Frm fp w w2 :=
  ⟨h2.os.trans h.os, h2.tape.trans h.tape, h2.output.trans h.output, Nat.le_trans h.size h2.size, fun k hk hn => by
    rw [h2.block k (Nat.lt_of_lt_of_le hk h.size) (fun hm => by rcases hf k hm with h' | h'; exact hn h'; omega), h.block k hk hn]⟩
/-- What is turned behind it lay not there ahead of it. -/
theorem Frm.trans_new {fp fp1 : List Nat} {w w1 w2 : World} (h : Frm fp w w1) (h2 : Frm fp1 w1 w2) (hf : ∀ k ∈ fp1, w.heap.size ≤ k) : Frm fp w w2 := h.trans h2 (fun k hk => .inr (hf k hk))
theorem Frm.of_below {w w' : World} (fp : List Nat) (h : Below w.heap.size w w') : Frm fp w w' := ⟨h.os, h.tape, h.output, h.size, fun k hk _ => h.block k hk⟩
theorem Frm.of_grown {w w' : World} {row : Option Nat} {fp : List Nat} (h : w.grownBy w' row) (hr : ∀ k, row = some k → k ∈ fp ∨ w.heap.size ≤ k) : Frm fp w w' :=
  ⟨h.os, h.tape, h.output, h.size, fun k hk hn => h.block k hk (fun e => by rcases hr k e.symm with h' | h'; exact hn h'; omega)⟩
theorem Frm.setCell {fp : List Nat} (w : World) {p : Addr} (hp : p.block ∈ fp) (v : Value) : Frm fp w (w.setCell p v) :=
  ⟨rfl, rfl, rfl, by simp [World.setCell], fun k _ hn => heap_setCell_other _ _ _ _ (fun e => hn (e ▸ hp))⟩
theorem Frm.setRow {fp : List Nat} (w : World) {g : Nat} (hg : g ∈ fp) (cs : Array Value) : Frm fp w (w.setRow g cs) :=
  ⟨rfl, rfl, rfl, by rw [size_setRow]; exact Nat.le_refl _, fun k _ hn => heap_setRow_other _ _ _ _ (fun e => hn (e ▸ hg))⟩
theorem Frm.drewN {fp : List Nat} (w : World) (n : Nat) : Frm fp w (w.drewN n) := ⟨rfl, rfl, rfl, Nat.le_refl _, fun _ _ _ => rfl⟩
theorem Frm.mono {fp fp' : List Nat} {w w' : World} (h : Frm fp w w') (hs : ∀ k ∈ fp, k ∈ fp') : Frm fp' w w' := ⟨h.os, h.tape, h.output, h.size, fun k hk hn => h.block k hk (fun hm => hn (hs k hm))⟩
/-- Seen from below all that the structure has: nothing turned. -/
theorem Frm.below {fp : List Nat} {w w' : World} {B : Nat} (h : Frm fp w w') (hB : B ≤ w.heap.size) (hf : ∀ k ∈ fp, B ≤ k) : Below B w w' :=
  ⟨h.os, h.tape, h.output, h.size, fun k hk => h.block k (Nat.lt_of_lt_of_le hk hB) (fun hm => by have := hf k hm; omega)⟩

/-- The value owns the row xs. -/
abbrev Own (w : World) (e : TypeId) (size n : Nat) (v : Value) (xs : List Value) : Prop := w.ownsRow 0 e size v n xs
theorem own_heap {w w' : World} {e : TypeId} {size n : Nat} {v : Value} {xs : List Value} (h : Own w e size n v xs) (hk : ∀ k, v.ownBlock = some k → w'.heap[k]? = w.heap[k]?) : Own w' e size n v xs :=
  ⟨h.1, h.2.imp id fun ⟨g, cap, cur, hv, hg, hh, r⟩ => ⟨g, cap, cur, hv, hg, (hk g (by rw [hv]; rfl)).trans hh, r⟩⟩
theorem own_blk {w : World} {e : TypeId} {size n : Nat} {v : Value} {xs : List Value} (h : Own w e size n v xs) : ∀ k, v.ownBlock = some k → k < w.heap.size := fun k hk => (h.lt k hk).2
/-- Rows of two kinds lie apart. -/
theorem own_apart {w : World} {e e' : TypeId} {size n size' n' : Nat} {v v' : Value} {xs xs' : List Value} (h : Own w e size n v xs) (h' : Own w e' size' n' v' xs') (hne : e ≠ e') {k : Nat} (hk : v.ownBlock = some k) : v'.ownBlock ≠ some k := by
  intro hk'
  obtain ⟨c, f, h1⟩ := Lib.ownsRow_kind h k hk
  obtain ⟨c', f', h2⟩ := Lib.ownsRow_kind h' k hk'
  rw [h1] at h2
  simp only [Option.some.injEq, Obj.cells.injEq] at h2
  exact hne h2.2.1
/-- .. and apart from a block of another kind. -/
theorem own_not {w : World} {e T : TypeId} {size n : Nat} {v : Value} {xs : List Value} (h : Own w e size n v xs) {k : Nat} {cs : Array Value} {fr : Nat × Nat} (hb : w.heap[k]? = some (.cells cs T fr)) (hne : e ≠ T) : v.ownBlock ≠ some k := by
  intro hk
  obtain ⟨c, f, h1⟩ := Lib.ownsRow_kind h k hk
  rw [h1] at hb
  simp only [Option.some.injEq, Obj.cells.injEq] at hb
  exact hne hb.2.1

section
variable {P : Program} (w : World)
/-- An append lands in the same row, or in a new one. -/
theorem run_append_new (t ty e : TypeId) (i : TypeInfo) (z : Value) (size bytes : Nat) (ht : P.underlying t = some (.slice e)) (hi : P.info? e = some i) (hz : i.zero = some z)
    (hsize : i.size = size) (hby : i.bytes = bytes) (hzs : z.cells.size = size) (hsz : 0 < size) (v : Value) (n : Nat) (xs : List Value) (hown : Own w e size n v xs)
    (a : Addr) (m c : Nat) (news : List Value) (hl : news.length = m * size) (hnews : ∀ j u, news[j]? = some u → w.cell? (a.add j) = some u) (h1 : ∀ u ∈ news, u.oneCell' = true)
    (h63 : n + m ≤ maxLen) (hbytes : (n + m) * bytes ≤ 140737488355328) :
    ∃ v' w', (Builtin.append_ #[t, t] ty #[v, .slice (some a) m c]).run P w = .ok v' w' ∧ Own w' e size (n + m) v' (xs ++ news) ∧ w.grownBy w' v.ownBlock ∧ (v'.ownBlock = v.ownBlock ∨ v'.ownBlock = some w.heap.size) ∧ (0 < m → v' ≠ .slice none 0 0) := by
  obtain ⟨v', w', hr, h2, h3, h4⟩ := run_append_own (P := P) w 0 t ty e i z size bytes ht hi hz hsize hby hzs hsz v n xs hown a m c news hl hnews h1 h63 hbytes (Nat.zero_le _)
  refine ⟨v', w', hr, h2, h3, ?_, fun hm he => by have := (h4.1 he).2; omega⟩
  have hsmall : n + m ≤ 9223372036854775807 := by simp only [maxLen] at h63; omega
  subst hsize
  subst hby
  rcases hown.2 with ⟨rfl, rfl⟩ | ⟨g, cap, cur, rfl, hbg, hg, hnc, hcm, hcs, htake⟩
  · by_cases hm : m = 0
    · left; rw [h4.2 ⟨rfl, hm⟩]
    · right
      have hr2 := run_append_nil (P := P) w t ty e i z ht hi hz a m c news hl hnews (by omega) (by omega) (by simp only [Nat.zero_add] at hbytes; omega)
      rw [hr2] at hr
      injection hr with h5 _
      rw [← h5]; rfl
  · by_cases hroom : n + m ≤ cap
    · left
      have hfit : n * i.size + news.length ≤ cur.size := by rw [hl, hcs, ← Nat.add_mul]; exact Nat.mul_le_mul_right _ hroom
      have hr2 := run_append_room (P := P) w t ty e i ht hi g n cap cur hg a m c news hl hnews h1 hroom hfit
      rw [hr2] at hr
      injection hr with h5 _
      rw [← h5]; rfl
    · right
      have hr2 := run_append_grow (P := P) w t ty e i z ht hi hz ⟨g, 0, none⟩ n cap xs hown.1 (hown.cells (g := g) rfl) a m c news hl hnews (by omega) (by omega) (growslice_fits (by omega) hbytes)
      rw [hr2] at hr
      injection hr with h5 _
      rw [← h5]; rfl
theorem wp_append_new {o : Oper} {a : Act} {K : Act → World → Prop} {Q : Exit → Act → World → Prop} (s x : Operand) (t : TypeId) (ho : o.op = .call { callee := .builtin .append, args := #[s, x], argTypes := #[t, t] })
    (e : TypeId) (i : TypeInfo) (z : Value) (size bytes : Nat) (ht : P.underlying t = some (.slice e)) (hi : P.info? e = some i) (hz : i.zero = some z) (hsize : i.size = size) (hby : i.bytes = bytes) (hzs : z.cells.size = size) (hsz : 0 < size)
    (v : Value) (n : Nat) (xs : List Value) (hs : a.eval s = v) (hown : Own w e size n v xs)
    (ad : Addr) (m c : Nat) (news : List Value) (hx : a.eval x = .slice (some ad) m c) (hl : news.length = m * size) (hnews : ∀ j u, news[j]? = some u → w.cell? (ad.add j) = some u) (h1 : ∀ u ∈ news, u.oneCell' = true)
    (h63 : n + m ≤ maxLen) (hbytes : (n + m) * bytes ≤ 140737488355328)
    (h : ∀ v' w', Own w' e size (n + m) v' (xs ++ news) → w.grownBy w' v.ownBlock → (v'.ownBlock = v.ownBlock ∨ v'.ownBlock = some w.heap.size) → (0 < m → v' ≠ .slice none 0 0) → K (a.put o.dst v') w') : o.wp P a w K Q := by
  obtain ⟨v', w', hr, h2, h3, h4, h5⟩ := run_append_new (P := P) w t o.type e i z size bytes ht hi hz hsize hby hzs hsz v n xs hown ad m c news hl hnews h1 h63 hbytes
  unfold Oper.wp execOp
  simp only [ho, resolve, invoke, builtin, Sem.run_bind, Sem.run_pure, Result.andThen_ok, List.map_toArray, List.map_cons, List.map_nil, hs, hx, hr]
  exact h v' w' h2 h3 h4 h5
theorem wpList_append_new {ops : Array Oper} {rest : List Oper} {o : Oper} {a : Act} {Q : Exit → Act → World → Prop} (hgd : o.guard = none) (s x : Operand) (t : TypeId) (ho : o.op = .call { callee := .builtin .append, args := #[s, x], argTypes := #[t, t] })
    (e : TypeId) (i : TypeInfo) (z : Value) (size bytes : Nat) (ht : P.underlying t = some (.slice e)) (hi : P.info? e = some i) (hz : i.zero = some z) (hsize : i.size = size) (hby : i.bytes = bytes) (hzs : z.cells.size = size) (hsz : 0 < size)
    (v : Value) (n : Nat) (xs : List Value) (hs : a.eval s = v) (hown : Own w e size n v xs)
    (ad : Addr) (m c : Nat) (news : List Value) (hx : a.eval x = .slice (some ad) m c) (hl : news.length = m * size) (hnews : ∀ j u, news[j]? = some u → w.cell? (ad.add j) = some u) (h1 : ∀ u ∈ news, u.oneCell' = true)
    (h63 : n + m ≤ maxLen) (hbytes : (n + m) * bytes ≤ 140737488355328)
    (h : ∀ v' w', Own w' e size (n + m) v' (xs ++ news) → w.grownBy w' v.ownBlock → (v'.ownBlock = v.ownBlock ∨ v'.ownBlock = some w.heap.size) → (0 < m → v' ≠ .slice none 0 0) → wpList P ops Q rest (a.put o.dst v') w') : wpList P ops Q (o :: rest) a w :=
  wpList_plain hgd fun _ hK => wp_append_new w s x t ho e i z size bytes ht hi hz hsize hby hzs hsz v n xs hs hown ad m c news hx hl hnews h1 h63 hbytes fun v' w' h2 h3 h4 h5 => hK _ _ (h v' w' h2 h3 h4 h5)
end

/-- Many rows of one kind, each apart. -/
structure Rows (w : World) (e : TypeId) (size : Nat) (vs : List Value) (xss : List (List Value)) : Prop where
  len : vs.length = xss.length
  own : ∀ i, i < xss.length → ∃ n, Own w e size n (vs.getD i undef) (xss.getD i [])
  sep : (vs.filterMap Value.ownBlock).Nodup
theorem Rows.keep {w w' : World} {e : TypeId} {size : Nat} {vs : List Value} {xss : List (List Value)} (h : Rows w e size vs xss) (hk : ∀ k ∈ vs.filterMap Value.ownBlock, w'.heap[k]? = w.heap[k]?) : Rows w' e size vs xss :=
  ⟨h.len, fun i hi => by
    obtain ⟨n, ho⟩ := h.own i hi
    refine ⟨n, own_heap ho fun k hb => hk k ?_⟩
    have hil : i < vs.length := by rw [h.len]; exact hi
    rw [List.getD_eq_getElem?_getD, List.getElem?_eq_getElem hil] at hb
    exact List.mem_filterMap.2 ⟨vs[i], List.getElem_mem hil, hb⟩, h.sep⟩
theorem Rows.lt {w : World} {e : TypeId} {size : Nat} {vs : List Value} {xss : List (List Value)} (h : Rows w e size vs xss) : ∀ k ∈ vs.filterMap Value.ownBlock, k < w.heap.size := by
  intro k hk
  obtain ⟨v, hv, hb⟩ := List.mem_filterMap.1 hk
  obtain ⟨i, hi, rfl⟩ := List.getElem_of_mem hv
  obtain ⟨n, ho⟩ := h.own i (by rw [← h.len]; exact hi)
  refine own_blk ho k ?_
  rw [List.getD_eq_getElem?_getD, List.getElem?_eq_getElem hi]; exact hb
theorem rows_kind {w : World} {e : TypeId} {size : Nat} {vs : List Value} {xss : List (List Value)} (h : Rows w e size vs xss) {k : Nat} (hk : k ∈ vs.filterMap Value.ownBlock) : ∃ c f, w.heap[k]? = some (.cells c e f) := by
  obtain ⟨v, hv, hb⟩ := List.mem_filterMap.1 hk
  obtain ⟨i, hi, rfl⟩ := List.getElem_of_mem hv
  obtain ⟨n, ho⟩ := h.own i (by rw [← h.len]; exact hi)
  refine Lib.ownsRow_kind ho k ?_
  rw [List.getD_eq_getElem?_getD, List.getElem?_eq_getElem hi]; exact hb
/-- Two places of one list whose rows lie in one block are one place. -/
theorem nodup_place {vs : List Value} (h : (vs.filterMap Value.ownBlock).Nodup) : ∀ {i j : Nat} {k : Nat}, (vs.getD i undef).ownBlock = some k → (vs.getD j undef).ownBlock = some k → i = j := by
  have key : ∀ (vs : List Value), (vs.filterMap Value.ownBlock).Nodup → ∀ {i j k : Nat}, (hi : i < vs.length) → (hj : j < vs.length) → (vs[i]).ownBlock = some k → (vs[j]).ownBlock = some k → i = j := by
    intro vs
    induction vs with
    | nil => intro _ i j k hi; exact absurd hi (by simp)
    | cons v vs ih =>
      intro hn i j k hi hj h1 h2
      have hn2 : (vs.filterMap Value.ownBlock).Nodup := by
        rw [List.filterMap_cons] at hn
        split at hn
        · exact hn
        · exact (List.nodup_cons.1 hn).2
      have hmem : ∀ (m : Nat) (hm : m < vs.length), vs[m].ownBlock = some k → v.ownBlock = some k → False := by
        intro m hm h3 h4
        rw [List.filterMap_cons, h4] at hn
        exact (List.nodup_cons.1 hn).1 (List.mem_filterMap.2 ⟨vs[m], List.getElem_mem hm, h3⟩)
      cases i with
      | zero =>
        cases j with
        | zero => rfl
        | succ j => exact absurd (hmem j (by simpa using hj) (by simpa using h2) (by simpa using h1)) id
      | succ i =>
        cases j with
        | zero => exact absurd (hmem i (by simpa using hi) (by simpa using h1) (by simpa using h2)) id
        | succ j => exact congrArg (· + 1) (ih hn2 (i := i) (j := j) (k := k) (by simpa using hi) (by simpa using hj) (by simpa using h1) (by simpa using h2))
  intro i j k h1 h2
  have hi : i < vs.length := by
    rcases Nat.lt_or_ge i vs.length with h' | h'
    · exact h'
    · rw [List.getD_eq_getElem?_getD, List.getElem?_eq_none h'] at h1; cases h1
  have hj : j < vs.length := by
    rcases Nat.lt_or_ge j vs.length with h' | h'
    · exact h'
    · rw [List.getD_eq_getElem?_getD, List.getElem?_eq_none h'] at h2; cases h2
  rw [List.getD_eq_getElem?_getD, List.getElem?_eq_getElem hi] at h1
  rw [List.getD_eq_getElem?_getD, List.getElem?_eq_getElem hj] at h2
  exact key vs h hi hj h1 h2
theorem getD_set_same {α : Type} {l : List α} {i : Nat} (h : i < l.length) (x d : α) : (l.set i x).getD i d = x := by
  rw [List.getD_eq_getElem?_getD, List.getElem?_set_self h]; rfl
theorem getD_set_other {α : Type} {l : List α} {i j : Nat} (h : i ≠ j) (x d : α) : (l.set i x).getD j d = l.getD j d := by
  rw [List.getD_eq_getElem?_getD, List.getElem?_set_ne h, List.getD_eq_getElem?_getD]
theorem sub_set {vs : List Value} {t : Nat} {v' : Value} {k : Nat} (hk : k ∈ (vs.set t v').filterMap Value.ownBlock) : k ∈ vs.filterMap Value.ownBlock ∨ v'.ownBlock = some k := by
  obtain ⟨v, hv, hb⟩ := List.mem_filterMap.1 hk
  rcases List.mem_or_eq_of_mem_set hv with h | h
  · exact .inl (List.mem_filterMap.2 ⟨v, h, hb⟩)
  · exact .inr (h ▸ hb)
theorem nodup_set {vs : List Value} {t : Nat} {v' : Value} (h : (vs.filterMap Value.ownBlock).Nodup) (hn : ∀ k, v'.ownBlock = some k → ∀ j, j ≠ t → (vs.getD j undef).ownBlock ≠ some k) : ((vs.set t v').filterMap Value.ownBlock).Nodup := by
  induction vs generalizing t with
  | nil => simp
  | cons v vs ih =>
    have h2 : (vs.filterMap Value.ownBlock).Nodup := by
      rw [List.filterMap_cons] at h
      split at h
      · exact h
      · exact (List.nodup_cons.1 h).2
    cases t with
    | zero =>
      rw [List.set_cons_zero, List.filterMap_cons]
      split
      · exact h2
      · rename_i k hk
        refine List.nodup_cons.2 ⟨fun hm => ?_, h2⟩
        obtain ⟨u, hu, hb⟩ := List.mem_filterMap.1 hm
        obtain ⟨i, hi, rfl⟩ := List.getElem_of_mem hu
        refine hn k hk (i + 1) (by omega) ?_
        rw [List.getD_eq_getElem?_getD, List.getElem?_cons_succ, List.getElem?_eq_getElem hi]; exact hb
    | succ t =>
      have ih2 := ih (t := t) h2 (fun k hk j hj => by have := hn k hk (j + 1) (by omega); rwa [List.getD_eq_getElem?_getD, List.getElem?_cons_succ, ← List.getD_eq_getElem?_getD] at this)
      rw [List.set_cons_succ, List.filterMap_cons]
      split
      · exact ih2
      · rename_i k hk
        refine List.nodup_cons.2 ⟨fun hm => ?_, ih2⟩
        rcases sub_set hm with h3 | h3
        · rw [List.filterMap_cons, hk] at h
          exact (List.nodup_cons.1 h).1 h3
        · exact hn k h3 0 (by omega) hk
/-- One row turned, into itself or into a new one. -/
theorem Rows.set {w w1 : World} {e : TypeId} {size : Nat} {vs : List Value} {xss : List (List Value)} (h : Rows w e size vs xss) {t : Nat} (ht : t < xss.length) {v' : Value} {xs' : List Value} {n : Nat}
    (hg : w.grownBy w1 (vs.getD t undef).ownBlock) (ho : Own w1 e size n v' xs') (hb : ∀ k, v'.ownBlock = some k → (vs.getD t undef).ownBlock = some k ∨ w.heap.size ≤ k) : Rows w1 e size (vs.set t v') (xss.set t xs') := by
  have htl : t < vs.length := by rw [h.len]; exact ht
  refine ⟨by rw [List.length_set, List.length_set, h.len], fun i hi => ?_, ?_⟩
  · rw [List.length_set] at hi
    by_cases e1 : t = i
    · subst e1
      rw [getD_set_same htl, getD_set_same ht]; exact ⟨n, ho⟩
    · rw [getD_set_other e1, getD_set_other e1]
      obtain ⟨m, hm⟩ := h.own i hi
      refine ⟨m, own_heap hm fun k hk => hg.block k (own_blk hm k hk) fun e2 => e1 (nodup_place h.sep e2.symm hk)⟩
  · refine nodup_set h.sep fun k hk j hj hc => ?_
    rcases hb k hk with h1 | h1
    · exact hj (nodup_place h.sep hc h1)
    · have hjl : j < vs.length := by
        rcases Nat.lt_or_ge j vs.length with h' | h'
        · exact h'
        · rw [List.getD_eq_getElem?_getD, List.getElem?_eq_none h'] at hc; cases hc
      obtain ⟨m, hm⟩ := h.own j (by rw [← h.len]; exact hjl)
      have := own_blk hm k hc
      omega
/-- One row more, a new one. -/
theorem Rows.add {w : World} {e : TypeId} {size : Nat} {vs : List Value} {xss : List (List Value)} (h : Rows w e size vs xss) {v' : Value} {xs' : List Value} {n : Nat} (ho : Own w e size n v' xs') (hb : ∀ k, v'.ownBlock = some k → k ∉ vs.filterMap Value.ownBlock) : Rows w e size (vs ++ [v']) (xss ++ [xs']) := by
  refine ⟨by simp [h.len], fun i hi => ?_, ?_⟩
  · by_cases e1 : i < xss.length
    · obtain ⟨m, hm⟩ := h.own i e1
      refine ⟨m, ?_⟩
      rw [List.getD_eq_getElem?_getD, List.getElem?_append_left (by rw [h.len]; exact e1), ← List.getD_eq_getElem?_getD, List.getD_eq_getElem?_getD (l := xss ++ [xs']), List.getElem?_append_left e1, ← List.getD_eq_getElem?_getD]
      exact hm
    · have e2 : i = xss.length := by simp at hi; omega
      subst e2
      refine ⟨n, ?_⟩
      rw [List.getD_eq_getElem?_getD, List.getElem?_append_right (by rw [h.len]; exact Nat.le_refl _), List.getD_eq_getElem?_getD, List.getElem?_append_right (Nat.le_refl _), h.len]
      simpa using ho
  · rw [List.filterMap_append]
    refine List.nodup_append.2 ⟨h.sep, ?_, fun a ha b hb2 e1 => ?_⟩
    · rw [List.filterMap_cons]
      split <;> simp
    · subst e1
      rw [List.filterMap_cons] at hb2
      split at hb2
      · cases hb2
      · rename_i k hk
        have : a = k := by simpa using hb2
        subst this
        exact hb a hk ha
end Go.Proofs.YtjoejjhgneccgaaGreat

/- Sets of small numbers, as words of 64 bits. -/
namespace Go.Proofs.YtjoejjhgneccgaaGreat
open Go.RowKit

def u64 (x : BitVec 64) : Value := .int .u64 x.toNat
/-- Is a number in it? -/
def bit (ws : List (BitVec 64)) (i : Nat) : Bool := (ws.getD (i / 64) 0#64).getLsbD (i % 64)
def bitOn (ws : List (BitVec 64)) (i : Nat) : List (BitVec 64) := ws.set (i / 64) (ws.getD (i / 64) 0#64 ||| (1#64 <<< (i % 64)))
def bitOff (ws : List (BitVec 64)) (i : Nat) : List (BitVec 64) := ws.set (i / 64) (ws.getD (i / 64) 0#64 &&& ~~~(1#64 <<< (i % 64)))
theorem one_bit (r j : Nat) (hr : r < 64) (hj : j < 64) : (1#64 <<< r).getLsbD j = decide (j = r) := by
  rw [BitVec.getLsbD_shiftLeft]
  by_cases e : j = r
  · subst e; simp [hr]
  · simp only [e, decide_false, hj, decide_true, Bool.true_and]
    by_cases h : j < r
    · simp [h]
    · simp only [h, decide_false, Bool.not_false, Bool.true_and]
      have : j - r ≠ 0 := by omega
      simp [BitVec.getLsbD_one, this]
theorem bitOn_get {ws : List (BitVec 64)} {i : Nat} (hl : ws.length = 32) (hi : i < 2048) (j : Nat) : bit (bitOn ws i) j = (bit ws j || decide (j = i)) := by
  unfold bit bitOn
  by_cases e : i / 64 = j / 64
  · rw [e, getD_set_same (by omega), BitVec.getLsbD_or, one_bit _ _ (by omega) (by omega)]
    congr 1
    rw [decide_eq_decide]; omega
  · rw [getD_set_other e]
    have : ¬ j = i := by rintro rfl; exact e rfl
    simp [this]
theorem bitOff_get {ws : List (BitVec 64)} {i : Nat} (hl : ws.length = 32) (hi : i < 2048) (j : Nat) : bit (bitOff ws i) j = (bit ws j && !decide (j = i)) := by
  unfold bit bitOff
  by_cases e : i / 64 = j / 64
  · rw [e, getD_set_same (by omega), BitVec.getLsbD_and, BitVec.getLsbD_not, one_bit _ _ (by omega) (by omega)]
    have : (decide (j % 64 = i % 64)) = decide (j = i) := by rw [decide_eq_decide]; omega
    rw [this]
    have h64 : j % 64 < 64 := by omega
    simp [h64]
  · rw [getD_set_other e]
    have : ¬ j = i := by rintro rfl; exact e rfl
    simp [this]
theorem bitOn_len (ws : List (BitVec 64)) (i : Nat) : (bitOn ws i).length = ws.length := by simp [bitOn]
theorem bitOff_len (ws : List (BitVec 64)) (i : Nat) : (bitOff ws i).length = ws.length := by simp [bitOff]
/-- A set's block. -/
structure Sx (w : World) (s n : Nat) (ws : List (BitVec 64)) : Prop where
  hd : w.heap[s]? = some (.cells (.bool true :: .int .i64 n :: ws.map u64).toArray 108 (0, 0))
  len : ws.length = 32
  le : n ≤ 2048
  top : ∀ j, n ≤ j → j < 2048 → bit ws j = false
theorem Sx.keep {w w' : World} {s n : Nat} {ws : List (BitVec 64)} (h : Sx w s n ws) (h1 : w'.heap[s]? = w.heap[s]?) : Sx w' s n ws := ⟨h1.trans h.hd, h.len, h.le, h.top⟩
theorem Sx.below {w w' : World} {s n : Nat} {ws : List (BitVec 64)} (h : Sx w s n ws) (hb : Below w.heap.size w w') : Sx w' s n ws := h.keep (hb.block s (heap_lt h.hd))
theorem Sx.frm {w w' : World} {s n : Nat} {ws : List (BitVec 64)} {fp : List Nat} (h : Sx w s n ws) (hf : Frm fp w w') (h1 : s ∉ fp) : Sx w' s n ws := h.keep (hf.block s (heap_lt h.hd) h1)
theorem Sx.cells {w : World} {s n : Nat} {ws : List (BitVec 64)} (h : Sx w s n ws) : w.cell? ⟨s, 0, none⟩ = some (.bool true) ∧ w.cell? ⟨s, 1, none⟩ = some (.int .i64 n) :=
  ⟨cell_of_row _ _ _ _ _ _ h.hd, cell_of_row _ _ _ _ _ _ h.hd⟩
theorem Sx.word {w : World} {s n : Nat} {ws : List (BitVec 64)} (h : Sx w s n ws) {q : Nat} (hq : q < 32) : w.cell? ⟨s, 2 + q, none⟩ = some (u64 (ws.getD q 0#64)) := by
  have hl := h.len
  rw [cell_of_row _ _ _ _ _ _ h.hd, show 2 + q = q + 1 + 1 by omega]
  simp [List.getD_eq_getElem?_getD, List.getElem?_eq_getElem (show q < ws.length by omega)]
theorem Sx.put {w : World} {s n : Nat} {ws : List (BitVec 64)} (h : Sx w s n ws) {q : Nat} (x : BitVec 64) (ht : ∀ j, n ≤ j → j < 2048 → bit (ws.set q x) j = false) : Sx (w.setCell ⟨s, 2 + q, none⟩ (.int .u64 x.toNat)) s n (ws.set q x) := by
  refine ⟨?_, by simpa using h.len, h.le, ht⟩
  rw [heap_setCell_same w s (2 + q) _ _ _ h.hd, show 2 + q = q + 1 + 1 by omega]
  simp [List.map_set, u64]
/-- What the machine's words on whole numbers come to. -/
theorem shr_and (x : BitVec 64) (r : Nat) : bits .and .u64 ((x.toNat : Int) / 2 ^ r) 1 = if x.getLsbD r then 1 else 0 := by
  have e : ((x.toNat : Int) / 2 ^ r) = ((x.toNat / 2 ^ r : Nat) : Int) := by norm_cast
  rw [e]
  have h1 : x.toNat / 2 ^ r < 2 ^ 64 := Nat.lt_of_le_of_lt (Nat.div_le_self _ _) x.isLt
  have h2 := (bits_nat .u64 64 (by decide) (fun n h0 h1 => by simp [IntKind.wrap, IntKind.bits, IntKind.signed]; omega) (x.toNat / 2 ^ r) 1 h1 (by decide)).1
  rw [show ((1 : Nat) : Int) = 1 from rfl] at h2
  rw [h2, Nat.and_one_is_mod, BitVec.getLsbD, Nat.testBit_eq_decide_div_mod_eq]
  have := Nat.mod_two_eq_zero_or_one (x.toNat / 2 ^ r)
  rcases this with h | h <;> simp [h]
theorem u64_wrap (n : Nat) (h : n < 2 ^ 64) : IntKind.u64.wrap (n : Int) = n := by
  simp [IntKind.wrap, IntKind.bits, IntKind.signed]; omega
theorem shl_one (r : Nat) (hr : r < 64) : IntKind.u64.wrap (1 * 2 ^ r) = (((1#64 <<< r) : BitVec 64).toNat : Int) := by
  have h1 : (2 : Nat) ^ r < 2 ^ 64 := Nat.pow_lt_pow_right (by decide) hr
  rw [Int.one_mul, show ((2 : Int) ^ r) = ((2 ^ r : Nat) : Int) by norm_cast, u64_wrap _ h1]
  simp [BitVec.toNat_shiftLeft, Nat.shiftLeft_eq, Nat.mod_eq_of_lt h1]
theorem or_words (x y : BitVec 64) : bits .or .u64 (x.toNat : Int) (y.toNat : Int) = ((x ||| y).toNat : Int) := by
  rw [(bits_nat .u64 64 (by decide) (fun n h0 h1 => by simp [IntKind.wrap, IntKind.bits, IntKind.signed]; omega) x.toNat y.toNat x.isLt y.isLt).2, BitVec.toNat_or]
theorem andnot_words (x y : BitVec 64) : bits .andNot .u64 (x.toNat : Int) (y.toNat : Int) = ((x &&& ~~~y).toNat : Int) := by
  simp only [bits, BitVec.ofInt_natCast, BitVec.ofNat_toNat, IntKind.bits]
  rw [BitVec.setWidth_eq, BitVec.setWidth_eq]
  exact u64_wrap _ (BitVec.isLt _)
end Go.Proofs.YtjoejjhgneccgaaGreat

/- Where things are: package geo, and a number between two. -/
namespace Go.Proofs.YtjoejjhgneccgaaGreat
open Go.RowKit

def clampN (a lo hi : Int) : Int := if a < lo then lo else if hi < a then hi else a
theorem clampN_bd {a lo hi : Int} (h : lo ≤ hi) : lo ≤ clampN a lo hi ∧ clampN a lo hi ≤ hi := by unfold clampN; omega
theorem clampn_any (a lo hi : Int) (w : World) :
    Calls Tryz.prog 42 #[.int .i64 a, .int .i64 lo, .int .i64 hi] w fun e w' => e = .returned (.int .i64 (clampN a lo hi)) ∧ w = w' := by
  by_cases h1 : a < lo
  · have hs := Lib.hid (show clampN a lo hi = lo by unfold clampN; rw [if_pos h1])
    go_enter Tryz.func42, Tryz.ntmps42
    go_wp2_with fail
    go_ret
    exact ⟨ret_int hs.out.symm, rfl⟩
  by_cases h2 : hi < a
  · have hs := Lib.hid (show clampN a lo hi = hi by unfold clampN; rw [if_neg h1, if_pos h2])
    go_enter Tryz.func42, Tryz.ntmps42
    go_wp2_with fail
    go_ret
    exact ⟨ret_int hs.out.symm, rfl⟩
  · have hs := Lib.hid (show clampN a lo hi = a by unfold clampN; rw [if_neg h1, if_neg h2])
    go_enter Tryz.func42, Tryz.ntmps42
    go_wp2_with fail
    go_ret
    exact ⟨ret_int hs.out.symm, rfl⟩

/-- The page that an address is in. -/
def pageI (a : Int) : Int := if a < 0 ∨ 2048 ≤ a then -1 else a / 32
theorem pageI_in {a : Int} (h0 : 0 ≤ a) (h1 : a < 2048) : pageI a = a / 32 := by unfold pageI; rw [if_neg (by omega)]
theorem pageI_out {a : Int} (h : a < 0 ∨ 2048 ≤ a) : pageI a = -1 := by unfold pageI; rw [if_pos h]
theorem pageI_bd (a : Int) : -1 ≤ pageI a ∧ pageI a < 64 := by unfold pageI; split <;> omega
theorem gpage_any (a : Int) (w : World) :
    Calls Tryz.prog 70 #[.int .i64 a] w fun e w' => e = .returned (.int .i64 (pageI a)) ∧ w = w' := by
  by_cases h1 : a < 0
  · have hs := Lib.hid (pageI_out (a := a) (.inl h1))
    go_enter Tryz.func70, Tryz.ntmps70
    go_wp2_with fail
    go_ret
    exact ⟨ret_int hs.out.symm, rfl⟩
  by_cases h2 : 2048 ≤ a
  · have hs := Lib.hid (pageI_out (a := a) (.inr h2))
    go_enter Tryz.func70, Tryz.ntmps70
    go_wp2_with fail
    go_ret
    exact ⟨ret_int hs.out.symm, rfl⟩
  · have hs := Lib.hid (pageI_in (a := a) (by omega) (by omega))
    have h3 : 0 ≤ a := by omega
    go_enter Tryz.func70, Tryz.ntmps70
    go_wp2_with fail
    go_ret
    exact ⟨ret_int hs.out.symm, rfl⟩
theorem goff_any (a : Int) (h0 : 0 ≤ a) (h1 : a < 2048) (w : World) :
    Calls Tryz.prog 90 #[.int .i64 a] w fun e w' => e = .returned (.int .i64 (a % 32)) ∧ w = w' := by
  have hs := pageI_in h0 h1
  have hp : 0 ≤ pageI a := by rw [hs]; omega
  clear hs
  go_enter Tryz.func90, Tryz.ntmps90
  go_wp2_with (go_at_call 70; refine (gpage_any a _).mono ?_; rintro e w' ⟨rfl, rfl⟩)
  go_ret
  exact ⟨rfl, rfl⟩
/-- Is it a cell of a page? -/
def atB (p k i : Int) : Bool := decide (0 ≤ p ∧ p < 64 ∧ 0 ≤ i ∧ i < cellsI k)
set_option maxHeartbeats 1000000 in
theorem at_yes (p k i : Int) (h : atB p k i = true) (w : World) :
    Calls Tryz.prog 66 #[.int .i64 p, .int .i64 k, .int .i64 i] w fun e w' => e = .returned (.tuple #[.int .i64 (p * 32 + i * sizeI k), .bool true]) ∧ w = w' := by
  simp only [atB, decide_eq_true_eq] at h
  obtain ⟨h0, h1, h2, h3⟩ := h
  have hc : cellsI k ≤ 16 := by unfold cellsI; omega
  have hs := sizeI_bd k
  have hm : 0 ≤ i * sizeI k ∧ i * sizeI k ≤ 16 * 16 := ⟨Int.mul_nonneg h2 hs.1, Int.mul_le_mul (by omega) hs.2 hs.1 (by omega)⟩
  obtain ⟨hm0, hm1⟩ := hm
  clear hc
  go_enter Tryz.func66, Tryz.ntmps66
  go_wp2_with (first | (go_at_call 76; refine (cells_any k _).mono ?_; rintro e w' ⟨rfl, rfl⟩) | (go_at_call 49; refine (size_any k _).mono ?_; rintro e w' ⟨rfl, rfl⟩))
  go_ret2
  exact ⟨rfl, rfl⟩
set_option maxHeartbeats 1000000 in
theorem at_no (p k i : Int) (h : atB p k i = false) (w : World) :
    Calls Tryz.prog 66 #[.int .i64 p, .int .i64 k, .int .i64 i] w fun e w' => e = .returned (.tuple #[.int .i64 0, .bool false]) ∧ w = w' := by
  simp only [atB, decide_eq_false_iff_not] at h
  by_cases h0 : p < 0
  · clear h
    go_enter Tryz.func66, Tryz.ntmps66
    go_wp2_with fail
    go_ret2
    exact ⟨rfl, rfl⟩
  by_cases h1 : 64 ≤ p
  · clear h
    go_enter Tryz.func66, Tryz.ntmps66
    go_wp2_with fail
    go_ret2
    exact ⟨rfl, rfl⟩
  by_cases h2 : i < 0
  · clear h
    go_enter Tryz.func66, Tryz.ntmps66
    go_wp2_with fail
    go_ret2
    exact ⟨rfl, rfl⟩
  have h3 : cellsI k ≤ i := by omega
  clear h
  go_enter Tryz.func66, Tryz.ntmps66
  go_wp2_with (go_at_call 76; refine (cells_any k _).mono ?_; rintro e w' ⟨rfl, rfl⟩)
  go_ret2
  exact ⟨rfl, rfl⟩
/-- Where the cell begins that an address is in. -/
def baseI (k a : Int) : Int := if sizeI k = 0 ∨ a < 0 ∨ 2048 ≤ a then -1 else a - a % sizeI k
theorem baseI_in {k a : Int} (hs : sizeI k ≠ 0) (h0 : 0 ≤ a) (h1 : a < 2048) : baseI k a = a - a % sizeI k := by unfold baseI; rw [if_neg (by omega)]
theorem baseI_out {k a : Int} (h : sizeI k = 0 ∨ a < 0 ∨ 2048 ≤ a) : baseI k a = -1 := by unfold baseI; rw [if_pos h]
set_option maxHeartbeats 1000000 in
theorem gbase_any (k a : Int) (w : World) :
    Calls Tryz.prog 84 #[.int .i64 k, .int .i64 a] w fun e w' => e = .returned (.int .i64 (baseI k a)) ∧ w = w' := by
  have hb := sizeI_bd k
  by_cases hz : sizeI k = 0
  · have hs := Lib.hid (baseI_out (k := k) (a := a) (.inl hz))
    have h1 : (sizeI k == 0) = true := by simp [hz]
    clear hz
    go_enter Tryz.func84, Tryz.ntmps84
    go_wp2_with (go_at_call 49; refine (size_any k _).mono ?_; rintro e w1 ⟨rfl, rfl⟩)
    go_ret
    exact ⟨ret_int hs.out.symm, rfl⟩
  have h1 : (sizeI k == 0) = false := by simp [hz]
  by_cases ha : a < 0 ∨ 2048 ≤ a
  · have hs := Lib.hid (baseI_out (k := k) (a := a) (.inr ha))
    have hp : pageI a < 0 := by rw [pageI_out ha]; omega
    clear hz ha
    go_enter Tryz.func84, Tryz.ntmps84
    go_wp2_with (first | (go_at_call 49; refine (size_any k _).mono ?_; rintro e w1 ⟨rfl, rfl⟩) | (go_at_call 70; refine (gpage_any a _).mono ?_; rintro e w' ⟨rfl, rfl⟩))
    go_ret
    exact ⟨ret_int hs.out.symm, rfl⟩
  · have h0 : 0 ≤ a := by omega
    have h2 : a < 2048 := by omega
    have hs := Lib.hid (baseI_in hz h0 h2)
    have hp : 0 ≤ pageI a := by rw [pageI_in h0 h2]; omega
    have hpos : 0 < sizeI k := by omega
    have hm0 := Int.emod_nonneg a hz
    have hm1 := Int.emod_lt_of_pos a hpos
    clear ha hz
    go_enter Tryz.func84, Tryz.ntmps84
    go_wp2_with (first | (go_at_call 49; refine (size_any k _).mono ?_; rintro e w1 ⟨rfl, rfl⟩) | (go_at_call 70; refine (gpage_any a _).mono ?_; rintro e w' ⟨rfl, rfl⟩))
    go_ret
    exact ⟨ret_int hs.out.symm, rfl⟩
set_option maxHeartbeats 1000000 in
/-- Which cell begins at an address. -/
theorem gcell_yes (k a : Int) (hz : sizeI k ≠ 0) (h0 : 0 ≤ a) (h2 : a < 2048) (hm : a % sizeI k = 0) (w : World) :
    Calls Tryz.prog 72 #[.int .i64 k, .int .i64 a] w fun e w' => e = .returned (.tuple #[.int .i64 (a % 32 / sizeI k), .bool true]) ∧ w = w' := by
  have hb := sizeI_bd k
  have hs : baseI k a = a := by rw [baseI_in hz h0 h2]; omega
  have hpos : 0 < sizeI k := by omega
  have HS := Lib.hid hs
  clear hs hm hz
  go_enter Tryz.func72, Tryz.ntmps72
  go_wp2_with (first | (go_at_call 84; refine (gbase_any k a _).mono ?_; rintro e w1 ⟨rfl, rfl⟩; rw [HS.out]) | (go_at_call 49; refine (size_any k _).mono ?_; rintro e w1 ⟨rfl, rfl⟩) | (go_at_call 90; refine (goff_any a h0 h2 _).mono ?_; rintro e w' ⟨rfl, rfl⟩))
  go_ret2
  exact ⟨rfl, rfl⟩
/-- Are they pages? -/
def endB (p n : Int) : Bool := decide (0 ≤ p ∧ 1 ≤ n ∧ p < 64 ∧ n ≤ 64 - p)
set_option maxHeartbeats 1000000 in
theorem ends_yes (p n : Int) (h : endB p n = true) (w : World) :
    Calls Tryz.prog 51 #[.int .i64 p, .int .i64 n] w fun e w' => e = .returned (.tuple #[.int .i64 (p * 32), .int .i64 ((p + n) * 32 - 1), .bool true]) ∧ w = w' := by
  simp only [endB, decide_eq_true_eq] at h
  obtain ⟨h0, h1, h2, h3⟩ := h
  go_enter Tryz.func51, Tryz.ntmps51
  go_wp2_with fail
  go_ret3
  exact ⟨rfl, rfl⟩
set_option maxHeartbeats 1000000 in
theorem ends_no (p n : Int) (h : endB p n = false) (w : World) :
    Calls Tryz.prog 51 #[.int .i64 p, .int .i64 n] w fun e w' => e = .returned (.tuple #[.int .i64 0, .int .i64 0, .bool false]) ∧ w = w' := by
  simp only [endB, decide_eq_false_iff_not] at h
  by_cases h0 : p < 0
  · clear h
    go_enter Tryz.func51, Tryz.ntmps51
    go_wp2_with fail
    go_ret3
    exact ⟨rfl, rfl⟩
  by_cases h1 : n < 1
  · clear h
    go_enter Tryz.func51, Tryz.ntmps51
    go_wp2_with fail
    go_ret3
    exact ⟨rfl, rfl⟩
  by_cases h2 : 64 ≤ p
  · clear h
    go_enter Tryz.func51, Tryz.ntmps51
    go_wp2_with fail
    go_ret3
    exact ⟨rfl, rfl⟩
  have h3 : 64 - p < n := by omega
  clear h
  go_enter Tryz.func51, Tryz.ntmps51
  go_wp2_with fail
  go_ret3
  exact ⟨rfl, rfl⟩
end Go.Proofs.YtjoejjhgneccgaaGreat

/- What the functions of package bitmap come to. -/
namespace Go.Proofs.YtjoejjhgneccgaaGreat
open Go.RowKit

def inB (n : Nat) (i : Int) : Bool := decide (0 ≤ i ∧ i < n)
set_option maxHeartbeats 1000000 in
theorem sin_any {w : World} {s n : Nat} {ws : List (BitVec 64)} (h : Sx w s n ws) (i : Int) :
    Calls Tryz.prog 78 #[.pointer (some ⟨s, 0, none⟩), .int .i64 i] w fun e w' => e = .returned (.bool (inB n i)) ∧ w = w' := by
  obtain ⟨c0, c1⟩ := h.cells
  clear h
  by_cases h0 : i < 0
  · have hs := Lib.hid (show inB n i = false by simp [inB]; omega)
    have d0 : decide (0 ≤ i) = false := by simp; omega
    go_enter Tryz.func78, Tryz.ntmps78
    go_wp2_with fail
    go_ret
    exact ⟨ret_bool hs.out.symm, rfl⟩
  · have h0' : 0 ≤ i := by omega
    have hs := Lib.hid (show inB n i = decide (i < n) by simp [inB, h0'])
    go_enter Tryz.func78, Tryz.ntmps78
    go_wp2_with fail
    go_ret
    exact ⟨ret_bool hs.out.symm, rfl⟩
/-- Is it in it? -/
def hasB (n : Nat) (ws : List (BitVec 64)) (i : Int) : Bool := inB n i && bit ws i.toNat
set_option maxHeartbeats 1000000 in
theorem has_any {w : World} {s n : Nat} {ws : List (BitVec 64)} (h : Sx w s n ws) (i : Int) :
    Calls Tryz.prog 79 #[.pointer (some ⟨s, 0, none⟩), .int .i64 i] w fun e w' => e = .returned (.bool (hasB n ws i)) ∧ w = w' := by
  have H := Lib.hid h
  cases hi : inB n i with
  | false =>
    have hs := Lib.hid (show hasB n ws i = false by simp [hasB, hi])
    have HI := Lib.hid hi
    clear h hi
    go_enter Tryz.func79, Tryz.ntmps79
    go_wp2_with (go_at_call 78; refine (sin_any H.out i).mono ?_; rw [HI.out]; rintro e w' ⟨rfl, rfl⟩)
    go_ret
    exact ⟨ret_bool hs.out.symm, rfl⟩
  | true =>
    have hd := hi
    simp only [inB, decide_eq_true_eq] at hd
    obtain ⟨j, rfl⟩ := Int.eq_ofNat_of_zero_le hd.1
    have hn := h.le
    have hq : ((j : Int) / 64) = ((j / 64 : Nat) : Int) := by norm_cast
    have hr : ((j : Int) % 64) = ((j % 64 : Nat) : Int) := by norm_cast
    have cw := h.word (q := j / 64) (by omega)
    have hs := show hasB n ws j = (ws.getD (j / 64) 0#64).getLsbD (j % 64) by simp [hasB, hi, bit]
    obtain ⟨q, e1⟩ : ∃ q, q = j / 64 := ⟨_, rfl⟩
    obtain ⟨r, e2⟩ : ∃ r, r = j % 64 := ⟨_, rfl⟩
    rw [← e1] at hq cw hs
    rw [← e2] at hr hs
    have hr64 : (r : Int) ≤ 64 := by omega
    have hq32 : (q : Int) < 32 := by omega
    obtain ⟨x, hx⟩ : ∃ x, x = ws.getD q 0#64 := ⟨_, rfl⟩
    rw [← hx] at cw hs
    have cw' : w.cell? ⟨s, 2 + q, none⟩ = some (.int .u64 x.toNat) := cw
    have HA := shr_and x r
    have hs' := Lib.hid hs
    have HI := Lib.hid hi
    clear h hi hd hs cw hx e1 e2 hn
    cases hb : x.getLsbD r with
    | true =>
      rw [hb, if_pos rfl] at HA
      rw [hb] at hs'
      clear hb
      go_enter Tryz.func79, Tryz.ntmps79
      go_wp2_with (go_at_call 78; refine (sin_any H.out j).mono ?_; rw [HI.out]; rintro e w' ⟨rfl, rfl⟩)
      go_ret
      exact ⟨ret_bool hs'.out.symm, rfl⟩
    | false =>
      rw [hb] at HA hs'
      simp only [Bool.false_eq_true, if_false] at HA
      clear hb
      go_enter Tryz.func79, Tryz.ntmps79
      go_wp2_with (go_at_call 78; refine (sin_any H.out j).mono ?_; rw [HI.out]; rintro e w' ⟨rfl, rfl⟩)
      go_ret
      exact ⟨ret_bool hs'.out.symm, rfl⟩
end Go.Proofs.YtjoejjhgneccgaaGreat
