/- Rows that a structure owns: appended to, written, kept apart. -/
import Derived.Test.YtfocdbflmodfhaaDoorQCR01
import Derived.Test.YtfocdbflmodfhaaDoorProg
import Derived.Lib.OwnKind
import Derived.OwnWalk
import Derived.Laws.Cover3
namespace Go.Proofs.YtfocdbflmodfhaaDoor
open Go.RowKit

/-- All blocks but some stand as they stood. -/
structure Frm (fp : List Nat) (w w' : World) : Prop where
  os : w'.os = w.os
  tape : w'.tape = w.tape
  output : w'.output = w.output
  size : w.heap.size ≤ w'.heap.size
  block : ∀ k, k < w.heap.size → k ∉ fp → w'.heap[k]? = w.heap[k]?
theorem Frm.refl (fp : List Nat) (w : World) : Frm fp w w := ⟨rfl, rfl, rfl, Nat.le_refl _, fun _ _ _ => rfl⟩
/-- What is new, or was the structure's. -/
def Fresh (n : Nat) (fp fp' : List Nat) : Prop := ∀ k ∈ fp', k ∈ fp ∨ n ≤ k
theorem Frm.trans {fp fp1 : List Nat} {w w1 w2 : World} (h : Frm fp w w1) (h2 : Frm fp1 w1 w2) (hf : Fresh w.heap.size fp fp1) : Frm fp w w2 :=
  ⟨h2.os.trans h.os, h2.tape.trans h.tape, h2.output.trans h.output, Nat.le_trans h.size h2.size, fun k hk hn => by
    rw [h2.block k (Nat.lt_of_lt_of_le hk h.size) (fun hm => by rcases hf k hm with h' | h'; exact hn h'; omega), h.block k hk hn]⟩
/-- What is turned behind it lay not there ahead of it. -/
theorem Frm.trans_new {fp fp1 : List Nat} {w w1 w2 : World} (h : Frm fp w w1) (h2 : Frm fp1 w1 w2) (hf : ∀ k ∈ fp1, w.heap.size ≤ k) : Frm fp w w2 := h.trans h2 (fun k hk => .inr (hf k hk))
theorem Frm.of_below {w w' : World} (fp : List Nat) (h : Below w.heap.size w w') : Frm fp w w' := ⟨h.os, h.tape, h.output, h.size, fun k hk _ => h.block k hk⟩
theorem Frm.of_grown {w w' : World} {row : Option Nat} {fp : List Nat} (h : w.grownBy w' row) (hr : ∀ k, row = some k → k ∈ fp ∨ w.heap.size ≤ k) : Frm fp w w' :=
  ⟨h.os, h.tape, h.output, h.size, fun k hk hn => h.block k hk (fun e => by rcases hr k e.symm with h' | h'; exact hn h'; omega)⟩
theorem Frm.setCell {fp : List Nat} (w : World) {p : Addr} (hp : p.block ∈ fp) (v : Value) : Frm fp w (w.setCell p v) :=
  ⟨rfl, rfl, rfl, by simp [World.setCell], fun k _ hn => heap_setCell_other _ _ _ _ (fun e => hn (e ▸ hp))⟩
theorem Frm.setRow {fp : List Nat} (w : World) {g : Nat} (hg : g ∈ fp) (cs : Array Value) : Frm fp w (w.setRow g cs) :=
  ⟨rfl, rfl, rfl, by rw [size_setRow]; exact Nat.le_refl _, fun k _ hn => heap_setRow_other _ _ _ _ (fun e => hn (e ▸ hg))⟩
theorem Frm.drewN {fp : List Nat} (w : World) (n : Nat) : Frm fp w (w.drewN n) := ⟨rfl, rfl, rfl, Nat.le_refl _, fun _ _ _ => rfl⟩
theorem Frm.mono {fp fp' : List Nat} {w w' : World} (h : Frm fp w w') (hs : ∀ k ∈ fp, k ∈ fp') : Frm fp' w w' := ⟨h.os, h.tape, h.output, h.size, fun k hk hn => h.block k hk (fun hm => hn (hs k hm))⟩
/-- Seen from below all that the structure has: nothing turned. -/
theorem Frm.below {fp : List Nat} {w w' : World} {B : Nat} (h : Frm fp w w') (hB : B ≤ w.heap.size) (hf : ∀ k ∈ fp, B ≤ k) : Below B w w' :=
  ⟨h.os, h.tape, h.output, h.size, fun k hk => h.block k (Nat.lt_of_lt_of_le hk hB) (fun hm => by have := hf k hm; omega)⟩

/-- The value owns the row xs. -/
abbrev Own (w : World) (e : TypeId) (size n : Nat) (v : Value) (xs : List Value) : Prop := w.ownsRow 0 e size v n xs
theorem own_heap {w w' : World} {e : TypeId} {size n : Nat} {v : Value} {xs : List Value} (h : Own w e size n v xs) (hk : ∀ k, v.ownBlock = some k → w'.heap[k]? = w.heap[k]?) : Own w' e size n v xs :=
  ⟨h.1, h.2.imp id fun ⟨g, cap, cur, hv, hg, hh, r⟩ => ⟨g, cap, cur, hv, hg, (hk g (by rw [hv]; rfl)).trans hh, r⟩⟩
theorem own_blk {w : World} {e : TypeId} {size n : Nat} {v : Value} {xs : List Value} (h : Own w e size n v xs) : ∀ k, v.ownBlock = some k → k < w.heap.size := fun k hk => (h.lt k hk).2
/-- Rows of two kinds lie apart. -/
theorem own_apart {w : World} {e e' : TypeId} {size n size' n' : Nat} {v v' : Value} {xs xs' : List Value} (h : Own w e size n v xs) (h' : Own w e' size' n' v' xs') (hne : e ≠ e') {k : Nat} (hk : v.ownBlock = some k) : v'.ownBlock ≠ some k := by
  intro hk'
  obtain ⟨c, f, h1⟩ := Lib.ownsRow_kind h k hk
  obtain ⟨c', f', h2⟩ := Lib.ownsRow_kind h' k hk'
  rw [h1] at h2
  simp only [Option.some.injEq, Obj.cells.injEq] at h2
  exact hne h2.2.1
/-- .. and apart from a block of another kind. -/
theorem own_not {w : World} {e T : TypeId} {size n : Nat} {v : Value} {xs : List Value} (h : Own w e size n v xs) {k : Nat} {cs : Array Value} {fr : Nat × Nat} (hb : w.heap[k]? = some (.cells cs T fr)) (hne : e ≠ T) : v.ownBlock ≠ some k := by
  intro hk
  obtain ⟨c, f, h1⟩ := Lib.ownsRow_kind h k hk
  rw [h1] at hb
  simp only [Option.some.injEq, Obj.cells.injEq] at hb
  exact hne hb.2.1

section
variable {P : Program} (w : World)
/-- An append lands in the same row, or in a new one. -/
theorem run_append_new (t ty e : TypeId) (i : TypeInfo) (z : Value) (size bytes : Nat) (ht : P.underlying t = some (.slice e)) (hi : P.info? e = some i) (hz : i.zero = some z)
    (hsize : i.size = size) (hby : i.bytes = bytes) (hzs : z.cells.size = size) (hsz : 0 < size) (v : Value) (n : Nat) (xs : List Value) (hown : Own w e size n v xs)
    (a : Addr) (m c : Nat) (news : List Value) (hl : news.length = m * size) (hnews : ∀ j u, news[j]? = some u → w.cell? (a.add j) = some u) (h1 : ∀ u ∈ news, u.oneCell' = true)
    (h63 : n + m ≤ maxLen) (hbytes : (n + m) * bytes ≤ 140737488355328) :
    ∃ v' w', (Builtin.append_ #[t, t] ty #[v, .slice (some a) m c]).run P w = .ok v' w' ∧ Own w' e size (n + m) v' (xs ++ news) ∧ w.grownBy w' v.ownBlock ∧ (v'.ownBlock = v.ownBlock ∨ v'.ownBlock = some w.heap.size) ∧ (0 < m → v' ≠ .slice none 0 0) := by
  obtain ⟨v', w', hr, h2, h3, h4⟩ := run_append_own (P := P) w 0 t ty e i z size bytes ht hi hz hsize hby hzs hsz v n xs hown a m c news hl hnews h1 h63 hbytes (Nat.zero_le _)
  refine ⟨v', w', hr, h2, h3, ?_, fun hm he => by have := (h4.1 he).2; omega⟩
  have hsmall : n + m ≤ 9223372036854775807 := by simp only [maxLen] at h63; omega
  subst hsize
  subst hby
  rcases hown.2 with ⟨rfl, rfl⟩ | ⟨g, cap, cur, rfl, hbg, hg, hnc, hcm, hcs, htake⟩
  · by_cases hm : m = 0
    · left; rw [h4.2 ⟨rfl, hm⟩]
    · right
      have hr2 := run_append_nil (P := P) w t ty e i z ht hi hz a m c news hl hnews (by omega) (by omega) (by simp only [Nat.zero_add] at hbytes; omega)
      rw [hr2] at hr
      injection hr with h5 _
      rw [← h5]; rfl
  · by_cases hroom : n + m ≤ cap
    · left
      have hfit : n * i.size + news.length ≤ cur.size := by rw [hl, hcs, ← Nat.add_mul]; exact Nat.mul_le_mul_right _ hroom
      have hr2 := run_append_room (P := P) w t ty e i ht hi g n cap cur hg a m c news hl hnews h1 hroom hfit
      rw [hr2] at hr
      injection hr with h5 _
      rw [← h5]; rfl
    · right
      have hr2 := run_append_grow (P := P) w t ty e i z ht hi hz ⟨g, 0, none⟩ n cap xs hown.1 (hown.cells (g := g) rfl) a m c news hl hnews (by omega) (by omega) (growslice_fits (by omega) hbytes)
      rw [hr2] at hr
      injection hr with h5 _
      rw [← h5]; rfl
theorem wp_append_new {o : Oper} {a : Act} {K : Act → World → Prop} {Q : Exit → Act → World → Prop} (s x : Operand) (t : TypeId) (ho : o.op = .call { callee := .builtin .append, args := #[s, x], argTypes := #[t, t] })
    (e : TypeId) (i : TypeInfo) (z : Value) (size bytes : Nat) (ht : P.underlying t = some (.slice e)) (hi : P.info? e = some i) (hz : i.zero = some z) (hsize : i.size = size) (hby : i.bytes = bytes) (hzs : z.cells.size = size) (hsz : 0 < size)
    (v : Value) (n : Nat) (xs : List Value) (hs : a.eval s = v) (hown : Own w e size n v xs)
    (ad : Addr) (m c : Nat) (news : List Value) (hx : a.eval x = .slice (some ad) m c) (hl : news.length = m * size) (hnews : ∀ j u, news[j]? = some u → w.cell? (ad.add j) = some u) (h1 : ∀ u ∈ news, u.oneCell' = true)
    (h63 : n + m ≤ maxLen) (hbytes : (n + m) * bytes ≤ 140737488355328)
    (h : ∀ v' w', Own w' e size (n + m) v' (xs ++ news) → w.grownBy w' v.ownBlock → (v'.ownBlock = v.ownBlock ∨ v'.ownBlock = some w.heap.size) → (0 < m → v' ≠ .slice none 0 0) → K (a.put o.dst v') w') : o.wp P a w K Q := by
  obtain ⟨v', w', hr, h2, h3, h4, h5⟩ := run_append_new (P := P) w t o.type e i z size bytes ht hi hz hsize hby hzs hsz v n xs hown ad m c news hl hnews h1 h63 hbytes
  unfold Oper.wp execOp
  simp only [ho, resolve, invoke, builtin, Sem.run_bind, Sem.run_pure, Result.andThen_ok, List.map_toArray, List.map_cons, List.map_nil, hs, hx, hr]
  exact h v' w' h2 h3 h4 h5
theorem wpList_append_new {ops : Array Oper} {rest : List Oper} {o : Oper} {a : Act} {Q : Exit → Act → World → Prop} (hgd : o.guard = none) (s x : Operand) (t : TypeId) (ho : o.op = .call { callee := .builtin .append, args := #[s, x], argTypes := #[t, t] })
    (e : TypeId) (i : TypeInfo) (z : Value) (size bytes : Nat) (ht : P.underlying t = some (.slice e)) (hi : P.info? e = some i) (hz : i.zero = some z) (hsize : i.size = size) (hby : i.bytes = bytes) (hzs : z.cells.size = size) (hsz : 0 < size)
    (v : Value) (n : Nat) (xs : List Value) (hs : a.eval s = v) (hown : Own w e size n v xs)
    (ad : Addr) (m c : Nat) (news : List Value) (hx : a.eval x = .slice (some ad) m c) (hl : news.length = m * size) (hnews : ∀ j u, news[j]? = some u → w.cell? (ad.add j) = some u) (h1 : ∀ u ∈ news, u.oneCell' = true)
    (h63 : n + m ≤ maxLen) (hbytes : (n + m) * bytes ≤ 140737488355328)
    (h : ∀ v' w', Own w' e size (n + m) v' (xs ++ news) → w.grownBy w' v.ownBlock → (v'.ownBlock = v.ownBlock ∨ v'.ownBlock = some w.heap.size) → (0 < m → v' ≠ .slice none 0 0) → wpList P ops Q rest (a.put o.dst v') w') : wpList P ops Q (o :: rest) a w :=
  wpList_plain hgd fun _ hK => wp_append_new w s x t ho e i z size bytes ht hi hz hsize hby hzs hsz v n xs hs hown ad m c news hx hl hnews h1 h63 hbytes fun v' w' h2 h3 h4 h5 => hK _ _ (h v' w' h2 h3 h4 h5)
end

/-- Many rows of one kind, each apart. -/
structure Rows (w : World) (e : TypeId) (size : Nat) (vs : List Value) (xss : List (List Value)) : Prop where
  len : vs.length = xss.length
  own : ∀ i, i < xss.length → ∃ n, Own w e size n (vs.getD i undef) (xss.getD i [])
  sep : (vs.filterMap Value.ownBlock).Nodup
theorem Rows.keep {w w' : World} {e : TypeId} {size : Nat} {vs : List Value} {xss : List (List Value)} (h : Rows w e size vs xss) (hk : ∀ k ∈ vs.filterMap Value.ownBlock, w'.heap[k]? = w.heap[k]?) : Rows w' e size vs xss :=
  ⟨h.len, fun i hi => by
    obtain ⟨n, ho⟩ := h.own i hi
    refine ⟨n, own_heap ho fun k hb => hk k ?_⟩
    have hil : i < vs.length := by rw [h.len]; exact hi
    rw [List.getD_eq_getElem?_getD, List.getElem?_eq_getElem hil] at hb
    exact List.mem_filterMap.2 ⟨vs[i], List.getElem_mem hil, hb⟩, h.sep⟩
theorem Rows.lt {w : World} {e : TypeId} {size : Nat} {vs : List Value} {xss : List (List Value)} (h : Rows w e size vs xss) : ∀ k ∈ vs.filterMap Value.ownBlock, k < w.heap.size := by
  intro k hk
  obtain ⟨v, hv, hb⟩ := List.mem_filterMap.1 hk
  obtain ⟨i, hi, rfl⟩ := List.getElem_of_mem hv
  obtain ⟨n, ho⟩ := h.own i (by rw [← h.len]; exact hi)
  refine own_blk ho k ?_
  rw [List.getD_eq_getElem?_getD, List.getElem?_eq_getElem hi]; exact hb
theorem rows_kind {w : World} {e : TypeId} {size : Nat} {vs : List Value} {xss : List (List Value)} (h : Rows w e size vs xss) {k : Nat} (hk : k ∈ vs.filterMap Value.ownBlock) : ∃ c f, w.heap[k]? = some (.cells c e f) := by
  obtain ⟨v, hv, hb⟩ := List.mem_filterMap.1 hk
  obtain ⟨i, hi, rfl⟩ := List.getElem_of_mem hv
  obtain ⟨n, ho⟩ := h.own i (by rw [← h.len]; exact hi)
  refine Lib.ownsRow_kind ho k ?_
  rw [List.getD_eq_getElem?_getD, List.getElem?_eq_getElem hi]; exact hb
/-- Two places of one list whose rows lie in one block are one place. -/
theorem nodup_place {vs : List Value} (h : (vs.filterMap Value.ownBlock).Nodup) : ∀ {i j : Nat} {k : Nat}, (vs.getD i undef).ownBlock = some k → (vs.getD j undef).ownBlock = some k → i = j := by
  have key : ∀ (vs : List Value), (vs.filterMap Value.ownBlock).Nodup → ∀ {i j k : Nat}, (hi : i < vs.length) → (hj : j < vs.length) → (vs[i]).ownBlock = some k → (vs[j]).ownBlock = some k → i = j := by
    intro vs
    induction vs with
    | nil => intro _ i j k hi; exact absurd hi (by simp)
    | cons v vs ih =>
      intro hn i j k hi hj h1 h2
      have hn2 : (vs.filterMap Value.ownBlock).Nodup := by
        rw [List.filterMap_cons] at hn
        split at hn
        · exact hn
        · exact (List.nodup_cons.1 hn).2
      have hmem : ∀ (m : Nat) (hm : m < vs.length), vs[m].ownBlock = some k → v.ownBlock = some k → False := by
        intro m hm h3 h4
        rw [List.filterMap_cons, h4] at hn
        exact (List.nodup_cons.1 hn).1 (List.mem_filterMap.2 ⟨vs[m], List.getElem_mem hm, h3⟩)
      cases i with
      | zero =>
        cases j with
        | zero => rfl
        | succ j => exact absurd (hmem j (by simpa using hj) (by simpa using h2) (by simpa using h1)) id
      | succ i =>
        cases j with
        | zero => exact absurd (hmem i (by simpa using hi) (by simpa using h1) (by simpa using h2)) id
        | succ j => exact congrArg (· + 1) (ih hn2 (i := i) (j := j) (k := k) (by simpa using hi) (by simpa using hj) (by simpa using h1) (by simpa using h2))
  intro i j k h1 h2
  have hi : i < vs.length := by
    rcases Nat.lt_or_ge i vs.length with h' | h'
    · exact h'
    · rw [List.getD_eq_getElem?_getD, List.getElem?_eq_none h'] at h1; cases h1
  have hj : j < vs.length := by
    rcases Nat.lt_or_ge j vs.length with h' | h'
    · exact h'
    · rw [List.getD_eq_getElem?_getD, List.getElem?_eq_none h'] at h2; cases h2
  rw [List.getD_eq_getElem?_getD, List.getElem?_eq_getElem hi] at h1
  rw [List.getD_eq_getElem?_getD, List.getElem?_eq_getElem hj] at h2
  exact key vs h hi hj h1 h2
theorem getD_set_same {α : Type} {l : List α} {i : Nat} (h : i < l.length) (x d : α) : (l.set i x).getD i d = x := by
  rw [List.getD_eq_getElem?_getD, List.getElem?_set_self h]; rfl
theorem getD_set_other {α : Type} {l : List α} {i j : Nat} (h : i ≠ j) (x d : α) : (l.set i x).getD j d = l.getD j d := by
  rw [List.getD_eq_getElem?_getD, List.getElem?_set_ne h, List.getD_eq_getElem?_getD]
theorem sub_set {vs : List Value} {t : Nat} {v' : Value} {k : Nat} (hk : k ∈ (vs.set t v').filterMap Value.ownBlock) : k ∈ vs.filterMap Value.ownBlock ∨ v'.ownBlock = some k := by
  obtain ⟨v, hv, hb⟩ := List.mem_filterMap.1 hk
  rcases List.mem_or_eq_of_mem_set hv with h | h
  · exact .inl (List.mem_filterMap.2 ⟨v, h, hb⟩)
  · exact .inr (h ▸ hb)
theorem nodup_set {vs : List Value} {t : Nat} {v' : Value} (h : (vs.filterMap Value.ownBlock).Nodup) (hn : ∀ k, v'.ownBlock = some k → ∀ j, j ≠ t → (vs.getD j undef).ownBlock ≠ some k) : ((vs.set t v').filterMap Value.ownBlock).Nodup := by
  induction vs generalizing t with
  | nil => simp
  | cons v vs ih =>
    have h2 : (vs.filterMap Value.ownBlock).Nodup := by
      rw [List.filterMap_cons] at h
      split at h
      · exact h
      · exact (List.nodup_cons.1 h).2
    cases t with
    | zero =>
      rw [List.set_cons_zero, List.filterMap_cons]
      split
      · exact h2
      · rename_i k hk
        refine List.nodup_cons.2 ⟨fun hm => ?_, h2⟩
        obtain ⟨u, hu, hb⟩ := List.mem_filterMap.1 hm
        obtain ⟨i, hi, rfl⟩ := List.getElem_of_mem hu
        refine hn k hk (i + 1) (by omega) ?_
        rw [List.getD_eq_getElem?_getD, List.getElem?_cons_succ, List.getElem?_eq_getElem hi]; exact hb
    | succ t =>
      have ih2 := ih (t := t) h2 (fun k hk j hj => by have := hn k hk (j + 1) (by omega); rwa [List.getD_eq_getElem?_getD, List.getElem?_cons_succ, ← List.getD_eq_getElem?_getD] at this)
      rw [List.set_cons_succ, List.filterMap_cons]
      split
      · exact ih2
      · rename_i k hk
        refine List.nodup_cons.2 ⟨fun hm => ?_, ih2⟩
        rcases sub_set hm with h3 | h3
        · rw [List.filterMap_cons, hk] at h
          exact (List.nodup_cons.1 h).1 h3
        · exact hn k h3 0 (by omega) hk
/-- One row turned, into itself or into a new one. -/
theorem Rows.set {w w1 : World} {e : TypeId} {size : Nat} {vs : List Value} {xss : List (List Value)} (h : Rows w e size vs xss) {t : Nat} (ht : t < xss.length) {v' : Value} {xs' : List Value} {n : Nat}
    (hg : w.grownBy w1 (vs.getD t undef).ownBlock) (ho : Own w1 e size n v' xs') (hb : ∀ k, v'.ownBlock = some k → (vs.getD t undef).ownBlock = some k ∨ w.heap.size ≤ k) : Rows w1 e size (vs.set t v') (xss.set t xs') := by
  have htl : t < vs.length := by rw [h.len]; exact ht
  refine ⟨by rw [List.length_set, List.length_set, h.len], fun i hi => ?_, ?_⟩
  · rw [List.length_set] at hi
    by_cases e1 : t = i
    · subst e1
      rw [getD_set_same htl, getD_set_same ht]; exact ⟨n, ho⟩
    · rw [getD_set_other e1, getD_set_other e1]
      obtain ⟨m, hm⟩ := h.own i hi
      refine ⟨m, own_heap hm fun k hk => hg.block k (own_blk hm k hk) fun e2 => e1 (nodup_place h.sep e2.symm hk)⟩
  · refine nodup_set h.sep fun k hk j hj hc => ?_
    rcases hb k hk with h1 | h1
    · exact hj (nodup_place h.sep hc h1)
    · have hjl : j < vs.length := by
        rcases Nat.lt_or_ge j vs.length with h' | h'
        · exact h'
        · rw [List.getD_eq_getElem?_getD, List.getElem?_eq_none h'] at hc; cases hc
      obtain ⟨m, hm⟩ := h.own j (by rw [← h.len]; exact hjl)
      have := own_blk hm k hc
      omega
/-- One row more, a new one. -/
theorem Rows.add {w : World} {e : TypeId} {size : Nat} {vs : List Value} {xss : List (List Value)} (h : Rows w e size vs xss) {v' : Value} {xs' : List Value} {n : Nat} (ho : Own w e size n v' xs') (hb : ∀ k, v'.ownBlock = some k → k ∉ vs.filterMap Value.ownBlock) : Rows w e size (vs ++ [v']) (xss ++ [xs']) := by
  refine ⟨by simp [h.len], fun i hi => ?_, ?_⟩
  · by_cases e1 : i < xss.length
    · obtain ⟨m, hm⟩ := h.own i e1
      refine ⟨m, ?_⟩
      rw [List.getD_eq_getElem?_getD, List.getElem?_append_left (by rw [h.len]; exact e1), ← List.getD_eq_getElem?_getD, List.getD_eq_getElem?_getD (l := xss ++ [xs']), List.getElem?_append_left e1, ← List.getD_eq_getElem?_getD]
      exact hm
    · have e2 : i = xss.length := by simp at hi; omega
      subst e2
      refine ⟨n, ?_⟩
      rw [List.getD_eq_getElem?_getD, List.getElem?_append_right (by rw [h.len]; exact Nat.le_refl _), List.getD_eq_getElem?_getD, List.getElem?_append_right (Nat.le_refl _), h.len]
      simpa using ho
  · rw [List.filterMap_append]
    refine List.nodup_append.2 ⟨h.sep, ?_, fun a ha b hb2 e1 => ?_⟩
    · rw [List.filterMap_cons]
      split <;> simp
    · subst e1
      rw [List.filterMap_cons] at hb2
      split at hb2
      · cases hb2
      · rename_i k hk
        have : a = k := by simpa using hb2
        subst this
        exact hb a hk ha
end Go.Proofs.YtfocdbflmodfhaaDoor

/- Words in memory, as lists. -/
namespace Go.Proofs.YtfocdbflmodfhaaDoor
open Go.RowKit

/-- Numbers, as cells. -/
def ints (xs : List Int) : Array Value := (xs.map (Value.int .i64)).toArray
theorem ints_size (xs : List Int) : (ints xs).size = xs.length := by simp [ints]
theorem ints_get {xs : List Int} {i : Nat} (h : i < xs.length) : (ints xs)[i]? = some (.int .i64 (xs.getD i 0)) := by
  simp [ints, List.getD_eq_getElem?_getD, List.getElem?_eq_getElem h]
theorem ints_set (xs : List Int) (i : Nat) (v : Int) : (ints xs).setIfInBounds i (.int .i64 v) = ints (xs.set i v) := by
  simp [ints, List.map_set]
/-- Some words become one. -/
def fillL (xs : List Int) (a : Nat) : Nat → Int → List Int
  | 0, _ => xs
  | n + 1, v => (fillL xs a n v).set (a + n) v
theorem fillL_len (xs : List Int) (a n : Nat) (v : Int) : (fillL xs a n v).length = xs.length := by
  induction n with
  | zero => rfl
  | succ n ih => simp [fillL, ih]
theorem fillL_get (xs : List Int) (a n : Nat) (v : Int) (i : Nat) (hi : i < xs.length) : (fillL xs a n v).getD i 0 = if a ≤ i ∧ i < a + n then v else xs.getD i 0 := by
  induction n with
  | zero => simp [fillL]; intro h1 h2; omega
  | succ n ih =>
    simp only [fillL]
    by_cases e : a + n = i
    · rw [e, getD_set_same (by rw [fillL_len]; exact hi), if_pos (by omega)]
    · rw [getD_set_other e, ih]
      by_cases h : a ≤ i ∧ i < a + n
      · rw [if_pos h, if_pos (by omega)]
      · rw [if_neg h, if_neg (by omega)]
/-- A memory: its block, and its words. -/
structure Mx (w : World) (m r : Nat) (xs : List Int) : Prop where
  hd : ∃ c, xs.length ≤ c ∧ c ≤ maxLen ∧ w.heap[m]? = some (.cells #[.bool true, .slice (some ⟨r, 0, none⟩) xs.length c] 88 (0, 0))
  row : ∃ zs, w.heap[r]? = some (.cells (xs.map (Value.int .i64) ++ zs).toArray 2 (0, 0))
  le : xs.length ≤ 2048
theorem Mx.keep {w w' : World} {m r : Nat} {xs : List Int} (h : Mx w m r xs) (h1 : w'.heap[m]? = w.heap[m]?) (h2 : w'.heap[r]? = w.heap[r]?) : Mx w' m r xs := by
  obtain ⟨⟨c, hc, hc2, hd⟩, ⟨zs, hr⟩, hl⟩ := h
  exact ⟨⟨c, hc, hc2, h1.trans hd⟩, ⟨zs, h2.trans hr⟩, hl⟩
theorem Mx.lt {w : World} {m r : Nat} {xs : List Int} (h : Mx w m r xs) : m < w.heap.size ∧ r < w.heap.size := by
  obtain ⟨⟨c, hc, hc2, hd⟩, ⟨zs, hr⟩, hl⟩ := h
  exact ⟨heap_lt hd, heap_lt hr⟩
theorem Mx.below {w w' : World} {m r : Nat} {xs : List Int} (h : Mx w m r xs) (hb : Below w.heap.size w w') : Mx w' m r xs := h.keep (hb.block m h.lt.1) (hb.block r h.lt.2)
theorem Mx.frm {w w' : World} {m r : Nat} {xs : List Int} {fp : List Nat} (h : Mx w m r xs) (hf : Frm fp w w') (h1 : m ∉ fp) (h2 : r ∉ fp) : Mx w' m r xs := h.keep (hf.block m h.lt.1 h1) (hf.block r h.lt.2 h2)
theorem Mx.ne {w : World} {m r : Nat} {xs : List Int} (h : Mx w m r xs) : m ≠ r := by
  rintro rfl
  obtain ⟨⟨c, hc, hc2, hd⟩, ⟨zs, hr⟩, hl⟩ := h
  have := hd.symm.trans hr
  simp at this
theorem Mx.put {w : World} {m r : Nat} {xs : List Int} (h : Mx w m r xs) {i : Nat} (hi : i < xs.length) (v : Int) : Mx (w.setCell ⟨r, i, none⟩ (.int .i64 v)) m r (xs.set i v) := by
  have hne := h.ne
  obtain ⟨⟨c, hc, hc2, hd⟩, ⟨zs, hr⟩, hl⟩ := h
  refine ⟨⟨c, by simpa using hc, hc2, ?_⟩, ⟨zs, ?_⟩, by simpa using hl⟩
  · rw [heap_setCell_other _ _ _ _ hne, hd, List.length_set]
  · rw [heap_setCell_same w r i _ _ _ hr]
    simp only [List.setIfInBounds_toArray, List.map_set]
    rw [List.set_append_left _ _ (by simpa using hi)]
theorem Mx.cells {w : World} {m r : Nat} {xs : List Int} (h : Mx w m r xs) : ∃ c, xs.length ≤ c ∧ c ≤ maxLen ∧ w.cell? ⟨m, 0, none⟩ = some (.bool true) ∧ w.cell? ⟨m, 1, none⟩ = some (.slice (some ⟨r, 0, none⟩) xs.length c) := by
  obtain ⟨⟨c, hc, hc2, hd⟩, ⟨zs, hr⟩, hl⟩ := h
  exact ⟨c, hc, hc2, cell_of_row _ _ _ _ _ _ hd, cell_of_row _ _ _ _ _ _ hd⟩
theorem Mx.word {w : World} {m r : Nat} {xs : List Int} (h : Mx w m r xs) {i : Nat} (hi : i < xs.length) : w.cell? ⟨r, i, none⟩ = some (.int .i64 (xs.getD i 0)) ∧ w.frozen? ⟨r, i, none⟩ = false := by
  obtain ⟨⟨c, hc, hc2, hd⟩, ⟨zs, hr⟩, hl⟩ := h
  refine ⟨?_, frozen_of_row _ _ _ _ _ hr⟩
  rw [cell_of_row _ _ _ _ _ _ hr, List.getElem?_toArray, List.getElem?_append_left (by simpa using hi), List.getElem?_map, List.getD_eq_getElem?_getD, List.getElem?_eq_getElem hi]
  rfl
theorem Mx.of_block {w : World} {m r : Nat} {xs : List Int} (h1 : w.heap[m]? = some (.cells #[.bool true, .slice (some ⟨r, 0, none⟩) xs.length xs.length] 88 (0, 0))) (h2 : w.heap[r]? = some (.cells (ints xs) 2 (0, 0))) (hl : xs.length ≤ 2048) : Mx w m r xs :=
  ⟨⟨_, Nat.le_refl _, by unfold maxLen; omega, h1⟩, ⟨[], by rw [List.append_nil]; exact h2⟩, hl⟩
/-- Are so many words there, from an address on? -/
def fitB (n : Nat) (a k : Int) : Bool := decide (0 ≤ a) && decide (0 ≤ k) && decide (a + k ≤ n)
end Go.Proofs.YtfocdbflmodfhaaDoor

/- Rows of whole numbers: appended to, read, cloned. -/
namespace Go.Proofs.YtfocdbflmodfhaaDoor
open Go.RowKit

theorem info_num : (Tryd.prog.info? 3).map (fun i => (i.zero, i.size, i.bytes)) = some (some (.int .i64 0), 1, 8) := by kernel_rfl
/-- A row of numbers of the call's own. -/
def IRow (base : Nat) (w : World) (v : Value) (xs : List Int) : Prop := w.ownsRow base 3 1 v xs.length (xs.map (Value.int .i64))
theorem IRow.nil (base : Nat) (w : World) : IRow base w (.slice none 0 0) [] := ⟨rfl, .inl ⟨rfl, rfl⟩⟩
theorem IRow.below {base : Nat} {w w' : World} {v : Value} {xs : List Int} (h : IRow base w v xs) (hb : Below w.heap.size w w') : IRow base w' v xs := pw_own_keep h hb
theorem IRow.frm {base : Nat} {w w' : World} {v : Value} {xs : List Int} {fp : List Nat} (h : IRow base w v xs) (hf : Frm fp w w') (hd : ∀ k ∈ fp, k < base) : IRow base w' v xs :=
  ⟨h.1, h.2.imp id fun ⟨g, cap, cur, hv, hg, hh, r⟩ => ⟨g, cap, cur, hv, hg, (hf.block g (heap_lt hh) (fun hm => by have := hd g hm; omega)).trans hh, r⟩⟩
theorem IRow.mono {base base' : Nat} {w : World} {v : Value} {xs : List Int} (h : IRow base w v xs) (hb : base' ≤ base) : IRow base' w v xs := own_mono h hb
theorem IRow.slice {base : Nat} {w : World} {v : Value} {xs : List Int} (h : IRow base w v xs) : ∃ p cap, v = .slice p xs.length cap ∧ xs.length ≤ cap ∧ xs.length ≤ maxLen ∧ (∀ j, j < xs.length → ∃ b, p = some ⟨b, 0, none⟩ ∧ base ≤ b ∧ w.cell? ⟨b, j, none⟩ = some (.int .i64 (xs.getD j 0))) := by
  have h' := h
  rcases h.2 with ⟨rfl, h0⟩ | ⟨g, cap, cur, rfl, hg, hh, hc, hm, _⟩
  · refine ⟨none, 0, ?_, by omega, by rw [h0]; exact Nat.zero_le _, fun j hj => by omega⟩
    rw [h0]
  · refine ⟨_, cap, rfl, hc, by omega, fun j hj => ⟨g, rfl, hg, ?_⟩⟩
    rw [h'.cellAt j (by omega), List.getElem?_map, List.getD_eq_getElem?_getD, List.getElem?_eq_getElem hj]; rfl
/-- One more. -/
theorem wpList_append_num {w : World} {ops : Array Oper} {rest : List Oper} {o : Oper} {a : Act} {Q : Exit → Act → World → Prop} (hgd : o.guard = none) (s x : Operand)
    (ho : o.op = .call { callee := .builtin .append, args := #[s, x], argTypes := #[32, 32] }) (base : Nat) (w0 : World) (v : Value) (xs : List Int) (y : Int)
    (hs : a.eval s = v) (hown : IRow base w v xs) (hx : a.eval x = .slice (some ⟨w.heap.size, 0, none⟩) 1 1) (hn : xs.length + 1 ≤ 1000000) (hB : Below base w0 w) (hb : base ≤ w.heap.size)
    (h : ∀ v' w', IRow base w' v' (xs ++ [y]) → Below base w0 w' → (w.alloc (.cells #[.int .i64 y] 3 (0, 0))).grownBy w' v.ownBlock → wpList Tryd.prog ops Q rest (a.put o.dst v') w') : wpList Tryd.prog ops Q (o :: rest) a (w.alloc (.cells #[.int .i64 y] 3 (0, 0))) := by
  obtain ⟨i0, hi, hz0, hz1, hz2⟩ := info_parts info_num
  refine wpList_append_own _ hgd s x 32 ho base 3 i0 (.int .i64 0) 1 8 Tryd.underlying32 hi hz0 hz1 hz2 rfl (by decide) v xs.length _ hs (World.ownsRow.alloc hown _) ⟨w.heap.size, 0, none⟩ 1 1 [.int .i64 y] hx rfl
    (cell_new1 _ _ _ _) (by simp [Value.oneCell']) (by unfold maxLen; omega) (by omega) (by simp; omega) ?_
  intro v' w1 hown' hgrow _
  have h1 : Below base w0 (w.alloc (.cells #[.int .i64 y] 3 (0, 0))) := hB.alloc hb _
  refine h v' w1 ?_ (h1.grown hgrow (by simp; omega) (own_base hown)) hgrow
  unfold IRow
  rw [List.length_append, List.map_append]
  exact hown'
/-- A row that is whole, not nil, becomes one of the call's own. -/
theorem ints_news {w : World} {b : Nat} {xs : List Int} {T : TypeId} (h : w.heap[b]? = some (.cells (ints xs) T (0, 0))) : ∀ j u, (xs.map (Value.int .i64))[j]? = some u → w.cell? ((⟨b, 0, none⟩ : Addr).add j) = some u := by
  intro j u hj
  have hadd : (⟨b, 0, none⟩ : Addr).add j = ⟨b, j, none⟩ := by unfold Addr.add; split <;> simp_all
  rw [hadd, cell_of_row _ _ _ _ _ _ h]
  simpa [ints] using hj
theorem ints_one (xs : List Int) : ∀ u ∈ xs.map (Value.int .i64), u.oneCell' = true := by
  intro u hu
  obtain ⟨x, _, rfl⟩ := List.mem_map.1 hu
  rfl
/-- Two lists of a call's own. -/
theorem eql_slice_nil0 {P : Program} (t e : TypeId) (a : Option Addr) (l c : Nat) (h : P.underlying t = some (.slice e)) (w : World) : (binOp .eql t (.slice a l c) (.slice none 0 0)).run P w = .ok (.bool a.isNone) w := by
  simp only [binOp]
  simp [run_equal_slice_nil w t e a l c h]
end Go.Proofs.YtfocdbflmodfhaaDoor
