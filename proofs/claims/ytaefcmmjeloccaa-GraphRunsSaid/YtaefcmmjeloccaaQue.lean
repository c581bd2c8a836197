/- Frames by kind of block; a queue: a slice that is taken from in front and appended to. -/
import Derived.Test.YtaefcmmjeloccaaOwn
namespace Go.Proofs.Ytaefcmmjeloccaa
open Go.RowKit

/-- Below B nothing turned, and above it only blocks of some kinds, or some blocks. -/
structure KF (B : Nat) (ks : List TypeId) (bs : List Nat) (w w' : World) : Prop where
  below : Below B w w'
  kept : ∀ k cs T fr, w.heap[k]? = some (.cells cs T fr) → T ∉ ks → k ∉ bs → w'.heap[k]? = some (.cells cs T fr)
namespace KF
variable {B : Nat} {ks : List TypeId} {bs : List Nat} {w w1 w2 : World}
theorem refl (B : Nat) (ks : List TypeId) (bs : List Nat) (w : World) : KF B ks bs w w := ⟨Below.refl _ _, fun _ _ _ _ h _ _ => h⟩
theorem trans (h : KF B ks bs w w1) (h2 : KF B ks bs w1 w2) : KF B ks bs w w2 :=
  ⟨h.below.trans h2.below, fun k cs T fr hk h3 h4 => h2.kept k cs T fr (h.kept k cs T fr hk h3 h4) h3 h4⟩
theorem mono {ks' : List TypeId} {bs' : List Nat} (h : KF B ks bs w w1) (h1 : ∀ T ∈ ks, T ∈ ks') (h2 : ∀ k ∈ bs, k ∈ bs') : KF B ks' bs' w w1 :=
  ⟨h.below, fun k cs T fr hk h3 h4 => h.kept k cs T fr hk (fun hm => h3 (h1 T hm)) (fun hm => h4 (h2 k hm))⟩
theorem of_below (h : Below w.heap.size w w1) (hB : B ≤ w.heap.size) : KF B ks bs w w1 :=
  ⟨h.mono hB, fun _ _ _ _ hk _ _ => keep h hk⟩
theorem alloc (h : KF B ks bs w w1) (hB : B ≤ w1.heap.size) (o : Obj) : KF B ks bs w (w1.alloc o) := h.trans (of_below (below_alloc0 w1 o) hB)
theorem drew (h : KF B ks bs w w1) : KF B ks bs w w1.drew := ⟨h.below.drew, fun k cs T fr hk h3 h4 => h.kept k cs T fr hk h3 h4⟩
theorem drewN (h : KF B ks bs w w1) (n : Nat) : KF B ks bs w (w1.drewN n) := ⟨below_drewN h.below n, fun k cs T fr hk h3 h4 => h.kept k cs T fr hk h3 h4⟩
theorem setCell (h : KF B ks bs w w1) {p : Addr} (hB : B ≤ p.block) (hp : p.block ∈ bs) (v : Value) : KF B ks bs w (w1.setCell p v) :=
  ⟨h.below.setCell hB v, fun k cs T fr hk h3 h4 => (heap_setCell_other _ _ _ _ (fun e => h4 (by rw [e]; exact hp))).trans (h.kept k cs T fr hk h3 h4)⟩
theorem grown {row : Option Nat} (h : w.grownBy w1 row) (hB : B ≤ w.heap.size) (hr : ∀ g, row = some g → B ≤ g ∧ ∃ cs T fr, w.heap[g]? = some (.cells cs T fr) ∧ T ∈ ks) : KF B ks bs w w1 := by
  refine ⟨⟨h.os, h.tape, h.output, h.size, fun k hk => h.block k (by omega) (fun e => ?_)⟩, fun k cs T fr hk h3 _ => ?_⟩
  · have := (hr k e.symm).1
    omega
  · refine (h.block k (heap_lt hk) fun e => ?_).trans hk
    obtain ⟨_, cs', T', fr', h5, h6⟩ := hr k e.symm
    rw [hk] at h5
    simp only [Option.some.injEq, Obj.cells.injEq] at h5
    exact h3 (h5.2.1 ▸ h6)
theorem size (h : KF B ks bs w w1) : w.heap.size ≤ w1.heap.size := h.below.size
/-- A row of another kind is owned on. -/
theorem own (h : KF B ks bs w w1) {base e size n : Nat} {v : Value} {xs : List Value} (ho : w.ownsRow base e size v n xs) (he : e ∉ ks) (hb : ∀ k, v.ownBlock = some k → k ∉ bs) : w1.ownsRow base e size v n xs :=
  ⟨ho.1, ho.2.imp id fun ⟨g, cap, cur, hv, hg, hh, r⟩ => ⟨g, cap, cur, hv, hg, h.kept _ _ _ _ hh he (hb g (by rw [hv]; rfl)), r⟩⟩
end KF
theorem own_kf {base e size n : Nat} {w : World} {v : Value} {xs : List Value} (ho : w.ownsRow base e size v n xs) : ∀ g, v.ownBlock = some g → base ≤ g ∧ ∃ cs T fr, w.heap[g]? = some (.cells cs T fr) ∧ T ∈ [e] := by
  intro g hg
  rcases ho.2 with ⟨rfl, _⟩ | ⟨g', cap, cur, rfl, hb, hh, _⟩
  · simp [Value.ownBlock] at hg
  · have e : g' = g := by simpa [Value.ownBlock] using hg
    subst e
    exact ⟨hb, _, _, _, hh, by simp⟩

/-- A queue of one-cell things: from a place of its row on. -/
def Que (w : World) (base : Nat) (e : TypeId) (v : Value) (xs : List Value) : Prop :=
  ∃ g o cap cur, v = .slice (some ⟨g, o, none⟩) xs.length cap ∧ base ≤ g ∧ w.heap[g]? = some (.cells cur e (0, 0)) ∧ xs.length ≤ cap ∧ cap ≤ maxLen ∧ o + cap ≤ cur.size ∧ (cur.toList.drop o).take xs.length = xs
theorem Que.keep {w w1 : World} {base e : Nat} {v : Value} {xs : List Value} (h : Que w base e v xs) (hk : ∀ g cur, v.ownBlock = some g → w.heap[g]? = some (.cells cur e (0, 0)) → w1.heap[g]? = some (.cells cur e (0, 0))) : Que w1 base e v xs := by
  obtain ⟨g, o, cap, cur, hv, hg, hh, r⟩ := h
  exact ⟨g, o, cap, cur, hv, hg, hk g cur (by rw [hv]; rfl) hh, r⟩
theorem Que.below {w w1 : World} {base e : Nat} {v : Value} {xs : List Value} (h : Que w base e v xs) (hb : Below w.heap.size w w1) : Que w1 base e v xs := h.keep fun _ _ _ hh => Go.Proofs.Ytaefcmmjeloccaa.keep hb hh
theorem Que.kf {w w1 : World} {base e B : Nat} {ks : List TypeId} {bs : List Nat} {v : Value} {xs : List Value} (h : Que w base e v xs) (hf : KF B ks bs w w1) (he : e ∉ ks) (hb : ∀ k, v.ownBlock = some k → k ∉ bs) : Que w1 base e v xs :=
  h.keep fun g _ hg hh => hf.kept _ _ _ _ hh he (hb g hg)
theorem Que.row {w : World} {base e : Nat} {v : Value} {xs : List Value} (h : Que w base e v xs) : ∀ g, v.ownBlock = some g → base ≤ g ∧ ∃ cs T fr, w.heap[g]? = some (.cells cs T fr) ∧ T ∈ [e] := by
  obtain ⟨g, o, cap, cur, rfl, hg, hh, r⟩ := h
  intro g' hg'
  have e : g = g' := by simpa [Value.ownBlock] using hg'
  subst e
  exact ⟨hg, _, _, _, hh, by simp⟩
theorem Que.form {w : World} {base e : Nat} {v : Value} {xs : List Value} (h : Que w base e v xs) : ∃ p n c, v = .slice p n c := by
  obtain ⟨g, o, cap, cur, hv, _⟩ := h
  exact ⟨_, _, _, hv⟩
/-- What it has, at each place. -/
theorem Que.at {w : World} {base e : Nat} {v : Value} {xs : List Value} (h : Que w base e v xs) : ∃ g o cap, v = .slice (some ⟨g, o, none⟩) xs.length cap ∧ xs.length ≤ cap ∧ ∀ j, j < xs.length → w.cell? ⟨g, o + j, none⟩ = xs[j]? := by
  obtain ⟨g, o, cap, cur, hv, hg, hh, hc, hm, hs, ht⟩ := h
  refine ⟨g, o, cap, hv, hc, fun j hj => ?_⟩
  have e1 : xs[j]? = ((cur.toList.drop o).take xs.length)[j]? := by rw [ht]
  rw [cell_of_row _ _ _ _ _ _ hh, e1, List.getElem?_take, if_pos hj, List.getElem?_drop, Array.getElem?_toList]
/-- The first one is taken. -/
theorem Que.tail {w : World} {base e : Nat} {g o cap : Nat} {x : Value} {xs : List Value} (h : Que w base e (.slice (some ⟨g, o, none⟩) (xs.length + 1) cap) (x :: xs)) : Que w base e (.slice (some ⟨g, if cap = 1 then o else o + 1, none⟩) xs.length (cap - 1)) xs := by
  obtain ⟨g', o', cap', cur, hv, hg, hh, hc, hm, hs, ht⟩ := h
  simp only [Value.slice.injEq, Option.some.injEq, Addr.mk.injEq] at hv
  obtain ⟨⟨rfl, rfl, _⟩, _, rfl⟩ := hv
  simp only [List.length_cons] at hc ht
  have h2 : (cur.toList.drop (o + 1)).take xs.length = xs := by
    rw [← List.tail_drop]
    cases hd : cur.toList.drop o with
    | nil => rw [hd] at ht; simp at ht
    | cons y ys =>
      rw [hd, List.take_succ_cons] at ht
      exact (List.cons.inj ht).2
  refine ⟨g, _, cap - 1, cur, rfl, hg, hh, by omega, by omega, ?_, ?_⟩
  · split <;> omega
  · split
    · have : xs.length = 0 := by omega
      rw [List.eq_nil_of_length_eq_zero this]; simp
    · exact h2
section
variable {P : Program} (w : World)
/-- One more behind. -/
theorem run_append_que (base : Nat) (t ty e : TypeId) (i : TypeInfo) (z : Value) (bytes : Nat) (ht : P.underlying t = some (.slice e)) (hi : P.info? e = some i) (hz : i.zero = some z)
    (hsize : i.size = 1) (hby : i.bytes = bytes) (hzs : z.cells.size = 1) (v : Value) (xs : List Value) (hq : Que w base e v xs)
    (a : Addr) (c : Nat) (x : Value) (hx : w.cell? a = some x) (h1 : x.oneCell' = true) (h63 : xs.length + 1 ≤ maxLen) (hbytes : (xs.length + 1) * bytes ≤ 140737488355328) (hbase : base ≤ w.heap.size) :
    ∃ v' w', (Builtin.append_ #[t, t] ty #[v, .slice (some a) 1 c]).run P w = .ok v' w' ∧ Que w' base e v' (xs ++ [x]) ∧ w.grownBy w' v.ownBlock := by
  obtain ⟨g, o, cap, cur, rfl, hg, hh, hc, hm, hs, htk⟩ := hq
  subst hby
  have hl : xs.length ≤ (cur.toList.drop o).length := by
    have := congrArg List.length htk
    simp only [List.length_take] at this
    omega
  have hnews : ∀ j u, [x][j]? = some u → w.cell? (a.add j) = some u := by
    intro j u hj
    match j with
    | 0 =>
      have e1 : a.add 0 = a := by obtain ⟨b, o, s⟩ := a; unfold Addr.add; split <;> simp_all
      rw [e1]; simpa [hx] using hj
    | j + 1 => simp at hj
  by_cases hroom : xs.length + 1 ≤ cap
  · have hst := run_storeCells_at P g (o + xs.length) e [x] 0 cur w hh (by simp; omega) (by simpa using h1)
    simp only [Nat.add_zero, List.length_cons, List.length_nil, Nat.zero_add] at hst
    have hf := run_firstCells_some (P := P) w i.size 1 a 1 c [x] (by simp [hsize]) hnews
    have hadd : (⟨g, o, none⟩ : Addr).add xs.length = ⟨g, o + xs.length, none⟩ := by unfold Addr.add; split <;> simp_all
    refine ⟨.slice (some ⟨g, o, none⟩) (xs.length + 1) cap, w.setRow g (cur.toList.take (o + xs.length) ++ [x] ++ cur.toList.drop (o + xs.length + 1)).toArray, ?_, ⟨g, o, cap, _, by simp, hg, setRow_heap w g cur _ e _ hh, ?_, hm, ?_, ?_⟩, ⟨rfl, rfl, rfl, by rw [size_setRow]; exact Nat.le_refl _, fun k _ hk => heap_setRow_other _ _ _ _ (fun e => hk (by simp [Value.ownBlock, e]))⟩⟩
    · rw [hsize] at hf
      simp only [List.append_assoc, List.cons_append, List.nil_append] at hst ⊢
      simp [Builtin.append_, run_underlying ht, sizeOf, typeInfo, hi, Builtin.lenOf, hroom, hsize, hadd]
      rw [hf]
      simp only [Result.andThen_ok]
      rw [hst]
      simp only [Result.andThen_ok]
    · simp; omega
    · simp only [List.size_toArray, List.length_append, List.length_take, List.length_drop, Array.length_toList, List.length_cons, List.length_nil]
      omega
    · have hlen : o + xs.length ≤ cur.toList.length := by simp only [List.length_drop] at hl; simp only [Array.length_toList] at *; omega
      have e1 : (cur.toList.take (o + xs.length)).drop o = xs := by
        rw [List.drop_take, Nat.add_sub_cancel_left]; exact htk
      rw [List.append_assoc, List.drop_append_of_le_length (by simp only [List.length_take]; omega), e1, ← List.append_assoc, List.take_left' rfl]
  · have holds : ∀ j u, xs[j]? = some u → w.cell? ((⟨g, o, none⟩ : Addr).add j) = some u := by
      intro j u hj
      have hadd : (⟨g, o, none⟩ : Addr).add j = ⟨g, o + j, none⟩ := by unfold Addr.add; split <;> simp_all
      have hjl := (List.getElem?_eq_some_iff.1 hj).1
      rw [hadd, cell_of_row _ _ _ _ _ _ hh, ← hj]
      conv => rhs; rw [← htk]
      rw [List.getElem?_take, if_pos hjl, List.getElem?_drop, Array.getElem?_toList]
    have h63' : xs.length + 1 ≤ 9223372036854775807 := by simp only [maxLen] at h63; omega
    have hr := run_append_grow (P := P) w t ty e i z ht hi hz ⟨g, o, none⟩ xs.length cap xs (by simp [hsize]) holds a 1 c [x] (by simp [hsize]) hnews (by omega) (by omega) (growslice_fits (by omega) hbytes)
    have hge := grownCap_ge w (xs.length + 1) cap e
    have hcm : grownCap w (xs.length + 1) cap e ≤ maxLen := grownCap_le_maxLen w (xs.length + 1) cap e h63
    refine ⟨_, w.drew.alloc _, hr, ⟨w.heap.size, 0, _, _, by simp, hbase, heap_alloc_new w.drew _, by simp; omega, hcm, ?_, ?_⟩, ⟨rfl, rfl, rfl, by simp, fun k hk _ => Below.heap_alloc w.drew _ k hk⟩⟩
    · simp only [Array.size_append, List.size_toArray, size_zeroCells, hzs, List.length_cons, List.length_nil]
      omega
    · simp only [Array.toList_append, List.append_assoc, List.drop_zero]
      rw [← List.append_assoc]
      exact List.take_left
theorem wpList_append_que {ops : Array Oper} {rest : List Oper} {o : Oper} {a : Act} {Q : Exit → Act → World → Prop} (hgd : o.guard = none) (s x : Operand) (t : TypeId) (ho : o.op = .call { callee := .builtin .append, args := #[s, x], argTypes := #[t, t] })
    (base : Nat) (e : TypeId) (i : TypeInfo) (z : Value) (bytes : Nat) (ht : P.underlying t = some (.slice e)) (hi : P.info? e = some i) (hz : i.zero = some z)
    (hsize : i.size = 1) (hby : i.bytes = bytes) (hzs : z.cells.size = 1) (v : Value) (xs : List Value) (hs : a.eval s = v) (hq : Que w base e v xs)
    (ad : Addr) (c : Nat) (u : Value) (hx : a.eval x = .slice (some ad) 1 c) (hu : w.cell? ad = some u) (h1 : u.oneCell' = true) (h63 : xs.length + 1 ≤ maxLen) (hbytes : (xs.length + 1) * bytes ≤ 140737488355328) (hbase : base ≤ w.heap.size)
    (h : ∀ v' w', Que w' base e v' (xs ++ [u]) → w.grownBy w' v.ownBlock → wpList P ops Q rest (a.put o.dst v') w') : wpList P ops Q (o :: rest) a w := by
  refine wpList_plain hgd fun _ hK => ?_
  obtain ⟨v', w', hr, h2, h3⟩ := run_append_que (P := P) w base t o.type e i z bytes ht hi hz hsize hby hzs v xs hq ad c u hu h1 h63 hbytes hbase
  unfold Oper.wp execOp
  simp only [ho, resolve, invoke, builtin, Sem.run_bind, Sem.run_pure, Result.andThen_ok, List.map_toArray, List.map_cons, List.map_nil, hs, hx, hr]
  exact hK _ _ (h v' w' h2 h3)
end
end Go.Proofs.Ytaefcmmjeloccaa
