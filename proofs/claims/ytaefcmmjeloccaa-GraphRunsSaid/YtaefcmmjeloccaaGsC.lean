/- The reference graph: hold, pushed. -/
import Derived.Test.YtaefcmmjeloccaaGrK
import Derived.Test.YtaefcmmjeloccaaGsN
import Derived.Test.YtaefcmmjeloccaaStp3
import Derived.Test.YtaefcmmjeloccaaGrE
import Derived.Test.YtaefcmmjeloccaaQue
namespace Go.Proofs.Ytaefcmmjeloccaa
open Go.RowKit

/-- The error of a step behind its numbers. -/
def Gr.after (G : Gr) (x : Stp) : Int := match x.k.toNat with
  | 3 => if 16 ≤ (G.held x.t).length then 3 else 0
  | 4 => if 16 ≤ (G.held x.t).length then 3 else 0
  | 5 => if 16 ≤ (G.held x.t).length then 3 else 0
  | 6 => if 16 ≤ (G.held x.t).length then 3 else 0
  | 7 => if ((G.held x.t).length : Int) ≤ x.i then 4 else if 16 ≤ (G.held x.t).length then 3 else 0
  | 8 => if (G.held x.t).length = 0 then 4 else 0
  | 9 => if G.object x true ≠ 0 then G.object x true else if 16 ≤ (G.held x.t).length then 3 else 0
  | 10 => if G.object x true ≠ 0 then G.object x true else if ((G.held x.t).length : Int) ≤ x.j then 4 else 0
  | 11 => if ((G.held x.t).length : Int) ≤ x.i ∨ ((G.held x.t).length : Int) ≤ x.j then 4 else 0
  | 12 => if G.object x false ≠ 0 then G.object x false else 0
  | _ => 0
/-- The first error of a step, but for what a collector refuses. -/
def Gr.code (q : Int) (G : Gr) (x : Stp) : Int :=
  if x.check ≠ 0 then x.check else if G.who x ≠ 0 then G.who x else if Gr.numBad q x = true then 4 else G.after x
theorem code_after {q : Int} {G : Gr} {x : Stp} (hc : x.check = 0) (hw : G.who x = 0) (hn : Gr.numBad q x = false) : G.code q x = G.after x := by
  unfold Gr.code; rw [if_neg (by rw [hc]; simp), if_neg (by rw [hw]; simp), if_neg (by rw [hn]; simp)]
theorem kinds_r : Kinds 50 85 := ⟨by decide, by decide, by decide, by decide, by decide⟩
theorem run_append_nn {P : Program} (w : World) (t ty e : TypeId) (i : TypeInfo) (ht : P.underlying t = some (.slice e)) (hi : P.info? e = some i) :
    (Builtin.append_ #[t, t] ty #[.slice none 0 0, .slice none 0 0]).run P w = .ok (.slice none 0 0) w := by
  simp [Builtin.append_, run_underlying ht, sizeOf, typeInfo, hi, Builtin.lenOf, run_firstCells_none]
/-- A row of values, copied by an append to nothing. -/
theorem wpList_copy {ops : Array Oper} {rest : List Oper} {o : Oper} {a : Act} {w : World} {Q : Exit → Act → World → Prop} (hgd : o.guard = none) (s x : Operand)
    (ho : o.op = .call { callee := .builtin .append, args := #[s, x], argTypes := #[53, 53] }) (hs : a.eval s = .slice none 0 0) (v : Value) (hx : a.eval x = v) (n : Nat) (vs : List Vl)
    (hown : Own w 57 2 n v (vls vs)) (hn : n ≤ 1000)
    (h : ∀ s' w', w'.ownsRow w.heap.size 57 2 s' n (vls vs) → Below w.heap.size w w' → wpList Try.prog ops Q rest (a.put o.dst s') w') : wpList Try.prog ops Q (o :: rest) a w := by
  obtain ⟨i0, hi, hz0, hz1, hz2⟩ := info_parts info_val
  rcases hown.2 with ⟨rfl, rfl⟩ | ⟨g, cap, cur, rfl, -⟩
  · refine wpList_plain hgd fun K hK => ?_
    unfold Oper.wp execOp
    simp only [ho, resolve, invoke, builtin, Sem.run_bind, Sem.run_pure, Result.andThen_ok, List.map_toArray, List.map_cons, List.map_nil, hs, hx, run_append_nn w 53 o.type 57 i0 Try.underlying53 hi]
    refine hK _ _ (h _ w ⟨?_, .inl ⟨rfl, rfl⟩⟩ (Below.refl _ _))
    exact hown.1
  · refine wpList_append_own w hgd s x 53 ho w.heap.size 57 i0 (.agg #[.int .i64 0, .int .i64 0]) 2 16 Try.underlying53 hi hz0 hz1 hz2 rfl (by decide) (.slice none 0 0) 0 [] hs (World.ownsRow_nil _ _ _ _) ⟨g, 0, none⟩ n cap (vls vs) hx hown.1 (own_range hown) (vls_one vs) (by unfold maxLen; omega) (by omega) (Nat.le_refl _) fun v' w' hown' hgrow _ => ?_
    rw [Nat.zero_add, List.nil_append] at hown'
    exact h v' w' hown' ((Below.refl _ _).grown hgrow (Nat.le_refl _) (fun j hj => by cases hj))
section
variable {w : World} {g : Nat} {c : Cfg} {G : Gr} {tb tcap nb ncap : Nat} {hv nv : List Value}
/-- The reference's answer to a value that is held. -/
def HoldS (w w' : World) (g : Nat) (c : Cfg) (G : Gr) (t : Nat) (v : Vl) (fp : List Nat) (e : Ending) : Prop :=
  e = .returned (.agg #[.int .i64 0, .int .i64 v.1, .int .i64 v.2, .int .i64 0, .int .i64 0]) ∧ GTo 50 85 w w' g c (G.hold (t : Int) v) fp
set_option maxHeartbeats 4000000 in
set_option maxRecDepth 100000 in
theorem rhold_any (h : Gx 50 85 w g c G tb tcap nb ncap hv nv) (t : Nat) (hlt : t < G.thr.length) (v : Vl) (hn : (G.held (t : Int)).length ≤ 1000) :
    Calls Try.prog 53 #[.pointer (some ⟨g, 0, none⟩), .int .i64 (t : Int), .agg #[.int .i64 v.1, .int .i64 v.2]] w fun e w' => HoldS w w' g c G t v (fpOf g tb nb hv nv) e := by
  have B2 := Lib.hid (below_new (below_alloc0 w (.cells #[.int .i64 v.1, .int .i64 v.2] 57)) (.cells zAns 36))
  have S2 := Lib.hid (keep_alloc (.cells zAns 36) (heap_alloc_new w (.cells #[.int .i64 v.1, .int .i64 v.2] 57)))
  have A2 := Lib.hid (heap_two w (.cells #[.int .i64 v.1, .int .i64 v.2] 57) (.cells zAns 36))
  have HFP := Lib.hid h.lt
  have hG := h.below B2.out
  have htb : tb < w.heap.size := own_blk h.thr tb rfl
  have hl : (G.thr.getD t Th.none).held = G.held (t : Int) := rfl
  have i1 : (0 : Int) ≤ (t : Int) := by omega
  have i2 : (t : Int) < (G.thr.length : Int) := by omega
  have HLT := Lib.hid hlt
  clear h
  obtain ⟨-, q10, -⟩ := hG.head
  obtain ⟨-, t1⟩ := hG.thread hlt
  have HG := Lib.hid hG
  have ho := hG.heldRow hlt
  rw [hl] at ho
  obtain ⟨vs, hvs⟩ : ∃ vs, vs = G.held (t : Int) := ⟨_, rfl⟩
  rw [← hvs] at ho hn
  have HVS := Lib.hid hvs
  obtain ⟨hs, hhs⟩ : ∃ hs, hs = hv.getD t undef := ⟨_, rfl⟩
  rw [← hhs] at ho t1
  have HHS := Lib.hid hhs
  have HO := Lib.hid ho
  have HN := Lib.hid hn
  have HTB := Lib.hid htb
  obtain ⟨i0, hi, hz0, hz1, hz2⟩ := info_parts info_val
  have hi := Lib.hid hi
  have hz0 := Lib.hid hz0
  have hz1 := Lib.hid hz1
  have hz2 := Lib.hid hz2
  clear hG hvs hhs ho hl hn htb hlt
  go_enter Try.func53, Try.ntmps53
  go_wp2_with (first
    | (at_builtin; refine wpList_copy rfl _ _ rfl rfl _ rfl _ vs HO.out HN.out ?_; intro s5 w5 ho5 hb5; obtain ⟨p5, c5, rfl, -, -⟩ := own_slice ho5; have B25 := Lib.hid hb5; have B5 : Hid (Below w.heap.size w w5) := Lib.hid (below_next B2.out hb5); have S5 := Lib.hid (keep hb5 S2.out); have A5 := Lib.hid (keep hb5 A2.out); have O5 := Lib.hid ho5; have S50 : w5.cell? ⟨w.heap.size, 0, none⟩ = some (.int .i64 v.1) := cell_of_row _ _ _ _ _ _ S5.out; have S51 : w5.cell? ⟨w.heap.size, 1, none⟩ = some (.int .i64 v.2) := cell_of_row _ _ _ _ _ _ S5.out; clear ho5 hb5)
    | (at_builtin; refine wpList_append_own _ rfl _ _ 53 rfl _ 57 i0 (.agg #[.int .i64 0, .int .i64 0]) 2 16 Try.underlying53 hi.out hz0.out hz1.out hz2.out rfl (by decide) _ vs.length (vls vs) rfl (O5.out.alloc _) ⟨w5.heap.size, 0, none⟩ 1 1 (vlc v) rfl rfl (cell_new _ _ _ _) (by simp [vlc, Value.oneCell']) (by have := HN.out; unfold maxLen; omega) (by have := HN.out; omega) (Nat.le_trans B25.out.size (by simp)) ?_; go_loud (intro v' w7 hown' hgrow _; obtain ⟨d', cap', rfl⟩ := own_pos (own_mono hown' (Nat.zero_le _)) (by omega); have B27 := Lib.hid ((below_new B25.out _).grown hgrow (Nat.le_trans B25.out.size (by simp)) (fun j hj => (own_kf O5.out j hj).1)); have B7 : Hid (Below w.heap.size w w7) := Lib.hid (below_next B2.out B27.out); have S7 := Lib.hid (keep B27.out S2.out); have A7 := Lib.hid (keep B27.out A2.out); have O7 := Lib.hid hown'; clear hown' hgrow; have hG7 := HG.out.below B27.out; have r7 := hG7.head.2.1; have t7 : w7.cell? ⟨tb, t * 2 + 1, none⟩ = some hs := (hG7.thread HLT.out).2.trans (by rw [HHS.out]); have f7 : w7.frozen? ⟨tb, t * 2 + 1, none⟩ = false := hG7.thr.frozenAt _; clear hG7; have A9 : Hid (∀ y, (w7.setCell ⟨tb, t * 2 + 1, none⟩ y).heap[w.heap.size + 1]? = some (.cells zAns 36 (0, 0))) := Lib.hid fun y => (heap_setCell_other _ _ _ _ (by have := HTB.out; simp only; omega)).trans A7.out; have S9 : ∀ y, (w7.setCell ⟨tb, t * 2 + 1, none⟩ y).heap[w.heap.size]? = some (.cells #[.int .i64 v.1, .int .i64 v.2] 57 (0, 0)) := fun y => (heap_setCell_other _ _ _ _ (by have := HTB.out; simp only; omega)).trans S7.out; have c90 : ∀ y, (w7.setCell ⟨tb, t * 2 + 1, none⟩ y).cell? ⟨w.heap.size, 0, none⟩ = some (.int .i64 v.1) := fun y => cell_of_row _ _ _ _ _ _ (S9 y); have c91 : ∀ y, (w7.setCell ⟨tb, t * 2 + 1, none⟩ y).cell? ⟨w.heap.size, 1, none⟩ = some (.int .i64 v.2) := fun y => cell_of_row _ _ _ _ _ _ (S9 y); clear S9))
    | (refine wpList_store_row rfl 36 _ _ rfl (w.heap.size + 1) #[.int .i64 0, .int .i64 v.1, .int .i64 v.2, .int .i64 0, .int .i64 0] rfl rfl 36 _ (A9.out _) (by kernel_rfl) rfl (by kernel_rfl) ?_))
  refine bodyPost_ret (v := .agg #[.int .i64 0, .int .i64 v.1, .int .i64 v.2, .int .i64 0, .int .i64 0]) (results_cell_row rfl _ _ (w.heap.size + 1) 36 #[.int .i64 0, .int .i64 v.1, .int .i64 v.2, .int .i64 0, .int .i64 0] _ _ rfl (heap_setRow_same _ (A9.out _)) Try.underlying36 rfl (by kernel_rfl)) rfl ?_
  refine ⟨rfl, ?_⟩
  have o7 := O7.out
  rw [← vls_snoc] at o7
  have hp := HG.out.putHeld kinds_r HLT.out (w1 := w7) (vs := vs ++ [v]) (grown_after B27.out (grown_refl _ _)) (own_mono o7 (Nat.zero_le _)) (fun k hk => ?_)
  · have e : G.hold (t : Int) v = G.setT (t : Int) ⟨(G.th (t : Int)).live, vs ++ [v]⟩ := by rw [HVS.out]; rfl
    rw [e]
    exact hp.wrap B2.out HFP.out (K := w.heap.size + 1) (by omega) (heap_lt A2.out) (Frm.setRow (fp := [w.heap.size + 1]) _ (List.mem_singleton.2 rfl) _)
  · exact .inr (own_kf O7.out k hk).1
end
end Go.Proofs.Ytaefcmmjeloccaa
