/- Package page: the runs of free pages, one by one. -/
import Derived.Test.YtjoejjhgneccgaaGreatDoorQTN04
import Derived.RangeFuncNested
import Derived.RangeFuncBound
import Derived.RangeFuncCalls
import Derived.RangeFuncLeaves
import Derived.Shelf.Abstract
import Derived.Shelf.RegionOpen
import Derived.OwnWalkIn
import Derived.TacticsInMore
import Derived.LoopNIn
import Derived.LoopIn
namespace Go.Proofs.YtjoejjhgneccgaaGreatDoor
open Go.RowKit Go.Shelf
attribute [local go_sem] Oper.semAt_some

/-- What is still to come. -/
def restL (ks : List Int) (p n : Nat) : List (Nat × Nat) := if p ≤ ks.length then runsFrom (ks.drop p) p n else []
theorem restL_start (ks : List Int) : runsL ks = restL ks 0 0 := by unfold restL runsL; rw [if_pos (Nat.zero_le _), List.drop_zero]
theorem restL_free {ks : List Int} {p n : Nat} (h : kindL ks p = 0) : restL ks p n = restL ks (p + 1) (n + 1) ∧ p < ks.length := by
  have hl : p < ks.length := by
    apply Decidable.byContradiction; intro hc
    rw [kindL_out (.inr (by omega))] at h; omega
  rw [kindL_in hl, List.getD_eq_getElem?_getD, List.getElem?_eq_getElem hl] at h
  unfold restL
  rw [if_pos (by omega), if_pos (by omega), List.drop_eq_getElem_cons hl, runsFrom, if_pos (by simpa using h)]
  exact ⟨rfl, hl⟩
theorem restL_none {ks : List Int} {p : Nat} (h : kindL ks p ≠ 0) (hp : p ≤ ks.length) : restL ks p 0 = restL ks (p + 1) 0 := by
  unfold restL
  by_cases hl : p < ks.length
  · rw [kindL_in hl, List.getD_eq_getElem?_getD, List.getElem?_eq_getElem hl] at h
    rw [if_pos (by omega), if_pos (by omega), List.drop_eq_getElem_cons hl, runsFrom, if_neg (by simpa using h), if_neg (by omega)]
  · rw [if_pos hp, if_neg (by omega), List.drop_of_length_le (by omega)]
    rfl
theorem restL_some {ks : List Int} {p n : Nat} (h : kindL ks p ≠ 0) (hp : p ≤ ks.length) (hn : 0 < n) : restL ks p n = (p - n, n) :: restL ks (p + 1) 0 := by
  unfold restL
  by_cases hl : p < ks.length
  · rw [kindL_in hl, List.getD_eq_getElem?_getD, List.getElem?_eq_getElem hl] at h
    rw [if_pos (by omega), if_pos (by omega), List.drop_eq_getElem_cons hl, runsFrom, if_neg (by simpa using h), if_pos hn]
  · rw [if_pos hp, if_neg (by omega), List.drop_of_length_le (by omega), runsFrom, if_pos hn]
theorem restL_end {ks : List Int} {p n : Nat} (hp : ks.length < p) : restL ks p n = [] := by unfold restL; rw [if_neg (by omega)]
def encR (x : Nat × Nat) : Array Value := #[.int .i64 x.1, .int .i64 x.2]
set_option maxRecDepth 100000 in
set_option maxHeartbeats 4000000 in
/-- The iterator: for each body that leaves the table as it is, as long as it goes on. -/
theorem runs_in (n : Nat) (hn : 2 ≤ n) (l t k : Nat) (ks : List Int) (J Jx : List (Nat × Nat) → World → Prop) (hT : ∀ pre W, J pre W → Tx W t k ks)
    (hY : ∀ pre x rest W, J pre W → runsL ks = pre ++ x :: rest → YieldAt Fence.wide (n - 1) Tryz.prog l (encR x) W fun e W' =>
      (e = .returned (.bool true) ∧ J (pre ++ [x]) W') ∨ (e = .returned (.bool false) ∧ Jx (pre ++ [x]) W'))
    (W : World) (h0 : J [] W) :
    CallsIn Fence.wide n Tryz.prog 187 #[.pointer (some ⟨t, 0, none⟩), .func (.yield l) #[] #[]] W fun e W' => (∃ v, e = .returned v) ∧
      (J (runsL ks) W' ∨ (∃ pre, Jx pre W')) := by
  have hlen := (hT _ _ h0).le
  obtain ⟨m, hm⟩ : ∃ m, m = ks.length := ⟨_, rfl⟩
  rw [← hm] at hlen
  obtain ⟨-, c1⟩ := (hT _ _ h0).cells
  rw [← hm] at c1
  have HM := Lib.hid hm
  have H0 := Lib.hid h0
  have HT := Lib.hid hT
  have HY := Lib.hid hY
  clear hm h0 hT hY
  refine callsIn_of_wp Tryz.func187 rfl trivial ?_ rfl
  simp only [Tryz.ntmps187, List.size_toArray, List.length_cons, List.length_nil, Nat.reduceAdd, Nat.reduceSub, Array.replicate_succ, Array.replicate_zero, List.push_toArray, List.append_toArray, List.nil_append, List.cons_append]
  gi_wp2
  gi_loopw [4, 14] (fun a b wr => ∃ (p q : Nat) (pre : List (Nat × Nat)), p ≤ m + 1 ∧ q ≤ p ∧ a = .int .i64 q ∧ b = .int .i64 p ∧ Hid (runsL ks = pre ++ restL ks p q) ∧ Hid (J pre wr)) (fun _ b _ => m + 1 - (intOf b).toNat)
  case atStart => exact ⟨0, 0, [], Nat.zero_le _, Nat.le_refl _, rfl, rfl, Lib.hid (restL_start ks), H0⟩
  case round =>
    clear H0 c1
    obtain ⟨p, q, pre, hp, hq, rfl, rfl, HR, HJ⟩ := hrel
    by_cases hpm : p = m + 1
    · subst hpm
      have HE := Lib.hid (show runsL ks = pre by rw [HR.out, restL_end (by rw [← HM.out]; omega), List.append_nil])
      gi_wp2
      go_end0
      exact ⟨⟨_, rfl⟩, .inl (by rw [HE.out]; exact HJ.out)⟩
    · have hple : p ≤ m := by omega
      have HX := Lib.hid (HT.out _ _ HJ.out)
      by_cases hk : kindL ks p = 0
      · obtain ⟨he, hl⟩ := restL_free (n := q) hk
        have hk0 : (kindL ks (p : Int) == 0) = true := beq_iff_eq.2 hk
        have HR' := Lib.hid (show runsL ks = pre ++ restL ks (p + 1) (q + 1) by rw [HR.out, he])
        clear hk he hl HR
        gi_wp2_with (refine ⟨trivial, fun _ => Nat.le_trans (by decide) hn, ?_⟩; gi_at_call 198; refine (callsIn_wide.2 (pkind_any HX.out _)).mono ?_; rintro e w1 ⟨rfl, rfl⟩)
        go_roundw
        case rel => exact ⟨p + 1, q + 1, pre, by omega, by omega, by go_num, by go_num, HR', HJ⟩
        case measure => simp [intOf]; omega
      · have hk0 : (kindL ks (p : Int) == 0) = false := beq_eq_false_iff_ne.2 hk
        have hpl : p ≤ ks.length := by rw [← HM.out]; exact hple
        by_cases hq0 : q = 0
        · subst hq0
          have HR' := Lib.hid (show runsL ks = pre ++ restL ks (p + 1) 0 by rw [HR.out, restL_none hk hpl])
          clear hk hpl HR
          gi_wp2_with (refine ⟨trivial, fun _ => Nat.le_trans (by decide) hn, ?_⟩; gi_at_call 198; refine (callsIn_wide.2 (pkind_any HX.out _)).mono ?_; rintro e w1 ⟨rfl, rfl⟩)
          refine ⟨fun _ h => (by cases h), ?_⟩
          gi_wp2
          go_roundw
          case rel => exact ⟨p + 1, 0, pre, by omega, by omega, rfl, by go_num, HR', HJ⟩
          case measure => simp [intOf]; omega
        · have hq1 : 0 < q := by omega
          have hrs := restL_some hk hpl hq1
          have HR' := Lib.hid (show runsL ks = (pre ++ [(p - q, q)]) ++ restL ks (p + 1) 0 by rw [HR.out, hrs]; simp)
          obtain ⟨fn, tmps, assign, body, hy, hR⟩ := HY.out pre (p - q, q) (restL ks (p + 1) 0) wr HJ.out (by rw [HR.out, hrs])
          unfold encR at hy
          rw [show ((p - q : Nat) : Int) = (p : Int) - (q : Int) by omega] at hy
          have hq1' : (0 : Int) < (q : Int) := by omega
          clear hk hpl HR hq0 hrs
          gi_wp2_with (refine ⟨trivial, fun _ => Nat.le_trans (by decide) hn, ?_⟩; gi_at_call 198; refine (callsIn_wide.2 (pkind_any HX.out _)).mono ?_; rintro e w1 ⟨rfl, rfl⟩)
          refine ⟨fun _ => Nat.le_trans (by decide) hn, ?_⟩
          refine hR.mono ?_
          rintro e W3 (⟨rfl, hJ3⟩ | ⟨rfl, hJx3⟩)
          · have HJ3 := Lib.hid hJ3
            clear hJ3
            gi_wp2
            go_roundw
            case rel => exact ⟨p + 1, 0, pre ++ [(p - q, q)], by omega, by omega, rfl, by go_num, HR', HJ3⟩
            case measure => simp [intOf]; omega
          · have HJx3 := Lib.hid hJx3
            clear hJx3
            gi_wp2
            refine bodyPost_ret (results_none rfl _ _ _) rfl ?_
            exact ⟨⟨_, rfl⟩, .inr ⟨_, HJx3.out⟩⟩
/-- 'for p, long := range t.runs': whatever the body does, if it leaves the table as it is as long as it goes on. -/
theorem runs_range {g : Operand} {p1 p2 : Tmp} {assign body : Code} {Q : Exit → Act → World → Prop} {a : Act} {w : World} (n : Nat) (hn : 4 ≤ n) (t k : Nat) (ks : List Int)
    (hg : a.eval g = .func (.func 187) #[.pointer (some ⟨t, 0, none⟩)] #[])
    (I : List (Nat × Nat) → World → Prop) (Ix : Code → List (Nat × Nat) → World → Prop) (hT : ∀ pre W, I pre W → Tx W t k ks)
    (hI : ∀ pre W l o o', I pre W → w.heap.size ≤ l → W.heap[l]? = some o → o.isCells = false → I pre (W.putObj l o'))
    (hIx : ∀ c pre W l o o', Ix c pre W → w.heap.size ≤ l → W.heap[l]? = some o → o.isCells = false → Ix c pre (W.putObj l o'))
    (hIa : ∀ W o, I [] W → I [] (W.alloc o)) (h0 : I [] w) (a₁ : Nat × Nat → Act)
    (hassign : ∀ (l : Nat) (x : Nat × Nat) (W : World) (K : Act → World → Prop), K (a₁ x) W →
      assign.wpIn (Fence.wide.inRound l) (n - 1 - 1) Tryz.prog (Exit.then K (fun _ _ _ => False)) { tmps := ((#[p1, p2]).zip (encR x)).foldl (fun t (p, v) => t.setIfInBounds p v) a.tmps, defers := [] } W)
    (hbody : ∀ (l : Nat) (pre : List (Nat × Nat)) (x : Nat × Nat) (rest : List (Nat × Nat)) (W : World), I pre W → runsL ks = pre ++ x :: rest →
      body.wpIn (Fence.wide.inRound l) (n - 1 - 1) Tryz.prog (ownPostK (fun _ _ => True) I Ix (pre ++ [x]) W) (a₁ x) W)
    (hdone : ∀ (D : Nat) (W : World), w.heap.size ≤ D → I (runsL ks) W → W.heap[D]? = some (.deferred (some [])) → Q .normal { a with defers := { target := .collected D, args := #[] } :: a.defers } W)
    (hstop : ∀ (D : Nat) (c : Code) (pre : List (Nat × Nat)) (W : World), w.heap.size ≤ D → Ix c pre W → W.heap[D]? = some (.deferred (some [])) → c.wpIn Fence.wide n Tryz.prog Q { a with defers := { target := .collected D, args := #[] } :: a.defers } W) :
    (Code.rangeFunc g #[p1, p2] assign body).wpIn Fence.wide n Tryz.prog Q a w := by
  refine wpIn_rangeFunc fun fn _ => ?_
  let rc : LoopState → Option Code → Loop := fun st pe => { state := st, pending := pe, fn, tmps := a.tmps, params := #[p1, p2], assign, body, defers := w.heap.size }
  obtain ⟨rec, hrec⟩ : ∃ r, r = rc := ⟨_, rfl⟩
  obtain ⟨V, hV⟩ : ∃ V, V = (w.alloc (.deferred (some []))).alloc (.loop (rec .ready none)) := ⟨_, rfl⟩
  have vL : V.heap[w.heap.size + 1]? = some (.loop (rec .ready none)) := by rw [hV]; exact alloc_at _ _ (by simp)
  have vD : V.heap[w.heap.size]? = some (.deferred (some [])) := by rw [hV]; exact keep_alloc _ (heap_alloc_new w _)
  have vI : I [] V := by rw [hV]; exact hIa _ _ (hIa _ _ h0)
  refine ⟨w.heap.size + 1, [{ target := .collected w.heap.size, args := #[] }], V, { target := .fn (.func 187) #[], args := #[.pointer (some ⟨t, 0, none⟩), .func (.yield (w.heap.size + 1)) #[] #[]] }, V, 187,
    #[.pointer (some ⟨t, 0, none⟩), .func (.yield (w.heap.size + 1)) #[] #[]], V, ?_, ?_, fun _ _ => trivial, ?_, fun _ => Nat.le_trans (by decide) hn, ?_⟩
  · rw [hV, hrec]; exact run_enterLoop_outer _ _ _ _ _
  · simp only [resolve, hg]
    simp [go_sem]
  · simp [invoke, go_sem]
  · refine (runs_in (n - 1) (by omega) (w.heap.size + 1) t k ks
      (fun pre W => I pre W ∧ W.heap[w.heap.size + 1]? = some (.loop (rec .ready none)) ∧ W.heap[w.heap.size]? = some (.deferred (some [])))
      (fun pre W => ∃ c, Ix c pre W ∧ W.heap[w.heap.size + 1]? = some (.loop (rec .done (some c))) ∧ W.heap[w.heap.size]? = some (.deferred (some [])))
      (fun pre W h => hT pre W h.1) ?_ V ⟨vI, vL, vD⟩).mono ?_
    · rintro pre x rest W ⟨hi, hl, hd⟩ hx
      have hlt := heap_lt hl
      have hy := run_yield (P := Tryz.prog) (args := encR x) hl (by rw [hrec]; rfl)
      rw [hrec] at hy
      refine ⟨fn, _, assign, body, hy, roundIn_of_wpIn trivial (hassign _ x W _ ⟨_, run_beginRound hl (by rw [hrec]), ?_⟩)⟩
      obtain ⟨V2, hV2⟩ : ∃ V2, V2 = W.putObj (w.heap.size + 1) (.loop { rec .ready none with state := .busy }) := ⟨_, rfl⟩
      rw [← hV2]
      have l2 : V2.heap[w.heap.size + 1]? = some (.loop { rec .ready none with state := .busy }) := by rw [hV2]; exact World.putObj_heap_same hlt
      have d2 : V2.heap[w.heap.size]? = some (.deferred (some [])) := by rw [hV2]; exact (World.putObj_heap_other (by omega)).trans hd
      have i2 : I pre V2 := by rw [hV2]; exact hI _ _ _ _ _ hi (by omega) hl rfl
      refine wpIn_mono (hbody _ pre x rest V2 i2 hx) ?_
      have out : ∀ (j : Option Code) (V3 : World), KeepsOthers V2 V3 →
          (Instr.endRound (w.heap.size + 1) j).run Tryz.prog V3 = .ok (.bool j.isNone) (V3.putObj (w.heap.size + 1) (.loop (rec (if j.isNone then .ready else .done) j))) ∧
          V3.heap[w.heap.size + 1]? = some (.loop { rec .ready none with state := .busy }) ∧
          (V3.putObj (w.heap.size + 1) (.loop (rec (if j.isNone then .ready else .done) j))).heap[w.heap.size + 1]? = some (.loop (rec (if j.isNone then .ready else .done) j)) ∧
          (V3.putObj (w.heap.size + 1) (.loop (rec (if j.isNone then .ready else .done) j))).heap[w.heap.size]? = some (.deferred (some [])) := by
        intro j V3 k3
        have l3 := k3.same _ _ l2 rfl
        have h3 := run_endRound (P := Tryz.prog) j l3
        refine ⟨?_, l3, World.putObj_heap_same (heap_lt l3), (World.putObj_heap_other (by omega)).trans (k3.same _ _ d2 rfl)⟩
        rw [h3, hrec]
      rintro e a3 V3 hp
      cases e with
      | normal =>
        obtain ⟨k3, -, i3⟩ := hp
        obtain ⟨r3, l3, l4, d4⟩ := out none V3 k3
        exact ⟨_, _, r3, .inl ⟨rfl, hI _ _ _ _ _ i3 (by omega) l3 rfl, l4, d4⟩⟩
      | ret =>
        obtain ⟨k3, i3⟩ := hp
        obtain ⟨r3, l3, l4, d4⟩ := out (some .ret) V3 k3
        exact ⟨_, _, r3, .inr ⟨rfl, .ret, hIx _ _ _ _ _ _ i3 (by omega) l3 rfl, l4, d4⟩⟩
      | exit id =>
        obtain ⟨k3, i3⟩ := hp
        obtain ⟨r3, l3, l4, d4⟩ := out (some (.exit id)) V3 k3
        exact ⟨_, _, r3, .inr ⟨rfl, .exit id, hIx _ _ _ _ _ _ i3 (by omega) l3 rfl, l4, d4⟩⟩
      | goto id =>
        obtain ⟨k3, i3⟩ := hp
        obtain ⟨r3, l3, l4, d4⟩ := out (some (.goto id)) V3 k3
        exact ⟨_, _, r3, .inr ⟨rfl, .goto id, hIx _ _ _ _ _ _ i3 (by omega) l3 rfl, l4, d4⟩⟩
      | panic ch => exact hp.elim
      | outgrown => exact hp.elim
    · rintro e V2 ⟨⟨v, rfl⟩, (⟨hi, hl, hd⟩ | ⟨pre, c, hi, hl, hd⟩)⟩
      · have h3 := run_endLoop (P := Tryz.prog) hl (by rw [hrec]; simp [rc])
        exact ⟨none, _, by rw [h3, hrec], hdone _ _ (Nat.le_refl _) (hI _ _ _ _ _ hi (by omega) hl rfl) ((World.putObj_heap_other (by omega)).trans hd)⟩
      · have h3 := run_endLoop (P := Tryz.prog) hl (by rw [hrec]; simp [rc])
        exact ⟨some c, _, by rw [h3, hrec], hstop _ c pre _ (Nat.le_refl _) (hIx _ _ _ _ _ _ hi (by omega) hl rfl) ((World.putObj_heap_other (by omega)).trans hd)⟩
end Go.Proofs.YtjoejjhgneccgaaGreatDoor

/- Package page: how many are free; pages that follow one another. -/
namespace Go.Proofs.YtjoejjhgneccgaaGreatDoor
open Go.RowKit Go.Shelf
attribute [local go_sem] Oper.semAt_some

theorem putObj_keep {W : World} {l k : Nat} {o : Obj} (o' : Obj) {cs : Array Value} {T : TypeId} {fr : Nat × Nat} (hl : W.heap[l]? = some o) (ho : o.isCells = false) (hk : W.heap[k]? = some (.cells cs T fr)) : (W.putObj l o').heap[k]? = some (.cells cs T fr) := by
  refine (World.putObj_heap_other ?_).trans hk
  rintro rfl
  rw [hk] at hl
  cases hl
  simp [Obj.isCells] at ho
theorem putObj_below {W : World} {l B : Nat} (o' : Obj) (h : B ≤ l) : Below B W (W.putObj l o') :=
  ⟨rfl, rfl, rfl, by simp [World.putObj], fun k hk => World.putObj_heap_other (by omega)⟩
theorem Tx.put_obj {W : World} {t k : Nat} {ks : List Int} {l : Nat} {o : Obj} (o' : Obj) (h : Tx W t k ks) (hl : W.heap[l]? = some o) (ho : o.isCells = false) : Tx (W.putObj l o') t k ks :=
  ⟨putObj_keep o' hl ho h.hd, putObj_keep o' hl ho h.row, h.le⟩
def sumR (l : List (Nat × Nat)) : Nat := (l.map (·.2)).sum
theorem runs_sum : ∀ (xs : List Int) (p n : Nat), sumR (runsFrom xs p n) ≤ xs.length + n
  | [], p, n => by
    unfold runsFrom sumR
    split <;> simp
  | x :: xs, p, n => by
    unfold runsFrom
    have h1 := runs_sum xs (p + 1) (n + 1)
    have h2 := runs_sum xs (p + 1) 0
    unfold sumR at h1 h2 ⊢
    split
    · simp; omega
    · split
      · simp; omega
      · simp; omega
theorem sumR_snoc (l : List (Nat × Nat)) (x : Nat × Nat) : sumR (l ++ [x]) = sumR l + x.2 := by simp [sumR]
theorem sumR_pre {ks : List Int} {pre rest : List (Nat × Nat)} {x : Nat × Nat} (h : runsL ks = pre ++ x :: rest) : sumR pre + x.2 ≤ ks.length := by
  have := runs_sum ks 0 0
  unfold runsL at h
  rw [h] at this
  simp [sumR] at this ⊢
  omega
set_option maxRecDepth 100000 in
set_option maxHeartbeats 4000000 in
theorem pcount_in {w : World} {t k : Nat} {ks : List Int} (h : Tx w t k ks) :
    CallsIn Fence.wide 6 Tryz.prog 197 #[.pointer (some ⟨t, 0, none⟩)] w fun e w' => e = .returned (.int .i64 (countL ks)) ∧ Below w.heap.size w w' := by
  have HT := Lib.hid h
  have hle := h.le
  clear h
  refine callsIn_of_wp_marks Tryz.func197 rfl trivial ?_ rfl
  simp only [Tryz.ntmps197, List.size_toArray, List.length_cons, List.length_nil, Nat.reduceAdd, Nat.reduceSub, Array.replicate_succ, Array.replicate_zero, List.push_toArray, List.append_toArray, List.nil_append, List.cons_append]
  gi_wp2
  refine runs_range 6 (by decide) t k ks rfl
    (fun pre W => Tx W t k ks ∧ W.heap[w.heap.size]? = some (.cells #[.int .i64 (sumR pre)] 3 (0, 0)) ∧ Below w.heap.size w W)
    (fun _ _ _ => False)
    (fun pre W h => h.1) (fun pre W l o o' ⟨h1, h2, h3⟩ hB hl ho => ⟨h1.put_obj o' hl ho, putObj_keep o' hl ho h2, h3.trans (putObj_below o' (by simp at hB; omega))⟩)
    (fun _ _ _ _ _ _ h _ _ _ => h) (fun W o ⟨h1, h2, h3⟩ => ⟨h1.below (below_alloc0 _ _), keep_alloc _ h2, h3.alloc h3.size _⟩)
    ⟨HT.out.below (below_alloc0 _ _), heap_alloc_new w _, below_alloc0 _ _⟩
    (fun x => { tmps := #[.pointer (some ⟨t, 0, none⟩), undef, .int .i64 0, .pointer (some ⟨w.heap.size, 0, none⟩), undef, .int .i64 x.2, .pointer (some ⟨t, 0, none⟩), .func (.func 187) #[.pointer (some ⟨t, 0, none⟩)] #[], .int .i64 x.1, .int .i64 x.2, undef, undef, undef, undef], defers := [] }) ?assign ?body ?done ?stop
  case assign =>
    intro l x W K hK
    unfold encR
    gi_wp2
    exact hK
  case body =>
    rintro l pre x rest W ⟨h1, h2, h3⟩ hx
    have hs := sumR_pre hx
    have hks := h1.le
    have c1 : W.cell? ⟨w.heap.size, 0, none⟩ = some (.int .i64 (sumR pre)) := cell_of_row _ _ _ _ _ _ h2
    have f1 := frozen_of_row W w.heap.size 0 _ _ h2
    have H1 := Lib.hid h1
    have H2 := Lib.hid h2
    have H3 := Lib.hid h3
    have HS := Lib.hid (sumR_snoc pre x)
    have HW : Hid (Below w.heap.size w (W.setCell ⟨w.heap.size, 0, none⟩ (.int .i64 ((sumR (pre ++ [x]) : Nat) : Int)))) := Lib.hid (h3.setCell (p := ⟨w.heap.size, 0, none⟩) (Nat.le_refl _) _)
    have htne : t ≠ w.heap.size := by have := heap_lt HT.out.hd; omega
    have hkne : k ≠ w.heap.size := by have := heap_lt HT.out.row; omega
    clear h1 h2 h3 hx
    gi_wp2
    refine ⟨KeepsOthers.setCell _ _ _, trivial, ?_, ?_, ?_⟩
    · exact H1.out.keep (heap_setCell_other _ _ _ _ htne) (heap_setCell_other _ _ _ _ hkne)
    · rw [heap_setCell_same W w.heap.size 0 _ _ _ H2.out, HS.out]
      rfl
    · exact H3.out.setCell (p := ⟨w.heap.size, 0, none⟩) (Nat.le_refl _) _
  case done =>
    rintro D W hD ⟨h1, h2, h3⟩ hK
    have c1 : W.cell? ⟨w.heap.size, 0, none⟩ = some (.int .i64 (sumR (runsL ks))) := cell_of_row _ _ _ _ _ _ h2
    gi_wp2
    refine ⟨by simp, .inl ⟨_, _, rfl, run_takeDeferred hK, ?_⟩⟩
    exact ⟨_, results_tmp rfl _ _ _, rfl, h3.trans (putObj_below _ (by simp at hD; omega))⟩
  case stop =>
    rintro D c pre W _ h _
    exact h.elim
theorem pcount_any {w : World} {t k : Nat} {ks : List Int} (h : Tx w t k ks) :
    Calls Tryz.prog 197 #[.pointer (some ⟨t, 0, none⟩)] w fun e w' => e = .returned (.int .i64 (countL ks)) ∧ Below w.heap.size w w' := callsIn_wide.1 (pcount_in h)
end Go.Proofs.YtjoejjhgneccgaaGreatDoor

/- Package page: pages that follow one another. -/
namespace Go.Proofs.YtjoejjhgneccgaaGreatDoor
open Go.RowKit Go.Shelf
attribute [local go_sem] Oper.semAt_some

theorem runs_bound : ∀ (xs : List Int) (p n : Nat), n ≤ p → ∀ x ∈ runsFrom xs p n, x.1 + x.2 ≤ p + xs.length
  | [], p, n, h, x, hx => by
    unfold runsFrom at hx
    split at hx
    · simp at hx; subst hx; simp; omega
    · simp at hx
  | y :: xs, p, n, h, x, hx => by
    unfold runsFrom at hx
    have h1 := runs_bound xs (p + 1) (n + 1) (by omega) x
    have h2 := runs_bound xs (p + 1) 0 (by omega) x
    split at hx
    · have := h1 hx; simp; omega
    · split at hx
      · rcases List.mem_cons.1 hx with rfl | hx
        · simp; omega
        · have := h2 hx; simp; omega
      · have := h2 hx; simp; omega
def spanS (ks : List Int) (p m : Nat) : List Int := (fillL ks p m 6).set p 5
def spanK (ks : List Int) (n : Int) : List Int := match spanL ks n with | some p => spanS ks p n.toNat | none => ks
theorem spanL_found {ks : List Int} {m : Nat} {pre rest : List (Nat × Nat)} {x : Nat × Nat} (hm : 1 ≤ m) (h : runsL ks = pre ++ x :: rest) (hp : ∀ r ∈ pre, (r.2 : Int) < m) (hx : m ≤ x.2) : spanL ks m = some x.1 ∧ x.1 + m ≤ ks.length := by
  constructor
  · unfold spanL
    rw [if_neg (by omega), h, List.find?_append]
    have : (pre.find? fun r => decide ((m : Int) ≤ (r.2 : Int))) = none := by
      rw [List.find?_eq_none]
      intro r hr
      have := hp r hr
      simp; omega
    rw [this]
    simp [hx]
  · have := runs_bound ks 0 0 (Nat.le_refl _) x (by show x ∈ runsL ks; rw [h]; simp)
    omega
theorem spanL_none {ks : List Int} {m : Nat} (hp : ∀ r ∈ runsL ks, (r.2 : Int) < m) : spanL ks m = none := by
  unfold spanL
  split
  · rfl
  · have : ((runsL ks).find? fun r => decide ((m : Int) ≤ (r.2 : Int))) = none := by
      rw [List.find?_eq_none]
      intro r hr
      have := hp r hr
      simp; omega
    rw [this]; rfl
theorem spanL_lt {ks : List Int} {n : Int} {p : Nat} (h : spanL ks n = some p) : 1 ≤ n ∧ p + n.toNat ≤ ks.length := by
  unfold spanL at h
  split at h
  · cases h
  · rename_i hn
    refine ⟨by omega, ?_⟩
    cases h1 : (runsL ks).find? fun r => decide (n ≤ (r.2 : Int)) with
    | none => rw [h1] at h; cases h
    | some x =>
      rw [h1] at h
      simp at h
      have h2 := List.find?_some h1
      have h3 := runs_bound ks 0 0 (Nat.le_refl _) x (List.mem_of_find?_eq_some h1)
      simp at h2
      omega
theorem Frm.putObj {fp : List Nat} {w W : World} {l : Nat} (h : Frm fp w W) (o' : Obj) (hl : w.heap.size ≤ l) : Frm fp w (W.putObj l o') :=
  ⟨h.os, h.tape, h.output, by simp [World.putObj]; exact h.size, fun k hk hn => (World.putObj_heap_other (by omega)).trans (h.block k hk hn)⟩
theorem Frm.setNew {fp : List Nat} {w W : World} {p : Addr} (h : Frm fp w W) (v : Value) (hl : w.heap.size ≤ p.block) : Frm fp w (W.setCell p v) :=
  ⟨h.os, h.tape, h.output, by simp [World.setCell]; exact h.size, fun k hk hn => (heap_setCell_other _ _ _ _ (by omega)).trans (h.block k hk hn)⟩
def SpanE (o : Option Nat) (e : Ending) : Prop := e = .returned (.tuple #[.int .i64 (match o with | some m => (m : Int) | none => 0), .bool o.isSome])
set_option maxRecDepth 100000 in
set_option maxHeartbeats 2000000 in
theorem pspan_no {w : World} (t : Nat) {ks : List Int} (n : Int) (hn : n < 1) :
    Calls Tryz.prog 145 #[.pointer (some ⟨t, 0, none⟩), .int .i64 n] w fun e w' => SpanE (spanL ks n) e ∧ Below w.heap.size w w' := by
  have HS := Lib.hid (show spanL ks n = none by unfold spanL; rw [if_pos hn])
  have B1 := Lib.hid ((((Below.refl w.heap.size w).alloc (Nat.le_refl _) (.cells #[.pointer (some ⟨t, 0, none⟩)] 151)).alloc (by simp) (.cells #[.int .i64 n] 3)).alloc (by simp; omega) (.cells #[.int .i64 0] 3) |>.alloc (by simp; omega) (.cells #[.bool false] 4))
  go_enter Tryz.func145, Tryz.ntmps145
  go_wp2_with fail
  refine bodyPost_ret (v := .tuple #[.int .i64 0, .bool false]) (by simp [results, Tryz.results145, go_sem]) rfl ⟨by rw [HS.out]; rfl, ?_⟩
  exact B1.out
set_option maxRecDepth 100000 in
set_option maxHeartbeats 8000000 in
theorem pspan_in {w : World} {t k : Nat} {ks : List Int} (h : Tx w t k ks) (m : Nat) (hm : 1 ≤ m) (hm6 : (m : Int) ≤ 9223372036854775807) :
    CallsIn Fence.wide 6 Tryz.prog 145 #[.pointer (some ⟨t, 0, none⟩), .int .i64 m] w fun e w' => SpanE (spanL ks m) e ∧ Tx w' t k (spanK ks m) ∧ Frm [k] w w' := by
  have HT := Lib.hid h
  have hle := h.le
  have htw := heap_lt h.hd
  have hkw := heap_lt h.row
  have htk := h.ne
  have HM := Lib.hid hm
  clear h
  refine callsIn_of_wp_marks Tryz.func145 rfl trivial ?_ rfl
  simp only [Tryz.ntmps145, List.size_toArray, List.length_cons, List.length_nil, Nat.reduceAdd, Nat.reduceSub, Array.replicate_succ, Array.replicate_zero, List.push_toArray, List.append_toArray, List.nil_append, List.cons_append]
  have hm0 : ¬ ((m : Int) < 1) := by omega
  gi_wp2
  have B1 : Below w.heap.size w ((((w.alloc (.cells #[.pointer (some ⟨t, 0, none⟩)] 151)).alloc (.cells #[.int .i64 m] 3)).alloc (.cells #[.int .i64 0] 3)).alloc (.cells #[.bool false] 4)) := (((((Below.refl w.heap.size w).alloc (Nat.le_refl _) _).alloc (by simp) _).alloc (by simp; omega) _).alloc (by simp; omega) _)
  refine runs_range 6 (by decide) t k ks rfl
    (fun pre W => Tx W t k ks ∧ W.heap[w.heap.size]? = some (.cells #[.pointer (some ⟨t, 0, none⟩)] 151 (0, 0)) ∧ W.heap[w.heap.size + 1]? = some (.cells #[.int .i64 m] 3 (0, 0)) ∧ W.heap[w.heap.size + 1 + 1]? = some (.cells #[.int .i64 0] 3 (0, 0)) ∧ W.heap[w.heap.size + 1 + 1 + 1]? = some (.cells #[.bool false] 4 (0, 0)) ∧ (∀ r ∈ pre, (r.2 : Int) < m) ∧ Below w.heap.size w W)
    (fun c _ W => c = .ret ∧ ∃ p : Nat, spanL ks m = some p ∧ Tx W t k (spanK ks m) ∧ W.heap[w.heap.size + 1 + 1]? = some (.cells #[.int .i64 p] 3 (0, 0)) ∧ W.heap[w.heap.size + 1 + 1 + 1]? = some (.cells #[.bool true] 4 (0, 0)) ∧ Frm [k] w W)
    (fun pre W h => h.1)
    (fun pre W l o o' ⟨h1, h2, h3, h4, h5, h6, h7⟩ hB hl ho => ⟨h1.put_obj o' hl ho, putObj_keep o' hl ho h2, putObj_keep o' hl ho h3, putObj_keep o' hl ho h4, putObj_keep o' hl ho h5, h6, h7.trans (putObj_below o' (by simp at hB; omega))⟩)
    (fun c pre W l o o' ⟨h1, p, h2, h3, h4, h5, h6⟩ hB hl ho => ⟨h1, p, h2, h3.put_obj o' hl ho, putObj_keep o' hl ho h4, putObj_keep o' hl ho h5, h6.putObj o' (by simp at hB; omega)⟩)
    (fun W o ⟨h1, h2, h3, h4, h5, h6, h7⟩ => ⟨h1.below (below_alloc0 _ _), keep_alloc _ h2, keep_alloc _ h3, keep_alloc _ h4, keep_alloc _ h5, h6, h7.alloc h7.size _⟩)
    ⟨HT.out.below B1, keep_alloc _ (keep_alloc _ (keep_alloc _ (heap_alloc_new w _))), keep_alloc _ (keep_alloc _ (alloc_at _ _ (by simp))), keep_alloc _ (alloc_at _ _ (by simp)), alloc_at _ _ (by simp), by simp, B1⟩
    (fun x => { tmps := #[.pointer (some ⟨t, 0, none⟩), .int .i64 m, .pointer (some ⟨w.heap.size, 0, none⟩), .pointer (some ⟨w.heap.size + 1, 0, none⟩), .pointer (some ⟨w.heap.size + 1 + 1, 0, none⟩), .pointer (some ⟨w.heap.size + 1 + 1 + 1, 0, none⟩), .int .i64 x.1, .int .i64 x.2, undef, .int .i64 m, .bool false, .pointer (some ⟨t, 0, none⟩), .func (.func 187) #[.pointer (some ⟨t, 0, none⟩)] #[], .int .i64 x.1, .int .i64 x.2, undef, undef, undef, undef, undef, undef, undef, undef, undef, undef, undef, undef, undef, undef, undef, undef, undef, undef, undef, undef, undef, undef, undef], defers := [] }) ?assign ?body ?done ?stop
  case assign =>
    intro l x W K hK
    unfold encR
    gi_wp2
    exact hK
  case body =>
    rintro l pre x rest W ⟨h1, h2, h3, h4, h5, h6, h7⟩ hx
    have c1 : W.cell? ⟨w.heap.size + 1, 0, none⟩ = some (.int .i64 m) := cell_of_row _ _ _ _ _ _ h3
    have c0 : W.cell? ⟨w.heap.size, 0, none⟩ = some (.pointer (some ⟨t, 0, none⟩)) := cell_of_row _ _ _ _ _ _ h2
    have H1 := Lib.hid h1
    have H2 := Lib.hid h2
    have H3 := Lib.hid h3
    have H4 := Lib.hid h4
    have H5 := Lib.hid h5
    have H6 := Lib.hid h6
    have H7 := Lib.hid h7
    have HX := Lib.hid hx
    have hxl : x.1 + x.2 ≤ 64 := by
      have := runs_bound ks 0 0 (Nat.le_refl _) x (by show x ∈ runsL ks; rw [hx]; simp)
      omega
    obtain ⟨p, q⟩ := x
    dsimp only at hxl ⊢
    clear h1 h2 h3 h4 h5 h6 h7 hx
    by_cases hq : q < m
    · have hq1 : (q : Int) < (m : Int) := by omega
      clear hq
      gi_wp2
      refine ⟨KeepsOthers.refl _, trivial, H1.out, H2.out, H3.out, H4.out, H5.out, fun r hr => ?_, H7.out⟩
      rcases List.mem_append.1 hr with hr | hr
      · exact H6.out r hr
      · simp at hr; subst hr; exact hq1
    · have hq1 : ¬ ((q : Int) < (m : Int)) := by omega
      obtain ⟨hf, hpm⟩ := spanL_found HM.out HX.out H6.out (by omega : m ≤ (p, q).2)
      dsimp only at hf hpm
      have HF := Lib.hid hf
      have hpm64 : p + m ≤ 64 := by omega
      have HP := Lib.hid hpm
      have K0 := Lib.hid (KeepsOthers.refl W)
      have F0 := Lib.hid (Frm.refl [k] W)
      clear hq hf hpm
      gi_wp2
      gi_loopw [19] (fun a wr => ∃ i : Nat, i ≤ m ∧ a = .int .i64 i ∧ Hid (Tx wr t k (fillL ks p i 6)) ∧ Hid (Frm [k] W wr) ∧ Hid (KeepsOthers W wr)) (fun a _ => m - (intOf a).toNat)
      case atStart => exact ⟨0, Nat.zero_le _, rfl, H1, F0, K0⟩
      case round =>
        clear F0 K0 c0 c1
        obtain ⟨i, hi, rfl, T2, F0, K0⟩ := hrel
        have hlen : (fillL ks p i 6).length = ks.length := fillL_len _ _ _ _
        obtain ⟨-, c2⟩ := T2.out.cells
        rw [hlen] at c2
        have HL := Lib.hid hlen
        have w2 : wr.heap[w.heap.size]? = some (.cells #[.pointer (some ⟨t, 0, none⟩)] 151 (0, 0)) := (F0.out.block _ (heap_lt H2.out) (by simp; omega)).trans H2.out
        have w4 : wr.heap[w.heap.size + 1 + 1]? = some (.cells #[.int .i64 0] 3 (0, 0)) := (F0.out.block _ (heap_lt H4.out) (by simp; omega)).trans H4.out
        have w5 : wr.heap[w.heap.size + 1 + 1 + 1]? = some (.cells #[.bool false] 4 (0, 0)) := (F0.out.block _ (heap_lt H5.out) (by simp; omega)).trans H5.out
        have c0 : wr.cell? ⟨w.heap.size, 0, none⟩ = some (.pointer (some ⟨t, 0, none⟩)) := cell_of_row _ _ _ _ _ _ w2
        have W4 := Lib.hid w4
        have W5 := Lib.hid w5
        obtain ⟨L, hL⟩ : ∃ L, L = ks.length := ⟨_, rfl⟩
        rw [← hL] at c2
        have hLle : L ≤ 64 := by omega
        have hpL : p + m ≤ L := by have := HP.out; omega
        have HLL := Lib.hid hL
        by_cases hlt : i < m
        · have c3 := T2.out.kind (i := p + i) (by rw [hlen, ← hL]; omega)
          obtain ⟨u, hu⟩ : ∃ u, u = (fillL ks p i 6).getD (p + i) 0 := ⟨_, rfl⟩
          rw [← hu] at c3
          have fz := frozen_of_row wr k (p + i) _ _ T2.out.row
          have q1 : (0 : Int) ≤ (p : Int) + (i : Int) := by omega
          have q2 : ((p : Int) + (i : Int)) < (L : Int) := by omega
          have q3 : ((p : Int) + (i : Int)).toNat = p + i := by omega
          clear hu hL hlen w2 w4 w5
          gi_wp2
          go_roundw
          case rel => exact ⟨i + 1, by omega, by go_num, Lib.hid (T2.out.put _ _), Lib.hid (F0.out.trans (Frm.setCell wr (by simp) _) (fun x hx => .inl hx)), Lib.hid (K0.out.trans (KeepsOthers.setCell _ _ _))⟩
          case measure => simp [intOf]; omega
        · obtain rfl : i = m := by omega
          have c3 := T2.out.kind (i := p) (by rw [hlen, ← hL]; omega)
          obtain ⟨u, hu⟩ : ∃ u, u = (fillL ks p i 6).getD p 0 := ⟨_, rfl⟩
          rw [← hu] at c3
          have fz := frozen_of_row wr k p _ _ T2.out.row
          have f4 := frozen_of_row wr _ 0 _ _ w4
          have f5 := frozen_of_row wr _ 0 _ _ w5
          have c4 : wr.cell? ⟨w.heap.size + 1 + 1, 0, none⟩ = some (.int .i64 0) := cell_of_row _ _ _ _ _ _ w4
          have c5 : wr.cell? ⟨w.heap.size + 1 + 1 + 1, 0, none⟩ = some (.bool false) := cell_of_row _ _ _ _ _ _ w5
          have q2 : ((p : Int)) < (L : Int) := by omega
          clear hu hL hlen w2 w4 w5 hi hlt
          gi_wp2
          have T3 := T2.out.put p 5
          have hsk : spanK ks i = spanS ks p i := by unfold spanK; rw [HF.out]; simp
          refine ⟨((K0.out.trans (KeepsOthers.setCell _ _ _)).trans (KeepsOthers.setCell _ _ _)).trans (KeepsOthers.setCell _ _ _), rfl, p, HF.out, ?_, ?_, ?_, ?_⟩
          · rw [hsk]
            exact T3.keep ((heap_setCell_other _ _ _ _ (by simp only; omega)).trans (heap_setCell_other _ _ _ _ (by simp only; omega))) ((heap_setCell_other _ _ _ _ (by simp only; omega)).trans (heap_setCell_other _ _ _ _ (by simp only; omega)))
          · refine (heap_setCell_other _ _ _ _ (by simp only; omega)).trans ?_
            exact heap_setCell_same _ _ 0 _ _ (.int .i64 p) ((heap_setCell_other _ _ _ _ (by simp only; omega)).trans W4.out)
          · exact heap_setCell_same _ _ 0 _ _ (.bool true) ((heap_setCell_other _ _ _ _ (by simp only; omega)).trans ((heap_setCell_other _ _ _ _ (by simp only; omega)).trans W5.out))
          · have F1 : Frm [k] w wr := (Frm.of_below [k] H7.out).trans F0.out (fun x hx => .inl hx)
            exact ((F1.trans (Frm.setCell wr (by simp) _) (fun x hx => .inl hx)).setNew _ (by simp only; omega)).setNew _ (by simp only; omega)
  case done =>
    rintro D W hD ⟨h1, h2, h3, h4, h5, h6, h7⟩ hK
    have c4 : W.cell? ⟨w.heap.size + 1 + 1, 0, none⟩ = some (.int .i64 0) := cell_of_row _ _ _ _ _ _ h4
    have c5 : W.cell? ⟨w.heap.size + 1 + 1 + 1, 0, none⟩ = some (.bool false) := cell_of_row _ _ _ _ _ _ h5
    have f4 := frozen_of_row W _ 0 _ _ h4
    have f5 := frozen_of_row W _ 0 _ _ h5
    have HS := Lib.hid (spanL_none h6)
    clear h6
    gi_wp2
    have hK' := ((KeepsOthers.setCell W ⟨w.heap.size + 1 + 1, 0, none⟩ (.int .i64 0)).trans (KeepsOthers.setCell _ ⟨w.heap.size + 1 + 1 + 1, 0, none⟩ (.bool false))).same D _ hK rfl
    have g4 : ((W.setCell ⟨w.heap.size + 1 + 1, 0, none⟩ (.int .i64 0)).setCell ⟨w.heap.size + 1 + 1 + 1, 0, none⟩ (.bool false)).heap[w.heap.size + 1 + 1]? = some (.cells #[.int .i64 0] 3 (0, 0)) := (heap_setCell_other _ _ _ _ (by simp only; omega)).trans (heap_setCell_same _ _ 0 _ _ (.int .i64 0) h4)
    have g5 : ((W.setCell ⟨w.heap.size + 1 + 1, 0, none⟩ (.int .i64 0)).setCell ⟨w.heap.size + 1 + 1 + 1, 0, none⟩ (.bool false)).heap[w.heap.size + 1 + 1 + 1]? = some (.cells #[.bool false] 4 (0, 0)) := heap_setCell_same _ _ 0 _ _ (.bool false) ((heap_setCell_other _ _ _ _ (by simp only; omega)).trans h5)
    refine ⟨by simp, .inl ⟨_, _, rfl, run_takeDeferred hK', ?_⟩⟩
    have e4 := cell_of_row _ _ 0 _ _ _ (putObj_keep (.deferred none) hK' rfl g4)
    have e5 := cell_of_row _ _ 0 _ _ _ (putObj_keep (.deferred none) hK' rfl g5)
    refine ⟨.tuple #[.int .i64 0, .bool false], ?_, by rw [HS.out]; rfl, ?_, ?_⟩
    · simp [results, Tryz.f145, go_sem, e4, e5]
    · have hsk : spanK ks m = ks := by unfold spanK; rw [HS.out]
      rw [hsk]
      refine Tx.put_obj _ (h1.keep ?_ ?_) hK' rfl
      · exact (heap_setCell_other _ _ _ _ (by simp only; omega)).trans (heap_setCell_other _ _ _ _ (by simp only; omega))
      · exact (heap_setCell_other _ _ _ _ (by simp only; omega)).trans (heap_setCell_other _ _ _ _ (by simp only; omega))
    · exact (((Frm.of_below [k] h7).setNew _ (by simp only; omega)).setNew _ (by simp only; omega)).putObj _ (by simp at hD; omega)
  case stop =>
    rintro D c pre W hD ⟨rfl, p, hf, h3, h4, h5, h6⟩ hK
    have HF := Lib.hid hf
    clear hf
    gi_wp2
    refine ⟨by simp, .inl ⟨_, _, rfl, run_takeDeferred hK, ?_⟩⟩
    have e4 := cell_of_row _ _ 0 _ _ _ (putObj_keep (.deferred none) hK rfl h4)
    have e5 := cell_of_row _ _ 0 _ _ _ (putObj_keep (.deferred none) hK rfl h5)
    refine ⟨.tuple #[.int .i64 p, .bool true], ?_, by rw [HF.out]; rfl, h3.put_obj _ hK rfl, h6.putObj _ (by simp at hD; omega)⟩
    simp [results, Tryz.f145, go_sem, e4, e5]
theorem pspan_any {w : World} {t k : Nat} {ks : List Int} (h : Tx w t k ks) (n : Int) (hn : n ≤ 9223372036854775807) :
    Calls Tryz.prog 145 #[.pointer (some ⟨t, 0, none⟩), .int .i64 n] w fun e w' => SpanE (spanL ks n) e ∧ Tx w' t k (spanK ks n) ∧ Frm [k] w w' := by
  by_cases h1 : n < 1
  · refine (pspan_no t n h1).mono fun e w' ⟨he, hb⟩ => ⟨he, ?_, Frm.of_below [k] hb⟩
    have hsk : spanK ks n = ks := by unfold spanK spanL; rw [if_pos h1]
    rw [hsk]
    exact h.below hb
  · obtain ⟨m, rfl⟩ := Int.eq_ofNat_of_zero_le (show 0 ≤ n by omega)
    exact callsIn_wide.1 (pspan_in h m (by omega) hn)
end Go.Proofs.YtjoejjhgneccgaaGreatDoor
