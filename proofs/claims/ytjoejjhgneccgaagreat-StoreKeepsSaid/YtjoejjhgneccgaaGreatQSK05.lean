/- Package page: how many are free; pages that follow one another. -/
import Derived.Test.YtjoejjhgneccgaaGreatQSK02
import Derived.Test.YtjoejjhgneccgaaGreatQSK03
import Derived.Test.YtjoejjhgneccgaaGreatQSK04
namespace Go.Proofs.YtjoejjhgneccgaaGreat
open Go.RowKit Go.Shelf
attribute [local go_sem] Oper.semAt_some

theorem putObj_keep {W : World} {l k : Nat} {o : Obj} (o' : Obj) {cs : Array Value} {T : TypeId} {fr : Nat × Nat} (hl : W.heap[l]? = some o) (ho : o.isCells = false) (hk : W.heap[k]? = some (.cells cs T fr)) : (W.putObj l o').heap[k]? = some (.cells cs T fr) := by
  refine (World.putObj_heap_other ?_).trans hk
  rintro rfl
  rw [hk] at hl
  cases hl
  simp [Obj.isCells] at ho
theorem putObj_below {W : World} {l B : Nat} (o' : Obj) (h : B ≤ l) : Below B W (W.putObj l o') :=
  ⟨rfl, rfl, rfl, by simp [World.putObj], fun k hk => World.putObj_heap_other (by omega)⟩
theorem Tx.put_obj {W : World} {t k : Nat} {ks : List Int} {l : Nat} {o : Obj} (o' : Obj) (h : Tx W t k ks) (hl : W.heap[l]? = some o) (ho : o.isCells = false) : Tx (W.putObj l o') t k ks :=
  ⟨putObj_keep o' hl ho h.hd, putObj_keep o' hl ho h.row, h.le⟩
def sumR (l : List (Nat × Nat)) : Nat := (l.map (·.2)).sum
theorem runs_sum : ∀ (xs : List Int) (p n : Nat), sumR (runsFrom xs p n) ≤ xs.length + n
  | [], p, n => by
    unfold runsFrom sumR
    split <;> simp
  | x :: xs, p, n => by
    unfold runsFrom
    have h1 := runs_sum xs (p + 1) (n + 1)
    have h2 := runs_sum xs (p + 1) 0
    unfold sumR at h1 h2 ⊢
    split
    · simp; omega
    · split
      · simp; omega
      · simp; omega
theorem sumR_snoc (l : List (Nat × Nat)) (x : Nat × Nat) : sumR (l ++ [x]) = sumR l + x.2 := by simp [sumR]
theorem sumR_pre {ks : List Int} {pre rest : List (Nat × Nat)} {x : Nat × Nat} (h : runsL ks = pre ++ x :: rest) : sumR pre + x.2 ≤ ks.length := by
  have := runs_sum ks 0 0
  unfold runsL at h
  rw [h] at this
  simp [sumR] at this ⊢
  omega
set_option maxRecDepth 100000 in
set_option maxHeartbeats 4000000 in
theorem pcount_in {w : World} {t k : Nat} {ks : List Int} (h : Tx w t k ks) :
    CallsIn Fence.wide 6 Tryz.prog 68 #[.pointer (some ⟨t, 0, none⟩)] w fun e w' => e = .returned (.int .i64 (countL ks)) ∧ Below w.heap.size w w' := by
  have HT := Lib.hid h
  have hle := h.le
  clear h
  refine callsIn_of_wp_marks Tryz.func68 rfl trivial ?_ rfl
  simp only [Tryz.ntmps68, List.size_toArray, List.length_cons, List.length_nil, Nat.reduceAdd, Nat.reduceSub, Array.replicate_succ, Array.replicate_zero, List.push_toArray, List.append_toArray, List.nil_append, List.cons_append]
  gi_wp2
  refine runs_range 6 (by decide) t k ks rfl
    (fun pre W => Tx W t k ks ∧ W.heap[w.heap.size]? = some (.cells #[.int .i64 (sumR pre)] 3 (0, 0)) ∧ Below w.heap.size w W)
    (fun _ _ _ => False)
    (fun pre W h => h.1) (fun pre W l o o' ⟨h1, h2, h3⟩ hB hl ho => ⟨h1.put_obj o' hl ho, putObj_keep o' hl ho h2, h3.trans (putObj_below o' (by simp at hB; omega))⟩)
    (fun _ _ _ _ _ _ h _ _ _ => h) (fun W o ⟨h1, h2, h3⟩ => ⟨h1.below (below_alloc0 _ _), keep_alloc _ h2, h3.alloc h3.size _⟩)
    ⟨HT.out.below (below_alloc0 _ _), heap_alloc_new w _, below_alloc0 _ _⟩
    (fun x => { tmps := #[.pointer (some ⟨t, 0, none⟩), undef, .int .i64 0, .pointer (some ⟨w.heap.size, 0, none⟩), undef, .int .i64 x.2, .pointer (some ⟨t, 0, none⟩), .func (.func 77) #[.pointer (some ⟨t, 0, none⟩)] #[], .int .i64 x.1, .int .i64 x.2, undef, undef, undef, undef], defers := [] }) ?assign ?body ?done ?stop
  case assign =>
    intro l x W K hK
    unfold encR
    gi_wp2
    exact hK
  case body =>
    rintro l pre x rest W ⟨h1, h2, h3⟩ hx
    have hs := sumR_pre hx
    have hks := h1.le
    have c1 : W.cell? ⟨w.heap.size, 0, none⟩ = some (.int .i64 (sumR pre)) := cell_of_row _ _ _ _ _ _ h2
    have f1 := frozen_of_row W w.heap.size 0 _ _ h2
    have H1 := Lib.hid h1
    have H2 := Lib.hid h2
    have H3 := Lib.hid h3
    have HS := Lib.hid (sumR_snoc pre x)
    have HW : Hid (Below w.heap.size w (W.setCell ⟨w.heap.size, 0, none⟩ (.int .i64 ((sumR (pre ++ [x]) : Nat) : Int)))) := Lib.hid (h3.setCell (p := ⟨w.heap.size, 0, none⟩) (Nat.le_refl _) _)
    have htne : t ≠ w.heap.size := by have := heap_lt HT.out.hd; omega
    have hkne : k ≠ w.heap.size := by have := heap_lt HT.out.row; omega
    clear h1 h2 h3 hx
    gi_wp2
    refine ⟨KeepsOthers.setCell _ _ _, trivial, ?_, ?_, ?_⟩
    · exact H1.out.keep (heap_setCell_other _ _ _ _ htne) (heap_setCell_other _ _ _ _ hkne)
    · rw [heap_setCell_same W w.heap.size 0 _ _ _ H2.out, HS.out]
      rfl
    · exact H3.out.setCell (p := ⟨w.heap.size, 0, none⟩) (Nat.le_refl _) _
  case done =>
    rintro D W hD ⟨h1, h2, h3⟩ hK
    have c1 : W.cell? ⟨w.heap.size, 0, none⟩ = some (.int .i64 (sumR (runsL ks))) := cell_of_row _ _ _ _ _ _ h2
    gi_wp2
    refine ⟨by simp, .inl ⟨_, _, rfl, run_takeDeferred hK, ?_⟩⟩
    exact ⟨_, results_tmp rfl _ _ _, rfl, h3.trans (putObj_below _ (by simp at hD; omega))⟩
  case stop =>
    rintro D c pre W _ h _
    exact h.elim
theorem pcount_any {w : World} {t k : Nat} {ks : List Int} (h : Tx w t k ks) :
    Calls Tryz.prog 68 #[.pointer (some ⟨t, 0, none⟩)] w fun e w' => e = .returned (.int .i64 (countL ks)) ∧ Below w.heap.size w w' := callsIn_wide.1 (pcount_in h)
end Go.Proofs.YtjoejjhgneccgaaGreat

/- Package page: pages that follow one another. -/
namespace Go.Proofs.YtjoejjhgneccgaaGreat
open Go.RowKit Go.Shelf
attribute [local go_sem] Oper.semAt_some

theorem runs_bound : ∀ (xs : List Int) (p n : Nat), n ≤ p → ∀ x ∈ runsFrom xs p n, x.1 + x.2 ≤ p + xs.length
  | [], p, n, h, x, hx => by
    unfold runsFrom at hx
    split at hx
    · simp at hx; subst hx; simp; omega
    · simp at hx
  | y :: xs, p, n, h, x, hx => by
    unfold runsFrom at hx
    have h1 := runs_bound xs (p + 1) (n + 1) (by omega) x
    have h2 := runs_bound xs (p + 1) 0 (by omega) x
    split at hx
    · have := h1 hx; simp; omega
    · split at hx
      · rcases List.mem_cons.1 hx with rfl | hx
        · simp; omega
        · have := h2 hx; simp; omega
      · have := h2 hx; simp; omega
def spanS (ks : List Int) (p m : Nat) : List Int := (fillL ks p m 6).set p 5
def spanK (ks : List Int) (n : Int) : List Int := match spanL ks n with | some p => spanS ks p n.toNat | none => ks
theorem spanL_found {ks : List Int} {m : Nat} {pre rest : List (Nat × Nat)} {x : Nat × Nat} (hm : 1 ≤ m) (h : runsL ks = pre ++ x :: rest) (hp : ∀ r ∈ pre, (r.2 : Int) < m) (hx : m ≤ x.2) : spanL ks m = some x.1 ∧ x.1 + m ≤ ks.length := by
  constructor
  · unfold spanL
    rw [if_neg (by omega), h, List.find?_append]
    have : (pre.find? fun r => decide ((m : Int) ≤ (r.2 : Int))) = none := by
      rw [List.find?_eq_none]
      intro r hr
      have := hp r hr
      simp; omega
    rw [this]
    simp [hx]
  · have := runs_bound ks 0 0 (Nat.le_refl _) x (by show x ∈ runsL ks; rw [h]; simp)
    omega
theorem spanL_none {ks : List Int} {m : Nat} (hp : ∀ r ∈ runsL ks, (r.2 : Int) < m) : spanL ks m = none := by
  unfold spanL
  split
  · rfl
  · have : ((runsL ks).find? fun r => decide ((m : Int) ≤ (r.2 : Int))) = none := by
      rw [List.find?_eq_none]
      intro r hr
      have := hp r hr
      simp; omega
    rw [this]; rfl
theorem spanL_lt {ks : List Int} {n : Int} {p : Nat} (h : spanL ks n = some p) : 1 ≤ n ∧ p + n.toNat ≤ ks.length := by
  unfold spanL at h
  split at h
  · cases h
  · rename_i hn
    refine ⟨by omega, ?_⟩
    cases h1 : (runsL ks).find? fun r => decide (n ≤ (r.2 : Int)) with
    | none => rw [h1] at h; cases h
    | some x =>
      rw [h1] at h
      simp at h
      have h2 := List.find?_some h1
      have h3 := runs_bound ks 0 0 (Nat.le_refl _) x (List.mem_of_find?_eq_some h1)
      simp at h2
      omega
theorem Frm.putObj {fp : List Nat} {w W : World} {l : Nat} (h : Frm fp w W) (o' : Obj) (hl : w.heap.size ≤ l) : Frm fp w (W.putObj l o') :=
  ⟨h.os, h.tape, h.output, by simp [World.putObj]; exact h.size, fun k hk hn => (World.putObj_heap_other (by omega)).trans (h.block k hk hn)⟩
theorem Frm.setNew {fp : List Nat} {w W : World} {p : Addr} (h : Frm fp w W) (v : Value) (hl : w.heap.size ≤ p.block) : Frm fp w (W.setCell p v) :=
  ⟨h.os, h.tape, h.output, by simp [World.setCell]; exact h.size, fun k hk hn => (heap_setCell_other _ _ _ _ (by omega)).trans (h.block k hk hn)⟩
def SpanE (o : Option Nat) (e : Ending) : Prop := e = .returned (.tuple #[.int .i64 (match o with | some m => (m : Int) | none => 0), .bool o.isSome])
set_option maxRecDepth 100000 in
set_option maxHeartbeats 2000000 in
theorem pspan_no {w : World} (t : Nat) {ks : List Int} (n : Int) (hn : n < 1) :
    Calls Tryz.prog 50 #[.pointer (some ⟨t, 0, none⟩), .int .i64 n] w fun e w' => SpanE (spanL ks n) e ∧ Below w.heap.size w w' := by
  have HS := Lib.hid (show spanL ks n = none by unfold spanL; rw [if_pos hn])
  have B1 := Lib.hid ((((Below.refl w.heap.size w).alloc (Nat.le_refl _) (.cells #[.pointer (some ⟨t, 0, none⟩)] 64)).alloc (by simp) (.cells #[.int .i64 n] 3)).alloc (by simp; omega) (.cells #[.int .i64 0] 3) |>.alloc (by simp; omega) (.cells #[.bool false] 4))
  go_enter Tryz.func50, Tryz.ntmps50
  go_wp2_with fail
  refine bodyPost_ret (v := .tuple #[.int .i64 0, .bool false]) (by simp [results, Tryz.results50, go_sem]) rfl ⟨by rw [HS.out]; rfl, ?_⟩
  exact B1.out
set_option maxRecDepth 100000 in
set_option maxHeartbeats 8000000 in
theorem pspan_in {w : World} {t k : Nat} {ks : List Int} (h : Tx w t k ks) (m : Nat) (hm : 1 ≤ m) (hm6 : (m : Int) ≤ 9223372036854775807) :
    CallsIn Fence.wide 6 Tryz.prog 50 #[.pointer (some ⟨t, 0, none⟩), .int .i64 m] w fun e w' => SpanE (spanL ks m) e ∧ Tx w' t k (spanK ks m) ∧ Frm [k] w w' := by
  have HT := Lib.hid h
  have hle := h.le
  have htw := heap_lt h.hd
  have hkw := heap_lt h.row
  have htk := h.ne
  have HM := Lib.hid hm
  clear h
  refine callsIn_of_wp_marks Tryz.func50 rfl trivial ?_ rfl
  simp only [Tryz.ntmps50, List.size_toArray, List.length_cons, List.length_nil, Nat.reduceAdd, Nat.reduceSub, Array.replicate_succ, Array.replicate_zero, List.push_toArray, List.append_toArray, List.nil_append, List.cons_append]
  have hm0 : ¬ ((m : Int) < 1) := by omega
  gi_wp2
  have B1 : Below w.heap.size w ((((w.alloc (.cells #[.pointer (some ⟨t, 0, none⟩)] 64)).alloc (.cells #[.int .i64 m] 3)).alloc (.cells #[.int .i64 0] 3)).alloc (.cells #[.bool false] 4)) := (((((Below.refl w.heap.size w).alloc (Nat.le_refl _) _).alloc (by simp) _).alloc (by simp; omega) _).alloc (by simp; omega) _)
  refine runs_range 6 (by decide) t k ks rfl
    (fun pre W => Tx W t k ks ∧ W.heap[w.heap.size]? = some (.cells #[.pointer (some ⟨t, 0, none⟩)] 64 (0, 0)) ∧ W.heap[w.heap.size + 1]? = some (.cells #[.int .i64 m] 3 (0, 0)) ∧ W.heap[w.heap.size + 1 + 1]? = some (.cells #[.int .i64 0] 3 (0, 0)) ∧ W.heap[w.heap.size + 1 + 1 + 1]? = some (.cells #[.bool false] 4 (0, 0)) ∧ (∀ r ∈ pre, (r.2 : Int) < m) ∧ Below w.heap.size w W)
    (fun c _ W => c = .ret ∧ ∃ p : Nat, spanL ks m = some p ∧ Tx W t k (spanK ks m) ∧ W.heap[w.heap.size + 1 + 1]? = some (.cells #[.int .i64 p] 3 (0, 0)) ∧ W.heap[w.heap.size + 1 + 1 + 1]? = some (.cells #[.bool true] 4 (0, 0)) ∧ Frm [k] w W)
    (fun pre W h => h.1)
    (fun pre W l o o' ⟨h1, h2, h3, h4, h5, h6, h7⟩ hB hl ho => ⟨h1.put_obj o' hl ho, putObj_keep o' hl ho h2, putObj_keep o' hl ho h3, putObj_keep o' hl ho h4, putObj_keep o' hl ho h5, h6, h7.trans (putObj_below o' (by simp at hB; omega))⟩)
    (fun c pre W l o o' ⟨h1, p, h2, h3, h4, h5, h6⟩ hB hl ho => ⟨h1, p, h2, h3.put_obj o' hl ho, putObj_keep o' hl ho h4, putObj_keep o' hl ho h5, h6.putObj o' (by simp at hB; omega)⟩)
    (fun W o ⟨h1, h2, h3, h4, h5, h6, h7⟩ => ⟨h1.below (below_alloc0 _ _), keep_alloc _ h2, keep_alloc _ h3, keep_alloc _ h4, keep_alloc _ h5, h6, h7.alloc h7.size _⟩)
    ⟨HT.out.below B1, keep_alloc _ (keep_alloc _ (keep_alloc _ (heap_alloc_new w _))), keep_alloc _ (keep_alloc _ (alloc_at _ _ (by simp))), keep_alloc _ (alloc_at _ _ (by simp)), alloc_at _ _ (by simp), by simp, B1⟩
    (fun x => { tmps := #[.pointer (some ⟨t, 0, none⟩), .int .i64 m, .pointer (some ⟨w.heap.size, 0, none⟩), .pointer (some ⟨w.heap.size + 1, 0, none⟩), .pointer (some ⟨w.heap.size + 1 + 1, 0, none⟩), .pointer (some ⟨w.heap.size + 1 + 1 + 1, 0, none⟩), .int .i64 x.1, .int .i64 x.2, undef, .int .i64 m, .bool false, .pointer (some ⟨t, 0, none⟩), .func (.func 77) #[.pointer (some ⟨t, 0, none⟩)] #[], .int .i64 x.1, .int .i64 x.2, undef, undef, undef, undef, undef, undef, undef, undef, undef, undef, undef, undef, undef, undef, undef, undef, undef, undef, undef, undef, undef, undef, undef], defers := [] }) ?assign ?body ?done ?stop
  case assign =>
    intro l x W K hK
    unfold encR
    gi_wp2
    exact hK
  case body =>
    rintro l pre x rest W ⟨h1, h2, h3, h4, h5, h6, h7⟩ hx
    have c1 : W.cell? ⟨w.heap.size + 1, 0, none⟩ = some (.int .i64 m) := cell_of_row _ _ _ _ _ _ h3
    have c0 : W.cell? ⟨w.heap.size, 0, none⟩ = some (.pointer (some ⟨t, 0, none⟩)) := cell_of_row _ _ _ _ _ _ h2
    have H1 := Lib.hid h1
    have H2 := Lib.hid h2
    have H3 := Lib.hid h3
    have H4 := Lib.hid h4
    have H5 := Lib.hid h5
    have H6 := Lib.hid h6
    have H7 := Lib.hid h7
    have HX := Lib.hid hx
    have hxl : x.1 + x.2 ≤ 64 := by
      have := runs_bound ks 0 0 (Nat.le_refl _) x (by show x ∈ runsL ks; rw [hx]; simp)
      omega
    obtain ⟨p, q⟩ := x
    dsimp only at hxl ⊢
    clear h1 h2 h3 h4 h5 h6 h7 hx
    by_cases hq : q < m
    · have hq1 : (q : Int) < (m : Int) := by omega
      clear hq
      gi_wp2
      refine ⟨KeepsOthers.refl _, trivial, H1.out, H2.out, H3.out, H4.out, H5.out, fun r hr => ?_, H7.out⟩
      rcases List.mem_append.1 hr with hr | hr
      · exact H6.out r hr
      · simp at hr; subst hr; exact hq1
    · have hq1 : ¬ ((q : Int) < (m : Int)) := by omega
      obtain ⟨hf, hpm⟩ := spanL_found HM.out HX.out H6.out (by omega : m ≤ (p, q).2)
      dsimp only at hf hpm
      have HF := Lib.hid hf
      have hpm64 : p + m ≤ 64 := by omega
      have HP := Lib.hid hpm
      have K0 := Lib.hid (KeepsOthers.refl W)
      have F0 := Lib.hid (Frm.refl [k] W)
      clear hq hf hpm
      gi_wp2
      gi_loopw [19] (fun a wr => ∃ i : Nat, i ≤ m ∧ a = .int .i64 i ∧ Hid (Tx wr t k (fillL ks p i 6)) ∧ Hid (Frm [k] W wr) ∧ Hid (KeepsOthers W wr)) (fun a _ => m - (intOf a).toNat)
      case atStart => exact ⟨0, Nat.zero_le _, rfl, H1, F0, K0⟩
      case round =>
        clear F0 K0 c0 c1
        obtain ⟨i, hi, rfl, T2, F0, K0⟩ := hrel
        have hlen : (fillL ks p i 6).length = ks.length := fillL_len _ _ _ _
        obtain ⟨-, c2⟩ := T2.out.cells
        rw [hlen] at c2
        have HL := Lib.hid hlen
        have w2 : wr.heap[w.heap.size]? = some (.cells #[.pointer (some ⟨t, 0, none⟩)] 64 (0, 0)) := (F0.out.block _ (heap_lt H2.out) (by simp; omega)).trans H2.out
        have w4 : wr.heap[w.heap.size + 1 + 1]? = some (.cells #[.int .i64 0] 3 (0, 0)) := (F0.out.block _ (heap_lt H4.out) (by simp; omega)).trans H4.out
        have w5 : wr.heap[w.heap.size + 1 + 1 + 1]? = some (.cells #[.bool false] 4 (0, 0)) := (F0.out.block _ (heap_lt H5.out) (by simp; omega)).trans H5.out
        have c0 : wr.cell? ⟨w.heap.size, 0, none⟩ = some (.pointer (some ⟨t, 0, none⟩)) := cell_of_row _ _ _ _ _ _ w2
        have W4 := Lib.hid w4
        have W5 := Lib.hid w5
        obtain ⟨L, hL⟩ : ∃ L, L = ks.length := ⟨_, rfl⟩
        rw [← hL] at c2
        have hLle : L ≤ 64 := by omega
        have hpL : p + m ≤ L := by have := HP.out; omega
        have HLL := Lib.hid hL
        by_cases hlt : i < m
        · have c3 := T2.out.kind (i := p + i) (by rw [hlen, ← hL]; omega)
          obtain ⟨u, hu⟩ : ∃ u, u = (fillL ks p i 6).getD (p + i) 0 := ⟨_, rfl⟩
          rw [← hu] at c3
          have fz := frozen_of_row wr k (p + i) _ _ T2.out.row
          have q1 : (0 : Int) ≤ (p : Int) + (i : Int) := by omega
          have q2 : ((p : Int) + (i : Int)) < (L : Int) := by omega
          have q3 : ((p : Int) + (i : Int)).toNat = p + i := by omega
          clear hu hL hlen w2 w4 w5
          gi_wp2
          go_roundw
          case rel => exact ⟨i + 1, by omega, by go_num, Lib.hid (T2.out.put _ _), Lib.hid (F0.out.trans (Frm.setCell wr (by simp) _) (fun x hx => .inl hx)), Lib.hid (K0.out.trans (KeepsOthers.setCell _ _ _))⟩
          case measure => simp [intOf]; omega
        · obtain rfl : i = m := by omega
          have c3 := T2.out.kind (i := p) (by rw [hlen, ← hL]; omega)
          obtain ⟨u, hu⟩ : ∃ u, u = (fillL ks p i 6).getD p 0 := ⟨_, rfl⟩
          rw [← hu] at c3
          have fz := frozen_of_row wr k p _ _ T2.out.row
          have f4 := frozen_of_row wr _ 0 _ _ w4
          have f5 := frozen_of_row wr _ 0 _ _ w5
          have c4 : wr.cell? ⟨w.heap.size + 1 + 1, 0, none⟩ = some (.int .i64 0) := cell_of_row _ _ _ _ _ _ w4
          have c5 : wr.cell? ⟨w.heap.size + 1 + 1 + 1, 0, none⟩ = some (.bool false) := cell_of_row _ _ _ _ _ _ w5
          have q2 : ((p : Int)) < (L : Int) := by omega
          clear hu hL hlen w2 w4 w5 hi hlt
          gi_wp2
          have T3 := T2.out.put p 5
          have hsk : spanK ks i = spanS ks p i := by unfold spanK; rw [HF.out]; simp
          refine ⟨((K0.out.trans (KeepsOthers.setCell _ _ _)).trans (KeepsOthers.setCell _ _ _)).trans (KeepsOthers.setCell _ _ _), rfl, p, HF.out, ?_, ?_, ?_, ?_⟩
          · rw [hsk]
            exact T3.keep ((heap_setCell_other _ _ _ _ (by simp only; omega)).trans (heap_setCell_other _ _ _ _ (by simp only; omega))) ((heap_setCell_other _ _ _ _ (by simp only; omega)).trans (heap_setCell_other _ _ _ _ (by simp only; omega)))
          · refine (heap_setCell_other _ _ _ _ (by simp only; omega)).trans ?_
            exact heap_setCell_same _ _ 0 _ _ (.int .i64 p) ((heap_setCell_other _ _ _ _ (by simp only; omega)).trans W4.out)
          · exact heap_setCell_same _ _ 0 _ _ (.bool true) ((heap_setCell_other _ _ _ _ (by simp only; omega)).trans ((heap_setCell_other _ _ _ _ (by simp only; omega)).trans W5.out))
          · have F1 : Frm [k] w wr := (Frm.of_below [k] H7.out).trans F0.out (fun x hx => .inl hx)
            exact ((F1.trans (Frm.setCell wr (by simp) _) (fun x hx => .inl hx)).setNew _ (by simp only; omega)).setNew _ (by simp only; omega)
  case done =>
    rintro D W hD ⟨h1, h2, h3, h4, h5, h6, h7⟩ hK
    have c4 : W.cell? ⟨w.heap.size + 1 + 1, 0, none⟩ = some (.int .i64 0) := cell_of_row _ _ _ _ _ _ h4
    have c5 : W.cell? ⟨w.heap.size + 1 + 1 + 1, 0, none⟩ = some (.bool false) := cell_of_row _ _ _ _ _ _ h5
    have f4 := frozen_of_row W _ 0 _ _ h4
    have f5 := frozen_of_row W _ 0 _ _ h5
    have HS := Lib.hid (spanL_none h6)
    clear h6
    gi_wp2
    have hK' := ((KeepsOthers.setCell W ⟨w.heap.size + 1 + 1, 0, none⟩ (.int .i64 0)).trans (KeepsOthers.setCell _ ⟨w.heap.size + 1 + 1 + 1, 0, none⟩ (.bool false))).same D _ hK rfl
    have g4 : ((W.setCell ⟨w.heap.size + 1 + 1, 0, none⟩ (.int .i64 0)).setCell ⟨w.heap.size + 1 + 1 + 1, 0, none⟩ (.bool false)).heap[w.heap.size + 1 + 1]? = some (.cells #[.int .i64 0] 3 (0, 0)) := (heap_setCell_other _ _ _ _ (by simp only; omega)).trans (heap_setCell_same _ _ 0 _ _ (.int .i64 0) h4)
    have g5 : ((W.setCell ⟨w.heap.size + 1 + 1, 0, none⟩ (.int .i64 0)).setCell ⟨w.heap.size + 1 + 1 + 1, 0, none⟩ (.bool false)).heap[w.heap.size + 1 + 1 + 1]? = some (.cells #[.bool false] 4 (0, 0)) := heap_setCell_same _ _ 0 _ _ (.bool false) ((heap_setCell_other _ _ _ _ (by simp only; omega)).trans h5)
    refine ⟨by simp, .inl ⟨_, _, rfl, run_takeDeferred hK', ?_⟩⟩
    have e4 := cell_of_row _ _ 0 _ _ _ (putObj_keep (.deferred none) hK' rfl g4)
    have e5 := cell_of_row _ _ 0 _ _ _ (putObj_keep (.deferred none) hK' rfl g5)
    refine ⟨.tuple #[.int .i64 0, .bool false], ?_, by rw [HS.out]; rfl, ?_, ?_⟩
    · simp [results, Tryz.f50, go_sem, e4, e5]
    · have hsk : spanK ks m = ks := by unfold spanK; rw [HS.out]
      rw [hsk]
      refine Tx.put_obj _ (h1.keep ?_ ?_) hK' rfl
      · exact (heap_setCell_other _ _ _ _ (by simp only; omega)).trans (heap_setCell_other _ _ _ _ (by simp only; omega))
      · exact (heap_setCell_other _ _ _ _ (by simp only; omega)).trans (heap_setCell_other _ _ _ _ (by simp only; omega))
    · exact (((Frm.of_below [k] h7).setNew _ (by simp only; omega)).setNew _ (by simp only; omega)).putObj _ (by simp at hD; omega)
  case stop =>
    rintro D c pre W hD ⟨rfl, p, hf, h3, h4, h5, h6⟩ hK
    have HF := Lib.hid hf
    clear hf
    gi_wp2
    refine ⟨by simp, .inl ⟨_, _, rfl, run_takeDeferred hK, ?_⟩⟩
    have e4 := cell_of_row _ _ 0 _ _ _ (putObj_keep (.deferred none) hK rfl h4)
    have e5 := cell_of_row _ _ 0 _ _ _ (putObj_keep (.deferred none) hK rfl h5)
    refine ⟨.tuple #[.int .i64 p, .bool true], ?_, by rw [HF.out]; rfl, h3.put_obj _ hK rfl, h6.putObj _ (by simp at hD; omega)⟩
    simp [results, Tryz.f50, go_sem, e4, e5]
theorem pspan_any {w : World} {t k : Nat} {ks : List Int} (h : Tx w t k ks) (n : Int) (hn : n ≤ 9223372036854775807) :
    Calls Tryz.prog 50 #[.pointer (some ⟨t, 0, none⟩), .int .i64 n] w fun e w' => SpanE (spanL ks n) e ∧ Tx w' t k (spanK ks n) ∧ Frm [k] w w' := by
  by_cases h1 : n < 1
  · refine (pspan_no t n h1).mono fun e w' ⟨he, hb⟩ => ⟨he, ?_, Frm.of_below [k] hb⟩
    have hsk : spanK ks n = ks := by unfold spanK spanL; rw [if_pos h1]
    rw [hsk]
    exact h.below hb
  · obtain ⟨m, rfl⟩ := Int.eq_ofNat_of_zero_le (show 0 ≤ n by omega)
    exact callsIn_wide.1 (pspan_in h m (by omega) hn)
end Go.Proofs.YtjoejjhgneccgaaGreat

/- What the functions of package mem come to. -/
namespace Go.Proofs.YtjoejjhgneccgaaGreat
open Go.RowKit

set_option maxHeartbeats 1000000 in
set_option maxRecDepth 100000 in
theorem len_any {w : World} {m r : Nat} {xs : List Int} (h : Mx w m r xs) :
    Calls Tryz.prog 96 #[.pointer (some ⟨m, 0, none⟩)] w fun e w' => e = .returned (.int .i64 xs.length) ∧ w = w' := by
  obtain ⟨c, hc, hc2, -, c1⟩ := h.cells
  clear h
  go_enter Tryz.func96, Tryz.ntmps96
  go_wp2_with fail
  go_ret
  exact ⟨rfl, rfl⟩
theorem len_nil (w : World) :
    Calls Tryz.prog 96 #[.pointer none] w fun e w' => e = .returned (.int .i64 0) ∧ w = w' := by
  go_enter Tryz.func96, Tryz.ntmps96
  go_wp2_with fail
  go_ret
  exact ⟨rfl, rfl⟩
set_option maxHeartbeats 1000000 in
set_option maxRecDepth 100000 in
theorem part_yes {w : World} {m r : Nat} {xs : List Int} (h : Mx w m r xs) (a k : Nat) (hk : 1 ≤ k) (hf : a + k ≤ xs.length) :
    Calls Tryz.prog 80 #[.pointer (some ⟨m, 0, none⟩), .int .i64 a, .int .i64 k] w fun e w' => e = .returned (.tuple #[.slice (some ⟨r, a, none⟩) k k, .bool true]) ∧ w = w' := by
  obtain ⟨c, hc, hc2, c0, c1⟩ := h.cells
  have hle := h.le
  obtain ⟨n, hn⟩ : ∃ n, n = xs.length := ⟨_, rfl⟩
  rw [← hn] at c1 hf hle hc
  unfold maxLen at hc2
  clear hn h
  have hcap : (a : Int) + (k : Int) ≤ (c : Int) := by omega
  have e1 : decide ((a : Int) < 0) = false := by simp
  have e2 : decide ((k : Int) < 0) = false := by simp
  have e3 : decide ((n : Int) < a) = false := by simp; omega
  have e4 : decide ((n : Int) - a < k) = false := by simp; omega
  go_enter Tryz.func80, Tryz.ntmps80
  go_wp2_with fail
  go_ret2
  refine ⟨?_, rfl⟩
  show Ending.returned (.tuple #[.slice (some ⟨r, a, none⟩) (a + k - a) (a + k - a), .bool true]) = _
  rw [Nat.add_sub_cancel_left]
set_option maxHeartbeats 1000000 in
set_option maxRecDepth 100000 in
theorem part_no {w : World} {m r : Nat} {xs : List Int} (h : Mx w m r xs) (a k : Int) (hf : fitB xs.length a k = false) :
    Calls Tryz.prog 80 #[.pointer (some ⟨m, 0, none⟩), .int .i64 a, .int .i64 k] w fun e w' => e = .returned (.tuple #[.slice none 0 0, .bool false]) ∧ w = w' := by
  obtain ⟨c, hc, hc2, c0, c1⟩ := h.cells
  have hle := h.le
  obtain ⟨n, hn⟩ : ∃ n, n = xs.length := ⟨_, rfl⟩
  rw [← hn] at c1 hf hle
  clear hn h hc hc2
  simp only [fitB, Bool.and_eq_false_iff, decide_eq_false_iff_not] at hf
  by_cases h1 : a < 0
  · clear hf
    go_enter Tryz.func80, Tryz.ntmps80
    go_wp2_with fail
    go_ret2
    exact ⟨rfl, rfl⟩
  by_cases h2 : k < 0
  · clear hf
    go_enter Tryz.func80, Tryz.ntmps80
    go_wp2_with fail
    go_ret2
    exact ⟨rfl, rfl⟩
  by_cases h3 : (n : Int) < a
  · clear hf
    go_enter Tryz.func80, Tryz.ntmps80
    go_wp2_with fail
    go_ret2
    exact ⟨rfl, rfl⟩
  have h4 : (n : Int) - a < k := by omega
  have e4 : decide ((n : Int) - a < k) = true := by simpa using h4
  clear hf
  go_enter Tryz.func80, Tryz.ntmps80
  go_wp2_with fail
  go_ret2
  exact ⟨rfl, rfl⟩
/-- What is loaded. -/
def loadV (xs : List Int) (a : Int) : Int := if fitB xs.length a 1 = true then xs.getD a.toNat 0 else 0
theorem loadV_no {xs : List Int} {a : Int} (h : fitB xs.length a 1 = false) : loadV xs a = 0 := by unfold loadV; rw [h]; rfl
theorem loadV_yes {xs : List Int} {i : Nat} (h : i < xs.length) : loadV xs i = xs.getD i 0 := by
  unfold loadV; rw [if_pos (by simp [fitB]; omega), Int.toNat_natCast]
set_option maxHeartbeats 1000000 in
set_option maxRecDepth 100000 in
theorem load_any {w : World} {m r : Nat} {xs : List Int} (h : Mx w m r xs) (a : Int) :
    Calls Tryz.prog 64 #[.pointer (some ⟨m, 0, none⟩), .int .i64 a] w fun e w' => e = .returned (.tuple #[.int .i64 (loadV xs a), .bool (fitB xs.length a 1)]) ∧ w = w' := by
  cases hf : fitB xs.length a 1 with
  | false =>
    have H := Lib.hid h
    have HF := Lib.hid hf
    rw [loadV_no hf]
    clear h hf
    go_enter Tryz.func64, Tryz.ntmps64
    go_wp2_with (go_at_call 80; refine (part_no H.out a 1 HF.out).mono ?_; rintro e w' ⟨rfl, rfl⟩)
    go_ret2
    exact ⟨rfl, rfl⟩
  | true =>
    have hd := hf
    simp only [fitB, Bool.and_eq_true, decide_eq_true_eq] at hd
    obtain ⟨i, rfl⟩ := Int.eq_ofNat_of_zero_le hd.1.1
    have hi : i < xs.length := by omega
    have cw := (h.word hi).1
    rw [loadV_yes hi]
    obtain ⟨v, hv⟩ : ∃ v, v = xs.getD i 0 := ⟨_, rfl⟩
    rw [← hv] at cw ⊢
    have H := Lib.hid h
    have HI := Lib.hid hi
    clear h hf hd hv hi
    go_enter Tryz.func64, Tryz.ntmps64
    go_wp2_with (go_at_call 80; refine (part_yes H.out i 1 (Nat.le_refl _) HI.out).mono ?_; rintro e w' ⟨rfl, rfl⟩)
    go_ret2
    exact ⟨rfl, rfl⟩
set_option maxHeartbeats 1000000 in
set_option maxRecDepth 100000 in
theorem fill_yes {w : World} {m r : Nat} {xs : List Int} (h : Mx w m r xs) (a k : Nat) (v : Int) (hk : 1 ≤ k) (hf : a + k ≤ xs.length) :
    Calls Tryz.prog 53 #[.pointer (some ⟨m, 0, none⟩), .int .i64 a, .int .i64 k, .int .i64 v] w fun e w' => e = .returned (.bool true) ∧ Mx w' m r (fillL xs a k v) ∧ Frm [r] w w' := by
  have hle := h.le
  have H := Lib.hid h
  have F0 := Lib.hid (Frm.refl [r] w)
  have HK := Lib.hid hk
  have hkl : k ≤ 2048 := by omega
  have HF := Lib.hid hf
  clear h hk hf
  go_enter Tryz.func53, Tryz.ntmps53
  go_wp2_with (go_at_call 80; refine (part_yes H.out a k HK.out HF.out).mono ?_; rintro e w' ⟨rfl, rfl⟩)
  go_loopw [21] (fun t wr => ∃ j : Nat, j ≤ k ∧ t = .int .i64 j ∧ Hid (Mx wr m r (fillL xs a j v)) ∧ Hid (Frm [r] w wr)) (fun t _ => k - (intOf t).toNat)
  case atStart => exact ⟨0, Nat.zero_le _, rfl, H, F0⟩
  case round =>
    clear H F0
    obtain ⟨j, hj, rfl, H, F0⟩ := hrel
    by_cases hlt : j < k
    · have hlen : a + j < (fillL xs a j v).length := by rw [fillL_len]; have := HF.out; omega
      obtain ⟨cw, fz⟩ := H.out.word hlen
      have HLn := Lib.hid hlen
      obtain ⟨u, hu⟩ : ∃ u, u = (fillL xs a j v).getD (a + j) 0 := ⟨_, rfl⟩
      rw [← hu] at cw
      clear hu hlen
      go_wp2_with fail
      go_roundw
      case rel => exact ⟨j + 1, by omega, by go_num, Lib.hid (H.out.put HLn.out _), Lib.hid (F0.out.trans (Frm.setCell wr (by simp) _) (fun x hx => .inl hx))⟩
      case measure => simp [intOf]; omega
    · obtain rfl : j = k := by omega
      clear hj hlt
      go_wp2_with fail
      go_ret
      exact ⟨rfl, H.out, F0.out⟩
set_option maxHeartbeats 1000000 in
set_option maxRecDepth 100000 in
theorem fill_no {w : World} {m r : Nat} {xs : List Int} (h : Mx w m r xs) (a k v : Int) (hf : fitB xs.length a k = false) :
    Calls Tryz.prog 53 #[.pointer (some ⟨m, 0, none⟩), .int .i64 a, .int .i64 k, .int .i64 v] w fun e w' => e = .returned (.bool false) ∧ w = w' := by
  have H := Lib.hid h
  have HF := Lib.hid hf
  clear h hf
  go_enter Tryz.func53, Tryz.ntmps53
  go_wp2_with (go_at_call 80; refine (part_no H.out a k HF.out).mono ?_; rintro e w' ⟨rfl, rfl⟩)
  go_loop [21] (fun t => t = .int .i64 0) (fun _ => 0)
  case atStart => rfl
  case round =>
    obtain rfl := hrel
    go_wp2_with fail
    go_ret
    exact ⟨rfl, rfl⟩
theorem fill_int {w : World} {m r : Nat} {xs : List Int} (h : Mx w m r xs) (a k v : Int) (h0 : 0 ≤ a) (h1 : 1 ≤ k) (h2 : a + k ≤ xs.length) :
    Calls Tryz.prog 53 #[.pointer (some ⟨m, 0, none⟩), .int .i64 a, .int .i64 k, .int .i64 v] w fun e w' => e = .returned (.bool true) ∧ Mx w' m r (fillL xs a.toNat k.toNat v) ∧ Frm [r] w w' := by
  obtain ⟨i, rfl⟩ := Int.eq_ofNat_of_zero_le h0
  obtain ⟨j, rfl⟩ := Int.eq_ofNat_of_zero_le (show 0 ≤ k by omega)
  exact fill_yes h i j v (by omega) (by omega)
/-- A word. -/
def putL (xs : List Int) (a v : Int) : List Int := if fitB xs.length a 1 = true then xs.set a.toNat v else xs
theorem store_any {w : World} {m r : Nat} {xs : List Int} (h : Mx w m r xs) (a v : Int) :
    Calls Tryz.prog 61 #[.pointer (some ⟨m, 0, none⟩), .int .i64 a, .int .i64 v] w fun e w' => e = .returned (.bool (fitB xs.length a 1)) ∧ Mx w' m r (putL xs a v) ∧ Frm [r] w w' := by
  unfold putL
  cases hf : fitB xs.length a 1 with
  | false =>
    have H := Lib.hid h
    have HF := Lib.hid hf
    clear h hf
    go_enter Tryz.func61, Tryz.ntmps61
    go_wp2_with (go_at_call 53; refine (fill_no H.out a 1 v HF.out).mono ?_; rintro e w' ⟨rfl, rfl⟩)
    go_ret
    exact ⟨rfl, by simpa using H.out, Frm.refl _ _⟩
  | true =>
    have hd := hf
    simp only [fitB, Bool.and_eq_true, decide_eq_true_eq] at hd
    obtain ⟨i, rfl⟩ := Int.eq_ofNat_of_zero_le hd.1.1
    have hi : i + 1 ≤ xs.length := by omega
    have H := Lib.hid h
    have HI := Lib.hid hi
    clear h hf hd hi
    go_enter Tryz.func61, Tryz.ntmps61
    go_wp2_with (go_at_call 53; refine (fill_yes H.out i 1 v (Nat.le_refl _) HI.out).mono ?_; rintro e w' ⟨rfl, hm, hf⟩)
    go_ret
    exact ⟨rfl, by simpa [fillL] using hm, hf⟩
theorem info_num64 : (Tryz.prog.info? 2).map (fun i => (i.zero, i.size, i.bytes)) = some (some (.int .i64 0), 1, 8) := by kernel_rfl
theorem make_words (n : Nat) (hn : n ≤ 1000000) (w : World) : (Instr.makeSlice 102 (.int .i64 (n : Int)) (.int .i64 (n : Int))).run Tryz.prog w = .ok (.slice (some ⟨w.heap.size, 0, none⟩) n n) (w.alloc (.cells (ints (List.replicate n 0)) 2)) := by
  obtain ⟨i0, hi, hz0, hz1, hz2⟩ := info_parts info_num64
  have h := run_make (P := Tryz.prog) w 102 2 i0 _ Tryz.underlying102 hi hz0 .i64 .i64 n n (by omega) (by omega) (by rw [hz2]; omega) (by omega)
  rw [hz1] at h
  have e : madeCells #[Value.int .i64 0] (n * 1) = ints (List.replicate n 0) := by
    unfold ints
    rw [List.map_replicate]
    apply Array.ext
    · simp [madeCells]
    · intro i h1 h2
      simp only [madeCells, Array.getElem_map, Array.getElem_range, List.getElem_toArray, List.getElem_replicate]
      show (#[Value.int .i64 0])[i % 1]! = _
      rw [Nat.mod_one]; rfl
  rw [← e]
  exact h
set_option maxRecDepth 100000 in
theorem mnew_any (n : Int) (w : World) :
    Calls Tryz.prog 40 #[.int .i64 n] w fun e w' => e = .returned (.pointer (some ⟨w.heap.size + 1, 0, none⟩)) ∧ Mx w' (w.heap.size + 1) w.heap.size (List.replicate (clampN n 0 2048).toNat 0) ∧ Below w.heap.size w w' := by
  have hb := clampN_bd (a := n) (lo := 0) (hi := 2048) (by omega)
  obtain ⟨k, hk⟩ := Int.eq_ofNat_of_zero_le hb.1
  have HK := Lib.hid hk
  have hk64 : k ≤ 2048 := by omega
  have mk := make_words k (by omega)
  obtain ⟨R, hR⟩ : ∃ R, R = ints (List.replicate k 0) := ⟨_, rfl⟩
  rw [← hR] at mk
  have HR := Lib.hid hR
  clear hk hb hR
  go_enter Tryz.func40, Tryz.ntmps40
  go_wp2_with (go_at_call 42; refine (clampn_any n 0 2048 _).mono ?_; rw [HK.out]; rintro e w' ⟨rfl, rfl⟩)
  go_ret
  rw [HK.out, Int.toNat_natCast]
  refine ⟨rfl, Mx.of_block ?_ ?_ (by simpa using hk64), ?_⟩
  · rw [List.length_replicate]
    exact alloc_at _ _ (by simp)
  · rw [← HR.out]
    exact keep_alloc _ (heap_alloc_new w _)
  · exact (below_alloc0 _ _).alloc (by simp) _
def ClnE (xs : List Int) (B : Nat) (e : Ending) (w' : World) : Prop := ∃ m r, e = .returned (.pointer (some ⟨m, 0, none⟩)) ∧ B ≤ m ∧ B ≤ r ∧ Mx w' m r xs
end Go.Proofs.YtjoejjhgneccgaaGreat

/- Free cells of a page: opened, linked. -/
namespace Go.Proofs.YtjoejjhgneccgaaGreat
open Go.RowKit

/-- Has a page cells of a class? -/
structure OpP (len : Nat) (p k : Int) : Prop where
  p0 : 0 ≤ p
  p1 : p < 64
  k0 : 1 ≤ k
  k1 : k ≤ 4
  fit : p * 32 + 32 ≤ len
set_option maxHeartbeats 4000000 in
set_option maxRecDepth 100000 in
theorem open_yes {w : World} {m r : Nat} {xs : List Int} (h : Mx w m r xs) (p k : Int) (hp : OpP xs.length p k) :
    Calls Tryz.prog 86 #[.pointer (some ⟨m, 0, none⟩), .int .i64 p, .int .i64 k] w fun e w' => e = .returned (.tuple #[.agg #[.pointer (some ⟨m, 0, none⟩), .int .i64 p, .int .i64 k, .int .i64 (cellsI k)], .bool true]) ∧ Below w.heap.size w w' := by
  have H := Lib.hid h
  have HP := Lib.hid (show endB p 1 = true by have := hp.p0; have := hp.p1; simp [endB]; omega)
  have hc := cellsI_pos ⟨hp.k0, hp.k1⟩
  have hle := h.le
  have hl : ((p + 1) * 32 - 1) < (xs.length : Int) := by have := hp.fit; omega
  have h0 : 0 < cellsI k := by omega
  obtain ⟨n, hn⟩ : ∃ n, n = xs.length := ⟨_, rfl⟩
  rw [← hn] at hl
  have HN := Lib.hid hn
  have a0 : ∀ B : Obj, ((w.alloc (.cells #[.pointer none, .int .i64 0, .int .i64 0, .int .i64 0] 117)).alloc B).heap[w.heap.size]? = some (.cells #[.pointer none, .int .i64 0, .int .i64 0, .int .i64 0] 117 (0, 0)) := fun B => keep_alloc _ (heap_alloc_new w _)
  have A0 := Lib.hid a0
  have HW := Lib.hid (h.below (((Below.refl w.heap.size w).alloc (Nat.le_refl _) (.cells #[.pointer none, .int .i64 0, .int .i64 0, .int .i64 0] 117)).alloc (by simp) (.cells #[.pointer (some ⟨m, 0, none⟩), .int .i64 p, .int .i64 k, .int .i64 (cellsI k)] 117)).drew)
  clear h hp hc hle hn a0
  go_enter Tryz.func86, Tryz.ntmps86
  go_wp2_with (first
    | (go_at_call 76; refine (cells_any k _).mono ?_; rintro e w' ⟨rfl, rfl⟩)
    | (go_at_call 51; refine (ends_yes p 1 HP.out _).mono ?_; rintro e w' ⟨rfl, rfl⟩))
  go_region_held3 (fun w' => w'.cell? ⟨w.heap.size + 1, 0, none⟩ = some (.pointer (some ⟨m, 0, none⟩)) ∧ w'.cell? ⟨w.heap.size + 1, 1, none⟩ = some (.int .i64 p) ∧ w'.cell? ⟨w.heap.size + 1, 2, none⟩ = some (.int .i64 k) ∧ w'.cell? ⟨w.heap.size + 1, 3, none⟩ = some (.int .i64 (cellsI k))) (go_keep)
    ((go_at_call 96; refine (len_any HW.out).mono ?_; rw [← HN.out]; rintro e w1 ⟨rfl, rfl⟩))
  go_wp2_with fail
  have e0 : ∀ A B : Obj, ((w.alloc A).alloc B).drew.heap[w.heap.size]? = some A := fun A B => keep_alloc _ (heap_alloc_new w _)
  exact bodyPost_ret (results_row_tmp rfl _ _ w.heap.size 117 #[.pointer (some ⟨m, 0, none⟩), .int .i64 p, .int .i64 k, .int .i64 (cellsI k)] (0, 0) _ rfl (e0 _ _) Tryz.underlying117 rfl (by kernel_rfl)) rfl
    ⟨rfl, (((Below.refl w.heap.size w).alloc (Nat.le_refl _) _).alloc (by simp) _).drew⟩
/-- A cell's address. -/
def cad (p k i : Int) : Int := p * 32 + i * sizeI k
theorem at_cad (p k i : Int) (h : atB p k i = true) (w : World) :
    Calls Tryz.prog 66 #[.int .i64 p, .int .i64 k, .int .i64 i] w fun e w' => e = .returned (.tuple #[.int .i64 (cad p k i), .bool true]) ∧ w = w' := at_yes p k i h w
theorem cad_in {len : Nat} {p k i : Int} (h : OpP len p k) (h0 : 0 ≤ i) (h1 : i < cellsI k) : atB p k i = true ∧ 0 ≤ cad p k i ∧ p * 32 ≤ cad p k i ∧ cad p k i + sizeI k ≤ p * 32 + 32 ∧ cad p k i + 2 ≤ len := by
  obtain ⟨a, b, c, d, e⟩ := h
  have hc : k = 1 ∨ k = 2 ∨ k = 3 ∨ k = 4 := by omega
  refine ⟨by simp [atB]; omega, ?_⟩
  unfold cad
  rcases hc with rfl | rfl | rfl | rfl <;> simp [cellsI, sizeI] at * <;> omega
set_option maxHeartbeats 1000000 in
set_option maxRecDepth 100000 in
theorem link_any {w : World} {m r : Nat} {xs : List Int} (h : Mx w m r xs) (p k i nx : Int) (hp : OpP xs.length p k) (h0 : 0 ≤ i) (h1 : i < cellsI k) (hn0 : 0 ≤ nx) (hn1 : nx ≤ 1000000) :
    Calls Tryz.prog 91 #[.agg #[.pointer (some ⟨m, 0, none⟩), .int .i64 p, .int .i64 k, .int .i64 (cellsI k)], .int .i64 i, .int .i64 nx] w fun e w' => (∃ v, e = .returned v) ∧ Mx w' m r (putL xs (cad p k i) (-1 - nx)) ∧ Frm [r] w w' := by
  obtain ⟨hat, -⟩ := cad_in hp h0 h1
  have HA := Lib.hid hat
  have H := Lib.hid (h.below (below_alloc0 w (.cells #[.pointer (some ⟨m, 0, none⟩), .int .i64 p, .int .i64 k, .int .i64 (cellsI k)] 117)))
  clear h hp h0 h1 hat
  go_enter Tryz.func91, Tryz.ntmps91
  go_wp2_with (first
    | (go_at_call 66; refine (at_yes p k i HA.out _).mono ?_; rintro e w' ⟨rfl, rfl⟩)
    | (go_at_call 61; refine (store_any H.out _ _).mono ?_; rintro e w' ⟨rfl, hm, hf⟩; have HM := Lib.hid hm; have HF := Lib.hid hf; clear hm hf))
  go_end0
  exact ⟨⟨_, rfl⟩, HM.out, (Frm.of_below [r] (below_alloc0 w _)).trans HF.out (fun x hx => .inl hx)⟩
set_option maxHeartbeats 1000000 in
set_option maxRecDepth 100000 in
theorem is_yes (m : Nat) (p k i : Int) (h0 : 0 ≤ i) (h1 : i < cellsI k) (w : World) :
    Calls Tryz.prog 87 #[.agg #[.pointer (some ⟨m, 0, none⟩), .int .i64 p, .int .i64 k, .int .i64 (cellsI k)], .int .i64 i] w fun e w' => e = .returned (.bool true) ∧ Below w.heap.size w w' := by
  go_enter Tryz.func87, Tryz.ntmps87
  go_wp2_with fail
  go_ret
  exact ⟨rfl, below_alloc0 _ _⟩
set_option maxHeartbeats 1000000 in
set_option maxRecDepth 100000 in
theorem cnext_yes {w : World} {m r : Nat} {xs : List Int} (h : Mx w m r xs) (p k i y : Int) (hp : OpP xs.length p k) (h0 : 0 ≤ i) (h1 : i < cellsI k) (hy : xs.getD (cad p k i).toNat 0 = y) (hy0 : y < 0) (hy1 : -1 - cellsI k ≤ y) :
    Calls Tryz.prog 88 #[.agg #[.pointer (some ⟨m, 0, none⟩), .int .i64 p, .int .i64 k, .int .i64 (cellsI k)], .int .i64 i] w fun e w' => e = .returned (.tuple #[.int .i64 (-1 - y), .bool true]) ∧ Below w.heap.size w w' := by
  obtain ⟨hat, hc0, -, -, hc1⟩ := cad_in hp h0 h1
  have HA := Lib.hid hat
  have hn := cellsI_pos ⟨hp.k0, hp.k1⟩
  have H := Lib.hid (h.below (below_alloc0 w (.cells #[.pointer (some ⟨m, 0, none⟩), .int .i64 p, .int .i64 k, .int .i64 (cellsI k)] 117)))
  have hfit : fitB xs.length (p * 32 + i * sizeI k) 1 = true := by
    unfold cad at hc0 hc1; simp [fitB]; omega
  have hld : loadV xs (p * 32 + i * sizeI k) = y := by
    unfold loadV; rw [if_pos hfit, ← hy]; rfl
  have HF := Lib.hid hfit
  have HL := Lib.hid hld
  clear h hp h0 h1 hat hy hc0 hc1 hfit hld
  go_enter Tryz.func88, Tryz.ntmps88
  go_wp2_with (first
    | (go_at_call 66; refine (at_yes p k i HA.out _).mono ?_; rintro e w' ⟨rfl, rfl⟩)
    | (go_at_call 64; refine (load_any H.out _).mono ?_; rw [HL.out, HF.out]; rintro e w' ⟨rfl, rfl⟩))
  go_ret2
  exact ⟨rfl, below_alloc0 _ _⟩
end Go.Proofs.YtjoejjhgneccgaaGreat
