/- What is grey: entries put back, taken, asked; shaded; made. -/
import Derived.Test.YtjoejjhgneccgaaGreatDoorQSW18
import Derived.Test.YtjoejjhgneccgaaGreatDoorQSW19
namespace Go.Proofs.YtjoejjhgneccgaaGreatDoor
open Go.RowKit

section
variable {w w' : World} {s : Nat} {v : Value} {K : Sk}
/-- What waits, by value. -/
def wtO (s : Nat) : Obj := .cells #[.pointer (some ⟨s, 0, none⟩)] 135
theorem wt_box (w : World) (s : Nat) : (w.alloc (wtO s)).cell? ⟨w.heap.size, 0, none⟩ = some (.pointer (some ⟨s, 0, none⟩)) := cell_of_row _ _ _ _ _ _ (heap_alloc_new w _)
theorem wtwaiting_any (h : SkX w s v K) :
    Calls Tryz.prog 81 #[.agg #[.pointer (some ⟨s, 0, none⟩)]] w fun e w' => e = .returned (.int .i64 K.st.length) ∧ Below w.heap.size w w' := by
  have B0 := Lib.hid (below_alloc0 w (wtO s))
  have H := Lib.hid (h.below B0.out)
  have c0 := wt_box w s
  unfold wtO at *
  clear h
  go_enter Tryz.func81, Tryz.ntmps81
  go_wp2_with (go_at_call 135; refine (sklen_any H.out).mono ?_; rintro e w1 ⟨rfl, rfl⟩)
  go_ret
  exact ⟨rfl, B0.out⟩
theorem wtover_any (h : SkX w s v K) :
    Calls Tryz.prog 119 #[.agg #[.pointer (some ⟨s, 0, none⟩)]] w fun e w' => e = .returned (.bool K.ov) ∧ Below w.heap.size w w' := by
  have B0 := Lib.hid (below_alloc0 w (wtO s))
  have H := Lib.hid (h.below B0.out)
  have c0 := wt_box w s
  unfold wtO at *
  clear h
  go_enter Tryz.func119, Tryz.ntmps119
  go_wp2_with (go_at_call 169; refine (skover_any H.out).mono ?_; rintro e w1 ⟨rfl, rfl⟩)
  go_ret
  exact ⟨rfl, B0.out⟩
theorem wtsettle_any (h : SkX w s v K) :
    Calls Tryz.prog 118 #[.agg #[.pointer (some ⟨s, 0, none⟩)]] w fun e w' => e = .returned (.bool K.ov) ∧ SkT w w' s v { K with ov := false } := by
  have B0 := Lib.hid (below_alloc0 w (wtO s))
  have H := Lib.hid (h.below B0.out)
  have c0 := wt_box w s
  unfold wtO at *
  clear h
  go_enter Tryz.func118, Tryz.ntmps118
  go_wp2_with (go_at_call 168; refine (sksettle_any H.out).mono ?_; rintro e w1 ⟨rfl, ht⟩; have T1 := Lib.hid ht; clear ht)
  go_ret
  exact ⟨rfl, T1.out.under B0.out⟩
theorem wtrest_any (h : SkX w s v K) (x : Int × Int) :
    Calls Tryz.prog 133 #[.agg #[.pointer (some ⟨s, 0, none⟩)], .agg #[.int .i64 x.1, .int .i64 x.2]] w fun e w' => e = .returned (.bool (pushB K)) ∧ SkT w w' s v (pushK K x) := by
  have B0 := Lib.hid ((below_alloc0 w (wtO s)).alloc (below_alloc0 w (wtO s)).size (.cells #[.int .i64 x.1, .int .i64 x.2] 93))
  have H := Lib.hid (h.below B0.out)
  have c0 := cell_keep (below_alloc0 _ (.cells #[.int .i64 x.1, .int .i64 x.2] 93)) (wt_box w s)
  have hz := heap_one w (wtO s)
  have c1 : ((w.alloc (wtO s)).alloc (.cells #[.int .i64 x.1, .int .i64 x.2] 93)).cell? ⟨w.heap.size + 1, 0, none⟩ = some (.int .i64 x.1) := by rw [hz]; exact cell_of_row _ _ _ _ _ _ (heap_alloc_new _ _)
  have c2 : ((w.alloc (wtO s)).alloc (.cells #[.int .i64 x.1, .int .i64 x.2] 93)).cell? ⟨w.heap.size + 1, 1, none⟩ = some (.int .i64 x.2) := by rw [hz]; exact cell_of_row _ _ _ _ _ _ (heap_alloc_new _ _)
  unfold wtO at *
  clear h hz
  go_enter Tryz.func133, Tryz.ntmps133
  go_wp2_with (go_at_call 176; refine (skpush_any H.out x).mono ?_; rintro e w1 ⟨rfl, ht⟩; have T1 := Lib.hid ht; clear ht)
  go_ret
  exact ⟨rfl, T1.out.under B0.out⟩
theorem wtnext_any (h : SkX w s v K) :
    Calls Tryz.prog 116 #[.agg #[.pointer (some ⟨s, 0, none⟩)]] w fun e w' => PopRs w w' s v K e := by
  have B0 := Lib.hid ((below_alloc0 w (wtO s)).alloc (below_alloc0 w (wtO s)).size (.cells #[.int .i64 0, .int .i64 0] 93))
  have HG := Lib.hid (h.below B0.out)
  have c0 := cell_keep (below_alloc0 _ (.cells #[.int .i64 0, .int .i64 0] 93)) (wt_box w s)
  have HA : Hid (((w.alloc (wtO s)).alloc (.cells #[.int .i64 0, .int .i64 0] 93)).heap[w.heap.size + 1]? = some (.cells #[.int .i64 0, .int .i64 0] 93 (0, 0))) := Lib.hid (by rw [heap_one w (wtO s)]; exact heap_alloc_new _ _)
  obtain ⟨o, ho⟩ : ∃ o, o = popO K := ⟨_, rfl⟩
  obtain ⟨a, ha⟩ : ∃ a, a = (o.getD (0, 0)).1 := ⟨_, rfl⟩
  obtain ⟨b, hb⟩ : ∃ b, b = (o.getD (0, 0)).2 := ⟨_, rfl⟩
  obtain ⟨q, hq⟩ : ∃ q, q = o.isSome := ⟨_, rfl⟩
  have HE := Lib.hid (show ∀ e, TakE (popO K) e → e = .returned (.tuple #[.agg #[.int .i64 a, .int .i64 b], .bool q]) by rw [← ho, ha, hb, hq]; exact fun e he => he)
  have HE2 := Lib.hid (show TakE (popO K) (.returned (.tuple #[.agg #[.int .i64 a, .int .i64 b], .bool q])) by rw [← ho, ha, hb, hq]; rfl)
  have hlt := h.lt
  have HL := Lib.hid hlt
  unfold wtO at *
  clear h ho ha hb hq hlt
  go_enter Tryz.func116, Tryz.ntmps116
  go_wp2_with (first
    | (go_at_call 167; refine (skpop_any HG.out).mono ?_; rintro e w2 ⟨he, ht⟩; obtain rfl := HE.out e he; obtain ⟨v', hx, ht⟩ := ht; have X2 := Lib.hid hx; have T2 := Lib.hid ht; have A2 := Lib.hid ((ht.heap (heap_lt HA.out) (fun hk => by have := HL.out _ hk; omega)).trans HA.out); clear he hx ht)
    | (refine wpList_store_row rfl 93 _ _ rfl (w.heap.size + 1) #[.int .i64 a, .int .i64 b] rfl rfl 93 _ A2.out (by kernel_rfl) rfl (by kernel_rfl) ?_))
  refine bodyPost_ret (results_row_tmp rfl _ _ (w.heap.size + 1) 93 #[.int .i64 a, .int .i64 b] _ _ rfl (heap_setRow_same _ A2.out) Tryz.underlying93 rfl (by kernel_rfl)) rfl ⟨?_, ?_⟩
  · exact HE2.out
  have hk : ∀ k ∈ skfp s v', k ≠ w.heap.size + 1 := fun k hk e => by
    rcases T2.out.fr k hk with h1 | h1
    · have := HL.out k h1; omega
    · have h2 := heap_lt HA.out
      omega
  have h2 := (Turn.below (skfp s v) B0.out).trans T2.out
  exact ⟨_, X2.out.keep fun k h1 => heap_setRow_other _ _ _ _ (hk k h1), h2.frm.trans_new (Frm.setRow (fp := [w.heap.size + 1]) _ (List.mem_singleton.2 rfl) _) (fun k hk => by rw [List.mem_singleton.1 hk]; omega), h2.fr⟩
end
section
variable {w w' : World} {b : Gb} {v : Value} {K : Gk}
theorem gkwaiting_any (h : GkX w b v K) :
    Calls Tryz.prog 32 #[.pointer (some ⟨b.g, 0, none⟩)] w fun e w' => e = .returned (.int .i64 K.sk.st.length) ∧ Below w.heap.size w w' := by
  have H := Lib.hid h
  obtain ⟨-, -, c2⟩ := h.cells
  clear h
  go_enter Tryz.func32, Tryz.ntmps32
  go_wp2_with (first
    | (go_at_call 80; refine (gknone_any H.out).mono ?_; rintro e w1 ⟨rfl, rfl⟩)
    | (go_at_call 81; refine (wtwaiting_any H.out.sk).mono ?_; rintro e w1 ⟨rfl, hb⟩; have B1 := Lib.hid hb; clear hb))
  go_ret
  exact ⟨rfl, B1.out⟩
theorem gkover_any (h : GkX w b v K) :
    Calls Tryz.prog 65 #[.pointer (some ⟨b.g, 0, none⟩)] w fun e w' => e = .returned (.bool K.sk.ov) ∧ Below w.heap.size w w' := by
  have H := Lib.hid h
  obtain ⟨-, -, c2⟩ := h.cells
  clear h
  go_enter Tryz.func65, Tryz.ntmps65
  go_wp2_with (first
    | (go_at_call 80; refine (gknone_any H.out).mono ?_; rintro e w1 ⟨rfl, rfl⟩)
    | (go_at_call 119; refine (wtover_any H.out.sk).mono ?_; rintro e w1 ⟨rfl, hb⟩; have B1 := Lib.hid hb; clear hb))
  go_ret
  exact ⟨rfl, B1.out⟩
def settleK (K : Gk) : Gk := { K with sk := { K.sk with ov := false } }
theorem gksettle_any (h : GkX w b v K) :
    Calls Tryz.prog 62 #[.pointer (some ⟨b.g, 0, none⟩)] w fun e w' => e = .returned (.bool K.sk.ov) ∧ GkT w w' b v (settleK K) := by
  have H := Lib.hid h
  obtain ⟨-, -, c2⟩ := h.cells
  clear h
  go_enter Tryz.func62, Tryz.ntmps62
  go_wp2_with (first
    | (go_at_call 80; refine (gknone_any H.out).mono ?_; rintro e w1 ⟨rfl, rfl⟩)
    | (go_at_call 118; refine (wtsettle_any H.out.sk).mono ?_; rintro e w1 ⟨rfl, ht⟩; have T1 := Lib.hid (H.out.withSk ht); clear ht))
  go_ret
  exact ⟨rfl, T1.out⟩
def restB (K : Gk) : Bool := pushB K.sk
def restK (K : Gk) (x : Int × Int) : Gk := { K with sk := pushK K.sk x }
set_option maxHeartbeats 1000000 in
set_option maxRecDepth 100000 in
theorem gkrest_any (h : GkX w b v K) (x : Int × Int) :
    Calls Tryz.prog 75 #[.pointer (some ⟨b.g, 0, none⟩), .agg #[.int .i64 x.1, .int .i64 x.2]] w fun e w' => e = .returned (.bool (restB K)) ∧ GkT w w' b v (restK K x) := by
  have B0 := Lib.hid (below_alloc0 w (.cells #[.int .i64 x.1, .int .i64 x.2] 93))
  have H := Lib.hid (h.below B0.out)
  have c0 : (w.alloc (.cells #[.int .i64 x.1, .int .i64 x.2] 93)).cell? ⟨w.heap.size, 0, none⟩ = some (.int .i64 x.1) := cell_of_row _ _ _ _ _ _ (heap_alloc_new w _)
  have c1 : (w.alloc (.cells #[.int .i64 x.1, .int .i64 x.2] 93)).cell? ⟨w.heap.size, 1, none⟩ = some (.int .i64 x.2) := cell_of_row _ _ _ _ _ _ (heap_alloc_new w _)
  obtain ⟨-, -, c2⟩ := H.out.cells
  clear h
  go_enter Tryz.func75, Tryz.ntmps75
  go_wp2_with fail
  have HD := Lib.hid (H.out.below (Below.refl _ _).drew)
  refine region_tail 5 (by kernel_rfl) (by kernel_rfl) ?_
  simp only [List.take_succ_cons, List.take_zero, List.drop_succ_cons, List.drop_zero]
  repeat still_step
  still_call ((gknone_any HD.out).mono fun e w' ⟨h1, h2⟩ => ⟨h1, h2.symm⟩)
  repeat still_step
  refine wpStill_nil ?_
  go_wp2_with (go_at_call 133; refine (wtrest_any HD.out.sk x).mono ?_; rintro e w1 ⟨rfl, ht⟩; have T1 := Lib.hid (HD.out.withSk ht); clear ht)
  go_ret
  exact ⟨rfl, T1.out.under B0.out.drew⟩
def shadeK (K : Gk) (a : Int) : Gk := if addB 2048 K.ws a = true then restK (blackK K a) (a, 0) else K
theorem gkshade_any (h : GkX w b v K) (a : Int) :
    Calls Tryz.prog 28 #[.pointer (some ⟨b.g, 0, none⟩), .int .i64 a] w fun e w' => e = .returned (.bool (addB 2048 K.ws a)) ∧ GkT w w' b v (shadeK K a) := by
  have H := Lib.hid h
  clear h
  cases hr : addB 2048 K.ws a with
  | true =>
    have HR := Lib.hid hr
    have HS := Lib.hid (show shadeK K a = restK (blackK K a) (a, 0) by unfold shadeK; rw [if_pos hr])
    clear hr
    go_enter Tryz.func28, Tryz.ntmps28
    go_wp2_with (first
      | (go_at_call 56; refine (gkblack_any H.out a).mono ?_; rw [HR.out]; rintro e w1 ⟨rfl, hx, ht⟩; have H1 := Lib.hid hx; have T1 := Lib.hid ht; clear hx ht)
      | (go_at_call 75; refine (gkrest_any H1.out (a, 0)).mono ?_; rintro e w2 ⟨rfl, v', hx, ht⟩; have H2 := Lib.hid hx; have T2 := Lib.hid (T1.out.trans ht); clear hx ht))
    go_ret
    exact ⟨rfl, by rw [HS.out]; exact ⟨_, H2.out, T2.out⟩⟩
  | false =>
    have HR := Lib.hid hr
    have HS := Lib.hid (show shadeK K a = K by unfold shadeK; rw [hr]; rfl)
    have HB := Lib.hid (show blackK K a = K by unfold blackK addL; rw [hr]; rfl)
    clear hr
    go_enter Tryz.func28, Tryz.ntmps28
    go_wp2_with (go_at_call 56; refine (gkblack_any H.out a).mono ?_; rw [HR.out, HB.out]; rintro e w1 ⟨rfl, hx, ht⟩; have H1 := Lib.hid hx; have T1 := Lib.hid ht; clear hx ht)
    go_ret
    exact ⟨rfl, by rw [HS.out]; exact ⟨_, H1.out, T1.out⟩⟩
def nextK (K : Gk) : Gk := { K with sk := popK K.sk }
def GkNxt (w w' : World) (b : Gb) (v : Value) (K : Gk) (e : Ending) : Prop := TakE (popO K.sk) e ∧ GkT w w' b v (nextK K)
theorem gknext_any (h : GkX w b v K) :
    Calls Tryz.prog 60 #[.pointer (some ⟨b.g, 0, none⟩)] w fun e w' => GkNxt w w' b v K e := by
  have B0 := Lib.hid (below_alloc0 w (.cells #[.int .i64 0, .int .i64 0] 93))
  have HG := Lib.hid (h.below B0.out)
  have HA := Lib.hid (heap_alloc_new w (.cells #[.int .i64 0, .int .i64 0] 93))
  obtain ⟨-, -, c2⟩ := HG.out.cells
  obtain ⟨o, ho⟩ : ∃ o, o = popO K.sk := ⟨_, rfl⟩
  obtain ⟨x, ha⟩ : ∃ a, a = (o.getD (0, 0)).1 := ⟨_, rfl⟩
  obtain ⟨y, hb⟩ : ∃ b, b = (o.getD (0, 0)).2 := ⟨_, rfl⟩
  obtain ⟨q, hq⟩ : ∃ q, q = o.isSome := ⟨_, rfl⟩
  have HE := Lib.hid (show ∀ e, TakE (popO K.sk) e → e = .returned (.tuple #[.agg #[.int .i64 x, .int .i64 y], .bool q]) by rw [← ho, ha, hb, hq]; exact fun e he => he)
  have HE2 := Lib.hid (show TakE (popO K.sk) (.returned (.tuple #[.agg #[.int .i64 x, .int .i64 y], .bool q])) by rw [← ho, ha, hb, hq]; rfl)
  have hlt := h.lt
  have HL := Lib.hid hlt
  clear h ho ha hb hq hlt
  go_enter Tryz.func60, Tryz.ntmps60
  go_wp2_with (first
    | (go_at_call 80; refine (gknone_any HG.out).mono ?_; rintro e w1 ⟨rfl, rfl⟩)
    | (go_at_call 116; refine (wtnext_any HG.out.sk).mono ?_; rintro e w2 ⟨he, ht⟩; obtain rfl := HE.out e he; obtain ⟨v', hx, ht⟩ := HG.out.withSk ht; have X2 := Lib.hid hx; have T2 := Lib.hid ht; have A2 := Lib.hid ((ht.heap (heap_lt HA.out) (fun hk => by have := HL.out _ hk; omega)).trans HA.out); clear he hx ht)
    | (refine wpList_store_row rfl 93 _ _ rfl w.heap.size #[.int .i64 x, .int .i64 y] rfl rfl 93 _ A2.out (by kernel_rfl) rfl (by kernel_rfl) ?_))
  refine bodyPost_ret (results_row_tmp rfl _ _ w.heap.size 93 #[.int .i64 x, .int .i64 y] _ _ rfl (heap_setRow_same _ A2.out) Tryz.underlying93 rfl (by kernel_rfl)) rfl ⟨?_, ?_⟩
  · exact HE2.out
  have hk : ∀ k ∈ gkfp b v', k ≠ w.heap.size := fun k hk e => by
    rcases T2.out.fr k hk with h1 | h1
    · have := HL.out k h1; omega
    · have h2 := heap_lt HA.out
      omega
  have h2 := (Turn.below (gkfp b v) B0.out).trans T2.out
  exact ⟨_, X2.out.keep fun k h1 => heap_setRow_other _ _ _ _ (hk k h1), h2.frm.trans_new (Frm.setRow (fp := [w.heap.size]) _ (List.mem_singleton.2 rfl) _) (fun k hk => by rw [List.mem_singleton.1 hk]; exact Nat.le_refl _), h2.fr⟩
def Gk.new (n : Int) : Gk := ⟨⟨[], clampN n 1 256, false⟩, List.replicate 32 0#64⟩
def GkNew (B : Nat) (n : Int) (e : Ending) (w' : World) : Prop := ∃ b : Gb, e = .returned (.pointer (some ⟨b.g, 0, none⟩)) ∧ GkX w' b (.slice none 0 0) (Gk.new n) ∧ ∀ k ∈ gkfp b (.slice none 0 0), B ≤ k
theorem gknew_any (n : Int) (w : World) :
    Calls Tryz.prog 55 #[.int .i64 n] w fun e w' => GkNew w.heap.size n e w' ∧ Below w.heap.size w w' := by
  go_enter Tryz.func55, Tryz.ntmps55
  go_wp2_with (first
    | (go_at_call 111; refine (sknew_any n _).mono ?_; rintro e w1 ⟨⟨s, rfl, hx, hs⟩, hb⟩; have X1 := Lib.hid hx; have S1 := Lib.hid hs; have B1 := Lib.hid hb; clear hx hs hb)
    | (go_at_call 112; refine (snew_any 2048 _).mono ?_; rintro e w2 ⟨rfl, hx, hb⟩; have M2 := Lib.hid hx; have B2 := Lib.hid hb; clear hx hb))
  go_ret
  have z1 := B1.out.size
  have z2 := B2.out.size
  have a1 := below_alloc0 w1 (.cells #[.pointer (some ⟨s, 0, none⟩)] 135)
  have a3 := below_alloc0 w2 (.cells #[.pointer (some ⟨w1.heap.size, 0, none⟩), .pointer (some ⟨w1.heap.size + 1, 0, none⟩)] 138)
  have hsz := heap_one w1 (.cells #[.pointer (some ⟨s, 0, none⟩)] 135)
  have hm := M2.out
  rw [← hsz, show (clampN 2048 0 2048).toNat = 2048 from rfl] at hm
  refine ⟨⟨⟨w2.heap.size, w1.heap.size, s, w1.heap.size + 1⟩, rfl, ⟨heap_alloc_new _ _, ?_, ?_, ?_⟩, ?_⟩, ?_⟩
  · exact (a3.block _ (show w1.heap.size < w2.heap.size by omega)).trans ((B2.out.block _ (show w1.heap.size < (w1.alloc (.cells #[.pointer (some ⟨s, 0, none⟩)] 135)).heap.size by omega)).trans (heap_alloc_new w1 _))
  · exact ((X1.out.below a1).below B2.out).below a3
  · exact hm.below a3
  · intro k hk
    have := S1.out
    simp only [gkfp, skfp, List.mem_cons, nil_blk, Option.toList_none, List.not_mem_nil, or_false] at hk
    omega
  · have q1 : Below w.heap.size w (w1.alloc (.cells #[.pointer (some ⟨s, 0, none⟩)] 135)) := B1.out.alloc z1 _
    exact (below_next q1 B2.out).alloc (by omega) _
end
end Go.Proofs.YtjoejjhgneccgaaGreatDoor

/- Objects, and their marks: in memory. -/
namespace Go.Proofs.YtjoejjhgneccgaaGreatDoor
open Go.RowKit

/-- All of a store's blocks. -/
def stfp (b : Sl) : List Nat := b.oc :: b.fp
section
variable {w w' : World} {b : Sl} {S : Sm}
theorem StX.lt (h : StX w b S) : ∀ k ∈ stfp b, k < w.heap.size := by
  intro k hk
  simp only [stfp, Sl.fp, List.mem_cons] at hk
  rcases hk with rfl | rfl | rfl | hk
  · exact heap_lt h.ca.hd
  · exact heap_lt h.hd
  · exact h.ca.mp.lt
  · exact h.cx.lt k hk
theorem StX.keep (h : StX w b S) (hk : ∀ k ∈ stfp b, w'.heap[k]? = w.heap[k]?) : StX w' b S :=
  ⟨(hk b.s (by simp [stfp, Sl.fp])).trans h.hd, h.cx.keep fun k e => hk k (by simp [stfp, Sl.fp, e]), h.ca.keep (hk b.oc (by simp [stfp])) (hk b.ob (by simp [stfp, Sl.fp]))⟩
theorem stfp_sub (b : Sl) : ∀ k ∈ b.fp, k ∈ stfp b := fun _ h => List.mem_cons_of_mem _ h
end
structure Hm where
  S : Sm
  K : Gk
structure Hb where
  st : Sl
  gk : Gb
def hmfp (b : Hb) (v : Value) : List Nat := stfp b.st ++ gkfp b.gk v
structure HX (w : World) (b : Hb) (v : Value) (H : Hm) : Prop where
  st : StX w b.st H.S
  gk : GkX w b.gk v H.K
  ap : ∀ k ∈ stfp b.st, k ∉ gkfp b.gk v
section
variable {w w' : World} {b : Hb} {v : Value} {H : Hm}
theorem HX.lt (h : HX w b v H) : ∀ k ∈ hmfp b v, k < w.heap.size := by
  intro k hk
  rcases List.mem_append.1 hk with hk | hk
  · exact h.st.lt k hk
  · exact h.gk.lt k hk
theorem HX.keep (h : HX w b v H) (hk : ∀ k ∈ hmfp b v, w'.heap[k]? = w.heap[k]?) : HX w' b v H :=
  ⟨h.st.keep fun k e => hk k (List.mem_append_left _ e), h.gk.keep fun k e => hk k (List.mem_append_right _ e), h.ap⟩
theorem HX.below (h : HX w b v H) (hb : Below w.heap.size w w') : HX w' b v H := h.keep fun k hk => hb.block k (h.lt k hk)
def HT (w w' : World) (b : Hb) (v : Value) (H' : Hm) : Prop := ∃ v', HX w' b v' H' ∧ Turn (hmfp b v) (hmfp b v') w w'
theorem HT.refl (h : HX w b v H) : HT w w b v H := ⟨v, h, Turn.refl _ _⟩
theorem HX.withSt {S' : Sm} (h : HX w b v H) (hf : Frm b.st.fp w w') (hx : StX w' b.st S') : HX w' b v { H with S := S' } ∧ Turn (hmfp b v) (hmfp b v) w w' :=
  ⟨⟨hx, h.gk.keep fun k hk => hf.block k (h.gk.lt k hk) fun e => h.ap k (stfp_sub _ k e) hk, h.ap⟩, Turn.of (hf.mono fun _ hk => List.mem_append_left _ (stfp_sub _ _ hk))⟩
theorem HX.withGk {K' : Gk} (h : HX w b v H) (ht : GkT w w' b.gk v K') : HT w w' b v { H with K := K' } := by
  obtain ⟨v', hx, ht⟩ := ht
  refine ⟨v', ⟨h.st.keep fun k hk => ht.heap (h.st.lt k hk) (h.ap k hk), hx, fun k hk hn => ?_⟩, ht.sub (fun _ hk => List.mem_append_right _ hk) fun k hk => ?_⟩
  · rcases ht.fr k hn with e | e
    · exact h.ap k hk e
    · have := h.st.lt k hk; omega
  · rcases List.mem_append.1 hk with e | e
    · exact .inr (List.mem_append_left _ e)
    · exact .inl e
/-- Grey that was turned in place. -/
theorem HX.withGk0 {K' : Gk} (h : HX w b v H) (hx : GkX w' b.gk v K') (ht : Turn (gkfp b.gk v) (gkfp b.gk v) w w') : HX w' b v { H with K := K' } ∧ Turn (hmfp b v) (hmfp b v) w w' :=
  ⟨⟨h.st.keep fun k hk => ht.heap (h.st.lt k hk) (h.ap k hk), hx, h.ap⟩, Turn.of (ht.frm.mono fun _ hk => List.mem_append_right _ hk)⟩
end
theorem inL_mem {S : Sm} {p x : Int} (hx : x ∈ inL S p) : ∃ a : Nat, x = a ∧ a ∈ bitsN S.C.ws ∧ pageI x = p := by
  unfold inL at hx
  rw [List.mem_filter] at hx
  obtain ⟨a, ha, rfl⟩ := mem_bitsI.1 hx.1
  exact ⟨a, rfl, ha, by simpa using hx.2⟩
theorem inL_len (S : Sm) (p : Int) : (inL S p).length ≤ 2048 := Nat.le_trans (List.length_filter_le _ _) (bitsI_len _)
end Go.Proofs.YtjoejjhgneccgaaGreatDoor

/- Freeing what is not marked: a sweeper in memory. -/
namespace Go.Proofs.YtjoejjhgneccgaaGreatDoor
open Go.RowKit

structure Swp where
  pages : Int
  at_ : Int
  freed : Int
structure SX (w : World) (x : Nat) (b : Hb) (v : Value) (H : Hm) (P : Swp) : Prop where
  hd : w.heap[x]? = some (.cells #[.pointer (some ⟨b.st.s, 0, none⟩), .pointer (some ⟨b.gk.g, 0, none⟩), .int .i64 P.pages, .int .i64 P.at_, .int .i64 P.freed] 27 (0, 0))
  hx : HX w b v H
  ap : x ∉ hmfp b v
  bd : 1 ≤ P.pages ∧ P.pages ≤ 64 ∧ 0 ≤ P.at_ ∧ P.at_ ≤ P.pages ∧ 0 ≤ P.freed ∧ P.freed ≤ 2048 * P.at_
def sxfp (x : Nat) (b : Hb) (v : Value) : List Nat := x :: hmfp b v
section
variable {w w' : World} {x : Nat} {b : Hb} {v : Value} {H : Hm} {P : Swp}
theorem SX.lt (h : SX w x b v H P) : ∀ k ∈ sxfp x b v, k < w.heap.size := by
  intro k hk
  rcases List.mem_cons.1 hk with rfl | hk
  · exact heap_lt h.hd
  · exact h.hx.lt k hk
theorem SX.keep (h : SX w x b v H P) (hk : ∀ k ∈ sxfp x b v, w'.heap[k]? = w.heap[k]?) : SX w' x b v H P :=
  ⟨(hk x (by simp [sxfp])).trans h.hd, h.hx.keep fun k e => hk k (by simp [sxfp, e]), h.ap, h.bd⟩
theorem SX.below (h : SX w x b v H P) (hb : Below w.heap.size w w') : SX w' x b v H P := h.keep fun k hk => hb.block k (h.lt k hk)
theorem SX.cells (h : SX w x b v H P) : w.cell? ⟨x, 0, none⟩ = some (.pointer (some ⟨b.st.s, 0, none⟩)) ∧ w.cell? ⟨x, 1, none⟩ = some (.pointer (some ⟨b.gk.g, 0, none⟩)) ∧ w.cell? ⟨x, 2, none⟩ = some (.int .i64 P.pages) ∧ w.cell? ⟨x, 3, none⟩ = some (.int .i64 P.at_) ∧ w.cell? ⟨x, 4, none⟩ = some (.int .i64 P.freed) ∧ w.frozen? ⟨x, 3, none⟩ = false ∧ w.frozen? ⟨x, 4, none⟩ = false :=
  ⟨cell_of_row _ _ _ _ _ _ h.hd, cell_of_row _ _ _ _ _ _ h.hd, cell_of_row _ _ _ _ _ _ h.hd, cell_of_row _ _ _ _ _ _ h.hd, cell_of_row _ _ _ _ _ _ h.hd, frozen_of_row _ _ _ _ _ h.hd, frozen_of_row _ _ _ _ _ h.hd⟩
def SXT (w w' : World) (x : Nat) (b : Hb) (v : Value) (H' : Hm) (P' : Swp) : Prop := ∃ v', SX w' x b v' H' P' ∧ Turn (sxfp x b v) (sxfp x b v') w w'
/-- The heap turned in place. -/
theorem SX.withH {H' : Hm} (h : SX w x b v H P) (hx : HX w' b v H') (ht : Turn (hmfp b v) (hmfp b v) w w') : SX w' x b v H' P ∧ Turn (sxfp x b v) (sxfp x b v) w w' :=
  ⟨⟨(ht.heap (heap_lt h.hd) h.ap).trans h.hd, hx, h.ap, h.bd⟩, Turn.of (ht.frm.mono fun _ hk => List.mem_cons_of_mem _ hk)⟩
/-- The sweeper's own cells turned. -/
theorem SX.put (h : SX w x b v H P) {a f : Int} (hp : 0 ≤ a ∧ a ≤ P.pages ∧ 0 ≤ f ∧ f ≤ 2048 * a) (h1 : w'.heap[x]? = some (.cells #[.pointer (some ⟨b.st.s, 0, none⟩), .pointer (some ⟨b.gk.g, 0, none⟩), .int .i64 P.pages, .int .i64 a, .int .i64 f] 27 (0, 0))) (h2 : ∀ k, k ≠ x → w'.heap[k]? = w.heap[k]?) : SX w' x b v H { P with at_ := a, freed := f } :=
  ⟨h1, h.hx.keep fun k hk => h2 k (fun e => h.ap (e ▸ hk)), h.ap, h.bd.1, h.bd.2.1, hp.1, hp.2.1, hp.2.2.1, hp.2.2.2⟩
theorem swat_any (h : SX w x b v H P) :
    Calls Tryz.prog 14 #[.pointer (some ⟨x, 0, none⟩)] w fun e w' => e = .returned (.int .i64 P.at_) ∧ w = w' := by
  obtain ⟨-, -, -, c3, -⟩ := h.cells
  clear h
  go_enter Tryz.func14, Tryz.ntmps14
  go_wp2_with fail
  go_ret
  exact ⟨rfl, rfl⟩
theorem swfreed_any (h : SX w x b v H P) :
    Calls Tryz.prog 16 #[.pointer (some ⟨x, 0, none⟩)] w fun e w' => e = .returned (.int .i64 P.freed) ∧ w = w' := by
  obtain ⟨-, -, -, -, c4, -⟩ := h.cells
  clear h
  go_enter Tryz.func16, Tryz.ntmps16
  go_wp2_with fail
  go_ret
  exact ⟨rfl, rfl⟩
def doneB (P : Swp) : Bool := decide (P.pages ≤ P.at_)
set_option maxRecDepth 100000 in
theorem swdone_any (h : SX w x b v H P) :
    Calls Tryz.prog 15 #[.pointer (some ⟨x, 0, none⟩)] w fun e w' => e = .returned (.bool (doneB P)) ∧ Below w.heap.size w w' := by
  obtain ⟨-, -, c2, c3, -⟩ := h.cells
  clear h
  unfold doneB
  cases hd : decide (P.pages ≤ P.at_)
  all_goals
    go_enter Tryz.func15, Tryz.ntmps15
    go_wp2_with fail
    go_quiet (fail)
    go_wp2_with fail
    go_ret
    exact ⟨rfl, below_drewN (Below.refl _ _) _⟩
def startP (P : Swp) : Swp := { P with at_ := 0, freed := 0 }
theorem swstart_any (h : SX w x b v H P) :
    Calls Tryz.prog 12 #[.pointer (some ⟨x, 0, none⟩)] w fun e w' => e = .returned (.tuple #[]) ∧ SX w' x b v H (startP P) ∧ Frm [x] w w' := by
  have HH := Lib.hid h
  obtain ⟨-, -, -, c3, c4, f3, f4⟩ := h.cells
  clear h
  go_enter Tryz.func12, Tryz.ntmps12
  go_wp2_with fail
  go_end0
  have hh := HH.out
  exact ⟨rfl, hh.put (by have := hh.bd; omega) (heap_setCell_same _ _ 4 _ _ _ (heap_setCell_same _ _ 3 _ _ _ hh.hd)) (fun k hk => (heap_setCell_other _ _ _ _ hk).trans (heap_setCell_other _ _ _ _ hk)),
    (Frm.setCell (fp := [x]) _ (by simp) _).trans (Frm.setCell (fp := [x]) _ (by simp) _) (fun _ h => .inl h)⟩
def Swp.new (pages : Int) : Swp := ⟨clampN pages 1 64, clampN pages 1 64, 0⟩
theorem swnew_any (h : HX w b v H) (pages : Int) :
    Calls Tryz.prog 11 #[.pointer (some ⟨b.st.s, 0, none⟩), .pointer (some ⟨b.gk.g, 0, none⟩), .int .i64 pages] w fun e w' => e = .returned (.pointer (some ⟨w.heap.size, 0, none⟩)) ∧ SX w' w.heap.size b v H (Swp.new pages) ∧ Below w.heap.size w w' := by
  have HH := Lib.hid h
  have B1 := Lib.hid (clampN_bd (a := pages) (lo := 1) (hi := 64) (by omega))
  clear h
  obtain ⟨p, hp⟩ : ∃ p, p = clampN pages 1 64 := ⟨_, rfl⟩
  have HP := Lib.hid hp
  clear hp
  go_enter Tryz.func11, Tryz.ntmps11
  go_wp2_with (go_at_call 58; refine (clampn_any pages 1 64 _).mono ?_; rw [← HP.out]; rintro e w1 ⟨rfl, rfl⟩)
  go_ret
  have hb := below_alloc0 w (.cells #[.pointer (some ⟨b.st.s, 0, none⟩), .pointer (some ⟨b.gk.g, 0, none⟩), .int .i64 p, .int .i64 p, .int .i64 0] 27)
  refine ⟨rfl, ⟨?_, HH.out.below hb, fun hk => ?_, ?_⟩, hb⟩
  · rw [heap_alloc_new, HP.out]; rfl
  · have := HH.out.lt _ hk; omega
  · have h1 := B1.out
    show 1 ≤ clampN pages 1 64 ∧ clampN pages 1 64 ≤ 64 ∧ 0 ≤ clampN pages 1 64 ∧ clampN pages 1 64 ≤ clampN pages 1 64 ∧ (0 : Int) ≤ 0 ∧ 0 ≤ 2048 * clampN pages 1 64
    omega
/-- What a page's object comes to. -/
def sweepF (y : Hm × Int) (a : Int) : Hm × Int :=
  if hasB 2048 y.1.K.ws a = true then ({ y.1 with K := clearK y.1.K a }, y.2) else ({ y.1 with S := freeS y.1.S a }, if hasO y.1.S a = true then y.2 + 1 else y.2)
def sweepL (H : Hm) (P : Swp) : Hm × Int := (inL H.S P.at_).foldl sweepF (H, P.freed)
def swUnitB (P : Swp) : Bool := !doneB P
def swUnit (H : Hm) (P : Swp) : Hm × Swp :=
  if doneB P = true then (H, P) else ({ (sweepL H P).1 with S := trimS (sweepL H P).1.S P.at_ }, { P with at_ := P.at_ + 1, freed := (sweepL H P).2 })
theorem sweepF_sj {y : Hm × Int} (h : SJ y.1.S) (a : Int) : SJ (sweepF y a).1.S := by
  unfold sweepF
  split
  · exact h
  · cases ho : hasO y.1.S a with
    | false => simp only [free_no ho]; exact h
    | true =>
      obtain ⟨z, rfl, hz⟩ := (h.has a).1 ho
      exact (h.free hz).1
theorem sweepF_bd (y : Hm × Int) (a : Int) : y.2 ≤ (sweepF y a).2 ∧ (sweepF y a).2 ≤ y.2 + 1 := by
  unfold sweepF
  split
  · dsimp only; omega
  · dsimp only
    split <;> omega
theorem sweepL_bd : ∀ (l : List Int) (y : Hm × Int), y.2 ≤ (l.foldl sweepF y).2 ∧ (l.foldl sweepF y).2 ≤ y.2 + l.length
  | [], y => by simp
  | a :: l, y => by
    have := sweepL_bd l (sweepF y a)
    have h2 := sweepF_bd y a
    simp only [List.foldl_cons, List.length_cons]
    omega
theorem sweepL_sj : ∀ (l : List Int) {y : Hm × Int}, SJ y.1.S → SJ (l.foldl sweepF y).1.S
  | [], _, h => h
  | a :: l, _, h => sweepL_sj l (sweepF_sj h a)
end
end Go.Proofs.YtjoejjhgneccgaaGreatDoor

/- Freeing what is not marked: a page. -/
namespace Go.Proofs.YtjoejjhgneccgaaGreatDoor
open Go.RowKit

section
variable {w w' : World} {x : Nat} {b : Hb} {v : Value} {H : Hm} {P : Swp}
def SwR (w w' : World) (x : Nat) (b : Hb) (v : Value) (H : Hm) (P : Swp) (e : Ending) : Prop := e = .returned (.bool (swUnitB P)) ∧ SX w' x b v (swUnit H P).1 (swUnit H P).2 ∧ Turn (sxfp x b v) (sxfp x b v) w w'
set_option maxHeartbeats 8000000 in
set_option maxRecDepth 100000 in
theorem swunit_any (h : SX w x b v H P) (sj : SJ H.S) (ht : Tab64 w) (hg : 0 < w.heap.size) :
    Calls Tryz.prog 13 #[.pointer (some ⟨x, 0, none⟩)] w fun e w' => SwR w w' x b v H P e := by
  have HH := Lib.hid h
  have SJ0 := Lib.hid sj
  have HTB := Lib.hid ht
  have HG := Lib.hid hg
  cases hd : doneB P with
  | true =>
    have HD := Lib.hid hd
    have HB := Lib.hid (show swUnitB P = false by unfold swUnitB; rw [hd]; rfl)
    have HU := Lib.hid (show swUnit H P = (H, P) by unfold swUnit; rw [if_pos hd])
    clear h sj ht hg hd
    go_enter Tryz.func13, Tryz.ntmps13
    go_wp2_with (go_at_call 15; refine (swdone_any HH.out).mono ?_; rw [HD.out]; rintro e w1 ⟨rfl, hb⟩; have B1 := Lib.hid hb; clear hb)
    go_ret
    exact ⟨ret_bool HB.out.symm, by rw [HU.out]; exact HH.out.below B1.out, Turn.below _ B1.out⟩
  | false =>
    have HD := Lib.hid hd
    have HB := Lib.hid (show swUnitB P = true by unfold swUnitB; rw [hd]; rfl)
    have HU := Lib.hid (show swUnit H P = ({ (sweepL H P).1 with S := trimS (sweepL H P).1.S P.at_ }, { P with at_ := P.at_ + 1, freed := (sweepL H P).2 }) by unfold swUnit; rw [if_neg (by rw [hd]; decide)])
    have hbd := h.bd
    have hlt : P.at_ < P.pages := by unfold doneB at hd; rw [decide_eq_false_iff_not] at hd; omega
    have HBD := Lib.hid (show 0 ≤ P.at_ ∧ P.at_ < P.pages ∧ P.pages ≤ 64 ∧ 0 ≤ P.freed ∧ P.freed ≤ 2048 * P.at_ by omega)
    have HL := Lib.hid h.lt
    obtain ⟨xs, hxs⟩ : ∃ xs, xs = inL H.S P.at_ := ⟨_, rfl⟩
    have HXS := Lib.hid hxs
    have HXL := Lib.hid (show xs.length ≤ 2048 by rw [hxs]; exact inL_len _ _)
    clear h sj ht hg hd hbd hlt hxs
    go_enter Tryz.func13, Tryz.ntmps13
    go_wp2_with (go_at_call 15; refine (swdone_any HH.out).mono ?_; rw [HD.out]; rintro e w1 ⟨rfl, hb⟩; have B1 := Lib.hid hb; clear hb)
    have B2 := Lib.hid B1.out.drew
    have H2 := Lib.hid (HH.out.below B2.out)
    have T2 := Lib.hid (HTB.out.below B2.out HG.out)
    have G2 := Lib.hid (Nat.lt_of_lt_of_le HG.out B2.out.size)
    obtain ⟨c0, -, -, c3, -⟩ := (HH.out.below B1.out).cells
    go_region_held3 (fun w' => w'.cell? ⟨x, 0, none⟩ = some (.pointer (some ⟨b.st.s, 0, none⟩)) ∧ w'.cell? ⟨x, 3, none⟩ = some (.int .i64 P.at_)) (first | (go_split_ands; exact ⟨by assumption, by assumption⟩) | go_keep)
      (first | (go_at_call 47; refine (sin2_any H2.out.hx.st T2.out G2.out P.at_).mono ?_; rw [← HXS.out]; rintro e w3 ⟨⟨v, rfl, hr⟩, hb⟩; obtain ⟨A, cap, rfl, -, -, -⟩ := hr.slice; obtain ⟨d0, -, -, d3, -⟩ := (H2.out.below hb).cells; have R3 := Lib.hid hr; have B3 := Lib.hid hb; clear hr hb))
    have H3 := Lib.hid (H2.out.below B3.out)
    have T3 := Lib.hid ((Turn.below (sxfp x b v) B2.out).then B3.out)
    go_wp2_with fail
    go_loopw [17] (fun i wr => ∃ (k : Nat), i = .int .i64 (k : Int) ∧ k ≤ xs.length ∧ Hid (SJ ((xs.take k).foldl sweepF (H, P.freed)).1.S) ∧ Hid (HX wr b v ((xs.take k).foldl sweepF (H, P.freed)).1) ∧ Hid (wr.heap[x]? = some (.cells #[.pointer (some ⟨b.st.s, 0, none⟩), .pointer (some ⟨b.gk.g, 0, none⟩), .int .i64 P.pages, .int .i64 P.at_, .int .i64 ((xs.take k).foldl sweepF (H, P.freed)).2] 27 (0, 0))) ∧ Hid (Frm (sxfp x b v) w3 wr)) (fun i _ => 2050 - (intOf i).toNat)
    case atStart => exact ⟨0, rfl, Nat.zero_le _, SJ0, Lib.hid H3.out.hx, Lib.hid H3.out.hd, Lib.hid (Frm.refl _ _)⟩
    case round =>
      obtain ⟨k, rfl, hk, HSJ, HX, HC, HF⟩ := hrel
      have hbd := sweepL_bd (xs.take k) (H, P.freed)
      rw [List.length_take] at hbd
      obtain ⟨y, hy⟩ : ∃ y, y = (xs.take k).foldl sweepF (H, P.freed) := ⟨_, rfl⟩
      rw [← hy] at HSJ HX HC hbd
      have hbd2 : 0 ≤ y.2 ∧ y.2 ≤ P.freed + k ∧ k ≤ 2048 := by have := HXL.out; have := HBD.out; simp only at hbd; omega
      have c0 := cell_of_row _ _ 0 _ _ _ HC.out
      have c1 := cell_of_row _ _ 1 _ _ _ HC.out
      have c3 := cell_of_row _ _ 3 _ _ _ HC.out
      by_cases hlt : k < xs.length
      · have hd : decide (k < xs.length) = true := by simpa using hlt
        obtain ⟨g, rfl, cx⟩ := (R3.out.frm HF.out (fun k hk => Nat.lt_of_lt_of_le (HL.out k hk) B2.out.size)).read.2 k hlt
        have i1 : (0 : Int) ≤ (k : Int) := by omega
        have i2 : (k : Int) < (xs.length : Int) := by omega
        obtain ⟨a, hx⟩ : ∃ a, a = xs.getD k 0 := ⟨_, rfl⟩
        rw [← hx] at cx
        have HT1 := Lib.hid (show (xs.take (k + 1)).foldl sweepF (H, P.freed) = sweepF y a by rw [take_one hlt, List.foldl_append, ← hy, ← hx]; rfl)
        have k1 : IntKind.i64.wrap ((k : Int) + 1) = ((k + 1 : Nat) : Int) := by have := HXL.out; rw [IntKind.wrap_i64]; omega
        have k2 : IntKind.i64.wrap (y.2 + 1) = y.2 + 1 := by have := HBD.out; rw [IntKind.wrap_i64]; omega
        have HK := Lib.hid hlt
        have c4 := cell_of_row _ _ 4 _ _ _ HC.out
        clear hx hlt hk hy hbd hbd2
        cases hm : hasB 2048 y.1.K.ws a with
        | true =>
          have HM := Lib.hid hm
          have HQ := Lib.hid (show sweepF y a = ({ y.1 with K := clearK y.1.K a }, y.2) by unfold sweepF; rw [if_pos hm])
          have HSJ2 := Lib.hid (sweepF_sj HSJ.out a)
          clear hm
          go_wp2_with (go_at_call 59; refine (gkclear_any HX.out.gk a).mono ?_; rw [HM.out]; rintro e w4 ⟨rfl, hx4, ht4⟩; obtain ⟨hx5, ht5⟩ := HX.out.withGk0 hx4 ht4; have C4 := Lib.hid ((ht5.heap (heap_lt HC.out) H3.out.ap).trans HC.out); have X4 := Lib.hid hx5; have F4 := Lib.hid (HF.out.trans (ht5.frm.mono (fp' := sxfp x b v) (fun _ hk => List.mem_cons_of_mem _ hk)) (fun _ h => .inl h)); clear hx4 ht4 hx5 ht5)
          go_roundw
          case rel => exact ⟨k + 1, rfl, HK.out, by rw [HT1.out]; exact HSJ2, Lib.hid (by rw [HT1.out, HQ.out]; exact X4.out), Lib.hid (by rw [HT1.out, HQ.out]; exact C4.out), F4⟩
          case measure => have := HK.out; have := HXL.out; simp only [intOf]; omega
        | false =>
          have HM := Lib.hid hm
          have HCK := Lib.hid (show clearK y.1.K a = y.1.K by unfold clearK remL; rw [hm]; rfl)
          have HSJ2 := Lib.hid (sweepF_sj HSJ.out a)
          cases ho : hasO y.1.S a with
          | true =>
            have HO := Lib.hid ho
            have HQ := Lib.hid (show sweepF y a = ({ y.1 with S := freeS y.1.S a }, y.2 + 1) by unfold sweepF; rw [if_neg (by rw [hm]; decide), if_pos ho])
            clear hm ho
            go_wp2_with (first
              | (go_at_call 59; refine (gkclear_any HX.out.gk a).mono ?_; rw [HM.out, HCK.out]; rintro e w4 ⟨rfl, hx4, ht4⟩; obtain ⟨hx5, ht5⟩ := HX.out.withGk0 hx4 ht4; have hc4 := (ht5.heap (heap_lt HC.out) H3.out.ap).trans HC.out; have e0 := cell_of_row _ _ 0 _ _ _ hc4; have C4 := Lib.hid hc4; have X4 := Lib.hid hx5; have F4 := Lib.hid (HF.out.trans (ht5.frm.mono (fp' := sxfp x b v) (fun _ hk => List.mem_cons_of_mem _ hk)) (fun _ h => .inl h)); clear hx4 ht4 hx5 ht5 hc4)
              | (go_at_call 41; refine (sfree_any X4.out.st HSJ.out.si a).mono ?_; rw [show hasO y.1.S a = true from HO.out]; rintro e w5 ⟨rfl, hx5, hf5⟩; obtain ⟨hx6, ht6⟩ := X4.out.withSt hf5 hx5; have hc5 := (ht6.heap (heap_lt C4.out) H3.out.ap).trans C4.out; have f4 := cell_of_row _ _ 4 _ _ _ hc5; have f5 := frozen_of_row _ x 4 _ _ hc5; have C5 := Lib.hid hc5; have X5 := Lib.hid hx6; have F5 := Lib.hid (F4.out.trans (ht6.frm.mono (fp' := sxfp x b v) (fun _ hk => List.mem_cons_of_mem _ hk)) (fun _ h => .inl h)); clear hx5 hf5 hx6 ht6 hc5))
            go_roundw
            case rel => exact ⟨k + 1, rfl, HK.out, by rw [HT1.out]; exact HSJ2, Lib.hid (by rw [HT1.out, HQ.out]; exact X5.out.keep fun k hk => heap_setCell_other _ _ _ _ (fun e => H3.out.ap ((show k = x from e) ▸ hk))), Lib.hid (by rw [HT1.out, HQ.out]; exact heap_setCell_same _ _ 4 _ _ _ C5.out), Lib.hid (F5.out.trans (Frm.setCell (fp := sxfp x b v) _ (by simp [sxfp]) _) (fun _ h => .inl h))⟩
            case measure => have := HK.out; have := HXL.out; simp only [intOf]; omega
          | false =>
            have HO := Lib.hid ho
            have HQ := Lib.hid (show sweepF y a = ({ y.1 with S := freeS y.1.S a }, y.2) by unfold sweepF; rw [if_neg (by rw [hm]; decide), if_neg (by rw [ho]; decide)])
            clear hm ho
            go_wp2_with (first
              | (go_at_call 59; refine (gkclear_any HX.out.gk a).mono ?_; rw [HM.out, HCK.out]; rintro e w4 ⟨rfl, hx4, ht4⟩; obtain ⟨hx5, ht5⟩ := HX.out.withGk0 hx4 ht4; have hc4 := (ht5.heap (heap_lt HC.out) H3.out.ap).trans HC.out; have e0 := cell_of_row _ _ 0 _ _ _ hc4; have C4 := Lib.hid hc4; have X4 := Lib.hid hx5; have F4 := Lib.hid (HF.out.trans (ht5.frm.mono (fp' := sxfp x b v) (fun _ hk => List.mem_cons_of_mem _ hk)) (fun _ h => .inl h)); clear hx4 ht4 hx5 ht5 hc4)
              | (go_at_call 41; refine (sfree_any X4.out.st HSJ.out.si a).mono ?_; rw [show hasO y.1.S a = false from HO.out]; rintro e w5 ⟨rfl, hx5, hf5⟩; obtain ⟨hx6, ht6⟩ := X4.out.withSt hf5 hx5; have C5 := Lib.hid ((ht6.heap (heap_lt C4.out) H3.out.ap).trans C4.out); have X5 := Lib.hid hx6; have F5 := Lib.hid (F4.out.trans (ht6.frm.mono (fp' := sxfp x b v) (fun _ hk => List.mem_cons_of_mem _ hk)) (fun _ h => .inl h)); clear hx5 hf5 hx6 ht6))
            go_roundw
            case rel => exact ⟨k + 1, rfl, HK.out, by rw [HT1.out]; exact HSJ2, Lib.hid (by rw [HT1.out, HQ.out]; exact X5.out), Lib.hid (by rw [HT1.out, HQ.out]; exact C5.out), F5⟩
            case measure => have := HK.out; have := HXL.out; simp only [intOf]; omega
      · have hd : decide (k < xs.length) = false := by simpa using hlt
        have HE := Lib.hid (show y = sweepL H P by rw [hy, take_all (by omega), HXS.out]; rfl)
        have HZ := Lib.hid hbd2
        have k2 : IntKind.i64.wrap (P.at_ + 1) = P.at_ + 1 := by have := HBD.out; rw [IntKind.wrap_i64]; omega
        clear hlt hk hy hbd hbd2
        go_wp2_with fail
        refine region_tail 8 (by kernel_rfl) (by kernel_rfl) ?_
        simp only [List.take_succ_cons, List.take_zero, List.drop_succ_cons, List.drop_zero]
        repeat still_step
        refine wpStill_nil ?_
        have X5 := Lib.hid (HX.out.below (Below.refl _ _).drew)
        go_wp2_with (go_at_call 43; refine (strim_any X5.out.st P.at_).mono ?_; rintro e w6 ⟨rfl, hx6, hf6⟩; obtain ⟨hx7, ht7⟩ := X5.out.withSt hf6 hx6; have hc7 := (ht7.heap (heap_lt (show _ = _ from HC.out)) H3.out.ap).trans HC.out; have g3 := cell_of_row _ _ 3 _ _ _ hc7; have g4 := frozen_of_row _ x 3 _ _ hc7; have C7 := Lib.hid hc7; have X7 := Lib.hid hx7; have F7 := Lib.hid (ht7.frm.mono (fp' := sxfp x b v) (fun _ hk => List.mem_cons_of_mem _ hk)); clear hx6 hf6 hx7 ht7 hc7)
        go_ret
        refine ⟨ret_bool HB.out.symm, ?_, ?_⟩
        · rw [HU.out, ← HE.out]
          refine ⟨heap_setCell_same _ _ 3 _ _ _ C7.out, X7.out.keep fun k hk => heap_setCell_other _ _ _ _ (fun e => H3.out.ap ((show k = x from e) ▸ hk)), H3.out.ap, ?_⟩
          have := HBD.out
          have := HZ.out
          show 1 ≤ P.pages ∧ P.pages ≤ 64 ∧ 0 ≤ P.at_ + 1 ∧ P.at_ + 1 ≤ P.pages ∧ 0 ≤ y.2 ∧ y.2 ≤ 2048 * (P.at_ + 1)
          omega
        · exact ((T3.out.trans (Turn.of HF.out)).trans (Turn.below _ (Below.refl _ _).drew)).trans (Turn.of (F7.out.trans (Frm.setCell (fp := sxfp x b v) _ (by simp [sxfp]) _) (fun _ h => .inl h)))
end
end Go.Proofs.YtjoejjhgneccgaaGreatDoor
