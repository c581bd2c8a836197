/- What is grey: entries put back, taken, asked; shaded; made. -/
import Derived.Test.YtjoejjhgneccgaaGreatDoorQTN18
import Derived.Test.YtjoejjhgneccgaaGreatDoorQTN19
namespace Go.Proofs.YtjoejjhgneccgaaGreatDoor
open Go.RowKit

section
variable {w w' : World} {s : Nat} {v : Value} {K : Sk}
/-- What waits, by value. -/
def wtO (s : Nat) : Obj := .cells #[.pointer (some ⟨s, 0, none⟩)] 135
theorem wt_box (w : World) (s : Nat) : (w.alloc (wtO s)).cell? ⟨w.heap.size, 0, none⟩ = some (.pointer (some ⟨s, 0, none⟩)) := cell_of_row _ _ _ _ _ _ (heap_alloc_new w _)
theorem wtwaiting_any (h : SkX w s v K) :
    Calls Tryz.prog 81 #[.agg #[.pointer (some ⟨s, 0, none⟩)]] w fun e w' => e = .returned (.int .i64 K.st.length) ∧ Below w.heap.size w w' := by
  have B0 := Lib.hid (below_alloc0 w (wtO s))
  have H := Lib.hid (h.below B0.out)
  have c0 := wt_box w s
  unfold wtO at *
  clear h
  go_enter Tryz.func81, Tryz.ntmps81
  go_wp2_with (go_at_call 135; refine (sklen_any H.out).mono ?_; rintro e w1 ⟨rfl, rfl⟩)
  go_ret
  exact ⟨rfl, B0.out⟩
theorem wtover_any (h : SkX w s v K) :
    Calls Tryz.prog 119 #[.agg #[.pointer (some ⟨s, 0, none⟩)]] w fun e w' => e = .returned (.bool K.ov) ∧ Below w.heap.size w w' := by
  have B0 := Lib.hid (below_alloc0 w (wtO s))
  have H := Lib.hid (h.below B0.out)
  have c0 := wt_box w s
  unfold wtO at *
  clear h
  go_enter Tryz.func119, Tryz.ntmps119
  go_wp2_with (go_at_call 169; refine (skover_any H.out).mono ?_; rintro e w1 ⟨rfl, rfl⟩)
  go_ret
  exact ⟨rfl, B0.out⟩
theorem wtsettle_any (h : SkX w s v K) :
    Calls Tryz.prog 118 #[.agg #[.pointer (some ⟨s, 0, none⟩)]] w fun e w' => e = .returned (.bool K.ov) ∧ SkT w w' s v { K with ov := false } := by
  have B0 := Lib.hid (below_alloc0 w (wtO s))
  have H := Lib.hid (h.below B0.out)
  have c0 := wt_box w s
  unfold wtO at *
  clear h
  go_enter Tryz.func118, Tryz.ntmps118
  go_wp2_with (go_at_call 168; refine (sksettle_any H.out).mono ?_; rintro e w1 ⟨rfl, ht⟩; have T1 := Lib.hid ht; clear ht)
  go_ret
  exact ⟨rfl, T1.out.under B0.out⟩
theorem wtrest_any (h : SkX w s v K) (x : Int × Int) :
    Calls Tryz.prog 133 #[.agg #[.pointer (some ⟨s, 0, none⟩)], .agg #[.int .i64 x.1, .int .i64 x.2]] w fun e w' => e = .returned (.bool (pushB K)) ∧ SkT w w' s v (pushK K x) := by
  have B0 := Lib.hid ((below_alloc0 w (wtO s)).alloc (below_alloc0 w (wtO s)).size (.cells #[.int .i64 x.1, .int .i64 x.2] 93))
  have H := Lib.hid (h.below B0.out)
  have c0 := cell_keep (below_alloc0 _ (.cells #[.int .i64 x.1, .int .i64 x.2] 93)) (wt_box w s)
  have hz := heap_one w (wtO s)
  have c1 : ((w.alloc (wtO s)).alloc (.cells #[.int .i64 x.1, .int .i64 x.2] 93)).cell? ⟨w.heap.size + 1, 0, none⟩ = some (.int .i64 x.1) := by rw [hz]; exact cell_of_row _ _ _ _ _ _ (heap_alloc_new _ _)
  have c2 : ((w.alloc (wtO s)).alloc (.cells #[.int .i64 x.1, .int .i64 x.2] 93)).cell? ⟨w.heap.size + 1, 1, none⟩ = some (.int .i64 x.2) := by rw [hz]; exact cell_of_row _ _ _ _ _ _ (heap_alloc_new _ _)
  unfold wtO at *
  clear h hz
  go_enter Tryz.func133, Tryz.ntmps133
  go_wp2_with (go_at_call 176; refine (skpush_any H.out x).mono ?_; rintro e w1 ⟨rfl, ht⟩; have T1 := Lib.hid ht; clear ht)
  go_ret
  exact ⟨rfl, T1.out.under B0.out⟩
theorem wtnext_any (h : SkX w s v K) :
    Calls Tryz.prog 116 #[.agg #[.pointer (some ⟨s, 0, none⟩)]] w fun e w' => PopRs w w' s v K e := by
  have B0 := Lib.hid ((below_alloc0 w (wtO s)).alloc (below_alloc0 w (wtO s)).size (.cells #[.int .i64 0, .int .i64 0] 93))
  have HG := Lib.hid (h.below B0.out)
  have c0 := cell_keep (below_alloc0 _ (.cells #[.int .i64 0, .int .i64 0] 93)) (wt_box w s)
  have HA : Hid (((w.alloc (wtO s)).alloc (.cells #[.int .i64 0, .int .i64 0] 93)).heap[w.heap.size + 1]? = some (.cells #[.int .i64 0, .int .i64 0] 93 (0, 0))) := Lib.hid (by rw [heap_one w (wtO s)]; exact heap_alloc_new _ _)
  obtain ⟨o, ho⟩ : ∃ o, o = popO K := ⟨_, rfl⟩
  obtain ⟨a, ha⟩ : ∃ a, a = (o.getD (0, 0)).1 := ⟨_, rfl⟩
  obtain ⟨b, hb⟩ : ∃ b, b = (o.getD (0, 0)).2 := ⟨_, rfl⟩
  obtain ⟨q, hq⟩ : ∃ q, q = o.isSome := ⟨_, rfl⟩
  have HE := Lib.hid (show ∀ e, TakE (popO K) e → e = .returned (.tuple #[.agg #[.int .i64 a, .int .i64 b], .bool q]) by rw [← ho, ha, hb, hq]; exact fun e he => he)
  have HE2 := Lib.hid (show TakE (popO K) (.returned (.tuple #[.agg #[.int .i64 a, .int .i64 b], .bool q])) by rw [← ho, ha, hb, hq]; rfl)
  have hlt := h.lt
  have HL := Lib.hid hlt
  unfold wtO at *
  clear h ho ha hb hq hlt
  go_enter Tryz.func116, Tryz.ntmps116
  go_wp2_with (first
    | (go_at_call 167; refine (skpop_any HG.out).mono ?_; rintro e w2 ⟨he, ht⟩; obtain rfl := HE.out e he; obtain ⟨v', hx, ht⟩ := ht; have X2 := Lib.hid hx; have T2 := Lib.hid ht; have A2 := Lib.hid ((ht.heap (heap_lt HA.out) (fun hk => by have := HL.out _ hk; omega)).trans HA.out); clear he hx ht)
    | (refine wpList_store_row rfl 93 _ _ rfl (w.heap.size + 1) #[.int .i64 a, .int .i64 b] rfl rfl 93 _ A2.out (by kernel_rfl) rfl (by kernel_rfl) ?_))
  refine bodyPost_ret (results_row_tmp rfl _ _ (w.heap.size + 1) 93 #[.int .i64 a, .int .i64 b] _ _ rfl (heap_setRow_same _ A2.out) Tryz.underlying93 rfl (by kernel_rfl)) rfl ⟨?_, ?_⟩
  · exact HE2.out
  have hk : ∀ k ∈ skfp s v', k ≠ w.heap.size + 1 := fun k hk e => by
    rcases T2.out.fr k hk with h1 | h1
    · have := HL.out k h1; omega
    · have h2 := heap_lt HA.out
      omega
  have h2 := (Turn.below (skfp s v) B0.out).trans T2.out
  exact ⟨_, X2.out.keep fun k h1 => heap_setRow_other _ _ _ _ (hk k h1), h2.frm.trans_new (Frm.setRow (fp := [w.heap.size + 1]) _ (List.mem_singleton.2 rfl) _) (fun k hk => by rw [List.mem_singleton.1 hk]; omega), h2.fr⟩
end
section
variable {w w' : World} {b : Gb} {v : Value} {K : Gk}
theorem gkwaiting_any (h : GkX w b v K) :
    Calls Tryz.prog 32 #[.pointer (some ⟨b.g, 0, none⟩)] w fun e w' => e = .returned (.int .i64 K.sk.st.length) ∧ Below w.heap.size w w' := by
  have H := Lib.hid h
  obtain ⟨-, -, c2⟩ := h.cells
  clear h
  go_enter Tryz.func32, Tryz.ntmps32
  go_wp2_with (first
    | (go_at_call 80; refine (gknone_any H.out).mono ?_; rintro e w1 ⟨rfl, rfl⟩)
    | (go_at_call 81; refine (wtwaiting_any H.out.sk).mono ?_; rintro e w1 ⟨rfl, hb⟩; have B1 := Lib.hid hb; clear hb))
  go_ret
  exact ⟨rfl, B1.out⟩
theorem gkover_any (h : GkX w b v K) :
    Calls Tryz.prog 65 #[.pointer (some ⟨b.g, 0, none⟩)] w fun e w' => e = .returned (.bool K.sk.ov) ∧ Below w.heap.size w w' := by
  have H := Lib.hid h
  obtain ⟨-, -, c2⟩ := h.cells
  clear h
  go_enter Tryz.func65, Tryz.ntmps65
  go_wp2_with (first
    | (go_at_call 80; refine (gknone_any H.out).mono ?_; rintro e w1 ⟨rfl, rfl⟩)
    | (go_at_call 119; refine (wtover_any H.out.sk).mono ?_; rintro e w1 ⟨rfl, hb⟩; have B1 := Lib.hid hb; clear hb))
  go_ret
  exact ⟨rfl, B1.out⟩
def settleK (K : Gk) : Gk := { K with sk := { K.sk with ov := false } }
theorem gksettle_any (h : GkX w b v K) :
    Calls Tryz.prog 62 #[.pointer (some ⟨b.g, 0, none⟩)] w fun e w' => e = .returned (.bool K.sk.ov) ∧ GkT w w' b v (settleK K) := by
  have H := Lib.hid h
  obtain ⟨-, -, c2⟩ := h.cells
  clear h
  go_enter Tryz.func62, Tryz.ntmps62
  go_wp2_with (first
    | (go_at_call 80; refine (gknone_any H.out).mono ?_; rintro e w1 ⟨rfl, rfl⟩)
    | (go_at_call 118; refine (wtsettle_any H.out.sk).mono ?_; rintro e w1 ⟨rfl, ht⟩; have T1 := Lib.hid (H.out.withSk ht); clear ht))
  go_ret
  exact ⟨rfl, T1.out⟩
def restB (K : Gk) : Bool := pushB K.sk
def restK (K : Gk) (x : Int × Int) : Gk := { K with sk := pushK K.sk x }
set_option maxHeartbeats 1000000 in
set_option maxRecDepth 100000 in
theorem gkrest_any (h : GkX w b v K) (x : Int × Int) :
    Calls Tryz.prog 75 #[.pointer (some ⟨b.g, 0, none⟩), .agg #[.int .i64 x.1, .int .i64 x.2]] w fun e w' => e = .returned (.bool (restB K)) ∧ GkT w w' b v (restK K x) := by
  have B0 := Lib.hid (below_alloc0 w (.cells #[.int .i64 x.1, .int .i64 x.2] 93))
  have H := Lib.hid (h.below B0.out)
  have c0 : (w.alloc (.cells #[.int .i64 x.1, .int .i64 x.2] 93)).cell? ⟨w.heap.size, 0, none⟩ = some (.int .i64 x.1) := cell_of_row _ _ _ _ _ _ (heap_alloc_new w _)
  have c1 : (w.alloc (.cells #[.int .i64 x.1, .int .i64 x.2] 93)).cell? ⟨w.heap.size, 1, none⟩ = some (.int .i64 x.2) := cell_of_row _ _ _ _ _ _ (heap_alloc_new w _)
  obtain ⟨-, -, c2⟩ := H.out.cells
  clear h
  go_enter Tryz.func75, Tryz.ntmps75
  go_wp2_with fail
  have HD := Lib.hid (H.out.below (Below.refl _ _).drew)
  refine region_tail 5 (by kernel_rfl) (by kernel_rfl) ?_
  simp only [List.take_succ_cons, List.take_zero, List.drop_succ_cons, List.drop_zero]
  repeat still_step
  still_call ((gknone_any HD.out).mono fun e w' ⟨h1, h2⟩ => ⟨h1, h2.symm⟩)
  repeat still_step
  refine wpStill_nil ?_
  go_wp2_with (go_at_call 133; refine (wtrest_any HD.out.sk x).mono ?_; rintro e w1 ⟨rfl, ht⟩; have T1 := Lib.hid (HD.out.withSk ht); clear ht)
  go_ret
  exact ⟨rfl, T1.out.under B0.out.drew⟩
def shadeK (K : Gk) (a : Int) : Gk := if addB 2048 K.ws a = true then restK (blackK K a) (a, 0) else K
theorem gkshade_any (h : GkX w b v K) (a : Int) :
    Calls Tryz.prog 28 #[.pointer (some ⟨b.g, 0, none⟩), .int .i64 a] w fun e w' => e = .returned (.bool (addB 2048 K.ws a)) ∧ GkT w w' b v (shadeK K a) := by
  have H := Lib.hid h
  clear h
  cases hr : addB 2048 K.ws a with
  | true =>
    have HR := Lib.hid hr
    have HS := Lib.hid (show shadeK K a = restK (blackK K a) (a, 0) by unfold shadeK; rw [if_pos hr])
    clear hr
    go_enter Tryz.func28, Tryz.ntmps28
    go_wp2_with (first
      | (go_at_call 56; refine (gkblack_any H.out a).mono ?_; rw [HR.out]; rintro e w1 ⟨rfl, hx, ht⟩; have H1 := Lib.hid hx; have T1 := Lib.hid ht; clear hx ht)
      | (go_at_call 75; refine (gkrest_any H1.out (a, 0)).mono ?_; rintro e w2 ⟨rfl, v', hx, ht⟩; have H2 := Lib.hid hx; have T2 := Lib.hid (T1.out.trans ht); clear hx ht))
    go_ret
    exact ⟨rfl, by rw [HS.out]; exact ⟨_, H2.out, T2.out⟩⟩
  | false =>
    have HR := Lib.hid hr
    have HS := Lib.hid (show shadeK K a = K by unfold shadeK; rw [hr]; rfl)
    have HB := Lib.hid (show blackK K a = K by unfold blackK addL; rw [hr]; rfl)
    clear hr
    go_enter Tryz.func28, Tryz.ntmps28
    go_wp2_with (go_at_call 56; refine (gkblack_any H.out a).mono ?_; rw [HR.out, HB.out]; rintro e w1 ⟨rfl, hx, ht⟩; have H1 := Lib.hid hx; have T1 := Lib.hid ht; clear hx ht)
    go_ret
    exact ⟨rfl, by rw [HS.out]; exact ⟨_, H1.out, T1.out⟩⟩
def nextK (K : Gk) : Gk := { K with sk := popK K.sk }
def GkNxt (w w' : World) (b : Gb) (v : Value) (K : Gk) (e : Ending) : Prop := TakE (popO K.sk) e ∧ GkT w w' b v (nextK K)
theorem gknext_any (h : GkX w b v K) :
    Calls Tryz.prog 60 #[.pointer (some ⟨b.g, 0, none⟩)] w fun e w' => GkNxt w w' b v K e := by
  have B0 := Lib.hid (below_alloc0 w (.cells #[.int .i64 0, .int .i64 0] 93))
  have HG := Lib.hid (h.below B0.out)
  have HA := Lib.hid (heap_alloc_new w (.cells #[.int .i64 0, .int .i64 0] 93))
  obtain ⟨-, -, c2⟩ := HG.out.cells
  obtain ⟨o, ho⟩ : ∃ o, o = popO K.sk := ⟨_, rfl⟩
  obtain ⟨x, ha⟩ : ∃ a, a = (o.getD (0, 0)).1 := ⟨_, rfl⟩
  obtain ⟨y, hb⟩ : ∃ b, b = (o.getD (0, 0)).2 := ⟨_, rfl⟩
  obtain ⟨q, hq⟩ : ∃ q, q = o.isSome := ⟨_, rfl⟩
  have HE := Lib.hid (show ∀ e, TakE (popO K.sk) e → e = .returned (.tuple #[.agg #[.int .i64 x, .int .i64 y], .bool q]) by rw [← ho, ha, hb, hq]; exact fun e he => he)
  have HE2 := Lib.hid (show TakE (popO K.sk) (.returned (.tuple #[.agg #[.int .i64 x, .int .i64 y], .bool q])) by rw [← ho, ha, hb, hq]; rfl)
  have hlt := h.lt
  have HL := Lib.hid hlt
  clear h ho ha hb hq hlt
  go_enter Tryz.func60, Tryz.ntmps60
  go_wp2_with (first
    | (go_at_call 80; refine (gknone_any HG.out).mono ?_; rintro e w1 ⟨rfl, rfl⟩)
    | (go_at_call 116; refine (wtnext_any HG.out.sk).mono ?_; rintro e w2 ⟨he, ht⟩; obtain rfl := HE.out e he; obtain ⟨v', hx, ht⟩ := HG.out.withSk ht; have X2 := Lib.hid hx; have T2 := Lib.hid ht; have A2 := Lib.hid ((ht.heap (heap_lt HA.out) (fun hk => by have := HL.out _ hk; omega)).trans HA.out); clear he hx ht)
    | (refine wpList_store_row rfl 93 _ _ rfl w.heap.size #[.int .i64 x, .int .i64 y] rfl rfl 93 _ A2.out (by kernel_rfl) rfl (by kernel_rfl) ?_))
  refine bodyPost_ret (results_row_tmp rfl _ _ w.heap.size 93 #[.int .i64 x, .int .i64 y] _ _ rfl (heap_setRow_same _ A2.out) Tryz.underlying93 rfl (by kernel_rfl)) rfl ⟨?_, ?_⟩
  · exact HE2.out
  have hk : ∀ k ∈ gkfp b v', k ≠ w.heap.size := fun k hk e => by
    rcases T2.out.fr k hk with h1 | h1
    · have := HL.out k h1; omega
    · have h2 := heap_lt HA.out
      omega
  have h2 := (Turn.below (gkfp b v) B0.out).trans T2.out
  exact ⟨_, X2.out.keep fun k h1 => heap_setRow_other _ _ _ _ (hk k h1), h2.frm.trans_new (Frm.setRow (fp := [w.heap.size]) _ (List.mem_singleton.2 rfl) _) (fun k hk => by rw [List.mem_singleton.1 hk]; exact Nat.le_refl _), h2.fr⟩
def Gk.new (n : Int) : Gk := ⟨⟨[], clampN n 1 256, false⟩, List.replicate 32 0#64⟩
def GkNew (B : Nat) (n : Int) (e : Ending) (w' : World) : Prop := ∃ b : Gb, e = .returned (.pointer (some ⟨b.g, 0, none⟩)) ∧ GkX w' b (.slice none 0 0) (Gk.new n) ∧ ∀ k ∈ gkfp b (.slice none 0 0), B ≤ k
theorem gknew_any (n : Int) (w : World) :
    Calls Tryz.prog 55 #[.int .i64 n] w fun e w' => GkNew w.heap.size n e w' ∧ Below w.heap.size w w' := by
  go_enter Tryz.func55, Tryz.ntmps55
  go_wp2_with (first
    | (go_at_call 111; refine (sknew_any n _).mono ?_; rintro e w1 ⟨⟨s, rfl, hx, hs⟩, hb⟩; have X1 := Lib.hid hx; have S1 := Lib.hid hs; have B1 := Lib.hid hb; clear hx hs hb)
    | (go_at_call 112; refine (snew_any 2048 _).mono ?_; rintro e w2 ⟨rfl, hx, hb⟩; have M2 := Lib.hid hx; have B2 := Lib.hid hb; clear hx hb))
  go_ret
  have z1 := B1.out.size
  have z2 := B2.out.size
  have a1 := below_alloc0 w1 (.cells #[.pointer (some ⟨s, 0, none⟩)] 135)
  have a3 := below_alloc0 w2 (.cells #[.pointer (some ⟨w1.heap.size, 0, none⟩), .pointer (some ⟨w1.heap.size + 1, 0, none⟩)] 138)
  have hsz := heap_one w1 (.cells #[.pointer (some ⟨s, 0, none⟩)] 135)
  have hm := M2.out
  rw [← hsz, show (clampN 2048 0 2048).toNat = 2048 from rfl] at hm
  refine ⟨⟨⟨w2.heap.size, w1.heap.size, s, w1.heap.size + 1⟩, rfl, ⟨heap_alloc_new _ _, ?_, ?_, ?_⟩, ?_⟩, ?_⟩
  · exact (a3.block _ (show w1.heap.size < w2.heap.size by omega)).trans ((B2.out.block _ (show w1.heap.size < (w1.alloc (.cells #[.pointer (some ⟨s, 0, none⟩)] 135)).heap.size by omega)).trans (heap_alloc_new w1 _))
  · exact ((X1.out.below a1).below B2.out).below a3
  · exact hm.below a3
  · intro k hk
    have := S1.out
    simp only [gkfp, skfp, List.mem_cons, nil_blk, Option.toList_none, List.not_mem_nil, or_false] at hk
    omega
  · have q1 : Below w.heap.size w (w1.alloc (.cells #[.pointer (some ⟨s, 0, none⟩)] 135)) := B1.out.alloc z1 _
    exact (below_next q1 B2.out).alloc (by omega) _
end
end Go.Proofs.YtjoejjhgneccgaaGreatDoor

/- Objects, and their marks: in memory. -/
namespace Go.Proofs.YtjoejjhgneccgaaGreatDoor
open Go.RowKit

/-- All of a store's blocks. -/
def stfp (b : Sl) : List Nat := b.oc :: b.fp
section
variable {w w' : World} {b : Sl} {S : Sm}
theorem StX.lt (h : StX w b S) : ∀ k ∈ stfp b, k < w.heap.size := by
  intro k hk
  simp only [stfp, Sl.fp, List.mem_cons] at hk
  rcases hk with rfl | rfl | rfl | hk
  · exact heap_lt h.ca.hd
  · exact heap_lt h.hd
  · exact h.ca.mp.lt
  · exact h.cx.lt k hk
theorem StX.keep (h : StX w b S) (hk : ∀ k ∈ stfp b, w'.heap[k]? = w.heap[k]?) : StX w' b S :=
  ⟨(hk b.s (by simp [stfp, Sl.fp])).trans h.hd, h.cx.keep fun k e => hk k (by simp [stfp, Sl.fp, e]), h.ca.keep (hk b.oc (by simp [stfp])) (hk b.ob (by simp [stfp, Sl.fp]))⟩
theorem stfp_sub (b : Sl) : ∀ k ∈ b.fp, k ∈ stfp b := fun _ h => List.mem_cons_of_mem _ h
end
structure Hm where
  S : Sm
  K : Gk
structure Hb where
  st : Sl
  gk : Gb
def hmfp (b : Hb) (v : Value) : List Nat := stfp b.st ++ gkfp b.gk v
structure HX (w : World) (b : Hb) (v : Value) (H : Hm) : Prop where
  st : StX w b.st H.S
  gk : GkX w b.gk v H.K
  ap : ∀ k ∈ stfp b.st, k ∉ gkfp b.gk v
section
variable {w w' : World} {b : Hb} {v : Value} {H : Hm}
theorem HX.lt (h : HX w b v H) : ∀ k ∈ hmfp b v, k < w.heap.size := by
  intro k hk
  rcases List.mem_append.1 hk with hk | hk
  · exact h.st.lt k hk
  · exact h.gk.lt k hk
theorem HX.keep (h : HX w b v H) (hk : ∀ k ∈ hmfp b v, w'.heap[k]? = w.heap[k]?) : HX w' b v H :=
  ⟨h.st.keep fun k e => hk k (List.mem_append_left _ e), h.gk.keep fun k e => hk k (List.mem_append_right _ e), h.ap⟩
theorem HX.below (h : HX w b v H) (hb : Below w.heap.size w w') : HX w' b v H := h.keep fun k hk => hb.block k (h.lt k hk)
def HT (w w' : World) (b : Hb) (v : Value) (H' : Hm) : Prop := ∃ v', HX w' b v' H' ∧ Turn (hmfp b v) (hmfp b v') w w'
theorem HT.refl (h : HX w b v H) : HT w w b v H := ⟨v, h, Turn.refl _ _⟩
theorem HX.withSt {S' : Sm} (h : HX w b v H) (hf : Frm b.st.fp w w') (hx : StX w' b.st S') : HX w' b v { H with S := S' } ∧ Turn (hmfp b v) (hmfp b v) w w' :=
  ⟨⟨hx, h.gk.keep fun k hk => hf.block k (h.gk.lt k hk) fun e => h.ap k (stfp_sub _ k e) hk, h.ap⟩, Turn.of (hf.mono fun _ hk => List.mem_append_left _ (stfp_sub _ _ hk))⟩
theorem HX.withGk {K' : Gk} (h : HX w b v H) (ht : GkT w w' b.gk v K') : HT w w' b v { H with K := K' } := by
  obtain ⟨v', hx, ht⟩ := ht
  refine ⟨v', ⟨h.st.keep fun k hk => ht.heap (h.st.lt k hk) (h.ap k hk), hx, fun k hk hn => ?_⟩, ht.sub (fun _ hk => List.mem_append_right _ hk) fun k hk => ?_⟩
  · rcases ht.fr k hn with e | e
    · exact h.ap k hk e
    · have := h.st.lt k hk; omega
  · rcases List.mem_append.1 hk with e | e
    · exact .inr (List.mem_append_left _ e)
    · exact .inl e
/-- Grey that was turned in place. -/
theorem HX.withGk0 {K' : Gk} (h : HX w b v H) (hx : GkX w' b.gk v K') (ht : Turn (gkfp b.gk v) (gkfp b.gk v) w w') : HX w' b v { H with K := K' } ∧ Turn (hmfp b v) (hmfp b v) w w' :=
  ⟨⟨h.st.keep fun k hk => ht.heap (h.st.lt k hk) (h.ap k hk), hx, h.ap⟩, Turn.of (ht.frm.mono fun _ hk => List.mem_append_right _ hk)⟩
end
theorem inL_mem {S : Sm} {p x : Int} (hx : x ∈ inL S p) : ∃ a : Nat, x = a ∧ a ∈ bitsN S.C.ws ∧ pageI x = p := by
  unfold inL at hx
  rw [List.mem_filter] at hx
  obtain ⟨a, ha, rfl⟩ := mem_bitsI.1 hx.1
  exact ⟨a, rfl, ha, by simpa using hx.2⟩
theorem inL_len (S : Sm) (p : Int) : (inL S p).length ≤ 2048 := Nat.le_trans (List.length_filter_le _ _) (bitsI_len _)
end Go.Proofs.YtjoejjhgneccgaaGreatDoor

/- Going through what is grey: a tracer in memory; through some fields. -/
namespace Go.Proofs.YtjoejjhgneccgaaGreatDoor
open Go.RowKit

structure Trc where
  pages : Int
  chunk : Int
  page : Int
structure TX (w : World) (t : Nat) (b : Hb) (v : Value) (H : Hm) (T : Trc) : Prop where
  hd : w.heap[t]? = some (.cells #[.pointer (some ⟨b.st.s, 0, none⟩), .pointer (some ⟨b.gk.g, 0, none⟩), .int .i64 T.pages, .int .i64 T.chunk, .int .i64 T.page] 33 (0, 0))
  hx : HX w b v H
  ap : t ∉ hmfp b v
  bd : 1 ≤ T.pages ∧ T.pages ≤ 64 ∧ 1 ≤ T.chunk ∧ T.chunk ≤ 16 ∧ -1 ≤ T.page ∧ T.page < T.pages
def txfp (t : Nat) (b : Hb) (v : Value) : List Nat := t :: hmfp b v
section
variable {w w' : World} {t : Nat} {b : Hb} {v : Value} {H : Hm} {T : Trc}
theorem TX.lt (h : TX w t b v H T) : ∀ k ∈ txfp t b v, k < w.heap.size := by
  intro k hk
  rcases List.mem_cons.1 hk with rfl | hk
  · exact heap_lt h.hd
  · exact h.hx.lt k hk
theorem TX.keep (h : TX w t b v H T) (hk : ∀ k ∈ txfp t b v, w'.heap[k]? = w.heap[k]?) : TX w' t b v H T :=
  ⟨(hk t (by simp [txfp])).trans h.hd, h.hx.keep fun k e => hk k (by simp [txfp, e]), h.ap, h.bd⟩
theorem TX.below (h : TX w t b v H T) (hb : Below w.heap.size w w') : TX w' t b v H T := h.keep fun k hk => hb.block k (h.lt k hk)
theorem TX.cells (h : TX w t b v H T) : w.cell? ⟨t, 0, none⟩ = some (.pointer (some ⟨b.st.s, 0, none⟩)) ∧ w.cell? ⟨t, 1, none⟩ = some (.pointer (some ⟨b.gk.g, 0, none⟩)) ∧ w.cell? ⟨t, 2, none⟩ = some (.int .i64 T.pages) ∧ w.cell? ⟨t, 3, none⟩ = some (.int .i64 T.chunk) ∧ w.cell? ⟨t, 4, none⟩ = some (.int .i64 T.page) ∧ w.frozen? ⟨t, 4, none⟩ = false :=
  ⟨cell_of_row _ _ _ _ _ _ h.hd, cell_of_row _ _ _ _ _ _ h.hd, cell_of_row _ _ _ _ _ _ h.hd, cell_of_row _ _ _ _ _ _ h.hd, cell_of_row _ _ _ _ _ _ h.hd, frozen_of_row _ _ _ _ _ h.hd⟩
def TXT (w w' : World) (t : Nat) (b : Hb) (v : Value) (H' : Hm) (T' : Trc) : Prop := ∃ v', TX w' t b v' H' T' ∧ Turn (txfp t b v) (txfp t b v') w w'
theorem TXT.refl (h : TX w t b v H T) : TXT w w t b v H T := ⟨v, h, Turn.refl _ _⟩
theorem TXT.trans {w1 : World} {v1 : Value} {H' : Hm} {T' : Trc} (ht : Turn (txfp t b v) (txfp t b v1) w w1) (h : TXT w1 w' t b v1 H' T') : TXT w w' t b v H' T' := by
  obtain ⟨v', h1, h2⟩ := h
  exact ⟨v', h1, ht.trans h2⟩
theorem TX.withH {H' : Hm} (h : TX w t b v H T) (hT : HT w w' b v H') : TXT w w' t b v H' T := by
  obtain ⟨v', hx, ht⟩ := hT
  refine ⟨v', ⟨(ht.heap (heap_lt h.hd) h.ap).trans h.hd, hx, fun hk => ?_, h.bd⟩, ht.sub (fun k hk => by simp [txfp, hk]) fun k hk => ?_⟩
  · rcases ht.fr t hk with e | e
    · exact h.ap e
    · have := heap_lt h.hd; omega
  · rcases List.mem_cons.1 hk with rfl | e
    · exact .inr (by simp [txfp])
    · exact .inl e
theorem TX.setPage (h : TX w t b v H T) {p : Int} (hp : -1 ≤ p ∧ p < T.pages) : TX (w.setCell ⟨t, 4, none⟩ (.int .i64 p)) t b v H { T with page := p } :=
  ⟨heap_setCell_same _ _ 4 _ _ _ h.hd, h.hx.keep fun k hk => heap_setCell_other _ _ _ _ (fun e => h.ap ((show k = t from e) ▸ hk)), h.ap, h.bd.1, h.bd.2.1, h.bd.2.2.1, h.bd.2.2.2.1, hp.1, hp.2⟩
theorem TX.put (h : TX w t b v H T) {p : Int} (hp : -1 ≤ p ∧ p < T.pages) (h1 : w'.heap[t]? = some (.cells #[.pointer (some ⟨b.st.s, 0, none⟩), .pointer (some ⟨b.gk.g, 0, none⟩), .int .i64 T.pages, .int .i64 T.chunk, .int .i64 p] 33 (0, 0))) (h2 : ∀ k, k ≠ t → w'.heap[k]? = w.heap[k]?) : TX w' t b v H { T with page := p } :=
  ⟨h1, h.hx.keep fun k hk => h2 k (fun e => h.ap (e ▸ hk)), h.ap, h.bd.1, h.bd.2.1, h.bd.2.2.1, h.bd.2.2.2.1, hp.1, hp.2⟩
theorem frm_two {w : World} {t n : Nat} {fp : List Nat} (ht : t ∈ fp) (i j : Nat) (x y : Value) : Frm fp w (((w.setCell ⟨t, i, none⟩ x).drewN n).setCell ⟨t, j, none⟩ y) :=
  ((Frm.setCell (fp := fp) w ht x).trans (Frm.drewN _ n) (fun _ h => .inl h)).trans (Frm.setCell (fp := fp) _ ht y) (fun _ h => .inl h)
/-- A field's reference is shaded. -/
def stepK (C : Cs) (K : Gk) (a i : Nat) : Gk := if ((fldN C a i).1 == 2) = true then shadeK K (fldN C a i).2 else K
def throughK (C : Cs) (K : Gk) (a i : Nat) : Nat → Gk
  | 0 => K
  | n + 1 => stepK C (throughK C K a i n) a (i + n)
def ThrR (w w' : World) (t : Nat) (b : Hb) (v : Value) (H : Hm) (T : Trc) (a i n : Nat) (e : Ending) : Prop := e = .returned (.tuple #[]) ∧ TXT w w' t b v { H with K := throughK H.S.C H.K a i n } T
set_option maxHeartbeats 4000000 in
set_option maxRecDepth 100000 in
theorem tthrough_any (h : TX w t b v H T) (sj : SJ H.S) {a i n : Nat} (ha : a ∈ bitsN H.S.C.ws) (hn : i + n ≤ lenN H.S.C a) :
    Calls Tryz.prog 117 #[.pointer (some ⟨t, 0, none⟩), .int .i64 a, .int .i64 i, .int .i64 ((i + n : Nat) : Int)] w fun e w' => ThrR w w' t b v H T a i n e := by
  have HH := Lib.hid h
  have SJ0 := Lib.hid sj
  have HA := Lib.hid ha
  have HN := Lib.hid hn
  have h127 := (sj.ob a ha).at_.2.1
  have HM := Lib.hid (show i + n ≤ 127 by omega)
  clear h sj ha hn h127
  obtain ⟨m, hm⟩ : ∃ m, m = i + n := ⟨_, rfl⟩
  have HMM := Lib.hid hm
  rw [← hm]
  clear hm
  go_enter Tryz.func117, Tryz.ntmps117
  go_wp2_with fail
  go_loopw [8] (fun x wr => ∃ (k : Nat) (v' : Value), x = .int .i64 ((i + k : Nat) : Int) ∧ k ≤ n ∧ Hid (TX wr t b v' { H with K := throughK H.S.C H.K a i k } T) ∧ Hid (Turn (txfp t b v) (txfp t b v') w wr)) (fun x _ => 200 - (intOf x).toNat)
  case atStart => exact ⟨0, v, rfl, Nat.zero_le _, HH, Lib.hid (Turn.refl _ _)⟩
  case round =>
    obtain ⟨k, v', rfl, hk, HX, HT⟩ := hrel
    obtain ⟨j, hj⟩ : ∃ j, j = i + k := ⟨_, rfl⟩
    rw [← hj]
    by_cases hlt : k < n
    · have hd : decide (j < m) = true := by have := HMM.out; simp; omega
      have hg := get_in SJ0.out HA.out (j := j) (by have := HN.out; omega)
      obtain ⟨⟨x, y⟩, hxy⟩ : ∃ u, u = fldN H.S.C a j := ⟨_, rfl⟩
      rw [← hxy] at hg
      have HG := Lib.hid hg
      have k1 : IntKind.i64.wrap ((j : Int) + 1) = ((i + (k + 1) : Nat) : Int) := by have := HM.out; rw [IntKind.wrap_i64]; omega
      have d0 := HX.out.cells.1
      have HK := Lib.hid hlt
      have hm := HM.out
      have HJ := Lib.hid (show j ≤ 126 ∧ j = i + k by omega)
      cases hx : (x == 2) with
      | true =>
        obtain rfl : x = 2 := by simpa using hx
        have HS := Lib.hid (show throughK H.S.C H.K a i (k + 1) = shadeK (throughK H.S.C H.K a i k) y by show stepK _ _ _ _ = _; unfold stepK; rw [← hj, ← hxy]; rfl)
        clear hlt hk hg hxy hj hx hm
        go_wp2_with (go_at_call 40; refine (sget_any HX.out.hx.st SJ0.out a j).mono ?_; rw [HG.out]; rintro e w2 ⟨rfl, hb⟩; have hx2 := HX.out.below hb; have B2 := Lib.hid hb; have H2 := Lib.hid hx2; obtain ⟨e0, e1, -⟩ := hx2.cells; clear hb hx2)
        have B3 := Lib.hid ((below_alloc0 w2 (.cells #[.int .i64 2, .int .i64 y] 70)).drew)
        have f1 := cell_keep (below_alloc0 w2 (.cells #[.int .i64 2, .int .i64 y] 70)) e1
        have f2 : (w2.alloc (.cells #[.int .i64 2, .int .i64 y] 70)).cell? ⟨w2.heap.size, 1, none⟩ = some (.int .i64 y) := cell_of_row _ _ _ _ _ _ (heap_alloc_new w2 _)
        have H3 := Lib.hid (H2.out.below B3.out)
        refine region_tail 6 (by kernel_rfl) (by kernel_rfl) ?_
        simp only [List.take_succ_cons, List.take_zero, List.drop_succ_cons, List.drop_zero]
        repeat still_step
        refine wpStill_nil ?_
        go_wp2_with (go_at_call 28; refine (gkshade_any H3.out.hx.gk y).mono ?_; rintro e w4 ⟨rfl, ht⟩; obtain ⟨v4, hx4, ht4⟩ := H3.out.withH (H3.out.hx.withGk ht); have X4 := Lib.hid hx4; have T4 := Lib.hid (((HT.out.then B2.out).then B3.out).trans ht4); clear ht hx4 ht4)
        go_roundw
        case rel => exact ⟨k + 1, v4, rfl, HK.out, Lib.hid (by rw [HS.out]; exact X4.out), T4⟩
        case measure => have := HJ.out.1; have := HJ.out.2; simp only [intOf]; omega
      | false =>
        have HS := Lib.hid (show throughK H.S.C H.K a i (k + 1) = throughK H.S.C H.K a i k by show stepK _ _ _ _ = _; unfold stepK; rw [← hj, ← hxy, hx]; rfl)
        clear hlt hk hg hxy hj hm
        go_wp2_with (go_at_call 40; refine (sget_any HX.out.hx.st SJ0.out a j).mono ?_; rw [HG.out]; rintro e w2 ⟨rfl, hb⟩; have B2 := Lib.hid hb; have H2 := Lib.hid (HX.out.below hb); clear hb)
        have B3 := Lib.hid (below_alloc0 w2 (.cells #[.int .i64 x, .int .i64 y] 70))
        go_roundw
        case rel => exact ⟨k + 1, v', rfl, HK.out, Lib.hid (by rw [HS.out]; exact H2.out.below B3.out), Lib.hid ((HT.out.then B2.out).then B3.out)⟩
        case measure => have := HJ.out.1; have := HJ.out.2; simp only [intOf]; omega
    · have hd : decide (j < m) = false := by have := HMM.out; simp; omega
      have HE := Lib.hid (show k = n by omega)
      clear hlt hk hj
      go_wp2_with fail
      go_end0
      exact ⟨rfl, v', by rw [← HE.out]; exact HX.out, HT.out⟩
end
end Go.Proofs.YtjoejjhgneccgaaGreatDoor
