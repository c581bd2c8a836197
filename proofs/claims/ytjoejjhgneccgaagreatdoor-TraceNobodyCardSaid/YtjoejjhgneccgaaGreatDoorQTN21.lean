/- Going through what is grey: an entry; a page, again. -/
import Derived.Test.YtjoejjhgneccgaaGreatDoorQTN20
namespace Go.Proofs.YtjoejjhgneccgaaGreatDoor
open Go.RowKit

section
variable {w w' : World} {t : Nat} {b : Hb} {v : Value} {H : Hm} {T : Trc}
theorem tthrough_zero (h : TX w t b v H T) (sj : SJ H.S) {a m : Nat} (ha : a ∈ bitsN H.S.C.ws) (hm : lenN H.S.C a = m) :
    Calls Tryz.prog 117 #[.pointer (some ⟨t, 0, none⟩), .int .i64 a, .int .i64 0, .int .i64 m] w fun e w' => ThrR w w' t b v H T a 0 m e := by
  have := tthrough_any h sj (i := 0) (n := m) ha (by omega)
  rw [Nat.zero_add] at this
  exact this
theorem tthrough_to (h : TX w t b v H T) (sj : SJ H.S) {a i n m : Nat} (ha : a ∈ bitsN H.S.C.ws) (hn : i + n ≤ lenN H.S.C a) (e : m = i + n) :
    Calls Tryz.prog 117 #[.pointer (some ⟨t, 0, none⟩), .int .i64 a, .int .i64 i, .int .i64 m] w fun e w' => ThrR w w' t b v H T a i n e := by
  subst e
  exact tthrough_any h sj ha hn
theorem tis_any (h : TX w t b v H T) :
    Calls Tryz.prog 64 #[.pointer (some ⟨t, 0, none⟩)] w fun e w' => e = .returned (.bool true) ∧ w = w' := by
  obtain ⟨-, -, c2, -⟩ := h.cells
  have hp : decide (0 < T.pages) = true := by have := h.bd; simp; omega
  clear h
  go_enter Tryz.func64, Tryz.ntmps64
  go_wp2_with fail
  go_ret
  exact ⟨rfl, rfl⟩
theorem tpage_any (h : TX w t b v H T) :
    Calls Tryz.prog 21 #[.pointer (some ⟨t, 0, none⟩)] w fun e w' => e = .returned (.int .i64 T.page) ∧ w = w' := by
  have HH := Lib.hid h
  obtain ⟨-, -, -, -, c4, -⟩ := h.cells
  clear h
  go_enter Tryz.func21, Tryz.ntmps21
  go_wp2_with (go_at_call 64; refine (tis_any HH.out).mono ?_; rintro e w1 ⟨rfl, rfl⟩)
  go_ret
  exact ⟨rfl, rfl⟩
def lookStep (C : Cs) (K : Gk) (a : Int) : Gk := if hasB 2048 K.ws a = true then throughK C K a.toNat 0 (lenN C a.toNat) else K
def lookK (S : Sm) (K : Gk) (p : Int) : Gk := (inL S p).foldl (lookStep S.C) K
def nextP' (T : Trc) : Int := if T.page + 1 = T.pages then -1 else T.page + 1
def LookR (w w' : World) (t : Nat) (b : Hb) (v : Value) (H : Hm) (T : Trc) (e : Ending) : Prop := e = .returned (.tuple #[]) ∧ TXT w w' t b v { H with K := lookK H.S H.K T.page } { T with page := nextP' T }
set_option maxHeartbeats 4000000 in
set_option maxRecDepth 100000 in
theorem tlook_any (h : TX w t b v H T) (sj : SJ H.S) (h0 : 0 ≤ T.page) (ht : Tab64 w) (hg : 0 < w.heap.size) :
    Calls Tryz.prog 63 #[.pointer (some ⟨t, 0, none⟩)] w fun e w' => LookR w w' t b v H T e := by
  have BD := Lib.hid (Below.refl w.heap.size w).drew
  have HH := Lib.hid (h.below BD.out)
  have HTB := Lib.hid (show Tab64 w.drew from ht.below BD.out hg)
  have HG := Lib.hid hg
  have SJ0 := Lib.hid sj
  have HB := Lib.hid (show 0 ≤ T.page ∧ T.page < T.pages ∧ T.pages ≤ 64 from ⟨h0, h.bd.2.2.2.2.2, h.bd.2.1⟩)
  have HL := Lib.hid h.lt
  obtain ⟨c0, -, -, -, c4, -⟩ := h.cells
  obtain ⟨xs, hxs⟩ : ∃ xs, xs = inL H.S T.page := ⟨_, rfl⟩
  have HXS := Lib.hid hxs
  have HXL := Lib.hid (show xs.length ≤ 2048 by rw [hxs]; exact inL_len _ _)
  clear h sj h0 hxs ht hg
  go_enter Tryz.func63, Tryz.ntmps63
  go_wp2_with fail
  go_region_held3 (fun w' => w'.cell? ⟨t, 0, none⟩ = some (.pointer (some ⟨b.st.s, 0, none⟩)) ∧ w'.cell? ⟨t, 4, none⟩ = some (.int .i64 T.page)) (first | (go_split_ands; exact ⟨by assumption, by assumption⟩) | go_keep)
    (first | (go_at_call 47; refine (sin2_any HH.out.hx.st HTB.out HG.out T.page).mono ?_; rw [← HXS.out]; rintro e w1 ⟨⟨v, rfl, hr⟩, hb⟩; obtain ⟨A, cap, rfl, -, -, -⟩ := hr.slice; obtain ⟨d0, -, -, -, d4, -⟩ := (HH.out.below hb).cells; have R1 := Lib.hid hr; have B1 := Lib.hid hb; clear hr hb))
  have H1 := Lib.hid (HH.out.below B1.out)
  go_wp2_with fail
  go_loopw [14] (fun i wr => ∃ (k : Nat) (v' : Value), i = .int .i64 (k : Int) ∧ k ≤ xs.length ∧ Hid (TX wr t b v' { H with K := (xs.take k).foldl (lookStep H.S.C) H.K } T) ∧ Hid (Turn (txfp t b v) (txfp t b v') w1 wr)) (fun i _ => 2050 - (intOf i).toNat)
  case atStart => exact ⟨0, v, rfl, Nat.zero_le _, H1, Lib.hid (Turn.refl _ _)⟩
  case round =>
    obtain ⟨k, v', rfl, hk, HX, HT⟩ := hrel
    obtain ⟨K, hK⟩ : ∃ K, K = (xs.take k).foldl (lookStep H.S.C) H.K := ⟨_, rfl⟩
    rw [← hK] at HX
    by_cases hlt : k < xs.length
    · have hd : decide (k < xs.length) = true := by simpa using hlt
      obtain ⟨g, rfl, cx⟩ := (R1.out.frm HT.out.frm HL.out).read.2 k hlt
      have i1 : (0 : Int) ≤ (k : Int) := by omega
      have i2 : (k : Int) < (xs.length : Int) := by omega
      obtain ⟨a, hx, ha, -⟩ := inL_mem (S := H.S) (p := T.page) (x := xs.getD k 0) (by rw [← HXS.out, List.getD_eq_getElem?_getD, List.getElem?_eq_getElem hlt]; exact List.getElem_mem _)
      rw [hx] at cx
      have HF := Lib.hid (show (xs.take (k + 1)).foldl (lookStep H.S.C) H.K = lookStep H.S.C K (a : Int) by rw [take_one hlt, List.foldl_append, ← hK, hx]; rfl)
      have k1 : IntKind.i64.wrap ((k : Int) + 1) = ((k + 1 : Nat) : Int) := by have := HXL.out; rw [IntKind.wrap_i64]; omega
      have HA := Lib.hid ha
      have HK := Lib.hid hlt
      obtain ⟨d0, d1, -⟩ := HX.out.cells
      clear hlt hk hK hx ha
      cases hm : hasB 2048 K.ws (a : Int) with
      | true =>
        have HM := Lib.hid hm
        have HS := Lib.hid (show lookStep H.S.C K (a : Int) = throughK H.S.C K a 0 (lenN H.S.C a) by unfold lookStep; rw [hm, Int.toNat_natCast]; rfl)
        obtain ⟨m, hm2⟩ : ∃ m, m = lenN H.S.C a := ⟨_, rfl⟩
        have HR := Lib.hid (show (readV H.S (a : Int)).2 = (m : Int) by rw [SJ0.out.read HA.out, hm2])
        have HMM := Lib.hid hm2.symm
        rw [← hm2] at HS
        clear hm2
        clear hm
        go_wp2_with (first
          | (go_at_call 57; refine (gkis_any HX.out.hx.gk a).mono ?_; rw [HM.out]; rintro e w2 ⟨rfl, rfl⟩)
          | (go_at_call 44; refine (sfields_any HX.out.hx.st a).mono ?_; rw [HR.out]; rintro e w2 ⟨rfl, rfl⟩)
          | (go_at_call 117; refine (tthrough_zero HX.out SJ0.out HA.out HMM.out).mono ?_; rintro e w2 ⟨rfl, v2, hx2, ht2⟩; have X2 := Lib.hid hx2; have T2 := Lib.hid (HT.out.trans ht2); clear hx2 ht2))
        go_roundw
        case rel => exact ⟨k + 1, v2, rfl, HK.out, Lib.hid (by rw [HF.out, HS.out]; exact X2.out), T2⟩
        case measure => have := HK.out; have := HXL.out; simp only [intOf]; omega
      | false =>
        have HM := Lib.hid hm
        have HS := Lib.hid (show lookStep H.S.C K (a : Int) = K by unfold lookStep; rw [hm]; rfl)
        clear hm
        go_wp2_with (go_at_call 57; refine (gkis_any HX.out.hx.gk a).mono ?_; rw [HM.out]; rintro e w2 ⟨rfl, rfl⟩)
        go_roundw
        case rel => exact ⟨k + 1, v', rfl, HK.out, Lib.hid (by rw [HF.out, HS.out]; exact HX.out), HT⟩
        case measure => have := HK.out; have := HXL.out; simp only [intOf]; omega
    · have hd : decide (k < xs.length) = false := by simpa using hlt
      have HE := Lib.hid (show K = lookK H.S H.K T.page by rw [hK, take_all (by omega), HXS.out]; rfl)
      obtain ⟨-, -, d2, -, d4, d5⟩ := HX.out.cells
      have TT := Lib.hid (((Turn.below (txfp t b v) BD.out).then B1.out).trans HT.out)
      have p1 : IntKind.i64.wrap (T.page + 1) = T.page + 1 := by have := HB.out; rw [IntKind.wrap_i64]; omega
      clear hlt hk hK
      by_cases hpe : T.page + 1 = T.pages
      · have hpe' : (T.page + 1 == T.pages) = true := by simpa using hpe
        have HN := Lib.hid (show nextP' T = -1 by unfold nextP'; rw [if_pos hpe])
        clear hpe
        go_wp2_with fail
        go_quiet (fail)
        go_wp2_with fail
        go_end0
        refine ⟨rfl, v', ?_, TT.out.trans (Turn.of (frm_two (by simp [txfp]) _ _ _ _))⟩
        have hx := HX.out
        rw [HE.out] at hx
        rw [HN.out]
        exact hx.put (by have := HB.out; omega) (heap_setCell_same _ _ 4 _ _ _ (heap_setCell_same _ _ 4 _ _ _ hx.hd)) (fun k hk => (heap_setCell_other _ _ _ _ hk).trans (heap_setCell_other _ _ _ _ hk))
      · have hpe' : (T.page + 1 == T.pages) = false := by simpa using hpe
        have HN := Lib.hid (show nextP' T = T.page + 1 by unfold nextP'; rw [if_neg hpe])
        clear hpe
        go_wp2_with fail
        go_quiet (fail)
        go_wp2_with fail
        go_end0
        refine ⟨rfl, v', ?_, (TT.out.trans (Turn.of (Frm.setCell (fp := txfp t b v') _ (by simp [txfp]) _))).trans (Turn.of (Frm.drewN _ _))⟩
        have hx := HX.out
        rw [HE.out] at hx
        rw [HN.out]
        exact hx.put (by have := HB.out; have : T.page + 1 ≠ T.pages := by simpa using hpe'
                         omega) (heap_setCell_same _ _ 4 _ _ _ hx.hd) (fun k hk => heap_setCell_other _ _ _ _ hk)
/-- An entry's fields, so many of them. -/
def entryK (S : Sm) (K : Gk) (x : Int × Int) (chunk : Int) : Gk :=
  if x.2 < 0 ∨ (readV S x.1).2 ≤ x.2 then K
  else throughK S.C (if min (x.2 + chunk) (readV S x.1).2 < (readV S x.1).2 then restK K (x.1, min (x.2 + chunk) (readV S x.1).2) else K) x.1.toNat x.2.toNat ((min (x.2 + chunk) (readV S x.1).2).toNat - x.2.toNat)
def EntR (w w' : World) (t : Nat) (b : Hb) (v : Value) (H : Hm) (T : Trc) (x : Int × Int) (e : Ending) : Prop := e = .returned (.tuple #[]) ∧ TXT w w' t b v { H with K := entryK H.S H.K x T.chunk } T
set_option maxHeartbeats 4000000 in
set_option maxRecDepth 100000 in
theorem tentry_no (h : TX w t b v H T) (x : Int × Int) (hn : x.2 < 0 ∨ (readV H.S x.1).2 ≤ x.2) :
    Calls Tryz.prog 61 #[.pointer (some ⟨t, 0, none⟩), .agg #[.int .i64 x.1, .int .i64 x.2]] w fun e w' => EntR w w' t b v H T x e := by
  have B0 := Lib.hid (below_alloc0 w (.cells #[.int .i64 x.1, .int .i64 x.2] 93))
  have HH := Lib.hid (h.below B0.out)
  have s0 : (w.alloc (.cells #[.int .i64 x.1, .int .i64 x.2] 93)).cell? ⟨w.heap.size, 0, none⟩ = some (.int .i64 x.1) := cell_of_row _ _ _ _ _ _ (heap_alloc_new w _)
  have s1 : (w.alloc (.cells #[.int .i64 x.1, .int .i64 x.2] 93)).cell? ⟨w.heap.size, 1, none⟩ = some (.int .i64 x.2) := cell_of_row _ _ _ _ _ _ (heap_alloc_new w _)
  obtain ⟨c0, -⟩ := HH.out.cells
  have HE := Lib.hid (show entryK H.S H.K x T.chunk = H.K by unfold entryK; rw [if_pos hn])
  obtain ⟨n, hm⟩ : ∃ n, n = (readV H.S x.1).2 := ⟨_, rfl⟩
  have HM := Lib.hid hm
  rw [← hm] at hn
  clear h hm
  by_cases h0 : x.2 < 0
  · have d0 : decide (x.2 < 0) = true := by simpa using h0
    clear h0 hn
    go_enter Tryz.func61, Tryz.ntmps61
    go_wp2_with fail
    refine region_tail 6 (by kernel_rfl) (by kernel_rfl) ?_
    simp only [List.take_succ_cons, List.take_zero, List.drop_succ_cons, List.drop_zero]
    repeat still_step
    refine wpStill_nil ?_
    go_wp2_with (go_at_call 44; refine (sfields_any (HH.out.below (by (repeat (first | exact Below.refl _ _ | refine Below.drew ?_ | refine below_drewN ?_ _)))).hx.st x.1).mono ?_; rw [← HM.out]; rintro e w2 ⟨rfl, rfl⟩)
    refine bodyPost_ret (v := .tuple #[]) (by simp [results, Tryz.results61, go_sem]) rfl ?_
    exact ⟨rfl, v, by rw [HE.out]; exact HH.out.below (by (repeat (first | exact Below.refl _ _ | refine Below.drew ?_ | refine below_drewN ?_ _))), Turn.below _ (B0.out.drew)⟩
  · have d0 : decide (x.2 < 0) = false := by simpa using h0
    have d1 : decide (n ≤ x.2) = true := by simp; omega
    clear h0 hn
    go_enter Tryz.func61, Tryz.ntmps61
    go_wp2_with fail
    refine region_tail 6 (by kernel_rfl) (by kernel_rfl) ?_
    simp only [List.take_succ_cons, List.take_zero, List.drop_succ_cons, List.drop_zero]
    repeat still_step
    refine wpStill_nil ?_
    go_wp2_with (go_at_call 44; refine (sfields_any (HH.out.below (by (repeat (first | exact Below.refl _ _ | refine Below.drew ?_ | refine below_drewN ?_ _)))).hx.st x.1).mono ?_; rw [← HM.out]; rintro e w2 ⟨rfl, rfl⟩)
    refine bodyPost_ret (v := .tuple #[]) (by simp [results, Tryz.results61, go_sem]) rfl ?_
    exact ⟨rfl, v, by rw [HE.out]; exact HH.out.below (by (repeat (first | exact Below.refl _ _ | refine Below.drew ?_ | refine below_drewN ?_ _))), Turn.below _ (B0.out.drew)⟩
set_option maxHeartbeats 4000000 in
set_option maxRecDepth 100000 in
theorem tentry_yes (h : TX w t b v H T) (sj : SJ H.S) {a f : Nat} (ha : a ∈ bitsN H.S.C.ws) (hf : f < lenN H.S.C a) :
    Calls Tryz.prog 61 #[.pointer (some ⟨t, 0, none⟩), .agg #[.int .i64 (a : Int), .int .i64 (f : Int)]] w fun e w' => EntR w w' t b v H T ((a : Int), (f : Int)) e := by
  have B0 := Lib.hid (below_alloc0 w (.cells #[.int .i64 (a : Int), .int .i64 (f : Int)] 93))
  have HH := Lib.hid (h.below B0.out)
  have s0 : (w.alloc (.cells #[.int .i64 (a : Int), .int .i64 (f : Int)] 93)).cell? ⟨w.heap.size, 0, none⟩ = some (.int .i64 (a : Int)) := cell_of_row _ _ _ _ _ _ (heap_alloc_new w _)
  have s1 : (w.alloc (.cells #[.int .i64 (a : Int), .int .i64 (f : Int)] 93)).cell? ⟨w.heap.size, 1, none⟩ = some (.int .i64 (f : Int)) := cell_of_row _ _ _ _ _ _ (heap_alloc_new w _)
  have BA := Lib.hid (heap_alloc_new w (.cells #[.int .i64 (a : Int), .int .i64 (f : Int)] 93))
  have HL := Lib.hid h.lt
  obtain ⟨c0, c1, -, c3, -⟩ := HH.out.cells
  have hbd := h.bd
  have h127 := (sj.ob a ha).at_.2.1
  obtain ⟨n, hn⟩ : ∃ n, n = lenN H.S.C a := ⟨_, rfl⟩
  have hR : (readV H.S (a : Int)).2 = (n : Int) := by rw [sj.read ha, hn]
  have HR := Lib.hid hR
  obtain ⟨to, hto⟩ : ∃ to : Nat, (to : Int) = min ((f : Int) + T.chunk) (n : Int) := ⟨(min ((f : Int) + T.chunk) (n : Int)).toNat, by omega⟩
  have hft : f ≤ to := by omega
  obtain ⟨m, hm⟩ : ∃ m, to = f + m := ⟨to - f, by omega⟩
  have HM := Lib.hid hm
  have k1 : IntKind.i64.wrap ((f : Int) + T.chunk) = (f : Int) + T.chunk := by rw [IntKind.wrap_i64]; omega
  have k2 : min ((f : Int) + T.chunk) (n : Int) = (to : Int) := hto.symm
  have d0 : decide ((f : Int) < 0) = false := by rw [decide_eq_false_iff_not]; omega
  have d1 : decide (n ≤ f) = false := by rw [decide_eq_false_iff_not]; omega
  have SJ0 := Lib.hid sj
  have HA := Lib.hid ha
  have HN := Lib.hid (show f + m ≤ lenN H.S.C a by omega)
  have HE := Lib.hid (show entryK H.S H.K ((a : Int), (f : Int)) T.chunk = throughK H.S.C (if (to : Int) < (n : Int) then restK H.K ((a : Int), (to : Int)) else H.K) a f m by
    unfold entryK
    rw [if_neg (by simp only [hR]; omega)]
    simp only [hR, k2, Int.toNat_natCast]
    rw [show to - f = m by omega])
  by_cases hlt : to < n
  · have d2 : decide (to < n) = true := by simpa using hlt
    have HE2 := Lib.hid (show entryK H.S H.K ((a : Int), (f : Int)) T.chunk = throughK H.S.C (restK H.K ((a : Int), (to : Int))) a f m by rw [HE.out, if_pos (by omega)])
    clear h sj ha hf hbd h127 hn hR hto hft hm hlt
    go_enter Tryz.func61, Tryz.ntmps61
    go_wp2_with fail
    refine region_tail 6 (by kernel_rfl) (by kernel_rfl) ?_
    simp only [List.take_succ_cons, List.take_zero, List.drop_succ_cons, List.drop_zero]
    repeat still_step
    refine wpStill_nil ?_
    go_wp2_with (go_at_call 44; refine (sfields_any (HH.out.below (by (repeat (first | exact Below.refl _ _ | refine Below.drew ?_ | refine below_drewN ?_ _)))).hx.st a).mono ?_; rw [HR.out]; rintro e w2 ⟨rfl, rfl⟩)
    refine region_tail 8 (by kernel_rfl) (by kernel_rfl) ?_
    simp only [List.take_succ_cons, List.take_zero, List.drop_succ_cons, List.drop_zero]
    repeat still_step
    refine wpStill_nil ?_
    go_wp2_with fail
    refine region_tail 8 (by kernel_rfl) (by kernel_rfl) ?_
    simp only [List.take_succ_cons, List.take_zero, List.drop_succ_cons, List.drop_zero]
    repeat still_step
    refine wpStill_nil ?_
    have H3 := Lib.hid (show TX (w.alloc (.cells #[.int .i64 (a : Int), .int .i64 (f : Int)] 93)).drew.drew.drew t b v H T from HH.out.below (by (repeat (first | exact Below.refl _ _ | refine Below.drew ?_ | refine below_drewN ?_ _))))
    have B3 := Lib.hid B0.out.drew.drew.drew
    go_wp2_with (first
      | (go_at_call 75; refine (gkrest_any H3.out.hx.gk ((a : Int), (to : Int))).mono ?_; rintro e w4 ⟨rfl, ht⟩; obtain ⟨v4, hx4, ht4⟩ := H3.out.withH (H3.out.hx.withGk ht); have ha4 : w4.heap[w.heap.size]? = some (.cells #[.int .i64 (a : Int), .int .i64 (f : Int)] 93 (0, 0)) := (ht4.heap (heap_lt BA.out) (fun hk => by have := HL.out _ hk; omega)).trans BA.out; have q0 := cell_of_row _ _ 0 _ _ _ ha4; have q1 := cell_of_row _ _ 1 _ _ _ ha4; have X4 := Lib.hid hx4; have T4 := Lib.hid (ht4.under B3.out); clear ht hx4 ht4 ha4)
      | (go_at_call 117; refine (tthrough_to X4.out SJ0.out HA.out HN.out HM.out).mono ?_; rintro e w5 ⟨rfl, v5, hx5, ht5⟩; have X5 := Lib.hid hx5; have T5 := Lib.hid (T4.out.trans ht5); clear hx5 ht5))
    go_end0
    exact ⟨rfl, v5, by rw [HE2.out]; exact X5.out, T5.out⟩
  · have d2 : decide (to < n) = false := by simpa using hlt
    have HE2 := Lib.hid (show entryK H.S H.K ((a : Int), (f : Int)) T.chunk = throughK H.S.C H.K a f m by rw [HE.out, if_neg (by omega)])
    clear h sj ha hf hbd h127 hn hR hto hft hm hlt
    go_enter Tryz.func61, Tryz.ntmps61
    go_wp2_with fail
    refine region_tail 6 (by kernel_rfl) (by kernel_rfl) ?_
    simp only [List.take_succ_cons, List.take_zero, List.drop_succ_cons, List.drop_zero]
    repeat still_step
    refine wpStill_nil ?_
    go_wp2_with (go_at_call 44; refine (sfields_any (HH.out.below (by (repeat (first | exact Below.refl _ _ | refine Below.drew ?_ | refine below_drewN ?_ _)))).hx.st a).mono ?_; rw [HR.out]; rintro e w2 ⟨rfl, rfl⟩)
    refine region_tail 8 (by kernel_rfl) (by kernel_rfl) ?_
    simp only [List.take_succ_cons, List.take_zero, List.drop_succ_cons, List.drop_zero]
    repeat still_step
    refine wpStill_nil ?_
    have H3 := Lib.hid (show TX (w.alloc (.cells #[.int .i64 (a : Int), .int .i64 (f : Int)] 93)).drew.drew t b v H T from HH.out.below (by (repeat (first | exact Below.refl _ _ | refine Below.drew ?_ | refine below_drewN ?_ _))))
    have B3 := Lib.hid B0.out.drew.drew
    go_wp2_with (go_at_call 117; refine (tthrough_to H3.out SJ0.out HA.out HN.out HM.out).mono ?_; rintro e w5 ⟨rfl, v5, hx5, ht5⟩; have X5 := Lib.hid hx5; have T5 := Lib.hid (ht5.under B3.out); clear hx5 ht5)
    go_end0
    exact ⟨rfl, v5, by rw [HE2.out]; exact X5.out, T5.out⟩
theorem tentry_any (h : TX w t b v H T) (sj : SJ H.S) (x : Int × Int) :
    Calls Tryz.prog 61 #[.pointer (some ⟨t, 0, none⟩), .agg #[.int .i64 x.1, .int .i64 x.2]] w fun e w' => EntR w w' t b v H T x e := by
  by_cases hn : x.2 < 0 ∨ (readV H.S x.1).2 ≤ x.2
  · exact tentry_no h x hn
  · cases ho : hasO H.S x.1 with
    | false =>
      rw [sj.readNo ho] at hn
      have : ¬ (x.2 < 0 ∨ -1 ≤ x.2) := hn
      omega
    | true =>
      obtain ⟨a, hx, ha⟩ := (sj.has x.1).1 ho
      rw [hx, sj.read ha] at hn
      have hn' : ¬ (x.2 < 0 ∨ (lenN H.S.C a : Int) ≤ x.2) := hn
      obtain ⟨f, hf⟩ := Int.eq_ofNat_of_zero_le (show 0 ≤ x.2 by omega)
      obtain ⟨p, q⟩ := x
      simp only at hx hf hn'
      subst hx
      subst hf
      exact tentry_yes h sj ha (by omega)
end
end Go.Proofs.YtjoejjhgneccgaaGreatDoor

/- Going through what is grey: the least piece; made. -/
namespace Go.Proofs.YtjoejjhgneccgaaGreatDoor
open Go.RowKit

section
variable {w w' : World} {t : Nat} {b : Hb} {v : Value} {H : Hm} {T : Trc}
def idleB (K : Gk) (T : Trc) : Bool := ((K.sk.st.length : Int) == 0) && (T.page == -1) && !K.sk.ov
set_option maxHeartbeats 1000000 in
theorem tidle_any (h : TX w t b v H T) :
    Calls Tryz.prog 20 #[.pointer (some ⟨t, 0, none⟩)] w fun e w' => e = .returned (.bool (idleB H.K T)) ∧ Below w.heap.size w w' := by
  have HH := Lib.hid h
  obtain ⟨-, c1, -, -, c4, -⟩ := h.cells
  clear h
  cases hw : ((H.K.sk.st.length : Int) == 0) with
  | false =>
    have HI := Lib.hid (show idleB H.K T = false by unfold idleB; rw [hw]; rfl)
    have hw2 : decide (H.K.sk.st = []) = false := by cases hl : H.K.sk.st with
      | nil => rw [hl] at hw; cases hw
      | cons _ _ => rfl
    go_enter Tryz.func20, Tryz.ntmps20
    go_wp2_with (first
      | (go_at_call 64; refine (tis_any HH.out).mono ?_; rintro e w1 ⟨rfl, rfl⟩)
      | (go_at_call 32; refine (gkwaiting_any HH.out.hx.gk).mono ?_; rintro e w1 ⟨rfl, hb⟩; have B1 := Lib.hid hb; clear hb))
    go_ret
    exact ⟨ret_bool HI.out.symm, B1.out⟩
  | true =>
    cases hp : (T.page == -1) with
    | false =>
      have HI := Lib.hid (show idleB H.K T = false by unfold idleB; rw [hp, Bool.and_false]; rfl)
      go_enter Tryz.func20, Tryz.ntmps20
      go_wp2_with (first
        | (go_at_call 64; refine (tis_any HH.out).mono ?_; rintro e w1 ⟨rfl, rfl⟩)
        | (go_at_call 32; refine (gkwaiting_any HH.out.hx.gk).mono ?_; rintro e w1 ⟨rfl, hb⟩; have d4 := (HH.out.below hb).cells.2.2.2.2.1; have B1 := Lib.hid hb; clear hb))
      go_ret
      exact ⟨ret_bool HI.out.symm, B1.out⟩
    | true =>
      obtain ⟨o, ho⟩ : ∃ o, o = H.K.sk.ov := ⟨_, rfl⟩
      have HI := Lib.hid (show idleB H.K T = !o by unfold idleB; rw [hp, hw, ho]; rfl)
      have HO := Lib.hid ho
      clear ho
      go_enter Tryz.func20, Tryz.ntmps20
      go_wp2_with (first
        | (go_at_call 64; refine (tis_any HH.out).mono ?_; rintro e w1 ⟨rfl, rfl⟩)
        | (go_at_call 32; refine (gkwaiting_any HH.out.hx.gk).mono ?_; rintro e w1 ⟨rfl, hb⟩; have d1 := (HH.out.below hb).cells.2.1; have d4 := (HH.out.below hb).cells.2.2.2.2.1; have H1 := Lib.hid (HH.out.below hb); have B1 := Lib.hid hb; clear hb)
        | (go_at_call 65; refine (gkover_any H1.out.hx.gk).mono ?_; rw [← HO.out]; rintro e w2 ⟨rfl, hb⟩; have B2 := Lib.hid (below_next B1.out hb); clear hb))
      go_ret
      exact ⟨ret_bool HI.out.symm, B2.out⟩
/-- What a unit leaves. -/
def unitB (H : Hm) (T : Trc) : Bool := !idleB H.K T
def unitK (H : Hm) (T : Trc) : Gk × Trc :=
  if idleB H.K T = true then (H.K, T)
  else match popO H.K.sk with
  | some x => (entryK H.S (nextK H.K) x T.chunk, T)
  | none => if T.page = -1 then (lookK H.S (settleK (nextK H.K)) 0, { T with page := nextP' { T with page := 0 } }) else (lookK H.S (nextK H.K) T.page, { T with page := nextP' T })
def UnitT (w w' : World) (t : Nat) (b : Hb) (v : Value) (H : Hm) (T : Trc) (e : Ending) : Prop := e = .returned (.bool (unitB H T)) ∧ TXT w w' t b v { H with K := (unitK H T).1 } (unitK H T).2
set_option maxHeartbeats 4000000 in
set_option maxRecDepth 100000 in
theorem tunit_any (h : TX w t b v H T) (sj : SJ H.S) (ht : Tab64 w) (hg : 0 < w.heap.size) (htf : 0 ∉ txfp t b v) :
    Calls Tryz.prog 19 #[.pointer (some ⟨t, 0, none⟩)] w fun e w' => UnitT w w' t b v H T e := by
  have HH := Lib.hid h
  have SJ0 := Lib.hid sj
  have HTB := Lib.hid ht
  have HG := Lib.hid hg
  have HTF := Lib.hid htf
  have HBD := Lib.hid h.bd
  clear h sj ht hg htf
  cases hi : idleB H.K T with
  | true =>
    have HI := Lib.hid hi
    have HB := Lib.hid (show unitB H T = false by unfold unitB; rw [hi]; rfl)
    have HU := Lib.hid (show unitK H T = (H.K, T) by unfold unitK; rw [if_pos hi])
    clear hi
    go_enter Tryz.func19, Tryz.ntmps19
    go_wp2_with (go_at_call 20; refine (tidle_any HH.out).mono ?_; rw [HI.out]; rintro e w1 ⟨rfl, hb⟩; have B1 := Lib.hid hb; clear hb)
    go_ret
    exact ⟨ret_bool HB.out.symm, v, by rw [HU.out]; exact HH.out.below B1.out, Turn.below _ B1.out⟩
  | false =>
    have HI := Lib.hid hi
    have HB := Lib.hid (show unitB H T = true by unfold unitB; rw [hi]; rfl)
    cases ho : popO H.K.sk with
    | some x =>
      have HU := Lib.hid (show unitK H T = (entryK H.S (nextK H.K) x T.chunk, T) by unfold unitK; rw [if_neg (by rw [hi]; decide)]; simp only [ho])
      have HP := Lib.hid (show ∀ e, TakE (popO H.K.sk) e → e = .returned (.tuple #[.agg #[.int .i64 x.1, .int .i64 x.2], .bool true]) by rw [ho]; exact fun e he => he)
      clear hi ho
      go_enter Tryz.func19, Tryz.ntmps19
      go_wp2_with (first
        | (go_at_call 20; refine (tidle_any HH.out).mono ?_; rw [HI.out]; rintro e w1 ⟨rfl, hb⟩; have hx := HH.out.below hb; have d1 := hx.cells.2.1; have H1 := Lib.hid hx; have B1 := Lib.hid hb; clear hb hx)
        | (go_at_call 60; refine (gknext_any H1.out.hx.gk).mono ?_; rintro e w2 ⟨he, ht⟩; obtain rfl := HP.out e he; obtain ⟨v2, hx2, ht2⟩ := H1.out.withH (H1.out.hx.withGk ht); have H2 := Lib.hid hx2; have T2 := Lib.hid (ht2.under B1.out); have b0 : (w2.alloc (.cells #[.int .i64 x.1, .int .i64 x.2] 93)).cell? ⟨w2.heap.size, 0, none⟩ = some (.int .i64 x.1) := cell_of_row _ _ _ _ _ _ (heap_alloc_new w2 _); have b1 : (w2.alloc (.cells #[.int .i64 x.1, .int .i64 x.2] 93)).cell? ⟨w2.heap.size, 1, none⟩ = some (.int .i64 x.2) := cell_of_row _ _ _ _ _ _ (heap_alloc_new w2 _); have B3 := Lib.hid (below_alloc0 w2 (.cells #[.int .i64 x.1, .int .i64 x.2] 93)); have H3 := Lib.hid (hx2.below B3.out); clear he ht hx2 ht2)
        | (go_at_call 61; refine (tentry_any H3.out SJ0.out x).mono ?_; rintro e w4 ⟨rfl, v4, hx4, ht4⟩; have X4 := Lib.hid hx4; have T4 := Lib.hid ((T2.out.then B3.out).trans ht4); clear hx4 ht4))
      go_ret
      exact ⟨ret_bool HB.out.symm, v4, by rw [HU.out]; exact X4.out, T4.out⟩
    | none =>
      have HP := Lib.hid (show ∀ e, TakE (popO H.K.sk) e → e = .returned (.tuple #[.agg #[.int .i64 0, .int .i64 0], .bool false]) by rw [ho]; exact fun e he => he)
      by_cases hp : T.page = -1
      · have HU := Lib.hid (show unitK H T = (lookK H.S (settleK (nextK H.K)) 0, { T with page := nextP' { T with page := 0 } }) by unfold unitK; rw [if_neg (by rw [hi]; decide)]; simp only [ho]; rw [if_pos hp])
        have hp' : (T.page == -1) = true := by simpa using hp
        clear hi ho hp
        go_enter Tryz.func19, Tryz.ntmps19
        go_wp2_with (first
          | (go_at_call 20; refine (tidle_any HH.out).mono ?_; rw [HI.out]; rintro e w1 ⟨rfl, hb⟩; have hx := HH.out.below hb; have d1 := hx.cells.2.1; have H1 := Lib.hid hx; have B1 := Lib.hid hb; clear hb hx)
          | (go_at_call 60; refine (gknext_any H1.out.hx.gk).mono ?_; rintro e w2 ⟨he, ht⟩; obtain rfl := HP.out e he; obtain ⟨v2, hx2, ht2⟩ := H1.out.withH (H1.out.hx.withGk ht); have T2 := Lib.hid (ht2.under B1.out); have B3 := Lib.hid (below_alloc0 w2 (.cells #[.int .i64 0, .int .i64 0] 93)); have hx3 := hx2.below B3.out; have e1 := hx3.cells.2.1; have e4 := hx3.cells.2.2.2.2.1; have H3 := Lib.hid hx3; clear he ht hx2 ht2 hx3)
          | (go_at_call 62; refine (gksettle_any H3.out.hx.gk).mono ?_; rintro e w4 ⟨rfl, ht⟩; obtain ⟨v4, hx4, ht4⟩ := H3.out.withH (H3.out.hx.withGk ht); have f4 := hx4.cells.2.2.2.2.1; have f5 := hx4.cells.2.2.2.2.2; have X4 := Lib.hid hx4; have T4 := Lib.hid ((T2.out.then B3.out).trans ht4); clear ht hx4 ht4)
          | (go_at_call 63; have X5 := X4.out.setPage (p := 0) (by have := HBD.out; omega); have T5 := T4.out.trans (Turn.of (Frm.setCell (fp := txfp t b v4) (p := ⟨t, 4, none⟩) w4 (by simp [txfp]) (.int .i64 0))); refine (tlook_any X5 SJ0.out (Int.le_refl 0) (HTB.out.frm T5.frm HTF.out) (Nat.lt_of_lt_of_le HG.out T5.size)).mono ?_; rintro e w6 ⟨rfl, v6, hx6, ht6⟩; have X6 := Lib.hid hx6; have T6 := Lib.hid (T5.trans ht6); clear hx6 ht6 X5 T5))
        go_ret
        exact ⟨ret_bool HB.out.symm, v6, by rw [HU.out]; exact X6.out, T6.out⟩
      · have HU := Lib.hid (show unitK H T = (lookK H.S (nextK H.K) T.page, { T with page := nextP' T }) by unfold unitK; rw [if_neg (by rw [hi]; decide)]; simp only [ho]; rw [if_neg hp])
        have hp' : (T.page == -1) = false := by simpa using hp
        have HP0 := Lib.hid (show 0 ≤ T.page by have := HBD.out; omega)
        clear hi ho hp
        go_enter Tryz.func19, Tryz.ntmps19
        go_wp2_with (first
          | (go_at_call 20; refine (tidle_any HH.out).mono ?_; rw [HI.out]; rintro e w1 ⟨rfl, hb⟩; have hx := HH.out.below hb; have d1 := hx.cells.2.1; have H1 := Lib.hid hx; have B1 := Lib.hid hb; clear hb hx)
          | (go_at_call 60; refine (gknext_any H1.out.hx.gk).mono ?_; rintro e w2 ⟨he, ht⟩; obtain rfl := HP.out e he; obtain ⟨v2, hx2, ht2⟩ := H1.out.withH (H1.out.hx.withGk ht); have B3 := Lib.hid (below_alloc0 w2 (.cells #[.int .i64 0, .int .i64 0] 93)); have T3 := Lib.hid ((ht2.under B1.out).then B3.out); have hx3 := hx2.below B3.out; have e1 := hx3.cells.2.1; have e4 := hx3.cells.2.2.2.2.1; have H3 := Lib.hid hx3; clear he ht hx2 ht2 hx3)
          | (go_at_call 63; refine (tlook_any H3.out SJ0.out HP0.out (HTB.out.frm T3.out.frm HTF.out) (Nat.lt_of_lt_of_le HG.out T3.out.size)).mono ?_; rintro e w6 ⟨rfl, v6, hx6, ht6⟩; have X6 := Lib.hid hx6; have T6 := Lib.hid (T3.out.trans ht6); clear hx6 ht6))
        go_ret
        exact ⟨ret_bool HB.out.symm, v6, by rw [HU.out]; exact X6.out, T6.out⟩
def Trc.new (pages chunk : Int) : Trc := ⟨clampN pages 1 64, clampN chunk 1 16, -1⟩
theorem tnew_any (h : HX w b v H) (pages chunk : Int) :
    Calls Tryz.prog 18 #[.pointer (some ⟨b.st.s, 0, none⟩), .pointer (some ⟨b.gk.g, 0, none⟩), .int .i64 pages, .int .i64 chunk] w fun e w' => e = .returned (.pointer (some ⟨w.heap.size, 0, none⟩)) ∧ TX w' w.heap.size b v H (Trc.new pages chunk) ∧ Below w.heap.size w w' := by
  have HH := Lib.hid h
  have B1 := Lib.hid (clampN_bd (a := pages) (lo := 1) (hi := 64) (by omega))
  have B2 := Lib.hid (clampN_bd (a := chunk) (lo := 1) (hi := 16) (by omega))
  clear h
  obtain ⟨p, hp⟩ : ∃ p, p = clampN pages 1 64 := ⟨_, rfl⟩
  obtain ⟨c, hc⟩ : ∃ c, c = clampN chunk 1 16 := ⟨_, rfl⟩
  have HP := Lib.hid hp
  have HC := Lib.hid hc
  clear hp hc
  go_enter Tryz.func18, Tryz.ntmps18
  go_wp2_with (first
    | (go_at_call 58; (with_reducible refine (clampn_any pages 1 64 _).mono ?_); rw [← HP.out]; rintro e w1 ⟨rfl, rfl⟩)
    | (go_at_call 58; (with_reducible refine (clampn_any chunk 1 16 _).mono ?_); rw [← HC.out]; rintro e w1 ⟨rfl, rfl⟩))
  go_ret
  have hb := below_alloc0 w (.cells #[.pointer (some ⟨b.st.s, 0, none⟩), .pointer (some ⟨b.gk.g, 0, none⟩), .int .i64 p, .int .i64 c, .int .i64 (-1)] 33)
  refine ⟨rfl, ⟨?_, HH.out.below hb, fun hk => ?_, ?_⟩, hb⟩
  · rw [heap_alloc_new, HP.out, HC.out]; rfl
  · have := HH.out.lt _ hk; omega
  · have h1 := B1.out
    have h2 := B2.out
    refine ⟨h1.1, h1.2, h2.1, h2.2, Int.le_refl _, ?_⟩
    show -1 < clampN pages 1 64
    omega
end
end Go.Proofs.YtjoejjhgneccgaaGreatDoor

/- What a law lays: seen from below. -/
namespace Go.Proofs.YtjoejjhgneccgaaGreatDoor
open Go.RowKit

/-- Blocks of a law's own, and what lay there ahead of it. -/
structure Lay (B : Nat) (w0 w : World) (fp : List Nat) : Prop where
  bl : Below B w0 w
  ge : ∀ k ∈ fp, B ≤ k
  sz : B ≤ w.heap.size
section
variable {B : Nat} {w0 w w' : World} {fp fp' : List Nat}
theorem Lay.start (w : World) : Lay w.heap.size w w [] := ⟨Below.refl _ _, fun _ h => by simp at h, Nat.le_refl _⟩
theorem Lay.turn (h : Lay B w0 w fp) (ht : Turn fp fp' w w') : Lay B w0 w' fp' :=
  ⟨h.bl.trans (ht.frm.below h.sz h.ge), fun k hk => by
    rcases ht.fr k hk with h1 | h1
    · exact h.ge k h1
    · exact Nat.le_trans h.sz h1, Nat.le_trans h.sz ht.size⟩
theorem Lay.sub (h : Lay B w0 w fp) (hs : ∀ k ∈ fp', k ∈ fp) : Lay B w0 w fp' := ⟨h.bl, fun k hk => h.ge k (hs k hk), h.sz⟩
theorem Lay.below (h : Lay B w0 w fp) (hb : Below w.heap.size w w') : Lay B w0 w' fp := ⟨h.bl.trans (hb.mono h.sz), h.ge, Nat.le_trans h.sz hb.size⟩
/-- New blocks. -/
theorem Lay.new (h : Lay B w0 w fp) (hb : Below w.heap.size w w') (hn : ∀ k ∈ fp', k ∈ fp ∨ w.heap.size ≤ k) : Lay B w0 w' fp' :=
  ⟨h.bl.trans (hb.mono h.sz), fun k hk => by
    rcases hn k hk with h1 | h1
    · exact h.ge k h1
    · exact Nat.le_trans h.sz h1, Nat.le_trans h.sz hb.size⟩
theorem Lay.tab (h : Lay B w0 w fp) (ht : Tab64 w0) (hg : 0 < B) : Tab64 w ∧ 0 < w.heap.size ∧ 0 ∉ fp :=
  ⟨ht.below h.bl hg, Nat.lt_of_lt_of_le hg h.sz, fun hk => by have := h.ge _ hk; omega⟩
theorem SJ.new {N : Nat} (hN : N ≤ 64) {th : Int} (h : 0 ≤ th ∧ th ≤ 9) : SJ (Sm.new N th) :=
  ⟨SI.new hN h, Int.le_refl _, by show (0 : Int) ≤ 1000000; decide, fun a ha => by
    rw [mem_bits] at ha
    have := ha.2
    rw [show bit (Sm.new N th).C.ws a = false from zero_bits a] at this
    cases this⟩
theorem stfp_ge {b : Sl} {B : Nat} (h1 : ∀ x ∈ b.fp, B ≤ x) (h2 : B ≤ b.oc) : ∀ k ∈ stfp b, B ≤ k := fun k hk => by
  rcases List.mem_cons.1 hk with rfl | hk
  · exact h2
  · exact h1 k hk
/-- Marks made behind a store. -/
theorem HX.made {b : Sl} {S : Sm} {gb : Gb} {v : Value} {K : Gk} (hs : StX w b S) (hb : Below w.heap.size w w') (hg : GkX w' gb v K) (hn : ∀ k ∈ gkfp gb v, w.heap.size ≤ k) : HX w' ⟨b, gb⟩ v ⟨S, K⟩ :=
  ⟨hs.below hb, hg, fun k hk hk2 => by have := hs.lt k hk; have := hn k hk2; omega⟩
end
end Go.Proofs.YtjoejjhgneccgaaGreatDoor
