/- The reference graph: Do, Step. -/
import Derived.Test.YtaefcmmjeloccaaGsE
import Derived.Test.YtaefcmmjeloccaaGsF
import Derived.Test.YtaefcmmjeloccaaGsG
import Derived.Test.YtaefcmmjeloccaaGsB
namespace Go.Proofs.Ytaefcmmjeloccaa
open Go.RowKit

section
variable {G : Gr} {q no : Int} {x : Stp}
theorem code_zero (h : G.code q x = 0) : x.check = 0 ∧ G.who x = 0 ∧ Gr.numBad q x = false ∧ G.after x = 0 := by
  unfold Gr.code at h
  by_cases h1 : x.check = 0
  case neg => rw [if_pos h1] at h; exact absurd h h1
  by_cases h2 : G.who x = 0
  case neg => rw [if_neg (by rw [h1]; simp), if_pos h2] at h; exact absurd h h2
  cases h3 : Gr.numBad q x
  case true => rw [if_neg (by rw [h1]; simp), if_neg (by rw [h2]; simp), if_pos h3] at h; exact absurd h (by decide)
  rw [if_neg (by rw [h1]; simp), if_neg (by rw [h2]; simp), if_neg (by rw [h3]; simp)] at h
  exact ⟨h1, h2, rfl, h⟩
theorem kind_num (hn : Gr.numBad q x = true) : G.kind q x no x.k.toNat = (Gr.err 4, G) := by
  have hk : x.k = 3 ∨ x.k = 4 ∨ x.k = 13 ∨ x.k = 16 ∨ x.k = 15 := by
    by_cases h1 : x.k = 3
    · exact .inl h1
    by_cases h2 : x.k = 4
    · exact .inr (.inl h2)
    by_cases h3 : x.k = 13
    · exact .inr (.inr (.inl h3))
    by_cases h4 : x.k = 16
    · exact .inr (.inr (.inr (.inl h4)))
    by_cases h5 : x.k = 15
    · exact .inr (.inr (.inr (.inr h5)))
    unfold Gr.numBad at hn
    simp [h1, h2, h3, h4, h5] at hn
  unfold Gr.numBad at hn
  rcases hk with hk | hk | hk | hk | hk
  · rw [show x.k.toNat = 3 by omega]
    rw [hk] at hn
    have hn : (Gr.badCost q x || Gr.badN x 0 127) = true := by simpa [or_comm] using hn
    show (if Gr.badCost q x || Gr.badN x 0 127 then _ else _) = _
    rw [if_pos hn]
  · rw [show x.k.toNat = 4 by omega]
    rw [hk] at hn
    have hn : Gr.badN x (-1099511627776) 1099511627775 = true := by simpa using hn
    show (if Gr.badN x (-1099511627776) 1099511627775 then _ else _) = _
    rw [if_pos hn]
  · rw [show x.k.toNat = 13 by omega]
    rw [hk] at hn
    have hn : Gr.badN x 1 64 = true := by simpa using hn
    show (if Gr.badN x 1 64 then _ else _) = _
    rw [if_pos hn]
  · rw [show x.k.toNat = 16 by omega]
    rw [hk] at hn
    have hn : Gr.badN x 1 64 = true := by simpa using hn
    show (if Gr.badN x 1 64 then _ else _) = _
    rw [if_pos hn]
  · rw [show x.k.toNat = 15 by omega]
    rw [hk] at hn
    have hn : (Gr.badCost q x || Gr.badN x 1 64) = true := by simpa [or_comm] using hn
    show (if Gr.badCost q x || Gr.badN x 1 64 then _ else _) = _
    rw [if_pos hn]
theorem push_no {t : Int} {v : Vl} (h : 16 ≤ (G.held t).length) : G.push t v = (Gr.err 3, G) := by unfold Gr.push; rw [if_pos h]
theorem kind_after (hn : Gr.numBad q x = false) (ha : G.after x ≠ 0) : G.kind q x no x.k.toNat = (Gr.err (G.after x), G) := by
  have hk : x.k.toNat = 3 ∨ x.k.toNat = 4 ∨ x.k.toNat = 5 ∨ x.k.toNat = 6 ∨ x.k.toNat = 7 ∨ x.k.toNat = 8 ∨ x.k.toNat = 9 ∨ x.k.toNat = 10 ∨ x.k.toNat = 11 ∨ x.k.toNat = 12 := by
    unfold Gr.after at ha
    split at ha <;> first | omega | exact absurd rfl ha
  have key : ∀ (p : Prop) [Decidable p], (if p then (3 : Int) else 0) ≠ 0 → p := fun p _ h => by
    by_cases hp : p
    · exact hp
    · rw [if_neg hp] at h; exact absurd rfl h
  have key4 : ∀ (p : Prop) [Decidable p], (if p then (4 : Int) else 0) ≠ 0 → p := fun p _ h => by
    by_cases hp : p
    · exact hp
    · rw [if_neg hp] at h; exact absurd rfl h
  rcases hk with e | e | e | e | e | e | e | e | e | e
  · have hr : G.after x = if 16 ≤ (G.held x.t).length then 3 else 0 := by unfold Gr.after; rw [e]; rfl
    rw [hr] at ha ⊢
    have h1 := key _ ha
    rw [e, if_pos h1]
    have hb : Gr.badN x 0 127 = false ∧ Gr.badCost q x = false := by unfold Gr.numBad at hn; rw [show x.k = 3 by omega] at hn; simpa using hn
    show (if Gr.badCost q x || Gr.badN x 0 127 then _ else if 16 ≤ (G.held x.t).length then _ else _) = _
    rw [hb.1, hb.2, if_neg (by decide), if_pos h1]
  · have hr : G.after x = if 16 ≤ (G.held x.t).length then 3 else 0 := by unfold Gr.after; rw [e]; rfl
    rw [hr] at ha ⊢
    have h1 := key _ ha
    rw [e, if_pos h1]
    have hb : Gr.badN x (-1099511627776) 1099511627775 = false := by unfold Gr.numBad at hn; rw [show x.k = 4 by omega] at hn; simpa using hn
    show (if Gr.badN x (-1099511627776) 1099511627775 then _ else G.push x.t (1, x.n)) = _
    rw [hb, if_neg (by decide), push_no h1]
  · have hr : G.after x = if 16 ≤ (G.held x.t).length then 3 else 0 := by unfold Gr.after; rw [e]; rfl
    rw [hr] at ha ⊢
    have h1 := key _ ha
    rw [e, if_pos h1]
    exact push_no h1
  · have hr : G.after x = if 16 ≤ (G.held x.t).length then 3 else 0 := by unfold Gr.after; rw [e]; rfl
    rw [hr] at ha ⊢
    have h1 := key _ ha
    rw [e, if_pos h1]
    exact push_no h1
  · have hr : G.after x = if ((G.held x.t).length : Int) ≤ x.i then 4 else if 16 ≤ (G.held x.t).length then 3 else 0 := by unfold Gr.after; rw [e]; rfl
    rw [hr] at ha ⊢
    rw [e]
    show (if ((G.held x.t).length : Int) ≤ x.i then _ else G.push x.t _) = _
    by_cases h1 : ((G.held x.t).length : Int) ≤ x.i
    · rw [if_pos h1, if_pos h1]
    · rw [if_neg h1] at ha
      rw [if_neg h1, if_neg h1, if_pos (key _ ha), push_no (key _ ha)]
  · have hr : G.after x = if (G.held x.t).length = 0 then 4 else 0 := by unfold Gr.after; rw [e]; rfl
    rw [hr] at ha ⊢
    have h1 := key4 _ ha
    rw [e, if_pos h1]
    show (if (G.held x.t).length = 0 then _ else _) = _
    rw [if_pos h1]
  · have hr : G.after x = if G.object x true ≠ 0 then G.object x true else if 16 ≤ (G.held x.t).length then 3 else 0 := by unfold Gr.after; rw [e]; rfl
    rw [hr] at ha ⊢
    rw [e]
    show (if G.object x true ≠ 0 then _ else G.push x.t _) = _
    by_cases h1 : G.object x true ≠ 0
    · rw [if_pos h1, if_pos h1]
    · rw [if_neg h1] at ha
      rw [if_neg h1, if_neg h1, if_pos (key _ ha), push_no (key _ ha)]
  · have hr : G.after x = if G.object x true ≠ 0 then G.object x true else if ((G.held x.t).length : Int) ≤ x.j then 4 else 0 := by unfold Gr.after; rw [e]; rfl
    rw [hr] at ha ⊢
    rw [e]
    show (if G.object x true ≠ 0 then _ else if ((G.held x.t).length : Int) ≤ x.j then _ else _) = _
    by_cases h1 : G.object x true ≠ 0
    · rw [if_pos h1, if_pos h1]
    · rw [if_neg h1] at ha
      rw [if_neg h1, if_neg h1, if_pos (key4 _ ha), if_pos (key4 _ ha)]
  · have hr : G.after x = if ((G.held x.t).length : Int) ≤ x.i ∨ ((G.held x.t).length : Int) ≤ x.j then 4 else 0 := by unfold Gr.after; rw [e]; rfl
    rw [hr] at ha ⊢
    have h1 := key4 _ ha
    rw [e, if_pos h1]
    show (if ((G.held x.t).length : Int) ≤ x.i ∨ ((G.held x.t).length : Int) ≤ x.j then _ else _) = _
    rw [if_pos h1]
  · have hr : G.after x = if G.object x false ≠ 0 then G.object x false else 0 := by unfold Gr.after; rw [e]; rfl
    rw [hr] at ha ⊢
    rw [e]
    show (if G.object x false ≠ 0 then _ else _) = _
    by_cases h1 : G.object x false ≠ 0
    · rw [if_pos h1, if_pos h1]
    · rw [if_neg h1] at ha; exact absurd rfl ha
theorem out_bad (h : G.code q x ≠ 0) : G.out q x no = (Gr.err (G.code q x), G) := by
  unfold Gr.code at h ⊢
  unfold Gr.out
  by_cases h1 : x.check = 0
  case neg => rw [if_pos h1, if_pos h1]
  have n1 : ¬ x.check ≠ 0 := by rw [h1]; simp
  simp only [if_neg n1] at h ⊢
  by_cases h2 : G.who x = 0
  case neg => rw [if_pos h2, if_pos h2]
  have n2 : ¬ G.who x ≠ 0 := by rw [h2]; simp
  simp only [if_neg n2] at h ⊢
  cases h3 : Gr.numBad q x
  case true => rw [if_pos rfl]; exact kind_num h3
  rw [h3, if_neg (by decide)] at h
  rw [if_neg (by decide)]
  exact kind_after h3 h
theorem out_no (h : G.code q x = 0) (hk : x.k = 3 ∨ x.k = 15 ∨ x.k = 17) (hno : no ≠ 0) : G.out q x no = (Gr.err no, G) := by
  obtain ⟨hc, hw, hn, ha⟩ := code_zero h
  rw [out_kind hc hw]
  rcases hk with hk | hk | hk
  · rw [show x.k.toNat = 3 by omega]
    have h1 : Gr.badN x 0 127 = false ∧ Gr.badCost q x = false := by unfold Gr.numBad at hn; rw [hk] at hn; simpa using hn
    have h2 : (if 16 ≤ (G.held x.t).length then (3 : Int) else 0) = 0 := by unfold Gr.after at ha; rw [show x.k.toNat = 3 by omega] at ha; exact ha
    have h3 : ¬ 16 ≤ (G.held x.t).length := fun h => by rw [if_pos h] at h2; exact absurd h2 (by decide)
    show (if Gr.badCost q x || Gr.badN x 0 127 then _ else if 16 ≤ (G.held x.t).length then _ else if no ≠ 0 then _ else _) = _
    rw [h1.1, h1.2, if_neg (by decide), if_neg h3, if_pos hno]
  · rw [show x.k.toNat = 15 by omega]
    have h1 : Gr.badN x 1 64 = false ∧ Gr.badCost q x = false := by unfold Gr.numBad at hn; rw [hk] at hn; simpa using hn
    show (if Gr.badCost q x || Gr.badN x 1 64 then _ else if no ≠ 0 then _ else _) = _
    rw [h1.1, h1.2, if_neg (by decide), if_pos hno]
  · rw [show x.k.toNat = 17 by omega]
    show (if no ≠ 0 then _ else _) = _
    rw [if_pos hno]
theorem out_same (h : G.code q x = 0) (hk : (x.k ≠ 3 ∧ x.k ≠ 15 ∧ x.k ≠ 17) ∨ no = 0) : G.out q x no = G.out q x 0 := by
  rcases hk with hk | rfl
  · obtain ⟨hc, hw, -, -⟩ := code_zero h
    obtain ⟨hk17, -, -⟩ := Stp.check_zero hc
    rw [out_kind hc hw, out_kind hc hw]
    have : x.k.toNat = 1 ∨ x.k.toNat = 2 ∨ x.k.toNat = 4 ∨ x.k.toNat = 5 ∨ x.k.toNat = 6 ∨ x.k.toNat = 7 ∨ x.k.toNat = 8 ∨ x.k.toNat = 9 ∨ x.k.toNat = 10 ∨ x.k.toNat = 11 ∨ x.k.toNat = 12 ∨ x.k.toNat = 13 ∨ x.k.toNat = 14 ∨ x.k.toNat = 16 := by omega
    rcases this with e | e | e | e | e | e | e | e | e | e | e | e | e | e <;> rw [e] <;> rfl
  · rfl
end
section
variable {w : World} {g : Nat} {c : Cfg} {G : Gr} {tb tcap nb ncap : Nat} {hv nv : List Value}
theorem rdo_any (h : Gx 50 85 w g c G tb tcap nb ncap hv nv) (hg : G.Good) (x : Stp) (hz : G.code c.q x = 0) :
    Calls Try.prog 35 #[.pointer (some ⟨g, 0, none⟩), .agg x.cells] w fun e w' => DoS w w' g c (G.out c.q x 0) (fpOf g tb nb hv nv) e := by
  obtain ⟨hc, hw, hn, ha⟩ := code_zero hz
  obtain ⟨hk17, -, -⟩ := Stp.check_zero hc
  have : x.k = 1 ∨ x.k = 2 ∨ x.k = 3 ∨ x.k = 4 ∨ x.k = 5 ∨ x.k = 6 ∨ x.k = 7 ∨ x.k = 8 ∨ x.k = 9 ∨ x.k = 10 ∨ x.k = 11 ∨ x.k = 12 ∨ x.k = 13 ∨ x.k = 14 ∨ x.k = 15 ∨ x.k = 16 ∨ x.k = 17 := by omega
  rcases this with e | e | e | e | e | e | e | e | e | e | e | e | e | e | e | e | e
  · exact rdo_1 h hg x hc hw hn ha e
  · exact rdo_2 h hg x hc hw hn ha e
  · exact rdo_3 h hg x hc hw hn ha e
  · exact rdo_4 h hg x hc hw hn ha e
  · exact rdo_5 h hg x hc hw hn ha e
  · exact rdo_6 h hg x hc hw hn ha e
  · exact rdo_7 h hg x hc hw hn ha e
  · exact rdo_8 h hg x hc hw hn ha e
  · exact rdo_9 h hg x hc hw hn ha e
  · exact rdo_10 h hg x hc hw hn ha e
  · exact rdo_11 h hg x hc hw hn ha e
  · exact rdo_12 h hg x hc hw hn ha e
  · exact rdo_13 h hg x hc hw hn ha e
  · exact rdo_14 h hg x hc hw hn ha e
  · exact rdo_15 h hg x hc hw hn ha e
  · exact rdo_16 h hg x hc hw hn ha e
  · exact rdo_17 h hg x hc hw hn ha e
set_option maxHeartbeats 4000000 in
set_option maxRecDepth 100000 in
theorem rstep_any (h : Gx 50 85 w g c G tb tcap nb ncap hv nv) (hg : G.Good) (x : Stp) (no : Int) :
    Calls Try.prog 13 #[.pointer (some ⟨g, 0, none⟩), .agg x.cells, .int .i64 no] w fun e w' => DoS w w' g c (G.out c.q x no) (fpOf g tb nb hv nv) e := by
  have B2 := Lib.hid (below_new (below_alloc0 w (.cells x.cells 39)) (.cells zAns 36))
  have S2 := Lib.hid (keep_alloc (.cells zAns 36) (heap_alloc_new w (.cells x.cells 39)))
  have A2 := Lib.hid (heap_two w (.cells x.cells 39) (.cells zAns 36))
  have HG := Lib.hid h
  have HGD := Lib.hid hg
  have HFP := Lib.hid h.lt
  obtain ⟨cd, hcd⟩ : ∃ cd, G.code c.q x = cd := ⟨_, rfl⟩
  have HCD := Lib.hid hcd
  obtain ⟨rf, hrf⟩ : ∃ rf, rf = ((x.k == 3 || x.k == 15 || x.k == 17) && no != 0) := ⟨_, rfl⟩
  by_cases hz : cd = 0
  case neg =>
    have HR : Hid (G.out c.q x no = (Gr.err cd, G)) := Lib.hid (by rw [out_bad (by rw [hcd]; exact hz), hcd])
    have d1 : (cd != 0) = true := by simpa using hz
    clear h hg hcd hz hrf
    go_enter Try.func13, Try.ntmps13
    go_wp2_with (first
      | (refine wpList_load_row rfl 39 _ rfl w.heap.size rfl 39 x.cells (0, 0) _ ?_ Try.underlying39 rfl (by kernel_rfl) ?_; exact Hid.out (by assumption))
      | (go_at_call 34; refine (rcode_any (HG.out.below B2.out) HGD.out x).mono ?_; rw [HCD.out]; rintro e w4 ⟨rfl, hb4⟩; have B4 : Hid (Below w.heap.size w w4) := Lib.hid (below_next B2.out hb4); have A4 := Lib.hid (keep hb4 A2.out); clear hb4)
      | (refine wpList_store_row rfl 36 _ _ rfl (w.heap.size + 1) (Gr.err cd).cells rfl rfl 36 _ A4.out (by kernel_rfl) rfl (by kernel_rfl) ?_))
    exact bodyPost_ret (v := .agg (Gr.err cd).cells) (results_cell_row rfl _ _ (w.heap.size + 1) 36 (Gr.err cd).cells _ _ rfl (heap_setRow_same _ A4.out) Try.underlying36 rfl (by kernel_rfl)) rfl
      (by rw [HR.out]; exact ⟨rfl, gto_below HG.out (below_setRow B4.out (by omega) _)⟩)
  subst hz
  obtain ⟨b3, h3⟩ : ∃ b, decide (x.k = 3) = b := ⟨_, rfl⟩
  obtain ⟨b15, h15⟩ : ∃ b, decide (x.k = 15) = b := ⟨_, rfl⟩
  obtain ⟨b17, h17⟩ : ∃ b, decide (x.k = 17) = b := ⟨_, rfl⟩
  obtain ⟨bn, hbn⟩ : ∃ b, (no != 0) = b := ⟨_, rfl⟩
  have hr : G.out c.q x no = if (b3 || b15 || b17) && bn then (Gr.err no, G) else G.out c.q x 0 := by
    by_cases hk : (x.k = 3 ∨ x.k = 15 ∨ x.k = 17) ∧ no ≠ 0
    · rw [out_no hcd hk.1 hk.2, if_pos]
      rw [← h3, ← h15, ← h17, ← hbn]
      simp only [Bool.and_eq_true, Bool.or_eq_true, decide_eq_true_eq, bne_iff_ne, ne_eq]
      exact ⟨by rcases hk.1 with h | h | h <;> simp [h], hk.2⟩
    · rw [out_same hcd (by by_cases hno : no = 0; exact .inr hno; exact .inl (by refine ⟨fun h => hk ⟨.inl h, hno⟩, fun h => hk ⟨.inr (.inl h), hno⟩, fun h => hk ⟨.inr (.inr h), hno⟩⟩)), if_neg]
      rw [← h3, ← h15, ← h17, ← hbn]
      simp only [Bool.and_eq_true, Bool.or_eq_true, decide_eq_true_eq, bne_iff_ne, ne_eq]
      exact fun h => hk ⟨by rcases h.1 with (h | h) | h <;> simp [h], h.2⟩
  have HR := Lib.hid hr
  have k3 : (x.k = 3) = (b3 = true) := by rw [← h3]; simp
  have k15 : (x.k = 15) = (b15 = true) := by rw [← h15]; simp
  have k17 : (x.k = 17) = (b17 = true) := by rw [← h17]; simp
  clear h hg hcd hr hrf
  cases b3 <;> cases b15 <;> cases b17 <;> cases bn
  all_goals
    simp only [Bool.false_eq_true, eq_iff_iff, iff_false, iff_true] at k3 k15 k17
    try (exfalso; omega)
  all_goals
    go_enter Try.func13, Try.ntmps13
    go_wp2_with (first
      | (refine wpList_load_row rfl 39 _ rfl w.heap.size rfl 39 x.cells (0, 0) _ ?_ Try.underlying39 rfl (by kernel_rfl) ?_; exact Hid.out (by assumption))
      | (go_at_call 34; refine (rcode_any (HG.out.below B2.out) HGD.out x).mono ?_; rw [HCD.out]; rintro e w4 ⟨rfl, hb4⟩; have B4 : Hid (Below w.heap.size w w4) := Lib.hid (below_next B2.out hb4); have A4 := Lib.hid (keep hb4 A2.out); have S4 := Lib.hid (keep hb4 S2.out); have s0 : w4.cell? ⟨w.heap.size, 0, none⟩ = some (.int .i64 x.k) := cell_of_row _ _ _ _ _ _ S4.out; clear hb4)
      | (go_at_call 35; refine (rdo_any (HG.out.below B4.out) HGD.out x HCD.out).mono ?_; rintro e w5 ⟨rfl, h5⟩; have A5 := Lib.hid ((h5.frm.block _ (heap_lt A4.out) (fun hm => by have := HFP.out _ hm; omega)).trans A4.out); have H5 := Lib.hid h5; clear h5)
      | (refine wpList_store_row rfl 36 _ _ rfl (w.heap.size + 1) (G.out c.q x 0).1.cells rfl rfl 36 _ A5.out (by kernel_rfl) rfl (by kernel_rfl) ?_)
      | (refine wpList_store_row rfl 36 _ _ rfl (w.heap.size + 1) (Gr.err no).cells rfl rfl 36 _ A4.out (by kernel_rfl) rfl (by kernel_rfl) ?_))
    first
    | exact bodyPost_ret (v := .agg (Gr.err no).cells) (results_cell_row rfl _ _ (w.heap.size + 1) 36 (Gr.err no).cells _ _ rfl (heap_setRow_same _ A4.out) Try.underlying36 rfl (by kernel_rfl)) rfl
        (by rw [HR.out]; exact ⟨rfl, gto_below HG.out (below_setRow B4.out (by omega) _)⟩)
    | exact bodyPost_ret (v := .agg (G.out c.q x 0).1.cells) (results_cell_row rfl _ _ (w.heap.size + 1) 36 (G.out c.q x 0).1.cells _ _ rfl (heap_setRow_same _ A5.out) Try.underlying36 rfl (by kernel_rfl)) rfl
        (by rw [HR.out]; exact ⟨rfl, H5.out.wrap B4.out HFP.out (K := w.heap.size + 1) (by omega) (heap_lt A4.out) (Frm.setRow (fp := [w.heap.size + 1]) _ (List.mem_singleton.2 rfl) _)⟩)
end
end Go.Proofs.Ytaefcmmjeloccaa
