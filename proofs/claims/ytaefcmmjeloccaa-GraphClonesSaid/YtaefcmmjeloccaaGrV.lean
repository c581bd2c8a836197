/- The graph's Clone. -/
import Derived.Test.YtaefcmmjeloccaaGrU
namespace Go.Proofs.Ytaefcmmjeloccaa
open Go.RowKit

theorem CI.begin (w : World) (c : Cfg) (G : Gr) : CI w (w.alloc (.cells #[.int .i64 c.p, .int .i64 c.t, .int .i64 c.w, .int .i64 c.q, .int .i64 c.g, .int .i64 c.cap, .int .i64 c.tax, .int .i64 c.ch, .int .i64 c.st, .int .i64 c.tr, .slice none 0 0, .slice none 0 0] 60)) w.heap.size c G 0 0 :=
  ⟨below_alloc0 w _, ⟨.slice none 0 0, .slice none 0 0, [], [], heap_alloc_new w _, ⟨rfl, .inl ⟨rfl, rfl⟩⟩, ⟨rfl, .inl ⟨rfl, rfl⟩⟩, rfl, rfl, ⟨by simp, fun i hi => absurd hi (by simp), by simp⟩, fun k hk => absurd hk (by simp)⟩, Nat.le_refl _⟩
theorem gx_cfg {w : World} {g : Nat} {c : Cfg} {x y : Value} {T : TypeId} (h : w.heap[g]? = some (.cells (c.cells ++ #[x, y]) T (0, 0))) : w.cell? ⟨g, 0, none⟩ = some (.int .i64 c.p) ∧ w.cell? ⟨g, 1, none⟩ = some (.int .i64 c.t) ∧ w.cell? ⟨g, 2, none⟩ = some (.int .i64 c.w) ∧ w.cell? ⟨g, 3, none⟩ = some (.int .i64 c.q) ∧ w.cell? ⟨g, 4, none⟩ = some (.int .i64 c.g) ∧ w.cell? ⟨g, 5, none⟩ = some (.int .i64 c.cap) ∧ w.cell? ⟨g, 6, none⟩ = some (.int .i64 c.tax) ∧ w.cell? ⟨g, 7, none⟩ = some (.int .i64 c.ch) ∧ w.cell? ⟨g, 8, none⟩ = some (.int .i64 c.st) ∧ w.cell? ⟨g, 9, none⟩ = some (.int .i64 c.tr) ∧ w.cell? ⟨g, 10, none⟩ = some x ∧ w.cell? ⟨g, 11, none⟩ = some y :=
  ⟨cell_of_row _ _ _ _ _ _ h, cell_of_row _ _ _ _ _ _ h, cell_of_row _ _ _ _ _ _ h, cell_of_row _ _ _ _ _ _ h, cell_of_row _ _ _ _ _ _ h, cell_of_row _ _ _ _ _ _ h, cell_of_row _ _ _ _ _ _ h, cell_of_row _ _ _ _ _ _ h, cell_of_row _ _ _ _ _ _ h, cell_of_row _ _ _ _ _ _ h, cell_of_row _ _ _ _ _ _ h, cell_of_row _ _ _ _ _ _ h⟩
set_option maxHeartbeats 40000000 in
set_option maxRecDepth 100000 in
theorem gclone_any {w : World} {g : Nat} {c : Cfg} {G : Gr} {tb tcap nb ncap : Nat} {hv nv : List Value} (h : Gx 60 72 w g c G tb tcap nb ncap hv nv) (hg : G.Good) :
    Calls Try.prog 18 #[.pointer (some ⟨g, 0, none⟩)] w fun e w' => ∃ k, e = .returned (.pointer (some ⟨k, 0, none⟩)) ∧ CI w w' k c G G.thr.length G.nod.length := by
  obtain ⟨p0, p1, p2, p3, p4, p5, p6, p7, p8, p9, q10, q11⟩ := gx_cfg h.blk
  have HPOS := Lib.hid hg.some
  have h8 := hg.few
  have hm := hg.most
  have HG := Lib.hid h
  have HGD := Lib.hid hg
  clear h hg
  obtain ⟨n, hn⟩ : ∃ n, n = G.nod.length := ⟨_, rfl⟩
  obtain ⟨t, ht⟩ : ∃ t, t = G.thr.length := ⟨_, rfl⟩
  have HN := Lib.hid hn
  have HT := Lib.hid ht
  rw [← hn] at q11 hm HPOS ⊢
  rw [← ht] at q10 h8 ⊢
  clear hn ht
  have HV0 := Lib.hid (CI.begin w c G)
  have q10A := fun o => cell_keep (below_alloc0 w o) q10
  go_enter Try.func18, Try.ntmps18
  go_wp2_with (go_at_call 23; refine (gis_yes g _ _ _ HPOS.out _ q11).mono ?_; rintro e w4 ⟨rfl, rfl⟩)
  generalize hW : World.alloc w _ = W5 at *
  clear hW q10A p0 p1 p2 p3 p4 p5 p6 p7 p8 p9
  obtain ⟨kc, hkc⟩ : ∃ kc, kc = w.heap.size := ⟨_, rfl⟩
  have HKC := Lib.hid hkc
  rw [← hkc]
  clear hkc
  go_loopw [21] (fun i wr => ∃ k : Nat, k ≤ t ∧ i = .int .i64 k ∧ Hid (CI w wr kc c G k 0)) (fun i _ => t - (intOf i).toNat)
  case atStart => exact ⟨0, by omega, rfl, by rw [HKC.out]; exact HV0⟩
  case round =>
    clear HV0
    obtain ⟨k, hk, rfl, HV⟩ := hrel
    by_cases hlt : k < t
    · have hGr := HG.out.below HV.out.below
      obtain ⟨-, r10, -⟩ := hGr.head
      rw [← HT.out] at r10
      obtain ⟨t0, t1⟩ := hGr.thread (t := k) (by rw [← HT.out]; exact hlt)
      have HO := Lib.hid (hGr.heldRow (t := k) (by rw [← HT.out]; exact hlt))
      have HK : Hid (k < G.thr.length) := Lib.hid (by rw [← HT.out]; exact hlt)
      clear hGr
      have H16 : Hid ((G.thr.getD k Th.none).held.length ≤ 16) := Lib.hid (HGD.out.th (k : Int)).1
      obtain ⟨l, hl⟩ : ∃ l, l = (G.thr.getD k Th.none).held := ⟨_, rfl⟩
      obtain ⟨b, hb⟩ : ∃ b, b = (G.thr.getD k Th.none).live := ⟨_, rfl⟩
      have HL := Lib.hid hl
      have HB := Lib.hid hb
      rw [← hl] at HO H16
      rw [← hb] at t0
      clear hl hb
      obtain ⟨hs, hhs⟩ : ∃ hs, hs = hv.getD k undef := ⟨_, rfl⟩
      rw [← hhs] at t1 HO
      have HHS := Lib.hid hhs
      clear hhs
      obtain ⟨tv, nvv, hv', ys, hkc, hown, hn2, hhl, hyl, hrows, hbase⟩ := HV.out.blk
      have c0 : wr.cell? ⟨kc, 10, none⟩ = some tv := (gx_cfg hkc).2.2.2.2.2.2.2.2.2.2.1
      have HKB := Lib.hid hkc
      have HOW := Lib.hid hown
      have HN2 := Lib.hid hn2
      have HHL := Lib.hid hhl
      have HYL := Lib.hid hyl
      have HRW := Lib.hid hrows
      have HBS := Lib.hid hbase
      clear hkc hown hn2 hhl hyl hrows hbase
      have HVD : Hid (CI w wr.drew kc c G k 0) := Lib.hid (HV.out.step (Below.refl _ _).drew)
      have i1 : (0 : Int) ≤ (k : Int) := by omega
      have i2 : (k : Int) < (t : Int) := by omega
      obtain ⟨i0, hi, hz0, hz1, hz2⟩ := info_parts info_thr
      have hi := Lib.hid hi
      have hz0 := Lib.hid hz0
      have hz1 := Lib.hid hz1
      have hz2 := Lib.hid hz2
      have HS : Hid (∀ W : World, Below w.heap.size w W → Hid (Below w.heap.size w W) ∧ W.cell? ⟨g, 10, none⟩ = some (.slice (some ⟨tb, 0, none⟩) t tcap) ∧ W.cell? ⟨tb, k * 2, none⟩ = some (.bool b) ∧ W.cell? ⟨tb, k * 2 + 1, none⟩ = some hs) := Lib.hid fun W hb => by
        have hG := HG.out.below hb
        have h1 := hG.head.2.1
        rw [← HT.out] at h1
        obtain ⟨h2, h3⟩ := hG.thread (t := k) HK.out
        rw [← HB.out] at h2
        rw [← HHS.out] at h3
        exact ⟨Lib.hid hb, h1, h2, h3⟩
      go_wp2_with fail
      refine wp_region_held_drew (S := fun W => Hid (Below w.heap.size w W) ∧ W.cell? ⟨g, 10, none⟩ = some (.slice (some ⟨tb, 0, none⟩) t tcap) ∧ W.cell? ⟨tb, k * 2, none⟩ = some (.bool b) ∧ W.cell? ⟨tb, k * 2 + 1, none⟩ = some hs) (by kernel_rfl) (HS.out _ HVD.out.below) (fun hHeld => ?_)
      simp only [List.size_toArray, List.length_cons, List.length_nil, Nat.zero_add, Nat.reduceAdd]
      refine wpAnyH_take (i := 0) (oi := { dst := some 24, op := Op.move (Operand.tmp 3), type := _, pos := _, after := _, guard := none }) (v := ?_) rfl (by kernel_rfl) (by kernel_rfl) (by kernel_rfl) (fun _ _ _ h => h) (Or.inl ⟨by rfl, ?_⟩) (by assumption) ?_
      rotate_left
      · (intro w hSw; (try dsimp only at hSw); go_simp; (try with_reducible rfl))
      try simp only [Act.put, List.setIfInBounds_toArray, List.set_cons_zero, List.set_cons_succ]
      refine wpAnyH_take (i := 1) (oi := { dst := some 25, op := Op.move (Operand.tmp 3), type := _, pos := _, after := _, guard := none }) (v := ?_) rfl (by kernel_rfl) (by kernel_rfl) (by kernel_rfl) (fun _ _ _ h => h) (Or.inl ⟨by rfl, ?_⟩) (by assumption) ?_
      rotate_left
      · (intro w hSw; (try dsimp only at hSw); go_simp; (try with_reducible rfl))
      try simp only [Act.put, List.setIfInBounds_toArray, List.set_cons_zero, List.set_cons_succ]
      refine wpAnyH_take (i := 2) (oi := { dst := some 26, op := Op.nilCheck (Operand.tmp 25), type := _, pos := _, after := _, guard := none }) (v := ?_) rfl (by kernel_rfl) (by kernel_rfl) (by kernel_rfl) (fun _ _ _ h => h) (Or.inl ⟨by rfl, ?_⟩) (by assumption) ?_
      rotate_left
      · (intro w hSw; (try dsimp only at hSw); go_simp; (try with_reducible rfl))
      try simp only [Act.put, List.setIfInBounds_toArray, List.set_cons_zero, List.set_cons_succ]
      refine wpAnyH_take (i := 3) (oi := { dst := some 27, op := Op.fieldAddr _ (Operand.tmp 26) 1, type := _, pos := _, after := _, guard := none }) (v := ?_) rfl (by kernel_rfl) (by kernel_rfl) (by kernel_rfl) (fun _ _ _ h => h) (Or.inl ⟨by rfl, ?_⟩) (by assumption) ?_
      rotate_left
      · (intro w hSw; (try dsimp only at hSw); go_simp; (try with_reducible rfl))
      try simp only [Act.put, List.setIfInBounds_toArray, List.set_cons_zero, List.set_cons_succ]
      refine wpAnyH_take (i := 5) (oi := { dst := some 29, op := Op.move (Operand.tmp 0), type := _, pos := _, after := _, guard := none }) (v := ?_) rfl (by kernel_rfl) (by kernel_rfl) (by kernel_rfl) (fun _ _ _ h => h) (Or.inl ⟨by rfl, ?_⟩) (by assumption) ?_
      rotate_left
      · (intro w hSw; (try dsimp only at hSw); go_simp; (try with_reducible rfl))
      try simp only [Act.put, List.setIfInBounds_toArray, List.set_cons_zero, List.set_cons_succ]
      refine wpAnyH_take (i := 6) (oi := { dst := some 30, op := Op.nilCheck (Operand.tmp 29), type := _, pos := _, after := _, guard := none }) (v := ?_) rfl (by kernel_rfl) (by kernel_rfl) (by kernel_rfl) (fun _ _ _ h => h) (Or.inl ⟨by rfl, ?_⟩) (by assumption) ?_
      rotate_left
      · (intro w hSw; (try dsimp only at hSw); go_simp; (try with_reducible rfl))
      try simp only [Act.put, List.setIfInBounds_toArray, List.set_cons_zero, List.set_cons_succ]
      refine wpAnyH_take (i := 7) (oi := { dst := some 31, op := Op.fieldAddr _ (Operand.tmp 30) 1, type := _, pos := _, after := _, guard := none }) (v := ?_) rfl (by kernel_rfl) (by kernel_rfl) (by kernel_rfl) (fun _ _ _ h => h) (Or.inl ⟨by rfl, ?_⟩) (by assumption) ?_
      rotate_left
      · (intro w hSw; (try dsimp only at hSw); go_simp; (try with_reducible rfl))
      try simp only [Act.put, List.setIfInBounds_toArray, List.set_cons_zero, List.set_cons_succ]
      refine wpAnyH_take (i := 8) (oi := { dst := some 32, op := Op.load _ (Operand.tmp 31), type := _, pos := _, after := _, guard := none }) (v := ?_) rfl (by kernel_rfl) (by kernel_rfl) (by kernel_rfl) (fun _ _ _ h => h) (Or.inl ⟨by rfl, ?_⟩) (by assumption) ?_
      rotate_left
      · (intro w hSw; (try dsimp only at hSw); go_simp; (try with_reducible rfl))
      try simp only [Act.put, List.setIfInBounds_toArray, List.set_cons_zero, List.set_cons_succ]
      refine wpAnyH_take (i := 9) (oi := { dst := some 33, op := Op.move (Operand.tmp 4), type := _, pos := _, after := _, guard := none }) (v := ?_) rfl (by kernel_rfl) (by kernel_rfl) (by kernel_rfl) (fun _ _ _ h => h) (Or.inl ⟨by rfl, ?_⟩) (by assumption) ?_
      rotate_left
      · (intro w hSw; (try dsimp only at hSw); go_simp; (try with_reducible rfl))
      try simp only [Act.put, List.setIfInBounds_toArray, List.set_cons_zero, List.set_cons_succ]
      refine wpAnyH_take (i := 10) (oi := { dst := some 34, op := Op.indexAddr _ (Operand.tmp 32) (Operand.tmp 33), type := _, pos := _, after := _, guard := none }) (v := ?_) rfl (by kernel_rfl) (by kernel_rfl) (by kernel_rfl) (fun _ _ _ h => h) (Or.inl ⟨by rfl, ?_⟩) (by assumption) ?_
      rotate_left
      · (intro w hSw; (try dsimp only at hSw); go_simp; (try with_reducible rfl))
      try simp only [Act.put, List.setIfInBounds_toArray, List.set_cons_zero, List.set_cons_succ]
      refine wpAnyH_take (i := 11) (oi := { dst := some 35, op := Op.fieldAddr _ (Operand.tmp 34) 0, type := _, pos := _, after := _, guard := none }) (v := ?_) rfl (by kernel_rfl) (by kernel_rfl) (by kernel_rfl) (fun _ _ _ h => h) (Or.inl ⟨by rfl, ?_⟩) (by assumption) ?_
      rotate_left
      · (intro w hSw; (try dsimp only at hSw); go_simp; (try with_reducible rfl))
      try simp only [Act.put, List.setIfInBounds_toArray, List.set_cons_zero, List.set_cons_succ]
      refine wpAnyH_take (i := 12) (oi := { dst := some 36, op := Op.load _ (Operand.tmp 35), type := _, pos := _, after := _, guard := none }) (v := ?_) rfl (by kernel_rfl) (by kernel_rfl) (by kernel_rfl) (fun _ _ _ h => h) (Or.inl ⟨by rfl, ?_⟩) (by assumption) ?_
      rotate_left
      · (intro w hSw; (try dsimp only at hSw); go_simp; (try with_reducible rfl))
      try simp only [Act.put, List.setIfInBounds_toArray, List.set_cons_zero, List.set_cons_succ]
      refine wpAnyH_take (i := 13) (oi := { dst := some 37, op := Op.move (Operand.tmp 0), type := _, pos := _, after := _, guard := none }) (v := ?_) rfl (by kernel_rfl) (by kernel_rfl) (by kernel_rfl) (fun _ _ _ h => h) (Or.inl ⟨by rfl, ?_⟩) (by assumption) ?_
      rotate_left
      · (intro w hSw; (try dsimp only at hSw); go_simp; (try with_reducible rfl))
      try simp only [Act.put, List.setIfInBounds_toArray, List.set_cons_zero, List.set_cons_succ]
      refine wpAnyH_take (i := 14) (oi := { dst := some 38, op := Op.nilCheck (Operand.tmp 37), type := _, pos := _, after := _, guard := none }) (v := ?_) rfl (by kernel_rfl) (by kernel_rfl) (by kernel_rfl) (fun _ _ _ h => h) (Or.inl ⟨by rfl, ?_⟩) (by assumption) ?_
      rotate_left
      · (intro w hSw; (try dsimp only at hSw); go_simp; (try with_reducible rfl))
      try simp only [Act.put, List.setIfInBounds_toArray, List.set_cons_zero, List.set_cons_succ]
      refine wpAnyH_take (i := 15) (oi := { dst := some 39, op := Op.fieldAddr _ (Operand.tmp 38) 1, type := _, pos := _, after := _, guard := none }) (v := ?_) rfl (by kernel_rfl) (by kernel_rfl) (by kernel_rfl) (fun _ _ _ h => h) (Or.inl ⟨by rfl, ?_⟩) (by assumption) ?_
      rotate_left
      · (intro w hSw; (try dsimp only at hSw); go_simp; (try with_reducible rfl))
      try simp only [Act.put, List.setIfInBounds_toArray, List.set_cons_zero, List.set_cons_succ]
      refine wpAnyH_take (i := 16) (oi := { dst := some 40, op := Op.load _ (Operand.tmp 39), type := _, pos := _, after := _, guard := none }) (v := ?_) rfl (by kernel_rfl) (by kernel_rfl) (by kernel_rfl) (fun _ _ _ h => h) (Or.inl ⟨by rfl, ?_⟩) (by assumption) ?_
      rotate_left
      · (intro w hSw; (try dsimp only at hSw); go_simp; (try with_reducible rfl))
      try simp only [Act.put, List.setIfInBounds_toArray, List.set_cons_zero, List.set_cons_succ]
      refine wpAnyH_take (i := 17) (oi := { dst := some 41, op := Op.move (Operand.tmp 4), type := _, pos := _, after := _, guard := none }) (v := ?_) rfl (by kernel_rfl) (by kernel_rfl) (by kernel_rfl) (fun _ _ _ h => h) (Or.inl ⟨by rfl, ?_⟩) (by assumption) ?_
      rotate_left
      · (intro w hSw; (try dsimp only at hSw); go_simp; (try with_reducible rfl))
      try simp only [Act.put, List.setIfInBounds_toArray, List.set_cons_zero, List.set_cons_succ]
      refine wpAnyH_take (i := 18) (oi := { dst := some 42, op := Op.indexAddr _ (Operand.tmp 40) (Operand.tmp 41), type := _, pos := _, after := _, guard := none }) (v := ?_) rfl (by kernel_rfl) (by kernel_rfl) (by kernel_rfl) (fun _ _ _ h => h) (Or.inl ⟨by rfl, ?_⟩) (by assumption) ?_
      rotate_left
      · (intro w hSw; (try dsimp only at hSw); go_simp; (try with_reducible rfl))
      try simp only [Act.put, List.setIfInBounds_toArray, List.set_cons_zero, List.set_cons_succ]
      refine wpAnyH_take (i := 19) (oi := { dst := some 43, op := Op.fieldAddr _ (Operand.tmp 42) 1, type := _, pos := _, after := _, guard := none }) (v := ?_) rfl (by kernel_rfl) (by kernel_rfl) (by kernel_rfl) (fun _ _ _ h => h) (Or.inl ⟨by rfl, ?_⟩) (by assumption) ?_
      rotate_left
      · (intro w hSw; (try dsimp only at hSw); go_simp; (try with_reducible rfl))
      try simp only [Act.put, List.setIfInBounds_toArray, List.set_cons_zero, List.set_cons_succ]
      refine wpAnyH_take (i := 20) (oi := { dst := some 44, op := Op.fieldAddr _ (Operand.tmp 43) 0, type := _, pos := _, after := _, guard := none }) (v := ?_) rfl (by kernel_rfl) (by kernel_rfl) (by kernel_rfl) (fun _ _ _ h => h) (Or.inl ⟨by rfl, ?_⟩) (by assumption) ?_
      rotate_left
      · (intro w hSw; (try dsimp only at hSw); go_simp; (try with_reducible rfl))
      try simp only [Act.put, List.setIfInBounds_toArray, List.set_cons_zero, List.set_cons_succ]
      refine wpAnyH_take (i := 21) (oi := { dst := some 45, op := Op.load _ (Operand.tmp 44), type := _, pos := _, after := _, guard := none }) (v := ?_) rfl (by kernel_rfl) (by kernel_rfl) (by kernel_rfl) (fun _ _ _ h => h) (Or.inl ⟨by rfl, ?_⟩) (by assumption) ?_
      rotate_left
      · (intro w hSw; (try dsimp only at hSw); go_simp; (try with_reducible rfl))
      try simp only [Act.put, List.setIfInBounds_toArray, List.set_cons_zero, List.set_cons_succ]
      refine wpAnyH_ready (rs := [4, 22]) (by kernel_rfl) (by simp) ?_
      refine AllReadyH.cons (o := { dst := some 28, op := Op.load _ (Operand.tmp 27), type := _, pos := _, after := _, guard := none }) rfl (fun K hK => ?_) ?_
      · go_simp
        refine hK.out _ _ (by (first | with_reducible assumption | exact HS.out _ HVD.out.below | exact HS.out _ B5.out | exact HS.out _ (B5.out.alloc B5.out.size _) | exact HS.out _ B7.out | exact HS.out _ (B7.out.trans HVD.out.set.below))) (fun hHeld => ?_)
        clear hK K
        try simp only [Act.put, List.setIfInBounds_toArray, List.set_cons_zero, List.set_cons_succ]
        refine wpAnyH_ready (rs := [22]) (by kernel_rfl) (by simp) ?_
        refine AllReadyH.cons (o := { dst := some 46, op := Op.call _, type := _, pos := _, after := _, guard := none }) rfl (fun K hK => ?_) ?_
        · go_simp
          (go_at_call 38; refine (clone_any hs _ _ _ (pw_own_keep HO.out (Below.refl _ _).drew) (by have := H16.out; omega)).mono ?_; rintro e w5 ⟨s', rfl, ho5, hb5⟩; obtain ⟨p5, c5, rfl, -, -⟩ := own_slice ho5; have c05 := cell_keep hb5 c0; have c06 := fun o => cell_keep (below_alloc0 w5 o) c05; have B5 := Lib.hid (HVD.out.step hb5).below)
          refine hK.out _ _ (by (first | with_reducible assumption | exact HS.out _ HVD.out.below | exact HS.out _ B5.out | exact HS.out _ (B5.out.alloc B5.out.size _) | exact HS.out _ B7.out | exact HS.out _ (B7.out.trans HVD.out.set.below))) (fun hHeld => ?_)
          clear hK K
          try simp only [Act.put, List.setIfInBounds_toArray, List.set_cons_zero, List.set_cons_succ]
          refine wpAnyH_take (i := 23) (oi := { dst := some 47, op := Op.build _ _, type := _, pos := _, after := _, guard := none }) (v := ?_) rfl (by kernel_rfl) (by kernel_rfl) (by kernel_rfl) (fun _ _ _ h => h) (Or.inl ⟨by rfl, ?_⟩) (by assumption) ?_
          rotate_left
          · (intro w hSw; (try dsimp only at hSw); go_simp; (try with_reducible rfl))
          try simp only [Act.put, List.setIfInBounds_toArray, List.set_cons_zero, List.set_cons_succ]
          refine wpAnyH_take (i := 24) (oi := { dst := some 48, op := Op.build _ _, type := _, pos := _, after := _, guard := none }) (v := ?_) rfl (by kernel_rfl) (by kernel_rfl) (by kernel_rfl) (fun _ _ _ h => h) (Or.inl ⟨by rfl, ?_⟩) (by assumption) ?_
          rotate_left
          · (intro w hSw; (try dsimp only at hSw); go_simp; (try with_reducible rfl))
          try simp only [Act.put, List.setIfInBounds_toArray, List.set_cons_zero, List.set_cons_succ]
          refine wpAnyH_ready (rs := [25]) (by kernel_rfl) (by simp) ?_
          refine AllReadyH.cons (o := { dst := some 49, op := Op.buildSlice _ _ _, type := _, pos := _, after := _, guard := none }) rfl (fun K hK => ?_) ?_
          · go_simp
            refine hK.out _ _ (by (first | with_reducible assumption | exact HS.out _ HVD.out.below | exact HS.out _ B5.out | exact HS.out _ (B5.out.alloc B5.out.size _) | exact HS.out _ B7.out | exact HS.out _ (B7.out.trans HVD.out.set.below))) (fun hHeld => ?_)
            clear hK K
            try simp only [Act.put, List.setIfInBounds_toArray, List.set_cons_zero, List.set_cons_succ]
            refine wpAnyH_ready (rs := [26]) (by kernel_rfl) (by simp) ?_
            refine AllReadyH.cons (o := { dst := some 50, op := Op.call _, type := _, pos := _, after := _, guard := none }) rfl (fun K hK => ?_) ?_
            · (rw [if_pos (by rfl)]; refine wp_append_own _ _ _ _ rfl w.heap.size 72 i0 (.agg #[.bool false, .slice none 0 0]) 2 32 Try.underlying58 hi.out hz0.out hz1.out hz2.out rfl (by decide) _ k _ rfl ((pw_own_keep HOW.out (below_next (Below.refl _ _).drew hb5)).alloc _) ⟨w5.heap.size, 0, none⟩ 1 1 [.bool b, .slice p5 l.length c5] rfl rfl (cell_new _ _ _ _) (by simp [Value.oneCell']) (by unfold maxLen; omega) (by omega) (Nat.le_trans HVD.out.below.size (Nat.le_trans hb5.size (by simp))) ?_; intro v' w7 hown hgrow _; obtain ⟨d', cap', rfl⟩ := own_pos (own_mono hown (Nat.zero_le _)) (by omega); have hk7 := HVD.out.mid hb5 hgrow HOW.out; have k70 : w7.cell? ⟨kc, 10, none⟩ = some tv := cell_of_row _ _ _ _ _ _ (hk7.kept _ _ _ _ HKB.out (by decide) (by simp)); have f70 : w7.frozen? ⟨kc, 10, none⟩ = false := frozen_of_row _ _ _ _ _ (hk7.kept _ _ _ _ HKB.out (by decide) (by simp)); have B7 := Lib.hid (HVD.out.below.trans hk7.below); clear hk7)
              refine hK.out _ _ (by (first | with_reducible assumption | exact HS.out _ HVD.out.below | exact HS.out _ B5.out | exact HS.out _ (B5.out.alloc B5.out.size _) | exact HS.out _ B7.out | exact HS.out _ (B7.out.trans HVD.out.set.below))) (fun hHeld => ?_)
              clear hK K
              try simp only [Act.put, List.setIfInBounds_toArray, List.set_cons_zero, List.set_cons_succ]
              refine wpAnyH_take (i := 27) (oi := { dst := some 51, op := Op.nilCheck (Operand.tmp 24), type := _, pos := _, after := _, guard := none }) (v := ?_) rfl (by kernel_rfl) (by kernel_rfl) (by kernel_rfl) (fun _ _ _ h => h) (Or.inl ⟨by rfl, ?_⟩) (by assumption) ?_
              rotate_left
              · (intro w hSw; (try dsimp only at hSw); go_simp; (try with_reducible rfl))
              try simp only [Act.put, List.setIfInBounds_toArray, List.set_cons_zero, List.set_cons_succ]
              refine wpAnyH_take (i := 28) (oi := { dst := some 52, op := Op.fieldAddr _ (Operand.tmp 51) 1, type := _, pos := _, after := _, guard := none }) (v := ?_) rfl (by kernel_rfl) (by kernel_rfl) (by kernel_rfl) (fun _ _ _ h => h) (Or.inl ⟨by rfl, ?_⟩) (by assumption) ?_
              rotate_left
              · (intro w hSw; (try dsimp only at hSw); go_simp; (try with_reducible rfl))
              try simp only [Act.put, List.setIfInBounds_toArray, List.set_cons_zero, List.set_cons_succ]
              refine wpAnyH_ready (rs := [29]) (by kernel_rfl) (by simp) ?_
              refine AllReadyH.cons (o := { dst := none, op := Op.store _ (Operand.tmp 52) (Operand.tmp 50), type := _, pos := _, after := _, guard := none }) rfl (fun K hK => ?_) ?_
              · go_simp
                refine hK.out _ _ (by (first | with_reducible assumption | exact HS.out _ HVD.out.below | exact HS.out _ B5.out | exact HS.out _ (B5.out.alloc B5.out.size _) | exact HS.out _ B7.out | exact HS.out _ (B7.out.trans HVD.out.set.below))) (fun hHeld => ?_)
                clear hK K
                try simp only [Act.put, List.setIfInBounds_toArray, List.set_cons_zero, List.set_cons_succ]
                refine wpAnyH_done (by kernel_rfl) ?_ _
                go_split_ands
                have HV8 := Lib.hid (HVD.out.thread HK.out HL.out HKB.out HOW.out HN2.out HHL.out HYL.out (HRW.out.keep fun _ _ => rfl) HBS.out ho5 hb5 hgrow (by rw [← HB.out]; exact hown))
                clear hown hgrow k70 f70 ho5 hb5 c05 c06 c0 r10 t0 t1
                go_wp2_with fail
                go_roundw
                case rel => exact ⟨k + 1, by omega, by go_num, HV8⟩
                case measure => simp [intOf]; omega
              exact AllReadyH.nil
            exact AllReadyH.nil
          exact AllReadyH.nil
        exact AllReadyH.nil
      refine AllReadyH.cons (o := { dst := some 46, op := Op.call _, type := _, pos := _, after := _, guard := none }) rfl (fun K hK => ?_) ?_
      · go_simp
        (go_at_call 38; refine (clone_any hs _ _ _ (pw_own_keep HO.out (Below.refl _ _).drew) (by have := H16.out; omega)).mono ?_; rintro e w5 ⟨s', rfl, ho5, hb5⟩; obtain ⟨p5, c5, rfl, -, -⟩ := own_slice ho5; have c05 := cell_keep hb5 c0; have c06 := fun o => cell_keep (below_alloc0 w5 o) c05; have B5 := Lib.hid (HVD.out.step hb5).below)
        refine hK.out _ _ (by (first | with_reducible assumption | exact HS.out _ HVD.out.below | exact HS.out _ B5.out | exact HS.out _ (B5.out.alloc B5.out.size _) | exact HS.out _ B7.out | exact HS.out _ (B7.out.trans HVD.out.set.below))) (fun hHeld => ?_)
        clear hK K
        try simp only [Act.put, List.setIfInBounds_toArray, List.set_cons_zero, List.set_cons_succ]
        refine wpAnyH_take (i := 23) (oi := { dst := some 47, op := Op.build _ _, type := _, pos := _, after := _, guard := none }) (v := ?_) rfl (by kernel_rfl) (by kernel_rfl) (by kernel_rfl) (fun _ _ _ h => h) (Or.inl ⟨by rfl, ?_⟩) (by assumption) ?_
        rotate_left
        · (intro w hSw; (try dsimp only at hSw); go_simp; (try with_reducible rfl))
        try simp only [Act.put, List.setIfInBounds_toArray, List.set_cons_zero, List.set_cons_succ]
        refine wpAnyH_take (i := 24) (oi := { dst := some 48, op := Op.build _ _, type := _, pos := _, after := _, guard := none }) (v := ?_) rfl (by kernel_rfl) (by kernel_rfl) (by kernel_rfl) (fun _ _ _ h => h) (Or.inl ⟨by rfl, ?_⟩) (by assumption) ?_
        rotate_left
        · (intro w hSw; (try dsimp only at hSw); go_simp; (try with_reducible rfl))
        try simp only [Act.put, List.setIfInBounds_toArray, List.set_cons_zero, List.set_cons_succ]
        refine wpAnyH_ready (rs := [4, 25]) (by kernel_rfl) (by simp) ?_
        refine AllReadyH.cons (o := { dst := some 28, op := Op.load _ (Operand.tmp 27), type := _, pos := _, after := _, guard := none }) rfl (fun K hK => ?_) ?_
        · go_simp
          refine hK.out _ _ (by (first | with_reducible assumption | exact HS.out _ HVD.out.below | exact HS.out _ B5.out | exact HS.out _ (B5.out.alloc B5.out.size _) | exact HS.out _ B7.out | exact HS.out _ (B7.out.trans HVD.out.set.below))) (fun hHeld => ?_)
          clear hK K
          try simp only [Act.put, List.setIfInBounds_toArray, List.set_cons_zero, List.set_cons_succ]
          refine wpAnyH_ready (rs := [25]) (by kernel_rfl) (by simp) ?_
          refine AllReadyH.cons (o := { dst := some 49, op := Op.buildSlice _ _ _, type := _, pos := _, after := _, guard := none }) rfl (fun K hK => ?_) ?_
          · go_simp
            refine hK.out _ _ (by (first | with_reducible assumption | exact HS.out _ HVD.out.below | exact HS.out _ B5.out | exact HS.out _ (B5.out.alloc B5.out.size _) | exact HS.out _ B7.out | exact HS.out _ (B7.out.trans HVD.out.set.below))) (fun hHeld => ?_)
            clear hK K
            try simp only [Act.put, List.setIfInBounds_toArray, List.set_cons_zero, List.set_cons_succ]
            refine wpAnyH_ready (rs := [26]) (by kernel_rfl) (by simp) ?_
            refine AllReadyH.cons (o := { dst := some 50, op := Op.call _, type := _, pos := _, after := _, guard := none }) rfl (fun K hK => ?_) ?_
            · (rw [if_pos (by rfl)]; refine wp_append_own _ _ _ _ rfl w.heap.size 72 i0 (.agg #[.bool false, .slice none 0 0]) 2 32 Try.underlying58 hi.out hz0.out hz1.out hz2.out rfl (by decide) _ k _ rfl ((pw_own_keep HOW.out (below_next (Below.refl _ _).drew hb5)).alloc _) ⟨w5.heap.size, 0, none⟩ 1 1 [.bool b, .slice p5 l.length c5] rfl rfl (cell_new _ _ _ _) (by simp [Value.oneCell']) (by unfold maxLen; omega) (by omega) (Nat.le_trans HVD.out.below.size (Nat.le_trans hb5.size (by simp))) ?_; intro v' w7 hown hgrow _; obtain ⟨d', cap', rfl⟩ := own_pos (own_mono hown (Nat.zero_le _)) (by omega); have hk7 := HVD.out.mid hb5 hgrow HOW.out; have k70 : w7.cell? ⟨kc, 10, none⟩ = some tv := cell_of_row _ _ _ _ _ _ (hk7.kept _ _ _ _ HKB.out (by decide) (by simp)); have f70 : w7.frozen? ⟨kc, 10, none⟩ = false := frozen_of_row _ _ _ _ _ (hk7.kept _ _ _ _ HKB.out (by decide) (by simp)); have B7 := Lib.hid (HVD.out.below.trans hk7.below); clear hk7)
              refine hK.out _ _ (by (first | with_reducible assumption | exact HS.out _ HVD.out.below | exact HS.out _ B5.out | exact HS.out _ (B5.out.alloc B5.out.size _) | exact HS.out _ B7.out | exact HS.out _ (B7.out.trans HVD.out.set.below))) (fun hHeld => ?_)
              clear hK K
              try simp only [Act.put, List.setIfInBounds_toArray, List.set_cons_zero, List.set_cons_succ]
              refine wpAnyH_take (i := 27) (oi := { dst := some 51, op := Op.nilCheck (Operand.tmp 24), type := _, pos := _, after := _, guard := none }) (v := ?_) rfl (by kernel_rfl) (by kernel_rfl) (by kernel_rfl) (fun _ _ _ h => h) (Or.inl ⟨by rfl, ?_⟩) (by assumption) ?_
              rotate_left
              · (intro w hSw; (try dsimp only at hSw); go_simp; (try with_reducible rfl))
              try simp only [Act.put, List.setIfInBounds_toArray, List.set_cons_zero, List.set_cons_succ]
              refine wpAnyH_take (i := 28) (oi := { dst := some 52, op := Op.fieldAddr _ (Operand.tmp 51) 1, type := _, pos := _, after := _, guard := none }) (v := ?_) rfl (by kernel_rfl) (by kernel_rfl) (by kernel_rfl) (fun _ _ _ h => h) (Or.inl ⟨by rfl, ?_⟩) (by assumption) ?_
              rotate_left
              · (intro w hSw; (try dsimp only at hSw); go_simp; (try with_reducible rfl))
              try simp only [Act.put, List.setIfInBounds_toArray, List.set_cons_zero, List.set_cons_succ]
              refine wpAnyH_ready (rs := [29]) (by kernel_rfl) (by simp) ?_
              refine AllReadyH.cons (o := { dst := none, op := Op.store _ (Operand.tmp 52) (Operand.tmp 50), type := _, pos := _, after := _, guard := none }) rfl (fun K hK => ?_) ?_
              · go_simp
                refine hK.out _ _ (by (first | with_reducible assumption | exact HS.out _ HVD.out.below | exact HS.out _ B5.out | exact HS.out _ (B5.out.alloc B5.out.size _) | exact HS.out _ B7.out | exact HS.out _ (B7.out.trans HVD.out.set.below))) (fun hHeld => ?_)
                clear hK K
                try simp only [Act.put, List.setIfInBounds_toArray, List.set_cons_zero, List.set_cons_succ]
                refine wpAnyH_done (by kernel_rfl) ?_ _
                go_split_ands
                have HV8 := Lib.hid (HVD.out.thread HK.out HL.out HKB.out HOW.out HN2.out HHL.out HYL.out (HRW.out.keep fun _ _ => rfl) HBS.out ho5 hb5 hgrow (by rw [← HB.out]; exact hown))
                clear hown hgrow k70 f70 ho5 hb5 c05 c06 c0 r10 t0 t1
                go_wp2_with fail
                go_roundw
                case rel => exact ⟨k + 1, by omega, by go_num, HV8⟩
                case measure => simp [intOf]; omega
              exact AllReadyH.nil
            exact AllReadyH.nil
          exact AllReadyH.nil
        refine AllReadyH.cons (o := { dst := some 49, op := Op.buildSlice _ _ _, type := _, pos := _, after := _, guard := none }) rfl (fun K hK => ?_) ?_
        · go_simp
          refine hK.out _ _ (by (first | with_reducible assumption | exact HS.out _ HVD.out.below | exact HS.out _ B5.out | exact HS.out _ (B5.out.alloc B5.out.size _) | exact HS.out _ B7.out | exact HS.out _ (B7.out.trans HVD.out.set.below))) (fun hHeld => ?_)
          clear hK K
          try simp only [Act.put, List.setIfInBounds_toArray, List.set_cons_zero, List.set_cons_succ]
          refine wpAnyH_ready (rs := [4]) (by kernel_rfl) (by simp) ?_
          refine AllReadyH.cons (o := { dst := some 28, op := Op.load _ (Operand.tmp 27), type := _, pos := _, after := _, guard := none }) rfl (fun K hK => ?_) ?_
          · go_simp
            refine hK.out _ _ (by (first | with_reducible assumption | exact HS.out _ HVD.out.below | exact HS.out _ B5.out | exact HS.out _ (B5.out.alloc B5.out.size _) | exact HS.out _ B7.out | exact HS.out _ (B7.out.trans HVD.out.set.below))) (fun hHeld => ?_)
            clear hK K
            try simp only [Act.put, List.setIfInBounds_toArray, List.set_cons_zero, List.set_cons_succ]
            refine wpAnyH_ready (rs := [26]) (by kernel_rfl) (by simp) ?_
            refine AllReadyH.cons (o := { dst := some 50, op := Op.call _, type := _, pos := _, after := _, guard := none }) rfl (fun K hK => ?_) ?_
            · (rw [if_pos (by rfl)]; refine wp_append_own _ _ _ _ rfl w.heap.size 72 i0 (.agg #[.bool false, .slice none 0 0]) 2 32 Try.underlying58 hi.out hz0.out hz1.out hz2.out rfl (by decide) _ k _ rfl ((pw_own_keep HOW.out (below_next (Below.refl _ _).drew hb5)).alloc _) ⟨w5.heap.size, 0, none⟩ 1 1 [.bool b, .slice p5 l.length c5] rfl rfl (cell_new _ _ _ _) (by simp [Value.oneCell']) (by unfold maxLen; omega) (by omega) (Nat.le_trans HVD.out.below.size (Nat.le_trans hb5.size (by simp))) ?_; intro v' w7 hown hgrow _; obtain ⟨d', cap', rfl⟩ := own_pos (own_mono hown (Nat.zero_le _)) (by omega); have hk7 := HVD.out.mid hb5 hgrow HOW.out; have k70 : w7.cell? ⟨kc, 10, none⟩ = some tv := cell_of_row _ _ _ _ _ _ (hk7.kept _ _ _ _ HKB.out (by decide) (by simp)); have f70 : w7.frozen? ⟨kc, 10, none⟩ = false := frozen_of_row _ _ _ _ _ (hk7.kept _ _ _ _ HKB.out (by decide) (by simp)); have B7 := Lib.hid (HVD.out.below.trans hk7.below); clear hk7)
              refine hK.out _ _ (by (first | with_reducible assumption | exact HS.out _ HVD.out.below | exact HS.out _ B5.out | exact HS.out _ (B5.out.alloc B5.out.size _) | exact HS.out _ B7.out | exact HS.out _ (B7.out.trans HVD.out.set.below))) (fun hHeld => ?_)
              clear hK K
              try simp only [Act.put, List.setIfInBounds_toArray, List.set_cons_zero, List.set_cons_succ]
              refine wpAnyH_take (i := 27) (oi := { dst := some 51, op := Op.nilCheck (Operand.tmp 24), type := _, pos := _, after := _, guard := none }) (v := ?_) rfl (by kernel_rfl) (by kernel_rfl) (by kernel_rfl) (fun _ _ _ h => h) (Or.inl ⟨by rfl, ?_⟩) (by assumption) ?_
              rotate_left
              · (intro w hSw; (try dsimp only at hSw); go_simp; (try with_reducible rfl))
              try simp only [Act.put, List.setIfInBounds_toArray, List.set_cons_zero, List.set_cons_succ]
              refine wpAnyH_take (i := 28) (oi := { dst := some 52, op := Op.fieldAddr _ (Operand.tmp 51) 1, type := _, pos := _, after := _, guard := none }) (v := ?_) rfl (by kernel_rfl) (by kernel_rfl) (by kernel_rfl) (fun _ _ _ h => h) (Or.inl ⟨by rfl, ?_⟩) (by assumption) ?_
              rotate_left
              · (intro w hSw; (try dsimp only at hSw); go_simp; (try with_reducible rfl))
              try simp only [Act.put, List.setIfInBounds_toArray, List.set_cons_zero, List.set_cons_succ]
              refine wpAnyH_ready (rs := [29]) (by kernel_rfl) (by simp) ?_
              refine AllReadyH.cons (o := { dst := none, op := Op.store _ (Operand.tmp 52) (Operand.tmp 50), type := _, pos := _, after := _, guard := none }) rfl (fun K hK => ?_) ?_
              · go_simp
                refine hK.out _ _ (by (first | with_reducible assumption | exact HS.out _ HVD.out.below | exact HS.out _ B5.out | exact HS.out _ (B5.out.alloc B5.out.size _) | exact HS.out _ B7.out | exact HS.out _ (B7.out.trans HVD.out.set.below))) (fun hHeld => ?_)
                clear hK K
                try simp only [Act.put, List.setIfInBounds_toArray, List.set_cons_zero, List.set_cons_succ]
                refine wpAnyH_done (by kernel_rfl) ?_ _
                go_split_ands
                have HV8 := Lib.hid (HVD.out.thread HK.out HL.out HKB.out HOW.out HN2.out HHL.out HYL.out (HRW.out.keep fun _ _ => rfl) HBS.out ho5 hb5 hgrow (by rw [← HB.out]; exact hown))
                clear hown hgrow k70 f70 ho5 hb5 c05 c06 c0 r10 t0 t1
                go_wp2_with fail
                go_roundw
                case rel => exact ⟨k + 1, by omega, by go_num, HV8⟩
                case measure => simp [intOf]; omega
              exact AllReadyH.nil
            exact AllReadyH.nil
          exact AllReadyH.nil
        exact AllReadyH.nil
      exact AllReadyH.nil
    · obtain rfl : k = t := by omega
      clear hk hlt q10 h8
      have q11r := cell_keep HV.out.below q11
      go_wp2_with fail
      clear q11 q11r
      have HV1 : Hid (CI w wr kc c G k 0) := HV
      clear HV
      go_loopw [59] (fun i wq => ∃ j : Nat, j ≤ n ∧ i = .int .i64 j ∧ Hid (CI w wq kc c G k j)) (fun i _ => n - (intOf i).toNat)
      case atStart => exact ⟨0, by omega, rfl, HV1⟩
      case round =>
        clear HV1
        obtain ⟨j, hj, rfl, HV⟩ := hrel
        by_cases hlt : j < n
        · have hGr := HG.out.below HV.out.below
          obtain ⟨e1, ho1⟩ := hGr.nodeRow (s := j) (by rw [← HN.out]; exact hlt)
          clear hGr
          obtain ⟨sv, hsv⟩ : ∃ sv, sv = nv.getD j undef := ⟨_, rfl⟩
          obtain ⟨l, hl⟩ : ∃ l, l = G.nod.getD j [] := ⟨_, rfl⟩
          rw [← hsv] at e1 ho1
          rw [← hl] at ho1
          have HL := Lib.hid hl
          have HO := Lib.hid ho1
          have HJ : Hid (j < G.nod.length) := Lib.hid (by rw [← HN.out]; exact hlt)
          have H127 : Hid (l.length ≤ 127) := Lib.hid (by rw [hl]; exact (HGD.out.nd (j : Int)).1)
          clear ho1 hl hsv
          obtain ⟨tv, nvv, hv', ys, hkc, hown, hn2, hhl, hyl, hrows, hbase⟩ := HV.out.blk
          have c0 : wr.cell? ⟨kc, 11, none⟩ = some nvv := (gx_cfg hkc).2.2.2.2.2.2.2.2.2.2.2
          have HKB := Lib.hid hkc
          have HOW := Lib.hid hown
          have HN2 := Lib.hid hn2
          have HHL := Lib.hid hhl
          have HYL := Lib.hid hyl
          have HRW := Lib.hid hrows
          have HBS := Lib.hid hbase
          clear hkc hown hn2 hhl hyl hrows hbase
          have HVD : Hid (CI w wr.drew kc c G k j) := Lib.hid (HV.out.step (Below.refl _ _).drew)
          have i1 : (0 : Int) ≤ (j : Int) := by omega
          have i2 : (j : Int) < (n : Int) := by omega
          obtain ⟨i0, hi, hz0, hz1, hz2⟩ := info_parts info_vals
          have hi := Lib.hid hi
          have hz0 := Lib.hid hz0
          have hz1 := Lib.hid hz1
          have hz2 := Lib.hid hz2
          go_wp2_with fail
          go_region_law (first | (refine wp_append_own _ _ _ _ rfl w.heap.size 53 i0 (.slice none 0 0) 1 24 Try.underlying42 hi.out hz0.out hz1.out hz2.out rfl (by decide) _ j _ rfl ((pw_own_keep HN2.out (below_next (Below.refl _ _).drew hb5)).alloc _) ⟨w5.heap.size, 0, none⟩ 1 1 [.slice p5 l.length c5] rfl rfl (cell_new _ _ _ _) (by simp [Value.oneCell']) (by unfold maxLen; omega) (by omega) (Nat.le_trans HVD.out.below.size (Nat.le_trans hb5.size (by simp))) ?_; intro v' w7 hown hgrow _; obtain ⟨d', cap', rfl⟩ := own_pos (own_mono hown (Nat.zero_le _)) (by omega); have hk7 := HVD.out.mid hb5 hgrow HN2.out; have k70 : w7.cell? ⟨kc, 11, none⟩ = some nvv := cell_of_row _ _ _ _ _ _ (hk7.kept _ _ _ _ HKB.out (by decide) (by simp)); have f70 : w7.frozen? ⟨kc, 11, none⟩ = false := frozen_of_row _ _ _ _ _ (hk7.kept _ _ _ _ HKB.out (by decide) (by simp)); clear hk7) | (go_simp; go_at_call 38; refine (clone_any sv _ _ _ (pw_own_keep HO.out (Below.refl _ _).drew) (by have := H127.out; omega)).mono ?_; rintro e w5 ⟨s', rfl, ho5, hb5⟩; obtain ⟨p5, c5, rfl, -, -⟩ := own_slice ho5; have c05 := cell_keep hb5 c0; have c06 := fun o => cell_keep (below_alloc0 w5 o) c05; dsimp only))
          all_goals
            have HV8 := Lib.hid (HVD.out.node HJ.out HL.out HKB.out HOW.out HN2.out HHL.out HYL.out (HRW.out.keep fun _ _ => rfl) HBS.out ho5 hb5 hgrow hown)
            clear hown hgrow k70 f70 ho5 hb5 c05 c06 c0 e1
            go_wp2_with fail
            go_roundw
            case rel => exact ⟨j + 1, by omega, by go_num, HV8⟩
            case measure => simp [intOf]; omega
        · obtain rfl : j = n := by omega
          go_wp2_with fail
          go_ret
          exact ⟨_, rfl, HV.out⟩
theorem gclone_ga {B : Nat} {w : World} {g : Nat} {c : Cfg} {G : Gr} {fp : List Nat} (h : GA B w g c G fp) (hg : G.Good) :
    Calls Try.prog 18 #[.pointer (some ⟨g, 0, none⟩)] w fun e w' => ∃ k fp', e = .returned (.pointer (some ⟨k, 0, none⟩)) ∧ GA w.heap.size w' k c G fp' ∧ Below w.heap.size w w' := by
  obtain ⟨tb, tcap, nb, ncap, hv, nv, gx, rfl, hB⟩ := h
  refine (gclone_any gx hg).mono fun e w' ⟨k, he, hc⟩ => ?_
  obtain ⟨fp, hga⟩ := hc.whole hg
  exact ⟨k, fp, he, hga, hc.below⟩
end Go.Proofs.Ytaefcmmjeloccaa
