/- The graph's asked: a new object. -/
import Derived.Test.YtaefcmmjeloccaaGrC
namespace Go.Proofs.Ytaefcmmjeloccaa
open Go.RowKit

theorem info_vals : (Try.prog.info? 53).map (fun i => (i.zero, i.size, i.bytes)) = some (some (.slice none 0 0), 1, 24) := by kernel_rfl
theorem vls_zero : ∀ n, vls (List.replicate n (0, 0)) = List.replicate (n * 2) (.int .i64 0)
  | 0 => rfl
  | n + 1 => by
    rw [List.replicate_succ, show (n + 1) * 2 = n * 2 + 1 + 1 by omega, List.replicate_succ, List.replicate_succ, ← vls_zero n]
    rfl
theorem made_vals (n : Nat) : madeCells #[.int .i64 0, .int .i64 0] (n * 2) = (vls (List.replicate n (0, 0))).toArray := by
  rw [vls_zero]
  apply Array.ext
  · simp [madeCells]
  · intro i h1 h2
    simp only [madeCells, Array.getElem_map, Array.getElem_range, List.getElem_toArray, List.getElem_replicate]
    have : i % 2 = 0 ∨ i % 2 = 1 := by omega
    show (#[Value.int .i64 0, Value.int .i64 0])[i % 2]! = _
    rcases this with h | h <;> rw [h] <;> rfl
theorem make_vals (n : Nat) (hn : n ≤ 127) (w : World) : (Instr.makeSlice 53 (.int .i64 (n : Int)) (.int .i64 (n : Int))).run Try.prog w = .ok (.slice (some ⟨w.heap.size, 0, none⟩) n n) (w.alloc (.cells (vls (List.replicate n (0, 0))).toArray 57)) := by
  obtain ⟨i0, hi, hz0, hz1, hz2⟩ := info_parts info_val
  have h := run_make (P := Try.prog) w 53 57 i0 _ Try.underlying53 hi hz0 .i64 .i64 n n (by omega) (by omega) (by rw [hz2]; omega) (by omega)
  rw [hz1] at h
  rw [← made_vals]
  exact h
/-- A row just made. -/
theorem own_made (n : Nat) {w w1 : World} (hb : Below (w.alloc (.cells (vls (List.replicate n (0, 0))).toArray 57)).heap.size (w.alloc (.cells (vls (List.replicate n (0, 0))).toArray 57)) w1) (hn : n ≤ 127) :
    Own w1 57 2 n (.slice (some ⟨w.heap.size, 0, none⟩) n n) (vls (List.replicate n (0, 0))) := by
  refine pw_own_keep ?_ hb
  have := World.ownsRow_lit (base := 0) (e := 57) (size := 2) w (vls (List.replicate n (0, 0))).toArray n (Nat.zero_le _) (by unfold maxLen; omega) (by rw [List.size_toArray, vls_len, List.length_replicate])
  simpa using this
theorem or_of {v' : Value} {nb m k : Nat} {b : Nat} (h : v'.ownBlock = (Value.slice (some ⟨nb, 0, none⟩) k m).ownBlock ∨ v'.ownBlock = some b) {n : Nat} (hb : n ≤ b) : v'.ownBlock = some nb ∨ ∃ k, v'.ownBlock = some k ∧ n ≤ k := by
  rcases h with h | h
  · exact .inl h
  · exact .inr ⟨_, h, hb⟩
/-- Two turnings, one behind the other. -/
theorem GTo.comp {GT TT : TypeId} {w0 w8 w10 w11 : World} {g : Nat} {c : Cfg} {G' : Gr} {fp fp' : List Nat} (fr : Frm fp w0 w8) (fs : Fresh w0.heap.size fp fp') (hb : Below w8.heap.size w8 w10) (h2 : GTo GT TT w10 w11 g c G' fp') : GTo GT TT w0 w11 g c G' fp := by
  obtain ⟨tb, tcap, nb, ncap, hv, nv, gx, fr2, fs2⟩ := h2
  have h1 := fr.size
  have h3 := hb.size
  refine ⟨tb, tcap, nb, ncap, hv, nv, gx, fr.trans ((Frm.of_below fp' hb).trans fr2 (fresh_sub fun _ h => h)) fs, fun k hk => ?_⟩
  rcases fs2 k hk with h4 | h4
  · exact fs k h4
  · exact .inr (by omega)
section
variable {w : World} {g : Nat} {c : Cfg} {G : Gr} {tb tcap nb ncap : Nat} {hv nv : List Value}
/-- The graph's cell of objects, where their row has grown. -/
theorem Gx.afterNode (h : Gx 60 72 w g c G tb tcap nb ncap hv nv) {w1 w2 : World} {n m : Nat} (hb : Below w.heap.size w w1) (hg : w1.grownBy w2 (Value.slice (some ⟨nb, 0, none⟩) n m).ownBlock) :
    w2.cell? ⟨g, 11, none⟩ = some (.slice (some ⟨nb, 0, none⟩) G.nod.length ncap) ∧ w2.frozen? ⟨g, 11, none⟩ = false := by
  have hgl := heap_lt h.blk
  have he : w2.heap[g]? = w.heap[g]? := (hg.block g (Nat.lt_of_lt_of_le hgl hb.size) (fun e => (h.apart kinds_g).2.1 (by simpa [Value.ownBlock] using e))).trans (hb.block g hgl)
  exact ⟨(World.cell?_of_block he).trans h.head.2.2, (World.frozen?_of_block he).trans (frozen_of_row _ _ _ _ _ h.blk)⟩
set_option maxHeartbeats 8000000 in
set_option maxRecDepth 100000 in
theorem gasked_3 (h : Gx 60 72 w g c G tb tcap nb ncap hv nv) (hg : G.Good) (x : Stp) (no : Int) (hk : x.k = 3) (t : Nat) (ht : x.t = (t : Int)) (hlt : t < G.thr.length) :
    Calls Try.prog 27 #[.pointer (some ⟨g, 0, none⟩), .agg x.cells, .int .i64 no] w fun e w' => DoR w w' g c (G.kind c.q x no 3) (fpOf g tb nb hv nv) e := by
  have B2 := Lib.hid (below_new (below_alloc0 w (.cells x.cells 39)) (.cells zAns 36))
  have A2 := Lib.hid (heap_two w (.cells x.cells 39) (.cells zAns 36))
  have HG := Lib.hid h
  obtain ⟨g0, g1, g2, g3, g4, g5, g6⟩ := stp_box w x
  rw [hk] at g0
  rw [ht] at g1
  have s0 := cell_keep (below_alloc0 _ (.cells zAns 36)) g0
  have s1 := cell_keep (below_alloc0 _ (.cells zAns 36)) g1
  have s5 := cell_keep (below_alloc0 _ (.cells zAns 36)) g5
  have s6 := cell_keep (below_alloc0 _ (.cells zAns 36)) g6
  obtain ⟨q3, q10, q11⟩ := (h.below B2.out).head
  have i1 : (0 : Int) ≤ (t : Int) := by omega
  have i2 : (t : Int) < (G.thr.length : Int) := by omega
  have HT := Lib.hid ht
  have HMOST := Lib.hid hg.most
  clear h g0 g1 g2 g3 g4 g5 g6 hg
  obtain ⟨b1, hb1⟩ : ∃ b1, b1 = (decide (x.c < 1) || decide (c.q < x.c)) := ⟨_, rfl⟩
  obtain ⟨b2, hb2⟩ : ∃ b2, b2 = (decide (x.n < 0) || decide (127 < x.n)) := ⟨_, rfl⟩
  have HB1 := Lib.hid hb1
  have HB2 := Lib.hid hb2
  obtain ⟨b3, hb3⟩ : ∃ b3, b3 = decide (16 ≤ (G.held (t : Int)).length) := ⟨_, rfl⟩
  have HB3 := Lib.hid hb3
  have hkd : G.kind c.q x no 3 = if b1 || b2 then (Gr.err 4, G) else if b3 then (Gr.err 3, G) else if no ≠ 0 then (Gr.err no, G) else (Gr.told (2, (G.nod.length : Int)), (G.addN x.n).hold (t : Int) (2, (G.nod.length : Int))) := by
    rw [hb1, hb2, hb3]
    show (if _ then _ else if 16 ≤ (G.held x.t).length then _ else if no ≠ 0 then _ else (_, (G.addN x.n).hold x.t _)) = _
    rw [ht]
    simp only [decide_eq_true_eq]
    rfl
  have HOWN : Hid (∀ W', Below w.heap.size w W' → Calls Try.prog 44 #[.pointer (some ⟨tb, t * 2 + 1, none⟩)] W' fun e w' => e = .returned (.bool b3) ∧ W' = w') := Lib.hid fun W' hb => by
    have h2 := HG.out.hold hlt hb
    rw [hb3]
    exact gfull_own _ _ _ _ _ W' h2.1 h2.2
  rw [hkd]
  clear hb1 hb2 hb3 hkd ht
  cases b1
  · cases b2
    · cases b3
      · by_cases hn : no = 0
        · subst hn
          show Calls _ _ _ _ fun e w' => DoR w w' g c (Gr.told (2, (G.nod.length : Int)), (G.addN x.n).hold (t : Int) (2, (G.nod.length : Int))) _ e
          go_enter Try.func27, Try.ntmps27
          go_wp2_with fail
          go_quiet ((go_at_call 33; refine quiet_eq (goutside_b HB1.out _)))
          generalize hw3 : World.drewN _ _ = w3
          have B3 : Hid (Below w.heap.size w w3) := Lib.hid (by rw [← hw3]; (repeat (first | exact B2.out | exact Below.refl _ _ | refine Below.drew ?_ | refine below_new ?_ _ | refine below_drewN ?_ _ | refine Below.setCell ?_ (by first | exact Nat.le_refl _ | (simp only [World.size_alloc]; omega)) _)))
          have A3 : Hid (w3.heap[w.heap.size + 1]? = some (.cells zAns 36 (0, 0))) := Lib.hid (by rw [← hw3]; exact A2.out)
          replace s0 : w3.cell? ⟨w.heap.size, 0, none⟩ = some (.int .i64 3) := by rw [← hw3]; exact s0
          replace s1 : w3.cell? ⟨w.heap.size, 1, none⟩ = some (.int .i64 (t : Int)) := by rw [← hw3]; exact s1
          replace s6 : w3.cell? ⟨w.heap.size, 6, none⟩ = some (.int .i64 x.n) := by rw [← hw3]; exact s6
          replace q10 : w3.cell? ⟨g, 10, none⟩ = some (.slice (some ⟨tb, 0, none⟩) G.thr.length tcap) := by rw [← hw3]; exact q10
          replace q11 : w3.cell? ⟨g, 11, none⟩ = some (.slice (some ⟨nb, 0, none⟩) G.nod.length ncap) := by rw [← hw3]; exact q11
          clear hw3
          go_wp2_with (go_at_call 33; refine (goutside_b HB2.out _).mono ?_; rintro e w5 ⟨rfl, rfl⟩)
          go_quiet ((go_at_call 44; refine quiet_eq (HOWN.out _ (below_drewN B3.out _))))
          generalize hw4 : World.drewN _ _ = w4
          replace B3 : Hid (Below w.heap.size w w4) := Lib.hid (by rw [← hw4]; exact below_drewN B3.out _)
          replace A3 : Hid (w4.heap[w.heap.size + 1]? = some (.cells zAns 36 (0, 0))) := Lib.hid (by rw [← hw4]; exact A3.out)
          replace s0 : w4.cell? ⟨w.heap.size, 0, none⟩ = some (.int .i64 3) := by rw [← hw4]; exact s0
          replace s1 : w4.cell? ⟨w.heap.size, 1, none⟩ = some (.int .i64 (t : Int)) := by rw [← hw4]; exact s1
          replace s6 : w4.cell? ⟨w.heap.size, 6, none⟩ = some (.int .i64 x.n) := by rw [← hw4]; exact s6
          replace q10 : w4.cell? ⟨g, 10, none⟩ = some (.slice (some ⟨tb, 0, none⟩) G.thr.length tcap) := by rw [← hw4]; exact q10
          replace q11 : w4.cell? ⟨g, 11, none⟩ = some (.slice (some ⟨nb, 0, none⟩) G.nod.length ncap) := by rw [← hw4]; exact q11
          clear hw4
          go_wp2_with fail
          obtain ⟨n, hn⟩ : ∃ n : Nat, x.n = (n : Int) := by
            refine ⟨x.n.toNat, ?_⟩
            have := HB2.out
            by_cases h1 : x.n < 0
            · simp [h1] at this
            · omega
          have hn127 : n ≤ 127 := by
            have := HB2.out
            by_cases h1 : 127 < x.n
            · simp [h1] at this
            · omega
          have HXN := Lib.hid hn
          rw [hn] at s6
          have hmk := fun W => make_vals n hn127 W
          obtain ⟨i0, hi, hz0, hz1, hz2⟩ := info_parts info_vals
          replace hi := Lib.hid hi
          replace hz0 := Lib.hid hz0
          replace hz1 := Lib.hid hz1
          replace hz2 := Lib.hid hz2
          have HG4 := Lib.hid (HG.out.below B3.out)
          have q11A := fun o => cell_keep (below_alloc0 w4 o) q11
          have q11B := fun o o' => cell_keep (below_alloc0 _ o') (q11A o)
          have s6A := fun o => cell_keep (below_alloc0 w4 o) s6
          have HSZ : Hid (w.heap.size ≤ w4.heap.size) := Lib.hid B3.out.size
          have HN127 := Lib.hid hn127
          clear hn hn127
          go_cut [5] from 72 (fun z wc => z = undef ∧ Hid (GTo 60 72 w4 wc g c (G.addN (n : Int)) (fpOf g tb nb hv nv)))
          case first =>
            go_region_law (refine wp_append_new _ _ _ _ rfl 53 i0 (.slice none 0 0) 1 24 Try.underlying42 hi.out hz0.out hz1.out hz2.out rfl (by decide) _ G.nod.length _ rfl (pw_own_keep HG4.out.nod (by (repeat (first | exact (Below.refl _ _) | exact Below.refl _ _ | refine Below.drew ?_ | refine below_new ?_ _ | refine below_drewN ?_ _ | refine Below.setCell ?_ (by first | exact Nat.le_refl _ | (simp only [World.size_alloc]; omega)) _)))) ⟨w4.heap.size + 1, 0, none⟩ 1 1 [.slice (some ⟨w4.heap.size, 0, none⟩) n n] rfl rfl (cell_new_at _ _ _ _ _ (size_one w4 _)) (by simp [Value.oneCell']) (by have := HMOST.out; unfold maxLen; omega) (by have := HMOST.out; omega) ?_; intro v' w7 hown' hgrow hor hne; obtain ⟨k7, f7⟩ := HG4.out.afterNode (by (repeat (first | exact (Below.refl _ _) | exact Below.refl _ _ | refine Below.drew ?_ | refine below_new ?_ _ | refine below_drewN ?_ _ | refine Below.setCell ?_ (by first | exact Nat.le_refl _ | (simp only [World.size_alloc]; omega)) _))) hgrow; obtain ⟨d', cap', rfl⟩ := own_pos hown' (by omega))
            all_goals
              go_wp2_with fail
              go_meet
              exact ⟨rfl, Lib.hid (HG4.out.addNode kinds_g n (v := .slice (some ⟨w4.heap.size, 0, none⟩) n n) (by (repeat (first | exact (Below.refl _ _) | exact Below.refl _ _ | refine Below.drew ?_ | refine below_new ?_ _ | refine below_drewN ?_ _ | refine Below.setCell ?_ (by first | exact Nat.le_refl _ | (simp only [World.size_alloc]; omega)) _))) (own_made (w := w4) n (by (repeat (first | exact (Below.refl _ _) | exact Below.refl _ _ | refine Below.drew ?_ | refine below_new ?_ _ | refine below_drewN ?_ _ | refine Below.setCell ?_ (by first | exact Nat.le_refl _ | (simp only [World.size_alloc]; omega)) _))) HN127.out) (fun k hk => Nat.le_of_eq (by simpa [Value.ownBlock] using hk)) hgrow hown' (or_of hor (Nat.le_refl _)))⟩
          case rest =>
            obtain ⟨rfl, HN⟩ := hcut
            obtain ⟨tb', tcap', nb', ncap', hv', nv', gx, fr, fs⟩ := HN.out
            have HFP := Lib.hid HG.out.lt
            have hsl : w.heap.size < w4.heap.size := by have := heap_lt A3.out; omega
            have hbk : wc.heap[w.heap.size]? = w4.heap[w.heap.size]? := fr.block _ hsl (fun hm => by have := HFP.out _ hm; omega)
            have A5 := Lib.hid (fr.keep HFP.out (by omega) A3.out)
            have z1 := (World.cell?_of_block (a := ⟨w.heap.size, 1, none⟩) hbk).trans s1
            have z0 := (World.cell?_of_block (a := ⟨w.heap.size, 0, none⟩) hbk).trans s0
            obtain ⟨-, q10', q11'⟩ := gx.head
            replace q10' : wc.cell? ⟨g, 10, none⟩ = some (.slice (some ⟨tb', 0, none⟩) G.thr.length tcap') := q10'
            obtain ⟨m, hm⟩ : ∃ m, m = (G.addN (n : Int)).nod.length := ⟨_, rfl⟩
            rw [← hm] at q11'
            have e1 : IntKind.i64.wrap ((m : Int) - 1) = (G.nod.length : Int) := by
              have h1 : m = G.nod.length + 1 := by rw [hm]; simp [Gr.addN]
              have := HMOST.out
              rw [IntWalk.i64_in _ (by omega)]; omega
            have GX := Lib.hid gx
            have FR := Lib.hid fr
            have FS := Lib.hid fs
            clear s0 s1 s6 q10 q11 q11A q11B s6A hmk s5 q3 gx fr fs hm hbk
            have q10A := fun o => cell_keep (below_alloc0 wc o) q10'
            have z1A := fun o => cell_keep (below_alloc0 wc o) z1
            have A6 := Lib.hid (keep_alloc (.cells #[.int .i64 2, .int .i64 (G.nod.length : Int)] 57) A5.out)
            have E6 := Lib.hid (heap_alloc_new wc (.cells #[.int .i64 2, .int .i64 (G.nod.length : Int)] 57))
            have v0 : (wc.alloc (.cells #[.int .i64 2, .int .i64 (G.nod.length : Int)] 57)).cell? ⟨wc.heap.size, 0, none⟩ = some (.int .i64 2) := cell_of_row _ _ _ _ _ _ E6.out
            have v1 : (wc.alloc (.cells #[.int .i64 2, .int .i64 (G.nod.length : Int)] 57)).cell? ⟨wc.heap.size, 1, none⟩ = some (.int .i64 (G.nod.length : Int)) := cell_of_row _ _ _ _ _ _ E6.out
            have HL : Hid (((G.addN (n : Int)).held (t : Int)).length < 16) := Lib.hid (by have := HB3.out; simp at this; exact this)
            have HSW : Hid (w4.heap.size ≤ wc.heap.size) := Lib.hid FR.out.size
            go_wp2_with fail
            refine region_tail 9 (by kernel_rfl) (by kernel_rfl) ?_
            simp only [List.take_succ_cons, List.take_zero, List.drop_succ_cons, List.drop_zero]
            repeat still_step
            refine wpStill_nil ?_
            go_wp2_with (first
              | (go_at_call 45; go_loud (refine (ghold_room (GX.out.below (below_alloc0 _ _).drew) t hlt (2, (G.nod.length : Int)) HL.out).mono ?_; rintro e w7 ⟨rfl, h7⟩; have A7 := Lib.hid (h7.frm.block _ (heap_lt A6.out) (fun hm => (FS.out _ hm).elim (fun h => by have := HFP.out _ h; omega) (fun h => by have := heap_lt A3.out; omega))); have E7 := Lib.hid (h7.frm.keep GX.out.lt (Nat.le_refl _) E6.out); have H7 := Lib.hid h7; clear h7; have y0 : w7.cell? ⟨wc.heap.size, 0, none⟩ = some (.int .i64 2) := cell_of_row _ _ _ _ _ _ E7.out; have y1 : w7.cell? ⟨wc.heap.size, 1, none⟩ = some (.int .i64 (G.nod.length : Int)) := cell_of_row _ _ _ _ _ _ E7.out))
              | (go_at_call 30; refine (gtold_any (2, (G.nod.length : Int)) _).mono ?_; rintro e w8 ⟨rfl, hb8⟩; have A8 := Lib.hid (keep hb8 (A7.out.trans A6.out)); have B8 := Lib.hid hb8; clear hb8)
              | (refine wpList_store_row rfl 36 _ _ rfl (w.heap.size + 1) (Gr.told (2, (G.nod.length : Int))).cells rfl rfl 36 _ A8.out (by kernel_rfl) rfl (by kernel_rfl) ?_))
            exact bodyPost_ret (v := .agg (Gr.told (2, (G.nod.length : Int))).cells) (results_cell_row rfl _ _ (w.heap.size + 1) 36 (Gr.told (2, (G.nod.length : Int))).cells _ _ rfl (heap_setRow_same _ A8.out) Try.underlying36 rfl (by kernel_rfl)) rfl
              (by
                rw [HXN.out]
                exact ⟨rfl, (GTo.comp FR.out FS.out (below_alloc0 _ _).drew H7.out).wrap B3.out HFP.out (K := w.heap.size + 1) (by omega) (heap_lt A3.out) ((Frm.of_below [w.heap.size + 1] B8.out).trans (Frm.setRow (fp := [w.heap.size + 1]) _ (List.mem_singleton.2 rfl) _) (fresh_sub fun _ h => h))⟩)
        · have dn : (no != 0) = true := by simpa using hn
          rw [show (if (false || false) = true then (Gr.err 4, G) else if false = true then (Gr.err 3, G) else if no ≠ 0 then (Gr.err no, G) else (Gr.told (2, (G.nod.length : Int)), (G.addN x.n).hold (t : Int) (2, (G.nod.length : Int)))) = (Gr.err no, G) by simp [hn]]
          clear hn
          go_enter Try.func27, Try.ntmps27
          go_wp2_with fail
          go_quiet ((go_at_call 33; refine quiet_eq (goutside_b HB1.out _)))
          generalize hw3 : World.drewN _ _ = w3
          have B3 : Hid (Below w.heap.size w w3) := Lib.hid (by rw [← hw3]; (repeat (first | exact B2.out | exact Below.refl _ _ | refine Below.drew ?_ | refine below_new ?_ _ | refine below_drewN ?_ _ | refine Below.setCell ?_ (by first | exact Nat.le_refl _ | (simp only [World.size_alloc]; omega)) _)))
          have A3 : Hid (w3.heap[w.heap.size + 1]? = some (.cells zAns 36 (0, 0))) := Lib.hid (by rw [← hw3]; exact A2.out)
          replace s0 : w3.cell? ⟨w.heap.size, 0, none⟩ = some (.int .i64 3) := by rw [← hw3]; exact s0
          replace s1 : w3.cell? ⟨w.heap.size, 1, none⟩ = some (.int .i64 (t : Int)) := by rw [← hw3]; exact s1
          replace s6 : w3.cell? ⟨w.heap.size, 6, none⟩ = some (.int .i64 x.n) := by rw [← hw3]; exact s6
          replace q10 : w3.cell? ⟨g, 10, none⟩ = some (.slice (some ⟨tb, 0, none⟩) G.thr.length tcap) := by rw [← hw3]; exact q10
          replace q11 : w3.cell? ⟨g, 11, none⟩ = some (.slice (some ⟨nb, 0, none⟩) G.nod.length ncap) := by rw [← hw3]; exact q11
          clear hw3
          go_wp2_with (go_at_call 33; refine (goutside_b HB2.out _).mono ?_; rintro e w5 ⟨rfl, rfl⟩)
          go_quiet ((go_at_call 44; refine quiet_eq (HOWN.out _ (below_drewN B3.out _))))
          generalize hw4 : World.drewN _ _ = w4
          replace B3 : Hid (Below w.heap.size w w4) := Lib.hid (by rw [← hw4]; exact below_drewN B3.out _)
          replace A3 : Hid (w4.heap[w.heap.size + 1]? = some (.cells zAns 36 (0, 0))) := Lib.hid (by rw [← hw4]; exact A3.out)
          replace s0 : w4.cell? ⟨w.heap.size, 0, none⟩ = some (.int .i64 3) := by rw [← hw4]; exact s0
          replace s1 : w4.cell? ⟨w.heap.size, 1, none⟩ = some (.int .i64 (t : Int)) := by rw [← hw4]; exact s1
          replace s6 : w4.cell? ⟨w.heap.size, 6, none⟩ = some (.int .i64 x.n) := by rw [← hw4]; exact s6
          replace q10 : w4.cell? ⟨g, 10, none⟩ = some (.slice (some ⟨tb, 0, none⟩) G.thr.length tcap) := by rw [← hw4]; exact q10
          replace q11 : w4.cell? ⟨g, 11, none⟩ = some (.slice (some ⟨nb, 0, none⟩) G.nod.length ncap) := by rw [← hw4]; exact q11
          clear hw4
          go_wp2_with (first
            | (go_at_call 24; refine (gfail_any no _).mono ?_; rintro e w6 ⟨rfl, hb6⟩; have B6 : Hid (Below w.heap.size w w6) := Lib.hid (below_next B3.out hb6); have A6 := Lib.hid (keep hb6 A3.out); clear hb6)
            | (refine wpList_store_row rfl 36 _ _ rfl (w.heap.size + 1) (Gr.err no).cells rfl rfl 36 _ A6.out (by kernel_rfl) rfl (by kernel_rfl) ?_))
          exact bodyPost_ret (v := .agg (Gr.err no).cells) (results_cell_row rfl _ _ (w.heap.size + 1) 36 (Gr.err no).cells _ _ rfl (heap_setRow_same _ A6.out) Try.underlying36 rfl (by kernel_rfl)) rfl
            ⟨rfl, GTo.same HG.out (below_setRow (g := w.heap.size + 1) B6.out (by omega) _)⟩
      · show Calls _ _ _ _ fun e w' => DoR w w' g c (Gr.err 3, G) _ e
        go_enter Try.func27, Try.ntmps27
        go_wp2_with fail
        go_quiet ((go_at_call 33; refine quiet_eq (goutside_b HB1.out _)))
        generalize hw3 : World.drewN _ _ = w3
        have B3 : Hid (Below w.heap.size w w3) := Lib.hid (by rw [← hw3]; (repeat (first | exact B2.out | exact Below.refl _ _ | refine Below.drew ?_ | refine below_new ?_ _ | refine below_drewN ?_ _ | refine Below.setCell ?_ (by first | exact Nat.le_refl _ | (simp only [World.size_alloc]; omega)) _)))
        have A3 : Hid (w3.heap[w.heap.size + 1]? = some (.cells zAns 36 (0, 0))) := Lib.hid (by rw [← hw3]; exact A2.out)
        replace s0 : w3.cell? ⟨w.heap.size, 0, none⟩ = some (.int .i64 3) := by rw [← hw3]; exact s0
        replace s1 : w3.cell? ⟨w.heap.size, 1, none⟩ = some (.int .i64 (t : Int)) := by rw [← hw3]; exact s1
        replace s6 : w3.cell? ⟨w.heap.size, 6, none⟩ = some (.int .i64 x.n) := by rw [← hw3]; exact s6
        replace q10 : w3.cell? ⟨g, 10, none⟩ = some (.slice (some ⟨tb, 0, none⟩) G.thr.length tcap) := by rw [← hw3]; exact q10
        replace q11 : w3.cell? ⟨g, 11, none⟩ = some (.slice (some ⟨nb, 0, none⟩) G.nod.length ncap) := by rw [← hw3]; exact q11
        clear hw3
        go_wp2_with (go_at_call 33; refine (goutside_b HB2.out _).mono ?_; rintro e w5 ⟨rfl, rfl⟩)
        go_quiet ((go_at_call 44; refine quiet_eq (HOWN.out _ (below_drewN B3.out _))))
        generalize hw4 : World.drewN _ _ = w4
        replace B3 : Hid (Below w.heap.size w w4) := Lib.hid (by rw [← hw4]; exact below_drewN B3.out _)
        replace A3 : Hid (w4.heap[w.heap.size + 1]? = some (.cells zAns 36 (0, 0))) := Lib.hid (by rw [← hw4]; exact A3.out)
        replace s0 : w4.cell? ⟨w.heap.size, 0, none⟩ = some (.int .i64 3) := by rw [← hw4]; exact s0
        replace s1 : w4.cell? ⟨w.heap.size, 1, none⟩ = some (.int .i64 (t : Int)) := by rw [← hw4]; exact s1
        replace s6 : w4.cell? ⟨w.heap.size, 6, none⟩ = some (.int .i64 x.n) := by rw [← hw4]; exact s6
        replace q10 : w4.cell? ⟨g, 10, none⟩ = some (.slice (some ⟨tb, 0, none⟩) G.thr.length tcap) := by rw [← hw4]; exact q10
        replace q11 : w4.cell? ⟨g, 11, none⟩ = some (.slice (some ⟨nb, 0, none⟩) G.nod.length ncap) := by rw [← hw4]; exact q11
        clear hw4
        go_wp2_with (first
          | (go_at_call 24; refine (gfail_any 3 _).mono ?_; rintro e w6 ⟨rfl, hb6⟩; have B6 : Hid (Below w.heap.size w w6) := Lib.hid (below_next B3.out hb6); have A6 := Lib.hid (keep hb6 A3.out); clear hb6)
          | (refine wpList_store_row rfl 36 _ _ rfl (w.heap.size + 1) (Gr.err 3).cells rfl rfl 36 _ A6.out (by kernel_rfl) rfl (by kernel_rfl) ?_))
        exact bodyPost_ret (v := .agg (Gr.err 3).cells) (results_cell_row rfl _ _ (w.heap.size + 1) 36 (Gr.err 3).cells _ _ rfl (heap_setRow_same _ A6.out) Try.underlying36 rfl (by kernel_rfl)) rfl
          ⟨rfl, GTo.same HG.out (below_setRow (g := w.heap.size + 1) B6.out (by omega) _)⟩
    · show Calls _ _ _ _ fun e w' => DoR w w' g c (Gr.err 4, G) _ e
      go_enter Try.func27, Try.ntmps27
      go_wp2_with fail
      go_quiet ((go_at_call 33; refine quiet_eq (goutside_b HB1.out _)))
      generalize hw3 : World.drewN _ _ = w3
      have B3 : Hid (Below w.heap.size w w3) := Lib.hid (by rw [← hw3]; (repeat (first | exact B2.out | exact Below.refl _ _ | refine Below.drew ?_ | refine below_new ?_ _ | refine below_drewN ?_ _ | refine Below.setCell ?_ (by first | exact Nat.le_refl _ | (simp only [World.size_alloc]; omega)) _)))
      have A3 : Hid (w3.heap[w.heap.size + 1]? = some (.cells zAns 36 (0, 0))) := Lib.hid (by rw [← hw3]; exact A2.out)
      replace s0 : w3.cell? ⟨w.heap.size, 0, none⟩ = some (.int .i64 3) := by rw [← hw3]; exact s0
      replace s1 : w3.cell? ⟨w.heap.size, 1, none⟩ = some (.int .i64 (t : Int)) := by rw [← hw3]; exact s1
      replace s6 : w3.cell? ⟨w.heap.size, 6, none⟩ = some (.int .i64 x.n) := by rw [← hw3]; exact s6
      replace q10 : w3.cell? ⟨g, 10, none⟩ = some (.slice (some ⟨tb, 0, none⟩) G.thr.length tcap) := by rw [← hw3]; exact q10
      replace q11 : w3.cell? ⟨g, 11, none⟩ = some (.slice (some ⟨nb, 0, none⟩) G.nod.length ncap) := by rw [← hw3]; exact q11
      clear hw3
      go_wp2_with (first
        | (go_at_call 24; refine (gfail_any 4 _).mono ?_; rintro e w6 ⟨rfl, hb6⟩; have B6 : Hid (Below w.heap.size w w6) := Lib.hid (below_next B3.out hb6); have A6 := Lib.hid (keep hb6 A3.out); clear hb6)
        | (refine wpList_store_row rfl 36 _ _ rfl (w.heap.size + 1) (Gr.err 4).cells rfl rfl 36 _ A6.out (by kernel_rfl) rfl (by kernel_rfl) ?_)
        | (go_at_call 33; refine (goutside_b HB2.out _).mono ?_; rintro e w5 ⟨rfl, rfl⟩))
      exact bodyPost_ret (v := .agg (Gr.err 4).cells) (results_cell_row rfl _ _ (w.heap.size + 1) 36 (Gr.err 4).cells _ _ rfl (heap_setRow_same _ A6.out) Try.underlying36 rfl (by kernel_rfl)) rfl
        ⟨rfl, GTo.same HG.out (below_setRow (g := w.heap.size + 1) B6.out (by omega) _)⟩
  · rw [show (if (true || b2) = true then (Gr.err 4, G) else if b3 = true then (Gr.err 3, G) else if no ≠ 0 then (Gr.err no, G) else (Gr.told (2, (G.nod.length : Int)), (G.addN x.n).hold (t : Int) (2, (G.nod.length : Int)))) = (Gr.err 4, G) by simp]
    go_enter Try.func27, Try.ntmps27
    go_wp2_with fail
    go_quiet ((go_at_call 33; refine quiet_eq (goutside_b HB1.out _)))
    generalize hw3 : World.drewN _ _ = w3
    have B3 : Hid (Below w.heap.size w w3) := Lib.hid (by rw [← hw3]; (repeat (first | exact B2.out | exact Below.refl _ _ | refine Below.drew ?_ | refine below_new ?_ _ | refine below_drewN ?_ _ | refine Below.setCell ?_ (by first | exact Nat.le_refl _ | (simp only [World.size_alloc]; omega)) _)))
    have A3 : Hid (w3.heap[w.heap.size + 1]? = some (.cells zAns 36 (0, 0))) := Lib.hid (by rw [← hw3]; exact A2.out)
    replace s0 : w3.cell? ⟨w.heap.size, 0, none⟩ = some (.int .i64 3) := by rw [← hw3]; exact s0
    replace s1 : w3.cell? ⟨w.heap.size, 1, none⟩ = some (.int .i64 (t : Int)) := by rw [← hw3]; exact s1
    replace s6 : w3.cell? ⟨w.heap.size, 6, none⟩ = some (.int .i64 x.n) := by rw [← hw3]; exact s6
    replace q10 : w3.cell? ⟨g, 10, none⟩ = some (.slice (some ⟨tb, 0, none⟩) G.thr.length tcap) := by rw [← hw3]; exact q10
    replace q11 : w3.cell? ⟨g, 11, none⟩ = some (.slice (some ⟨nb, 0, none⟩) G.nod.length ncap) := by rw [← hw3]; exact q11
    clear hw3
    go_wp2_with (first
      | (go_at_call 24; refine (gfail_any 4 _).mono ?_; rintro e w6 ⟨rfl, hb6⟩; have B6 : Hid (Below w.heap.size w w6) := Lib.hid (below_next B3.out hb6); have A6 := Lib.hid (keep hb6 A3.out); clear hb6)
      | (refine wpList_store_row rfl 36 _ _ rfl (w.heap.size + 1) (Gr.err 4).cells rfl rfl 36 _ A6.out (by kernel_rfl) rfl (by kernel_rfl) ?_))
    exact bodyPost_ret (v := .agg (Gr.err 4).cells) (results_cell_row rfl _ _ (w.heap.size + 1) 36 (Gr.err 4).cells _ _ rfl (heap_setRow_same _ A6.out) Try.underlying36 rfl (by kernel_rfl)) rfl
      ⟨rfl, GTo.same HG.out (below_setRow (g := w.heap.size + 1) B6.out (by omega) _)⟩
end
end Go.Proofs.Ytaefcmmjeloccaa
