/- What is still to be gone through: a pile of entries in memory. -/
import Derived.Test.YtjoejjhgneccgaaGreatDoorQTN03
import Derived.Test.YtjoejjhgneccgaaGreatDoorQTN07
import Derived.Test.YtjoejjhgneccgaaGreatDoorQTN18
import Derived.Deep.RegionLaw
import Derived.BigQuiet
namespace Go.Proofs.YtjoejjhgneccgaaGreatDoor
open Go.RowKit

/-- Entries, the room, and whether one was lost. -/
structure Sk where
  st : List (Int × Int)
  rm : Int
  ov : Bool
structure SkX (w : World) (s : Nat) (v : Value) (K : Sk) : Prop where
  hd : w.heap[s]? = some (.cells #[v, .int .i64 K.rm, .bool K.ov] 186 (0, 0))
  row : Own w 93 2 K.st.length v (chC K.st)
  rm : 1 ≤ K.rm ∧ K.rm ≤ 256
  le : (K.st.length : Int) ≤ K.rm
def skfp (s : Nat) (v : Value) : List Nat := s :: v.ownBlock.toList
theorem chC_snoc (l : List (Int × Int)) (x : Int × Int) : chC (l ++ [x]) = chC l ++ [.int .i64 x.1, .int .i64 x.2] := by simp [chC]
theorem chC_pop {vs : List (Int × Int)} {m : Nat} (h : vs.length = m + 1) : chC vs = chC vs.dropLast ++ [.int .i64 (vs.getD m (0, 0)).1, .int .i64 (vs.getD m (0, 0)).2] := by
  have e : vs = vs.dropLast ++ [vs.getD m (0, 0)] := by
    have hne : vs ≠ [] := by intro h0; rw [h0] at h; simp at h
    conv => lhs; rw [← List.dropLast_concat_getLast hne]
    congr 2
    rw [List.getLast_eq_getElem, List.getD_eq_getElem?_getD, List.getElem?_eq_getElem (by omega)]
    simp [h]
  conv => lhs; rw [e]
  exact chC_snoc _ _
theorem info_entry : (Tryz.prog.info? 93).map (fun i => (i.zero, i.size, i.bytes)) = some (some (.agg #[.int .i64 0, .int .i64 0]), 2, 16) := by kernel_rfl
section
variable {w w' : World} {s : Nat} {v : Value} {K : Sk}
theorem SkX.ne (h : SkX w s v K) : v.ownBlock ≠ some s := own_not h.row h.hd (by decide)
theorem SkX.lt (h : SkX w s v K) : ∀ k ∈ skfp s v, k < w.heap.size := by
  intro k hk
  unfold skfp at hk
  rcases List.mem_cons.1 hk with rfl | hk
  · exact heap_lt h.hd
  · exact own_blk h.row k (mem_blk.1 hk)
theorem SkX.keep (h : SkX w s v K) (hk : ∀ k ∈ skfp s v, w'.heap[k]? = w.heap[k]?) : SkX w' s v K :=
  ⟨(hk s (by simp [skfp])).trans h.hd, own_heap h.row fun k e => hk k (by simp [skfp, e]), h.rm, h.le⟩
theorem SkX.below (h : SkX w s v K) (hb : Below w.heap.size w w') : SkX w' s v K := h.keep fun k hk => hb.block k (h.lt k hk)
theorem SkX.cells (h : SkX w s v K) : w.cell? ⟨s, 0, none⟩ = some v ∧ w.cell? ⟨s, 1, none⟩ = some (.int .i64 K.rm) ∧ w.cell? ⟨s, 2, none⟩ = some (.bool K.ov) ∧ w.frozen? ⟨s, 0, none⟩ = false ∧ w.frozen? ⟨s, 2, none⟩ = false :=
  ⟨cell_of_row _ _ _ _ _ _ h.hd, cell_of_row _ _ _ _ _ _ h.hd, cell_of_row _ _ _ _ _ _ h.hd, frozen_of_row _ _ _ _ _ h.hd, frozen_of_row _ _ _ _ _ h.hd⟩
/-- A turned pile. -/
def SkT (w w' : World) (s : Nat) (v : Value) (K' : Sk) : Prop := ∃ v', SkX w' s v' K' ∧ Turn (skfp s v) (skfp s v') w w'
theorem SkT.refl (h : SkX w s v K) : SkT w w s v K := ⟨v, h, Turn.refl _ _⟩
theorem SkT.below (h : SkX w s v K) (hb : Below w.heap.size w w') : SkT w w' s v K := ⟨v, h.below hb, Turn.below _ hb⟩
theorem SkT.under {w1 : World} {K' : Sk} (hb : Below w.heap.size w w1) (h : SkT w1 w' s v K') : SkT w w' s v K' := by
  obtain ⟨v', h1, h2⟩ := h
  exact ⟨v', h1, h2.under hb⟩
theorem SkT.then {w1 : World} {K' : Sk} (h : SkT w w1 s v K') (hb : Below w1.heap.size w1 w') : SkT w w' s v K' := by
  obtain ⟨v', h1, h2⟩ := h
  exact ⟨v', h1.below hb, h2.then hb⟩
/-- The head's first cell turned, behind an append. -/
theorem SkX.turn {w1 w2 : World} {v' : Value} {n : Nat} {K' : Sk} (h : SkX w s v K) (hg : w.grownBy w1 v.ownBlock) (hor : ∀ k, v'.ownBlock = some k → v.ownBlock = some k ∨ w.heap.size ≤ k) (ho : Own w1 93 2 n v' (chC K'.st)) (hn : n = K'.st.length) (hrm : K'.rm = K.rm) (hov : K'.ov = K.ov) (hle : (n : Int) ≤ K.rm) (h2 : w2 = w1.setCell ⟨s, 0, none⟩ v') : SkX w2 s v' K' ∧ Turn (skfp s v) (skfp s v') w w2 := by
  have hs : s < w.heap.size := heap_lt h.hd
  have h1 : w1.heap[s]? = some (.cells #[v, .int .i64 K.rm, .bool K.ov] 186 (0, 0)) := (hg.block s hs (fun e => h.ne e.symm)).trans h.hd
  have hne : v'.ownBlock ≠ some s := own_not ho h1 (by decide)
  subst h2
  refine ⟨⟨?_, own_heap (by rw [← hn]; exact ho) fun k e => heap_setCell_other _ _ _ _ (fun e2 => hne (by rw [e]; exact congrArg some e2)), by rw [hrm]; exact h.rm, by rw [hrm, ← hn]; exact hle⟩, ⟨?_, fun k hk => ?_⟩⟩
  · rw [heap_setCell_same _ _ 0 _ _ _ h1, hrm, hov]; rfl
  · exact (Frm.of_grown (fp := skfp s v) hg (fun k e => .inl (by simp [skfp, e]))).trans (Frm.setCell (fp := skfp s v) _ (by simp [skfp]) _) (fun k hk => .inl hk)
  · unfold skfp at hk ⊢
    rcases List.mem_cons.1 hk with rfl | hk
    · exact .inl (by simp)
    · rcases hor k (mem_blk.1 hk) with e | e
      · exact .inl (by simp [e])
      · exact .inr e
theorem SkX.heap_s {w1 w2 : World} (h : SkX w s v K) (hb : Below w.heap.size w w1) (hg : w1.grownBy w2 v.ownBlock) : w2.cell? ⟨s, 0, none⟩ = some v ∧ w2.frozen? ⟨s, 0, none⟩ = false := by
  have hs : s < w.heap.size := heap_lt h.hd
  have h1 : w2.heap[s]? = some (.cells #[v, .int .i64 K.rm, .bool K.ov] 186 (0, 0)) := (hg.block s (Nat.lt_of_lt_of_le hs hb.size) (fun e => h.ne e.symm)).trans ((hb.block s hs).trans h.hd)
  exact ⟨cell_of_row _ _ _ _ _ _ h1, frozen_of_row _ _ _ _ _ h1⟩
def PutR (w w' : World) (s : Nat) (v : Value) (K : Sk) (x : Int × Int) (e : Ending) : Prop := e = .returned (.tuple #[]) ∧ SkT w w' s v { K with st := K.st ++ [x] }
set_option maxHeartbeats 2000000 in
set_option maxRecDepth 100000 in
theorem skput_any (h : SkX w s v K) (x : Int × Int) (hr : (K.st.length : Int) < K.rm) :
    Calls Tryz.prog 203 #[.pointer (some ⟨s, 0, none⟩), .agg #[.int .i64 x.1, .int .i64 x.2]] w fun e w' => PutR w w' s v K x e := by
  have B0 := Lib.hid (below_alloc0 w (.cells #[.int .i64 x.1, .int .i64 x.2] 93))
  have s0 : (w.alloc (.cells #[.int .i64 x.1, .int .i64 x.2] 93)).cell? ⟨w.heap.size, 0, none⟩ = some (.int .i64 x.1) := cell_of_row _ _ _ _ _ _ (heap_alloc_new w _)
  have s1 : (w.alloc (.cells #[.int .i64 x.1, .int .i64 x.2] 93)).cell? ⟨w.heap.size, 1, none⟩ = some (.int .i64 x.2) := cell_of_row _ _ _ _ _ _ (heap_alloc_new w _)
  have c0 := cell_keep B0.out h.cells.1
  obtain ⟨n, hn⟩ : ∃ n, n = K.st.length := ⟨_, rfl⟩
  have hown := h.row
  rw [← hn] at hown
  have HO := Lib.hid hown
  have HG := Lib.hid h
  have hrm := h.rm
  have HF := Lib.hid (show n < 256 ∧ (n : Int) + 1 ≤ K.rm by omega)
  have HN := Lib.hid hn
  clear h hn hown hr hrm
  obtain ⟨i0, hi, hz0, hz1, hz2⟩ := info_parts info_entry
  have hi := Lib.hid hi
  have hz0 := Lib.hid hz0
  have hz1 := Lib.hid hz1
  have hz2 := Lib.hid hz2
  go_enter Tryz.func203, Tryz.ntmps203
  go_wp2_with fail
  have BD := Lib.hid B0.out.drew
  have ON := Lib.hid (pw_own_keep HO.out B0.out.drew)
  have c0A := fun o => cell_keep (below_alloc0 _ o) c0
  go_region_law (refine wp_append_new _ _ _ _ rfl 93 i0 (.agg #[.int .i64 0, .int .i64 0]) 2 16 Tryz.underlying182 hi.out hz0.out hz1.out hz2.out rfl (by decide) _ n _ rfl (ON.out.alloc _) ⟨w.heap.size + 1, 0, none⟩ 1 1 [.int .i64 x.1, .int .i64 x.2] rfl rfl (row_new_at _ _ _ _ _ (heap_one w _)) (by simp [Value.oneCell']) (by have := HF.out; unfold maxLen; omega) (by have := HF.out; omega) ?_; intro v' w7 hown' hgrow hor hne; obtain ⟨k7, f7⟩ := HG.out.heap_s (BD.out.alloc BD.out.size _) hgrow; obtain ⟨d', cap', rfl⟩ := row_pos hown' (by omega))
  all_goals
    go_wp2_with fail
    go_end0
    rw [← chC_snoc] at hown'
    have B1 := BD.out
    exact ⟨rfl, _, HG.out.turn (K' := { K with st := K.st ++ [x] }) (grown_from (B1.alloc B1.size _) hgrow) (blk_old hor (B1.alloc B1.size _).size) hown' (by simp [HN.out]) rfl rfl (by have := HF.out; omega) rfl⟩
end
end Go.Proofs.YtjoejjhgneccgaaGreatDoor

/- A pile: the topmost one is taken; made; pushed; asked. -/
namespace Go.Proofs.YtjoejjhgneccgaaGreatDoor
open Go.RowKit

theorem cell_two (w : World) (a b : Obj) {p : Addr} {v : Value} (h : w.cell? p = some v) : ((w.alloc a).alloc b).cell? p = some v := cell_keep (below_alloc0 _ b) (cell_keep (below_alloc0 w a) h)
section
variable {w w' : World} {s : Nat} {v : Value} {K : Sk}
def TakE (o : Option (Int × Int)) (e : Ending) : Prop := e = .returned (.tuple #[.agg #[.int .i64 (o.getD (0, 0)).1, .int .i64 (o.getD (0, 0)).2], .bool o.isSome])
def popO (K : Sk) : Option (Int × Int) := K.st.getLast?
def popK (K : Sk) : Sk := { K with st := K.st.dropLast }
theorem popK_nil (h : K.st = []) : popK K = K := by
  cases K
  simp only at h
  subst h
  rfl
def PopRs (w w' : World) (s : Nat) (v : Value) (K : Sk) (e : Ending) : Prop := TakE (popO K) e ∧ SkT w w' s v (popK K)
set_option maxHeartbeats 2000000 in
set_option maxRecDepth 100000 in
theorem sktake_any (h : SkX w s v K) :
    Calls Tryz.prog 200 #[.pointer (some ⟨s, 0, none⟩)] w fun e w' => PopRs w w' s v K e := by
  have HG := Lib.hid h
  obtain ⟨vs, hvs⟩ : ∃ vs, vs = K.st := ⟨_, rfl⟩
  obtain ⟨n, hn⟩ : ∃ n, n = vs.length := ⟨_, rfl⟩
  have hown := h.row
  have h16 := h.le
  have hrm := h.rm
  rw [← hvs, ← hn] at hown h16
  have HN := Lib.hid hn
  have HVS := Lib.hid hvs
  have HO := Lib.hid hown
  obtain ⟨p, cap, rfl, hcap, hpb⟩ := row_slice hown
  have h0 := h.cells.1
  have k2 := cell_two w (.cells #[.int .i64 0, .int .i64 0] 93) (.cells #[.int .i64 0, .int .i64 0] 93) h0
  have B2 := Lib.hid ((below_alloc0 w (.cells #[.int .i64 0, .int .i64 0] 93)).alloc (below_alloc0 w (.cells #[.int .i64 0, .int .i64 0] 93)).size (.cells #[.int .i64 0, .int .i64 0] 93))
  cases n with
  | zero =>
    have hnil : vs = [] := List.eq_nil_of_length_eq_zero hn.symm
    have HE := Lib.hid (show K.st = [] by rw [← hvs]; exact hnil)
    clear h hown h16 hrm hn hvs hnil hcap hpb
    go_enter Tryz.func200, Tryz.ntmps200
    go_wp2_with fail
    exact bodyPost_ret (results_row_tmp rfl _ _ w.heap.size 93 #[.int .i64 0, .int .i64 0] _ _ rfl (keep (below_alloc0 _ _) (heap_alloc_new w _)) Tryz.underlying93 rfl (by kernel_rfl)) rfl
      ⟨by unfold popO; rw [HE.out]; rfl, by rw [popK_nil HE.out]; exact SkT.below HG.out B2.out⟩
  | succ m =>
    obtain ⟨d, rfl⟩ := hpb (by omega)
    obtain ⟨n, hn2⟩ : ∃ n, n = m + 1 := ⟨_, rfl⟩
    rw [← hn2] at h0 h16 HN HO hown hcap k2 hn HG h
    have e1 : IntKind.i64.wrap ((n : Int) - 1) = (m : Int) := by rw [IntWalk.i64_in _ (by omega)]; omega
    have i1 : (0 : Int) ≤ (m : Int) := by omega
    have i2 : (m : Int) ≤ (cap : Int) := by omega
    have i3 : (m : Int) < (n : Int) := by omega
    have hz : ((n : Int) == 0) = false := by simp; omega
    obtain ⟨u, hu⟩ : ∃ u, u = vs.getD m (0, 0) := ⟨_, rfl⟩
    obtain ⟨g1, g2⟩ := chC_get (l := vs) (j := m) (by omega)
    rw [← hu] at g1 g2
    have q1 := cell_two w (.cells #[.int .i64 0, .int .i64 0] 93) (.cells #[.int .i64 0, .int .i64 0] 93) ((hown.cellAt (m * 2) (by omega)).trans g1)
    have q2 := cell_two w (.cells #[.int .i64 0, .int .i64 0] 93) (.cells #[.int .i64 0, .int .i64 0] 93) ((hown.cellAt (m * 2 + 1) (by omega)).trans g2)
    have k3 := cell_two w (.cells #[.int .i64 0, .int .i64 0] 93) (.cells #[.int .i64 u.1, .int .i64 u.2] 93) h0
    obtain ⟨W3, hW3⟩ : ∃ W3, W3 = (w.alloc (.cells #[.int .i64 0, .int .i64 0] 93)).alloc (.cells #[.int .i64 u.1, .int .i64 u.2] 93) := ⟨_, rfl⟩
    have B3 := Lib.hid (show Below w.heap.size w W3 by rw [hW3]; exact (below_alloc0 w _).alloc (below_alloc0 w _).size _)
    have hs : s < w.heap.size := heap_lt h.hd
    have A3 := Lib.hid (show W3.heap[w.heap.size]? = some (.cells #[.int .i64 0, .int .i64 0] 93 (0, 0)) by rw [hW3]; exact keep (below_alloc0 _ _) (heap_alloc_new w _))
    have C3 := Lib.hid (show W3.heap[w.heap.size + 1]? = some (.cells #[.int .i64 u.1, .int .i64 u.2] 93 (0, 0)) by rw [hW3, show w.heap.size + 1 = (w.alloc (.cells #[.int .i64 0, .int .i64 0] 93)).heap.size from heap_one w _]; exact heap_alloc_new _ _)
    have f3 : W3.frozen? ⟨s, 0, none⟩ = false := frozen_of_row _ _ _ _ _ (keep B3.out h.hd)
    have A4 := Lib.hid (show ∀ x, (W3.setCell ⟨s, 0, none⟩ x).heap[w.heap.size]? = some (.cells #[.int .i64 0, .int .i64 0] 93 (0, 0)) from fun x => (heap_setCell_other _ _ _ _ (by simp only; omega)).trans A3.out)
    have c4 : ∀ x, (W3.setCell ⟨s, 0, none⟩ x).cell? ⟨w.heap.size + 1, 0, none⟩ = some (.int .i64 u.1) := fun x => cell_of_row _ _ _ _ _ _ ((heap_setCell_other _ _ _ _ (by simp only; omega)).trans C3.out)
    have c5 : ∀ x, (W3.setCell ⟨s, 0, none⟩ x).cell? ⟨w.heap.size + 1, 1, none⟩ = some (.int .i64 u.2) := fun x => cell_of_row _ _ _ _ _ _ ((heap_setCell_other _ _ _ _ (by simp only; omega)).trans C3.out)
    have HL := Lib.hid (show vs.length = m + 1 by omega)
    have HM := Lib.hid hn2
    have HU := Lib.hid hu
    have HW := Lib.hid hW3
    have HR := Lib.hid (show (m : Int) ≤ K.rm by omega)
    rw [← hW3] at k3
    clear h hown h16 hrm hn hvs hcap hpb hn2 hu h0 g1 g2 hs
    rw [hW3] at f3 c4 c5 k3
    clear hW3
    go_enter Tryz.func200, Tryz.ntmps200
    go_wp2_with (rw [← HW.out]; refine wpList_store_row rfl 93 _ _ rfl w.heap.size #[.int .i64 u.1, .int .i64 u.2] rfl rfl 93 _ (A4.out _) (by kernel_rfl) rfl (by kernel_rfl) ?_)
    refine bodyPost_ret (results_row_tmp rfl _ _ w.heap.size 93 #[.int .i64 u.1, .int .i64 u.2] _ _ rfl (heap_setRow_same _ (A4.out _)) Tryz.underlying93 rfl (by kernel_rfl)) rfl ⟨?_, ?_⟩
    · have e5 : popO K = some u := by
        unfold popO
        rw [← HVS.out, List.getLast?_eq_getElem?, HL.out, HU.out, List.getD_eq_getElem?_getD, show m + 1 - 1 = m by omega, List.getElem?_eq_getElem (by have := HL.out; omega)]
        rfl
      rw [e5]; rfl
    · have O3 := pw_own_keep HO.out B3.out
      have hn := HM.out
      subst hn
      rw [chC_pop HL.out] at O3
      have O4 : Own W3 93 2 m (.slice (some ⟨d, 0, none⟩) m cap) (chC vs.dropLast) := ownsRow_pop (by rw [chC_len, List.length_dropLast, HL.out]; rfl) O3
      have hp := (HG.out.below B3.out).turn (w1 := W3) (K' := popK K) (v' := .slice (some ⟨d, 0, none⟩) m cap) (World.grownBy.refl _ _) (fun k hk => .inl hk) (by unfold popK; rw [← HVS.out]; exact O4) (by unfold popK; rw [← HVS.out]; simp [HL.out]) rfl rfl HR.out rfl
      have hd : d < w.heap.size := own_blk HO.out d rfl
      have hs : s < w.heap.size := heap_lt HG.out.hd
      have h1 := hp.1.keep (w' := (W3.setCell ⟨s, 0, none⟩ (.slice (some ⟨d, 0, none⟩) m cap)).setRow w.heap.size #[.int .i64 u.1, .int .i64 u.2]) fun k hk => heap_setRow_other _ _ _ _ (by
        unfold skfp at hk
        rcases List.mem_cons.1 hk with rfl | hk
        · omega
        · have : k = d := by simpa [Value.ownBlock] using hk
          omega)
      have h2 := (Turn.below (skfp s (.slice (some ⟨d, 0, none⟩) (m + 1) cap)) B3.out).trans hp.2
      exact ⟨_, h1, h2.frm.trans_new (Frm.setRow (fp := [w.heap.size]) _ (List.mem_singleton.2 rfl) _) (fun k hk => by rw [List.mem_singleton.1 hk]; exact Nat.le_refl _), h2.fr⟩
end
end Go.Proofs.YtjoejjhgneccgaaGreatDoor

/- A stack: made; pushed; popped; asked. -/
namespace Go.Proofs.YtjoejjhgneccgaaGreatDoor
open Go.RowKit

section
variable {w w' : World} {s : Nat} {v : Value} {K : Sk}
def pushB (K : Sk) : Bool := !((K.st.length : Int) == K.rm)
def pushK (K : Sk) (x : Int × Int) : Sk := if ((K.st.length : Int) == K.rm) = true then { K with ov := true } else { K with st := K.st ++ [x] }
theorem SkX.over (h : SkX w s v K) (b : Bool) : SkX (w.setCell ⟨s, 2, none⟩ (.bool b)) s v { K with ov := b } :=
  ⟨heap_setCell_same _ _ 2 _ _ _ h.hd, own_heap h.row fun k e => heap_setCell_other _ _ _ _ (fun e2 => h.ne (by rw [e]; exact congrArg some e2)), h.rm, h.le⟩
set_option maxHeartbeats 2000000 in
set_option maxRecDepth 100000 in
theorem skpush_any (h : SkX w s v K) (x : Int × Int) :
    Calls Tryz.prog 176 #[.pointer (some ⟨s, 0, none⟩), .agg #[.int .i64 x.1, .int .i64 x.2]] w fun e w' => e = .returned (.bool (pushB K)) ∧ SkT w w' s v (pushK K x) := by
  have B0 := Lib.hid (below_alloc0 w (.cells #[.int .i64 x.1, .int .i64 x.2] 93))
  have HG := Lib.hid (h.below B0.out)
  obtain ⟨c0, c1, c3, -⟩ := HG.out.cells
  have c2 := frozen_of_row _ s 2 _ _ HG.out.hd
  obtain ⟨p, cap, rfl, -⟩ := row_slice h.row
  have hz : (K.rm == 0) = false := by have := h.rm; simp; omega
  have s0 : (w.alloc (.cells #[.int .i64 x.1, .int .i64 x.2] 93)).cell? ⟨w.heap.size, 0, none⟩ = some (.int .i64 x.1) := cell_of_row _ _ _ _ _ _ (heap_alloc_new w _)
  have s1 : (w.alloc (.cells #[.int .i64 x.1, .int .i64 x.2] 93)).cell? ⟨w.heap.size, 1, none⟩ = some (.int .i64 x.2) := cell_of_row _ _ _ _ _ _ (heap_alloc_new w _)
  cases hb : ((K.st.length : Int) == K.rm) with
  | true =>
    have HB := Lib.hid (show pushB K = false by unfold pushB; rw [hb]; rfl)
    have HK := Lib.hid (show pushK K x = { K with ov := true } by unfold pushK; rw [hb]; rfl)
    clear h
    go_enter Tryz.func176, Tryz.ntmps176
    go_wp2_with fail
    go_quiet (fail)
    go_wp2_with fail
    go_ret
    have B1 := below_drewN B0.out nq
    exact ⟨ret_bool HB.out.symm, by rw [HK.out]; exact SkT.under B1 ⟨_, (HG.out.keep (w' := World.drewN _ nq) fun k _ => rfl).over true, Turn.of (Frm.setCell _ (by simp [skfp]) _)⟩⟩
  | false =>
    have hr : (K.st.length : Int) < K.rm := by have := h.le; simp at hb; omega
    have HB := Lib.hid (show pushB K = true by unfold pushB; rw [hb]; rfl)
    have HK := Lib.hid (show pushK K x = { K with st := K.st ++ [x] } by unfold pushK; rw [hb]; rfl)
    have HR := Lib.hid hr
    clear h hr
    go_enter Tryz.func176, Tryz.ntmps176
    go_wp2_with fail
    go_quiet (fail)
    go_wp2_with fail
    refine region_tail 4 (by kernel_rfl) (by kernel_rfl) ?_
    simp only [List.take_succ_cons, List.take_zero, List.drop_succ_cons, List.drop_zero]
    repeat still_step
    refine wpStill_nil ?_
    have B1 := Lib.hid (below_drewN B0.out (nq + 1))
    go_wp2_with (go_at_call 203; refine (skput_any (HG.out.keep (w' := World.drewN _ (nq + 1)) fun k _ => rfl) x HR.out).mono ?_; rintro e w2 ⟨rfl, ht⟩; have T2 := Lib.hid ht; clear ht)
    go_ret
    exact ⟨ret_bool HB.out.symm, by rw [HK.out]; exact SkT.under B1.out T2.out⟩
theorem skpop_any (h : SkX w s v K) :
    Calls Tryz.prog 167 #[.pointer (some ⟨s, 0, none⟩)] w fun e w' => PopRs w w' s v K e := by
  have B0 := Lib.hid (below_alloc0 w (.cells #[.int .i64 0, .int .i64 0] 93))
  have HG := Lib.hid (h.below B0.out)
  have HA := Lib.hid (heap_alloc_new w (.cells #[.int .i64 0, .int .i64 0] 93))
  obtain ⟨o, ho⟩ : ∃ o, o = popO K := ⟨_, rfl⟩
  obtain ⟨a, ha⟩ : ∃ a, a = (o.getD (0, 0)).1 := ⟨_, rfl⟩
  obtain ⟨b, hb⟩ : ∃ b, b = (o.getD (0, 0)).2 := ⟨_, rfl⟩
  obtain ⟨q, hq⟩ : ∃ q, q = o.isSome := ⟨_, rfl⟩
  have HE := Lib.hid (show ∀ e, TakE (popO K) e → e = .returned (.tuple #[.agg #[.int .i64 a, .int .i64 b], .bool q]) by rw [← ho, ha, hb, hq]; exact fun e he => he)
  have HE2 := Lib.hid (show TakE (popO K) (.returned (.tuple #[.agg #[.int .i64 a, .int .i64 b], .bool q])) by rw [← ho, ha, hb, hq]; rfl)
  have hlt := h.lt
  have HL := Lib.hid hlt
  clear h ho ha hb hq hlt
  go_enter Tryz.func167, Tryz.ntmps167
  go_wp2_with (first
    | (go_at_call 200; refine (sktake_any HG.out).mono ?_; rintro e w2 ⟨he, ht⟩; obtain rfl := HE.out e he; obtain ⟨v', hx, ht⟩ := ht; have X2 := Lib.hid hx; have T2 := Lib.hid ht; have A2 := Lib.hid ((ht.heap (heap_lt HA.out) (fun hk => by have := HL.out _ hk; omega)).trans HA.out); clear he hx ht)
    | (refine wpList_store_row rfl 93 _ _ rfl w.heap.size #[.int .i64 a, .int .i64 b] rfl rfl 93 _ A2.out (by kernel_rfl) rfl (by kernel_rfl) ?_))
  refine bodyPost_ret (results_row_tmp rfl _ _ w.heap.size 93 #[.int .i64 a, .int .i64 b] _ _ rfl (heap_setRow_same _ A2.out) Tryz.underlying93 rfl (by kernel_rfl)) rfl ⟨?_, ?_⟩
  · exact HE2.out
  have hk : ∀ k ∈ skfp s v', k ≠ w.heap.size := fun k hk e => by
    rcases T2.out.fr k hk with h1 | h1
    · have := HL.out k h1; omega
    · have := B0.out.size
      have h2 := heap_lt HA.out
      omega
  have h2 := (Turn.below (skfp s v) B0.out).trans T2.out
  exact ⟨_, X2.out.keep fun k h1 => heap_setRow_other _ _ _ _ (hk k h1), h2.frm.trans_new (Frm.setRow (fp := [w.heap.size]) _ (List.mem_singleton.2 rfl) _) (fun k hk => by rw [List.mem_singleton.1 hk]; exact Nat.le_refl _), h2.fr⟩
theorem sklen_any (h : SkX w s v K) :
    Calls Tryz.prog 135 #[.pointer (some ⟨s, 0, none⟩)] w fun e w' => e = .returned (.int .i64 K.st.length) ∧ w = w' := by
  obtain ⟨c0, -⟩ := h.cells
  obtain ⟨p, cap, rfl, -⟩ := row_slice h.row
  clear h
  go_enter Tryz.func135, Tryz.ntmps135
  go_wp2_with fail
  go_ret
  exact ⟨rfl, rfl⟩
theorem skover_any (h : SkX w s v K) :
    Calls Tryz.prog 169 #[.pointer (some ⟨s, 0, none⟩)] w fun e w' => e = .returned (.bool K.ov) ∧ w = w' := by
  obtain ⟨-, -, c2, -⟩ := h.cells
  clear h
  go_enter Tryz.func169, Tryz.ntmps169
  go_wp2_with fail
  go_ret
  exact ⟨rfl, rfl⟩
theorem sksettle_any (h : SkX w s v K) :
    Calls Tryz.prog 168 #[.pointer (some ⟨s, 0, none⟩)] w fun e w' => e = .returned (.bool K.ov) ∧ SkT w w' s v { K with ov := false } := by
  have H := Lib.hid h
  obtain ⟨-, -, c2, -, c3⟩ := h.cells
  clear h
  cases ho : K.ov with
  | true =>
    have HO := Lib.hid ho
    clear ho
    go_enter Tryz.func168, Tryz.ntmps168
    go_wp2_with (go_at_call 169; refine (skover_any H.out).mono ?_; rw [HO.out]; rintro e w1 ⟨rfl, rfl⟩)
    go_ret
    exact ⟨rfl, _, H.out.over false, Turn.of (Frm.setCell _ (by simp [skfp]) _)⟩
  | false =>
    have HO := Lib.hid ho
    clear ho
    go_enter Tryz.func168, Tryz.ntmps168
    go_wp2_with (go_at_call 169; refine (skover_any H.out).mono ?_; rw [HO.out]; rintro e w1 ⟨rfl, rfl⟩)
    go_ret
    exact ⟨rfl, by rw [← HO.out]; exact SkT.refl H.out⟩
def SkNew (B : Nat) (n : Int) (e : Ending) (w' : World) : Prop := ∃ s, e = .returned (.pointer (some ⟨s, 0, none⟩)) ∧ SkX w' s (.slice none 0 0) ⟨[], clampN n 1 256, false⟩ ∧ B ≤ s
theorem sknew_any (n : Int) (w : World) :
    Calls Tryz.prog 111 #[.int .i64 n] w fun e w' => SkNew w.heap.size n e w' ∧ Below w.heap.size w w' := by
  have HB := Lib.hid (clampN_bd (a := n) (lo := 1) (hi := 256) (by omega))
  go_enter Tryz.func111, Tryz.ntmps111
  go_wp2_with (go_at_call 58; refine (clampn_any n 1 256 _).mono ?_; rintro e w1 ⟨rfl, rfl⟩)
  go_ret
  exact ⟨⟨_, rfl, ⟨heap_alloc_new _ _, own_nil _ _ _, HB.out, by have := HB.out; simp; omega⟩, Nat.le_refl _⟩, below_alloc0 _ _⟩
end
end Go.Proofs.YtjoejjhgneccgaaGreatDoor

/- Marks, and what is grey: in memory. -/
namespace Go.Proofs.YtjoejjhgneccgaaGreatDoor
open Go.RowKit

structure Gk where
  sk : Sk
  ws : List (BitVec 64)
structure Gb where
  g : Nat
  wt : Nat
  s : Nat
  m : Nat
structure GkX (w : World) (b : Gb) (v : Value) (K : Gk) : Prop where
  hd : w.heap[b.g]? = some (.cells #[.pointer (some ⟨b.wt, 0, none⟩), .pointer (some ⟨b.m, 0, none⟩)] 138 (0, 0))
  wt : w.heap[b.wt]? = some (.cells #[.pointer (some ⟨b.s, 0, none⟩)] 135 (0, 0))
  sk : SkX w b.s v K.sk
  sx : Sx w b.m 2048 K.ws
def gkfp (b : Gb) (v : Value) : List Nat := b.g :: b.wt :: b.m :: skfp b.s v
section
variable {w w' : World} {b : Gb} {v : Value} {K : Gk}
theorem GkX.lt (h : GkX w b v K) : ∀ k ∈ gkfp b v, k < w.heap.size := by
  intro k hk
  simp only [gkfp, List.mem_cons] at hk
  rcases hk with rfl | rfl | rfl | hk
  · exact heap_lt h.hd
  · exact heap_lt h.wt
  · exact heap_lt h.sx.hd
  · exact h.sk.lt k hk
theorem GkX.keep (h : GkX w b v K) (hk : ∀ k ∈ gkfp b v, w'.heap[k]? = w.heap[k]?) : GkX w' b v K :=
  ⟨(hk b.g (by simp [gkfp])).trans h.hd, (hk b.wt (by simp [gkfp])).trans h.wt, h.sk.keep fun k e => hk k (by simp [gkfp, e]), h.sx.keep (hk b.m (by simp [gkfp]))⟩
theorem GkX.below (h : GkX w b v K) (hb : Below w.heap.size w w') : GkX w' b v K := h.keep fun k hk => hb.block k (h.lt k hk)
theorem GkX.cells (h : GkX w b v K) : w.cell? ⟨b.g, 0, none⟩ = some (.pointer (some ⟨b.wt, 0, none⟩)) ∧ w.cell? ⟨b.g, 1, none⟩ = some (.pointer (some ⟨b.m, 0, none⟩)) ∧ w.cell? ⟨b.wt, 0, none⟩ = some (.pointer (some ⟨b.s, 0, none⟩)) :=
  ⟨cell_of_row _ _ _ _ _ _ h.hd, cell_of_row _ _ _ _ _ _ h.hd, cell_of_row _ _ _ _ _ _ h.wt⟩
def GkT (w w' : World) (b : Gb) (v : Value) (K' : Gk) : Prop := ∃ v', GkX w' b v' K' ∧ Turn (gkfp b v) (gkfp b v') w w'
theorem GkT.refl (h : GkX w b v K) : GkT w w b v K := ⟨v, h, Turn.refl _ _⟩
theorem GkT.under {w1 : World} {K' : Gk} (hb : Below w.heap.size w w1) (h : GkT w1 w' b v K') : GkT w w' b v K' := by
  obtain ⟨v', h1, h2⟩ := h
  exact ⟨v', h1, h2.under hb⟩
theorem GkT.then {w1 : World} {K' : Gk} (h : GkT w w1 b v K') (hb : Below w1.heap.size w1 w') : GkT w w' b v K' := by
  obtain ⟨v', h1, h2⟩ := h
  exact ⟨v', h1.below hb, h2.then hb⟩
theorem GkX.offSk (h : GkX w b v K) : b.g ∉ skfp b.s v ∧ b.wt ∉ skfp b.s v ∧ b.m ∉ skfp b.s v := by
  have h1 := ne_types h.hd h.sk.hd (by decide)
  have h2 := ne_types h.wt h.sk.hd (by decide)
  have h3 := ne_types h.sx.hd h.sk.hd (by decide)
  have n1 := own_not h.sk.row h.hd (by decide)
  have n2 := own_not h.sk.row h.wt (by decide)
  have n3 := own_not h.sk.row h.sx.hd (by decide)
  refine ⟨fun hk => ?_, fun hk => ?_, fun hk => ?_⟩ <;> rcases List.mem_cons.1 hk with e | e
  · exact h1 e
  · exact n1 (mem_blk.1 e)
  · exact h2 e
  · exact n2 (mem_blk.1 e)
  · exact h3 e
  · exact n3 (mem_blk.1 e)
theorem GkX.withSk {S' : Sk} (h : GkX w b v K) (ht : SkT w w' b.s v S') : GkT w w' b v { K with sk := S' } := by
  obtain ⟨v', hx, ht⟩ := ht
  obtain ⟨o1, o2, o3⟩ := h.offSk
  refine ⟨v', ⟨(ht.heap (heap_lt h.hd) o1).trans h.hd, (ht.heap (heap_lt h.wt) o2).trans h.wt, hx, h.sx.keep (ht.heap (heap_lt h.sx.hd) o3)⟩, ht.sub (fun k hk => by simp [gkfp, hk]) fun k hk => ?_⟩
  simp only [gkfp, List.mem_cons] at hk ⊢
  rcases hk with e | e | e | e
  · exact .inr (.inl e)
  · exact .inr (.inr (.inl e))
  · exact .inr (.inr (.inr (.inl e)))
  · exact .inl e
theorem GkX.withSx {W : List (BitVec 64)} (h : GkX w b v K) (hf : Frm [b.m] w w') (hx : Sx w' b.m 2048 W) : GkX w' b v { K with ws := W } ∧ Turn (gkfp b v) (gkfp b v) w w' := by
  have n1 : b.g ≠ b.m := ne_types h.hd h.sx.hd (by decide)
  have n2 : b.wt ≠ b.m := ne_types h.wt h.sx.hd (by decide)
  refine ⟨⟨(hf.block _ (heap_lt h.hd) (by simpa using n1)).trans h.hd, (hf.block _ (heap_lt h.wt) (by simpa using n2)).trans h.wt, h.sk.keep fun k hk => hf.block k (h.sk.lt k hk) fun e => ?_, hx⟩, Turn.of (hf.mono (by simp [gkfp]))⟩
  rw [List.mem_singleton] at e
  subst e
  exact h.offSk.2.2 hk
theorem gknone_any (h : GkX w b v K) :
    Calls Tryz.prog 80 #[.pointer (some ⟨b.g, 0, none⟩)] w fun e w' => e = .returned (.pointer (some ⟨b.wt, 0, none⟩)) ∧ w = w' := by
  obtain ⟨c0, -⟩ := h.cells
  clear h
  go_enter Tryz.func80, Tryz.ntmps80
  go_wp2_with fail
  go_ret
  exact ⟨rfl, rfl⟩
theorem gkset_any (h : GkX w b v K) :
    Calls Tryz.prog 76 #[.pointer (some ⟨b.g, 0, none⟩)] w fun e w' => e = .returned (.pointer (some ⟨b.m, 0, none⟩)) ∧ w = w' := by
  obtain ⟨-, c1, -⟩ := h.cells
  clear h
  go_enter Tryz.func76, Tryz.ntmps76
  go_wp2_with fail
  go_ret
  exact ⟨rfl, rfl⟩
theorem gkis_any (h : GkX w b v K) (a : Int) :
    Calls Tryz.prog 57 #[.pointer (some ⟨b.g, 0, none⟩), .int .i64 a] w fun e w' => e = .returned (.bool (hasB 2048 K.ws a)) ∧ w = w' := by
  have H := Lib.hid h
  clear h
  go_enter Tryz.func57, Tryz.ntmps57
  go_wp2_with (first
    | (go_at_call 76; refine (gkset_any H.out).mono ?_; rintro e w1 ⟨rfl, rfl⟩)
    | (go_at_call 114; refine (has_any H.out.sx a).mono ?_; rintro e w1 ⟨rfl, rfl⟩))
  go_ret
  exact ⟨rfl, rfl⟩
def blackK (K : Gk) (a : Int) : Gk := { K with ws := addL 2048 K.ws a }
def clearK (K : Gk) (a : Int) : Gk := { K with ws := remL 2048 K.ws a }
theorem gkblack_any (h : GkX w b v K) (a : Int) :
    Calls Tryz.prog 56 #[.pointer (some ⟨b.g, 0, none⟩), .int .i64 a] w fun e w' => e = .returned (.bool (addB 2048 K.ws a)) ∧ GkX w' b v (blackK K a) ∧ Turn (gkfp b v) (gkfp b v) w w' := by
  have H := Lib.hid h
  clear h
  obtain ⟨r, hr⟩ : ∃ r, r = addB 2048 K.ws a := ⟨_, rfl⟩
  have HR := Lib.hid hr
  clear hr
  go_enter Tryz.func56, Tryz.ntmps56
  go_wp2_with (first
    | (go_at_call 76; refine (gkset_any H.out).mono ?_; rintro e w1 ⟨rfl, rfl⟩)
    | (go_at_call 113; refine (add_any H.out.sx a).mono ?_; rw [← HR.out]; rintro e w1 ⟨rfl, hx, hf⟩; have H1 := Lib.hid (H.out.withSx hf hx); clear hx hf))
  go_ret
  exact ⟨ret_bool HR.out, H1.out.1, H1.out.2⟩
theorem gkclear_any (h : GkX w b v K) (a : Int) :
    Calls Tryz.prog 59 #[.pointer (some ⟨b.g, 0, none⟩), .int .i64 a] w fun e w' => e = .returned (.bool (hasB 2048 K.ws a)) ∧ GkX w' b v (clearK K a) ∧ Turn (gkfp b v) (gkfp b v) w w' := by
  have H := Lib.hid h
  clear h
  obtain ⟨r, hr⟩ : ∃ r, r = hasB 2048 K.ws a := ⟨_, rfl⟩
  have HR := Lib.hid hr
  clear hr
  go_enter Tryz.func59, Tryz.ntmps59
  go_wp2_with (first
    | (go_at_call 76; refine (gkset_any H.out).mono ?_; rintro e w1 ⟨rfl, rfl⟩)
    | (go_at_call 115; refine (rem_any H.out.sx a).mono ?_; rw [← HR.out]; rintro e w1 ⟨rfl, hx, hf⟩; have H1 := Lib.hid (H.out.withSx hf hx); clear hx hf))
  go_ret
  exact ⟨ret_bool HR.out, H1.out.1, H1.out.2⟩
theorem gkall_any (h : GkX w b v K) (ht : Tab64 w) (hg : 0 < w.heap.size) :
    Calls Tryz.prog 30 #[.pointer (some ⟨b.g, 0, none⟩)] w fun e w' => RowE w.heap.size (bitsI K.ws) e w' ∧ Below w.heap.size w w' := by
  have H := Lib.hid h
  have HT := Lib.hid ht
  have HG := Lib.hid hg
  clear h ht hg
  go_enter Tryz.func30, Tryz.ntmps30
  go_wp2_with (first
    | (go_at_call 76; refine (gkset_any H.out).mono ?_; rintro e w1 ⟨rfl, rfl⟩)
    | (go_at_call 77; refine (all_any H.out.sx HT.out HG.out).mono ?_; rintro e w1 ⟨⟨v, rfl, hr⟩, hb⟩; have R1 := Lib.hid hr; have B1 := Lib.hid hb; clear hr hb))
  go_ret
  exact ⟨⟨_, rfl, R1.out⟩, B1.out⟩
end
end Go.Proofs.YtjoejjhgneccgaaGreatDoor
