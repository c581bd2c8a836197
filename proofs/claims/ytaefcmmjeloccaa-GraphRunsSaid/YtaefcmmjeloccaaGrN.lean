/- The graph's View: noting references. -/
import Derived.Test.YtaefcmmjeloccaaQue
import Derived.Test.YtaefcmmjeloccaaGrM
namespace Go.Proofs.Ytaefcmmjeloccaa
open Go.RowKit

def refs (vs : List Vl) : List Int := (vs.filter fun v => v.1 == 2).map fun v => v.2
theorem refs_yes {vs : List Vl} {k : Nat} (hk : k < vs.length) (h : (vs.getD k (0, 0)).1 = 2) : refs (vs.take (k + 1)) = refs (vs.take k) ++ [(vs.getD k (0, 0)).2] := by
  unfold refs
  have e : vs.take (k + 1) = vs.take k ++ [vs.getD k (0, 0)] := by
    rw [List.take_add_one, List.getD_eq_getElem?_getD, List.getElem?_eq_getElem hk]; rfl
  rw [e, List.filter_append, List.filter_cons, if_pos (by simpa using h), List.filter_nil, List.map_append]; rfl
theorem refs_no {vs : List Vl} {k : Nat} (hk : k < vs.length) (h : (vs.getD k (0, 0)).1 ≠ 2) : refs (vs.take (k + 1)) = refs (vs.take k) := by
  unfold refs
  have e : vs.take (k + 1) = vs.take k ++ [vs.getD k (0, 0)] := by
    rw [List.take_add_one, List.getD_eq_getElem?_getD, List.getElem?_eq_getElem hk]; rfl
  rw [e, List.filter_append, List.filter_cons, if_neg (by simpa using h), List.filter_nil, List.append_nil]
theorem refs_len (vs : List Vl) : (refs vs).length ≤ vs.length := by
  unfold refs; rw [List.length_map]; exact List.length_filter_le _ _
def ivs (l : List Int) : List Value := l.map (Value.int .i64)
theorem info_i64 : (Try.prog.info? 2).map (fun i => (i.zero, i.size, i.bytes)) = some (some (.int .i64 0), 1, 8) := by kernel_rfl
/-- The box of a queue. -/
structure Box (w : World) (B nx : Nat) (next : List Int) : Prop where
  base : B ≤ nx
  has : ∃ ns, w.heap[nx]? = some (.cells #[ns] 81 (0, 0)) ∧ Que w B 2 ns (ivs next)
theorem Box.kf {w w1 : World} {B B' nx : Nat} {next : List Int} {ks : List TypeId} {bs : List Nat} (h : Box w B nx next) (hf : KF B' ks bs w w1) (h1 : 81 ∉ ks) (h2 : 2 ∉ ks) (h3 : nx ∉ bs) (h4 : ∀ k cs fr, k ∈ bs → w.heap[k]? ≠ some (.cells cs 2 fr)) : Box w1 B nx next := by
  obtain ⟨ns, hb, hq⟩ := h.has
  refine ⟨h.base, ns, hf.kept _ _ _ _ hb h1 h3, hq.kf hf h2 fun k hk hm => ?_⟩
  obtain ⟨_, cs, T, fr, h5, h6⟩ := hq.row k hk
  rw [List.mem_singleton.1 h6] at h5
  exact h4 k cs fr hm h5
theorem Box.below {w w1 : World} {B nx : Nat} {next : List Int} (h : Box w B nx next) (hb : Below w.heap.size w w1) : Box w1 B nx next := by
  obtain ⟨ns, h1, hq⟩ := h.has
  exact ⟨h.base, ns, keep hb h1, hq.below hb⟩
def NoteR (B nx : Nat) (next : List Int) (w : World) (e : Ending) (w' : World) : Prop := e = .returned (.tuple #[]) ∧ Box w' B nx next ∧ KF B [2] [nx] w w'
theorem note_step {B nx : Nat} {w wr w1 : World} {ns : Value} {xs : List Value} {o1 o2 : Obj} (hsz : B ≤ wr.heap.size) (A1 : wr.heap[nx]? = some (.cells #[ns] 81 (0, 0))) (Q1 : Que wr B 2 ns xs) (HF : KF B [2] [nx] w wr) (hgrow : ((wr.alloc o1).alloc o2).grownBy w1 ns.ownBlock) :
    w1.heap[nx]? = some (.cells #[ns] 81 (0, 0)) ∧ KF B [2] [nx] w w1 := by
  have A2 := keep_alloc o2 (keep_alloc o1 A1)
  have Q2 := (Q1.below (below_alloc0 wr o1)).below (below_alloc0 _ o2)
  refine ⟨(hgrow.block nx (heap_lt A2) fun e => ?_).trans A2, ((HF.alloc hsz _).alloc (by simp; omega) _).trans (KF.grown hgrow (by simp; omega) Q2.row)⟩
  obtain ⟨_, c1, T1, f1, h1, h2⟩ := Q2.row nx e.symm
  rw [List.mem_singleton.1 h2] at h1
  exact kind_ne h1 A2 (by decide) rfl
set_option maxHeartbeats 4000000 in
set_option maxRecDepth 100000 in
theorem gnote_any (B nx : Nat) (s : Value) (n : Nat) (vs : List Vl) (next : List Int) (w : World) (hb : Box w B nx next) (hown : Own w 57 2 n s (vls vs)) (hn : n ≤ 127) (hx : next.length ≤ 200000000) :
    Calls Try.prog 37 #[s, .pointer (some ⟨nx, 0, none⟩)] w (NoteR B nx (next ++ refs vs) w) := by
  obtain ⟨i0, hi, hz0, hz1, hz2⟩ := info_parts info_i64
  have hi := Lib.hid hi
  have hz0 := Lib.hid hz0
  have hz1 := Lib.hid hz1
  have hz2 := Lib.hid hz2
  have hl := hown.1
  rw [vls_len] at hl
  have HO := Lib.hid hown
  have HB := Lib.hid hb
  have hbase := hb.base
  have hw : B ≤ w.heap.size := by
    obtain ⟨ns, h1, _⟩ := hb.has
    have := heap_lt h1
    omega
  obtain ⟨p, cap, rfl, hcap, hpb⟩ := own_slice hown
  clear hown hb
  go_enter Try.func37, Try.ntmps37
  go_wp2_with fail
  go_loopw [7] (fun i wr => ∃ k : Nat, k ≤ n ∧ i = .int .i64 k ∧ Hid (Box wr B nx (next ++ refs (vs.take k))) ∧ Hid (KF B [2] [nx] w wr)) (fun i _ => n - (intOf i).toNat)
  case atStart => exact ⟨0, by omega, rfl, Lib.hid (by simpa [refs] using HB.out), Lib.hid (KF.refl _ _ _ _)⟩
  case round =>
    obtain ⟨k, hk, rfl, HBX, HF⟩ := hrel
    by_cases hlt : k < n
    · obtain ⟨b, rfl⟩ := hpb (by omega)
      have hro : Own wr 57 2 n (.slice (some ⟨b, 0, none⟩) n cap) (vls vs) := HF.out.own HO.out (by decide) fun k hk hm => by
        obtain ⟨c1, f1, h1⟩ := Lib.ownsRow_kind HO.out k hk
        obtain ⟨ns, h2, _⟩ := HB.out.has
        rw [List.mem_singleton.1 hm] at h1
        exact kind_ne h1 h2 (by decide) rfl
      obtain ⟨g1, g2⟩ := own_val hro hlt
      clear hro
      have HY : Hid ((vs.getD k (0, 0)).1 = 2 → refs (vs.take (k + 1)) = refs (vs.take k) ++ [(vs.getD k (0, 0)).2]) := Lib.hid (refs_yes (by omega))
      have HN : Hid ((vs.getD k (0, 0)).1 ≠ 2 → refs (vs.take (k + 1)) = refs (vs.take k)) := Lib.hid (refs_no (by omega))
      obtain ⟨x, hx1⟩ : ∃ x, x = (vs.getD k (0, 0)).1 := ⟨_, rfl⟩
      obtain ⟨y, hy1⟩ : ∃ y, y = (vs.getD k (0, 0)).2 := ⟨_, rfl⟩
      rw [← hx1] at g1 HY HN
      rw [← hy1] at g2 HY
      clear hx1 hy1
      have i1 : (0 : Int) ≤ (k : Int) := by omega
      have i2 : (k : Int) < (n : Int) := by omega
      clear hpb
      by_cases hx2 : x = 2
      · have HE := Lib.hid (HY.out hx2)
        subst hx2
        clear HY HN
        obtain ⟨ns, hb1, hq1⟩ := HBX.out.has
        have A1 := Lib.hid hb1
        have Q1 := Lib.hid hq1
        have nc := fun o => cell_keep (below_alloc0 wr o) (cell_of_row _ _ 0 _ _ _ hb1)
        have hln : (next ++ refs (List.take k vs)).length ≤ 200000127 := by
          have h1 := refs_len (List.take k vs)
          have h2 : (List.take k vs).length ≤ k := List.length_take_le _ _
          rw [List.length_append]; omega
        have HLN : Hid ((ivs (next ++ refs (List.take k vs))).length ≤ 200000127) := Lib.hid (by unfold ivs; rw [List.length_map]; exact hln)
        clear hb1 hq1 hln
        have hsz : B ≤ wr.heap.size := Nat.le_trans hw HF.out.size
        go_wp2_with (at_builtin; refine wpList_append_que _ rfl _ _ 81 rfl B 2 i0 (.int .i64 0) 8 Try.underlying81 hi.out hz0.out hz1.out hz2.out rfl ns _ rfl ((Q1.out.below (below_alloc0 wr _)).below (below_alloc0 _ _)) ⟨wr.heap.size + 1, 0, none⟩ 1 (.int .i64 y) rfl (cell_of_row _ _ 0 _ _ _ (heap_two wr _ _)) rfl (by have := HLN.out; unfold maxLen; omega) (by have := HLN.out; omega) (by simp; omega) ?_; intro v' w1 hq' hgrow; obtain ⟨p', n', c', rfl⟩ := hq'.form; have Q3 := Lib.hid hq'; clear hq'; obtain ⟨hA3, hF3⟩ := note_step hsz A1.out Q1.out HF.out hgrow; clear hgrow; have n1 : w1.cell? ⟨nx, 0, none⟩ = some ns := cell_of_row _ _ _ _ _ _ hA3; have n2 : w1.frozen? ⟨nx, 0, none⟩ = false := frozen_of_row _ _ _ _ _ hA3; have A3 := Lib.hid hA3; have F3 := Lib.hid hF3; clear hA3 hF3)
        go_roundw
        case rel =>
          refine ⟨k + 1, by omega, by go_num, Lib.hid ⟨hbase, .slice p' n' c', ?_, ?_⟩, Lib.hid (F3.out.setCell hbase (by simp) _)⟩
          · exact heap_setCell_same w1 nx 0 _ _ (.slice p' n' c') A3.out
          · have e : ivs (next ++ refs (List.take (k + 1) vs)) = ivs (next ++ refs (List.take k vs)) ++ [.int .i64 y] := by rw [HE.out]; simp [ivs]
            rw [e]
            refine Q3.out.keep fun g cur hg hh => (heap_setCell_other _ _ _ _ fun e => ?_).trans hh
            subst e
            exact kind_ne hh A3.out (by decide) rfl
        case measure => simp [intOf]; omega
      · have HE := Lib.hid (HN.out hx2)
        have dx : (x == 2) = false := by simpa using hx2
        clear HY HN hx2
        go_wp2_with fail
        go_roundw
        case rel => exact ⟨k + 1, by omega, by go_num, Lib.hid (by rw [HE.out]; exact HBX.out.below (below_alloc0 wr _)), Lib.hid (HF.out.alloc (Nat.le_trans hw HF.out.size) _)⟩
        case measure => simp [intOf]; omega
    · obtain rfl : k = n := by omega
      clear hpb
      go_wp2_with fail
      refine bodyPost_ret (v := .tuple #[]) (by simp [results, Try.results37, go_sem]) rfl ?_
      have h1 := HBX.out
      rw [List.take_of_length_le (by omega)] at h1
      exact ⟨rfl, h1, HF.out⟩
end Go.Proofs.Ytaefcmmjeloccaa
