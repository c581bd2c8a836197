/- A slice of operations on the cells that came in, opened. -/
import Derived.Test.YtfocdbflmodfhaaDoorQCR01
import Derived.Test.YtfocdbflmodfhaaDoorQCR05
import Derived.Test.YtfocdbflmodfhaaDoorQCR12
import Derived.Test.YtfocdbflmodfhaaDoorQCR13
import Derived.Test.YtfocdbflmodfhaaDoorQCR14
import Derived.Test.YtfocdbflmodfhaaDoorQCR19
import Derived.Test.YtfocdbflmodfhaaDoorQCR22
import Derived.Test.YtfocdbflmodfhaaDoorRows
import Derived.Deep.SlicePairs
import Derived.Deep.DeepHandedRow
import Derived.Deep.Slices
import Derived.OpenShut
namespace Go.Proofs.YtfocdbflmodfhaaDoor
open Go.ChangeShapes Go.WideShapes Go.ChangeAt Go.RowKit Go.Deep

structure Opr where
  k : Int
  n : Int
  x : Int
def Opr.cells (x : Opr) : Array Value := #[.int .i64 x.k, .int .i64 x.n, .int .i64 x.x]
abbrev Opr.zero : Opr := ⟨0, 0, 0⟩
instance : Inhabited Opr := ⟨Opr.zero⟩
structure OpX (w : World) (A : Option Addr) (n : Nat) (xs : List Opr) : Prop where
  len : xs.length = n
  max : n * 24 ≤ 140737488355328
  cell : 0 < n → ∃ b o, A = some ⟨b, o, none⟩ ∧ ∀ j, j < n → (xs.getD j Opr.zero).n ≤ 9223372036854775807 ∧ ∀ k v, (xs.getD j Opr.zero).cells[k]? = some v → w.cell? ⟨b, o + j * 3 + k, none⟩ = some v
theorem OpX.below {w w' : World} {A : Option Addr} {n : Nat} {xs : List Opr} (h : OpX w A n xs) (hb : Below w.heap.size w w') : OpX w' A n xs :=
  ⟨h.len, h.max, fun h0 => by
    obtain ⟨b, o, e, hc⟩ := h.cell h0
    exact ⟨b, o, e, fun j hj => ⟨(hc j hj).1, fun k v hv => cell_keep hb ((hc j hj).2 k v hv)⟩⟩⟩
theorem OpX.take {w : World} {A : Option Addr} {n m : Nat} {xs : List Opr} (h : OpX w A n xs) (hm : m ≤ n) : OpX w A m (xs.take m) :=
  ⟨by have := h.len; simp; omega, by have := h.max; omega, fun h0 => by
    obtain ⟨b, o, e, hc⟩ := h.cell (by omega)
    refine ⟨b, o, e, fun j hj => ?_⟩
    have he : (xs.take m).getD j Opr.zero = xs.getD j Opr.zero := by simp only [List.getD_eq_getElem?_getD, List.getElem?_take, hj, if_true]
    rw [he]
    exact hc j (by omega)⟩
theorem opr_cells_at {w : World} {b o j : Nat} {x : Opr} (h : ∀ k v, x.cells[k]? = some v → w.cell? ⟨b, o + j * 3 + k, none⟩ = some v) :
    w.cell? ⟨b, o + j * 3, none⟩ = some (.int .i64 x.k) ∧ w.cell? ⟨b, o + j * 3 + 1, none⟩ = some (.int .i64 x.n) ∧ w.cell? ⟨b, o + j * 3 + 2, none⟩ = some (.int .i64 x.x) :=
  ⟨h 0 _ rfl, h 1 _ rfl, h 2 _ rfl⟩
section
variable {H : Type} {enc : TypeId × Value → H} {w : World} {base : Nat} {spare : Nat → Bool} {held : Bool} {r : Reach} {b0 : Nat} {v : Value} {d : DataW H} {p : List MemPlace}
set_option maxRecDepth 100000 in
theorem opr_of_cells {fuel : Nat} {cs : List Value} {x : DataW H × List MemPlace} (h : DataW.trod enc Tryd.prog w base spare held fuel 28 cs = some x) (hl : cs.length = 3) : ∃ c : Opr, cs = c.cells.toList ∧ c.n ≤ 9223372036854775807 := by
  obtain ⟨ys, n, _, _, _, hlen, hg⟩ := DataW.trod_struct Tryd.underlying28 h
  have hone : oneCellFields Tryd.prog (match Tryd.prog.underlying 28 with | some (.struct fs) => fs | _ => #[]) = true := by kernel_rfl
  rw [Tryd.underlying28] at hone
  have key : ∀ (j : Nat) (f : Field), (match Tryd.prog.underlying 28 with | some (.struct fs) => fs | _ => #[])[j]? = some f → Tryd.prog.underlying f.type = some (.int .i64) → ∃ z : Int, cs[j]? = some (.int .i64 z) ∧ (Lit.int .i64 z).wf = true := by
    intro j f hf hk
    rw [Tryd.underlying28] at hf
    obtain ⟨ho, hk1⟩ := hone_of hone j f hf
    have h1 := hg j f hf
    rw [ho, hk1] at h1
    have hj7 : j < 3 := (Array.getElem?_eq_some_iff.1 hf).1
    have hys : ys[j]? = some (ys[j]'(by rw [hlen]; exact hj7)) := List.getElem?_eq_getElem (by rw [hlen]; exact hj7)
    rw [hys] at h1
    obtain ⟨z, e1, _, hwf⟩ := DataW.trod_int hk h1
    refine ⟨z, ?_, hwf⟩
    have hjc : j < cs.length := by omega
    have e4 : (cs.drop j).take 1 = [cs[j]] := by rw [List.drop_eq_getElem_cons hjc]; rfl
    rw [e4] at e1
    have e2 : cs[j] = Value.int .i64 z := by simpa using e1
    rw [List.getElem?_eq_getElem hjc, e2]
  rw [Tryd.underlying28] at key
  obtain ⟨z0, h0, _⟩ := key 0 _ rfl Tryd.underlying3
  obtain ⟨z1, h1, hw1⟩ := key 1 _ rfl Tryd.underlying3
  obtain ⟨z2, h2, _⟩ := key 2 _ rfl Tryd.underlying2
  have hr : z1 ≤ 9223372036854775807 := (bounds_i64 hw1).2
  refine ⟨⟨z0, z1, z2⟩, ?_, hr⟩
  match cs, hl with
  | [c0, c1, c2], _ =>
    simp at h0 h1 h2
    subst h0 h1 h2
    rfl
set_option maxRecDepth 100000 in
theorem open_ops (hv : Value.okWide Tryd.prog w r b0 22 v) (h : DataW.Trod enc Tryd.prog w base spare held 22 v d p) :
    ∃ A n cap, v = .slice A n cap ∧ n ≤ cap ∧ n ≤ 9223372036854775807 ∧ ((∀ m ∈ d.weights Tryd.prog 22, m ≤ reachBytes) → ∃ xs, OpX w A n xs) := by
  obtain ⟨a0, n0, cap0, rfl⟩ := okWide_slice Tryd.underlying22 hv
  obtain ⟨fuel, hf⟩ := h
  rcases open_slice Tryd.underlying22 hf with ⟨hcs, _⟩ | ⟨a, len, cap, m, n, D, Pl, hcs, _, hl, hm, hmm, hd, hx⟩
  · simp [Value.cells] at hcs
    obtain ⟨rfl, rfl, rfl⟩ := hcs
    exact ⟨none, 0, 0, rfl, Nat.le_refl _, by omega, fun _ => ⟨[], rfl, by omega, fun h => absurd h (by omega)⟩⟩
  · simp [Value.cells] at hcs
    obtain ⟨rfl, rfl, rfl⟩ := hcs
    simp only [Prod.mk.injEq] at hd
    obtain ⟨rfl, _⟩ := hd
    have hlm : n0 ≤ m := by rw [hmm]; split <;> omega
    refine ⟨some a, n0, cap0, rfl, hl, by unfold maxLen at hm; omega, fun hw => ?_⟩
    have hbytes : Tryd.prog.bytesOf 28 = 24 := by kernel_rfl
    have hc7 : Tryd.prog.cellsOf 28 = 3 := by kernel_rfl
    have hlen : n0 * 24 ≤ 140737488351232 := by
      have := hw ((n0 + (m - n0)) * 24) (by simp [DataW.weights, Tryd.underlying22, hbytes])
      simp only [reachBytes] at this
      omega
    have each : ∀ i, i < n0 → ∃ c : Opr, c.n ≤ 9223372036854775807 ∧ ∀ k u, c.cells[k]? = some u → w.cell? (a.add (i * 3 + k)) = some u := by
      intro i hi
      obtain ⟨cs', h1, h2⟩ := hx i (by omega)
      rw [hc7] at h1
      obtain ⟨_, hlen', hcell⟩ := World.cells?_some h1
      obtain ⟨c, rfl, hcn⟩ := opr_of_cells h2 hlen'
      refine ⟨c, hcn, fun k u hu => ?_⟩
      have hk : k < 3 := (Array.getElem?_eq_some_iff.1 hu).1
      have := hcell k hk
      rw [add_add] at this
      rw [this, Array.getElem?_toList]; exact hu
    obtain ⟨f, hff⟩ := choose_lt each
    refine ⟨(List.range n0).map f, by simp, by omega, fun h0 => ?_⟩
    · obtain ⟨b, off, spot⟩ := a
      have hspot : spot = none := by simpa [Addr.add] using World.cell?_spot ((hff 0 h0).2 0 _ rfl)
      subst hspot
      refine ⟨b, off, rfl, fun j hj => ?_⟩
      have hd : ((List.range n0).map f).getD j Opr.zero = f j := by simp [List.getD_eq_getElem?_getD, hj]
      rw [hd]
      refine ⟨(hff j hj).1, fun k u hu => ?_⟩
      have := (hff j hj).2 k u hu
      rw [add_plain] at this
      rw [Nat.add_assoc]; exact this
end
end Go.Proofs.YtfocdbflmodfhaaDoor

/- The law's book: each step. -/
namespace Go.Proofs.YtfocdbflmodfhaaDoor
open Go.RowKit

section
variable {base bk h B0 N m : Nat} {b : Bl} {w w' : World} {C C' : Cs} {ks ts ws : List Int} {F F' : Nat → List Int}
theorem CR.below (H : CR base b bk h C F ws w) (hb : Below w.heap.size w w') : CR base b bk h C F ws w' := ⟨H.cx.below hb, H.inv, H.rs.below hb, H.wd⟩
theorem CRE.more {m' : Nat} (H : CRE base b bk h N m w) (hm : m ≤ m') : CRE base b bk h N m' w := by
  obtain ⟨C, F, ws, h1, h2, h3⟩ := H
  exact ⟨C, F, ws, h1, h2, Nat.le_trans h3 hm⟩
set_option maxHeartbeats 4000000 in
set_option maxRecDepth 100000 in
theorem bstep13 (k n x : Int) (hk : 1 ≤ k ∧ k ≤ 3) (hb0 : B0 ≤ w.heap.size)
    (ht : ∀ W, Below w.heap.size w W → Calls Tryd.prog 56 #[.pointer (some ⟨bk, 0, none⟩), .pointer (some ⟨b.c, 0, none⟩), .agg #[.int .i64 k, .int .i64 n, .int .i64 x]] W fun e w' => e = .returned (.bool true) ∧ CRE base b bk h N m w' ∧ Below B0 W w') :
    Calls Tryd.prog 20 #[.pointer (some ⟨bk, 0, none⟩), .pointer (some ⟨b.c, 0, none⟩), .agg #[.int .i64 k, .int .i64 n, .int .i64 x]] w fun e w' => e = .returned (.bool true) ∧ CRE base b bk h N m w' ∧ Below B0 w w' := by
  have HT := Lib.hid ht
  have HB := Lib.hid hb0
  have k1 : decide (1 ≤ k) = true := by simpa using hk.1
  have k3 : decide (k ≤ 3) = true := by simpa using hk.2
  clear ht hk hb0
  go_enter Tryd.func20, Tryd.ntmps20
  go_wp2_with (first
    | (refine wpList_load_row rfl 28 _ rfl w.heap.size rfl 28 #[.int .i64 k, .int .i64 n, .int .i64 x] (0, 0) _ (heap_alloc_new w _) Tryd.underlying28 rfl (by kernel_rfl) ?_)
    | (go_at_call 56; refine (HT.out _ (below_alloc0 w _)).mono ?_; rintro e w2 ⟨rfl, hc, hbl⟩; have R2 := Lib.hid hc; have L2 := Lib.hid hbl; clear hc hbl))
  go_ret
  exact ⟨rfl, R2.out, ((below_alloc0 w _).mono HB.out).trans L2.out⟩
theorem bstep_any (H : CRE base b bk h N m w) (hb : base ≤ w.heap.size) (hf : ∀ x ∈ b.fp, x < base) (hB : B0 ≤ base) (hf0 : ∀ x ∈ b.fp, B0 ≤ x) (hm : m ≤ 49) (k n x : Int) (hn : n ≤ 9223372036854775807) :
    Calls Tryd.prog 20 #[.pointer (some ⟨bk, 0, none⟩), .pointer (some ⟨b.c, 0, none⟩), .agg #[.int .i64 k, .int .i64 n, .int .i64 x]] w fun e w' => e = .returned (.bool true) ∧ CRE base b bk h N (m + 1) w' ∧ Below B0 w w' := by
  obtain ⟨C, F, ws, hc, hN, hl⟩ := H
  by_cases k1 : k = 1
  · subst k1
    exact bstep13 1 n x ⟨by decide, by decide⟩ (Nat.le_trans hB hb) fun W hW => (btake1 (hc.below hW) hN hl (Nat.le_trans hb hW.size) hf hB hf0 n x).mono fun e w' ⟨h1, h2, h3⟩ => ⟨h1, h2.more (Nat.le_succ _), h3⟩
  by_cases k2 : k = 2
  · subst k2
    exact bstep13 2 n x ⟨by decide, by decide⟩ (Nat.le_trans hB hb) fun W hW => btake2 (hc.below hW) hN hl (Nat.le_trans hb hW.size) hf hB hf0 n x hm
  by_cases k3 : k = 3
  · subst k3
    exact bstep13 3 n x ⟨by decide, by decide⟩ (Nat.le_trans hB hb) fun W hW => btake3 (hc.below hW) hN hl (Nat.le_trans hb hW.size) hf hB hf0 n x hm hn
  by_cases k4 : k = 4
  · subst k4
    exact (bstep4 hc hN hl hb hf hB hf0 n x).mono fun e w' ⟨h1, h2, h3⟩ => ⟨h1, h2.more (Nat.le_succ _), h3⟩
  by_cases k5 : k = 5
  · subst k5
    exact (bstep5 hc hN hl hb hf hB hf0 n x).mono fun e w' ⟨h1, h2, h3⟩ => ⟨h1, h2.more (Nat.le_succ _), h3⟩
  by_cases k6 : k = 6
  · subst k6
    exact (bstep6 hc hN hl hb hf hB hf0 n x).mono fun e w' ⟨h1, h2, h3⟩ => ⟨h1, h2.more (Nat.le_succ _), h3⟩
  exact (bstep7 hc hN hl hb hf hB hf0 k n x (by omega)).mono fun e w' ⟨h1, h2, h3⟩ => ⟨h1, h2.more (Nat.le_succ _), h3⟩
end
end Go.Proofs.YtfocdbflmodfhaaDoor

/- Cells that nobody made. -/
namespace Go.Proofs.YtfocdbflmodfhaaDoor
open Go.RowKit

/-- No call but New made it. -/
def Nob (w : World) (v : Value) : Prop := v = .pointer none ∨ ∃ b, v = .pointer (some ⟨b, 0, none⟩) ∧ w.cell? ⟨b, 1, none⟩ = some (.pointer none)
theorem Nob.below {w w' : World} {v : Value} (h : Nob w v) (hb : Below w.heap.size w w') : Nob w' v := by
  rcases h with rfl | ⟨b, rfl, h⟩
  · exact .inl rfl
  · exact .inr ⟨b, rfl, cell_keep hb h⟩
section
variable {w : World} {v : Value}
theorem nis (h : Nob w v) :
    Calls Tryd.prog 34 #[v] w fun e w' => e = .returned (.bool false) ∧ w = w' := by
  rcases h with rfl | ⟨b, rfl, h⟩
  all_goals
    go_enter Tryd.func34, Tryd.ntmps34
    go_wp2_with fail
    go_ret
    exact ⟨rfl, rfl⟩
theorem nkind (h : Nob w v) (p : Int) :
    Calls Tryd.prog 16 #[v, .int .i64 p] w fun e w' => e = .returned (.int .i64 (-1)) ∧ w = w' := by
  have H := Lib.hid h
  clear h
  go_enter Tryd.func16, Tryd.ntmps16
  go_wp2_with (go_at_call 34; refine (nis H.out).mono ?_; rintro e w' ⟨rfl, rfl⟩)
  go_ret
  exact ⟨rfl, rfl⟩
theorem nsmall (h : Nob w v) (p : Int) :
    Calls Tryd.prog 49 #[v, .int .i64 p] w fun e w' => e = .returned (.bool false) ∧ w = w' := by
  have H := Lib.hid h
  clear h
  go_enter Tryd.func49, Tryd.ntmps49
  go_wp2_with (first | (go_at_call 16; refine (nkind H.out _).mono ?_; rintro e w' ⟨rfl, rfl⟩) | (go_at_call 41; refine (size_any _ _).mono ?_; rw [show sizeI (-1) = 0 from rfl]; rintro e w' ⟨rfl, rfl⟩))
  go_ret
  exact ⟨rfl, rfl⟩
theorem nleft (h : Nob w v) (p : Int) :
    Calls Tryd.prog 27 #[v, .int .i64 p] w fun e w' => e = .returned (.int .i64 0) ∧ w = w' := by
  have H := Lib.hid h
  clear h
  go_enter Tryd.func27, Tryd.ntmps27
  go_wp2_with (go_at_call 49; refine (nsmall H.out _).mono ?_; rintro e w' ⟨rfl, rfl⟩)
  go_ret
  exact ⟨rfl, rfl⟩
theorem nfree (h : Nob w v) :
    Calls Tryd.prog 28 #[v] w fun e w' => e = .returned (.int .i64 0) ∧ w = w' := by
  have H := Lib.hid h
  clear h
  go_enter Tryd.func28, Tryd.ntmps28
  go_wp2_with (go_at_call 34; refine (nis H.out).mono ?_; rintro e w' ⟨rfl, rfl⟩)
  go_ret
  exact ⟨rfl, rfl⟩
theorem ncarve (h : Nob w v) (p : Int) :
    Calls Tryd.prog 9 #[v, .int .i64 p] w fun e w' => e = .returned (.tuple #[.int .i64 0, .bool false]) ∧ w = w' := by
  have H := Lib.hid h
  clear h
  go_enter Tryd.func9, Tryd.ntmps9
  go_wp2_with (go_at_call 34; refine (nis H.out).mono ?_; rintro e w' ⟨rfl, rfl⟩)
  go_ret2
  exact ⟨rfl, rfl⟩
theorem ntake (h : Nob w v) (p : Int) :
    Calls Tryd.prog 10 #[v, .int .i64 p] w fun e w' => e = .returned (.tuple #[.int .i64 0, .bool false]) ∧ w = w' := by
  have H := Lib.hid h
  clear h
  go_enter Tryd.func10, Tryd.ntmps10
  go_wp2_with (go_at_call 27; refine (nleft H.out _).mono ?_; rintro e w' ⟨rfl, rfl⟩)
  go_ret2
  exact ⟨rfl, rfl⟩
theorem nlarge (h : Nob w v) (p : Int) :
    Calls Tryd.prog 11 #[v, .int .i64 p] w fun e w' => e = .returned (.tuple #[.int .i64 0, .bool false]) ∧ w = w' := by
  have H := Lib.hid h
  clear h
  go_enter Tryd.func11, Tryd.ntmps11
  go_wp2_with (go_at_call 34; refine (nis H.out).mono ?_; rintro e w' ⟨rfl, rfl⟩)
  go_ret2
  exact ⟨rfl, rfl⟩
theorem nisa (h : Nob w v) (p : Int) :
    Calls Tryd.prog 23 #[v, .int .i64 p] w fun e w' => e = .returned (.bool false) ∧ w = w' := by
  have H := Lib.hid h
  clear h
  go_enter Tryd.func23, Tryd.ntmps23
  go_wp2_with (go_at_call 34; refine (nis H.out).mono ?_; rintro e w' ⟨rfl, rfl⟩)
  go_ret
  exact ⟨rfl, rfl⟩
theorem ngive (h : Nob w v) (p : Int) :
    Calls Tryd.prog 12 #[v, .int .i64 p] w fun e w' => e = .returned (.bool false) ∧ w = w' := by
  have H := Lib.hid h
  clear h
  go_enter Tryd.func12, Tryd.ntmps12
  go_wp2_with (go_at_call 23; refine (nisa H.out _).mono ?_; rintro e w' ⟨rfl, rfl⟩)
  go_ret
  exact ⟨rfl, rfl⟩
theorem ndrop (h : Nob w v) (p : Int) :
    Calls Tryd.prog 13 #[v, .int .i64 p] w fun e w' => e = .returned (.bool false) ∧ w = w' := by
  have H := Lib.hid h
  clear h
  go_enter Tryd.func13, Tryd.ntmps13
  go_wp2_with (go_at_call 49; refine (nsmall H.out _).mono ?_; rintro e w' ⟨rfl, rfl⟩)
  go_ret
  exact ⟨rfl, rfl⟩
theorem nbase (h : Nob w v) (p : Int) :
    Calls Tryd.prog 17 #[v, .int .i64 p] w fun e w' => e = .returned (.int .i64 (-1)) ∧ w = w' := by
  have H := Lib.hid h
  clear h
  go_enter Tryd.func17, Tryd.ntmps17
  go_wp2_with (go_at_call 34; refine (nis H.out).mono ?_; rintro e w' ⟨rfl, rfl⟩)
  go_ret
  exact ⟨rfl, rfl⟩
theorem nall (h : Nob w v) :
    Calls Tryd.prog 14 #[v] w fun e w' => e = .returned (.slice none 0 0) ∧ w = w' := by
  have H := Lib.hid h
  clear h
  go_enter Tryd.func14, Tryd.ntmps14
  go_wp2_with (go_at_call 34; refine (nis H.out).mono ?_; rintro e w' ⟨rfl, rfl⟩)
  go_ret
  exact ⟨rfl, rfl⟩
theorem nmem (h : Nob w v) :
    Calls Tryd.prog 25 #[v] w fun e w' => e = .returned (.pointer none) ∧ w = w' := by
  have H := Lib.hid h
  clear h
  go_enter Tryd.func25, Tryd.ntmps25
  go_wp2_with (go_at_call 34; refine (nis H.out).mono ?_; rintro e w' ⟨rfl, rfl⟩)
  go_ret
  exact ⟨rfl, rfl⟩
theorem nload (h : Nob w v) (p : Int) :
    Calls Tryd.prog 22 #[v, .int .i64 p] w fun e w' => e = .returned (.tuple #[.int .i64 0, .bool false]) ∧ w = w' := by
  have H := Lib.hid h
  clear h
  go_enter Tryd.func22, Tryd.ntmps22
  go_wp2_with (go_at_call 34; refine (nis H.out).mono ?_; rintro e w' ⟨rfl, rfl⟩)
  go_ret2
  exact ⟨rfl, rfl⟩
theorem nstore (h : Nob w v) (p x : Int) :
    Calls Tryd.prog 24 #[v, .int .i64 p, .int .i64 x] w fun e w' => e = .returned (.bool false) ∧ w = w' := by
  have H := Lib.hid h
  clear h
  go_enter Tryd.func24, Tryd.ntmps24
  go_wp2_with (go_at_call 17; refine (nbase H.out _).mono ?_; rintro e w' ⟨rfl, rfl⟩)
  go_ret
  exact ⟨rfl, rfl⟩
end
end Go.Proofs.YtfocdbflmodfhaaDoor

/- Cells: two of class 4; what nobody made. -/
namespace Go.Proofs.YtfocdbflmodfhaaDoor
open Go.RowKit

def D0 : Cs := Cs.new 2
def D1 : Cs := carveC D0 4
def D2 : Cs := takeC D1 0 4 0 2 (-2)
def D3 : Cs := takeC D2 0 4 1 1 (-3)
section
variable {w : World} {b : Bl}
theorem al_new (w : World) : Calls Tryd.prog 7 #[.int .i64 2] w fun e w' => NewC 2 w.heap.size e w' ∧ Below w.heap.size w w' := cnew_any 2 w
theorem al_carve (h : CX w b D0) : Calls Tryd.prog 9 #[.pointer (some ⟨b.c, 0, none⟩), .int .i64 4] w fun e w' => e = .returned (.tuple #[.int .i64 0, .bool true]) ∧ CX w' b D1 ∧ Frm b.fp w w' := by
  have h1 := ccarve_any h 4
  rw [show takeT D0.ks 4 = some 0 by kernel_rfl] at h1
  exact h1
theorem al_t1 (h : CX w b D1) : Calls Tryd.prog 10 #[.pointer (some ⟨b.c, 0, none⟩), .int .i64 0] w fun e w' => e = .returned (.tuple #[.int .i64 0, .bool true]) ∧ CX w' b D2 ∧ Frm b.fp w w' :=
  ctake_ok h 0 4 0 2 (-2) ⟨by decide, by kernel_rfl, by decide, by decide, by kernel_rfl, by decide, by decide, by decide, by decide, by kernel_rfl, by decide, by decide⟩
theorem al_t2 (h : CX w b D2) : Calls Tryd.prog 10 #[.pointer (some ⟨b.c, 0, none⟩), .int .i64 0] w fun e w' => e = .returned (.tuple #[.int .i64 16, .bool true]) ∧ CX w' b D3 ∧ Frm b.fp w w' :=
  ctake_ok h 0 4 1 1 (-3) ⟨by decide, by kernel_rfl, by decide, by decide, by kernel_rfl, by decide, by decide, by decide, by decide, by kernel_rfl, by decide, by decide⟩
theorem al_t3 (h : CX w b D3) : Calls Tryd.prog 10 #[.pointer (some ⟨b.c, 0, none⟩), .int .i64 0] w fun e w' => e = .returned (.tuple #[.int .i64 0, .bool false]) ∧ Below w.heap.size w w' := ctake_no h 0 (by kernel_rfl)
theorem al_is (h : CX w b D3) : Calls Tryd.prog 23 #[.pointer (some ⟨b.c, 0, none⟩), .int .i64 16] w fun e w' => e = .returned (.bool true) ∧ w = w' := by
  have h1 := cisa_any h 16
  rw [show hasB D3.xs.length D3.ws 16 = true by kernel_rfl] at h1
  exact h1
theorem al_base (h : CX w b D3) : Calls Tryd.prog 17 #[.pointer (some ⟨b.c, 0, none⟩), .int .i64 20] w fun e w' => e = .returned (.int .i64 16) ∧ Below w.heap.size w w' := by
  have h1 := cbase_any h 20
  rw [show baseC D3 20 = 16 by kernel_rfl] at h1
  exact h1
theorem al_free (h : CX w b D3) : Calls Tryd.prog 28 #[.pointer (some ⟨b.c, 0, none⟩)] w fun e w' => e = .returned (.int .i64 1) ∧ Below w.heap.size w w' := by
  have h1 := cfree_any h
  rw [show countL D3.ks = 1 by kernel_rfl] at h1
  exact h1
end
set_option maxHeartbeats 8000000 in
set_option maxRecDepth 100000 in
theorem alive_any (w : World) : Calls Tryd.prog 6 #[] w fun e w' => e = .returned (.bool true) ∧ Below w.heap.size w w' := by
  have hn : ((D3.xs.length : Nat) : Int) = 64 := by kernel_rfl
  have HN := Lib.hid hn
  clear hn
  go_enter Tryd.func6, Tryd.ntmps6
  go_wp2_with (go_at_call 7; refine (al_new _).mono ?_; rintro e w1 ⟨⟨b, rfl, hx, hf⟩, hb⟩; have H1 := Lib.hid hx; have FP := Lib.hid hf; have B1 := Lib.hid hb; clear hx hf hb)
  go_wp2_with (go_at_call 9; refine (al_carve H1.out).mono ?_; rintro e w2 ⟨rfl, hx, hf⟩; have H2 := Lib.hid hx; have B2 := Lib.hid (B1.out.trans (hf.below B1.out.size FP.out)); clear hx hf)
  go_wp2_with (go_at_call 10; with_reducible refine (al_t1 H2.out).mono ?_; rintro e w3 ⟨rfl, hx, hf⟩; have H3 := Lib.hid hx; have B3 := Lib.hid (B2.out.trans (hf.below B2.out.size FP.out)); clear hx hf)
  go_wp2_with (go_at_call 10; with_reducible refine (al_t2 H3.out).mono ?_; rintro e w4 ⟨rfl, hx, hf⟩; have H4 := Lib.hid hx; have B4 := Lib.hid (B3.out.trans (hf.below B3.out.size FP.out)); clear hx hf)
  go_wp2_with (go_at_call 10; with_reducible refine (al_t3 H4.out).mono ?_; rintro e w5 ⟨rfl, hb⟩; have H5 := Lib.hid (H4.out.below hb); have B5 := Lib.hid (B4.out.trans (hb.mono B4.out.size)); clear hb)
  go_wp2_with (go_at_call 23; refine (al_is H5.out).mono ?_; rintro e w' ⟨rfl, rfl⟩)
  go_wp2_with (go_at_call 17; refine (al_base H5.out).mono ?_; rintro e w6 ⟨rfl, hb⟩; have H6 := Lib.hid (H5.out.below hb); have B6 := Lib.hid (B5.out.trans (hb.mono B5.out.size)); clear hb)
  go_wp2_with (go_at_call 28; refine (al_free H6.out).mono ?_; rintro e w7 ⟨rfl, hb⟩; have H7 := Lib.hid (H6.out.below hb); have B7 := Lib.hid (B6.out.trans (hb.mono B6.out.size)); clear hb)
  go_wp2_with (go_at_call 25; refine (cmem_any H7.out).mono ?_; rintro e w8 ⟨⟨m, r, rfl, -, -, hm⟩, hb⟩; have M8 := Lib.hid hm; have B8 := Lib.hid (B7.out.trans (hb.mono B7.out.size)); clear hm hb)
  go_wp2_with (go_at_call 29; refine (len_any M8.out).mono ?_; rw [HN.out]; rintro e w' ⟨rfl, rfl⟩)
  go_ret
  exact ⟨rfl, B8.out⟩
end Go.Proofs.YtfocdbflmodfhaaDoor

/- The law: what is taken lies apart. The operations. -/
namespace Go.Proofs.YtfocdbflmodfhaaDoor
open Go.RowKit

theorem afew_any (A : Option Addr) (n cap : Nat) (hc : n ≤ cap) (w : World) :
    Calls Tryd.prog 8 #[.slice A n cap] w fun e w' => (∃ cap', e = .returned (.slice A (min n 40) cap')) ∧ w = w' := by
  by_cases h : 40 < n
  · have hd : decide ((40 : Int) < (n : Int)) = true := by rw [decide_eq_true_eq]; omega
    have i2 : (40 : Int) ≤ (cap : Int) := by omega
    rw [Nat.min_eq_right (by omega)]
    go_enter Tryd.func8, Tryd.ntmps8
    go_wp2_with fail
    go_ret
    exact ⟨⟨cap, rfl⟩, rfl⟩
  · have hd : decide ((40 : Int) < (n : Int)) = false := by rw [decide_eq_false_iff_not]; omega
    rw [Nat.min_eq_left (by omega)]
    go_enter Tryd.func8, Tryd.ntmps8
    go_wp2_with fail
    go_ret
    exact ⟨⟨cap, rfl⟩, rfl⟩
theorem cell_blk {w : World} {b i : Nat} {v : Value} (h : w.cell? ⟨b, i, none⟩ = some v) : b < w.heap.size := by
  apply Decidable.byContradiction; intro hc
  have h0 : w.heap[b]? = none := Array.getElem?_eq_none (by omega)
  unfold World.cell? at h
  rw [h0] at h
  cases h
theorem tab_lt {w : World} (h : Tab64 w) : 0 < w.heap.size := cell_blk (h 0 (by decide))
/-- What the second loop holds: the heap of cells, its invariant, the row of what is taken. -/
structure ApR (w wr : World) (b : Bl) (C : Cs) (F : Nat → List Int) (v : Value) : Prop where
  cx : CX wr b C
  inv : Inv C F
  row : IRow w.heap.size wr v (bitsI C.ws)
  below : Below w.heap.size w wr
theorem ApR.next {w wr w' : World} {b : Bl} {C : Cs} {F : Nat → List Int} {v : Value} (h : ApR w wr b C F v) (hb : Below wr.heap.size wr w') : ApR w w' b C F v :=
  ⟨h.cx.below hb, h.inv, h.row.below hb, below_next h.below hb⟩
theorem ApR.cell {w wr : World} {b : Bl} {C : Cs} {F : Nat → List Int} {p : Option Addr} {L q : Nat} (h : ApR w wr b C F (.slice p L q)) {k : Nat} (hk : k < L) : ∃ g, p = some ⟨g, 0, none⟩ ∧ L = (bitsI C.ws).length ∧ wr.cell? ⟨g, k, none⟩ = some (.int .i64 ((bitsI C.ws).getD k 0)) := by
  obtain ⟨p', c', he, -, -, hcell⟩ := h.row.slice
  simp only [Value.slice.injEq] at he
  obtain ⟨e1, e2, -⟩ := he
  obtain ⟨g, h1, -, h3⟩ := hcell k (Nat.lt_of_lt_of_eq hk e2)
  exact ⟨g, e1.trans h1, e2, h3⟩
def ApS (w wr : World) (b : Bl) (N : Nat) : Prop := Holds N b wr ∧ Below w.heap.size w wr ∧ ∀ x ∈ b.fp, w.heap.size ≤ x
theorem ApS.step {w wr w' : World} {b : Bl} {N : Nat} (h : ApS w wr b N) (h1 : Holds N b w') (hf : Frm b.fp wr w') : ApS w w' b N :=
  ⟨h1, h.2.1.trans (hf.below h.2.1.size h.2.2), h.2.2⟩
end Go.Proofs.YtfocdbflmodfhaaDoor
