/- A graph, its blocks under one name: what the laws call. -/
import Derived.Test.YtaefcmmjeloccaaGrQ
import Derived.Test.YtaefcmmjeloccaaGrI
import Derived.Test.YtaefcmmjeloccaaPlv
namespace Go.Proofs.Ytaefcmmjeloccaa
open Go.RowKit

abbrev GTy : TypeId := 60
abbrev TTy : TypeId := 72
/-- A graph whose blocks are these, none below B. -/
def GA (B : Nat) (w : World) (g : Nat) (c : Cfg) (G : Gr) (fp : List Nat) : Prop :=
  ∃ tb tcap nb ncap hv nv, Gx 60 72 w g c G tb tcap nb ncap hv nv ∧ fp = fpOf g tb nb hv nv ∧ ∀ k ∈ fp, B ≤ k
/-- Whatever is not among the blocks stays, and stays apart. -/
def Stays (fp fp' : List Nat) (w w' : World) : Prop := ∀ K o, w.heap[K]? = some o → K ∉ fp → w'.heap[K]? = some o ∧ K ∉ fp'
theorem Stays.refl (fp : List Nat) (w : World) : Stays fp fp w w := fun _ _ h h2 => ⟨h, h2⟩
theorem Stays.below {fp : List Nat} {w w' : World} (h : Below w.heap.size w w') : Stays fp fp w w' := fun _ _ h1 h2 => ⟨keep h h1, h2⟩
theorem Stays.trans {a b c : List Nat} {w w1 w2 : World} (h : Stays a b w w1) (h2 : Stays b c w1 w2) : Stays a c w w2 := fun K o h3 h4 => (h K o h3 h4).elim fun h5 h6 => h2 K o h5 h6
theorem GA.below {B : Nat} {w w' : World} {g : Nat} {c : Cfg} {G : Gr} {fp : List Nat} (h : GA B w g c G fp) (hb : Below w.heap.size w w') : GA B w' g c G fp := by
  obtain ⟨tb, tcap, nb, ncap, hv, nv, gx, e, hB⟩ := h
  exact ⟨tb, tcap, nb, ncap, hv, nv, gx.below hb, e, hB⟩
theorem GA.lt {B : Nat} {w : World} {g : Nat} {c : Cfg} {G : Gr} {fp : List Nat} (h : GA B w g c G fp) : ∀ k ∈ fp, k < w.heap.size := by
  obtain ⟨tb, tcap, nb, ncap, hv, nv, gx, rfl, hB⟩ := h
  exact gx.lt
theorem GA.base {B : Nat} {w : World} {g : Nat} {c : Cfg} {G : Gr} {fp : List Nat} (h : GA B w g c G fp) : ∀ k ∈ fp, B ≤ k := by
  obtain ⟨tb, tcap, nb, ncap, hv, nv, gx, rfl, hB⟩ := h
  exact hB
theorem GA.new {B : Nat} {w : World} {g : Nat} {c : Cfg} {G : Gr} {fp : List Nat} (h : GA B w g c G fp) {K : Nat} (hK : w.heap.size ≤ K) : K ∉ fp := fun hm => by have := h.lt K hm; omega
theorem GA.old {B : Nat} {w : World} {g : Nat} {c : Cfg} {G : Gr} {fp : List Nat} (h : GA B w g c G fp) {K : Nat} (hK : K < B) : K ∉ fp := fun hm => by have := h.base K hm; omega
/-- Another graph stays, and stays apart. -/
theorem GA.stay {B : Nat} {w w' : World} {g : Nat} {c : Cfg} {G : Gr} {fp fa fa' : List Nat} (h : GA B w g c G fp) (hs : Stays fa fa' w w') (hd : ∀ k ∈ fp, k ∉ fa) : GA B w' g c G fp ∧ ∀ k ∈ fp, k ∉ fa' := by
  have hlt := h.lt
  obtain ⟨tb, tcap, nb, ncap, hv, nv, gx, rfl, hB⟩ := h
  have h1 : ∀ k ∈ fpOf g tb nb hv nv, w'.heap[k]? = w.heap[k]? ∧ k ∉ fa' := fun k hk => by
    have h2 := hs k (w.heap[k]'(hlt k hk)) (Array.getElem?_eq_getElem (hlt k hk)) (hd k hk)
    exact ⟨h2.1.trans (Array.getElem?_eq_getElem (hlt k hk)).symm, h2.2⟩
  exact ⟨⟨tb, tcap, nb, ncap, hv, nv, gx.keep fun k hk => (h1 k hk).1, rfl, hB⟩, fun k hk => (h1 k hk).2⟩
theorem gnew_ga (c : Cfg) (hc : c.wrong = 0) (w : World) :
    Calls Try.prog 7 #[.agg c.cells] w fun e w' => ∃ g fp, e = .returned (.tuple #[.pointer (some ⟨g, 0, none⟩), .int .i64 0]) ∧ Below w.heap.size w w' ∧ GA w.heap.size w' g c (Gr.fresh c) fp :=
  (gnew_any c hc w).mono fun _ _ ⟨g, he, hb, tb, tcap, nb, ncap, hv, nv, gx, hB⟩ => ⟨g, _, he, hb, tb, tcap, nb, ncap, hv, nv, gx, rfl, hB⟩
theorem gdo_ga {B : Nat} {w : World} {g : Nat} {c : Cfg} {G : Gr} {fp : List Nat} (h : GA B w g c G fp) (hg : G.Good) (x : Stp) (no : Int) :
    Calls Try.prog 11 #[.pointer (some ⟨g, 0, none⟩), .agg x.cells, .int .i64 no] w fun e w' => e = .returned (.agg (G.out c.q x no).1.cells) ∧ w.heap.size ≤ w'.heap.size ∧ ∃ fp', GA B w' g c (G.out c.q x no).2 fp' ∧ Stays fp fp' w w' ∧ Below B w w' := by
  have hlt := h.lt
  have hbs := h.base
  obtain ⟨tb, tcap, nb, ncap, hv, nv, gx, rfl, hB⟩ := h
  refine (gdo_any gx hg x no).mono fun e w' ⟨he, tb', tcap', nb', ncap', hv', nv', gx', fr, fs⟩ => ⟨he, fr.size, _, ⟨tb', tcap', nb', ncap', hv', nv', gx', rfl, fun k hk => ?_⟩, fun K o hK hn => ⟨(fr.block K (heap_lt hK) hn).trans hK, fun hm => ?_⟩, fr.below ?_ hB⟩
  · rcases fs k hk with h1 | h1
    · exact hB k h1
    · have := hB g (by simp [fpOf])
      have := hlt g (by simp [fpOf])
      omega
  · rcases fs K hm with h1 | h1
    · exact hn h1
    · have := heap_lt hK; omega
  · have h1 := hB g (by simp [fpOf])
    have h2 := hlt g (by simp [fpOf])
    omega
theorem gview_ga {B : Nat} {w : World} {g : Nat} {c : Cfg} {G : Gr} {fp : List Nat} (h : GA B w g c G fp) (hg : G.Good) :
    Calls Try.prog 15 #[.pointer (some ⟨g, 0, none⟩)] w fun e w' => ∃ p1 n1 c1 p2 n2 c2, e = .returned (.agg #[.slice p1 n1 c1, .slice p2 n2 c2]) ∧ n1 = G.vRoots.length ∧ n2 = G.vNodes.length ∧ Vw w' w.heap.size (.slice p1 n1 c1) (.slice p2 n2 c2) G.vRoots G.vNodes ∧ Below w.heap.size w w' := by
  obtain ⟨tb, tcap, nb, ncap, hv, nv, gx, rfl, hB⟩ := h
  refine (gview_any gx hg).mono fun e w' ⟨rv, nv', he, hv, hb⟩ => ?_
  obtain ⟨xs, h1, -⟩ := hv.roots
  obtain ⟨ys, h2, -⟩ := hv.nodes
  obtain ⟨p1, c1, rfl, -, -⟩ := own_slice h1
  obtain ⟨p2, c2, rfl, -, -⟩ := own_slice h2
  exact ⟨p1, _, c1, p2, _, c2, he, rfl, rfl, hv, hb⟩
theorem gmade_ga {B : Nat} {w : World} {g : Nat} {c : Cfg} {G : Gr} {fp : List Nat} (h : GA B w g c G fp) (hg : G.Good) :
    Calls Try.prog 17 #[.pointer (some ⟨g, 0, none⟩)] w fun e w' => e = .returned (.int .i64 G.nod.length) ∧ w = w' := by
  obtain ⟨tb, tcap, nb, ncap, hv, nv, gx, rfl, hB⟩ := h
  exact gmade_any gx hg
theorem glive_ga {B : Nat} {w : World} {g : Nat} {c : Cfg} {G : Gr} {fp : List Nat} (h : GA B w g c G fp) (hg : G.Good) :
    Calls Try.prog 19 #[.pointer (some ⟨g, 0, none⟩)] w fun e w' => ∃ s, e = .returned s ∧ w'.ownsRow w.heap.size 3 1 s (G.liveTo G.thr.length).length ((G.liveTo G.thr.length).map (Value.int .i64)) ∧ Below w.heap.size w w' := by
  obtain ⟨tb, tcap, nb, ncap, hv, nv, gx, rfl, hB⟩ := h
  exact glive_any gx hg
theorem vnodes_len (G : Gr) : G.vNodes.length ≤ G.nod.length := seen_len G G.met G.nod.length
theorem Gr.Good.vr {G : Gr} (hg : G.Good) : G.vRoots.length ≤ 1000000 ∧ G.vNodes.length ≤ 1000000 ∧ (∀ j, (G.vRoots.getD j []).length ≤ 1000) ∧ ∀ j, ((G.vNodes.map fun n => n.2).getD j []).length ≤ 1000 := by
  have h1 := hg.few
  have h2 := hg.most
  have h3 := vnodes_len G
  refine ⟨by simp [Gr.vRoots]; omega, by omega, fun j => ?_, fun j => ?_⟩
  · rw [List.getD_eq_getElem?_getD]
    cases hx : G.vRoots[j]? with
    | none => exact Nat.zero_le _
    | some l =>
      obtain ⟨x, hx1, rfl⟩ := List.mem_map.1 (List.mem_of_getElem? hx)
      have := hg.roots x hx1
      show x.held.length ≤ 1000
      omega
  · rw [List.getD_eq_getElem?_getD]
    cases hx : (G.vNodes.map fun n => n.2)[j]? with
    | none => exact Nat.zero_le _
    | some l =>
      obtain ⟨x, hx1, rfl⟩ := List.mem_map.1 (List.mem_of_getElem? hx)
      unfold Gr.vNodes Gr.seen at hx1
      obtain ⟨i, hi, rfl⟩ := List.mem_map.1 hx1
      have := (hg.nd (i : Int)).1
      show (G.nod.getD i []).length ≤ 1000
      have e : G.node (i : Int) = G.nod.getD i [] := rfl
      rw [e] at this
      omega
/-- Two views of one content. -/
theorem pview_ga {w : World} {B1 B2 : Nat} {rv nv rv2 nv2 : Value} {G : Gr} (hg : G.Good) (h1 : Vw w B1 rv nv G.vRoots G.vNodes) (h2 : Vw w B2 rv2 nv2 G.vRoots G.vNodes) :
    Calls Try.prog 14 #[.agg #[rv, nv], .agg #[rv2, nv2]] w fun e w' => e = .returned (.bool true) ∧ Below w.heap.size w w' :=
  pview_same h1 h2 hg.vr.1 hg.vr.2.1 hg.vr.2.2.1 hg.vr.2.2.2
set_option maxHeartbeats 2000000 in
theorem pints_same (n : Nat) (hn : n ≤ 1000000) (s1 s2 : Value) (xs : List Int) (w : World) (b1 b2 : Nat) (h1 : w.ownsRow b1 3 1 s1 n (xs.map (Value.int .i64))) (h2 : w.ownsRow b2 3 1 s2 n (xs.map (Value.int .i64))) :
    Calls Try.prog 21 #[s1, s2] w fun e w' => e = .returned (.bool true) ∧ ∃ m, w' = w.drewN m := by
  have k1 : Own w 3 1 n s1 (xs.map (Value.int .i64)) := own_mono h1 (Nat.zero_le _)
  have k2 : Own w 3 1 n s2 (xs.map (Value.int .i64)) := own_mono h2 (Nat.zero_le _)
  clear h1 h2
  have H1 := Lib.hid k1
  have H2 := Lib.hid k2
  have hl : xs.length = n := by have := k1.1; simpa using this
  obtain ⟨p1, c1, rfl, -, hb1⟩ := own_slice k1
  obtain ⟨p2, c2, rfl, -, hb2⟩ := own_slice k2
  have HL := Lib.hid hl
  clear k1 k2 hl
  go_enter Try.func21, Try.ntmps21
  go_wp2_with fail
  go_loopw [5] (fun i wr => ∃ k m : Nat, k ≤ n ∧ i = .int .i64 k ∧ wr = w.drewN m) (fun i _ => n - (intOf i).toNat)
  case atStart => exact ⟨0, 0, by omega, rfl, rfl⟩
  case round =>
    obtain ⟨k, m, hk, rfl, rfl⟩ := hrel
    by_cases hlt : k < n
    · obtain ⟨d1, rfl⟩ := hb1 (by omega)
      obtain ⟨d2, rfl⟩ := hb2 (by omega)
      have g1 : w.cell? ⟨d1, k, none⟩ = some (.int .i64 (xs.getD k 0)) := by
        rw [H1.out.cellAt k (by omega), List.getElem?_map, List.getElem?_eq_getElem (by rw [HL.out]; exact hlt), List.getD_eq_getElem?_getD, List.getElem?_eq_getElem (by rw [HL.out]; exact hlt)]; rfl
      have g2 : w.cell? ⟨d2, k, none⟩ = some (.int .i64 (xs.getD k 0)) := by
        rw [H2.out.cellAt k (by omega), List.getElem?_map, List.getElem?_eq_getElem (by rw [HL.out]; exact hlt), List.getD_eq_getElem?_getD, List.getElem?_eq_getElem (by rw [HL.out]; exact hlt)]; rfl
      generalize xs.getD k 0 = v at *
      have i1 : (0 : Int) ≤ (k : Int) := by omega
      have i2 : (k : Int) < (n : Int) := by omega
      go_wp2_with fail
      go_quiet (fail)
      go_wp2_with fail
      go_roundw
      case rel => exact ⟨k + 1, _, by omega, by go_num, rfl⟩
      case measure => simp [intOf]; omega
    · obtain rfl : k = n := by omega
      go_wp2_with fail
      go_ret
      exact ⟨rfl, _, rfl⟩
end Go.Proofs.Ytaefcmmjeloccaa
