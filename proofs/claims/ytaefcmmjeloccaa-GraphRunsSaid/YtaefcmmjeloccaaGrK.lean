/- A row of values, cloned. -/
import Derived.Test.YtaefcmmjeloccaaGrJ
import Derived.Test.YtaefcmmjeloccaaGr7
import Derived.Laws.Cover3
namespace Go.Proofs.Ytaefcmmjeloccaa
open Go.RowKit

theorem own_range {w : World} {e : TypeId} {size n b cap : Nat} {xs : List Value} (h : Own w e size n (.slice (some ⟨b, 0, none⟩) n cap) xs) : ∀ j u, xs[j]? = some u → w.cell? ((⟨b, 0, none⟩ : Addr).add j) = some u := by
  intro j u hj
  have hadd : (⟨b, 0, none⟩ : Addr).add j = ⟨b, j, none⟩ := by unfold Addr.add; split <;> simp_all
  rw [hadd, h.cellAt j (by
    have := (List.getElem?_eq_some_iff.1 hj).1
    have hl := h.1
    omega)]
  exact hj
theorem eql_slice_nil {P : Program} (t e : TypeId) (a : Option Addr) (l c : Nat) (h : P.underlying t = some (.slice e)) (w : World) : (binOp .eql t (.slice a l c) (.slice none 0 0)).run P w = .ok (.bool a.isNone) w := by
  simp only [binOp]
  simp [run_equal_slice_nil w t e a l c h]
theorem vls_one (vs : List Vl) : ∀ u ∈ vls vs, u.oneCell' = true := by
  intro u hu
  obtain ⟨v, _, hv⟩ := List.mem_flatMap.1 hu
  simp only [vlc, List.mem_cons, List.not_mem_nil, or_false] at hv
  rcases hv with rfl | rfl <;> rfl
set_option maxHeartbeats 2000000 in
set_option maxRecDepth 100000 in
theorem clone_any (s : Value) (n : Nat) (vs : List Vl) (w : World) (hown : Own w 57 2 n s (vls vs)) (hn : n ≤ 1000) :
    Calls Try.prog 38 #[s] w fun e w' => ∃ s', e = .returned s' ∧ w'.ownsRow w.heap.size 57 2 s' n (vls vs) ∧ Below w.heap.size w w' := by
  obtain ⟨i0, hi, hz0, hz1, hz2⟩ := info_parts info_val
  have hi := Lib.hid hi
  have hz0 := Lib.hid hz0
  have hz1 := Lib.hid hz1
  have hz2 := Lib.hid hz2
  have HO := Lib.hid hown
  have q := fun a l c => eql_slice_nil 53 57 a l c Try.underlying53
  rcases hown.2 with ⟨rfl, rfl⟩ | ⟨g, cap, cur, rfl, -⟩
  · have hv : vs = [] := by
      have := hown.1
      rw [vls_len] at this
      exact List.eq_nil_of_length_eq_zero (by omega)
    subst hv
    clear hown
    go_enter Try.func38, Try.ntmps38
    go_wp2_with fail
    go_ret
    exact ⟨_, rfl, ⟨rfl, .inl ⟨rfl, rfl⟩⟩, Below.refl _ _⟩
  · clear hown
    have B1 := Lib.hid (below_alloc0 w (.cells #[] 57))
    have HN := Lib.hid hn
    clear hn
    go_enter Try.func38, Try.ntmps38
    go_wp2_with (at_builtin; refine wpList_append_own _ rfl _ _ 53 rfl w.heap.size 57 i0 (.agg #[.int .i64 0, .int .i64 0]) 2 16 Try.underlying53 hi.out hz0.out hz1.out hz2.out rfl (by decide) _ 0 [] rfl (own_new [] w.heap.size 0 rfl (Nat.le_refl _) rfl (Nat.zero_le _)) ⟨g, 0, none⟩ n cap (vls vs) rfl (HO.out.1) (own_range (pw_own_keep HO.out B1.out)) (vls_one vs) (by have := HN.out; unfold maxLen; omega) (by have := HN.out; omega) (by simp) ?_; intro v' w1 hown' hgrow _)
    go_ret
    refine ⟨_, rfl, ?_, ?_⟩
    · rw [Nat.zero_add, List.nil_append] at hown'; exact hown'
    · exact B1.out.grown hgrow B1.out.size (fun j hj => by cases hj; exact Nat.le_refl _)
end Go.Proofs.Ytaefcmmjeloccaa
