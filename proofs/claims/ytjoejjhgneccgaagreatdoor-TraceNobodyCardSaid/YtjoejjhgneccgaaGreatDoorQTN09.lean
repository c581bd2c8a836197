/- Whose pages are: whose a page is. -/
import Derived.Test.YtjoejjhgneccgaaGreatDoorQTN03
import Derived.Test.YtjoejjhgneccgaaGreatDoorQTN08
import Derived.Test.YtjoejjhgneccgaaGreatDoorProg
import Derived.Shelf.Small.Bits
import Derived.Shelf.Small.Wraps
import Derived.Shelf.Strconv.Itoa0
import Derived.Shelf.Sort.Plain
import Derived.Shelf.Slices.Turned
import Derived.Ground.Names2Prog
import Derived.Shelf.Slices.Clone
import Derived.Shelf.Slices.SearchI
import Derived.Shelf.Slices.In.SortNone
import Derived.Sort.OwnSortedInts
namespace Go.Proofs.YtjoejjhgneccgaaGreatDoor
open Go.RowKit Go.Maps Go.WideElems

theorem rep_some {D : DataW Unit} {M : OwnM} (h : Rep D M) {t k q : Int} (ht : wfI t) (hk : wfI k) (ha : ∀ zd, D.atKey (sk t k) zd = .lit (.int .i64 q)) : M t k = some q := by
  cases hm : M t k with
  | some p =>
    have := (h.at_ t k p ht hk hm).symm.trans (ha _)
    rw [show p = q by simpa using this]
  | none =>
    have h1 := h.has t k ht hk
    rw [hm] at h1
    have h2 := ha (.lit (.bool true))
    have h3 : D.atKey (sk t k) (.lit (.bool true)) = .lit (.bool true) := by
      have := atKey_del_same (D := D) (k := sk t k) (.lit (.bool true))
      rwa [del_of_not_has h1] at this
    rw [h3] at h2
    cases h2
/-- Whose a page is. -/
def OwnerE (M : OwnM) (p : Int) (e : Ending) : Prop := ∃ t k : Int, e = .returned (.tuple #[.int .i64 t, .int .i64 k]) ∧ ((M t k = some p ∧ wfI t ∧ wfI k) ∨ (t = -1 ∧ k = 0 ∧ ∀ t' k', wfI t' → wfI k' → M t' k' ≠ some p))
section
variable {w w' : World} {c b : Nat} {th : Int} {M : OwnM}
set_option maxHeartbeats 4000000 in
set_option maxRecDepth 100000 in
theorem caowner_any (h : CaX w c b th M) (p : Int) :
    Calls Tryz.prog 107 #[.pointer (some ⟨c, 0, none⟩), .int .i64 p] w fun e w' => OwnerE M p e ∧ Below w.heap.size w w' := by
  obtain ⟨-, c1⟩ := h.cells
  obtain ⟨⟨D, ho, hr⟩, -⟩ := h.mp
  have HO := Lib.hid ho
  have HR := Lib.hid hr
  clear h ho hr
  go_enter Tryz.func107, Tryz.ntmps107
  go_wp2_with (at_range; refine wpList_range_own _ rfl _ 160 rfl 164 3 lawSeat Tryz.underlying160 (plainElem Tryz.prog 3) b 36 D (by rfl) HO.out ?_; intro w0 hrg hg hs)
  go_frame
  have B0 : Below w.heap.size w w0 := (Below.refl _ _).grown hg (Nat.le_refl _) (fun k hk => by cases hk)
  have S0 : Hid (∀ t k, wfI t → wfI k → M t k = some p → Maps.has D (sk t k) = true) := Lib.hid fun t k h1 h2 h3 => by rw [HR.out.has t k h1 h2, h3]; rfl
  have R0 := Lib.hid hrg
  replace B0 := Lib.hid B0
  clear hrg hg hs
  go_loopw [6, 7] (fun _ _ wr => ∃ left cnt, Hid (wr.ranges Tryz.prog 164 (plainElem Tryz.prog 3) b w.heap.size 36 D left cnt) ∧ Hid (Below w.heap.size w wr) ∧ Hid (∀ t k, wfI t → wfI k → M t k = some p → left (sk t k) = true)) (fun _ _ wr => wr.rangeLeft b w.heap.size)
  case atStart => exact ⟨_, _, R0, B0, S0⟩
  case round =>
    clear R0 B0 S0
    obtain ⟨left, cnt, HG, HB, HS⟩ := hrel
    go_wp2_with (at_next; refine wpList_next_ranges _ rfl _ rfl 164 lawSeat (plainElem Tryz.prog 3) (fun x : Int × Int => .agg #[.int .i64 x.1, .int .i64 x.2]) (Value.int .i64) (fun key kl hk => (keyOf_seat_inv hk).imp fun _ h => h.1) (fun v y hv => by obtain ⟨q, rfl, -⟩ := plainElem_int_inv Tryz.underlying3 hv; exact ⟨q, rfl⟩) b w.heap.size 36 D left cnt (by rfl) HG.out ?_ ?_)
    · intro _ hl
      have HE := Lib.hid (show ∀ t' k', wfI t' → wfI k' → M t' k' ≠ some p from fun t' k' h1 h2 h3 => by
        have := HS.out t' k' h1 h2 h3
        rw [hl] at this
        cases this)
      clear hl
      go_wp2_with fail
      go_ret2
      exact ⟨⟨-1, 0, rfl, .inr ⟨rfl, rfl, HE.out⟩⟩, HB.out⟩
    · intro t k q kl ya yb w1 cnt1 hkey hlk hv hat hrg1 hlt1 hg1 hs1 hen
      obtain ⟨⟨t', k'⟩, e', wt, wk⟩ := keyOf_seat_inv hkey
      obtain ⟨rfl, rfl⟩ : t = t' ∧ k = k' := by simpa using e'
      simp only at wt wk
      obtain rfl : sk t k = kl := Option.some.inj ((keyOf_seat wt wk).symm.trans hkey)
      obtain ⟨q', eq', ey, -⟩ := plainElem_int_inv Tryz.underlying3 hv
      obtain rfl : q = q' := by simpa using eq'
      have hya : ya = .lit (.int .i64 q) := congrArg Prod.fst ey
      have HM := Lib.hid (rep_some HR.out (wf_wfI wt) (wf_wfI wk) (fun zd => (hat zd).trans hya))
      have B1 := HB.out.grown hg1 HB.out.size (fun j hj => by cases hj; exact Nat.le_refl _)
      replace B1 := Lib.hid B1
      have HWT := Lib.hid (wf_wfI wt)
      have HWK := Lib.hid (wf_wfI wk)
      have LT := Lib.hid hlt1
      have RG := Lib.hid hrg1
      have HS1 := Lib.hid (show q ≠ p → ∀ t' k', wfI t' → wfI k' → M t' k' = some p → (left (sk t' k') && !(sk t' k').sameKey (sk t k)) = true from fun hne t' k' h1 h2 h3 => by
        rw [HS.out t' k' h1 h2 h3, sameKey_ne fun c => ?_]
        · rfl
        · obtain ⟨rfl, rfl⟩ := sk_inj h1.wf h2.wf wt wk c
          rw [HM.out] at h3
          exact hne (Option.some.inj h3))
      clear e' eq' ey hya hkey hv hat hrg1 hlt1 hg1 hs1 wt wk hlk HS
      by_cases hq : q = p
      · subst hq
        go_wp2_with fail
        go_quiet (fail)
        go_wp2_with fail
        go_ret2
        exact ⟨⟨t, k, rfl, .inl ⟨HM.out, HWT.out, HWK.out⟩⟩, below_drewN (B1.out.alloc B1.out.size _) _⟩
      · have hq' : (q == p) = false := by simpa using hq
        have HN := Lib.hid (HS1.out hq)
        clear hq
        go_wp2_with fail
        go_roundw
        case rel => exact ⟨_, _, Lib.hid (RG.out.alloc _), Lib.hid (B1.out.alloc B1.out.size _), HN⟩
        case measure =>
          rw [(RG.out.alloc _).left_eq, HG.out.left_eq]
          exact LT.out
end
end Go.Proofs.YtjoejjhgneccgaaGreatDoor

/- Whose pages are: a page is a thread's. -/
namespace Go.Proofs.YtjoejjhgneccgaaGreatDoor
open Go.RowKit Go.Maps Go.WideElems

theorem CaX.ne {w : World} {c b : Nat} {th : Int} {M : OwnM} (h : CaX w c b th M) : c ≠ b := by
  rintro rfl
  obtain ⟨⟨D, ⟨es, clock, hb, r⟩, h2⟩, hd⟩ := h.mp
  rw [h.hd] at hb
  cases hb
section
variable {w w' : World} {c b : Nat} {th : Int} {M : OwnM}
theorem CaX.turn {M' : OwnM} (h : CaX w c b th M) (hg : w.grownBy w' (some b)) (hm : MpX w' b M') : CaX w' c b th M' :=
  ⟨(hg.block c (heap_lt h.hd) (by rw [Ne, Option.some.injEq]; exact h.ne)).trans h.hd, hm, h.t0⟩
theorem frm_grown {r : Nat} (hg : w.grownBy w' (some r)) : Frm [r] w w' := Frm.of_grown hg fun k hk => by cases hk; exact .inl (by simp)
/-- A page that is nobody's becomes a thread's. -/
structure SetP (M : OwnM) (th t k p : Int) : Prop where
  t0 : 0 ≤ t
  t1 : t < th
  k0 : 1 ≤ k
  k1 : k ≤ 4
  p0 : 0 ≤ p
  p1 : p < 64
  no : ∀ t' k', wfI t' → wfI k' → M t' k' ≠ some p
set_option maxHeartbeats 4000000 in
set_option maxRecDepth 100000 in
theorem caset_any (h : CaX w c b th M) (t k p : Int) (s : SetP M th t k p) :
    Calls Tryz.prog 93 #[.pointer (some ⟨c, 0, none⟩), .int .i64 t, .int .i64 k, .int .i64 p] w fun e w' => e = .returned (.bool true) ∧ CaX w' c b th (updM M t k (some p)) ∧ Frm [b] w w' := by
  obtain ⟨c0, c1⟩ := h.cells
  have H := Lib.hid h
  have S := Lib.hid s
  have wt : wfI t := by have := s.t0; have := s.t1; have := h.t0; exact ⟨by omega, by omega⟩
  have wk : wfI k := by have := s.k0; have := s.k1; exact ⟨by omega, by omega⟩
  have wp : wfI p := by have := s.p0; have := s.p1; exact ⟨by omega, by omega⟩
  have WT := Lib.hid wt
  have WK := Lib.hid wk
  have WP := Lib.hid wp
  have qT := fun W => run_eql_map_nil (P := Tryz.prog) W 160 164 3 (some b) Tryz.underlying160
  have t0 : decide (t < 0) = false := by have := s.t0; rw [decide_eq_false_iff_not]; omega
  have t1 : decide (th ≤ t) = false := by have := s.t1; rw [decide_eq_false_iff_not]; omega
  have hs := sizeI_pos ⟨s.k0, s.k1⟩
  have k0 : (sizeI k == 0) = false := by simp; omega
  have p0 : decide (p < 0) = false := by have := s.p0; rw [decide_eq_false_iff_not]; omega
  have p1 : decide (64 ≤ p) = false := by have := s.p1; rw [decide_eq_false_iff_not]; omega
  clear h s wt wk wp hs
  go_enter Tryz.func93, Tryz.ntmps93
  go_wp2_with (first
    | (go_at_call 138; refine (size_any k _).mono ?_; rintro e w1 ⟨rfl, rfl⟩)
    | (go_at_call 107; refine (caowner_any H.out p).mono ?_; rintro e w2 ⟨⟨t', k', rfl, hor⟩, hb⟩; rcases hor with ⟨h1, h2, h3⟩ | ⟨rfl, rfl, -⟩; exact absurd h1 (S.out.no t' k' h2 h3); have B2 := Lib.hid hb; have hx := H.out.below hb; have H2 := Lib.hid hx; have d1 := hx.cells.2; clear hb hx)
    | (at_mapUpdate; obtain ⟨⟨D, ho, hr⟩, hd⟩ := H2.out.mp; refine wpList_mapUpdate_own _ rfl _ _ _ 160 rfl 164 3 lawSeat Tryz.underlying160 (plainElem Tryz.prog 3) b 36 D (by rfl) ho (by decide) _ _ (sk t k) (by rfl) (by rfl) (keyOf_seat WT.out.wf WK.out.wf) _ [] (plainElem_int Tryz.underlying3 WP.out.wf) ?_; intro w3 ho3 hg3; have hr3 := hr.put (p := p) WT.out WK.out; have hd3 : Dom (updM M t k (some p)) := (fun t' k' p' he => by
        by_cases e : t' = t ∧ k' = k
        · obtain ⟨rfl, rfl⟩ := e
          rw [updM_same] at he
          cases he
          have := S.out.t0; have := S.out.t1; have := S.out.k0; have := S.out.k1; have := S.out.p0; have := S.out.p1; have := H.out.t0
          omega
        · rw [updM_other _ e] at he
          exact hd t' k' p' he); have X3 := Lib.hid (H2.out.turn hg3 ⟨⟨_, own_few ho3 hr3 hd3, hr3⟩, hd3⟩); have F3 := Lib.hid ((Frm.of_below [b] B2.out).trans (frm_grown hg3) (fun x hx => .inl hx)); clear ho hr hd ho3 hg3 hr3 hd3))
  go_ret
  exact ⟨rfl, X3.out, F3.out⟩
end
end Go.Proofs.YtjoejjhgneccgaaGreatDoor

/-
  DERIVED: THE SHELF's CONTRACTS AT THIS DUMP, IN PLAIN WORDS (tools/lay-plain.mjs out of 'TryzShelf.lean', which tools/lay-shelf.mjs wrote): THE SAME DECLARATIONS UNDER THE SAME NAMES: 'import', 'namespace', 'open', 'def', 'theorem' AND NOTHING ELSE: no command of the shelf's: FOR A HAND-IN. Each laying: the table of numbers ('.._ren') and one theorem, a field a fact of the dump's own or the kernel's comparison; each contract: ONE APPLICATION.
-/
namespace Go.Proofs
open Go.Shelf
def Tryz.lays128_ren : Go.Shelf.Ren := ⟨fun | 128 => 216 | n => n, fun | 51 => 215 | 3 => 3 | 4 => 4 | 46 => 168 | 5 => 5 | 9 => 9 | n => n, fun | n => n⟩
theorem Tryz.lays128 : Go.Proofs.Lays.n128 Tryz.prog Tryz.lays128_ren := {
  mixed := by kernel_rfl
  f128 := Tryz.func216.trans (congrArg some (by kernel_rfl))
  t3 := Tryz.underlying3
  a3 := Tryz.isAgg3
  z3 := Tryz.sizeOf3
  v3 := Tryz.zeroValue3
  t4 := Tryz.underlying4
  a4 := Tryz.isAgg4
  z4 := Tryz.sizeOf4
  v4 := Tryz.zeroValue4
  t5 := Tryz.underlying5
  a5 := Tryz.isAgg5
  z5 := Tryz.sizeOf5
  v5 := Tryz.zeroValue5
  t9 := Tryz.underlying9
  a9 := Tryz.isAgg9
  z9 := Tryz.sizeOf9
  v9 := Tryz.zeroValue9
  t46 := Tryz.underlying168
  a46 := Tryz.isAgg168
  z46 := Tryz.sizeOf168
  v46 := Tryz.zeroValue168
  t51 := Tryz.underlying215
  a51 := Tryz.isAgg215
  z51 := Tryz.sizeOf215
  v51 := Tryz.zeroValue215 }
/-- bits.Len32: "Len32 returns the minimum number of bits required to represent x; the result is 0 for x == 0.": IT RETURNS 'Lib.bitLen x'; the world is as it was. ('h0', 'h1': x is a uint32.) (LAID: no walk: one application.) -/
theorem Tryz.bits_Len32 (x : Int) (w : World) (h0 : 0 ≤ x) (h1 : x ≤ 4294967295) :
    Calls Tryz.prog 216 #[.int .u32 x] w fun e w' => e = .returned (.int .i64 (Lib.bitLen x.toNat)) ∧ w' = w := Any.bits_Len32 Tryz.lays128 x w h0 h1
def Tryz.lays125_ren : Go.Shelf.Ren := ⟨fun | 125 => 196 | 128 => 216 | 129 => 217 | n => n, fun | 46 => 168 | 3 => 3 | 51 => 215 | 53 => 175 | 4 => 4 | 5 => 5 | 9 => 9 | n => n, fun | n => n⟩
theorem Tryz.lays125 : Go.Proofs.Lays.n125 Tryz.prog Tryz.lays125_ren := {
  mixed := by kernel_rfl
  f125 := Tryz.func196.trans (congrArg some (by kernel_rfl))
  f128 := Tryz.func216.trans (congrArg some (by kernel_rfl))
  f129 := Tryz.func217.trans (congrArg some (by kernel_rfl))
  t3 := Tryz.underlying3
  a3 := Tryz.isAgg3
  z3 := Tryz.sizeOf3
  v3 := Tryz.zeroValue3
  t4 := Tryz.underlying4
  a4 := Tryz.isAgg4
  z4 := Tryz.sizeOf4
  v4 := Tryz.zeroValue4
  t5 := Tryz.underlying5
  a5 := Tryz.isAgg5
  z5 := Tryz.sizeOf5
  v5 := Tryz.zeroValue5
  t9 := Tryz.underlying9
  a9 := Tryz.isAgg9
  z9 := Tryz.sizeOf9
  v9 := Tryz.zeroValue9
  t46 := Tryz.underlying168
  a46 := Tryz.isAgg168
  z46 := Tryz.sizeOf168
  v46 := Tryz.zeroValue168
  t51 := Tryz.underlying215
  a51 := Tryz.isAgg215
  z51 := Tryz.sizeOf215
  v51 := Tryz.zeroValue215
  t53 := Tryz.underlying175
  a53 := Tryz.isAgg175
  z53 := Tryz.sizeOf175
  v53 := Tryz.zeroValue175 }
/-- bits.Len: "Len returns the minimum number of bits required to represent x; the result is 0 for x == 0.": IT RETURNS 'Lib.bitLen x'; the world is as it was. (A uint has 64 bits in the model.) ITS CALLEE bits.Len64 IS MET BY ITS OWN CONTRACT OFF THE SHELF (lay that first). (LAID: no walk: one application.) -/
theorem Tryz.bits_Len (x : Int) (w : World) (h0 : 0 ≤ x) (h1 : x ≤ 18446744073709551615) :
    Calls Tryz.prog 196 #[.int .u64 x] w fun e w' => e = .returned (.int .i64 (Lib.bitLen x.toNat)) ∧ w' = w := Any.bits_Len Tryz.lays125 x w h0 h1
def Tryz.lays215_ren : Go.Shelf.Ren := ⟨fun | 215 => 224 | n => n, fun | 3 => 3 | 4 => 4 | n => n, fun | n => n⟩
theorem Tryz.lays215 : Go.Proofs.Lays.n215 Tryz.prog Tryz.lays215_ren := {
  mixed := by kernel_rfl
  f215 := Tryz.func224.trans (congrArg some (by kernel_rfl))
  t3 := Tryz.underlying3
  a3 := Tryz.isAgg3
  z3 := Tryz.sizeOf3
  v3 := Tryz.zeroValue3
  t4 := Tryz.underlying4
  a4 := Tryz.isAgg4
  z4 := Tryz.sizeOf4
  v4 := Tryz.zeroValue4 }
open Go.RowKit in
/-- cmp.isNaN at int: 'x != x': false. (LAID: no walk: one application.) -/
theorem Tryz.cmp_isNaN_int (x : Int) (w : World) :
    Calls Tryz.prog 224 #[.int .i64 x] w fun e w' => e = .returned (.bool false) ∧ w' = w := Any.cmp_isNaN_int Tryz.lays215 x w
def Tryz.lays129_ren : Go.Shelf.Ren := ⟨fun | 129 => 217 | n => n, fun | 53 => 175 | 3 => 3 | 4 => 4 | 46 => 168 | 5 => 5 | 9 => 9 | n => n, fun | n => n⟩
theorem Tryz.lays129 : Go.Proofs.Lays.n129 Tryz.prog Tryz.lays129_ren := {
  mixed := by kernel_rfl
  f129 := Tryz.func217.trans (congrArg some (by kernel_rfl))
  t3 := Tryz.underlying3
  a3 := Tryz.isAgg3
  z3 := Tryz.sizeOf3
  v3 := Tryz.zeroValue3
  t4 := Tryz.underlying4
  a4 := Tryz.isAgg4
  z4 := Tryz.sizeOf4
  v4 := Tryz.zeroValue4
  t5 := Tryz.underlying5
  a5 := Tryz.isAgg5
  z5 := Tryz.sizeOf5
  v5 := Tryz.zeroValue5
  t9 := Tryz.underlying9
  a9 := Tryz.isAgg9
  z9 := Tryz.sizeOf9
  v9 := Tryz.zeroValue9
  t46 := Tryz.underlying168
  a46 := Tryz.isAgg168
  z46 := Tryz.sizeOf168
  v46 := Tryz.zeroValue168
  t53 := Tryz.underlying175
  a53 := Tryz.isAgg175
  z53 := Tryz.sizeOf175
  v53 := Tryz.zeroValue175 }
/-- bits.Len64: "Len64 returns the minimum number of bits required to represent x; the result is 0 for x == 0.": IT RETURNS 'Lib.bitLen x'; the world is as it was. ('h0', 'h1': x is a uint64.) (LAID: no walk: one application.) -/
theorem Tryz.bits_Len64 (x : Int) (w : World) (h0 : 0 ≤ x) (h1 : x ≤ 18446744073709551615) :
    Calls Tryz.prog 217 #[.int .u64 x] w fun e w' => e = .returned (.int .i64 (Lib.bitLen x.toNat)) ∧ w' = w := Any.bits_Len64 Tryz.lays129 x w h0 h1
def Tryz.lays189_ren : Go.Shelf.Ren := ⟨fun | 189 => 159 | 125 => 196 | 257 => 195 | 128 => 216 | 129 => 217 | 294 => 207 | 295 => 208 | 296 => 209 | 297 => 210 | 298 => 211 | 299 => 212 | 216 => 213 | 300 => 214 | 301 => 215 | 328 => 219 | 329 => 220 | 330 => 221 | 331 => 222 | 332 => 223 | 215 => 224 | 343 => 225 | n => n, fun | 28 => 44 | 3 => 3 | 46 => 168 | 0 => 0 | 51 => 215 | 53 => 175 | 4 => 4 | 183 => 209 | 182 => 208 | 131 => 75 | 5 => 5 | 9 => 9 | 218 => 217 | 222 => 221 | 228 => 223 | 229 => 99 | n => n, fun | n => n⟩
theorem Tryz.lays189 : Go.Proofs.Lays.n189 Tryz.prog Tryz.lays189_ren := {
  mixed := by kernel_rfl
  f125 := Tryz.func196.trans (congrArg some (by kernel_rfl))
  f128 := Tryz.func216.trans (congrArg some (by kernel_rfl))
  f129 := Tryz.func217.trans (congrArg some (by kernel_rfl))
  f189 := Tryz.func159.trans (congrArg some (by kernel_rfl))
  f215 := Tryz.func224.trans (congrArg some (by kernel_rfl))
  f216 := Tryz.func213.trans (congrArg some (by kernel_rfl))
  f257 := Tryz.func195.trans (congrArg some (by kernel_rfl))
  f294 := Tryz.func207.trans (congrArg some (by kernel_rfl))
  f295 := Tryz.func208.trans (congrArg some (by kernel_rfl))
  f296 := Tryz.func209.trans (congrArg some (by kernel_rfl))
  f297 := Tryz.func210.trans (congrArg some (by kernel_rfl))
  f298 := Tryz.func211.trans (congrArg some (by kernel_rfl))
  f299 := Tryz.func212.trans (congrArg some (by kernel_rfl))
  f300 := Tryz.func214.trans (congrArg some (by kernel_rfl))
  f301 := Tryz.func215.trans (congrArg some (by kernel_rfl))
  f328 := Tryz.func219.trans (congrArg some (by kernel_rfl))
  f329 := Tryz.func220.trans (congrArg some (by kernel_rfl))
  f330 := Tryz.func221.trans (congrArg some (by kernel_rfl))
  f331 := Tryz.func222.trans (congrArg some (by kernel_rfl))
  f332 := Tryz.func223.trans (congrArg some (by kernel_rfl))
  f343 := Tryz.func225.trans (congrArg some (by kernel_rfl))
  t0 := Tryz.underlying0
  a0 := Tryz.isAgg0
  z0 := Tryz.sizeOf0
  v0 := Tryz.zeroValue0
  t3 := Tryz.underlying3
  a3 := Tryz.isAgg3
  z3 := Tryz.sizeOf3
  v3 := Tryz.zeroValue3
  t4 := Tryz.underlying4
  a4 := Tryz.isAgg4
  z4 := Tryz.sizeOf4
  v4 := Tryz.zeroValue4
  t5 := Tryz.underlying5
  a5 := Tryz.isAgg5
  z5 := Tryz.sizeOf5
  v5 := Tryz.zeroValue5
  t9 := Tryz.underlying9
  a9 := Tryz.isAgg9
  z9 := Tryz.sizeOf9
  v9 := Tryz.zeroValue9
  t28 := Tryz.underlying44
  a28 := Tryz.isAgg44
  z28 := Tryz.sizeOf44
  v28 := Tryz.zeroValue44
  t46 := Tryz.underlying168
  a46 := Tryz.isAgg168
  z46 := Tryz.sizeOf168
  v46 := Tryz.zeroValue168
  t51 := Tryz.underlying215
  a51 := Tryz.isAgg215
  z51 := Tryz.sizeOf215
  v51 := Tryz.zeroValue215
  t53 := Tryz.underlying175
  a53 := Tryz.isAgg175
  z53 := Tryz.sizeOf175
  v53 := Tryz.zeroValue175
  t131 := Tryz.underlying75
  a131 := Tryz.isAgg75
  z131 := Tryz.sizeOf75
  v131 := Tryz.zeroValue75
  t182 := Tryz.underlying208
  a182 := Tryz.isAgg208
  z182 := Tryz.sizeOf208
  v182 := Tryz.zeroValue208
  t183 := Tryz.underlying209
  a183 := Tryz.isAgg209
  z183 := Tryz.sizeOf209
  v183 := Tryz.zeroValue209
  t218 := Tryz.underlying217
  a218 := Tryz.isAgg217
  z218 := Tryz.sizeOf217
  v218 := Tryz.zeroValue217
  t222 := Tryz.underlying221
  a222 := Tryz.isAgg221
  z222 := Tryz.sizeOf221
  v222 := Tryz.zeroValue221
  t228 := Tryz.underlying223
  a228 := Tryz.isAgg223
  z228 := Tryz.sizeOf223
  v228 := Tryz.zeroValue223
  t229 := Tryz.underlying99
  a229 := Tryz.isAgg99
  z229 := Tryz.sizeOf99
  v229 := Tryz.zeroValue99 }
open Go.Sort Go.RowKit in
theorem Tryz.slices_Sort_int (blk off cap : Nat) (zs : List Int) (w : World) (hH : Holds (Value.int .i64) w blk off zs.toArray) (hblk : blk < w.heap.size) (hsz : zs.length < 4611686018427387904) :
    Calls Tryz.prog 159 #[.slice (some ⟨blk, off, none⟩) zs.length cap] w fun e w' =>
      e = .returned (.tuple #[]) ∧ ∃ n os, w' = grow (putRow (Value.int .i64) (Sort.ahead w n) blk off (zs.mergeSort fun x y => decide (x ≤ y)).toArray) os := Any.slices_Sort_int Tryz.lays189 blk off cap zs w hH hblk hsz
def Tryz.lays108_ren : Go.Shelf.Ren := ⟨fun | 108 => 206 | n => n, fun | 28 => 44 | 3 => 3 | 0 => 0 | 4 => 4 | n => n, fun | n => n⟩
theorem Tryz.lays108 : Go.Proofs.Lays.n108 Tryz.prog Tryz.lays108_ren := {
  mixed := by kernel_rfl
  f108 := Tryz.func206.trans (congrArg some (by kernel_rfl))
  t0 := Tryz.underlying0
  a0 := Tryz.isAgg0
  z0 := Tryz.sizeOf0
  v0 := Tryz.zeroValue0
  t3 := Tryz.underlying3
  a3 := Tryz.isAgg3
  z3 := Tryz.sizeOf3
  v3 := Tryz.zeroValue3
  t4 := Tryz.underlying4
  a4 := Tryz.isAgg4
  z4 := Tryz.sizeOf4
  v4 := Tryz.zeroValue4
  t28 := Tryz.underlying44
  a28 := Tryz.isAgg44
  z28 := Tryz.sizeOf44
  v28 := Tryz.zeroValue44 }
open Go.Lib in
/-- slices.Index at []int: "Index returns the index of the first occurrence of v in s, or -1 if not present.": IT RETURNS 'Lib.idxOf (the elements) v'; the world is as it was. 'zs': what the cells behind the slice's address hold (its spare capacity too, if you have it); 'zs.take n': its elements. (LAID: no walk: one application.) -/
theorem Tryz.slices_Index_int (b off n c : Nat) (zs : List Int) (x : Int) (w : World) (hz : n ≤ zs.length) (hbig : n ≤ 9223372036854775807) (hc : ∀ j, j < zs.length → w.cell? ⟨b, off + j, none⟩ = some (.int .i64 (zs.getD j 0))) :
    Calls Tryz.prog 206 #[.slice (some ⟨b, off, none⟩) n c, .int .i64 x] w fun e w' => e = .returned (.int .i64 (Lib.idxOf (zs.take n) x)) ∧ w' = w := Any.slices_Index_int Tryz.lays108 b off n c zs x w hz hbig hc
open Go.Lib in
/-- The same at a slice of length 0, a nil one too: no cell is known, none is asked for. (LAID: no walk: one application.) -/
theorem Tryz.slices_Index_int_empty (a : Option Addr) (c : Nat) (x : Int) (w : World) :
    Calls Tryz.prog 206 #[.slice a 0 c, .int .i64 x] w fun e w' => e = .returned (.int .i64 (Lib.idxOf [] x)) ∧ w' = w := Any.slices_Index_int_empty Tryz.lays108 a c x w
def Tryz.laysNm215_ren : Go.Shelf.Ren := ⟨fun | 15 => 199 | n => n, fun | 22 => 44 | 3 => 3 | 4 => 4 | n => n, fun | n => n⟩
theorem Tryz.laysNm215 : Go.Proofs.Lays2.n15 Tryz.prog Tryz.laysNm215_ren := {
  mixed := by kernel_rfl
  f15 := Tryz.func199.trans (congrArg some (by kernel_rfl))
  t3 := Tryz.underlying3
  a3 := Tryz.isAgg3
  z3 := Tryz.sizeOf3
  v3 := Tryz.zeroValue3
  t4 := Tryz.underlying4
  a4 := Tryz.isAgg4
  z4 := Tryz.sizeOf4
  v4 := Tryz.zeroValue4
  t22 := Tryz.underlying44
  a22 := Tryz.isAgg44
  z22 := Tryz.sizeOf44
  v22 := Tryz.zeroValue44
  i3 := by kernel_rfl }
open Go.RowKit Go.Lib in
/-- slices.Clone at []int: "Clone returns a copy of the slice. The elements are copied using assignment, so this is a shallow clone. The result may have additional unused capacity. The result preserves the nilness of s.": OF A SLICE THAT IS NOT nil IT RETURNS A SLICE THAT IS NOT nil, OF THE SAME ELEMENTS, IN MEMORY OF THE CALL's OWN: in the how-to's words (6f): 'w'.ownsRow B e 1 v' n cells': v' begins at the head of a row among the blocks from B on (B: the heap's size at the call), not frozen, whose first cells are the elements · 'Below B w w'': below B all is as it was. The capacity is whatever the run-time gives. 'zs': what the cells behind the slice's address hold; 'zs.take n': its elements. (LAID: no walk: one application.) -/
theorem Tryz.slices_Clone_int (b off n c : Nat) (zs : List Int) (w : World) (hz : n ≤ zs.length) (hbig : n * 8 ≤ 140737488355328) (hc : ∀ j, j < zs.length → w.cell? ⟨b, off + j, none⟩ = some (.int .i64 (zs.getD j 0))) :
    Calls Tryz.prog 199 #[.slice (some ⟨b, off, none⟩) n c] w fun e w' => ∃ v', e = .returned v' ∧ w'.ownsRow w.heap.size 3 1 v' n ((zs.take n).map (Value.int .i64)) ∧ v' ≠ .slice none 0 0 ∧ Below w.heap.size w w' := Any.slices_Clone_int Tryz.laysNm215 b off n c zs w hz hbig hc
open Go.RowKit Go.Lib in
/-- The same at nil: nil comes back; the world is as it was. (LAID: no walk: one application.) -/
theorem Tryz.slices_Clone_int_nil (n c : Nat) (w : World) :
    Calls Tryz.prog 199 #[.slice none n c] w fun e w' => e = .returned (.slice none 0 0) ∧ w' = w := Any.slices_Clone_int_nil Tryz.laysNm215 n c w
open Go.RowKit Go.Lib in
/-- The same at a slice of length 0 that is not nil, WHATEVER ITS ADDRESS (no cell is asked for): a slice that is not nil and owns nothing comes back. (LAID: no walk: one application.) -/
theorem Tryz.slices_Clone_int_zero (a : Addr) (c : Nat) (w : World) :
    Calls Tryz.prog 199 #[.slice (some a) 0 c] w fun e w' => ∃ v', e = .returned v' ∧ w'.ownsRow w.heap.size 3 1 v' 0 [] ∧ v' ≠ .slice none 0 0 ∧ Below w.heap.size w w' := Any.slices_Clone_int_zero Tryz.laysNm215 a c w
def Tryz.laysNm237_ren : Go.Shelf.Ren := ⟨fun | 37 => 224 | n => n, fun | 3 => 3 | 4 => 4 | n => n, fun | n => n⟩
theorem Tryz.laysNm237 : Go.Proofs.Lays2.n37 Tryz.prog Tryz.laysNm237_ren := {
  mixed := by kernel_rfl
  f37 := Tryz.func224.trans (congrArg some (by kernel_rfl))
  t3 := Tryz.underlying3
  a3 := Tryz.isAgg3
  z3 := Tryz.sizeOf3
  v3 := Tryz.zeroValue3
  t4 := Tryz.underlying4
  a4 := Tryz.isAgg4
  z4 := Tryz.sizeOf4
  v4 := Tryz.zeroValue4 }
open Go.RowKit Go.Lib in
/-- cmp.isNaN[int]: 'x != x': false. (LAID: no walk: one application.) -/
theorem Tryz.cmp_isNaN_int2 (x : Int) (w : World) :
    Calls Tryz.prog 224 #[.int .i64 x] w fun e w' => e = .returned (.bool false) ∧ w' = w := Any.cmp_isNaN_int2 Tryz.laysNm237 x w
def Tryz.laysNm231_ren : Go.Shelf.Ren := ⟨fun | 31 => 213 | 37 => 224 | n => n, fun | 3 => 3 | 4 => 4 | n => n, fun | n => n⟩
theorem Tryz.laysNm231 : Go.Proofs.Lays2.n31 Tryz.prog Tryz.laysNm231_ren := {
  mixed := by kernel_rfl
  f31 := Tryz.func213.trans (congrArg some (by kernel_rfl))
  f37 := Tryz.func224.trans (congrArg some (by kernel_rfl))
  t3 := Tryz.underlying3
  a3 := Tryz.isAgg3
  z3 := Tryz.sizeOf3
  v3 := Tryz.zeroValue3
  t4 := Tryz.underlying4
  a4 := Tryz.isAgg4
  z4 := Tryz.sizeOf4
  v4 := Tryz.zeroValue4 }
open Go.RowKit Go.Lib in
/-- cmp.Less[int]: "Less reports whether x is less than y.": 'x < y'; the world is as it was. (LAID: no walk: one application.) -/
theorem Tryz.cmp_Less_int2 (x y : Int) (w : World) :
    Calls Tryz.prog 213 #[.int .i64 x, .int .i64 y] w fun e w' => e = .returned (.bool (decide (x < y))) ∧ w' = w := Any.cmp_Less_int2 Tryz.laysNm231 x y w
open Go.RowKit Go.Sort in
/-- .. and plain. (LAID: no walk: one application.) -/
theorem Tryz.slices_Sort_int_none (p : Option Addr) (cap : Nat) (w : World) :
    Calls Tryz.prog 159 #[.slice p 0 cap] w fun e w' => e = .returned (.tuple #[]) ∧ w' = w := Any.slices_Sort_int_none Tryz.lays189 p cap w
end Go.Proofs

/- slices.Sort at a row of the call's own. -/
namespace Go.Proofs.YtjoejjhgneccgaaGreatDoor
open Go.RowKit Go.Sort

def sortI (xs : List Int) : List Int := xs.mergeSort fun x y => decide (x ≤ y)
theorem sortI_perm (xs : List Int) : (sortI xs).Perm xs := List.mergeSort_perm _ _
theorem sortI_len (xs : List Int) : (sortI xs).length = xs.length := (sortI_perm xs).length_eq
theorem isort_any {base : Nat} {w : World} {A : Option Addr} {n cap : Nat} {xs : List Int} (h : IRow base w (.slice A n cap) xs) (hn : xs.length ≤ 1000000) :
    Calls Tryz.prog 159 #[.slice A n cap] w fun e w' => e = .returned (.tuple #[]) ∧ IRow base w' (.slice A n cap) (sortI xs) ∧ w.grownBy w' (Value.ownBlock (.slice A n cap)) := by
  rcases h.2 with ⟨hv, h1⟩ | ⟨g, cap', cur, hv, hg, hh, hc, hm, hs, ht⟩
  · obtain rfl : xs = [] := by simpa using h1
    cases hv
    refine (Tryz.slices_Sort_int_none none 0 w).mono ?_
    rintro e w' ⟨rfl, rfl⟩
    exact ⟨rfl, by simpa [sortI] using IRow.nil _ _, World.grownBy.refl _ _⟩
  · cases hv
    rw [Nat.mul_one] at ht
    refine (Tryz.slices_Sort_int g 0 cap xs w (holds_of_blockI hh ht) (heap_lt hh) (Nat.lt_of_le_of_lt hn (by decide))).mono ?_
    rintro e w' ⟨rfl, k, os, rfl⟩
    refine ⟨rfl, ?_, grownBy_sortedI _⟩
    have := ownsRow_sortedI (n := k) (os := os) (sortI_len xs) hg hh hc hm hs
    unfold IRow
    rw [sortI_len]
    exact this
end Go.Proofs.YtjoejjhgneccgaaGreatDoor

/- Whose pages are: a thread has none. -/
namespace Go.Proofs.YtjoejjhgneccgaaGreatDoor
open Go.RowKit Go.Maps Go.WideElems

def cutM (M : OwnM) (t : Int) : Nat → OwnM
  | 0 => M
  | n + 1 => updM (cutM M t n) t ((n : Int) + 1) none
def dropL (M : OwnM) (t : Int) (n : Nat) : List Int := (List.range n).filterMap fun i : Nat => M t ((i : Int) + 1)
theorem dropL_succ (M : OwnM) (t : Int) (n : Nat) : dropL M t (n + 1) = dropL M t n ++ (M t ((n : Int) + 1)).toList := by
  unfold dropL
  rw [List.range_succ, List.filterMap_append]
  cases h : M t ((n : Int) + 1) <;> simp [h]
theorem dropL_len (M : OwnM) (t : Int) (n : Nat) : (dropL M t n).length ≤ n := by
  unfold dropL
  have := List.length_filterMap_le (fun i : Nat => M t ((i : Int) + 1)) (List.range n)
  simpa using this
theorem cut_later {M : OwnM} {t : Int} : ∀ {n : Nat} {k : Int}, (n : Int) < k → cutM M t n t k = M t k
  | 0, _, _ => rfl
  | n + 1, k, h => by
    unfold cutM
    rw [updM_other _ (by omega), cut_later (by omega)]
theorem cut_none {M : OwnM} {t : Int} {n : Nat} (h : M t ((n : Int) + 1) = none) : cutM M t (n + 1) = cutM M t n := by
  funext t' k'
  show updM (cutM M t n) t ((n : Int) + 1) none t' k' = _
  by_cases e : t' = t ∧ k' = (n : Int) + 1
  · obtain ⟨rfl, rfl⟩ := e
    rw [updM_same, cut_later (by omega), h]
  · rw [updM_other _ e]
theorem Frm.then_below {fp : List Nat} {w w1 w2 : World} (h : Frm fp w w1) (hb : Below w.heap.size w1 w2) : Frm fp w w2 :=
  ⟨hb.os.trans h.os, hb.tape.trans h.tape, hb.output.trans h.output, Nat.le_trans h.size hb.size, fun k hk hn => (hb.block k hk).trans (h.block k hk hn)⟩
theorem size_next {n : Nat} (h : n < 4) : decide (0 < sizeI ((n : Int) + 1)) = true := by
  rw [decide_eq_true_eq]
  have := sizeI_pos (k := (n : Int) + 1) ⟨by omega, by omega⟩
  omega
section
variable {w w' : World} {c b : Nat} {th : Int} {M : OwnM}
theorem CaX.del {D : DataW Unit} {t k : Int} (h : CaX w c b th M) (hr : Rep D M) (ht : wfI t) (hk : wfI k) (hg : w.grownBy w' (some b)) (ho : w'.ownsMap Tryz.prog 164 (plainElem Tryz.prog 3) b 36 (D.del (sk t k))) : CaX w' c b th (updM M t k none) :=
  h.turn hg ⟨⟨_, ho, hr.del ht hk⟩, fun t' k' p' he => by
    by_cases e : t' = t ∧ k' = k
    · obtain ⟨rfl, rfl⟩ := e
      rw [updM_same] at he
      cases he
    · rw [updM_other _ e] at he
      exact h.mp.dom t' k' p' he⟩
set_option maxHeartbeats 4000000 in
set_option maxRecDepth 100000 in
theorem cadrop_any (h : CaX w c b th M) (t : Int) (wt : wfI t) :
    Calls Tryz.prog 104 #[.pointer (some ⟨c, 0, none⟩), .int .i64 t] w fun e w' => RowE w.heap.size (sortI (dropL M t 4)) e w' ∧ CaX w' c b th (cutM M t 4) ∧ Frm [b] w w' := by
  have H := Lib.hid h
  have WT := Lib.hid wt
  have HC := Lib.hid (heap_lt h.hd)
  have HB := Lib.hid h.mp.lt
  have F0 := Lib.hid (Frm.refl [b] w)
  clear h wt
  go_enter Tryz.func104, Tryz.ntmps104
  go_wp2_with fail
  go_loopw [5, 6] (fun a k wr => ∃ n : Nat, k = .int .i64 ((n : Int) + 1) ∧ n ≤ 4 ∧ Hid (IRow w.heap.size wr a (dropL M t n)) ∧ Hid (CaX wr c b th (cutM M t n)) ∧ Hid (Frm [b] w wr)) (fun _ k _ => 6 - (intOf k).toNat)
  case atStart => exact ⟨0, rfl, by omega, Lib.hid (by simpa [dropL] using IRow.nil w.heap.size w), H, F0⟩
  case round =>
    clear F0
    obtain ⟨n, rfl, hn, HR, HX, HF⟩ := hrel
    by_cases hn4 : n = 4
    · subst hn4
      clear hn
      have HL := Lib.hid (Nat.le_trans (dropL_len M t 4) (by decide : 4 ≤ 1000000))
      obtain ⟨pa, ca, rfl, -⟩ := HR.out.slice
      go_wp2_with (first
        | (go_at_call 138; refine (size_any _ _).mono ?_; rintro e w1 ⟨rfl, rfl⟩)
        | (go_at_call 159; refine (isort_any HR.out HL.out).mono ?_; rintro e w2 ⟨rfl, hr2, hg2⟩; have R2 := Lib.hid hr2; have G2 := Lib.hid hg2; clear hr2 hg2))
      go_ret
      have hob := own_base HR.out
      have B2 : Below w.heap.size _ _ := (Below.refl w.heap.size _).grown G2.out HF.out.size hob
      exact ⟨⟨_, rfl, R2.out⟩, HX.out.keep (B2.block c HC.out) (B2.block b HB.out), HF.out.then_below B2⟩
    · have hn3 : n < 4 := by omega
      have s1 := size_next hn3
      have k1 : IntKind.i64.wrap ((n : Int) + 1 + 1) = ((n + 1 : Nat) : Int) + 1 := by rw [IntKind.wrap_i64]; omega
      have HN := Lib.hid hn3
      have WK := Lib.hid (show wfI ((n : Int) + 1) from ⟨by omega, by omega⟩)
      have d1 := HX.out.cells.2
      have hll := dropL_len M t n
      have HLL := Lib.hid (show (dropL M t n).length + 1 ≤ 1000000 by omega)
      clear hn hn4 hn3 hll
      cases hm : M t ((n : Int) + 1) with
      | none =>
        have HP := Lib.hid (show pageM (cutM M t n) t ((n : Int) + 1) = -1 by unfold pageM; rw [cut_later (by omega), hm]; rfl)
        have E1 := Lib.hid (cut_none hm)
        have E2 := Lib.hid (show dropL M t (n + 1) = dropL M t n by rw [dropL_succ, hm]; simp)
        clear hm
        go_wp2_with (first
          | (go_at_call 138; refine (size_any _ _).mono ?_; rintro e w1 ⟨rfl, rfl⟩)
          | (go_at_call 87; refine (capage_any HX.out t _ WT.out WK.out).mono ?_; rw [HP.out]; rintro e w1 ⟨rfl, rfl⟩))
        go_roundw
        case rel => exact ⟨n + 1, rfl, HN.out, Lib.hid (by rw [E2.out]; exact HR.out), Lib.hid (by rw [E1.out]; exact HX.out), HF⟩
        case measure => simp only [intOf]; have := HN.out; omega
      | some p =>
        have HP := Lib.hid (show pageM (cutM M t n) t ((n : Int) + 1) = p by unfold pageM; rw [cut_later (by omega), hm]; rfl)
        have hp0 := (HX.out.mp.dom t _ p ((cut_later (by omega)).trans hm)).2.2.2.2.1
        have p0 : decide (0 ≤ p) = true := by simpa using hp0
        have E2 := Lib.hid (show dropL M t (n + 1) = dropL M t n ++ [p] by rw [dropL_succ, hm]; rfl)
        clear hm hp0
        go_wp2_with (first
          | (go_at_call 138; refine (size_any _ _).mono ?_; rintro e w1 ⟨rfl, rfl⟩)
          | (go_at_call 87; refine (capage_any HX.out t _ WT.out WK.out).mono ?_; rw [HP.out]; rintro e w1 ⟨rfl, rfl⟩)
          | (at_builtin; refine wpList_append_num rfl _ _ (by rfl) w.heap.size _ _ (dropL M t n) p (by rfl) HR.out (by rfl) HLL.out (Below.refl _ _) HF.out.size ?_; intro v' w1 hr1 hb1 hgrow; have hx1 := HX.out.keep (hb1.block c HC.out) (hb1.block b HB.out); have d2 := hx1.cells.2; have R1 := Lib.hid hr1; have X1 := Lib.hid hx1; have F1 := Lib.hid (HF.out.then_below hb1); clear hr1 hb1 hgrow hx1)
          | (at_delete; obtain ⟨⟨D, ho, hr⟩, hd⟩ := X1.out.mp; refine wpList_delete_own _ rfl _ _ 160 164 rfl 3 lawSeat Tryz.underlying160 (plainElem Tryz.prog 3) b 36 D (by rfl) ho _ (sk t ((n : Int) + 1)) (by rfl) (keyOf_seat WT.out.wf WK.out.wf) ?_; intro w2 ho2 ht2; have X2 := Lib.hid (X1.out.del hr WT.out WK.out ht2.grown ho2); have G2 := frm_grown ht2.grown; have R2 := Lib.hid (R1.out.frm G2 (by simpa using HB.out)); have F2 := Lib.hid (F1.out.trans G2 (fun k hk => .inl hk)); clear ho hr hd ho2 ht2 G2))
        go_roundw
        case rel => exact ⟨n + 1, rfl, HN.out, Lib.hid (by rw [E2.out]; exact R2.out), X2, F2⟩
        case measure => simp only [intOf]; have := HN.out; omega
end
end Go.Proofs.YtjoejjhgneccgaaGreatDoor
