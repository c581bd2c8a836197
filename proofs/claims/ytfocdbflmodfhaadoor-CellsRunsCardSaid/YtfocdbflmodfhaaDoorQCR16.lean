/- The reference's heap: Take. -/
import Derived.Test.YtfocdbflmodfhaaDoorQCR02
import Derived.Test.YtfocdbflmodfhaaDoorQCR15
import Derived.Deep.AppendSrc
namespace Go.Proofs.YtfocdbflmodfhaaDoor
open Go.RowKit

theorem OffR.tail {base : Nat} {w : World} {g o n cap : Nat} {x : Int} {l : List Int} (h : OffR base w (.slice (some ⟨g, o, none⟩) n cap) (x :: l)) : OffR base w (.slice (some ⟨g, o + 1, none⟩) (n - 1) (cap - 1)) l := by
  obtain ⟨A, n', cap', h1, h2, h3, h4, h5⟩ := h
  cases h1
  simp only [List.length_cons] at h2
  refine ⟨_, _, _, rfl, by omega, by omega, by omega, fun h0 => ?_⟩
  obtain ⟨g', o', e1, e2, e3, e4⟩ := h5 (by omega)
  cases e1
  refine ⟨g, o + 1, rfl, e2, e3, fun j hj => ?_⟩
  have := e4 (j + 1) (by omega)
  rw [show o + (j + 1) = o + 1 + j by omega] at this
  simpa using this
theorem OffR.empty {base : Nat} {w : World} (A : Option Addr) (cap : Nat) : OffR base w (.slice A 0 cap) [] := ⟨A, 0, cap, rfl, rfl, Nat.zero_le _, by omega, fun h => absurd h (by omega)⟩
def takeR (k q i : Int) (e : Ending) : Prop := e = .returned (.int .i64 (q * 32 + i * sizeI k))
section
variable {base h : Nat} {w : World} {kv : Value} {fv rest : List Value} {ks : List Int} {F : Nat → List Int}
set_option maxHeartbeats 1000000 in
set_option maxRecDepth 100000 in
theorem gtake_no (H0 : Hp base w h kv fv rest ks F) (p : Int) (h0 : rleft ks F p = 0) :
    Calls Tryd.prog 85 #[.pointer (some ⟨h, 0, none⟩), .int .i64 p] w fun e w' => e = .returned (.int .i64 (-1)) ∧ Below w.heap.size w w' := by
  have H := Lib.hid H0
  have HZ := Lib.hid h0
  clear H0 h0
  go_enter Tryd.func85, Tryd.ntmps85
  go_wp2_with (go_at_call 61; refine (gleft_any H.out p).mono ?_; rw [HZ.out]; rintro e w2 ⟨rfl, hb⟩; have B2 := Lib.hid hb; clear hb)
  go_ret
  exact ⟨rfl, B2.out⟩
set_option maxHeartbeats 4000000 in
set_option maxRecDepth 100000 in
theorem gtake_yes (H0 : Hp base w h kv fv rest ks F) (q : Nat) (hs : 0 < sizeI (kindL ks q)) (i : Int) (l : List Int) (hF : F q = i :: l) (hi : 0 ≤ i ∧ i < 32) :
    Calls Tryd.prog 85 #[.pointer (some ⟨h, 0, none⟩), .int .i64 q] w fun e w' => takeR (kindL ks q) q i e ∧ HpE base h rest ks (upd F q l) w.heap.size (hrows kv fv) w' ∧ Frm [h] w w' := by
  have H := Lib.hid H0
  obtain ⟨hp0, hp1⟩ := small_in hs
  have hql : q < ks.length := by omega
  have hq : q < 64 := by have := H0.kl; omega
  have HQL := Lib.hid hql
  have HQ := Lib.hid hq
  have hl1 : rleft ks F q = ((l.length + 1 : Nat) : Int) := by unfold rleft; rw [if_pos hs, Int.toNat_natCast, hF]; rfl
  obtain ⟨lf, hlf⟩ : ∃ lf, lf = rleft ks F q := ⟨_, rfl⟩
  have z1 : (lf == 0) = false := by rw [hlf, hl1]; simp; omega
  have HLF := Lib.hid hlf
  obtain ⟨A', n', cap', e1, e2, e3, e4, e5⟩ := H0.fr q hq
  rw [hF] at e2 e5
  simp only [List.length_cons] at e2
  obtain ⟨g, o, rfl, -, -, e6⟩ := e5 (by omega)
  have x0 := e6 0 (by omega)
  simp only [Nat.add_zero, List.getD_cons_zero] at x0
  have HG := Lib.hid (show g ∈ hrows kv fv from hrows_mem.2 (.inr ⟨_, getD_mem (d := .slice none 0 0) (by rw [H0.fl]; exact hq), by rw [e1]; exact rblk_pos (by omega)⟩))
  have X0 := Lib.hid x0
  have E1 := Lib.hid e1
  have n1 : (0 : Int) < (n' : Int) := by omega
  have n2 : (1 : Int) ≤ (n' : Int) := by omega
  have n3 : (n' : Int) ≤ (cap' : Int) := by omega
  have n4 : (1 : Int) ≤ (cap' : Int) := by omega
  have n5 : 0 < n' := by omega
  have HV := Lib.hid (show OffR base w (.slice (some ⟨g, o, none⟩) n' cap') (i :: l) by
    have := H0.fr q hq
    rw [e1, hF] at this
    exact this)
  have hsz := sizeI_bd (kindL ks q)
  have HK := Lib.hid (kindL_in hql)
  have HSZ := Lib.hid hsz
  obtain ⟨A, cap, rfl, -⟩ := H0.kr.slice
  obtain ⟨b, rfl, kc⟩ := H0.kr.at_.2 q hql
  obtain ⟨kd, hkd⟩ : ∃ kd, kd = ks.getD q 0 := ⟨_, rfl⟩
  rw [← hkd] at kc
  have KC := Lib.hid kc
  have hbh : b ≠ h := by
    rintro rfl
    have h1 := cell_of_row _ _ q _ _ _ H0.hd
    rw [kc] at h1
    rcases H0.kr.2 with ⟨e, -⟩ | ⟨g2, c2, cu, e, -, hh, -⟩
    · cases e
    · cases e
      rw [H0.hd] at hh
      simp only [Option.some.injEq, Obj.cells.injEq] at hh
      exact absurd hh.2.1 (by decide)
  have HKD := Lib.hid hkd
  have q1 : (0 : Int) ≤ (q : Int) := by omega
  have q2 : (q : Int) < 64 := by omega
  have q3 : (q : Int) < (ks.length : Int) := by omega
  have hm : 0 ≤ i * sizeI kd ∧ i * sizeI kd ≤ 31 * 16 := by
    rw [hkd, ← kindL_in hql]
    exact ⟨Int.mul_nonneg hi.1 hsz.1, Int.mul_le_mul (by omega) hsz.2 hsz.1 (by omega)⟩
  have HM := Lib.hid hm
  obtain ⟨hi0, hi1⟩ := hi
  obtain ⟨hs0, hs1⟩ : 0 ≤ sizeI kd ∧ sizeI kd ≤ 16 := by rw [hkd, ← kindL_in hql]; exact hsz
  obtain ⟨hm0, hm1⟩ := hm
  clear H0 hs hsz hF e5 e6 x0 e1 hl1 hlf hkd hql hq hp0 hp1 kc
  by_cases hc : cap' = 1
  · subst hc
    obtain rfl : n' = 1 := by omega
    obtain rfl : l = [] := List.eq_nil_of_length_eq_zero (by omega)
    clear e2 e3 e4 n1 n2 n3 n4 n5
    go_enter Tryd.func85, Tryd.ntmps85
    go_wp2_with (go_at_call 61; refine (gleft_any H.out q).mono ?_; rw [← HLF.out]; rintro e w2 ⟨rfl, hb⟩; have B2 := Lib.hid hb; have H2 := Lib.hid (H.out.below hb); have x2 := cell_keep hb X0.out; have k2 := cell_keep hb KC.out; have d2 := H2.out.cells.2 q HQ.out; have d0 := H2.out.cells.1; rw [E1.out] at d2; have fz2 : w2.frozen? ⟨h, 1 + q, none⟩ = false := frozen_of_row _ _ _ _ _ H2.out.hd; clear hb)
    refine region_tail 12 (by kernel_rfl) (by kernel_rfl) ?_
    simp only [List.take_succ_cons, List.take_zero, List.drop_succ_cons, List.drop_zero]
    repeat still_step
    refine wpStill_nil ?_
    go_wp2_with (go_at_call 15; refine (rsize_any kd _).mono ?_; rintro e w3 ⟨rfl, hb⟩; have B3 := Lib.hid hb; clear hb)
    go_ret
    refine ⟨?_, ⟨_, _, ((H2.out.setFree HQ.out (OffR.empty _ _)).below (Below.refl _ _).drew).below B3.out, Rows0.free fun x hx => by obtain ⟨-, a, ea, rfl⟩ := rblk_some hx; cases ea; exact .inl HG.out⟩, ?_⟩
    · unfold takeR
      rw [HK.out, ← HKD.out]; rfl
    · exact (((Frm.of_below [h] B2.out).trans (Frm.setCell (fp := [h]) (p := ⟨h, 1 + q, none⟩) _ (List.mem_singleton.2 rfl) _) (fun k hk => .inl hk)).trans (Frm.of_below [h] (Below.refl _ _).drew) (fun k hk => .inl hk)).trans (Frm.of_below [h] B3.out) (fun k hk => .inl hk)
  · have c2 : (2 : Int) ≤ (cap' : Int) := by omega
    clear e2 e3 e4
    go_enter Tryd.func85, Tryd.ntmps85
    go_wp2_with (go_at_call 61; refine (gleft_any H.out q).mono ?_; rw [← HLF.out]; rintro e w2 ⟨rfl, hb⟩; have B2 := Lib.hid hb; have H2 := Lib.hid (H.out.below hb); have x2 := cell_keep hb X0.out; have k2 := cell_keep hb KC.out; have d2 := H2.out.cells.2 q HQ.out; have d0 := H2.out.cells.1; rw [E1.out] at d2; have fz2 : w2.frozen? ⟨h, 1 + q, none⟩ = false := frozen_of_row _ _ _ _ _ H2.out.hd; clear hb)
    refine region_tail 12 (by kernel_rfl) (by kernel_rfl) ?_
    simp only [List.take_succ_cons, List.take_zero, List.drop_succ_cons, List.drop_zero]
    repeat still_step
    refine wpStill_nil ?_
    go_wp2_with (go_at_call 15; refine (rsize_any kd _).mono ?_; rintro e w3 ⟨rfl, hb⟩; have B3 := Lib.hid hb; clear hb)
    go_ret
    refine ⟨?_, ⟨_, _, ((H2.out.setFree HQ.out (HV.out.below B2.out).tail).below (Below.refl _ _).drew).below B3.out, Rows0.free fun x hx => by obtain ⟨-, a, ea, rfl⟩ := rblk_some hx; cases ea; exact .inl HG.out⟩, ?_⟩
    · unfold takeR
      rw [HK.out, ← HKD.out]; rfl
    · exact (((Frm.of_below [h] B2.out).trans (Frm.setCell (fp := [h]) (p := ⟨h, 1 + q, none⟩) _ (List.mem_singleton.2 rfl) _) (fun k hk => .inl hk)).trans (Frm.of_below [h] (Below.refl _ _).drew) (fun k hk => .inl hk)).trans (Frm.of_below [h] B3.out) (fun k hk => .inl hk)
end
end Go.Proofs.YtfocdbflmodfhaaDoor

/- An append onto a row of the call's own, the source nil or not. -/
namespace Go.Proofs.YtfocdbflmodfhaaDoor
open Go.RowKit

theorem run_append_none {P : Program} (w : World) (base : Nat) (t ty e : TypeId) (i : TypeInfo) (size : Nat) (ht : P.underlying t = some (.slice e)) (hi : P.info? e = some i)
    (v : Value) (n : Nat) (xs : List Value) (hown : w.ownsRow base e size v n xs) (c : Nat) : (Builtin.append_ #[t, t] ty #[v, .slice none 0 c]).run P w = .ok v w := by
  rcases hown.2 with ⟨rfl, -⟩ | ⟨g, cap, cur, rfl, -, -, hnc, -⟩
  · simp [Builtin.append_, run_underlying ht, sizeOf, typeInfo, hi, Builtin.lenOf, run_firstCells_none]
  · have h := run_append_room_src (P := P) w t t ty e i ht hi g 0 n cap (.slice none 0 c) 0 [] (Src.ofNil w ht c) (by omega) (fun j hj => absurd hj (by simp)) (fun j hj => absurd hj (by simp))
    rw [h]
    have e1 : w.setCells g (0 + n * i.size) [] = w := by
      unfold World.setCells
      simp
    rw [e1, Nat.add_zero]
/-- .. whatever the source is. -/
theorem wpList_append_src {P : Program} (w : World) {ops : Array Oper} {rest : List Oper} {o : Oper} {a : Act} {Q : Exit → Act → World → Prop} (hgd : o.guard = none) (s x : Operand) (t : TypeId)
    (ho : o.op = .call { callee := .builtin .append, args := #[s, x], argTypes := #[t, t] })
    (base : Nat) (e : TypeId) (i : TypeInfo) (z : Value) (size bytes : Nat) (ht : P.underlying t = some (.slice e)) (hi : P.info? e = some i) (hz : i.zero = some z)
    (hsize : i.size = size) (hby : i.bytes = bytes) (hzs : z.cells.size = size) (hsz : 0 < size)
    (v : Value) (n : Nat) (xs : List Value) (hs : a.eval s = v) (hown : w.ownsRow base e size v n xs)
    (A : Option Addr) (m c : Nat) (news : List Value) (hx : a.eval x = .slice A m c) (hl : news.length = m * size) (h0 : A = none → m = 0) (hnews : ∀ ad, A = some ad → ∀ j u, news[j]? = some u → w.cell? (ad.add j) = some u) (h1 : ∀ u ∈ news, u.oneCell' = true)
    (h63 : n + m ≤ maxLen) (hbytes : (n + m) * bytes ≤ 140737488355328) (hbase : base ≤ w.heap.size)
    (h : ∀ v' w', w'.ownsRow base e size v' (n + m) (xs ++ news) → w.grownBy w' v.ownBlock → wpList P ops Q rest (a.put o.dst v') w') : wpList P ops Q (o :: rest) a w := by
  cases A with
  | some ad => exact wpList_append_own w hgd s x t ho base e i z size bytes ht hi hz hsize hby hzs hsz v n xs hs hown ad m c news hx hl (hnews ad rfl) h1 h63 hbytes hbase fun v' w' h2 h3 _ => h v' w' h2 h3
  | none =>
    obtain rfl := h0 rfl
    obtain rfl : news = [] := List.eq_nil_of_length_eq_zero (by simpa using hl)
    refine wpList_plain hgd fun K hK => ?_
    unfold Oper.wp execOp
    simp only [ho, resolve, invoke, builtin, Sem.run_bind, Sem.run_pure, Result.andThen_ok, List.map_toArray, List.map_cons, List.map_nil, hs, hx, run_append_none w base t o.type e i size ht hi v n xs hown c]
    refine hK _ _ (h _ w ?_ (World.grownBy.refl w _))
    rw [Nat.add_zero, List.append_nil]; exact hown
end Go.Proofs.YtfocdbflmodfhaaDoor

/- The reference's heap: Give. -/
namespace Go.Proofs.YtfocdbflmodfhaaDoor
open Go.RowKit

/-- A row that is read is put behind one of the call's own. -/
theorem wpList_append_off {w : World} {ops : Array Oper} {rest : List Oper} {o : Oper} {a : Act} {Q : Exit → Act → World → Prop} (hgd : o.guard = none) (s x : Operand)
    (ho : o.op = .call { callee := .builtin .append, args := #[s, x], argTypes := #[32, 32] }) (base b2 : Nat) (w0 : World) (v v2 : Value) (xs ys : List Int)
    (hs : a.eval s = v) (hown : IRow base w v xs) (hx : a.eval x = v2) (hoff : OffR b2 w v2 ys) (hn : xs.length ≤ 1000000) (hB : Below base w0 w) (hb : base ≤ w.heap.size)
    (h : ∀ v' w', IRow base w' v' (xs ++ ys) → Below base w0 w' → wpList Tryd.prog ops Q rest (a.put o.dst v') w') : wpList Tryd.prog ops Q (o :: rest) a w := by
  obtain ⟨i0, hi, hz0, hz1, hz2⟩ := info_parts info_num
  obtain ⟨A, n, cap, rfl, h2, h3, h4, h5⟩ := hoff
  have hys : (ys.map (Value.int .i64)).length = n := by rw [List.length_map, h2]
  refine wpList_append_src w hgd s x 32 ho base 3 i0 (.int .i64 0) 1 8 Tryd.underlying32 hi hz0 hz1 hz2 rfl (by decide) v xs.length _ hs hown A n cap (ys.map (Value.int .i64)) hx (by rw [hys, Nat.mul_one])
    (fun e => Decidable.byContradiction fun hc => ?_) (fun ad e j u hj => ?_) (ints_one ys) (by unfold maxLen; omega) (by omega) hb ?_
  · obtain ⟨g, o', e1, -⟩ := h5 (by omega)
    rw [e] at e1; cases e1
  · have hjn : j < n := by
      have := (List.getElem?_eq_some_iff.1 hj).1
      rwa [hys] at this
    obtain ⟨g, o', e1, -, -, e4⟩ := h5 (by omega)
    rw [e] at e1
    cases e1
    have hadd : (⟨g, o', none⟩ : Addr).add j = ⟨g, o' + j, none⟩ := by unfold Addr.add; split <;> simp_all
    rw [hadd, e4 j hjn, ← hj, List.getElem?_map, List.getD_eq_getElem?_getD, List.getElem?_eq_getElem (by omega)]; rfl
  · intro v' w1 hown' hgrow
    refine h v' w1 ?_ (hB.grown hgrow hb (own_base hown))
    unfold IRow
    rw [List.length_append, List.map_append, ← h2]
    exact hown'
section
variable {base h : Nat} {w : World} {kv : Value} {fv rest : List Value} {ks : List Int} {F : Nat → List Int}
set_option maxHeartbeats 4000000 in
set_option maxRecDepth 100000 in
theorem ggive_large (H0 : Hp base w h kv fv rest ks F) (hb0 : base ≤ w.heap.size) (a q : Nat) (ha : a < 2048) (hq : a / 32 = q) (hl : q < ks.length) (hk : ks.getD q 0 = 5) :
    Calls Tryd.prog 88 #[.pointer (some ⟨h, 0, none⟩), .int .i64 a] w fun e w' => e = .returned (.tuple #[]) ∧ HpE base h rest (setL ks q (sizeL ks q).toNat 0) F w.heap.size (hrows kv fv) w' ∧ Frm [h] w w' := by
  have H := Lib.hid H0
  have HB := Lib.hid hb0
  have hsz := sizeL_bd ks q
  obtain ⟨m, hm⟩ := Int.eq_ofNat_of_zero_le hsz.1
  have HM := Lib.hid hm
  have HM2 := Lib.hid (show (sizeL ks q).toNat = m by omega)
  have hkl := H0.kl
  have HS := Lib.hid (show q + m ≤ 999999 by omega)
  have HL := Lib.hid (show ks.length ≤ 999999 by omega)
  have HL2 := Lib.hid (show (setL ks q m 0).length ≤ 64 by rw [setL_len]; exact hkl)
  have HKL := Lib.hid hkl
  obtain ⟨c0, -⟩ := H0.cells
  obtain ⟨A, cap, rfl, -⟩ := H0.kr.slice
  obtain ⟨b, rfl, kc⟩ := H0.kr.at_.2 q hl
  rw [hk] at kc
  have e1 : (a : Int) / 32 = (q : Int) := by omega
  have a0 : (0 : Int) ≤ (a : Int) := by omega
  have a1 : (a : Int) < 2048 := by omega
  have q1 : (0 : Int) ≤ (q : Int) := by omega
  have q2 : (q : Int) < (ks.length : Int) := by omega
  clear H0 hm hsz hkl hk hq ha hl
  go_enter Tryd.func88, Tryd.ntmps88
  go_wp2_with fail
  have G0 : Hid (Hp base w.drew h (Value.slice (some ⟨b, 0, none⟩) ks.length cap) fv rest ks F) := Lib.hid (H.out.below (Below.refl _ _).drew)
  have B0 : Hid (Below w.heap.size w w.drew) := Lib.hid (Below.refl _ _).drew
  go_region_with ((first
    | (go_at_call 91; (with_reducible refine (fsize_any G0.out.kr HKL.out q).mono ?_); rw [HM.out]; rintro e w1 ⟨rfl, hb⟩; have G1 := Lib.hid (G0.out.below hb); have d1 := G1.out.cells.1; have B1 := Lib.hid (below_next B0.out hb); clear hb)
    | (go_at_call 90; refine (fset_any G1.out.kr HL.out q m HS.out 0).mono ?_; rintro e w2 ⟨⟨A2, n2, q2, rfl, hr⟩, hb⟩; have R2 := Lib.hid (hr.mono (Nat.le_trans HB.out B1.out.size)); have Q2 := Lib.hid (fun g hg => (hr.oblk g hg).1); have G2 := Lib.hid (G1.out.below hb); have d2 := G2.out.cells.1; have fz2 : w2.frozen? ⟨h, 0, none⟩ = false := frozen_of_row _ _ _ _ _ G2.out.hd; have B2 := Lib.hid (below_next B1.out hb); clear hr hb)))
  all_goals
    go_wp2_with fail
    refine bodyPost_ret (v := .tuple #[]) (by simp [results, Tryd.results88, go_sem]) rfl ?_
    refine ⟨rfl, ⟨_, _, by rw [HM2.out]; exact G2.out.setKinds R2.out HL2.out, Rows0.kinds Q2.out B1.out.size⟩, ?_⟩
    exact (Frm.of_below [h] B2.out).trans (Frm.setCell (fp := [h]) (p := ⟨h, 0, none⟩) _ (List.mem_singleton.2 rfl) _) (fun k hk => .inl hk)
end
end Go.Proofs.YtfocdbflmodfhaaDoor

/- The reference's heap: Give, of a small class; New. -/
namespace Go.Proofs.YtfocdbflmodfhaaDoor
open Go.RowKit

def hpNew (kv : Value) (t : Int) : Array Value := hpC kv (List.replicate 64 (.slice none 0 0)) (List.replicate 45 (.int .i64 0) ++ [.int .i64 t, .slice none 0 0, .int .i64 0])
section
variable {base h : Nat} {w : World} {kv : Value} {fv rest : List Value} {ks : List Int} {F : Nat → List Int}
set_option maxHeartbeats 4000000 in
set_option maxRecDepth 100000 in
theorem ggive_small (H0 : Hp base w h kv fv rest ks F) (hb0 : base ≤ w.heap.size) (a q : Nat) (ha : a < 2048) (hq : a / 32 = q) (hl : q < ks.length) (k : Int) (hk : ks.getD q 0 = k) (h1 : 1 ≤ k) (h4 : k ≤ 4) (hF : (F q).length < 32) :
    Calls Tryd.prog 88 #[.pointer (some ⟨h, 0, none⟩), .int .i64 a] w fun e w' => e = .returned (.tuple #[]) ∧ HpE base h rest ks (upd F q (((a : Int) % 32 / sizeI k) :: F q)) w.heap.size (hrows kv fv) w' ∧ Frm [h] w w' := by
  have H := Lib.hid H0
  have HB := Lib.hid hb0
  have HF := Lib.hid hF
  have hq64 : q < 64 := by have := H0.kl; omega
  have HQ := Lib.hid hq64
  obtain ⟨c0, cf⟩ := H0.cells
  obtain ⟨A, cap, rfl, -⟩ := H0.kr.slice
  obtain ⟨b, rfl, kc⟩ := H0.kr.at_.2 q hl
  rw [hk] at kc
  obtain ⟨hp0, hp1⟩ := sizeI_pos ⟨h1, h4⟩
  have hp2 : 0 < sizeI k := by omega
  have e1 : (a : Int) / 32 = (q : Int) := by omega
  have a0 : (0 : Int) ≤ (a : Int) := by omega
  have a1 : (a : Int) < 2048 := by omega
  have q1 : (0 : Int) ≤ (q : Int) := by omega
  have q2 : (q : Int) < (ks.length : Int) := by omega
  have q3 : (q : Int) < 64 := by omega
  have k5 : (k == 5) = false := by simp; omega
  obtain ⟨r, hr⟩ : ∃ r, r = (a : Int) % 32 / sizeI k := ⟨_, rfl⟩
  have HR := Lib.hid hr
  have r0 : 0 ≤ (a : Int) % 32 := by omega
  have r1 : (a : Int) % 32 < 32 := by omega
  replace hr := hr.symm
  clear H0 hk hq ha hl hF cf
  go_enter Tryd.func88, Tryd.ntmps88
  go_wp2_with (first
    | (go_at_call 15; refine (rsize_any _ _).mono ?_; rintro e w1 ⟨rfl, hb⟩; have B1 := Lib.hid hb; have G1 := Lib.hid (H.out.below hb); clear hb)
    | (at_builtin; refine wpList_append_num rfl (.tmp 33) (.tmp 39) (by rfl) w.heap.size w _ [] r (by rfl) (IRow.nil _ _) (by rfl) (by simp) B1.out B1.out.size ?_; intro v' w2 hr1 hb1 hgrow; have R2 := Lib.hid hr1; have B2 := Lib.hid hb1; have G2 := Lib.hid (H.out.below hb1); have d2 := G2.out.cells.2 q HQ.out; clear hr1 hb1 hgrow)
    | (at_builtin; refine wpList_append_off rfl (.tmp 41) (.tmp 47) (by rfl) w.heap.size base w _ _ [r] (F q) (by rfl) R2.out (by rfl) (G2.out.fr q HQ.out) (by simp) B2.out B2.out.size ?_; intro v' w3 hr3 hb3; obtain ⟨pa, ca, rfl, -⟩ := hr3.slice; have R3 := Lib.hid hr3; have B3 := Lib.hid hb3; have G3 := Lib.hid (H.out.below hb3); have d3 := G3.out.cells.2 q HQ.out; have fz3 : w3.frozen? ⟨h, 1 + q, none⟩ = false := frozen_of_row _ _ _ _ _ G3.out.hd; clear hr3 hb3))
  go_end0
  refine ⟨rfl, ⟨_, _, by rw [← HR.out]; exact G3.out.setFree HQ.out ((R3.out.mono HB.out).off (by simp; have := HF.out; omega)), Rows0.free fun g hg => .inr (R3.out.oblk g (rblk_oblk hg)).1⟩, ?_⟩
  exact (Frm.of_below [h] B3.out).trans (Frm.setCell (fp := [h]) (p := ⟨h, 1 + q, none⟩) _ (List.mem_singleton.2 rfl) _) (fun k hk => .inl hk)
end
end Go.Proofs.YtfocdbflmodfhaaDoor

/- The reference's heap: New. -/
namespace Go.Proofs.YtfocdbflmodfhaaDoor
open Go.RowKit

def restN (t : Int) : List Value := List.replicate 45 (.int .i64 0) ++ [.int .i64 t, .slice none 0 0, .int .i64 0]
def HpNew (base : Nat) (n : Nat) (t : Int) (e : Ending) (w' : World) : Prop := ∃ h kv fv, e = .returned (.pointer (some ⟨h, 0, none⟩)) ∧ Hp base w' h kv fv (restN t) (List.replicate n 0) (fun _ => []) ∧ ∀ x ∈ hrows kv fv, base ≤ x
theorem hp_new {base : Nat} {w : World} {h n : Nat} {kv : Value} {t : Int} (hd : w.heap[h]? = some (.cells (hpC kv (List.replicate 64 (.slice none 0 0)) (restN t)) 80 (0, 0))) (ho : base ≤ h) (hk : IRow base w kv (List.replicate n 0)) (hn : n ≤ 64) :
    Hp base w h kv (List.replicate 64 (.slice none 0 0)) (restN t) (List.replicate n 0) (fun _ => []) :=
  ⟨hd, ho, by simp, hk, by simpa using hn, fun p hp => by
    rw [List.getD_eq_getElem?_getD, List.getElem?_replicate, if_pos hp]
    exact OffR.empty _ _⟩
theorem zero_hp (kv : Value) (t : Int) : (Tryd.zeroCells80.setIfInBounds 0 kv).setIfInBounds 110 (.int .i64 t) = hpC kv (List.replicate 64 (.slice none 0 0)) (restN t) := by rfl
set_option maxHeartbeats 2000000 in
set_option maxRecDepth 100000 in
theorem gnew_any (n t : Int) (w : World) :
    Calls Tryd.prog 19 #[.int .i64 n, .int .i64 t] w fun e w' => HpNew w.heap.size (clampN n 0 64).toNat (clampN t 0 9) e w' ∧ Below w.heap.size w w' := by
  have hb := clampN_bd (a := n) (lo := 0) (hi := 64) (by omega)
  obtain ⟨p, hp⟩ := Int.eq_ofNat_of_zero_le hb.1
  have HP := Lib.hid (show (clampN n 0 64).toNat = p by omega)
  have HP64 := Lib.hid (show p ≤ 64 by omega)
  clear hb hp
  have fin : ∀ (w1 : World) (kv : Value) (u : Int), clampN t 0 9 = u → IRow w.heap.size w1 kv (List.replicate p 0) → Below w.heap.size w w1 →
      HpNew w.heap.size (clampN n 0 64).toNat (clampN t 0 9) (.returned (.pointer (some ⟨w1.heap.size, 0, none⟩))) (w1.alloc (.cells ((Tryd.zeroCells80.setIfInBounds 0 kv).setIfInBounds 110 (.int .i64 u)) 80)) ∧
      Below w.heap.size w (w1.alloc (.cells ((Tryd.zeroCells80.setIfInBounds 0 kv).setIfInBounds 110 (.int .i64 u)) 80)) := by
    intro w1 kv u hu hr hb
    rw [HP.out, hu, zero_hp]
    refine ⟨⟨w1.heap.size, kv, _, rfl, hp_new (heap_alloc_new w1 _) hb.size (hr.below (below_alloc0 w1 _)) HP64.out, fun x hx => ?_⟩, hb.alloc hb.size _⟩
    rcases hrows_mem.1 hx with h1 | ⟨v, hv, h1⟩
    · exact (hr.oblk x h1).1
    · rw [List.eq_of_mem_replicate hv] at h1; cases h1
  have FIN := Lib.hid fin
  clear fin
  by_cases t0 : t < 0
  · have HT := Lib.hid (show clampN t 0 9 = 0 by unfold clampN; rw [if_pos t0])
    have t9 : decide (9 < t) = false := by rw [decide_eq_false_iff_not]; omega
    go_enter Tryd.func19, Tryd.ntmps19
    go_wp2_with (go_at_call 55; refine (fnew_any n _).mono ?_; rw [HP.out]; rintro e w1 ⟨⟨A1, n1, q1, rfl, hr⟩, hb⟩; have R1 := Lib.hid hr; have B1 := Lib.hid hb; clear hr hb)
    go_ret
    exact FIN.out _ _ _ HT.out R1.out B1.out
  · by_cases t9 : 9 < t
    · have HT := Lib.hid (show clampN t 0 9 = 9 by unfold clampN; rw [if_neg t0, if_pos t9])
      go_enter Tryd.func19, Tryd.ntmps19
      go_wp2_with (go_at_call 55; refine (fnew_any n _).mono ?_; rw [HP.out]; rintro e w1 ⟨⟨A1, n1, q1, rfl, hr⟩, hb⟩; have R1 := Lib.hid hr; have B1 := Lib.hid hb; clear hr hb)
      go_ret
      exact FIN.out _ _ _ HT.out R1.out B1.out
    · have HT := Lib.hid (show clampN t 0 9 = t by unfold clampN; rw [if_neg t0, if_neg t9])
      go_enter Tryd.func19, Tryd.ntmps19
      go_wp2_with (go_at_call 55; refine (fnew_any n _).mono ?_; rw [HP.out]; rintro e w1 ⟨⟨A1, n1, q1, rfl, hr⟩, hb⟩; have R1 := Lib.hid hr; have B1 := Lib.hid hb; clear hr hb)
      go_ret
      exact FIN.out _ _ _ HT.out R1.out B1.out
end Go.Proofs.YtfocdbflmodfhaaDoor

/- The reference's heap: Drop. -/
namespace Go.Proofs.YtfocdbflmodfhaaDoor
open Go.RowKit

def gdropP (ks : List Int) (F : Nat → List Int) (p : Int) : Prop := 0 < sizeI (kindL ks p) ∧ cellsI (kindL ks p) ≤ ((F p.toNat).length : Int)
section
variable {base h : Nat} {w : World} {kv : Value} {fv rest : List Value} {ks : List Int} {F : Nat → List Int}
set_option maxHeartbeats 2000000 in
set_option maxRecDepth 100000 in
theorem gdrop_no (H0 : Hp base w h kv fv rest ks F) (p : Int) (hd : ¬ gdropP ks F p) :
    Calls Tryd.prog 59 #[.pointer (some ⟨h, 0, none⟩), .int .i64 p] w fun e w' => e = .returned (.bool false) ∧ Below w.heap.size w w' := by
  have H := Lib.hid H0
  obtain ⟨c0, cf⟩ := H0.cells
  obtain ⟨A, cap, rfl, -⟩ := H0.kr.slice
  have hsb := (sizeI_bd (kindL ks p)).1
  by_cases hs : 0 < sizeI (kindL ks p)
  · obtain ⟨hp0, hp1⟩ := small_in hs
    obtain ⟨q, rfl⟩ := Int.eq_ofNat_of_zero_le hp0
    have hq : q < 64 := by have := H0.kl; omega
    have cq := cf q hq
    obtain ⟨A', n', cap', e1, e2, -⟩ := H0.fr q hq
    rw [e1] at cq
    have hlt : ((n' : Int) < cellsI (kindL ks q)) := by
      apply Decidable.byContradiction; intro hc
      exact hd ⟨hs, by rw [Int.toNat_natCast, ← e2]; omega⟩
    have z1 : (sizeI (kindL ks q) == 0) = false := by simp; omega
    have z2 : decide ((n' : Int) < cellsI (kindL ks q)) = true := by simpa using hlt
    have q1 : (0 : Int) ≤ (q : Int) := by omega
    have q2 : (q : Int) < 64 := by omega
    clear H0 cf hs hsb e1 e2 hp0 hp1 hd hlt
    go_enter Tryd.func59, Tryd.ntmps59
    go_wp2_with (go_at_call 62; refine (fkind_any H.out.kr _).mono ?_; rintro e w' ⟨rfl, rfl⟩)
    go_region_held3 (fun w' => w'.cell? ⟨h, 1 + q, none⟩ = some (.slice A' n' cap') ∧ Below w.heap.size w w')
      (first
        | exact ⟨cq, (Below.refl _ _).drew⟩
        | (go_split_ands; exact ⟨cell_keep hb5 (by assumption), below_next (by assumption) hb5⟩))
      (first
        | (go_at_call 15; refine (rsize_any _ _).mono ?_; rintro e w5 ⟨rfl, hb5⟩)
        | (go_at_call 89; refine (rcells_any _ _).mono ?_; rintro e w5 ⟨rfl, hb5⟩))
    go_wp2_with fail
    go_split_ands
    go_ret
    exact ⟨rfl, by assumption⟩
  · have z1 : (sizeI (kindL ks p) == 0) = true := by simp; omega
    clear H0 cf hs hsb hd
    go_enter Tryd.func59, Tryd.ntmps59
    go_wp2_with (go_at_call 62; refine (fkind_any H.out.kr _).mono ?_; rintro e w' ⟨rfl, rfl⟩)
    first
      | (go_region_with ((go_at_call 15; refine (rsize_any _ _).mono ?_; rintro e w5 ⟨rfl, hb5⟩; have B5 : Hid (Below w.heap.size w w5) := Lib.hid ((Below.refl _ _).drew.trans hb5); clear hb5)))
      | fail
    all_goals
      go_wp2_with fail
      go_ret
      exact ⟨rfl, B5.out⟩
set_option maxHeartbeats 2000000 in
set_option maxRecDepth 100000 in
theorem gdrop_yes (H0 : Hp base w h kv fv rest ks F) (hb0 : base ≤ w.heap.size) (q : Nat) (hd : gdropP ks F q) :
    Calls Tryd.prog 59 #[.pointer (some ⟨h, 0, none⟩), .int .i64 q] w fun e w' => e = .returned (.bool true) ∧ HpE base h rest (setL ks q 1 0) F w.heap.size (hrows kv fv) w' ∧ Frm [h] w w' := by
  have H := Lib.hid H0
  have HB := Lib.hid hb0
  obtain ⟨c0, cf⟩ := H0.cells
  obtain ⟨A, cap, rfl, -⟩ := H0.kr.slice
  obtain ⟨hs, hl⟩ := hd
  obtain ⟨hp0, hp1⟩ := small_in hs
  have hq : q < 64 := by have := H0.kl; omega
  have cq := cf q hq
  obtain ⟨A', n', cap', e1, e2, -⟩ := H0.fr q hq
  rw [e1] at cq
  rw [Int.toNat_natCast, ← e2] at hl
  have z1 : (sizeI (kindL ks q) == 0) = false := by simp; omega
  have z2 : decide ((n' : Int) < cellsI (kindL ks q)) = false := by simpa using hl
  have q1 : (0 : Int) ≤ (q : Int) := by omega
  have q2 : (q : Int) < 64 := by omega
  have HL := Lib.hid (show ks.length ≤ 999999 by have := H0.kl; omega)
  have HQ := Lib.hid (show q + 1 ≤ 999999 by omega)
  have HL2 := Lib.hid (show (setL ks q 1 0).length ≤ 64 by rw [setL_len]; exact H0.kl)
  clear H0 cf hs e1 e2 hp0 hp1 hl
  go_enter Tryd.func59, Tryd.ntmps59
  go_wp2_with (go_at_call 62; refine (fkind_any H.out.kr _).mono ?_; rintro e w' ⟨rfl, rfl⟩)
  go_region_held3 (fun w' => w'.cell? ⟨h, 1 + q, none⟩ = some (.slice A' n' cap') ∧ Below w.heap.size w w')
    (first
      | exact ⟨cq, (Below.refl _ _).drew⟩
      | (go_split_ands; exact ⟨cell_keep hb5 (by assumption), below_next (by assumption) hb5⟩))
    (first
      | (go_at_call 15; refine (rsize_any _ _).mono ?_; rintro e w5 ⟨rfl, hb5⟩)
      | (go_at_call 89; refine (rcells_any _ _).mono ?_; rintro e w5 ⟨rfl, hb5⟩))
  go_split_ands
  have hb6 : Below w.heap.size w w5 := by assumption
  have H5 := Lib.hid (H.out.below hb6)
  have B5 := Lib.hid hb6
  have c5 := H5.out.cells.1
  clear hb6
  go_wp2_with (go_at_call 90; refine (fset_any H5.out.kr HL.out q 1 HQ.out 0).mono ?_; rintro e w6 ⟨⟨A2, n2, q2, rfl, hr⟩, hb⟩; have B6 := Lib.hid (below_next B5.out hb); have R2 := Lib.hid (hr.mono (Nat.le_trans HB.out B5.out.size)); have Q2 := Lib.hid (fun g hg => (hr.oblk g hg).1); have H6 := Lib.hid (H5.out.below hb); have fz2 : w6.frozen? ⟨h, 0, none⟩ = false := frozen_of_row _ _ _ _ _ H6.out.hd; have d2 := H6.out.cells.1; clear hr hb)
  go_ret
  refine ⟨rfl, ⟨_, _, H6.out.setKinds R2.out HL2.out, Rows0.kinds Q2.out B5.out.size⟩, ?_⟩
  exact (Frm.of_below [h] B6.out).trans (Frm.setCell (fp := [h]) (p := ⟨h, 0, none⟩) _ (List.mem_singleton.2 rfl) _) (fun k hk => .inl hk)
end
end Go.Proofs.YtfocdbflmodfhaaDoor
