/- An append onto a row of the call's own, the source nil or not. -/
import Derived.Test.YtjoejjhgneccgaaGreatDoorQSN02
import Derived.Test.YtjoejjhgneccgaaGreatDoorQSN16
import Derived.Test.YtjoejjhgneccgaaGreatDoorQSN17
import Derived.Test.YtjoejjhgneccgaaGreatDoorQSN19
import Derived.Deep.AppendSrc
namespace Go.Proofs.YtjoejjhgneccgaaGreatDoor
open Go.RowKit

theorem run_append_none {P : Program} (w : World) (base : Nat) (t ty e : TypeId) (i : TypeInfo) (size : Nat) (ht : P.underlying t = some (.slice e)) (hi : P.info? e = some i)
    (v : Value) (n : Nat) (xs : List Value) (hown : w.ownsRow base e size v n xs) (c : Nat) : (Builtin.append_ #[t, t] ty #[v, .slice none 0 c]).run P w = .ok v w := by
  rcases hown.2 with ⟨rfl, -⟩ | ⟨g, cap, cur, rfl, -, -, hnc, -⟩
  · simp [Builtin.append_, run_underlying ht, sizeOf, typeInfo, hi, Builtin.lenOf, run_firstCells_none]
  · have h := run_append_room_src (P := P) w t t ty e i ht hi g 0 n cap (.slice none 0 c) 0 [] (Src.ofNil w ht c) (by omega) (fun j hj => absurd hj (by simp)) (fun j hj => absurd hj (by simp))
    rw [h]
    have e1 : w.setCells g (0 + n * i.size) [] = w := by
      unfold World.setCells
      simp
    rw [e1, Nat.add_zero]
/-- .. whatever the source is. -/
theorem wpList_append_src {P : Program} (w : World) {ops : Array Oper} {rest : List Oper} {o : Oper} {a : Act} {Q : Exit → Act → World → Prop} (hgd : o.guard = none) (s x : Operand) (t : TypeId)
    (ho : o.op = .call { callee := .builtin .append, args := #[s, x], argTypes := #[t, t] })
    (base : Nat) (e : TypeId) (i : TypeInfo) (z : Value) (size bytes : Nat) (ht : P.underlying t = some (.slice e)) (hi : P.info? e = some i) (hz : i.zero = some z)
    (hsize : i.size = size) (hby : i.bytes = bytes) (hzs : z.cells.size = size) (hsz : 0 < size)
    (v : Value) (n : Nat) (xs : List Value) (hs : a.eval s = v) (hown : w.ownsRow base e size v n xs)
    (A : Option Addr) (m c : Nat) (news : List Value) (hx : a.eval x = .slice A m c) (hl : news.length = m * size) (h0 : A = none → m = 0) (hnews : ∀ ad, A = some ad → ∀ j u, news[j]? = some u → w.cell? (ad.add j) = some u) (h1 : ∀ u ∈ news, u.oneCell' = true)
    (h63 : n + m ≤ maxLen) (hbytes : (n + m) * bytes ≤ 140737488355328) (hbase : base ≤ w.heap.size)
    (h : ∀ v' w', w'.ownsRow base e size v' (n + m) (xs ++ news) → w.grownBy w' v.ownBlock → wpList P ops Q rest (a.put o.dst v') w') : wpList P ops Q (o :: rest) a w := by
  cases A with
  | some ad => exact wpList_append_own w hgd s x t ho base e i z size bytes ht hi hz hsize hby hzs hsz v n xs hs hown ad m c news hx hl (hnews ad rfl) h1 h63 hbytes hbase fun v' w' h2 h3 _ => h v' w' h2 h3
  | none =>
    obtain rfl := h0 rfl
    obtain rfl : news = [] := List.eq_nil_of_length_eq_zero (by simpa using hl)
    refine wpList_plain hgd fun K hK => ?_
    unfold Oper.wp execOp
    simp only [ho, resolve, invoke, builtin, Sem.run_bind, Sem.run_pure, Result.andThen_ok, List.map_toArray, List.map_cons, List.map_nil, hs, hx, run_append_none w base t o.type e i size ht hi v n xs hown c]
    refine hK _ _ (h _ w ?_ (World.grownBy.refl w _))
    rw [Nat.add_zero, List.append_nil]; exact hown
end Go.Proofs.YtjoejjhgneccgaaGreatDoor

/- The reference's heap: Give. -/
namespace Go.Proofs.YtjoejjhgneccgaaGreatDoor
open Go.RowKit

/-- A row that is read is put behind one of the call's own. -/
theorem wpList_append_off {w : World} {ops : Array Oper} {rest : List Oper} {o : Oper} {a : Act} {Q : Exit → Act → World → Prop} (hgd : o.guard = none) (s x : Operand)
    (ho : o.op = .call { callee := .builtin .append, args := #[s, x], argTypes := #[44, 44] }) (base b2 : Nat) (w0 : World) (v v2 : Value) (xs ys : List Int)
    (hs : a.eval s = v) (hown : IRow base w v xs) (hx : a.eval x = v2) (hoff : OffR b2 w v2 ys) (hn : xs.length ≤ 1000000) (hB : Below base w0 w) (hb : base ≤ w.heap.size)
    (h : ∀ v' w', IRow base w' v' (xs ++ ys) → Below base w0 w' → wpList Tryz.prog ops Q rest (a.put o.dst v') w') : wpList Tryz.prog ops Q (o :: rest) a w := by
  obtain ⟨i0, hi, hz0, hz1, hz2⟩ := info_parts info_num
  obtain ⟨A, n, cap, rfl, h2, h3, h4, h5⟩ := hoff
  have hys : (ys.map (Value.int .i64)).length = n := by rw [List.length_map, h2]
  refine wpList_append_src w hgd s x 44 ho base 3 i0 (.int .i64 0) 1 8 Tryz.underlying44 hi hz0 hz1 hz2 rfl (by decide) v xs.length _ hs hown A n cap (ys.map (Value.int .i64)) hx (by rw [hys, Nat.mul_one])
    (fun e => Decidable.byContradiction fun hc => ?_) (fun ad e j u hj => ?_) (ints_one ys) (by unfold maxLen; omega) (by omega) hb ?_
  · obtain ⟨g, o', e1, -⟩ := h5 (by omega)
    rw [e] at e1; cases e1
  · have hjn : j < n := by
      have := (List.getElem?_eq_some_iff.1 hj).1
      rwa [hys] at this
    obtain ⟨g, o', e1, -, -, e4⟩ := h5 (by omega)
    rw [e] at e1
    cases e1
    have hadd : (⟨g, o', none⟩ : Addr).add j = ⟨g, o' + j, none⟩ := by unfold Addr.add; split <;> simp_all
    rw [hadd, e4 j hjn, ← hj, List.getElem?_map, List.getD_eq_getElem?_getD, List.getElem?_eq_getElem (by omega)]; rfl
  · intro v' w1 hown' hgrow
    refine h v' w1 ?_ (hB.grown hgrow hb (own_base hown))
    unfold IRow
    rw [List.length_append, List.map_append, ← h2]
    exact hown'
section
variable {base h : Nat} {w : World} {kv : Value} {fv rest : List Value} {ks : List Int} {F : Nat → List Int}
set_option maxHeartbeats 4000000 in
set_option maxRecDepth 100000 in
theorem ggive_large (H0 : Hp base w h kv fv rest ks F) (hb0 : base ≤ w.heap.size) (a q : Nat) (ha : a < 2048) (hq : a / 32 = q) (hl : q < ks.length) (hk : ks.getD q 0 = 5) :
    Calls Tryz.prog 204 #[.pointer (some ⟨h, 0, none⟩), .int .i64 a] w fun e w' => e = .returned (.tuple #[]) ∧ HpE base h rest (setL ks q (sizeL ks q).toNat 0) F w.heap.size (hrows kv fv) w' ∧ Frm [h] w w' := by
  have H := Lib.hid H0
  have HB := Lib.hid hb0
  have hsz := sizeL_bd ks q
  obtain ⟨m, hm⟩ := Int.eq_ofNat_of_zero_le hsz.1
  have HM := Lib.hid hm
  have HM2 := Lib.hid (show (sizeL ks q).toNat = m by omega)
  have hkl := H0.kl
  have HS := Lib.hid (show q + m ≤ 999999 by omega)
  have HL := Lib.hid (show ks.length ≤ 999999 by omega)
  have HL2 := Lib.hid (show (setL ks q m 0).length ≤ 64 by rw [setL_len]; exact hkl)
  have HKL := Lib.hid hkl
  obtain ⟨c0, -⟩ := H0.cells
  obtain ⟨A, cap, rfl, -⟩ := H0.kr.slice
  obtain ⟨b, rfl, kc⟩ := H0.kr.at_.2 q hl
  rw [hk] at kc
  have e1 : (a : Int) / 32 = (q : Int) := by omega
  have a0 : (0 : Int) ≤ (a : Int) := by omega
  have a1 : (a : Int) < 2048 := by omega
  have q1 : (0 : Int) ≤ (q : Int) := by omega
  have q2 : (q : Int) < (ks.length : Int) := by omega
  clear H0 hm hsz hkl hk hq ha hl
  go_enter Tryz.func204, Tryz.ntmps204
  go_wp2_with fail
  have G0 : Hid (Hp base w.drew h (Value.slice (some ⟨b, 0, none⟩) ks.length cap) fv rest ks F) := Lib.hid (H.out.below (Below.refl _ _).drew)
  have B0 : Hid (Below w.heap.size w w.drew) := Lib.hid (Below.refl _ _).drew
  go_region_with ((first
    | (go_at_call 218; (with_reducible refine (fsize_any G0.out.kr HKL.out q).mono ?_); rw [HM.out]; rintro e w1 ⟨rfl, hb⟩; have G1 := Lib.hid (G0.out.below hb); have d1 := G1.out.cells.1; have B1 := Lib.hid (below_next B0.out hb); clear hb)
    | (go_at_call 180; refine (fset_any G1.out.kr HL.out q m HS.out 0).mono ?_; rintro e w2 ⟨⟨A2, n2, q2, rfl, hr⟩, hb⟩; have R2 := Lib.hid (hr.mono (Nat.le_trans HB.out B1.out.size)); have Q2 := Lib.hid (fun g hg => (hr.oblk g hg).1); have G2 := Lib.hid (G1.out.below hb); have d2 := G2.out.cells.1; have fz2 : w2.frozen? ⟨h, 0, none⟩ = false := frozen_of_row _ _ _ _ _ G2.out.hd; have B2 := Lib.hid (below_next B1.out hb); clear hr hb)))
  all_goals
    go_wp2_with fail
    refine bodyPost_ret (v := .tuple #[]) (by simp [results, Tryz.results204, go_sem]) rfl ?_
    refine ⟨rfl, ⟨_, _, by rw [HM2.out]; exact G2.out.setKinds R2.out HL2.out, Rows0.kinds Q2.out B1.out.size⟩, ?_⟩
    exact (Frm.of_below [h] B2.out).trans (Frm.setCell (fp := [h]) (p := ⟨h, 0, none⟩) _ (List.mem_singleton.2 rfl) _) (fun k hk => .inl hk)
end
end Go.Proofs.YtjoejjhgneccgaaGreatDoor

/- plain.Rising: numbers, each once, the least first. -/
namespace Go.Proofs.YtjoejjhgneccgaaGreatDoor
open Go.RowKit

/-- How many stand ahead that are less. -/
def lessN (out : List Int) (x : Int) : Nat := (out.takeWhile (fun y => decide (y < x))).length
theorem lessN_le (out : List Int) (x : Int) : lessN out x ≤ out.length := by
  unfold lessN
  exact (List.takeWhile_sublist _).length_le
theorem lessN_lt : ∀ (out : List Int) (x : Int) (j : Nat), j < lessN out x → out.getD j 0 < x
  | [], x, j, h => absurd h (by simp [lessN])
  | y :: out, x, j, h => by
    unfold lessN at h
    rw [List.takeWhile_cons] at h
    split at h
    · rename_i hy
      cases j with
      | zero => simpa using hy
      | succ j =>
        have := lessN_lt out x j (by unfold lessN; simpa using h)
        simpa using this
    · simp at h
theorem lessN_at : ∀ (out : List Int) (x : Int), lessN out x < out.length → x ≤ out.getD (lessN out x) 0
  | [], x, h => absurd h (by simp)
  | y :: out, x, h => by
    by_cases hy : y < x
    · have e : lessN (y :: out) x = lessN out x + 1 := by unfold lessN; rw [List.takeWhile_cons, if_pos (by simpa using hy)]; rfl
      rw [e] at h ⊢
      have := lessN_at out x (by simpa using h)
      simpa using this
    · have e : lessN (y :: out) x = 0 := by unfold lessN; rw [List.takeWhile_cons, if_neg (by simpa using hy)]; rfl
      rw [e]
      simp; omega
theorem lessN_eq {out : List Int} {x : Int} {k : Nat} (h1 : ∀ j, j < k → out.getD j 0 < x) (hk : k ≤ out.length) (h2 : k < out.length → x ≤ out.getD k 0) : lessN out x = k := by
  have a := lessN_le out x
  rcases Nat.lt_trichotomy (lessN out x) k with h | h | h
  · have := lessN_at out x (by omega)
    have := h1 _ h
    omega
  · exact h
  · have := lessN_lt out x k h
    have := h2 (by omega)
    omega
def insL (out : List Int) (x : Int) : List Int := out.take (lessN out x) ++ [x] ++ out.drop (lessN out x)
def risN (out : List Int) (x : Int) : List Int := if x ∈ out then out else insL out x
def risL (l : List Int) : List Int := l.foldl risN []
theorem insL_len (out : List Int) (x : Int) : (insL out x).length = out.length + 1 := by
  have := lessN_le out x
  unfold insL
  simp; omega
theorem risN_len (out : List Int) (x : Int) : (risN out x).length ≤ out.length + 1 := by
  unfold risN
  split
  · omega
  · rw [insL_len]; exact Nat.le_refl _
theorem risL_snoc (l : List Int) (x : Int) : risL (l ++ [x]) = risN (risL l) x := by unfold risL; rw [List.foldl_append]; rfl
theorem risL_take {l : List Int} {i : Nat} (h : i < l.length) : risL (l.take (i + 1)) = risN (risL (l.take i)) (l.getD i 0) := by
  rw [List.take_succ_eq_append_getElem h, risL_snoc, List.getD_eq_getElem?_getD, List.getElem?_eq_getElem h]; rfl
theorem risL_len (l : List Int) : ∀ i, i ≤ l.length → (risL (l.take i)).length ≤ i
  | 0, _ => by simp [risL]
  | i + 1, h => by
    rw [risL_take (by omega)]
    have := risL_len l i (by omega)
    have := risN_len (risL (l.take i)) (l.getD i 0)
    omega
theorem mem_insL {out : List Int} {x y : Int} : y ∈ insL out x ↔ y = x ∨ y ∈ out := by
  unfold insL
  rw [List.mem_append, List.mem_append, List.mem_singleton]
  constructor
  · rintro ((h | h) | h)
    · exact .inr (List.mem_of_mem_take h)
    · exact .inl h
    · exact .inr (List.mem_of_mem_drop h)
  · rintro (h | h)
    · exact .inl (.inr h)
    · rw [← List.take_append_drop (lessN out x) out, List.mem_append] at h
      rcases h with h | h
      · exact .inl (.inl h)
      · exact .inr h
theorem mem_risN {out : List Int} {x y : Int} : y ∈ risN out x ↔ y = x ∨ y ∈ out := by
  unfold risN
  split
  · rename_i h
    exact ⟨.inr, fun h2 => h2.elim (fun e => e ▸ h) id⟩
  · exact mem_insL
theorem mem_foldl_risN (l : List Int) : ∀ (out : List Int) (y : Int), y ∈ l.foldl risN out ↔ y ∈ out ∨ y ∈ l := by
  induction l with
  | nil => intro out y; simp
  | cons x l ih =>
    intro out y
    rw [List.foldl_cons, ih, mem_risN, List.mem_cons]
    constructor
    · rintro ((h | h) | h)
      · exact .inr (.inl h)
      · exact .inl h
      · exact .inr (.inr h)
    · rintro (h | h | h)
      · exact .inl (.inr h)
      · exact .inl (.inl h)
      · exact .inr h
theorem mem_risL {l : List Int} {y : Int} : y ∈ risL l ↔ y ∈ l := by
  unfold risL; rw [mem_foldl_risN]; simp
theorem getD_take {l : List Int} {k j : Nat} (h : j < k) : (l.take k).getD j 0 = l.getD j 0 := by
  rw [List.getD_eq_getElem?_getD, List.getD_eq_getElem?_getD, List.getElem?_take, if_pos h]
theorem insL_sorted {out : List Int} {x : Int} (h : out.Pairwise (· < ·)) (hx : x ∉ out) : (insL out x).Pairwise (· < ·) := by
  have hl := lessN_le out x
  have low : ∀ y ∈ out.take (lessN out x), y < x := by
    intro y hy
    obtain ⟨j, hj, e⟩ := List.getElem_of_mem hy
    rw [List.length_take] at hj
    have h1 := lessN_lt out x j (by omega)
    rw [← getD_take (k := lessN out x) (by omega), List.getD_eq_getElem?_getD, List.getElem?_eq_getElem (by rw [List.length_take]; omega)] at h1
    rw [← e]; simpa using h1
  have high : ∀ y ∈ out.drop (lessN out x), x < y := by
    intro y hy
    obtain ⟨j, hj, e⟩ := List.getElem_of_mem hy
    rw [List.length_drop] at hj
    have h1 := lessN_at out x (by omega)
    have h2 : y ∈ out := List.mem_of_mem_drop hy
    have h3 : y ≠ x := fun e => hx (e ▸ h2)
    rw [List.getElem_drop] at e
    have h4 : out.getD (lessN out x) 0 ≤ y := by
      rw [List.getD_eq_getElem?_getD, List.getElem?_eq_getElem (by omega)]
      by_cases e0 : j = 0
      · subst e0; simp only [Nat.add_zero] at e; simp [e]
      · have := List.pairwise_iff_getElem.1 h (lessN out x) (lessN out x + j) (by omega) (by omega) (by omega)
        simp only [Option.getD_some]
        rw [e] at this
        omega
    omega
  unfold insL
  rw [List.pairwise_append, List.pairwise_append]
  refine ⟨⟨h.sublist (List.take_sublist _ _), List.pairwise_singleton _ _, fun y hy z hz => ?_⟩, h.sublist (List.drop_sublist _ _), fun y hy z hz => ?_⟩
  · rw [List.mem_singleton.1 hz]; exact low y hy
  · rw [List.mem_append, List.mem_singleton] at hy
    have := high z hz
    rcases hy with hy | rfl
    · have := low y hy; omega
    · exact this
theorem risN_sorted {out : List Int} {x : Int} (h : out.Pairwise (· < ·)) : (risN out x).Pairwise (· < ·) := by
  unfold risN
  split
  · exact h
  · rename_i hx; exact insL_sorted h hx
theorem risL_sorted (l : List Int) : (risL l).Pairwise (· < ·) := by
  unfold risL
  have : ∀ (l out : List Int), out.Pairwise (· < ·) → (l.foldl risN out).Pairwise (· < ·) := by
    intro l
    induction l with
    | nil => intro out h; exact h
    | cons x l ih => intro out h; exact ih _ (risN_sorted h)
  exact this l [] List.Pairwise.nil
/-- Two rising lists with the same members are one. -/
theorem sorted_ext : ∀ {a b : List Int}, a.Pairwise (· < ·) → b.Pairwise (· < ·) → (∀ y, y ∈ a ↔ y ∈ b) → a = b
  | [], [], _, _, _ => rfl
  | [], y :: b, _, _, h => absurd ((h y).2 (by simp)) (by simp)
  | x :: a, [], _, _, h => absurd ((h x).1 (by simp)) (by simp)
  | x :: a, y :: b, ha, hb, h => by
    rw [List.pairwise_cons] at ha hb
    have e : x = y := by
      rcases List.mem_cons.1 ((h x).1 (by simp)) with e | hx
      · exact e
      · rcases List.mem_cons.1 ((h y).2 (by simp)) with e | hy
        · exact e.symm
        · have := ha.1 y hy
          have := hb.1 x hx
          omega
    subst e
    rw [sorted_ext ha.2 hb.2 fun z => ?_]
    constructor
    · intro hz
      rcases List.mem_cons.1 ((h z).1 (List.mem_cons_of_mem _ hz)) with e | hz'
      · have := ha.1 z hz; omega
      · exact hz'
    · intro hz
      rcases List.mem_cons.1 ((h z).2 (List.mem_cons_of_mem _ hz)) with e | hz'
      · have := hb.1 z hz; omega
      · exact hz'
end Go.Proofs.YtjoejjhgneccgaaGreatDoor

/- How many words what begins at an address has; where what has a word begins (plain). -/
namespace Go.Proofs.YtjoejjhgneccgaaGreatDoor
open Go.RowKit

/-- How many words what begins at an address has. -/
def bsize (ks : List Int) (a : Nat) : Int := if kindL ks ((a / 32 : Nat) : Int) = 5 then 32 * sizeL ks ((a / 32 : Nat) : Int) else sizeI (kindL ks ((a / 32 : Nat) : Int))
theorem bsize_bd (ks : List Int) (hl : ks.length ≤ 64) (a : Nat) : 0 ≤ bsize ks a ∧ bsize ks a ≤ 2080 := by
  have h1 := sizeL_bd ks ((a / 32 : Nat) : Int)
  have h2 := sizeI_bd (kindL ks ((a / 32 : Nat) : Int))
  unfold bsize
  split <;> omega
/-- What has an address: the first that is found. -/
def inAt (ks : List Int) (x : Int) (a : Int) : Bool := decide (a ≤ x ∧ x < a + bsize ks a.toNat)
def bbase (ks ts : List Int) (x : Int) : Int := (ts.find? (inAt ks x)).getD (-1)
end Go.Proofs.YtjoejjhgneccgaaGreatDoor

/- Cells: given back, dropped, stored to: what is kept; the book's view. -/
namespace Go.Proofs.YtjoejjhgneccgaaGreatDoor
open Go.RowKit

theorem give_kept {C : Cs} {F : Nat → List Int} {z : Nat} (h : Inv C F) (hb : z ∈ bitsN C.ws) (C' : Cs) (hks : C'.ks = C.ks) (hws : C'.ws = bitOff C.ws z) (hxs : ∀ x, x < C.xs.length → x ≠ z → C'.xs.getD x 0 = C.xs.getD x 0) :
    (∀ a, a ∈ bitsN C'.ws ↔ a ≠ z ∧ a ∈ bitsN C.ws) ∧ ∀ a ∈ bitsN C.ws, a ≠ z → Kept C C' a := by
  have hz := (bits_lt h hb).1
  have hle := h.le
  have hlen := h.len
  have hm : ∀ a, a ∈ bitsN C'.ws ↔ a ≠ z ∧ a ∈ bitsN C.ws := fun a => by rw [hws]; exact off_mem h (by omega)
  refine ⟨hm, fun a ha hne => ⟨(hm a).2 ⟨hne, ha⟩, by unfold endN; rw [hks], by rw [hks], fun x h1 h2 => ?_⟩⟩
  have hx := (pages_in h ha h1 h2).1
  refine hxs x (by omega) fun e => ?_
  have := (end_le h hb).1
  rcases apart_ne h ha hb hne h1 h2 with h3 | h3 <;> omega
theorem free_kept {C : Cs} {F : Nat → List Int} (h : Inv C F) (p m : Nat) (C' : Cs) (hks : C'.ks = fillL C.ks p m 0) (hxs : C'.xs = C.xs)
    {a : Nat} (ha : a ∈ bitsN C.ws) (hin : a ∈ bitsN C'.ws) (hne : ∀ x, a ≤ x → x < endN C a → ¬ (p ≤ x / 32 ∧ x / 32 < p + m)) : Kept C C' a := by
  have hlk : C'.ks.length = C.ks.length := by rw [hks, fillL_len]
  obtain ⟨he, hkd⟩ := end_turned (C' := C') h ha hlk (fun q hq hd => by
    have hin : p ≤ q ∧ q < p + m := by
      apply Decidable.byContradiction; intro hn
      rw [hks, fillL_get _ _ _ _ _ hq, if_neg hn] at hd
      exact hd rfl
    refine ⟨fun x h1 h2 e => hne x h1 h2 (by rw [e]; exact hin), .inl ?_⟩
    rw [hks, fillL_get _ _ _ _ _ hq, if_pos hin]; decide)
  exact ⟨hin, he, hkd, fun x _ _ => by rw [hxs]⟩
theorem giveL_kept {C : Cs} {F : Nat → List Int} {z : Nat} (h : Inv C F) (hb : z ∈ bitsN C.ws) (h5 : C.ks.getD (z / 32) 0 = 5) :
    (∀ a, a ∈ bitsN (giveL C z).ws ↔ a ≠ z ∧ a ∈ bitsN C.ws) ∧ (∀ a ∈ bitsN C.ws, a ≠ z → Kept C (giveL C z) a) ∧ (giveL C z).ks = fillL C.ks (z / 32) (sizeL C.ks ((z / 32 : Nat) : Int)).toNat 0 := by
  have hz := (bits_lt h hb).1
  have hle := h.le
  obtain ⟨-, h0, hend, -⟩ := apart_large h hb (by rw [h5]; simp [sizeI])
  have hpg : pageI (z : Int) = ((z / 32 : Nat) : Int) := by rw [pageI_in (by omega) (by omega)]; omega
  have hws : (giveL C z).ws = bitOff C.ws z := by unfold giveL; exact remL_off (has_of h hb)
  have hm : ∀ a, a ∈ bitsN (giveL C z).ws ↔ a ≠ z ∧ a ∈ bitsN C.ws := fun a => by rw [hws]; exact off_mem h (by omega)
  have hks : (giveL C z).ks = fillL C.ks (z / 32) (sizeL C.ks ((z / 32 : Nat) : Int)).toNat 0 := by unfold giveL freeL; rw [hpg, Int.toNat_natCast]
  have hsz : sizeL C.ks ((z / 32 : Nat) : Int) = 1 + (run6 C.ks (z / 32 + 1) : Int) := by
    unfold sizeL
    rw [kindL_in (by omega), h5, if_neg (by simp [sizeI]), if_neg (by simp), Int.toNat_natCast]
  refine ⟨hm, fun a ha hne => ?_, hks⟩
  refine free_kept h (z / 32) _ (giveL C z) hks rfl ha ((hm a).2 ⟨hne, ha⟩) fun x h1 h2 hc => ?_
  have hez : endN C z = z + 32 * (1 + run6 C.ks (z / 32 + 1)) := by
    unfold endN; rw [h5, if_neg (by simp [sizeI])]
  rcases apart_ne h ha hb hne h1 h2 with h3 | h3 <;> omega
theorem drop_all {C : Cs} {F : Nat → List Int} {p : Nat} (h : Inv C F) (hp : p < C.ks.length) (k1 : 1 ≤ C.ks.getD p 0) (k4 : C.ks.getD p 0 ≤ 4) (hl : cellsI (C.ks.getD p 0) ≤ ((F p).length : Int)) : ∀ i, 0 ≤ i → i < cellsI (C.ks.getD p 0) → i ∈ F p := by
  obtain ⟨g1, g2, g3⟩ := h.ln p hp k1 k4
  intro i h0 h1
  apply Decidable.byContradiction; intro hn
  have hfew := few_ints (cellsI (C.ks.getD p 0)).toNat (i :: F p) (List.nodup_cons.2 ⟨hn, g3⟩) (fun x hx => by
    rcases List.mem_cons.1 hx with rfl | hx
    · omega
    · have := g1.mem x hx; omega)
  rw [List.length_cons] at hfew
  omega
theorem drop_kept {C : Cs} {F : Nat → List Int} {p : Nat} (h : Inv C F) (hp : p < C.ks.length) (k1 : 1 ≤ C.ks.getD p 0) (k4 : C.ks.getD p 0 ≤ 4) (hl : cellsI (C.ks.getD p 0) ≤ ((F p).length : Int)) :
    freeL C.ks p = fillL C.ks p 1 0 ∧ (∀ a ∈ bitsN C.ws, a / 32 ≠ p) ∧ ∀ a ∈ bitsN C.ws, Kept C { C with ks := freeL C.ks p } a := by
  have hall := drop_all h hp k1 k4 hl
  have hsp := sizeI_pos ⟨k1, k4⟩
  have hs : sizeL C.ks p = 1 := by unfold sizeL; rw [kindL_in hp, if_pos (by omega)]
  have hf : freeL C.ks p = fillL C.ks p 1 0 := by unfold freeL; rw [hs, Int.toNat_natCast]; rfl
  have hnp : ∀ a ∈ bitsN C.ws, a / 32 ≠ p := fun a ha e => by
    rcases tk_cases (bits_lt h ha).2 with ⟨t1, t2, al, hn⟩ | ⟨t5, -⟩
    · rw [e] at hn
      have := idx_lt ⟨k1, k4⟩ a
      exact hn (hall _ this.1 this.2)
    · rw [e] at t5; omega
  refine ⟨hf, hnp, fun a ha => free_kept h p 1 { C with ks := freeL C.ks p } hf rfl ha ha fun x h1 h2 hc => ?_⟩
  have e : x / 32 = p := by omega
  rcases (pages_in h ha h1 h2).2.2 with ⟨-, e2⟩ | ⟨h5, e2 | h6⟩
  · exact hnp a ha (by omega)
  · rw [← e2, e] at h5; omega
  · rw [e] at h6; omega
/-- The book's size is what is taken's. -/
theorem bsize_end {C : Cs} {F : Nat → List Int} (h : Inv C F) {a : Nat} (ha : a ∈ bitsN C.ws) : (endN C a : Int) = a + bsize C.ks a := by
  have hl := (bits_lt h ha).1
  unfold bsize
  rw [kindL_in (by omega)]
  rcases tk_cases (bits_lt h ha).2 with ⟨t1, t2, -⟩ | ⟨t5, -⟩
  · have := sizeI_pos ⟨t1, t2⟩
    have e : endN C a = a + (sizeI (C.ks.getD (a / 32) 0)).toNat := by unfold endN; rw [if_pos (by omega)]
    rw [e, if_neg (by omega)]
    omega
  · have e : endN C a = a + 32 * (1 + run6 C.ks (a / 32 + 1)) := by unfold endN; rw [t5, if_neg (by simp [sizeI])]
    have e2 : sizeL C.ks ((a / 32 : Nat) : Int) = 1 + (run6 C.ks (a / 32 + 1) : Int) := by
      unfold sizeL
      rw [kindL_in (by omega), t5, if_neg (by simp [sizeI]), if_neg (by simp), Int.toNat_natCast]
    rw [e, e2, if_pos t5]
    omega
theorem mem_bitsI {ws : List (BitVec 64)} {x : Int} : x ∈ bitsI ws ↔ ∃ a : Nat, a ∈ bitsN ws ∧ x = a := by
  unfold bitsI
  rw [List.mem_map]
  exact ⟨fun ⟨a, h1, h2⟩ => ⟨a, h1, h2.symm⟩, fun ⟨a, h1, h2⟩ => ⟨a, h1, h2.symm⟩⟩
theorem bitsI_sorted (ws : List (BitVec 64)) : (bitsI ws).Pairwise (· < ·) := by
  unfold bitsI
  exact (bitsN_sorted ws).map _ fun a b h => Int.ofNat_lt.2 h
theorem bbase_eq {C : Cs} {F : Nat → List Int} (h : Inv C F) (x : Int) : bbase C.ks (bitsI C.ws) x = baseC C x := by
  unfold bbase
  cases hf : (bitsI C.ws).find? (inAt C.ks x) with
  | some y =>
    have h1 := List.find?_some hf
    obtain ⟨a, ha, rfl⟩ := mem_bitsI.1 (List.mem_of_find?_eq_some hf)
    unfold inAt at h1
    rw [decide_eq_true_eq, Int.toNat_natCast, ← bsize_end h ha] at h1
    rw [base_in h ha h1.1 h1.2]; rfl
  | none =>
    rw [List.find?_eq_none] at hf
    by_cases h0 : 0 ≤ baseC C x
    · obtain ⟨a, ha, e, h1, h2⟩ := base_back h h0
      refine absurd ?_ (hf (a : Int) (mem_bitsI.2 ⟨a, ha, rfl⟩))
      unfold inAt
      rw [decide_eq_true_eq, Int.toNat_natCast, ← bsize_end h ha]
      exact ⟨h1, h2⟩
    · unfold baseC at h0 ⊢
      split at h0
      · rename_i hb
        obtain ⟨a, e, -⟩ := has_tk h hb
        omega
      · rename_i hb
        rw [if_neg hb]; rfl
/-- The words of what is taken, as the book has them. -/
def WS (C : Cs) (ws : List Int) : Prop := ∀ a ∈ bitsN C.ws, ∀ x, a ≤ x → x < endN C a → ws.getD x 0 = C.xs.getD x 0
theorem WS.keep {C C' : Cs} {ws : List Int} (h : WS C ws) (hm : ∀ a ∈ bitsN C'.ws, a ∈ bitsN C.ws) (hk : ∀ a ∈ bitsN C'.ws, Kept C C' a) : WS C' ws := fun a ha x h1 h2 => by
  have k := hk a ha
  rw [k.end_] at h2
  rw [h a (hm a ha) x h1 h2, k.xs x h1 h2]
theorem WS.put {C C' : Cs} {F' : Nat → List Int} {ws : List Int} {z n : Nat} (h : WS C ws) (hi : Inv C' F') (hw : ws.length = 2048) (hm : ∀ a, a ∈ bitsN C'.ws ↔ a = z ∨ a ∈ bitsN C.ws) (hz : z ∉ bitsN C.ws) (hk : ∀ a ∈ bitsN C.ws, Kept C C' a)
    (he : endN C' z = z + n) (h0 : ∀ x, z ≤ x → x < endN C' z → C'.xs.getD x 0 = 0) : WS C' (fillL ws z n 0) := fun a ha x h1 h2 => by
  have hle := hi.le
  have hx := (pages_in hi ha h1 h2).1
  rcases (hm a).1 ha with rfl | hb
  · rw [h0 x h1 h2, fillL_get _ _ _ _ _ (by omega), if_pos (by omega)]
  · have k := hk a hb
    have hne : a ≠ z := fun e => hz (e ▸ hb)
    have hap := apart_ne hi ha ((hm z).2 (.inl rfl)) hne h1 h2
    rw [k.end_] at h2
    rw [fillL_get _ _ _ _ _ (by omega), if_neg (by omega), h a hb x h1 h2, k.xs x h1 h2]
theorem ris_bits {C C' : Cs} {z : Nat} (hm : ∀ a, a ∈ bitsN C'.ws ↔ a = z ∨ a ∈ bitsN C.ws) : risL (bitsI C.ws ++ [(z : Int)]) = bitsI C'.ws := by
  refine sorted_ext (risL_sorted _) (bitsI_sorted _) fun y => ?_
  rw [mem_risL, List.mem_append, List.mem_singleton, mem_bitsI, mem_bitsI]
  constructor
  · rintro (⟨a, ha, rfl⟩ | rfl)
    · exact ⟨a, (hm a).2 (.inr ha), rfl⟩
    · exact ⟨z, (hm z).2 (.inl rfl), rfl⟩
  · rintro ⟨a, ha, rfl⟩
    rcases (hm a).1 ha with rfl | hb
    · exact .inr rfl
    · exact .inl ⟨a, hb, rfl⟩
theorem filt_bits {C C' : Cs} {z : Nat} (hm : ∀ a, a ∈ bitsN C'.ws ↔ a ≠ z ∧ a ∈ bitsN C.ws) : ((bitsI C.ws).filter fun y => decide (y ≠ (z : Int))) = bitsI C'.ws := by
  refine sorted_ext ((bitsI_sorted _).filter _) (bitsI_sorted _) fun y => ?_
  rw [List.mem_filter, mem_bitsI, mem_bitsI]
  constructor
  · rintro ⟨⟨a, ha, rfl⟩, h2⟩
    exact ⟨a, (hm a).2 ⟨fun e => by simp [e] at h2, ha⟩, rfl⟩
  · rintro ⟨a, ha, rfl⟩
    obtain ⟨h1, h2⟩ := (hm a).1 ha
    exact ⟨⟨a, h2, rfl⟩, by simpa using fun e : (a : Int) = z => h1 (by omega)⟩
end Go.Proofs.YtjoejjhgneccgaaGreatDoor
