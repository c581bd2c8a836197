/- plain.Rising: numbers, each once, the least first. -/
import Derived.Test.YtfocdbflmodfhaaDoorQCR16
namespace Go.Proofs.YtfocdbflmodfhaaDoor
open Go.RowKit

/-- How many stand ahead that are less. -/
def lessN (out : List Int) (x : Int) : Nat := (out.takeWhile (fun y => decide (y < x))).length
theorem lessN_le (out : List Int) (x : Int) : lessN out x ≤ out.length := by
  unfold lessN
  exact (List.takeWhile_sublist _).length_le
theorem lessN_lt : ∀ (out : List Int) (x : Int) (j : Nat), j < lessN out x → out.getD j 0 < x
  | [], x, j, h => absurd h (by simp [lessN])
  | y :: out, x, j, h => by
    unfold lessN at h
    rw [List.takeWhile_cons] at h
    split at h
    · rename_i hy
      cases j with
      | zero => simpa using hy
      | succ j =>
        have := lessN_lt out x j (by unfold lessN; simpa using h)
        simpa using this
    · simp at h
theorem lessN_at : ∀ (out : List Int) (x : Int), lessN out x < out.length → x ≤ out.getD (lessN out x) 0
  | [], x, h => absurd h (by simp)
  | y :: out, x, h => by
    by_cases hy : y < x
    · have e : lessN (y :: out) x = lessN out x + 1 := by unfold lessN; rw [List.takeWhile_cons, if_pos (by simpa using hy)]; rfl
      rw [e] at h ⊢
      have := lessN_at out x (by simpa using h)
      simpa using this
    · have e : lessN (y :: out) x = 0 := by unfold lessN; rw [List.takeWhile_cons, if_neg (by simpa using hy)]; rfl
      rw [e]
      simp; omega
theorem lessN_eq {out : List Int} {x : Int} {k : Nat} (h1 : ∀ j, j < k → out.getD j 0 < x) (hk : k ≤ out.length) (h2 : k < out.length → x ≤ out.getD k 0) : lessN out x = k := by
  have a := lessN_le out x
  rcases Nat.lt_trichotomy (lessN out x) k with h | h | h
  · have := lessN_at out x (by omega)
    have := h1 _ h
    omega
  · exact h
  · have := lessN_lt out x k h
    have := h2 (by omega)
    omega
def insL (out : List Int) (x : Int) : List Int := out.take (lessN out x) ++ [x] ++ out.drop (lessN out x)
def risN (out : List Int) (x : Int) : List Int := if x ∈ out then out else insL out x
def risL (l : List Int) : List Int := l.foldl risN []
theorem insL_len (out : List Int) (x : Int) : (insL out x).length = out.length + 1 := by
  have := lessN_le out x
  unfold insL
  simp; omega
theorem risN_len (out : List Int) (x : Int) : (risN out x).length ≤ out.length + 1 := by
  unfold risN
  split
  · omega
  · rw [insL_len]; exact Nat.le_refl _
theorem risL_snoc (l : List Int) (x : Int) : risL (l ++ [x]) = risN (risL l) x := by unfold risL; rw [List.foldl_append]; rfl
theorem risL_take {l : List Int} {i : Nat} (h : i < l.length) : risL (l.take (i + 1)) = risN (risL (l.take i)) (l.getD i 0) := by
  rw [List.take_succ_eq_append_getElem h, risL_snoc, List.getD_eq_getElem?_getD, List.getElem?_eq_getElem h]; rfl
theorem risL_len (l : List Int) : ∀ i, i ≤ l.length → (risL (l.take i)).length ≤ i
  | 0, _ => by simp [risL]
  | i + 1, h => by
    rw [risL_take (by omega)]
    have := risL_len l i (by omega)
    have := risN_len (risL (l.take i)) (l.getD i 0)
    omega
theorem mem_insL {out : List Int} {x y : Int} : y ∈ insL out x ↔ y = x ∨ y ∈ out := by
  unfold insL
  rw [List.mem_append, List.mem_append, List.mem_singleton]
  constructor
  · rintro ((h | h) | h)
    · exact .inr (List.mem_of_mem_take h)
    · exact .inl h
    · exact .inr (List.mem_of_mem_drop h)
  · rintro (h | h)
    · exact .inl (.inr h)
    · rw [← List.take_append_drop (lessN out x) out, List.mem_append] at h
      rcases h with h | h
      · exact .inl (.inl h)
      · exact .inr h
theorem mem_risN {out : List Int} {x y : Int} : y ∈ risN out x ↔ y = x ∨ y ∈ out := by
  unfold risN
  split
  · rename_i h
    exact ⟨.inr, fun h2 => h2.elim (fun e => e ▸ h) id⟩
  · exact mem_insL
theorem mem_foldl_risN (l : List Int) : ∀ (out : List Int) (y : Int), y ∈ l.foldl risN out ↔ y ∈ out ∨ y ∈ l := by
  induction l with
  | nil => intro out y; simp
  | cons x l ih =>
    intro out y
    rw [List.foldl_cons, ih, mem_risN, List.mem_cons]
    constructor
    · rintro ((h | h) | h)
      · exact .inr (.inl h)
      · exact .inl h
      · exact .inr (.inr h)
    · rintro (h | h | h)
      · exact .inl (.inr h)
      · exact .inl (.inl h)
      · exact .inr h
theorem mem_risL {l : List Int} {y : Int} : y ∈ risL l ↔ y ∈ l := by
  unfold risL; rw [mem_foldl_risN]; simp
theorem getD_take {l : List Int} {k j : Nat} (h : j < k) : (l.take k).getD j 0 = l.getD j 0 := by
  rw [List.getD_eq_getElem?_getD, List.getD_eq_getElem?_getD, List.getElem?_take, if_pos h]
theorem insL_sorted {out : List Int} {x : Int} (h : out.Pairwise (· < ·)) (hx : x ∉ out) : (insL out x).Pairwise (· < ·) := by
  have hl := lessN_le out x
  have low : ∀ y ∈ out.take (lessN out x), y < x := by
    intro y hy
    obtain ⟨j, hj, e⟩ := List.getElem_of_mem hy
    rw [List.length_take] at hj
    have h1 := lessN_lt out x j (by omega)
    rw [← getD_take (k := lessN out x) (by omega), List.getD_eq_getElem?_getD, List.getElem?_eq_getElem (by rw [List.length_take]; omega)] at h1
    rw [← e]; simpa using h1
  have high : ∀ y ∈ out.drop (lessN out x), x < y := by
    intro y hy
    obtain ⟨j, hj, e⟩ := List.getElem_of_mem hy
    rw [List.length_drop] at hj
    have h1 := lessN_at out x (by omega)
    have h2 : y ∈ out := List.mem_of_mem_drop hy
    have h3 : y ≠ x := fun e => hx (e ▸ h2)
    rw [List.getElem_drop] at e
    have h4 : out.getD (lessN out x) 0 ≤ y := by
      rw [List.getD_eq_getElem?_getD, List.getElem?_eq_getElem (by omega)]
      by_cases e0 : j = 0
      · subst e0; simp only [Nat.add_zero] at e; simp [e]
      · have := List.pairwise_iff_getElem.1 h (lessN out x) (lessN out x + j) (by omega) (by omega) (by omega)
        simp only [Option.getD_some]
        rw [e] at this
        omega
    omega
  unfold insL
  rw [List.pairwise_append, List.pairwise_append]
  refine ⟨⟨h.sublist (List.take_sublist _ _), List.pairwise_singleton _ _, fun y hy z hz => ?_⟩, h.sublist (List.drop_sublist _ _), fun y hy z hz => ?_⟩
  · rw [List.mem_singleton.1 hz]; exact low y hy
  · rw [List.mem_append, List.mem_singleton] at hy
    have := high z hz
    rcases hy with hy | rfl
    · have := low y hy; omega
    · exact this
theorem risN_sorted {out : List Int} {x : Int} (h : out.Pairwise (· < ·)) : (risN out x).Pairwise (· < ·) := by
  unfold risN
  split
  · exact h
  · rename_i hx; exact insL_sorted h hx
theorem risL_sorted (l : List Int) : (risL l).Pairwise (· < ·) := by
  unfold risL
  have : ∀ (l out : List Int), out.Pairwise (· < ·) → (l.foldl risN out).Pairwise (· < ·) := by
    intro l
    induction l with
    | nil => intro out h; exact h
    | cons x l ih => intro out h; exact ih _ (risN_sorted h)
  exact this l [] List.Pairwise.nil
/-- Two rising lists with the same members are one. -/
theorem sorted_ext : ∀ {a b : List Int}, a.Pairwise (· < ·) → b.Pairwise (· < ·) → (∀ y, y ∈ a ↔ y ∈ b) → a = b
  | [], [], _, _, _ => rfl
  | [], y :: b, _, _, h => absurd ((h y).2 (by simp)) (by simp)
  | x :: a, [], _, _, h => absurd ((h x).1 (by simp)) (by simp)
  | x :: a, y :: b, ha, hb, h => by
    rw [List.pairwise_cons] at ha hb
    have e : x = y := by
      rcases List.mem_cons.1 ((h x).1 (by simp)) with e | hx
      · exact e
      · rcases List.mem_cons.1 ((h y).2 (by simp)) with e | hy
        · exact e.symm
        · have := ha.1 y hy
          have := hb.1 x hx
          omega
    subst e
    rw [sorted_ext ha.2 hb.2 fun z => ?_]
    constructor
    · intro hz
      rcases List.mem_cons.1 ((h z).1 (List.mem_cons_of_mem _ hz)) with e | hz'
      · have := ha.1 z hz; omega
      · exact hz'
    · intro hz
      rcases List.mem_cons.1 ((h z).2 (List.mem_cons_of_mem _ hz)) with e | hz'
      · have := hb.1 z hz; omega
      · exact hz'
end Go.Proofs.YtfocdbflmodfhaaDoor

/- plain.Rising, walked. -/
namespace Go.Proofs.YtfocdbflmodfhaaDoor
open Go.RowKit

theorem IRow.upto {base : Nat} {w : World} {A : Option Addr} {n cap k : Nat} {xs : List Int} (h : IRow base w (.slice A n cap) xs) (hk : k ≤ xs.length) (h64 : xs.length ≤ 64) : OffR base w (.slice A k cap) (xs.take k) := by
  have ho := h.off h64
  obtain ⟨A', n', cap', e, e2, e3, e4, e5⟩ := ho
  cases e
  refine ⟨A, k, cap, rfl, by rw [List.length_take]; omega, by omega, by omega, fun h0 => ?_⟩
  obtain ⟨g, o, r1, r2, r3, r4⟩ := e5 (by omega)
  refine ⟨g, o, r1, r2, r3, fun j hj => ?_⟩
  rw [getD_take hj]
  exact r4 j (by omega)
theorem IRow.from_ {base : Nat} {w : World} {g n cap k : Nat} {xs : List Int} (h : IRow base w (.slice (some ⟨g, 0, none⟩) n cap) xs) (hk : k ≤ xs.length) (h64 : xs.length ≤ 64) : OffR base w (.slice (some ⟨g, k, none⟩) (n - k) (cap - k)) (xs.drop k) := by
  have ho := h.off h64
  obtain ⟨A', n', cap', e, e2, e3, e4, e5⟩ := ho
  cases e
  refine ⟨_, _, _, rfl, by rw [List.length_drop]; omega, by omega, by omega, fun h0 => ?_⟩
  obtain ⟨g', o, r1, r2, r3, r4⟩ := e5 (by omega)
  cases r1
  refine ⟨g, k, rfl, r2, r3, fun j hj => ?_⟩
  have := r4 (k + j) (by omega)
  rw [Nat.zero_add] at this
  rw [this, List.getD_eq_getElem?_getD, List.getD_eq_getElem?_getD, List.getElem?_drop]
section
variable {base : Nat} {w : World} {A : Option Addr} {n cap : Nat} {xs : List Int}
set_option maxHeartbeats 4000000 in
set_option maxRecDepth 100000 in
theorem rising_any (h : IRow base w (.slice A n cap) xs) (hm : n ≤ 60) :
    Calls Tryd.prog 97 #[.slice A n cap] w fun e w' => RowF w.heap.size (risL xs) e w' ∧ Below w.heap.size w w' := by
  obtain ⟨hn, -⟩ := h.at_
  have H := Lib.hid h
  have HN := Lib.hid hn
  have B0 := Lib.hid (Below.refl w.heap.size w)
  clear h hn
  go_enter Tryd.func97, Tryd.ntmps97
  go_wp2_with fail
  go_loopw [3, 4] (fun v a wr => ∃ i : Nat, i ≤ n ∧ a = .int .i64 i ∧ Hid (IRow w.heap.size wr v (risL (xs.take i))) ∧ Hid (Below w.heap.size w wr)) (fun _ a _ => n - (intOf a).toNat)
  case atStart => exact ⟨0, Nat.zero_le _, rfl, Lib.hid (IRow.nil _ _), B0⟩
  case round =>
    clear B0
    obtain ⟨i, hi, rfl, HR, HB⟩ := hrel
    obtain ⟨out, hout⟩ : ∃ out, out = risL (xs.take i) := ⟨_, rfl⟩
    have hol : out.length ≤ i := by rw [hout]; exact risL_len xs i (by rw [← HN.out]; exact hi)
    rw [← hout] at HR
    have HO := Lib.hid hout
    clear hout
    by_cases hlt : i < n
    · have hr := H.out.below HB.out
      obtain ⟨g0, rfl, cx⟩ := hr.at_.2 i hlt
      obtain ⟨x, hx⟩ : ∃ x, x = xs.getD i 0 := ⟨_, rfl⟩
      rw [← hx] at cx
      have HX := Lib.hid (show risL (xs.take (i + 1)) = risN out x by rw [risL_take (by rw [← HN.out]; exact hlt), ← HO.out, hx])
      have hd : decide ((i : Int) < (n : Int)) = true := by simpa using hlt
      have i1 : (0 : Int) ≤ (i : Int) := by omega
      have i2 : (i : Int) < (n : Int) := by omega
      obtain ⟨p, q, rfl, hq, -, hcells⟩ := HR.out.slice
      have HOL := Lib.hid (show out.length ≤ 1000000 by omega)
      by_cases hin : x ∈ out
      · have HE := Lib.hid (show risN out x = out by unfold risN; rw [if_pos hin])
        have hin' : decide (x ∈ out) = true := by simpa using hin
        clear hx hr hin hcells hq
        go_wp2_with (go_at_call 57; refine (in_any HR.out x HOL.out).mono ?_; rw [hin']; rintro e w2 ⟨rfl, rfl⟩)
        go_roundw
        case rel => exact ⟨i + 1, by omega, by go_num, by rw [HX.out, HE.out]; exact HR, HB⟩
        case measure => simp [intOf]; omega
      · have HE := Lib.hid (show risN out x = out.take (lessN out x) ++ [x] ++ out.drop (lessN out x) by unfold risN; rw [if_neg hin]; rfl)
        have hin' : decide (x ∈ out) = false := by simpa using hin
        have HCX := Lib.hid cx
        clear hx hr hin hcells
        go_wp2_with (go_at_call 57; refine (in_any HR.out x HOL.out).mono ?_; rw [hin']; rintro e w2 ⟨rfl, rfl⟩)
        obtain ⟨wo, rfl⟩ : ∃ wo : World, wo = wr := ⟨_, rfl⟩
        go_loopw [5] (fun a ww => ∃ k : Nat, k ≤ out.length ∧ a = .int .i64 k ∧ Hid (∀ j, j < k → out.getD j 0 < x) ∧ Hid (Below wo.heap.size wo ww)) (fun a _ => out.length - (intOf a).toNat)
        case atStart => exact ⟨0, Nat.zero_le _, rfl, Lib.hid (fun j hj => by omega), Lib.hid (Below.refl _ _)⟩
        case round =>
          obtain ⟨k, hk, rfl, HJ, HB2⟩ := hrel
          have cx2 := cell_keep HB2.out HCX.out
          have HR2 := Lib.hid (HR.out.below HB2.out)
          have k0 : (0 : Int) ≤ (k : Int) := by omega
          have HK := Lib.hid hk
          have HO64 := Lib.hid (show out.length ≤ 64 by omega)
          have HTL := Lib.hid (show ([] ++ out.take k).length + 1 ≤ 1000000 by simp; omega)
          have HTL2 := Lib.hid (show ([] ++ out.take k ++ [x]).length ≤ 1000000 by simp; omega)
          by_cases hkl : k < out.length
          · have hdk : decide ((k : Int) < (out.length : Int)) = true := by simpa using hkl
            have hdk2 : decide (k < out.length) = true := by simpa using hkl
            have k1 : (k : Int) < (out.length : Int) := by omega
            obtain ⟨g1, rfl, cy⟩ := HR2.out.at_.2 k hkl
            obtain ⟨y, hy⟩ : ∃ y, y = out.getD k 0 := ⟨_, rfl⟩
            rw [← hy] at cy
            by_cases hyx : y < x
            · have hyx' : decide (y < x) = true := by simpa using hyx
              have HJ' := Lib.hid (show ∀ j, j < k + 1 → out.getD j 0 < x from fun j hj => by
                by_cases e : j = k
                · rw [e, ← hy]; exact hyx
                · exact HJ.out j (by omega))
              clear HJ hy hyx
              go_wp2_with fail
              go_quiet (fail)
              go_wp2_with fail
              go_roundw
              case rel => exact ⟨k + 1, by omega, by go_num, HJ', Lib.hid (below_drewN HB2.out _)⟩
              case measure => simp [intOf]; omega
            · have hyx' : decide (y < x) = false := by simpa using hyx
              have HLN := Lib.hid (show lessN out x = k from lessN_eq HJ.out hk (fun _ => by omega))
              clear HJ hy hyx
              go_wp2_with fail
              go_quiet (fail)
              have hqk : ¬ q = k := by omega
              go_wp2_with (first
                | (at_builtin; refine wpList_append_off rfl (.tmp 36) (.tmp 39) (by rfl) wo.heap.size w.heap.size wo _ _ [] (out.take k) (by rfl) (IRow.nil _ _) (by rfl) ((HR2.out.below (below_drewN (Below.refl _ _) _)).upto HK.out HO64.out) (by simp) (below_drewN HB2.out _) HB2.out.size ?_; intro v4 w4 hr4 hb4; have R4 := Lib.hid hr4; have B4 := Lib.hid hb4; have cx4 := cell_keep hb4 HCX.out; clear hr4 hb4)
                | (at_builtin; refine wpList_append_num rfl (.tmp 41) (.tmp 46) (by rfl) wo.heap.size wo _ _ x (by rfl) R4.out (by rfl) HTL.out B4.out B4.out.size ?_; intro v5 w5 hr5 hb5 hgr5; have R5 := Lib.hid hr5; have B5 := Lib.hid hb5; clear hr5 hb5 hgr5)
                | (at_builtin; refine wpList_append_off rfl (.tmp 48) (.tmp 51) (by rfl) wo.heap.size w.heap.size wo _ _ _ (out.drop k) (by rfl) R5.out (by rfl) ((HR.out.below B5.out).from_ HK.out HO64.out) HTL2.out B5.out B5.out.size ?_; intro v6 w6 hr6 hb6; have R6 := Lib.hid hr6; have B6 := Lib.hid hb6; clear hr6 hb6))
              go_roundw
              case rel => exact ⟨i + 1, by omega, by go_num, Lib.hid (by rw [HX.out, HE.out, HLN.out]; exact R6.out.mono HB.out.size), Lib.hid (below_next HB.out B6.out)⟩
              case measure => simp [intOf]; omega
          · have hdk : decide ((k : Int) < (out.length : Int)) = false := by simpa using hkl
            have hdk2 : decide (k < out.length) = false := by simpa using hkl
            have HLN := Lib.hid (show lessN out x = k from lessN_eq HJ.out hk (fun h => absurd h hkl))
            clear HJ
            obtain rfl : k = out.length := by omega
            have HE2 := Lib.hid (show risN out x = [] ++ out ++ [x] ++ [] by rw [HE.out, HLN.out]; simp)
            have HTL := Lib.hid (show ([] ++ out).length + 1 ≤ 1000000 by simp; omega)
            have hol' : out.length ≤ 60 := by omega
            clear HTL2
            have hshape : (p = none ∧ out.length = 0 ∧ q = 0) ∨ ∃ g, p = some ⟨g, 0, none⟩ := by
              rcases HR.out.2 with ⟨e, h1⟩ | ⟨g, cap', cur, e, -⟩
              · simp only [Value.slice.injEq] at e; exact .inl e
              · simp only [Value.slice.injEq] at e; exact .inr ⟨g, e.1⟩
            rcases hshape with ⟨rfl, h0, rfl⟩ | ⟨g1, rfl⟩
            · obtain rfl : out = [] := List.eq_nil_of_length_eq_zero h0
              clear h0
              go_wp2_with fail
              go_quiet (fail)
              go_wp2_with (first
                  | (at_builtin; refine wpList_append_off rfl (.tmp 36) (.tmp 39) (by rfl) wo.heap.size w.heap.size wo _ _ [] [] (by rfl) (IRow.nil _ _) (by rfl) (OffR.empty _ _) (by simp) (below_drewN HB2.out _) HB2.out.size ?_; intro v4 w4 hr4 hb4; have R4 := Lib.hid hr4; have B4 := Lib.hid hb4; have cx4 := cell_keep hb4 HCX.out; clear hr4 hb4)
                  | (at_builtin; refine wpList_append_num rfl (.tmp 41) (.tmp 46) (by rfl) wo.heap.size wo _ _ x (by rfl) R4.out (by rfl) HTL.out B4.out B4.out.size ?_; intro v5 w5 hr5 hb5 hgr5; have R5 := Lib.hid hr5; have B5 := Lib.hid hb5; clear hr5 hb5 hgr5)
                  | (at_builtin; refine wpList_append_off rfl (.tmp 48) (.tmp 51) (by rfl) wo.heap.size w.heap.size wo _ _ _ [] (by rfl) R5.out (by rfl) (OffR.empty _ _) (by simp <;> omega) B5.out B5.out.size ?_; intro v6 w6 hr6 hb6; have R6 := Lib.hid hr6; have B6 := Lib.hid hb6; clear hr6 hb6))
              go_roundw
              case rel => exact ⟨i + 1, by omega, by go_num, Lib.hid (by rw [HX.out, HE2.out]; exact R6.out.mono HB.out.size), Lib.hid (below_next HB.out B6.out)⟩
              case measure => simp [intOf]; omega
            · by_cases hqk : q = out.length
              · subst hqk
                go_wp2_with fail
                go_quiet (fail)
                go_wp2_with (first
                  | (at_builtin; refine wpList_append_off rfl (.tmp 36) (.tmp 39) (by rfl) wo.heap.size w.heap.size wo _ _ [] out (by rfl) (IRow.nil _ _) (by rfl) ((HR2.out.below (below_drewN (Below.refl _ _) _)).off HO64.out) (by simp) (below_drewN HB2.out _) HB2.out.size ?_; intro v4 w4 hr4 hb4; have R4 := Lib.hid hr4; have B4 := Lib.hid hb4; have cx4 := cell_keep hb4 HCX.out; clear hr4 hb4)
                  | (at_builtin; refine wpList_append_num rfl (.tmp 41) (.tmp 46) (by rfl) wo.heap.size wo _ _ x (by rfl) R4.out (by rfl) HTL.out B4.out B4.out.size ?_; intro v5 w5 hr5 hb5 hgr5; have R5 := Lib.hid hr5; have B5 := Lib.hid hb5; clear hr5 hb5 hgr5)
                  | (at_builtin; refine wpList_append_off rfl (.tmp 48) (.tmp 51) (by rfl) wo.heap.size w.heap.size wo _ _ _ [] (by rfl) R5.out (by rfl) (OffR.empty _ _) (by simp <;> omega) B5.out B5.out.size ?_; intro v6 w6 hr6 hb6; have R6 := Lib.hid hr6; have B6 := Lib.hid hb6; clear hr6 hb6))
                go_roundw
                case rel => exact ⟨i + 1, by omega, by go_num, Lib.hid (by rw [HX.out, HE2.out]; exact R6.out.mono HB.out.size), Lib.hid (below_next HB.out B6.out)⟩
                case measure => simp [intOf]; omega
              · go_wp2_with fail
                go_quiet (fail)
                go_wp2_with (first
                  | (at_builtin; refine wpList_append_off rfl (.tmp 36) (.tmp 39) (by rfl) wo.heap.size w.heap.size wo _ _ [] out (by rfl) (IRow.nil _ _) (by rfl) ((HR2.out.below (below_drewN (Below.refl _ _) _)).off HO64.out) (by simp) (below_drewN HB2.out _) HB2.out.size ?_; intro v4 w4 hr4 hb4; have R4 := Lib.hid hr4; have B4 := Lib.hid hb4; have cx4 := cell_keep hb4 HCX.out; clear hr4 hb4)
                  | (at_builtin; refine wpList_append_num rfl (.tmp 41) (.tmp 46) (by rfl) wo.heap.size wo _ _ x (by rfl) R4.out (by rfl) HTL.out B4.out B4.out.size ?_; intro v5 w5 hr5 hb5 hgr5; have R5 := Lib.hid hr5; have B5 := Lib.hid hb5; clear hr5 hb5 hgr5)
                  | (at_builtin; refine wpList_append_off rfl (.tmp 48) (.tmp 51) (by rfl) wo.heap.size w.heap.size wo _ _ _ [] (by rfl) R5.out (by rfl) (OffR.empty _ _) (by simp <;> omega) B5.out B5.out.size ?_; intro v6 w6 hr6 hb6; have R6 := Lib.hid hr6; have B6 := Lib.hid hb6; clear hr6 hb6))
                go_roundw
                case rel => exact ⟨i + 1, by omega, by go_num, Lib.hid (by rw [HX.out, HE2.out]; exact R6.out.mono HB.out.size), Lib.hid (below_next HB.out B6.out)⟩
                case measure => simp [intOf]; omega
    · have hd : decide ((i : Int) < (n : Int)) = false := by simpa using hlt
      obtain rfl : i = n := by omega
      obtain ⟨pa, ca, rfl, -⟩ := HR.out.slice
      go_wp2_with fail
      go_ret
      refine ⟨⟨_, _, _, rfl, ?_⟩, HB.out⟩
      rw [show xs = xs.take i by rw [List.take_of_length_le (by rw [HN.out]; exact Nat.le_refl _)], ← HO.out]
      exact HR.out
end
end Go.Proofs.YtfocdbflmodfhaaDoor
