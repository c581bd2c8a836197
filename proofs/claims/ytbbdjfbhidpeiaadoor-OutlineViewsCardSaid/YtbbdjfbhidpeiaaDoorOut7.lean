/- A view's lines. -/
import Derived.Test.YtbbdjfbhidpeiaaDoorOut6
import Derived.Test.YtbbdjfbhidpeiaaDoorOut5
import Derived.Deep.DeepAppendWide
namespace Go.Proofs.YtbbdjfbhidpeiaaDoor
open Go.RowKit

/-- Roots, as a call reads them. -/
structure RdR (w : World) (A : Option Addr) (n : Nat) (rs : List (List (Int × Int))) : Prop where
  len : rs.length = n
  max : n * 24 ≤ 140737488355328
  cell : 0 < n → ∃ b o, A = some ⟨b, o, none⟩ ∧ b < w.heap.size ∧ ∀ j, j < n → ∃ A' n' cap', w.cell? ⟨b, o + j, none⟩ = some (.slice A' n' cap') ∧ RdV w A' n' (rs.getD j [])
theorem RdR.below {w w' : World} {A : Option Addr} {n : Nat} {rs : List (List (Int × Int))} (h : RdR w A n rs) (hb : Below w.heap.size w w') : RdR w' A n rs :=
  ⟨h.len, h.max, fun h0 => by
    obtain ⟨b, o, e, hlt, hc⟩ := h.cell h0
    exact ⟨b, o, e, by have := hb.size; omega, fun j hj => by
      obtain ⟨A', n', cap', h1, h2⟩ := hc j hj
      exact ⟨A', n', cap', cell_keep hb h1, h2.below hb⟩⟩⟩
/-- Nodes, as a call reads them. -/
structure RdN (w : World) (A : Option Addr) (n : Nat) (ns : List (Int × List (Int × Int))) : Prop where
  len : ns.length = n
  max : n * 32 ≤ 140737488355328
  rng : ∀ x ∈ ns, Rng x.1
  cell : 0 < n → ∃ b o, A = some ⟨b, o, none⟩ ∧ b < w.heap.size ∧ ∀ j, j < n → w.cell? ⟨b, o + j * 2, none⟩ = some (.int .i64 (ns.getD j (0, [])).1) ∧ ∃ A' n' cap', w.cell? ⟨b, o + j * 2 + 1, none⟩ = some (.slice A' n' cap') ∧ RdV w A' n' (ns.getD j (0, [])).2
theorem RdN.below {w w' : World} {A : Option Addr} {n : Nat} {ns : List (Int × List (Int × Int))} (h : RdN w A n ns) (hb : Below w.heap.size w w') : RdN w' A n ns :=
  ⟨h.len, h.max, h.rng, fun h0 => by
    obtain ⟨b, o, e, hlt, hc⟩ := h.cell h0
    exact ⟨b, o, e, by have := hb.size; omega, fun j hj => by
      obtain ⟨h0, A', n', cap', h1, h2⟩ := hc j hj
      exact ⟨cell_keep hb h0, A', n', cap', cell_keep hb h1, h2.below hb⟩⟩⟩
def rootsText (rs : List (List (Int × Int))) (k : Nat) : List (List UInt8) := (List.range k).map fun (i : Nat) => lineText (116 :: Lib.itoa (i : Int)) (rs.getD i [])
def nodesText (ns : List (Int × List (Int × Int))) (k : Nat) : List (List UInt8) := (List.range k).map fun (i : Nat) => lineText (35 :: Lib.itoa (ns.getD i (0, [])).1) (ns.getD i (0, [])).2
theorem strs_app (a b : List (List UInt8)) : strs (a ++ b) = strs a ++ strs b := by simp [strs]
theorem roots_more (rs : List (List (Int × Int))) (k : Nat) : strs (rootsText rs (k + 1)) = strs (rootsText rs k) ++ [.string (S (lineText (116 :: Lib.itoa (k : Int)) (rs.getD k [])))] := by
  simp [rootsText, List.range_succ, strs]
theorem nodes_more (a : List (List UInt8)) (ns : List (Int × List (Int × Int))) (k : Nat) : strs (a ++ nodesText ns (k + 1)) = strs (a ++ nodesText ns k) ++ [.string (S (lineText (35 :: Lib.itoa (ns.getD k (0, [])).1) (ns.getD k (0, [])).2))] := by
  simp [nodesText, List.range_succ, strs]

theorem own_lt {w : World} {base e size n : Nat} {v : Value} {xs : List Value} (h : w.ownsRow base e size v n xs) : ∀ k, v.ownBlock = some k → k < w.heap.size := by
  intro k hk
  rcases h.2 with ⟨rfl, _⟩ | ⟨g, cap, cur, rfl, hg, hh, _⟩
  · simp [Value.ownBlock] at hk
  · simp [Value.ownBlock] at hk
    subst hk
    exact heap_lt hh
set_option maxHeartbeats 8000000 in
set_option maxRecDepth 100000 in
theorem view_any (A : Option Addr) (n cap : Nat) (rs : List (List (Int × Int))) (A2 : Option Addr) (n2 cap2 : Nat) (ns : List (Int × List (Int × Int))) (w : World) (hr : RdR w A n rs) (hn : RdN w A2 n2 ns) (ht : Tab w) :
    Calls Tryd.prog 13 #[.agg #[.slice A n cap, .slice A2 n2 cap2]] w fun e w' => ∃ v, e = .returned v ∧ w'.ownsRow w.heap.size 9 1 v (n + n2) (strs (rootsText rs n ++ nodesText ns n2)) ∧ Below w.heap.size w w' := by
  obtain ⟨i0, hi, hz0, hz1, hz2⟩ := info_parts info_str
  have hi := Lib.hid hi
  have hz0 := Lib.hid hz0
  have hz1 := Lib.hid hz1
  have hz2 := Lib.hid hz2
  have hmax := hr.max
  have hmax2 := hn.max
  have B0 := Lib.hid (below_alloc0 w (.cells #[.slice A n cap, .slice A2 n2 cap2] 35))
  have R0 := Lib.hid (hr.below B0.out)
  have N0 := Lib.hid (hn.below B0.out)
  have T0 := Lib.hid (ht.keep B0.out)
  have A0 := Lib.hid (heap_alloc_new w (.cells #[.slice A n cap, .slice A2 n2 cap2] 35))
  have c0 : (w.alloc (.cells #[.slice A n cap, .slice A2 n2 cap2] 35)).cell? ⟨w.heap.size, 0, none⟩ = some (.slice A n cap) := cell_of_row _ _ _ _ _ _ A0.out
  clear hr hn ht
  go_enter Tryd.func13, Tryd.ntmps13
  go_wp2_with fail
  clear c0
  generalize w.alloc (.cells #[.slice A n cap, .slice A2 n2 cap2] 35) = W at *
  go_loopw [3, 11] (fun v i wr => ∃ k : Nat, k ≤ n ∧ i = .int .i64 k ∧ Hid (wr.ownsRow W.heap.size 9 1 v k (strs (rootsText rs k))) ∧ Hid (Below W.heap.size W wr)) (fun _ i _ => n - (intOf i).toNat)
  case atStart => exact ⟨0, by omega, rfl, Lib.hid ⟨rfl, .inl ⟨rfl, rfl⟩⟩, Lib.hid (Below.refl _ _)⟩
  case round =>
    obtain ⟨k, hk, rfl, HO, HB⟩ := hrel
    by_cases hlt : k < n
    · obtain ⟨b, o, rfl, _, hcell⟩ := (R0.out.below HB.out).cell (by omega)
      obtain ⟨A', n', cap', hc0, hv⟩ := hcell k hlt
      have HV := Lib.hid hv
      clear hcell hv
      have HM := Lib.hid (roots_more rs k)
      have HR : Hid (Rng (k : Int)) := Lib.hid ⟨by omega, by omega⟩
      have TR := Lib.hid (T0.out.keep HB.out)
      have hs0 := HB.out.size
      obtain ⟨hd, hhd⟩ : ∃ hd, hd = 116 :: Lib.itoa (k : Int) := ⟨_, rfl⟩
      have hil := itoa_len HR.out
      have hdl : hd.length ≤ 100 := by rw [hhd]; simp; omega
      have g1 : ¬ 9223372036854775807 < 1 + (S (Lib.itoa (k : Int))).size := by rw [S_size]; omega
      have q1 : (⟨#[116]⟩ : ByteArray) ++ S (Lib.itoa (k : Int)) = S hd := by rw [hhd]; exact S_app [116] _
      rw [← hhd] at HM
      have HD := Lib.hid hdl
      clear hil hdl hhd
      go_wp2_with (first
        | (go_at_call 16; refine (num_any k HR.out _ TR.out).mono ?_; rintro e w5 ⟨rfl, hb5⟩)
        | (go_at_call 17; refine (line_any hd HD.out A' n' cap' _ _ (HV.out.below hb5) (TR.out.keep hb5)).mono ?_; rintro e w6 ⟨rfl, hb6⟩; have HO6 := Lib.hid (pw_own_keep (pw_own_keep HO.out hb5) hb6); have HB6 := Lib.hid (HB.out.trans ((hb5.trans (hb6.mono hb5.size)).mono HB.out.size)); have hs6 := HB6.out.size)
        | (at_builtin; refine wpList_append_own_wide _ rfl _ _ 36 rfl W.heap.size 9 i0 (.string ⟨#[]⟩) 1 16 Tryd.underlying36 hi.out hz0.out hz1.out hz2.out rfl (by decide) _ k _ rfl (HO6.out.alloc _) ⟨w6.heap.size, 0, none⟩ 1 1 [.string (S (lineText hd (rs.getD k [])))] rfl rfl ?c1 ?c2 ?c3 ?c4 ?c5 ?_))
      case c1 => exact cell_new _ _ _ _
      case c2 => simp [Value.oneCell']
      case c3 => unfold maxLen; omega
      case c4 => omega
      case c5 => simp; omega
      intro v' w7 hown hgrow _
      have HO7 : Hid (w7.ownsRow W.heap.size 9 1 v' (k + 1) (strs (rootsText rs (k + 1)))) := Lib.hid (by rw [HM.out]; exact hown)
      have HB7 : Hid (Below W.heap.size W w7) := Lib.hid ((HB6.out.alloc hs6 _).grown hgrow (by simp; omega) (own_base HO.out))
      clear hown hgrow
      go_wp2_with fail
      go_roundw
      case rel => exact ⟨k + 1, by omega, by go_num, HO7, HB7⟩
      case measure => simp [intOf]; omega
    · obtain rfl : k = n := by omega
      clear hk hlt
      have hs0 := HB.out.size
      have AK := Lib.hid (keep_at HB.out A0.out (heap_lt A0.out))
      have c1 : wr.cell? ⟨w.heap.size, 1, none⟩ = some (.slice A2 n2 cap2) := cell_of_row _ _ _ _ _ _ AK.out
      go_wp2_with fail
      clear c1 AK A0 hs0
      go_loopw [3, 28] (fun v i wq => ∃ j : Nat, j ≤ n2 ∧ i = .int .i64 j ∧ Hid (wq.ownsRow W.heap.size 9 1 v (k + j) (strs (rootsText rs k ++ nodesText ns j))) ∧ Hid (Below W.heap.size W wq)) (fun _ i _ => n2 - (intOf i).toNat)
      case atStart => exact ⟨0, by omega, rfl, by simpa [nodesText] using HO, HB⟩
      case round =>
        clear HO HB
        obtain ⟨j, hj, rfl, HO, HB⟩ := hrel
        by_cases hlt : j < n2
        · obtain ⟨b, o, rfl, _, hcell⟩ := (N0.out.below HB.out).cell (by omega)
          obtain ⟨hc0, A', n', cap', hc1, hv⟩ := hcell j hlt
          have HV := Lib.hid hv
          clear hcell hv
          have HM := Lib.hid (nodes_more (rootsText rs k) ns j)
          have hnl := N0.out.len
          have HR : Hid (Rng (ns.getD j (0, [])).1) := Lib.hid (N0.out.rng _ (by rw [List.getD_eq_getElem?_getD, List.getElem?_eq_getElem (by omega)]; exact List.getElem_mem _))
          obtain ⟨y, hy⟩ : ∃ y, y = (ns.getD j (0, [])).1 := ⟨_, rfl⟩
          obtain ⟨vs, hvs⟩ : ∃ vs, vs = (ns.getD j (0, [])).2 := ⟨_, rfl⟩
          rw [← hy] at hc0 HM HR
          rw [← hvs] at HV HM
          clear hy hvs hnl
          have TR := Lib.hid (T0.out.keep HB.out)
          have hs0 := HB.out.size
          obtain ⟨hd, hhd⟩ : ∃ hd, hd = 35 :: Lib.itoa y := ⟨_, rfl⟩
          have hil := itoa_len HR.out
          have hdl : hd.length ≤ 100 := by rw [hhd]; simp; omega
          have g1 : ¬ 9223372036854775807 < 1 + (S (Lib.itoa y)).size := by rw [S_size]; omega
          have q1 : (⟨#[35]⟩ : ByteArray) ++ S (Lib.itoa y) = S hd := by rw [hhd]; exact S_app [35] _
          have b1 : ∀ wx, (binOp .add 9 (.string ⟨#[35]⟩) (.string (S (Lib.itoa y)))).run Tryd.prog wx = .ok (.string (S hd)) wx := fun wx => by go_simp
          rw [← hhd] at HM
          have HD := Lib.hid hdl
          clear hil hdl hhd
          have k0 : (wr.alloc (.cells #[.int .i64 y, .slice A' n' cap'] 40)).cell? ⟨wr.heap.size, 0, none⟩ = some (.int .i64 y) := cell_of_row _ _ _ _ _ _ (heap_alloc_new wr _)
          have k1 : (wr.alloc (.cells #[.int .i64 y, .slice A' n' cap'] 40)).cell? ⟨wr.heap.size, 1, none⟩ = some (.slice A' n' cap') := cell_of_row _ _ _ _ _ _ (heap_alloc_new wr _)
          go_wp2_with fail
          have BN := Lib.hid (below_alloc0 wr (.cells #[.int .i64 y, .slice A' n' cap'] 40)).drew
          have TN := Lib.hid (TR.out.keep BN.out)
          have VN := Lib.hid (HV.out.below BN.out)
          have ON := Lib.hid (pw_own_keep HO.out BN.out)
          have hgl := own_lt HO.out
          clear HO HV TR hc0 hc1
          have hsz : wr.heap.size < (wr.alloc (.cells #[.int .i64 y, .slice A' n' cap'] 40)).heap.size := by show _ < (wr.heap.push _).size; simp
          generalize wr.alloc (.cells #[.int .i64 y, .slice A' n' cap'] 40) = WN at *
          have hg0 := own_base ON.out
          go_region_held3 (fun w' => w'.cell? ⟨wr.heap.size, 0, none⟩ = some (.int .i64 y) ∧ w'.cell? ⟨wr.heap.size, 1, none⟩ = some (.slice A' n' cap'))
            (first
              | exact ⟨k0, k1⟩
              | (go_split_ands; exact ⟨cell_keep hb5 (by assumption), cell_keep hb5 (by assumption)⟩)
              | (go_split_ands; exact ⟨cell_keep hb6 (by assumption), cell_keep hb6 (by assumption)⟩)
              | (go_split_ands; exact ⟨cell_keep (below_alloc0 _ _) (by assumption), cell_keep (below_alloc0 _ _) (by assumption)⟩)
              | (go_split_ands; exact ⟨(World.cell?_of_block (hgrow.block _ (by have h5 := hb5.size; have h6 := hb6.size; have h7 : WN.heap.size ≤ w5.heap.size := h5; show _ < (w6.heap.push _).size; simp; omega) (fun e => absurd (hgl _ e.symm) (Nat.lt_irrefl _)))).trans (by assumption), (World.cell?_of_block (hgrow.block _ (by have h5 := hb5.size; have h6 := hb6.size; have h7 : WN.heap.size ≤ w5.heap.size := h5; show _ < (w6.heap.push _).size; simp; omega) (fun e => absurd (hgl _ e.symm) (Nat.lt_irrefl _)))).trans (by assumption)⟩))
            (first
              | (go_at_call 16; refine (num_any y HR.out _ TN.out).mono ?_; rintro e w5 ⟨rfl, hb5⟩)
              | (go_at_call 17; refine (line_any hd HD.out A' n' cap' vs _ (VN.out.below hb5) (TN.out.keep hb5)).mono ?_; rintro e w6 ⟨rfl, hb6⟩)
              | (rw [if_pos (by rfl)]; refine wp_append_own_wide _ _ _ _ rfl W.heap.size 9 i0 (.string ⟨#[]⟩) 1 16 Tryd.underlying36 hi.out hz0.out hz1.out hz2.out rfl (by decide) _ (k + j) _ rfl ((pw_own_keep (pw_own_keep ON.out hb5) hb6).alloc _) ⟨w6.heap.size, 0, none⟩ 1 1 [.string (S (lineText hd vs))] rfl rfl (cell_new _ _ _ _) (by simp [Value.oneCell']) (by unfold maxLen; omega) (by omega) (by have h5 := hb5.size; have h6 := hb6.size; have := BN.out.size; show _ ≤ (w6.heap.push _).size; simp; omega) ?_; intro v' w7 hown hgrow _))
          have h4 : W.heap.size ≤ WN.drew.heap.size := Nat.le_trans hs0 BN.out.size
          have h5 : W.heap.size ≤ w5.heap.size := Nat.le_trans h4 hb5.size
          have h6 : W.heap.size ≤ w6.heap.size := Nat.le_trans h5 hb6.size
          have HB7 : Hid (Below W.heap.size W w7) := Lib.hid ((((((HB.out.trans (BN.out.mono hs0)).trans (hb5.mono h4)).trans (hb6.mono h5)).alloc h6 _).grown hgrow (by show _ ≤ (w6.heap.push _).size; simp; omega) hg0))
          have HO7 : Hid (w7.ownsRow W.heap.size 9 1 v' (k + (j + 1)) (strs (rootsText rs k ++ nodesText ns (j + 1)))) := Lib.hid (by rw [HM.out]; exact hown)
          clear hown hgrow
          go_split_ands
          go_wp2_with fail
          go_roundw
          case rel => exact ⟨j + 1, by omega, by go_num, HO7, HB7⟩
          case measure => simp [intOf]; omega
        · obtain rfl : j = n2 := by omega
          clear hj hlt
          go_wp2_with fail
          go_ret
          exact ⟨_, rfl, own_mono HO.out B0.out.size, B0.out.trans (HB.out.mono B0.out.size)⟩
end Go.Proofs.YtbbdjfbhidpeiaaDoor
