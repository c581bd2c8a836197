/- The law's book: told. -/
import Derived.Test.YtfocdbflmodfhaaDoorQCR06
import Derived.Test.YtfocdbflmodfhaaDoorQCR15
import Derived.Test.YtfocdbflmodfhaaDoorQCR20
import Derived.Test.YtfocdbflmodfhaaDoorQCR21
import Derived.Test.YtfocdbflmodfhaaDoorQCR22
import Derived.Test.YtfocdbflmodfhaaDoorQCR23
import Derived.Test.YtfocdbflmodfhaaDoorRows
import Derived.KernelRfl
import Derived.ProofKit
import Derived.Lib.LaidTab
import Derived.Stop.LaidErr
import Derived.LaidMore
namespace Go.Proofs.YtfocdbflmodfhaaDoor
open Go.RowKit

section
variable {base bk h : Nat} {b : Bl} {w w' : World} {C : Cs} {ws : List Int} {F : Nat → List Int}
theorem load_in {xs : List Int} {z k : Nat} (h : z + k < xs.length) : loadV xs ((z : Int) + (k : Int)) = xs.getD (z + k) 0 ∧ fitB xs.length ((z : Int) + (k : Int)) 1 = true := by
  have e : fitB xs.length ((z : Int) + (k : Int)) 1 = true := by unfold fitB; simp; omega
  unfold loadV
  rw [if_pos e]
  exact ⟨by rw [show ((z : Int) + (k : Int)).toNat = z + k by omega], e⟩
set_option maxHeartbeats 8000000 in
set_option maxRecDepth 100000 in
theorem btold_any (H0 : CR base b bk h C F ws w) (ht : Tab64 w) (hg : 0 < w.heap.size) :
    Calls Tryd.prog 21 #[.pointer (some ⟨bk, 0, none⟩), .pointer (some ⟨b.c, 0, none⟩)] w fun e w' => e = .returned (.bool true) ∧ Below w.heap.size w w' := by
  obtain ⟨hx, hi, ⟨kv, fv, tv, hp, hk, -⟩, hwd⟩ := H0
  have X := Lib.hid hx
  have HI := Lib.hid hi
  have P := Lib.hid hp
  have HW := Lib.hid hwd
  have T := Lib.hid ht
  have G := Lib.hid hg
  obtain ⟨c0, c1, -⟩ := hk.cells
  obtain ⟨d0, -⟩ := hp.cells
  obtain ⟨A, cap, rfl, -⟩ := hk.tk.slice
  obtain ⟨A2, cap2, rfl, -⟩ := hp.kr.slice
  obtain ⟨n, hn⟩ : ∃ n, n = (bitsI C.ws).length := ⟨_, rfl⟩
  have hn50 : n ≤ 50 := by rw [hn]; exact hk.tl
  have HN := Lib.hid hn
  have HNL := Lib.hid (show n ≤ 1000000 by omega)
  have HKL := Lib.hid (show C.ks.length ≤ 1000000 by have := hp.kl; omega)
  have HCE := Lib.hid (count_eq C.ks)
  rw [← hn] at c1 hk
  have K := Lib.hid hk
  clear hx hi hp hk hwd ht hg hn
  go_enter Tryd.func21, Tryd.ntmps21
  go_wp2_with fail
  go_region_held3 (fun W => W.cell? ⟨bk, 0, none⟩ = some (.pointer (some ⟨h, 0, none⟩)) ∧ W.cell? ⟨bk, 1, none⟩ = some (.slice A n cap) ∧ W.cell? ⟨h, 0, none⟩ = some (.slice A2 C.ks.length cap2) ∧ Below w.heap.size w W)
    (first
      | exact ⟨c0, c1, d0, (Below.refl _ _).drew⟩
      | (go_split_ands; exact ⟨cell_keep hb5 (by assumption), cell_keep hb5 (by assumption), cell_keep hb5 (by assumption), below_next (by assumption) hb5⟩)
      | (go_split_ands; exact ⟨by assumption, by assumption, by assumption, by assumption⟩))
    (first
      | (go_split_ands; go_at_call 14; (with_reducible refine (call_any (X.out.below (by assumption)) (T.out.below (by assumption) G.out) (tab_lt (T.out.below (by assumption) G.out))).mono ?_); rintro e w5 ⟨⟨v, rfl, hv⟩, hb5⟩; obtain ⟨p5, q5, e5, -⟩ := hv.slice; rw [← HN.out] at e5; subst e5; have V5 := Lib.hid hv; clear hv)
      | (go_split_ands; go_at_call 63; (refine (ints_any V5.out (K.out.tk.below (by assumption)) HNL.out).mono ?_); rw [decide_eq_true (rfl : bitsI C.ws = bitsI C.ws)]; rintro e w5 ⟨rfl, hb5⟩)
      | (go_split_ands; go_at_call 28; (with_reducible refine (cfree_any (X.out.below (by assumption))).mono ?_); rintro e w5 ⟨rfl, hb5⟩)
      | (go_split_ands; go_at_call 64; (refine (fcount_any (P.out.kr.below (by assumption)) HKL.out).mono ?_); rw [HCE.out]; rintro e w5 ⟨rfl, rfl⟩))
  go_split_ands
  have hb6 : Below w.heap.size w w5 := by assumption
  have B6 := Lib.hid hb6
  clear hb6
  go_wp2_with fail
  go_loopw [5, 6, 7, 8, 9] (fun i _ _ _ _ wr => ∃ k : Nat, k ≤ n ∧ i = .int .i64 k ∧ Hid (Below w.heap.size w wr)) (fun i _ _ _ _ _ => n - (intOf i).toNat)
  case atStart => exact ⟨0, Nat.zero_le _, rfl, B6⟩
  case round =>
    clear B6 hb5 c0 c1 d0
    obtain ⟨i, hi, rfl, HB⟩ := hrel
    have hkr := K.out.below HB.out
    obtain ⟨c0, c1, -⟩ := hkr.cells
    have i0 : (0 : Int) ≤ (i : Int) := by omega
    by_cases hlt : i < n
    · have hd : decide ((i : Int) < (n : Int)) = true := by simpa using hlt
      have i1 : (i : Int) < (n : Int) := by omega
      obtain ⟨g, rfl, cc⟩ := hkr.tk.at_.2 i hlt
      obtain ⟨y, hy⟩ : ∃ y, y = (bitsI C.ws).getD i 0 := ⟨_, rfl⟩
      have hym : y ∈ bitsI C.ws := by
        rw [hy, List.getD_eq_getElem?_getD, List.getElem?_eq_getElem (by rw [← HN.out]; exact hlt)]
        exact List.getElem_mem _
      rw [← hy] at cc
      obtain ⟨z, hz, rfl⟩ := mem_bitsI.1 hym
      obtain ⟨s, hs⟩ := Int.eq_ofNat_of_zero_le (bsize_bd C.ks HI.out.le z).1
      have hend := bsize_end HI.out hz
      have hel := end_le HI.out hz
      have hle := HI.out.le
      have hxl := HI.out.len
      have HZ := Lib.hid (show z < 2048 by omega)
      have HZS := Lib.hid (show z + s ≤ C.xs.length ∧ C.xs.length ≤ 2048 by omega)
      have HS := Lib.hid hs
      have HWZ := Lib.hid (show ∀ k, k < s → ws.getD (z + k) 0 = C.xs.getD (z + k) 0 from fun k hk => HW.out z hz (z + k) (by omega) (by omega))
      have z0 : (0 : Int) ≤ (z : Int) := by omega
      have z1 : (z : Int) + (s : Int) ≤ 2048 := by omega
      clear hy hym hz hs hend hel hle hxl hkr
      go_wp2_with fail
      obtain ⟨wo, rfl⟩ : ∃ wo : World, wo = wr := ⟨_, rfl⟩
      go_loopw [7, 8, 9] (fun a _ _ ww => ∃ k : Nat, k ≤ s ∧ a = .int .i64 k ∧ Hid (Below w.heap.size w ww)) (fun a _ _ _ => s - (intOf a).toNat)
      case atStart => exact ⟨0, Nat.zero_le _, rfl, HB⟩
      case round =>
        clear HB cc c0 c1
        obtain ⟨k, hk, rfl, HB⟩ := hrel
        have k0 : (0 : Int) ≤ (k : Int) := by omega
        by_cases hks : k < s
        · have hdk : decide ((k : Int) < (s : Int)) = true := by simpa using hks
          have k1 : (k : Int) < (s : Int) := by omega
          have k2 : (z : Int) + (k : Int) < 2048 := by omega
          have k3 : (0 : Int) ≤ (z : Int) + (k : Int) := by omega
          have e1 : ((z : Int) + (k : Int)).toNat = z + k := by omega
          obtain ⟨v, hv⟩ : ∃ v, v = C.xs.getD (z + k) 0 := ⟨_, rfl⟩
          have hl := load_in (xs := C.xs) (z := z) (k := k) (by have := HZS.out; omega)
          rw [← hv] at hl
          have HL := Lib.hid hl
          have HWV := Lib.hid (show ws.getD (z + k) 0 = v by rw [HWZ.out k hks, hv])
          have HX := Lib.hid (show z + k < 2048 by have := HZS.out; omega)
          have hvv : (v != v) = false := by simp
          clear hl hv
          go_wp2_with (first
            | (go_at_call 65; refine (bsize_any (P.out.below HB.out) (K.out.below HB.out) z HZ.out).mono ?_; rw [HS.out]; rintro e w7 ⟨rfl, hb⟩; have B7 := Lib.hid (below_next HB.out hb); clear hb)
            | (go_at_call 22; refine (cload_any (X.out.below B7.out) _).mono ?_; rw [HL.out.1, HL.out.2]; rintro e w8 ⟨rfl, rfl⟩; have d1 := (K.out.below B7.out).cells.2.2 (z + k) HX.out; rw [HWV.out] at d1))
          go_roundw
          case rel => exact ⟨k + 1, by omega, by go_num, B7⟩
          case measure => simp [intOf]; omega
        · have hdk : decide ((k : Int) < (s : Int)) = false := by simpa using hks
          go_wp2_with (go_at_call 65; refine (bsize_any (P.out.below HB.out) (K.out.below HB.out) z HZ.out).mono ?_; rw [HS.out]; rintro e w7 ⟨rfl, hb⟩; have B7 := Lib.hid (below_next HB.out hb); clear hb)
          go_roundw
          case rel => exact ⟨i + 1, by omega, by go_num, B7⟩
          case measure => simp [intOf]; omega
    · have hd : decide ((i : Int) < (n : Int)) = false := by simpa using hlt
      clear hkr
      go_wp2_with fail
      go_ret
      exact ⟨rfl, HB.out⟩
end
end Go.Proofs.YtfocdbflmodfhaaDoor

/- The law: each call answers as of lists. The walk. -/
namespace Go.Proofs.YtfocdbflmodfhaaDoor
open Go.RowKit

theorem zero_book (h : Nat) : (Tryd.zeroCells42.setIfInBounds 0 (.pointer (some ⟨h, 0, none⟩))) = bkC h (.slice none 0 0) (List.replicate 2048 0) := by kernel_rfl
theorem bits_none : bitsN (List.replicate 32 0#64) = [] := by
  unfold bitsN
  rw [List.filter_eq_nil_iff]
  intro a _
  rw [zero_bits]; simp
theorem cr_start {base h bk N : Nat} {b : Bl} {w : World} {kv : Value} {fv : List Value} (hN : N ≤ 64) (hx : CX w b (Cs.new N)) (hp : Hp base w h kv fv (restN 0) (List.replicate N 0) (fun _ => [])) (hk : w.heap[bk]? = some (.cells (bkC h (.slice none 0 0) (List.replicate 2048 0)) 42 (0, 0))) (ho : base ≤ bk) :
    CRE base b bk h N 0 w := by
  have e : bitsI (Cs.new N).ws = [] := by unfold bitsI; rw [show (Cs.new N).ws = List.replicate 32 0#64 from rfl, bits_none]; rfl
  refine ⟨Cs.new N, fun _ => [], List.replicate 2048 0, ⟨hx, inv_new hN, ⟨kv, fv, .slice none 0 0, hp, ?_, fun g hg => by cases hg⟩, fun a ha => ?_⟩, by simp [Cs.new], by rw [e]; exact Nat.le_refl _⟩
  · rw [e]
    exact ⟨hk, ho, IRow.nil _ _, Nat.zero_le _, List.length_replicate⟩
  · rw [show (Cs.new N).ws = List.replicate 32 0#64 from rfl, bits_none] at ha
    cases ha
set_option maxHeartbeats 16000000 in
set_option maxRecDepth 100000 in
theorem cellsRuns_any (p : Int) (A : Option Addr) (n cap : Nat) (hc : n ≤ cap) (xs : List Opr) (w : World) (hx : OpX w A n xs) (ht : Tab64 w) (hg : 0 < w.heap.size) :
    Calls Tryd.prog 4 #[.int .i64 p, .slice A n cap] w fun e w' => e = .returned (.bool true) ∧ Below w.heap.size w w' := by
  have HX := Lib.hid hx
  have HT := Lib.hid ht
  have HG := Lib.hid hg
  obtain ⟨pp, hpp⟩ : ∃ pp, pp = nearI p 0 64 := ⟨_, rfl⟩
  have HPP := Lib.hid hpp
  have hbd := clampN_bd (a := pp) (lo := 0) (hi := 64) (by omega)
  obtain ⟨N, hN⟩ : ∃ N, N = (clampN pp 0 64).toNat := ⟨_, rfl⟩
  have HN := Lib.hid hN
  have HN64 := Lib.hid (show N ≤ 64 by omega)
  have HC0 := Lib.hid (show clampN 0 0 9 = 0 by decide)
  clear hx ht hg hpp hbd hN
  go_enter Tryd.func4, Tryd.ntmps4
  go_wp2_with (first
    | (go_at_call 6; refine (alive_any _).mono ?_; rintro e w1 ⟨rfl, hb⟩; have B1 := Lib.hid hb; clear hb)
    | (go_at_call 18; refine (near_any _ _ _ _).mono ?_; rw [← HPP.out]; rintro e w' ⟨rfl, rfl⟩)
    | (go_at_call 7; refine (cnew_any pp _).mono ?_; rw [← HN.out]; rintro e w2 ⟨⟨b, rfl, hx2, hf2⟩, hb2⟩; have C2 := Lib.hid hx2; have F2 : Hid (∀ x ∈ b.fp, w.heap.size ≤ x) := Lib.hid (fun x hx => Nat.le_trans B1.out.size (hf2 x hx)); have B2 := Lib.hid (below_next B1.out hb2); clear hx2 hf2 hb2)
    | (go_at_call 19; refine (gnew_any pp 0 _).mono ?_; rw [← HN.out, HC0.out]; rintro e w3 ⟨⟨h, kv, fv, rfl, hh, -⟩, hb3⟩; have H3 := Lib.hid hh; have C3 := Lib.hid (C2.out.below hb3); have B3 := Lib.hid (below_next B2.out hb3); have Z3 := Lib.hid hb3.size; clear hh hb3)
    | (go_at_call 8; refine (afew_any _ _ _ hc _).mono ?_; rintro e w4 ⟨⟨cap', rfl⟩, rfl⟩))
  obtain ⟨m, hm⟩ : ∃ m, m = min n 40 := ⟨_, rfl⟩
  rw [← hm]
  have hm40 : m ≤ 40 := by omega
  have HMX : Hid (OpX w A m (xs.take m)) := Lib.hid (HX.out.take (by omega))
  generalize xs.take m = zs at HMX
  have L3 := below_alloc0 w3 (.cells (Tryd.zeroCells42.setIfInBounds 0 (.pointer (some ⟨h, 0, none⟩))) 42)
  have hK : (w3.alloc (.cells (Tryd.zeroCells42.setIfInBounds 0 (.pointer (some ⟨h, 0, none⟩))) 42)).heap[w3.heap.size]? = some (.cells (bkC h (.slice none 0 0) (List.replicate 2048 0)) 42 (0, 0)) := by rw [← zero_book]; exact heap_alloc_new w3 _
  have S4 := cr_start HN64.out (C3.out.below L3) (H3.out.below L3) hK Z3.out
  have B4 := below_next B3.out L3
  have E4 : w2.heap.size ≤ (w3.alloc (.cells (Tryd.zeroCells42.setIfInBounds 0 (.pointer (some ⟨h, 0, none⟩))) 42)).heap.size := Nat.le_trans Z3.out L3.size
  have G2 := Lib.hid (C2.out.lt)
  clear L3 hK
  generalize w3.alloc (.cells (Tryd.zeroCells42.setIfInBounds 0 (.pointer (some ⟨h, 0, none⟩))) 42) = w4 at S4 B4 E4 ⊢
  generalize w3.heap.size = bk at S4 ⊢
  replace S4 := Lib.hid S4
  replace B4 := Lib.hid B4
  replace E4 := Lib.hid E4
  have Q2 := Lib.hid B2.out.size
  clear hm C3 H3 B3 Z3 C2 B1 B2 HX hc
  go_loopw [7] (fun i wr => ∃ k : Nat, k ≤ m ∧ i = .int .i64 k ∧ Hid (CRE w2.heap.size b bk h N k wr) ∧ Hid (Below w.heap.size w wr) ∧ Hid (w2.heap.size ≤ wr.heap.size)) (fun i _ => m - (intOf i).toNat)
  case atStart => exact ⟨0, by omega, rfl, S4, B4, E4⟩
  case round =>
    clear S4 B4 E4
    obtain ⟨k, hk, rfl, HS, HB, HE⟩ := hrel
    by_cases hlt : k < m
    · obtain ⟨o1, o2, rfl, hcell⟩ := HMX.out.cell (by omega)
      obtain ⟨hn, hall⟩ := hcell k hlt
      obtain ⟨c0, c1, c2⟩ := opr_cells_at hall
      obtain ⟨x, hx⟩ : ∃ x, x = zs.getD k Opr.zero := ⟨_, rfl⟩
      rw [← hx] at hn c0 c1 c2
      have c0 := cell_keep HB.out c0
      have c1 := cell_keep HB.out c1
      have c2 := cell_keep HB.out c2
      obtain ⟨kk, hkk⟩ : ∃ kk, kk = x.k := ⟨_, rfl⟩
      obtain ⟨nn, hnn⟩ : ∃ nn, nn = x.n := ⟨_, rfl⟩
      obtain ⟨vv, hvv⟩ : ∃ vv, vv = x.x := ⟨_, rfl⟩
      rw [← hkk] at c0
      rw [← hnn] at c1 hn
      rw [← hvv] at c2
      clear hall hx hcell hkk hnn hvv
      have HNN := Lib.hid hn
      clear hn
      have hd : decide ((k : Int) < (m : Int)) = true := by simpa using hlt
      have i1 : (0 : Int) ≤ (k : Int) := by omega
      have i2 : (k : Int) < (m : Int) := by omega
      have HK49 := Lib.hid (show k ≤ 49 by omega)
      go_wp2_with (first
        | (go_at_call 20; refine (bstep_any (B0 := w.heap.size) HS.out HE.out G2.out Q2.out F2.out HK49.out _ _ _ HNN.out).mono ?_; rintro e w5 ⟨rfl, hc5, hb5⟩; have S5 := Lib.hid hc5; have B5 := Lib.hid (HB.out.trans hb5); have E5 := Lib.hid (Nat.le_trans HE.out hb5.size); have T5 := Lib.hid (HT.out.below B5.out HG.out); clear hc5 hb5)
        | (go_at_call 21; obtain ⟨C5, F5, ws5, hc6, hN6, hl6⟩ := S5.out; refine (btold_any hc6 T5.out (tab_lt T5.out)).mono ?_; rintro e w6 ⟨rfl, hb6⟩; have S6 : Hid (CRE w2.heap.size b bk h N (k + 1) w6) := Lib.hid ⟨C5, F5, ws5, hc6.below hb6, hN6, hl6⟩; have B6 := Lib.hid (below_next B5.out hb6); have E6 := Lib.hid (Nat.le_trans E5.out hb6.size); clear hc6 hN6 hl6 hb6))
      go_roundw
      case rel => exact ⟨k + 1, by omega, by go_num, S6, B6, E6⟩
      case measure => simp [intOf]; omega
    · have hd : decide ((k : Int) < (m : Int)) = false := by simpa using hlt
      have T5 := Lib.hid (HT.out.below HB.out HG.out)
      go_wp2_with (go_at_call 21; obtain ⟨C5, F5, ws5, hc6, hN6, hl6⟩ := HS.out; refine (btold_any hc6 T5.out (tab_lt T5.out)).mono ?_; rintro e w6 ⟨rfl, hb6⟩; have B6 := Lib.hid (below_next HB.out hb6); clear hc6 hN6 hl6 hb6)
      go_ret
      exact ⟨rfl, B6.out⟩
end Go.Proofs.YtfocdbflmodfhaaDoor

/- What each row of this seat leans on. -/
namespace Go.Proofs.YtfocdbflmodfhaaDoor
theorem rowOwn : ownKnob Tryd.prog.godebug = none := by kernel_rfl
theorem rowLaidOut : laidOutB Tryd.prog = true := by kernel_rfl
end Go.Proofs.YtfocdbflmodfhaaDoor

/- The one table that the rows list. -/
namespace Go.Proofs.YtfocdbflmodfhaaDoor
open Go.ChangeShapes Go.WideShapes Go.ChangeAt Go.RowKit Go.Deep

theorem own : ownKnob Tryd.prog.godebug = none := by kernel_rfl
theorem gTab : Tryd.prog.globalNamed "math/bits.deBruijn64tab" = some 0 := by kernel_rfl
theorem tTab : (Tryd.prog.globals[0]?).map (·.type) = some 110 := by kernel_rfl
abbrev laid1 : List (String × DataW Unit) := [("math/bits.deBruijn64tab", Rows.laid_math_bits_deBruijn64tab)]
/-- The door's own heap meets the condition. -/
theorem door_met (os : Os) (args : Array Value) : laidMetH Tryd.prog laid1 ((World.doorLaid Tryd.prog 400 os).forCall (fun _ _ => 0) ⟨#[], args, []⟩).memory :=
  laidMetH_of_parts3 (fuel := 8) (laidMet_of_run' 8 (by kernel_rfl) (by kernel_rfl)) (by kernel_rfl) (by kernel_rfl)
theorem tab_of_laid {W : World} (h : laidMetH Tryd.prog laid1 W) : Tab64 W := by
  rw [MakeChecks.laidMetH_plain _ _ _ (by kernel_rfl)] at h
  have h1 : Lib.TabIs Tryd.prog W "math/bits.deBruijn64tab" .u8 (Lib.deBruijn64tab.map Int.ofNat) := Lib.tabIs_of_head gTab tTab Tryd.underlying110 Tryd.underlying5 (by kernel_rfl) (by kernel_rfl) h
  intro j hj
  unfold Lib.TabIs World.var? at h1
  rw [gTab] at h1
  simp only [Option.bind_some] at h1
  split at h1
  · rename_i cs T fr hb
    rw [cell_of_row _ _ _ _ _ _ hb, Option.some.inj h1, List.getElem?_toArray, List.getElem?_map, List.getElem?_map, List.getD_eq_getElem?_getD, List.getElem?_eq_getElem hj]
    rfl
  · cases h1
end Go.Proofs.YtfocdbflmodfhaaDoor
