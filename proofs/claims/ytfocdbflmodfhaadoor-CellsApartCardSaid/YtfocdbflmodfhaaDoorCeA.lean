/- The law: what is taken lies apart. The walk. -/
import Derived.Test.YtfocdbflmodfhaaDoorCe9
namespace Go.Proofs.YtfocdbflmodfhaaDoor
open Go.RowKit

set_option maxHeartbeats 16000000 in
set_option maxRecDepth 100000 in
theorem cellsApart_any (p : Int) (A : Option Addr) (n cap : Nat) (hc : n ≤ cap) (xs : List Opr) (w : World) (hx : OpX w A n xs) (ht : Tab64 w) (hg : 0 < w.heap.size) :
    Calls Tryd.prog 3 #[.int .i64 p, .slice A n cap] w fun e w' => e = .returned (.bool true) ∧ Below w.heap.size w w' := by
  have HX := Lib.hid hx
  have HT := Lib.hid ht
  have HG := Lib.hid hg
  clear hx ht hg
  go_enter Tryd.func3, Tryd.ntmps3
  go_wp2_with (first
    | (go_at_call 6; refine (alive_any _).mono ?_; rintro e w1 ⟨rfl, hb⟩; have B1 := Lib.hid hb; clear hb)
    | (go_at_call 7; refine (cnew_any p _).mono ?_; rintro e w2 ⟨⟨b, rfl, hx2, hf2⟩, hb2⟩; have C2 := Lib.hid hx2; have F2 : Hid (∀ x ∈ b.fp, w.heap.size ≤ x) := Lib.hid (fun x hx => Nat.le_trans B1.out.size (hf2 x hx)); have B2 := Lib.hid (below_next B1.out hb2); clear hx2 hf2 hb2)
    | (go_at_call 8; refine (afew_any _ _ _ hc _).mono ?_; rintro e w3 ⟨⟨cap', rfl⟩, rfl⟩))
  obtain ⟨m, hm⟩ : ∃ m, m = min n 40 := ⟨_, rfl⟩
  rw [← hm]
  have hm40 : m ≤ 40 := by omega
  have HMX : Hid (OpX w A m (xs.take m)) := Lib.hid (HX.out.take (by omega))
  generalize xs.take m = zs at HMX
  have hbd := clampN_bd (a := p) (lo := 0) (hi := 64) (by omega)
  have hN : (Cs.new (clampN p 0 64).toNat).ks.length = (clampN p 0 64).toNat := by simp [Cs.new]
  have S2 : Hid (ApS w w2 b (clampN p 0 64).toNat) := Lib.hid ⟨⟨_, _, C2.out, inv_new (by omega), hN⟩, B2.out, F2.out⟩
  generalize (clampN p 0 64).toNat = N at S2
  clear hm hbd hN B1 B2 F2 C2 HX hc
  go_loopw [6] (fun i wr => ∃ k : Nat, k ≤ m ∧ i = .int .i64 k ∧ Hid (ApS w wr b N)) (fun i _ => m - (intOf i).toNat)
  case atStart => exact ⟨0, by omega, rfl, S2⟩
  case round =>
    clear S2
    obtain ⟨k, hk, rfl, HS⟩ := hrel
    by_cases hlt : k < m
    · obtain ⟨o1, o2, rfl, hcell⟩ := HMX.out.cell (by omega)
      obtain ⟨hn, hall⟩ := hcell k hlt
      obtain ⟨c0, c1, -⟩ := opr_cells_at hall
      obtain ⟨x, hx⟩ : ∃ x, x = zs.getD k Opr.zero := ⟨_, rfl⟩
      rw [← hx] at hn c0 c1
      have c0 := cell_keep HS.out.2.1 c0
      have c1 := cell_keep HS.out.2.1 c1
      obtain ⟨kk, hkk⟩ : ∃ kk, kk = x.k := ⟨_, rfl⟩
      obtain ⟨nn, hnn⟩ : ∃ nn, nn = x.n := ⟨_, rfl⟩
      rw [← hkk] at c0
      rw [← hnn] at c1 hn
      clear hall hx hcell hkk hnn
      obtain ⟨⟨C, F, hcx, hinv, hlen⟩, -, -⟩ := HS.out
      have HC := Lib.hid hcx
      have HI := Lib.hid hinv
      have HL := Lib.hid hlen
      have HNN := Lib.hid hn
      clear hcx hinv hlen hn
      have hd : decide ((k : Int) < (m : Int)) = true := by simpa using hlt
      have i1 : (0 : Int) ≤ (k : Int) := by omega
      have i2 : (k : Int) < (m : Int) := by omega
      by_cases k1 : kk = 1
      · subst k1
        go_wp2_with (go_at_call 9; refine (ocarve HC.out HI.out HL.out _).mono ?_; rintro e w4 ⟨⟨v, rfl⟩, hh, hf⟩; have S4 := Lib.hid (HS.out.step hh hf); clear hh hf)
        go_roundw
        case rel => exact ⟨k + 1, by omega, by go_num, S4⟩
        case measure => simp [intOf]; omega
      by_cases k2 : kk = 2
      · subst k2
        go_wp2_with (go_at_call 10; refine (otake HC.out HI.out HL.out _).mono ?_; rintro e w4 ⟨⟨v, rfl⟩, hh, hf⟩; have S4 := Lib.hid (HS.out.step hh hf); clear hh hf)
        go_roundw
        case rel => exact ⟨k + 1, by omega, by go_num, S4⟩
        case measure => simp [intOf]; omega
      by_cases k3 : kk = 3
      · subst k3
        go_wp2_with (go_at_call 11; refine (olarge HC.out HI.out HL.out _ HNN.out).mono ?_; rintro e w4 ⟨⟨v, rfl⟩, hh, hf⟩; have S4 := Lib.hid (HS.out.step hh hf); clear hh hf)
        go_roundw
        case rel => exact ⟨k + 1, by omega, by go_num, S4⟩
        case measure => simp [intOf]; omega
      by_cases k4 : kk = 4
      · subst k4
        go_wp2_with (go_at_call 12; refine (ogive HC.out HI.out HL.out _).mono ?_; rintro e w4 ⟨⟨v, rfl⟩, hh, hf⟩; have S4 := Lib.hid (HS.out.step hh hf); clear hh hf)
        go_roundw
        case rel => exact ⟨k + 1, by omega, by go_num, S4⟩
        case measure => simp [intOf]; omega
      have e1 : (kk == 1) = false := by simpa using k1
      have e2 : (kk == 2) = false := by simpa using k2
      have e3 : (kk == 3) = false := by simpa using k3
      have e4 : (kk == 4) = false := by simpa using k4
      clear k1 k2 k3 k4
      go_wp2_with (go_at_call 13; refine (odrop HC.out HI.out HL.out _).mono ?_; rintro e w4 ⟨⟨v, rfl⟩, hh, hf⟩; have S4 := Lib.hid (HS.out.step hh hf); clear hh hf)
      go_roundw
      case rel => exact ⟨k + 1, by omega, by go_num, S4⟩
      case measure => simp [intOf]; omega
    · have hd : decide ((k : Int) < (m : Int)) = false := by simpa using hlt
      obtain ⟨⟨C, F, hcx, hinv, -⟩, hb, hf⟩ := HS.out
      have HC := Lib.hid hcx
      have HI := Lib.hid hinv
      have HB := Lib.hid hb
      have FP := Lib.hid hf
      have HTr := Lib.hid (HT.out.below hb HG.out)
      have HGr : Hid (0 < wr.heap.size) := Lib.hid (Nat.lt_of_lt_of_le HG.out hb.size)
      clear hcx hinv hb hf HS
      go_wp2_with (go_at_call 14; refine (call_any HC.out HTr.out HGr.out).mono ?_; rintro e w5 ⟨⟨v, rfl, hv⟩, hb5⟩; have R5 : Hid (ApR w w5 b C F v) := Lib.hid ⟨HC.out.below hb5, HI.out, hv.mono HB.out.size, below_next HB.out hb5⟩; clear hv hb5)
      have hLb := bitsI_len C.ws
      obtain ⟨p5, q5, rfl, -, -, -⟩ := R5.out.row.slice
      obtain ⟨L, hL⟩ : ∃ L, L = (bitsI C.ws).length := ⟨_, rfl⟩
      rw [← hL] at R5 hLb ⊢
      have HLL := Lib.hid hL
      clear hL HTr HGr HC HB FP HI HMX hd hlt hk
      go_loopw [8] (fun i wr => ∃ k : Nat, k ≤ L ∧ i = .int .i64 k ∧ Hid (ApR w wr b C F (.slice p5 L q5))) (fun i _ => L - (intOf i).toNat)
      case atStart => exact ⟨0, by omega, rfl, R5⟩
      case round =>
        clear R5
        obtain ⟨k, hk, rfl, HR⟩ := hrel
        by_cases hlt : k < L
        · obtain ⟨g, rfl, hLe, -⟩ := HR.out.cell hlt
          have HCL : Hid (∀ (W : World) (j : Nat), j < L → ApR w W b C F (.slice (some ⟨g, 0, none⟩) L q5) → W.cell? ⟨g, j, none⟩ = some (.int .i64 ((bitsI C.ws).getD j 0))) := Lib.hid fun W j hj h => by
            obtain ⟨g', e, -, h3⟩ := h.cell hj
            simp only [Option.some.injEq, Addr.mk.injEq, and_true] at e
            rw [e]; exact h3
          have hd : decide ((k : Int) < (L : Int)) = true := by simpa using hlt
          have i1 : (0 : Int) ≤ (k : Int) := by omega
          have i2 : (k : Int) < (L : Int) := by omega
          have c0 := HCL.out wr k hlt HR.out
          rcases ap_at HR.out.inv (k := k) (by rw [← hLe]; exact hlt) with ⟨z, s, hz⟩ | ⟨z, p, r, hz⟩
          · rw [hz.at_] at c0
            obtain ⟨z0, z1, -, s0, s1, hkd, hal, hb0, hb1, hnx⟩ := hz
            rw [← hLe] at hnx
            have HKD := Lib.hid hkd
            have HB0 := Lib.hid hb0
            have HB1 := Lib.hid hb1
            have hs := decide_eq_true s0
            have hs2 : (s == 0) = false := by simp; omega
            have hs3 : s ≠ 0 := by omega
            have htm : z.tmod s = 0 := by rw [Int.tmod_eq_emod_of_nonneg z0]; exact hal
            clear hkd hal hb0 hb1 hLe
            by_cases hn : k + 1 < L
            · have hnz := hnx hn
              have hd1 : decide ((k : Int) + 1 < (L : Int)) = true := by rw [decide_eq_true_eq]; omega
              have i3 : (k : Int) + 1 < (L : Int) := by omega
              obtain ⟨y, hy⟩ : ∃ y, y = (bitsI C.ws).getD (k + 1) 0 := ⟨_, rfl⟩
              have HY := Lib.hid hy
              rw [← hy] at hnz
              have hd2 : decide (y < z + s) = false := by rw [decide_eq_false_iff_not]; omega
              clear hnx hy hnz
              go_wp2_with (first
                | (go_at_call 16; ((with_reducible refine (ckind_any HR.out.cx _).mono ?_); rintro e w6 ⟨rfl, hb⟩; have R6 := Lib.hid (HR.out.next hb); clear hb))
                | (go_at_call 15; ((with_reducible refine (rsize_any _ w6).mono ?_); rw [HKD.out]; rintro e w7 ⟨rfl, hb⟩; have R7 := Lib.hid (R6.out.next hb); have c1 := HCL.out w7 (k + 1) hn R7.out; rw [← HY.out] at c1; clear hb))
                | (go_at_call 17; ((with_reducible refine (cbase_any R7.out.cx _).mono ?_); rw [HB0.out]; rintro e w8 ⟨rfl, hb⟩; have R8 := Lib.hid (R7.out.next hb); clear hb))
                | (go_at_call 17; ((with_reducible refine (cbase_any R8.out.cx _).mono ?_); rw [HB1.out]; rintro e w9 ⟨rfl, hb⟩; have R9 := Lib.hid (R8.out.next hb); clear hb)))
              go_roundw
              case rel => exact ⟨k + 1, by omega, by go_num, R9⟩
              case measure => simp [intOf]; omega
            · have hd1 : decide ((k : Int) + 1 < (L : Int)) = false := by rw [decide_eq_false_iff_not]; omega
              clear hnx
              go_wp2_with (first
                | (go_at_call 16; ((with_reducible refine (ckind_any HR.out.cx _).mono ?_); rintro e w6 ⟨rfl, hb⟩; have R6 := Lib.hid (HR.out.next hb); clear hb))
                | (go_at_call 15; ((with_reducible refine (rsize_any _ w6).mono ?_); rw [HKD.out]; rintro e w7 ⟨rfl, hb⟩; have R7 := Lib.hid (R6.out.next hb); clear hb))
                | (go_at_call 17; ((with_reducible refine (cbase_any R7.out.cx _).mono ?_); rw [HB0.out]; rintro e w8 ⟨rfl, hb⟩; have R8 := Lib.hid (R7.out.next hb); clear hb))
                | (go_at_call 17; ((with_reducible refine (cbase_any R8.out.cx _).mono ?_); rw [HB1.out]; rintro e w9 ⟨rfl, hb⟩; have R9 := Lib.hid (R8.out.next hb); clear hb)))
              go_roundw
              case rel => exact ⟨k + 1, by omega, by go_num, R9⟩
              case measure => simp [intOf]; omega
          · rw [hz.at_] at c0
            obtain ⟨hz0, hr0, hp1, -, hkd, hrun, hb0, hb1, hnx⟩ := hz
            rw [← hLe] at hnx
            have e0 : z / 32 = (p : Int) := by omega
            have HKD : Hid (kindL C.ks (z / 32) = 5) := Lib.hid (by rw [e0]; exact hkd)
            have HB0 := Lib.hid hb0
            have HB1 := Lib.hid hb1
            have HS5 : Hid (sizeI 5 = 0) := Lib.hid (by decide)
            have z0 : 0 ≤ z := by omega
            have z1 : z + 32 * (r : Int) ≤ 2016 := by omega
            have htm : z.tmod 32 = 0 := by rw [Int.tmod_eq_emod_of_nonneg z0]; omega
            have HK6 : Hid (∀ j : Nat, j < r → (kindL C.ks ((z + 32 + 32 * (j : Int)) / 32) == 6) = true) := Lib.hid fun j hj => by
              rw [show (z + 32 + 32 * (j : Int)) / 32 = ((p + 1 + j : Nat) : Int) by omega, kindL_in (by omega)]
              exact beq_iff_eq.2 (run6_all C.ks (p + 1) j (by omega))
            have HK6n : Hid ((kindL C.ks ((z + 32 + 32 * (r : Int)) / 32) == 6) = false) := Lib.hid (by
              rw [show (z + 32 + 32 * (r : Int)) / 32 = ((p + 1 + r : Nat) : Int) by omega, hrun]
              exact beq_eq_false_iff_ne.2 (run6_after C.ks (p + 1)))
            clear hkd hb0 hb1 hLe e0 hrun hr0 hp1 hz0
            by_cases hn : k + 1 < L
            · have hnz := hnx hn
              have hd1 : decide ((k : Int) + 1 < (L : Int)) = true := by rw [decide_eq_true_eq]; omega
              have i3 : (k : Int) + 1 < (L : Int) := by omega
              obtain ⟨y, hy⟩ : ∃ y, y = (bitsI C.ws).getD (k + 1) 0 := ⟨_, rfl⟩
              have HY := Lib.hid hy
              rw [← hy] at hnz
              have hd2 : decide (y < z + 32 + 32 * (r : Int)) = false := by rw [decide_eq_false_iff_not]; omega
              clear hnx hy hnz
              go_wp2_with (first
                | (go_at_call 16; ((with_reducible refine (ckind_any HR.out.cx _).mono ?_); rw [HKD.out]; rintro e w6 ⟨rfl, hb⟩; have R6 := Lib.hid (HR.out.next hb); clear hb))
                | (go_at_call 15; ((with_reducible refine (rsize_any _ w6).mono ?_); rw [HS5.out]; rintro e w7 ⟨rfl, hb⟩; have R7 := Lib.hid (R6.out.next hb); clear hb))
                | (go_at_call 16; ((with_reducible refine (ckind_any R7.out.cx _).mono ?_); rw [HKD.out]; rintro e w8 ⟨rfl, hb⟩; have R8 := Lib.hid (R7.out.next hb); clear hb)))
              go_loopw [11] (fun a wq => ∃ j : Nat, j ≤ r ∧ a = .int .i64 (z + 32 + 32 * (j : Int)) ∧ Hid (ApR w wq b C F (.slice (some ⟨g, 0, none⟩) L q5))) (fun a _ => (z + 32 + 32 * (r : Int) - intOf a).toNat)
              case atStart => exact ⟨0, by omega, by simp, R8⟩
              case round =>
                clear R6 R7 R8
                obtain ⟨j, hj, rfl, RQ⟩ := hrel
                by_cases hjr : j < r
                · have h6 := HK6.out j hjr
                  go_wp2_with (go_at_call 16; ((with_reducible refine (ckind_any RQ.out.cx _).mono ?_); rintro e w9 ⟨rfl, hb⟩; have R9 := Lib.hid (RQ.out.next hb); clear hb))
                  go_roundw
                  case rel => exact ⟨j + 1, by omega, by simp; omega, R9⟩
                  case measure => simp only [intOf]; omega
                · obtain rfl : j = r := by omega
                  have h6 := HK6n.out
                  go_wp2_with (first
                    | (go_at_call 16; ((with_reducible refine (ckind_any RQ.out.cx _).mono ?_); rintro e w9 ⟨rfl, hb⟩; have R9 := Lib.hid (RQ.out.next hb); have c1 := HCL.out w9 (k + 1) hn R9.out; rw [← HY.out] at c1; clear hb))
                    | (go_at_call 17; ((with_reducible refine (cbase_any R9.out.cx _).mono ?_); rw [HB0.out]; rintro e w10 ⟨rfl, hb⟩; have R10 := Lib.hid (R9.out.next hb); clear hb))
                    | (go_at_call 17; ((with_reducible refine (cbase_any R10.out.cx _).mono ?_); rw [HB1.out]; rintro e w11 ⟨rfl, hb⟩; have R11 := Lib.hid (R10.out.next hb); clear hb)))
                  go_roundw
                  case rel => exact ⟨k + 1, by omega, by go_num, R11⟩
                  case measure => simp [intOf]; omega
            · have hd1 : decide ((k : Int) + 1 < (L : Int)) = false := by rw [decide_eq_false_iff_not]; omega
              clear hnx
              go_wp2_with (first
                | (go_at_call 16; ((with_reducible refine (ckind_any HR.out.cx _).mono ?_); rw [HKD.out]; rintro e w6 ⟨rfl, hb⟩; have R6 := Lib.hid (HR.out.next hb); clear hb))
                | (go_at_call 15; ((with_reducible refine (rsize_any _ w6).mono ?_); rw [HS5.out]; rintro e w7 ⟨rfl, hb⟩; have R7 := Lib.hid (R6.out.next hb); clear hb))
                | (go_at_call 16; ((with_reducible refine (ckind_any R7.out.cx _).mono ?_); rw [HKD.out]; rintro e w8 ⟨rfl, hb⟩; have R8 := Lib.hid (R7.out.next hb); clear hb)))
              go_loopw [11] (fun a wq => ∃ j : Nat, j ≤ r ∧ a = .int .i64 (z + 32 + 32 * (j : Int)) ∧ Hid (ApR w wq b C F (.slice (some ⟨g, 0, none⟩) L q5))) (fun a _ => (z + 32 + 32 * (r : Int) - intOf a).toNat)
              case atStart => exact ⟨0, by omega, by simp, R8⟩
              case round =>
                clear R6 R7 R8
                obtain ⟨j, hj, rfl, RQ⟩ := hrel
                by_cases hjr : j < r
                · have h6 := HK6.out j hjr
                  go_wp2_with (go_at_call 16; ((with_reducible refine (ckind_any RQ.out.cx _).mono ?_); rintro e w9 ⟨rfl, hb⟩; have R9 := Lib.hid (RQ.out.next hb); clear hb))
                  go_roundw
                  case rel => exact ⟨j + 1, by omega, by simp; omega, R9⟩
                  case measure => simp only [intOf]; omega
                · obtain rfl : j = r := by omega
                  have h6 := HK6n.out
                  go_wp2_with (first
                    | (go_at_call 16; ((with_reducible refine (ckind_any RQ.out.cx _).mono ?_); rintro e w9 ⟨rfl, hb⟩; have R9 := Lib.hid (RQ.out.next hb); clear hb))
                    | (go_at_call 17; ((with_reducible refine (cbase_any R9.out.cx _).mono ?_); rw [HB0.out]; rintro e w10 ⟨rfl, hb⟩; have R10 := Lib.hid (R9.out.next hb); clear hb))
                    | (go_at_call 17; ((with_reducible refine (cbase_any R10.out.cx _).mono ?_); rw [HB1.out]; rintro e w11 ⟨rfl, hb⟩; have R11 := Lib.hid (R10.out.next hb); clear hb)))
                  go_roundw
                  case rel => exact ⟨k + 1, by omega, by go_num, R11⟩
                  case measure => simp [intOf]; omega
        · have hd : decide ((k : Int) < (L : Int)) = false := by simpa using hlt
          go_wp2_with fail
          go_ret
          exact ⟨rfl, HR.out.below⟩
end Go.Proofs.YtfocdbflmodfhaaDoor
