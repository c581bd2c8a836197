/- What a law lays: seen from below. -/
import Derived.Test.YtjoejjhgneccgaaGreatDoorQSW16
import Derived.Test.YtjoejjhgneccgaaGreatDoorQSW20
import Derived.Test.YtjoejjhgneccgaaGreatDoorRows
import Derived.KernelRfl
import Derived.ProofKit
namespace Go.Proofs.YtjoejjhgneccgaaGreatDoor
open Go.RowKit

/-- Blocks of a law's own, and what lay there ahead of it. -/
structure Lay (B : Nat) (w0 w : World) (fp : List Nat) : Prop where
  bl : Below B w0 w
  ge : ∀ k ∈ fp, B ≤ k
  sz : B ≤ w.heap.size
section
variable {B : Nat} {w0 w w' : World} {fp fp' : List Nat}
theorem Lay.start (w : World) : Lay w.heap.size w w [] := ⟨Below.refl _ _, fun _ h => by simp at h, Nat.le_refl _⟩
theorem Lay.turn (h : Lay B w0 w fp) (ht : Turn fp fp' w w') : Lay B w0 w' fp' :=
  ⟨h.bl.trans (ht.frm.below h.sz h.ge), fun k hk => by
    rcases ht.fr k hk with h1 | h1
    · exact h.ge k h1
    · exact Nat.le_trans h.sz h1, Nat.le_trans h.sz ht.size⟩
theorem Lay.sub (h : Lay B w0 w fp) (hs : ∀ k ∈ fp', k ∈ fp) : Lay B w0 w fp' := ⟨h.bl, fun k hk => h.ge k (hs k hk), h.sz⟩
theorem Lay.below (h : Lay B w0 w fp) (hb : Below w.heap.size w w') : Lay B w0 w' fp := ⟨h.bl.trans (hb.mono h.sz), h.ge, Nat.le_trans h.sz hb.size⟩
/-- New blocks. -/
theorem Lay.new (h : Lay B w0 w fp) (hb : Below w.heap.size w w') (hn : ∀ k ∈ fp', k ∈ fp ∨ w.heap.size ≤ k) : Lay B w0 w' fp' :=
  ⟨h.bl.trans (hb.mono h.sz), fun k hk => by
    rcases hn k hk with h1 | h1
    · exact h.ge k h1
    · exact Nat.le_trans h.sz h1, Nat.le_trans h.sz hb.size⟩
theorem Lay.tab (h : Lay B w0 w fp) (ht : Tab64 w0) (hg : 0 < B) : Tab64 w ∧ 0 < w.heap.size ∧ 0 ∉ fp :=
  ⟨ht.below h.bl hg, Nat.lt_of_lt_of_le hg h.sz, fun hk => by have := h.ge _ hk; omega⟩
theorem SJ.new {N : Nat} (hN : N ≤ 64) {th : Int} (h : 0 ≤ th ∧ th ≤ 9) : SJ (Sm.new N th) :=
  ⟨SI.new hN h, Int.le_refl _, by show (0 : Int) ≤ 1000000; decide, fun a ha => by
    rw [mem_bits] at ha
    have := ha.2
    rw [show bit (Sm.new N th).C.ws a = false from zero_bits a] at this
    cases this⟩
theorem stfp_ge {b : Sl} {B : Nat} (h1 : ∀ x ∈ b.fp, B ≤ x) (h2 : B ≤ b.oc) : ∀ k ∈ stfp b, B ≤ k := fun k hk => by
  rcases List.mem_cons.1 hk with rfl | hk
  · exact h2
  · exact h1 k hk
/-- Marks made behind a store. -/
theorem HX.made {b : Sl} {S : Sm} {gb : Gb} {v : Value} {K : Gk} (hs : StX w b S) (hb : Below w.heap.size w w') (hg : GkX w' gb v K) (hn : ∀ k ∈ gkfp gb v, w.heap.size ≤ k) : HX w' ⟨b, gb⟩ v ⟨S, K⟩ :=
  ⟨hs.below hb, hg, fun k hk hk2 => by have := hs.lt k hk; have := hn k hk2; omega⟩
end
end Go.Proofs.YtjoejjhgneccgaaGreatDoor

/- A sweeper: one that is marked stays, another one goes (plain). -/
namespace Go.Proofs.YtjoejjhgneccgaaGreatDoor
open Go.RowKit

def sa1 : Sm := slowS (Sm.new 2 1) 0 2
def sa2 : Sm := slowS sa1 0 2
def sh2 : Hm := ⟨sa2, blackK (Gk.new 1) 4⟩
def su1 : Hm × Swp := swUnit sh2 (startP (Swp.new 2))
def su2 : Hm × Swp := swUnit su1.1 su1.2
def su3 : Hm × Swp := swUnit su2.1 su2.2
theorem sa_v1 : slowV (Sm.new 2 1) 0 2 = (0, 0) := by kernel_rfl
theorem sa_v2 : slowV sa1 0 2 = (4, 0) := by kernel_rfl
theorem sa_m1 : sa1.md = 1 := by kernel_rfl
theorem sa_b : addB 2048 (Gk.new 1).ws 4 = true := by kernel_rfl
theorem sa_d : doneB (Swp.new 2) = true := by kernel_rfl
theorem su_b1 : swUnitB (startP (Swp.new 2)) = true := by kernel_rfl
theorem su_b2 : swUnitB su1.2 = true := by kernel_rfl
theorem su_b3 : swUnitB su2.2 = false := by kernel_rfl
theorem su_e1 : (swUnit sh2 (startP (Swp.new 2))).1 = su1.1 := rfl
theorem su_e2 : (swUnit sh2 (startP (Swp.new 2))).2 = su1.2 := rfl
theorem su_e3 : (swUnit su1.1 su1.2).1 = su2.1 := rfl
theorem su_e4 : (swUnit su1.1 su1.2).2 = su2.2 := rfl
theorem su_e5 : (swUnit su2.1 su2.2).1 = su3.1 := rfl
theorem su_e6 : (swUnit su2.1 su2.2).2 = su3.2 := rfl
theorem su_p : su3.2.at_ = 2 ∧ su3.2.freed = 1 ∧ doneB su3.2 = true := ⟨by kernel_rfl, by kernel_rfl, by kernel_rfl⟩
theorem su_f0 : (readV su3.1.S 0).2 = -1 := by kernel_rfl
theorem su_f4 : (readV su3.1.S 4).2 = 2 := by kernel_rfl
theorem su_m4 : hasB 2048 su3.1.K.ws 4 = false := by kernel_rfl
theorem sj_sa1 : SJ sa1 := (SJ.new (by decide) (by decide)).slow (by decide) 0 2
theorem sj_sa2 : SJ sa2 := sj_sa1.slow (by rw [sa_m1]; decide) 0 2
theorem sweepL_sj2 {l : List Int} {y z : Hm × Int} (h : SJ y.1.S) (e : z = l.foldl sweepF y) : SJ z.1.S := by
  subst e
  exact sweepL_sj l h
theorem swUnit_sj {H : Hm} {P : Swp} (h : SJ H.S) : SJ (swUnit H P).1.S := by
  unfold swUnit
  split
  · exact h
  · have h1 := sweepL_sj2 (z := sweepL H P) (l := inL H.S P.at_) (y := (H, P.freed)) h rfl
    generalize sweepL H P = y at h1
    have h2 := h1.si.trim P.at_
    exact h1.sam h2.2 h2.1
theorem sh2_S : sh2.S = sa2 := by kernel_rfl
theorem sj_sh2 : SJ sh2.S := by rw [sh2_S]; exact sj_sa2
theorem sj_su1 : SJ su1.1.S := @swUnit_sj sh2 (startP (Swp.new 2)) sj_sh2
theorem sj_su2 : SJ su2.1.S := @swUnit_sj su1.1 su1.2 sj_su1
end Go.Proofs.YtjoejjhgneccgaaGreatDoor

/- A store: two of the greatest small ones. -/
namespace Go.Proofs.YtjoejjhgneccgaaGreatDoor
open Go.RowKit

def al0 : Sm := Sm.new 2 1
def al1 : Sm := slowS al0 0 15
def al2 : Sm := fastS al1 0 15
def al3 : Sm := slowS al2 0 15
def al4 : Sm := slowS al3 0 16
theorem al_v0 : slowV al0 0 15 = (0, 0) := by kernel_rfl
theorem al_v1 : fastV al1 0 15 = some 16 := by kernel_rfl
theorem al_v2 : slowV al2 0 15 = (32, 0) := by kernel_rfl
theorem al_v3 : slowV al3 0 16 = (0, 10) := by kernel_rfl
theorem al_m1 : al1.md = 1 := by kernel_rfl
theorem al_m2 : al2.md = 2 := by kernel_rfl
theorem al_m3 : al3.md = 3 := by kernel_rfl
theorem al_m4 : al4.md = 3 := by kernel_rfl
theorem al_f4 : (readV al4 16).2 = 15 := by kernel_rfl
theorem al_s4 : (readV al4 32).1 = 2 := by kernel_rfl
end Go.Proofs.YtjoejjhgneccgaaGreatDoor

/- A store: the law's alive. -/
namespace Go.Proofs.YtjoejjhgneccgaaGreatDoor
open Go.RowKit

theorem SI.al0 : SI al0 := SI.new (by decide) (by decide)
theorem SI.al1 : SI al1 := SI.al0.slow 0 15
theorem SI.al2 : SI al2 := SI.al1.fast 0 15
theorem SI.al3 : SI al3 := SI.al2.slow 0 15
section
variable {w w' : World} {b : Sl}
theorem al_new (w : World) : Calls Tryz.prog 54 #[.int .i64 2, .int .i64 1] w fun e w' => NewS 2 1 w.heap.size e w' ∧ Below w.heap.size w w' := by
  have := stnew_any 2 1 w
  rwa [show (clampN 2 0 64).toNat = 2 by decide, show clampN 1 0 9 = 1 by decide] at this
theorem al_c1 (h : StX w b al0) : Calls Tryz.prog 39 #[.pointer (some ⟨b.s, 0, none⟩), .int .i64 0, .int .i64 15] w fun e w' => e = .returned (.tuple #[.int .i64 0, .int .i64 0]) ∧ StX w' b al1 ∧ Frm b.fp w w' := by
  have := sslow_any h SI.al0 0 15 (by decide) (by decide)
  rw [al_v0] at this
  exact this
theorem al_c2 (h : StX w b al1) : Calls Tryz.prog 38 #[.pointer (some ⟨b.s, 0, none⟩), .int .i64 0, .int .i64 15] w fun e w' => e = .returned (.tuple #[.int .i64 16, .bool true]) ∧ StX w' b al2 ∧ Frm b.fp w w' := by
  have := sfast_any h SI.al1 0 15 ⟨by decide, by decide⟩ (by rw [al_m1]; decide) (by rw [al_m1]; decide)
  rw [al_v1] at this
  exact this
theorem al_c3 (h : StX w b al2) : Calls Tryz.prog 39 #[.pointer (some ⟨b.s, 0, none⟩), .int .i64 0, .int .i64 15] w fun e w' => e = .returned (.tuple #[.int .i64 32, .int .i64 0]) ∧ StX w' b al3 ∧ Frm b.fp w w' := by
  have := sslow_any h SI.al2 0 15 (by rw [al_m2]; decide) (by rw [al_m2]; decide)
  rw [al_v2] at this
  exact this
theorem al_c4 (h : StX w b al3) : Calls Tryz.prog 39 #[.pointer (some ⟨b.s, 0, none⟩), .int .i64 0, .int .i64 16] w fun e w' => e = .returned (.tuple #[.int .i64 0, .int .i64 10]) ∧ StX w' b al4 ∧ Frm b.fp w w' := by
  have := sslow_any h SI.al3 0 16 (by rw [al_m3]; decide) (by rw [al_m3]; decide)
  rw [al_v3] at this
  exact this
theorem al_q1 (h : StX w b al4) : Calls Tryz.prog 52 #[.pointer (some ⟨b.s, 0, none⟩)] w fun e w' => e = .returned (.int .i64 3) ∧ w = w' := by
  have := smade_any h
  rwa [al_m4] at this
theorem al_q2 (h : StX w b al4) : Calls Tryz.prog 44 #[.pointer (some ⟨b.s, 0, none⟩), .int .i64 16] w fun e w' => e = .returned (.int .i64 15) ∧ w = w' := by
  have := sfields_any h 16
  rwa [al_f4] at this
theorem al_q3 (h : StX w b al4) : Calls Tryz.prog 45 #[.pointer (some ⟨b.s, 0, none⟩), .int .i64 32] w fun e w' => e = .returned (.int .i64 2) ∧ w = w' := by
  have := sserial_any h 32
  rwa [al_s4] at this
set_option maxHeartbeats 4000000 in
set_option maxRecDepth 100000 in
theorem stalive_any (w : World) :
    Calls Tryz.prog 37 #[] w fun e w' => e = .returned (.bool true) ∧ Below w.heap.size w w' := by
  go_enter Tryz.func37, Tryz.ntmps37
  go_wp2_with (first
    | (go_at_call 54; refine (al_new _).mono ?_; rintro e w1 ⟨⟨b, rfl, hx, hg, -⟩, hb⟩; have H1 := Lib.hid hx; have G1 := Lib.hid hg; have B1 := Lib.hid hb; clear hx hg hb)
    | (go_at_call 39; (with_reducible refine (al_c1 H1.out).mono ?_); rintro e w2 ⟨rfl, hx, hf⟩; have H2 := Lib.hid hx; have F2 := Lib.hid hf; clear hx hf)
    | (go_at_call 38; (with_reducible refine (al_c2 H2.out).mono ?_); rintro e w3 ⟨rfl, hx, hf⟩; have H3 := Lib.hid hx; have F3 := Lib.hid (F2.out.trans hf (fun x hx => .inl hx)); clear hx hf)
    | (go_at_call 39; (with_reducible refine (al_c3 H3.out).mono ?_); rintro e w4 ⟨rfl, hx, hf⟩; have H4 := Lib.hid hx; have F4 := Lib.hid (F3.out.trans hf (fun x hx => .inl hx)); clear hx hf)
    | (go_at_call 39; (with_reducible refine (al_c4 H4.out).mono ?_); rintro e w5 ⟨rfl, hx, hf⟩; have H5 := Lib.hid hx; have F5 := Lib.hid (F4.out.trans hf (fun x hx => .inl hx)); clear hx hf)
    | (go_at_call 52; refine (al_q1 H5.out).mono ?_; rintro e w6 ⟨rfl, rfl⟩)
    | (go_at_call 44; refine (al_q2 H5.out).mono ?_; rintro e w6 ⟨rfl, rfl⟩)
    | (go_at_call 45; refine (al_q3 H5.out).mono ?_; rintro e w6 ⟨rfl, rfl⟩))
  go_ret
  exact ⟨rfl, B1.out.trans (F5.out.below B1.out.size G1.out)⟩
end
end Go.Proofs.YtjoejjhgneccgaaGreatDoor

/- A store that nobody made. (Printed by wip/stb.py.) -/
namespace Go.Proofs.YtjoejjhgneccgaaGreatDoor
open Go.RowKit

def NobS (w : World) (p : Option Addr) : Prop := p = none ∨ ∃ z : Nat, p = some ⟨z, 0, none⟩ ∧ w.heap[z]? = some (.cells #[.pointer none, .pointer none, .int .i64 0, .int .i64 0, .int .i64 0] 74 (0, 0))
theorem NobS.below {w w' : World} {p : Option Addr} (h : NobS w p) (hb : Below w.heap.size w w') : NobS w' p := h.imp id fun ⟨z, e, hz⟩ => ⟨z, e, keep hb hz⟩
section
variable {w w' : World} {p : Option Addr}
theorem nbis_any (h : NobS w p) :
    Calls Tryz.prog 84 #[.pointer p] w fun e w' => e = .returned (.bool false) ∧ w = w' := by
  rcases h with rfl | ⟨z, rfl, hz⟩
  · go_enter Tryz.func84, Tryz.ntmps84
    go_wp2_with fail
    go_ret
    exact ⟨rfl, rfl⟩
  · have c0 : w.cell? ⟨z, 0, none⟩ = some (.pointer none) := cell_of_row _ _ _ _ _ _ hz
    clear hz
    go_enter Tryz.func84, Tryz.ntmps84
    go_wp2_with fail
    go_ret
    exact ⟨rfl, rfl⟩
set_option maxHeartbeats 1000000 in
theorem nbfast_any (t n : Int) (h : NobS w p) :
    Calls Tryz.prog 38 #[.pointer p, .int .i64 t, .int .i64 n] w fun e w' => e = .returned (.tuple #[.int .i64 0, .bool false]) ∧ w = w' := by
  have H := Lib.hid h
  clear h
  go_enter Tryz.func38, Tryz.ntmps38
  go_wp2_with (first
    | (go_at_call 84; refine (nbis_any H.out).mono ?_; rintro e w1 ⟨rfl, rfl⟩))
  go_ret2
  exact ⟨rfl, rfl⟩
set_option maxHeartbeats 1000000 in
theorem nbslow_any (t n : Int) (h : NobS w p) :
    Calls Tryz.prog 39 #[.pointer p, .int .i64 t, .int .i64 n] w fun e w' => e = .returned (.tuple #[.int .i64 0, .int .i64 9]) ∧ w = w' := by
  have H := Lib.hid h
  clear h
  go_enter Tryz.func39, Tryz.ntmps39
  go_wp2_with (first
    | (go_at_call 84; refine (nbis_any H.out).mono ?_; rintro e w1 ⟨rfl, rfl⟩)
    | (go_at_call 88; refine (of_any n _).mono ?_; rintro e w1 ⟨rfl, rfl⟩))
  go_ret2
  exact ⟨rfl, rfl⟩
set_option maxHeartbeats 1000000 in
theorem nbfree_any (a : Int) (h : NobS w p) :
    Calls Tryz.prog 41 #[.pointer p, .int .i64 a] w fun e w' => e = .returned (.bool false) ∧ w = w' := by
  have H := Lib.hid h
  clear h
  go_enter Tryz.func41, Tryz.ntmps41
  go_wp2_with (first
    | (go_at_call 84; refine (nbis_any H.out).mono ?_; rintro e w1 ⟨rfl, rfl⟩))
  go_ret
  exact ⟨rfl, rfl⟩
set_option maxHeartbeats 1000000 in
theorem nbread_any (a : Int) (h : NobS w p) :
    Calls Tryz.prog 101 #[.pointer p, .int .i64 a] w fun e w' => e = .returned (.tuple #[.int .i64 (-1), .int .i64 (-1)]) ∧ w = w' := by
  have H := Lib.hid h
  clear h
  go_enter Tryz.func101, Tryz.ntmps101
  go_wp2_with (first
    | (go_at_call 84; refine (nbis_any H.out).mono ?_; rintro e w1 ⟨rfl, rfl⟩))
  go_ret2
  exact ⟨rfl, rfl⟩
set_option maxHeartbeats 1000000 in
theorem nbfields_any (a : Int) (h : NobS w p) :
    Calls Tryz.prog 44 #[.pointer p, .int .i64 a] w fun e w' => e = .returned (.int .i64 (-1)) ∧ w = w' := by
  have H := Lib.hid h
  clear h
  go_enter Tryz.func44, Tryz.ntmps44
  go_wp2_with (first
    | (go_at_call 101; refine (nbread_any a H.out).mono ?_; rintro e w1 ⟨rfl, rfl⟩))
  go_ret
  exact ⟨rfl, rfl⟩
set_option maxHeartbeats 1000000 in
theorem nbserial_any (a : Int) (h : NobS w p) :
    Calls Tryz.prog 45 #[.pointer p, .int .i64 a] w fun e w' => e = .returned (.int .i64 (-1)) ∧ w = w' := by
  have H := Lib.hid h
  clear h
  go_enter Tryz.func45, Tryz.ntmps45
  go_wp2_with (first
    | (go_at_call 101; refine (nbread_any a H.out).mono ?_; rintro e w1 ⟨rfl, rfl⟩))
  go_ret
  exact ⟨rfl, rfl⟩
set_option maxHeartbeats 1000000 in
theorem nbobjects_any (h : NobS w p) :
    Calls Tryz.prog 46 #[.pointer p] w fun e w' => e = .returned (.slice none 0 0) ∧ w = w' := by
  have H := Lib.hid h
  clear h
  go_enter Tryz.func46, Tryz.ntmps46
  go_wp2_with (first
    | (go_at_call 84; refine (nbis_any H.out).mono ?_; rintro e w1 ⟨rfl, rfl⟩))
  go_ret
  exact ⟨rfl, rfl⟩
set_option maxHeartbeats 1000000 in
theorem nbquit_any (t : Int) (h : NobS w p) :
    Calls Tryz.prog 48 #[.pointer p, .int .i64 t] w fun e w' => e = .returned (.int .i64 0) ∧ w = w' := by
  have H := Lib.hid h
  clear h
  go_enter Tryz.func48, Tryz.ntmps48
  go_wp2_with (first
    | (go_at_call 84; refine (nbis_any H.out).mono ?_; rintro e w1 ⟨rfl, rfl⟩))
  go_ret
  exact ⟨rfl, rfl⟩
set_option maxHeartbeats 1000000 in
theorem nbowner_any (q : Int) (h : NobS w p) :
    Calls Tryz.prog 51 #[.pointer p, .int .i64 q] w fun e w' => e = .returned (.int .i64 (-1)) ∧ w = w' := by
  have H := Lib.hid h
  clear h
  go_enter Tryz.func51, Tryz.ntmps51
  go_wp2_with (first
    | (go_at_call 84; refine (nbis_any H.out).mono ?_; rintro e w1 ⟨rfl, rfl⟩))
  go_ret
  exact ⟨rfl, rfl⟩
set_option maxHeartbeats 1000000 in
theorem nbtrim_any (q : Int) (h : NobS w p) :
    Calls Tryz.prog 43 #[.pointer p, .int .i64 q] w fun e w' => e = .returned (.bool false) ∧ w = w' := by
  have H := Lib.hid h
  clear h
  go_enter Tryz.func43, Tryz.ntmps43
  go_wp2_with (first
    | (go_at_call 84; refine (nbis_any H.out).mono ?_; rintro e w1 ⟨rfl, rfl⟩))
  go_ret
  exact ⟨rfl, rfl⟩
set_option maxHeartbeats 1000000 in
theorem nbpages_any (h : NobS w p) :
    Calls Tryz.prog 49 #[.pointer p] w fun e w' => e = .returned (.int .i64 0) ∧ w = w' := by
  have H := Lib.hid h
  clear h
  go_enter Tryz.func49, Tryz.ntmps49
  go_wp2_with (first
    | (go_at_call 84; refine (nbis_any H.out).mono ?_; rintro e w1 ⟨rfl, rfl⟩))
  go_ret
  exact ⟨rfl, rfl⟩
set_option maxHeartbeats 1000000 in
theorem nbkind_any (q : Int) (h : NobS w p) :
    Calls Tryz.prog 50 #[.pointer p, .int .i64 q] w fun e w' => e = .returned (.int .i64 (-1)) ∧ w = w' := by
  have H := Lib.hid h
  clear h
  go_enter Tryz.func50, Tryz.ntmps50
  go_wp2_with (first
    | (go_at_call 84; refine (nbis_any H.out).mono ?_; rintro e w1 ⟨rfl, rfl⟩))
  go_ret
  exact ⟨rfl, rfl⟩
set_option maxHeartbeats 1000000 in
theorem nbmade_any (h : NobS w p) :
    Calls Tryz.prog 52 #[.pointer p] w fun e w' => e = .returned (.int .i64 0) ∧ w = w' := by
  have H := Lib.hid h
  clear h
  go_enter Tryz.func52, Tryz.ntmps52
  go_wp2_with (first
    | (go_at_call 84; refine (nbis_any H.out).mono ?_; rintro e w1 ⟨rfl, rfl⟩))
  go_ret
  exact ⟨rfl, rfl⟩
end
end Go.Proofs.YtjoejjhgneccgaaGreatDoor

/- A store that nobody made: fields, and objects of a page. -/
namespace Go.Proofs.YtjoejjhgneccgaaGreatDoor
open Go.RowKit

section
variable {w w' : World} {p : Option Addr}
set_option maxHeartbeats 1000000 in
theorem nbhas_any (a i : Int) (h : NobS w p) :
    Calls Tryz.prog 94 #[.pointer p, .int .i64 a, .int .i64 i] w fun e w' => e = .returned (.bool false) ∧ w = w' := by
  have H := Lib.hid h
  clear h
  by_cases h0 : 0 ≤ i
  · have d0 : decide (0 ≤ i) = true := by simpa using h0
    have d1 : decide (i < -1) = false := by rw [decide_eq_false_iff_not]; omega
    clear h0
    go_enter Tryz.func94, Tryz.ntmps94
    go_wp2_with (go_at_call 44; refine (nbfields_any a H.out).mono ?_; rintro e w1 ⟨rfl, rfl⟩)
    go_ret
    exact ⟨rfl, rfl⟩
  · have d0 : decide (0 ≤ i) = false := by simpa using h0
    clear h0
    go_enter Tryz.func94, Tryz.ntmps94
    go_wp2_with fail
    go_ret
    exact ⟨rfl, rfl⟩
set_option maxHeartbeats 1000000 in
theorem nbset_any (a i k n : Int) (h : NobS w p) :
    Calls Tryz.prog 42 #[.pointer p, .int .i64 a, .int .i64 i, .agg #[.int .i64 k, .int .i64 n]] w fun e w' => e = .returned (.bool false) ∧ Below w.heap.size w w' := by
  have B0 := Lib.hid (below_alloc0 w (.cells #[.int .i64 k, .int .i64 n] 70))
  have H := Lib.hid (h.below B0.out)
  have c0 : (w.alloc (.cells #[.int .i64 k, .int .i64 n] 70)).cell? ⟨w.heap.size, 0, none⟩ = some (.int .i64 k) := cell_of_row _ _ _ _ _ _ (heap_alloc_new w _)
  have c1 : (w.alloc (.cells #[.int .i64 k, .int .i64 n] 70)).cell? ⟨w.heap.size, 1, none⟩ = some (.int .i64 n) := cell_of_row _ _ _ _ _ _ (heap_alloc_new w _)
  clear h
  cases hb : (checkV k n == 0)
  all_goals
    have HP : Hid (∀ e, PutE k n e → ∃ x, e = .returned (.tuple #[.int .i64 x, .bool (checkV k n == 0)])) := Lib.hid (fun e he => ⟨_, he⟩)
    rw [hb] at HP
    clear hb
    go_enter Tryz.func42, Tryz.ntmps42
    go_wp2_with (first
      | (go_at_call 98; refine (wput_any k n _).mono ?_; rintro e w1 ⟨he, hb⟩; obtain ⟨x, rfl⟩ := HP.out e he; have H1 := Lib.hid (H.out.below hb); have B1 := Lib.hid (below_next B0.out hb); clear he hb)
      | (go_at_call 94; refine (nbhas_any a i H1.out).mono ?_; rintro e w2 ⟨rfl, rfl⟩))
    go_ret
    exact ⟨rfl, B1.out⟩
set_option maxHeartbeats 1000000 in
theorem nbin_any (q : Int) (h : NobS w p) :
    Calls Tryz.prog 47 #[.pointer p, .int .i64 q] w fun e w' => e = .returned (.slice none 0 0) ∧ w = w' := by
  have H := Lib.hid h
  clear h
  go_enter Tryz.func47, Tryz.ntmps47
  go_wp2_with (go_at_call 46; refine (nbobjects_any H.out).mono ?_; rintro e w1 ⟨rfl, rfl⟩)
  go_loopw [5, 11] (fun v i wr => v = .slice none 0 0 ∧ i = .int .i64 0 ∧ wr = w) (fun _ _ _ => 0)
  case atStart => exact ⟨rfl, rfl, rfl⟩
  case round =>
    obtain ⟨rfl, rfl, rfl⟩ := hrel
    go_wp2_with fail
    go_ret
    exact ⟨rfl, rfl⟩
set_option maxHeartbeats 1000000 in
theorem nbget_any (a i : Int) (h : NobS w p) :
    Calls Tryz.prog 40 #[.pointer p, .int .i64 a, .int .i64 i] w fun e w' => e = .returned (.tuple #[.agg #[.int .i64 0, .int .i64 0], .bool false]) ∧ Below w.heap.size w w' := by
  have B0 := Lib.hid (below_alloc0 w (.cells #[.int .i64 0, .int .i64 0] 70))
  have H := Lib.hid (h.below B0.out)
  have A0 := Lib.hid (heap_alloc_new w (.cells #[.int .i64 0, .int .i64 0] 70))
  clear h
  go_enter Tryz.func40, Tryz.ntmps40
  go_wp2_with (first
    | (go_at_call 94; refine (nbhas_any a i H.out).mono ?_; rintro e w1 ⟨rfl, rfl⟩)
    | (refine wpList_store_row rfl 70 _ _ rfl w.heap.size #[.int .i64 0, .int .i64 0] rfl rfl 70 _ A0.out (by kernel_rfl) rfl (by kernel_rfl) ?_))
  exact bodyPost_ret (results_row_tmp (p := 6) (u := 7) rfl _ _ w.heap.size 70 #[.int .i64 0, .int .i64 0] _ _ rfl (heap_setRow_same _ A0.out) Tryz.underlying70 rfl (by kernel_rfl)) rfl
    ⟨rfl, below_setRow (g := w.heap.size) B0.out (by omega) _⟩
end
end Go.Proofs.YtjoejjhgneccgaaGreatDoor

/- A sweeper: the law's alive; one that nobody made; the law SweepNobody. -/
namespace Go.Proofs.YtjoejjhgneccgaaGreatDoor
open Go.RowKit

section
variable {w w' : World} {b : Hb} {v : Value} {x : Nat}
theorem swst_new (w : World) : Calls Tryz.prog 54 #[.int .i64 2, .int .i64 1] w fun e w' => NewS 2 1 w.heap.size e w' ∧ Below w.heap.size w w' := by
  have := stnew_any 2 1 w
  rwa [show (clampN 2 0 64).toNat = 2 by decide, show clampN 1 0 9 = 1 by decide] at this
theorem sw_c1 (h : StX w b.st (Sm.new 2 1)) : Calls Tryz.prog 39 #[.pointer (some ⟨b.st.s, 0, none⟩), .int .i64 0, .int .i64 2] w fun e w' => e = .returned (.tuple #[.int .i64 0, .int .i64 0]) ∧ StX w' b.st sa1 ∧ Frm b.st.fp w w' := by
  have := sslow_any h (SI.new (by decide) (by decide)) 0 2 (by decide) (by decide)
  rw [sa_v1] at this
  exact this
theorem sw_c2 (h : StX w b.st sa1) : Calls Tryz.prog 39 #[.pointer (some ⟨b.st.s, 0, none⟩), .int .i64 0, .int .i64 2] w fun e w' => e = .returned (.tuple #[.int .i64 4, .int .i64 0]) ∧ StX w' b.st sa2 ∧ Frm b.st.fp w w' := by
  have := sslow_any h sj_sa1.si 0 2 (by rw [sa_m1]; decide) (by rw [sa_m1]; decide)
  rw [sa_v2] at this
  exact this
/-- A sweeper behind a call. -/
structure SWs (B : Nat) (w0 w : World) (x : Nat) (b : Hb) (v : Value) (H : Hm) (P : Swp) : Prop where
  sx : SX w x b v H P
  ly : Lay B w0 w (sxfp x b v)
variable {B : Nat} {w0 : World} {H H' : Hm} {P P' : Swp}
theorem SWs.put (h : SWs B w0 w x b v H P) (hx : SX w' x b v H' P') (ht : Turn (sxfp x b v) (sxfp x b v) w w') : SWs B w0 w' x b v H' P' := ⟨hx, h.ly.turn ht⟩
theorem SWs.below (h : SWs B w0 w x b v H P) (hb : Below w.heap.size w w') : SWs B w0 w' x b v H P := ⟨h.sx.below hb, h.ly.below hb⟩
theorem SWs.st {S' : Sm} (h : SWs B w0 w x b v H P) (hx : StX w' b.st S') (hf : Frm b.st.fp w w') : SWs B w0 w' x b v { H with S := S' } P := by
  obtain ⟨h1, h2⟩ := h.sx.hx.withSt hf hx
  obtain ⟨h3, h4⟩ := h.sx.withH h1 h2
  exact ⟨h3, h.ly.turn h4⟩
theorem SWs.gk {K' : Gk} (h : SWs B w0 w x b v H P) (hx : GkX w' b.gk v K') (ht : Turn (gkfp b.gk v) (gkfp b.gk v) w w') : SWs B w0 w' x b v { H with K := K' } P := by
  obtain ⟨h1, h2⟩ := h.sx.hx.withGk0 hx ht
  obtain ⟨h3, h4⟩ := h.sx.withH h1 h2
  exact ⟨h3, h.ly.turn h4⟩
theorem SWs.unit (h : SWs B w0 w x b v H P) (sj : SJ H.S) (ht : Tab64 w0) (hg : 0 < B) {r : Bool} (hr : swUnitB P = r) (hH : (swUnit H P).1 = H') (hP : (swUnit H P).2 = P') :
    Calls Tryz.prog 13 #[.pointer (some ⟨x, 0, none⟩)] w fun e w' => e = .returned (.bool r) ∧ SWs B w0 w' x b v H' P' := by
  have hl := h.ly.tab ht hg
  refine (swunit_any h.sx sj hl.1 hl.2.1).mono ?_
  rintro e w' ⟨rfl, hx, hT⟩
  rw [hr, ← hH, ← hP]
  exact ⟨rfl, hx, h.ly.turn hT⟩
theorem lay_made {w1 w2 w3 : World} {x : Nat} {st : Sl} {gb : Gb} {v : Value} (h : Lay B w0 w []) (b1 : Below w.heap.size w w1) (b2 : Below w1.heap.size w1 w2) (g1 : ∀ k ∈ stfp st, w.heap.size ≤ k) (g2 : ∀ k ∈ gkfp gb v, w1.heap.size ≤ k) (b3 : Below w2.heap.size w2 w3) (hx : w2.heap.size ≤ x) : Lay B w0 w3 (x :: hmfp ⟨st, gb⟩ v) := by
  have z1 := b1.size
  have z2 := b2.size
  have z0 := h.sz
  refine ⟨((h.below b1).below b2).bl.trans (b3.mono (by omega)), fun k hk => ?_, by have := b3.size; omega⟩
  rcases List.mem_cons.1 hk with rfl | hk
  · omega
  · rcases List.mem_append.1 hk with hk | hk
    · have := g1 k hk; omega
    · have := g2 k hk; omega
set_option maxHeartbeats 4000000 in
set_option maxRecDepth 100000 in
theorem swalive_any (w : World) (ht : Tab64 w) (hg : 0 < w.heap.size) :
    Calls Tryz.prog 10 #[] w fun e w' => e = .returned (.bool true) ∧ Below w.heap.size w w' := by
  have HT := Lib.hid ht
  have HG := Lib.hid hg
  have L0 := Lib.hid (Lay.start w)
  clear ht hg
  go_enter Tryz.func10, Tryz.ntmps10
  go_wp2_with (first
    | (go_at_call 54; refine (swst_new _).mono ?_; rintro e w1 ⟨⟨st, rfl, hx, hf, hc⟩, hb⟩; have S1 := Lib.hid hx; have G1 := Lib.hid (stfp_ge hf hc); have B1 := Lib.hid hb; clear hx hf hc hb)
    | (go_at_call 55; refine (gknew_any 1 _).mono ?_; rintro e w2 ⟨⟨gb, rfl, hx, hf⟩, hb⟩; have X2 := Lib.hid (HX.made S1.out hb hx hf); have G2 := Lib.hid hf; have B2 := Lib.hid hb; clear hx hf hb)
    | (go_at_call 11; refine (swnew_any X2.out 2).mono ?_; rintro e w3 ⟨rfl, hx, hb⟩; have V0 := Lib.hid (show SWs w.heap.size w w3 w2.heap.size ⟨st, gb⟩ (.slice none 0 0) ⟨Sm.new 2 1, Gk.new 1⟩ (Swp.new 2) from ⟨hx, lay_made L0.out B1.out B2.out G1.out G2.out hb (Nat.le_refl _)⟩); clear hx hb)
    | (go_at_call 39; (with_reducible refine (sw_c1 (b := ⟨st, gb⟩) V0.out.sx.hx.st).mono ?_); rintro e w4 ⟨rfl, hx, hf⟩; have V1 := Lib.hid (V0.out.st hx hf); clear hx hf)
    | (go_at_call 39; (with_reducible refine (sw_c2 (b := ⟨st, gb⟩) V1.out.sx.hx.st).mono ?_); rintro e w5 ⟨rfl, hx, hf⟩; have V2 := Lib.hid (V1.out.st hx hf); clear hx hf)
    | (go_at_call 56; refine (gkblack_any V2.out.sx.hx.gk 4).mono ?_; rw [show addB 2048 (Gk.new 1).ws 4 = true from sa_b]; rintro e w6 ⟨rfl, hx, hT⟩; have V3 := Lib.hid (show SWs w.heap.size w w6 w2.heap.size ⟨st, gb⟩ (.slice none 0 0) sh2 (Swp.new 2) from V2.out.gk hx hT); clear hx hT)
    | (go_at_call 15; (with_reducible refine (swdone_any V3.out.sx).mono ?_); rw [sa_d]; rintro e w7 ⟨rfl, hb⟩; have V4 := Lib.hid (V3.out.below hb); clear hb)
    | (go_at_call 12; refine (swstart_any V4.out.sx).mono ?_; rintro e w8 ⟨rfl, hx, hf⟩; have V5 := Lib.hid (V4.out.put hx (Turn.of (hf.mono (by simp [sxfp])))); clear hx hf)
    | (go_at_call 13; (with_reducible refine (V5.out.unit sj_sh2 HT.out HG.out su_b1 (H' := su1.1) (P' := su1.2) su_e1 su_e2).mono ?_); rintro e w9 ⟨rfl, hx⟩; have V6 := Lib.hid hx; clear hx)
    | (go_at_call 13; (with_reducible refine (V6.out.unit sj_su1 HT.out HG.out su_b2 (H' := su2.1) (P' := su2.2) su_e3 su_e4).mono ?_); rintro e w10 ⟨rfl, hx⟩; have V7 := Lib.hid hx; clear hx)
    | (go_at_call 13; (with_reducible refine (V7.out.unit sj_su2 HT.out HG.out su_b3 (H' := su3.1) (P' := su3.2) su_e5 su_e6).mono ?_); rintro e w11 ⟨rfl, hx⟩; have V8 := Lib.hid hx; clear hx)
    | (go_at_call 44; (with_reducible refine (sfields_any V8.out.sx.hx.st 0).mono ?_); rw [su_f0]; rintro e w12 ⟨rfl, rfl⟩)
    | (go_at_call 44; (with_reducible refine (sfields_any V8.out.sx.hx.st 4).mono ?_); rw [su_f4]; rintro e w12 ⟨rfl, rfl⟩)
    | (go_at_call 57; refine (gkis_any V8.out.sx.hx.gk 4).mono ?_; rw [su_m4]; rintro e w12 ⟨rfl, rfl⟩)
    | (go_at_call 16; refine (swfreed_any V8.out.sx).mono ?_; rw [su_p.2.1]; rintro e w12 ⟨rfl, rfl⟩)
    | (go_at_call 14; refine (swat_any V8.out.sx).mono ?_; rw [su_p.1]; rintro e w12 ⟨rfl, rfl⟩)
    | (go_at_call 15; (with_reducible refine (swdone_any V8.out.sx).mono ?_); rw [su_p.2.2]; rintro e w12 ⟨rfl, hb⟩; have V9 := Lib.hid (V8.out.below hb); clear hb))
  go_ret
  exact ⟨rfl, V9.out.ly.bl⟩
end
end Go.Proofs.YtjoejjhgneccgaaGreatDoor

/- A sweeper that nobody made; one without a store and marks; the law SweepNobody. -/
namespace Go.Proofs.YtjoejjhgneccgaaGreatDoor
open Go.RowKit

/-- A sweeper without a store and marks. -/
def ZW (w : World) (z : Nat) (p a f : Int) : Prop := w.heap[z]? = some (.cells #[.pointer none, .pointer none, .int .i64 p, .int .i64 a, .int .i64 f] 27 (0, 0))
theorem nobS_nil (w : World) : NobS w none := .inl rfl
section
variable {w w' : World} {z : Nat} {p a f : Int}
theorem ZW.cells (h : ZW w z p a f) : w.cell? ⟨z, 0, none⟩ = some (.pointer none) ∧ w.cell? ⟨z, 2, none⟩ = some (.int .i64 p) ∧ w.cell? ⟨z, 3, none⟩ = some (.int .i64 a) ∧ w.cell? ⟨z, 4, none⟩ = some (.int .i64 f) ∧ w.frozen? ⟨z, 3, none⟩ = false ∧ w.frozen? ⟨z, 4, none⟩ = false :=
  ⟨cell_of_row _ _ _ _ _ _ h, cell_of_row _ _ _ _ _ _ h, cell_of_row _ _ _ _ _ _ h, cell_of_row _ _ _ _ _ _ h, frozen_of_row _ _ _ _ _ h, frozen_of_row _ _ _ _ _ h⟩
theorem ZW.below (h : ZW w z p a f) (hb : Below w.heap.size w w') : ZW w' z p a f := keep hb h
theorem zwat_any (h : ZW w z p a f) :
    Calls Tryz.prog 14 #[.pointer (some ⟨z, 0, none⟩)] w fun e w' => e = .returned (.int .i64 a) ∧ w = w' := by
  obtain ⟨-, -, c3, -⟩ := h.cells
  clear h
  go_enter Tryz.func14, Tryz.ntmps14
  go_wp2_with fail
  go_ret
  exact ⟨rfl, rfl⟩
theorem zwfreed_any (h : ZW w z p a f) :
    Calls Tryz.prog 16 #[.pointer (some ⟨z, 0, none⟩)] w fun e w' => e = .returned (.int .i64 f) ∧ w = w' := by
  obtain ⟨-, -, -, c4, -⟩ := h.cells
  clear h
  go_enter Tryz.func16, Tryz.ntmps16
  go_wp2_with fail
  go_ret
  exact ⟨rfl, rfl⟩
set_option maxRecDepth 100000 in
theorem zwdone_any (h : ZW w z p a f) (d : Bool) (hd : decide (p ≤ a) = d) :
    Calls Tryz.prog 15 #[.pointer (some ⟨z, 0, none⟩)] w fun e w' => e = .returned (.bool d) ∧ Below w.heap.size w w' := by
  obtain ⟨-, c2, c3, -⟩ := h.cells
  clear h
  cases d
  all_goals
    go_enter Tryz.func15, Tryz.ntmps15
    go_wp2_with fail
    go_quiet (fail)
    go_wp2_with fail
    go_ret
    exact ⟨rfl, below_drewN (Below.refl _ _) _⟩
theorem zwstart_any (h : ZW w z p a f) :
    Calls Tryz.prog 12 #[.pointer (some ⟨z, 0, none⟩)] w fun e w' => e = .returned (.tuple #[]) ∧ ZW w' z p 0 0 ∧ Frm [z] w w' := by
  have HH := Lib.hid h
  obtain ⟨-, -, c3, c4, f3, f4⟩ := h.cells
  clear h
  go_enter Tryz.func12, Tryz.ntmps12
  go_wp2_with fail
  go_end0
  exact ⟨rfl, heap_setCell_same _ _ 4 _ _ _ (heap_setCell_same _ _ 3 _ _ _ HH.out), (Frm.setCell (fp := [z]) _ (by simp) _).trans (Frm.setCell (fp := [z]) _ (by simp) _) (fun _ h => .inl h)⟩
theorem zwunit_no (h : ZW w z p a f) (hd : decide (p ≤ a) = true) :
    Calls Tryz.prog 13 #[.pointer (some ⟨z, 0, none⟩)] w fun e w' => e = .returned (.bool false) ∧ Below w.heap.size w w' := by
  have HH := Lib.hid h
  have HD := Lib.hid hd
  clear h hd
  go_enter Tryz.func13, Tryz.ntmps13
  go_wp2_with (go_at_call 15; refine (zwdone_any HH.out true HD.out).mono ?_; rintro e w1 ⟨rfl, hb⟩; have B1 := Lib.hid hb; clear hb)
  go_ret
  exact ⟨rfl, B1.out⟩
set_option maxHeartbeats 2000000 in
set_option maxRecDepth 100000 in
theorem zwunit_yes (h : ZW w z p 0 0) (hd : decide (p ≤ 0) = false) :
    Calls Tryz.prog 13 #[.pointer (some ⟨z, 0, none⟩)] w fun e w' => e = .returned (.bool true) ∧ ZW w' z p 1 0 ∧ Frm [z] w w' := by
  have HH := Lib.hid h
  have HD := Lib.hid hd
  clear h hd
  go_enter Tryz.func13, Tryz.ntmps13
  go_wp2_with (go_at_call 15; refine (zwdone_any HH.out false HD.out).mono ?_; rintro e w1 ⟨rfl, hb⟩; have B1 := Lib.hid hb; clear hb)
  obtain ⟨c0, -, c3, -⟩ := (HH.out.below B1.out).cells
  go_region_held3 (fun w' => w'.cell? ⟨z, 0, none⟩ = some (.pointer none) ∧ w'.cell? ⟨z, 3, none⟩ = some (.int .i64 0)) (first | (go_split_ands; exact ⟨by assumption, by assumption⟩) | go_keep)
    (first | (go_at_call 47; refine (nbin_any (p := none) 0 (nobS_nil _)).mono ?_; rintro e w3 ⟨rfl, rfl⟩))
  go_wp2_with fail
  have B2 := Lib.hid B1.out.drew
  have H2 := Lib.hid (HH.out.below B2.out)
  go_loopw [17] (fun i wr => i = .int .i64 0 ∧ Hid (ZW wr z p 0 0) ∧ Hid (Below w.heap.size w wr)) (fun _ _ => 0)
  case atStart => exact ⟨rfl, H2, B2⟩
  case round =>
    obtain ⟨rfl, H3, B3⟩ := hrel
    obtain ⟨d0, -, d3, -, e3, -⟩ := H3.out.cells
    go_wp2_with fail
    refine region_tail 8 (by kernel_rfl) (by kernel_rfl) ?_
    simp only [List.take_succ_cons, List.take_zero, List.drop_succ_cons, List.drop_zero]
    repeat still_step
    refine wpStill_nil ?_
    go_wp2_with (go_at_call 43; refine (nbtrim_any (p := none) 0 (nobS_nil _)).mono ?_; rintro e w3 ⟨rfl, rfl⟩)
    go_ret
    have hz : z < w.heap.size := heap_lt HH.out
    exact ⟨rfl, heap_setCell_same _ _ 3 _ _ _ H3.out, (Frm.of_below [z] B3.out.drew).trans (Frm.setCell (fp := [z]) _ (by simp) _) (fun _ h => .inl h)⟩
/-- None at all. -/
theorem nwat_any (w : World) : Calls Tryz.prog 14 #[.pointer none] w fun e w' => e = .returned (.int .i64 0) ∧ w = w' := by
  go_enter Tryz.func14, Tryz.ntmps14
  go_wp2_with fail
  go_ret
  exact ⟨rfl, rfl⟩
theorem nwfreed_any (w : World) : Calls Tryz.prog 16 #[.pointer none] w fun e w' => e = .returned (.int .i64 0) ∧ w = w' := by
  go_enter Tryz.func16, Tryz.ntmps16
  go_wp2_with fail
  go_ret
  exact ⟨rfl, rfl⟩
theorem nwdone_any (w : World) : Calls Tryz.prog 15 #[.pointer none] w fun e w' => e = .returned (.bool true) ∧ Below w.heap.size w w' := by
  go_enter Tryz.func15, Tryz.ntmps15
  go_wp2_with fail
  go_quiet (fail)
  go_wp2_with fail
  go_ret
  exact ⟨rfl, below_drewN (Below.refl _ _) _⟩
theorem nwstart_any (w : World) : Calls Tryz.prog 12 #[.pointer none] w fun e w' => e = .returned (.tuple #[]) ∧ w = w' := by
  go_enter Tryz.func12, Tryz.ntmps12
  go_wp2_with fail
  go_end0
  exact ⟨rfl, rfl⟩
theorem nwunit_any (w : World) : Calls Tryz.prog 13 #[.pointer none] w fun e w' => e = .returned (.bool false) ∧ Below w.heap.size w w' := by
  go_enter Tryz.func13, Tryz.ntmps13
  go_wp2_with (go_at_call 15; refine (nwdone_any _).mono ?_; rintro e w1 ⟨rfl, hb⟩; have B1 := Lib.hid hb; clear hb)
  go_ret
  exact ⟨rfl, B1.out⟩
theorem zwnew_any (w : World) (pages : Int) :
    Calls Tryz.prog 11 #[.pointer none, .pointer none, .int .i64 pages] w fun e w' => e = .returned (.pointer (some ⟨w.heap.size, 0, none⟩)) ∧ ZW w' w.heap.size (clampN pages 1 64) (clampN pages 1 64) 0 ∧ Below w.heap.size w w' := by
  go_enter Tryz.func11, Tryz.ntmps11
  go_wp2_with (go_at_call 58; refine (clampn_any pages 1 64 _).mono ?_; rintro e w1 ⟨rfl, rfl⟩)
  go_ret
  exact ⟨rfl, heap_alloc_new _ _, below_alloc0 _ _⟩
end
section
variable {w w' : World}
theorem lay_two {w1 w2 w3 : World} (b1 : Below w.heap.size w w1) (b2 : Below w1.heap.size w1 w2) (b3 : Below w2.heap.size w2 w3) : Lay w.heap.size w w3 [w1.heap.size, w2.heap.size] := by
  have z1 := b1.size
  have z2 := b2.size
  have z3 := b3.size
  refine ⟨((((Lay.start w).below b1).below b2).below b3).bl, fun k hk => ?_, by omega⟩
  simp only [List.mem_cons, List.not_mem_nil, or_false] at hk
  omega
/-- Two of them behind a call. -/
structure ZZ (B : Nat) (w0 w : World) (u v : Nat) (a f p c d : Int) : Prop where
  hu : ZW w u 0 a f
  hv : ZW w v p c d
  ne : u ≠ v
  ly : Lay B w0 w [u, v]
variable {B : Nat} {w0 : World} {u v : Nat} {a f p c d a' f' c' d' : Int}
theorem ZZ.below (h : ZZ B w0 w u v a f p c d) (hb : Below w.heap.size w w') : ZZ B w0 w' u v a f p c d := ⟨h.hu.below hb, h.hv.below hb, h.ne, h.ly.below hb⟩
theorem ZZ.putU (h : ZZ B w0 w u v a f p c d) (hx : ZW w' u 0 a' f') (hf : Frm [u] w w') : ZZ B w0 w' u v a' f' p c d :=
  ⟨hx, (hf.block v (heap_lt h.hv) (by simpa using h.ne.symm)).trans h.hv, h.ne, h.ly.turn (Turn.of (hf.mono (by simp)))⟩
theorem ZZ.putV (h : ZZ B w0 w u v a f p c d) (hx : ZW w' v p c' d') (hf : Frm [v] w w') : ZZ B w0 w' u v a f p c' d' :=
  ⟨(hf.block u (heap_lt h.hu) (by simpa using h.ne)).trans h.hu, hx, h.ne, h.ly.turn (Turn.of (hf.mono (by simp)))⟩
set_option maxHeartbeats 4000000 in
set_option maxRecDepth 100000 in
theorem sweepNobody_any (n : Int) (w : World) (ht : Tab64 w) (hg : 0 < w.heap.size) :
    Calls Tryz.prog 3 #[.int .i64 n] w fun e w' => e = .returned (.bool true) ∧ Below w.heap.size w w' := by
  have HT := Lib.hid ht
  have HG := Lib.hid hg
  have hp := clampN_bd (a := n) (lo := 1) (hi := 64) (by omega)
  obtain ⟨p, hpe⟩ : ∃ p, p = clampN n 1 64 := ⟨_, rfl⟩
  rw [← hpe] at hp
  have HP := Lib.hid hpe
  have HD := Lib.hid (show decide (p ≤ 0) = false by rw [decide_eq_false_iff_not]; omega)
  clear ht hg hp hpe
  go_enter Tryz.func3, Tryz.ntmps3
  go_wp2_with (first
    | (go_at_call 10; refine (swalive_any _ HT.out HG.out).mono ?_; rintro e w1 ⟨rfl, hb⟩; have B1 := Lib.hid hb; clear hb)
    | (go_at_call 11; refine (zwnew_any _ n).mono ?_; rw [← HP.out]; rintro e w2 ⟨rfl, hx, hb⟩; have hz := heap_one w1 (.cells #[.pointer none, .pointer none, .int .i64 0, .int .i64 0, .int .i64 0] 27); have hu := keep hb (heap_alloc_new w1 (.cells #[.pointer none, .pointer none, .int .i64 0, .int .i64 0, .int .i64 0] 27)); have s1 := B1.out.size; have hl := lay_two B1.out (below_alloc0 w1 _) hb; rw [← hz] at hx hl; have V := Lib.hid (show ZZ w.heap.size w w2 w1.heap.size (w1.heap.size + 1) 0 0 p p 0 from ⟨hu, hx, by omega, hl⟩); clear hx hb hz hu s1 hl)
    | (go_at_call 12; first
      | ((with_reducible refine (nwstart_any _).mono ?_); rintro e w9 ⟨rfl, rfl⟩)
      | ((with_reducible refine (zwstart_any V.out.hu).mono ?_); rintro e w9 ⟨rfl, hx, hf⟩; have V := Lib.hid (V.out.putU hx hf); clear hx hf)
      | ((with_reducible refine (zwstart_any V.out.hv).mono ?_); rintro e w9 ⟨rfl, hx, hf⟩; have V := Lib.hid (V.out.putV hx hf); clear hx hf))
    | (go_at_call 13; first
      | ((with_reducible refine (nwunit_any _).mono ?_); rintro e w9 ⟨rfl, hb⟩; have V := Lib.hid (V.out.below hb); clear hb)
      | ((with_reducible refine (zwunit_no V.out.hu (by decide)).mono ?_); rintro e w9 ⟨rfl, hb⟩; have V := Lib.hid (V.out.below hb); clear hb)
      | ((with_reducible refine (zwunit_yes V.out.hv HD.out).mono ?_); rintro e w9 ⟨rfl, hx, hf⟩; have V := Lib.hid (V.out.putV hx hf); clear hx hf))
    | (go_at_call 14; first
      | ((with_reducible refine (nwat_any _).mono ?_); rintro e w9 ⟨rfl, rfl⟩)
      | ((with_reducible refine (zwat_any V.out.hu).mono ?_); rintro e w9 ⟨rfl, rfl⟩))
    | (go_at_call 15; first
      | ((with_reducible refine (nwdone_any _).mono ?_); rintro e w9 ⟨rfl, hb⟩; have V := Lib.hid (V.out.below hb); clear hb)
      | ((with_reducible refine (zwdone_any V.out.hu true (by decide)).mono ?_); rintro e w9 ⟨rfl, hb⟩; have V := Lib.hid (V.out.below hb); clear hb))
    | (go_at_call 16; first
      | ((with_reducible refine (nwfreed_any _).mono ?_); rintro e w9 ⟨rfl, rfl⟩)
      | ((with_reducible refine (zwfreed_any V.out.hv).mono ?_); rintro e w9 ⟨rfl, rfl⟩)))
  go_ret
  exact ⟨rfl, V.out.ly.bl⟩
end
end Go.Proofs.YtjoejjhgneccgaaGreatDoor

/- What each row of this seat leans on. -/
namespace Go.Proofs.YtjoejjhgneccgaaGreatDoor
theorem rowOwn : ownKnob Tryz.prog.godebug = none := by kernel_rfl
theorem rowLaidOut : laidOutB Tryz.prog = true := by kernel_rfl
end Go.Proofs.YtjoejjhgneccgaaGreatDoor
