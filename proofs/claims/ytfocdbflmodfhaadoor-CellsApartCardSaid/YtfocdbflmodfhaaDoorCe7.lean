/- Cells: two of class 4; what nobody made. -/
import Derived.Test.YtfocdbflmodfhaaDoorCe3
import Derived.Test.YtfocdbflmodfhaaDoorCe6
namespace Go.Proofs.YtfocdbflmodfhaaDoor
open Go.RowKit

def D0 : Cs := Cs.new 2
def D1 : Cs := carveC D0 4
def D2 : Cs := takeC D1 0 4 0 2 (-2)
def D3 : Cs := takeC D2 0 4 1 1 (-3)
section
variable {w : World} {b : Bl}
theorem al_new (w : World) : Calls Tryd.prog 7 #[.int .i64 2] w fun e w' => NewC 2 w.heap.size e w' ∧ Below w.heap.size w w' := cnew_any 2 w
theorem al_carve (h : CX w b D0) : Calls Tryd.prog 9 #[.pointer (some ⟨b.c, 0, none⟩), .int .i64 4] w fun e w' => e = .returned (.tuple #[.int .i64 0, .bool true]) ∧ CX w' b D1 ∧ Frm b.fp w w' := by
  have h1 := ccarve_any h 4
  rw [show takeT D0.ks 4 = some 0 by kernel_rfl] at h1
  exact h1
theorem al_t1 (h : CX w b D1) : Calls Tryd.prog 10 #[.pointer (some ⟨b.c, 0, none⟩), .int .i64 0] w fun e w' => e = .returned (.tuple #[.int .i64 0, .bool true]) ∧ CX w' b D2 ∧ Frm b.fp w w' :=
  ctake_ok h 0 4 0 2 (-2) ⟨by decide, by kernel_rfl, by decide, by decide, by kernel_rfl, by decide, by decide, by decide, by decide, by kernel_rfl, by decide, by decide⟩
theorem al_t2 (h : CX w b D2) : Calls Tryd.prog 10 #[.pointer (some ⟨b.c, 0, none⟩), .int .i64 0] w fun e w' => e = .returned (.tuple #[.int .i64 16, .bool true]) ∧ CX w' b D3 ∧ Frm b.fp w w' :=
  ctake_ok h 0 4 1 1 (-3) ⟨by decide, by kernel_rfl, by decide, by decide, by kernel_rfl, by decide, by decide, by decide, by decide, by kernel_rfl, by decide, by decide⟩
theorem al_t3 (h : CX w b D3) : Calls Tryd.prog 10 #[.pointer (some ⟨b.c, 0, none⟩), .int .i64 0] w fun e w' => e = .returned (.tuple #[.int .i64 0, .bool false]) ∧ Below w.heap.size w w' := ctake_no h 0 (by kernel_rfl)
theorem al_is (h : CX w b D3) : Calls Tryd.prog 23 #[.pointer (some ⟨b.c, 0, none⟩), .int .i64 16] w fun e w' => e = .returned (.bool true) ∧ w = w' := by
  have h1 := cisa_any h 16
  rw [show hasB D3.xs.length D3.ws 16 = true by kernel_rfl] at h1
  exact h1
theorem al_base (h : CX w b D3) : Calls Tryd.prog 17 #[.pointer (some ⟨b.c, 0, none⟩), .int .i64 20] w fun e w' => e = .returned (.int .i64 16) ∧ Below w.heap.size w w' := by
  have h1 := cbase_any h 20
  rw [show baseC D3 20 = 16 by kernel_rfl] at h1
  exact h1
theorem al_free (h : CX w b D3) : Calls Tryd.prog 28 #[.pointer (some ⟨b.c, 0, none⟩)] w fun e w' => e = .returned (.int .i64 1) ∧ Below w.heap.size w w' := by
  have h1 := cfree_any h
  rw [show countL D3.ks = 1 by kernel_rfl] at h1
  exact h1
end
set_option maxHeartbeats 8000000 in
set_option maxRecDepth 100000 in
theorem alive_any (w : World) : Calls Tryd.prog 6 #[] w fun e w' => e = .returned (.bool true) ∧ Below w.heap.size w w' := by
  have hn : ((D3.xs.length : Nat) : Int) = 64 := by kernel_rfl
  have HN := Lib.hid hn
  clear hn
  go_enter Tryd.func6, Tryd.ntmps6
  go_wp2_with (go_at_call 7; refine (al_new _).mono ?_; rintro e w1 ⟨⟨b, rfl, hx, hf⟩, hb⟩; have H1 := Lib.hid hx; have FP := Lib.hid hf; have B1 := Lib.hid hb; clear hx hf hb)
  go_wp2_with (go_at_call 9; refine (al_carve H1.out).mono ?_; rintro e w2 ⟨rfl, hx, hf⟩; have H2 := Lib.hid hx; have B2 := Lib.hid (B1.out.trans (hf.below B1.out.size FP.out)); clear hx hf)
  go_wp2_with (go_at_call 10; with_reducible refine (al_t1 H2.out).mono ?_; rintro e w3 ⟨rfl, hx, hf⟩; have H3 := Lib.hid hx; have B3 := Lib.hid (B2.out.trans (hf.below B2.out.size FP.out)); clear hx hf)
  go_wp2_with (go_at_call 10; with_reducible refine (al_t2 H3.out).mono ?_; rintro e w4 ⟨rfl, hx, hf⟩; have H4 := Lib.hid hx; have B4 := Lib.hid (B3.out.trans (hf.below B3.out.size FP.out)); clear hx hf)
  go_wp2_with (go_at_call 10; with_reducible refine (al_t3 H4.out).mono ?_; rintro e w5 ⟨rfl, hb⟩; have H5 := Lib.hid (H4.out.below hb); have B5 := Lib.hid (B4.out.trans (hb.mono B4.out.size)); clear hb)
  go_wp2_with (go_at_call 23; refine (al_is H5.out).mono ?_; rintro e w' ⟨rfl, rfl⟩)
  go_wp2_with (go_at_call 17; refine (al_base H5.out).mono ?_; rintro e w6 ⟨rfl, hb⟩; have H6 := Lib.hid (H5.out.below hb); have B6 := Lib.hid (B5.out.trans (hb.mono B5.out.size)); clear hb)
  go_wp2_with (go_at_call 28; refine (al_free H6.out).mono ?_; rintro e w7 ⟨rfl, hb⟩; have H7 := Lib.hid (H6.out.below hb); have B7 := Lib.hid (B6.out.trans (hb.mono B6.out.size)); clear hb)
  go_wp2_with (go_at_call 25; refine (cmem_any H7.out).mono ?_; rintro e w8 ⟨⟨m, r, rfl, -, -, hm⟩, hb⟩; have M8 := Lib.hid hm; have B8 := Lib.hid (B7.out.trans (hb.mono B7.out.size)); clear hm hb)
  go_wp2_with (go_at_call 29; refine (len_any M8.out).mono ?_; rw [HN.out]; rintro e w' ⟨rfl, rfl⟩)
  go_ret
  exact ⟨rfl, B8.out⟩
end Go.Proofs.YtfocdbflmodfhaaDoor
