/- The law: of a heap of cells that nobody made nothing is told. -/
import Derived.Test.YtfocdbflmodfhaaDoorCe7
namespace Go.Proofs.YtfocdbflmodfhaaDoor
open Go.RowKit

def N1 : Cs := carveC D0 2
def N2 : Cs := takeC N1 0 2 0 8 (-2)
section
variable {w : World} {b : Bl}
theorem nb_carve (h : CX w b D0) : Calls Tryd.prog 9 #[.pointer (some ⟨b.c, 0, none⟩), .int .i64 2] w fun e w' => e = .returned (.tuple #[.int .i64 0, .bool true]) ∧ CX w' b N1 ∧ Frm b.fp w w' := by
  have h1 := ccarve_any h 2
  rw [show takeT D0.ks 2 = some 0 by kernel_rfl] at h1
  exact h1
theorem nb_t1 (h : CX w b N1) : Calls Tryd.prog 10 #[.pointer (some ⟨b.c, 0, none⟩), .int .i64 0] w fun e w' => e = .returned (.tuple #[.int .i64 0, .bool true]) ∧ CX w' b N2 ∧ Frm b.fp w w' :=
  ctake_ok h 0 2 0 8 (-2) ⟨by decide, by kernel_rfl, by decide, by decide, by kernel_rfl, by decide, by decide, by decide, by decide, by kernel_rfl, by decide, by decide⟩
theorem nb_load (h : CX w b N2) : Calls Tryd.prog 22 #[.pointer (some ⟨b.c, 0, none⟩), .int .i64 0] w fun e w' => e = .returned (.tuple #[.int .i64 0, .bool true]) ∧ w = w' := by
  have h1 := cload_any h 0
  rw [show loadV N2.xs 0 = 0 by kernel_rfl, show fitB N2.xs.length 0 1 = true by kernel_rfl] at h1
  exact h1
end
set_option maxHeartbeats 16000000 in
set_option maxRecDepth 100000 in
theorem cellsNobody_any (n x : Int) (w : World) : Calls Tryd.prog 5 #[.int .i64 n, .int .i64 x] w fun e w' => e = .returned (.bool true) ∧ Below w.heap.size w w' := by
  have HC : Hid (∀ W : World, Nob W (.pointer none)) := Lib.hid fun _ => .inl rfl
  go_enter Tryd.func5, Tryd.ntmps5
  go_wp2_with (go_at_call 6; refine (alive_any _).mono ?_; rintro e w1 ⟨rfl, hb⟩; have B1 := Lib.hid hb; clear hb)
  generalize hW : World.alloc w1 _ = W
  have hd : Nob W (.pointer (some ⟨w1.heap.size, 0, none⟩)) := .inr ⟨_, rfl, by rw [← hW, cell_of_row _ _ _ _ _ _ (heap_alloc_new w1 _)]; rfl⟩
  have HD := Lib.hid hd
  have B2 : Hid (Below w.heap.size w W) := Lib.hid (by rw [← hW]; exact B1.out.alloc B1.out.size _)
  clear hW hd
  go_wp2_with (first
    | ((go_at_call 9; with_reducible refine (ncarve (HC.out _) _).mono ?_); rintro e w' ⟨rfl, rfl⟩)
    | ((go_at_call 9; with_reducible refine (ncarve (HD.out) _).mono ?_); rintro e w' ⟨rfl, rfl⟩)
    | ((go_at_call 10; with_reducible refine (ntake (HC.out _) _).mono ?_); rintro e w' ⟨rfl, rfl⟩)
    | ((go_at_call 10; with_reducible refine (ntake (HD.out) _).mono ?_); rintro e w' ⟨rfl, rfl⟩)
    | ((go_at_call 11; with_reducible refine (nlarge (HC.out _) _).mono ?_); rintro e w' ⟨rfl, rfl⟩)
    | ((go_at_call 11; with_reducible refine (nlarge (HD.out) _).mono ?_); rintro e w' ⟨rfl, rfl⟩)
    | ((go_at_call 22; with_reducible refine (nload (HC.out _) _).mono ?_); rintro e w' ⟨rfl, rfl⟩)
    | ((go_at_call 22; with_reducible refine (nload (HD.out) _).mono ?_); rintro e w' ⟨rfl, rfl⟩)
    | ((go_at_call 12; with_reducible refine (ngive (HC.out _) _).mono ?_); rintro e w' ⟨rfl, rfl⟩)
    | ((go_at_call 12; with_reducible refine (ngive (HD.out) _).mono ?_); rintro e w' ⟨rfl, rfl⟩)
    | ((go_at_call 13; with_reducible refine (ndrop (HC.out _) _).mono ?_); rintro e w' ⟨rfl, rfl⟩)
    | ((go_at_call 13; with_reducible refine (ndrop (HD.out) _).mono ?_); rintro e w' ⟨rfl, rfl⟩)
    | ((go_at_call 23; with_reducible refine (nisa (HC.out _) _).mono ?_); rintro e w' ⟨rfl, rfl⟩)
    | ((go_at_call 23; with_reducible refine (nisa (HD.out) _).mono ?_); rintro e w' ⟨rfl, rfl⟩)
    | ((go_at_call 24; with_reducible refine (nstore (HC.out _) _ _).mono ?_); rintro e w' ⟨rfl, rfl⟩)
    | ((go_at_call 24; with_reducible refine (nstore (HD.out) _ _).mono ?_); rintro e w' ⟨rfl, rfl⟩)
    | ((go_at_call 25; with_reducible refine (nmem (HC.out _)).mono ?_); rintro e w' ⟨rfl, rfl⟩)
    | ((go_at_call 25; with_reducible refine (nmem (HD.out)).mono ?_); rintro e w' ⟨rfl, rfl⟩)
    | ((go_at_call 27; with_reducible refine (nleft (HC.out _) _).mono ?_); rintro e w' ⟨rfl, rfl⟩)
    | ((go_at_call 27; with_reducible refine (nleft (HD.out) _).mono ?_); rintro e w' ⟨rfl, rfl⟩)
    | ((go_at_call 17; with_reducible refine (nbase (HC.out _) _).mono ?_); rintro e w' ⟨rfl, rfl⟩)
    | ((go_at_call 17; with_reducible refine (nbase (HD.out) _).mono ?_); rintro e w' ⟨rfl, rfl⟩)
    | ((go_at_call 16; with_reducible refine (nkind (HC.out _) _).mono ?_); rintro e w' ⟨rfl, rfl⟩)
    | ((go_at_call 16; with_reducible refine (nkind (HD.out) _).mono ?_); rintro e w' ⟨rfl, rfl⟩)
    | ((go_at_call 28; with_reducible refine (nfree (HC.out _)).mono ?_); rintro e w' ⟨rfl, rfl⟩)
    | ((go_at_call 28; with_reducible refine (nfree (HD.out)).mono ?_); rintro e w' ⟨rfl, rfl⟩)
    | ((go_at_call 14; with_reducible refine (nall (HC.out _)).mono ?_); rintro e w' ⟨rfl, rfl⟩)
    | ((go_at_call 14; with_reducible refine (nall (HD.out)).mono ?_); rintro e w' ⟨rfl, rfl⟩))
  go_wp2_with (go_at_call 7; refine (al_new _).mono ?_; rintro e w3 ⟨⟨b, rfl, hx, hf⟩, hb⟩; have H3 := Lib.hid hx; have FP := Lib.hid hf; have B3 := Lib.hid hb; clear hx hf hb)
  go_wp2_with (go_at_call 9; refine (nb_carve H3.out).mono ?_; rintro e w4 ⟨rfl, hx, hf⟩; have H4 := Lib.hid hx; have B4 := Lib.hid (B3.out.trans (hf.below B3.out.size FP.out)); clear hx hf)
  go_wp2_with (go_at_call 10; refine (nb_t1 H4.out).mono ?_; rintro e w5 ⟨rfl, hx, hf⟩; have H5 := Lib.hid hx; have B5 := Lib.hid (B4.out.trans (hf.below B4.out.size FP.out)); clear hx hf)
  go_wp2_with (go_at_call 25; refine (cmem_any H5.out).mono ?_; rintro e w6 ⟨⟨m, r, rfl, hm1, hr1, hm⟩, hb⟩; have M6 := Lib.hid hm; have R6 := Lib.hid hr1; have H6 := Lib.hid (H5.out.below hb); have B6 := Lib.hid (B5.out.trans (hb.mono B5.out.size)); clear hm hb hm1 hr1)
  go_wp2_with (go_at_call 26; refine (store_any M6.out 0 7).mono ?_; rintro e w7 ⟨rfl, -, hf⟩; have H7 := Lib.hid (H6.out.frm hf (fun x hx => by have h9 := H5.out.lt x hx; have h8 := R6.out; simp; omega)); have B7 := Lib.hid (B6.out.trans (hf.below B6.out.size (by have h8 := R6.out; have h7 := B5.out.size; intro k hk; simp at hk; omega))); clear hf)
  have HE : Hid (Nob w7 (.pointer (some ⟨w1.heap.size, 0, none⟩))) := Lib.hid (HD.out.below B7.out)
  go_wp2_with (first
    | ((go_at_call 22; with_reducible refine (nb_load H7.out).mono ?_); rintro e w' ⟨rfl, rfl⟩)
    | ((go_at_call 9; with_reducible refine (ncarve (HC.out _) _).mono ?_); rintro e w' ⟨rfl, rfl⟩)
    | ((go_at_call 9; with_reducible refine (ncarve (HE.out) _).mono ?_); rintro e w' ⟨rfl, rfl⟩)
    | ((go_at_call 10; with_reducible refine (ntake (HC.out _) _).mono ?_); rintro e w' ⟨rfl, rfl⟩)
    | ((go_at_call 10; with_reducible refine (ntake (HE.out) _).mono ?_); rintro e w' ⟨rfl, rfl⟩)
    | ((go_at_call 11; with_reducible refine (nlarge (HC.out _) _).mono ?_); rintro e w' ⟨rfl, rfl⟩)
    | ((go_at_call 11; with_reducible refine (nlarge (HE.out) _).mono ?_); rintro e w' ⟨rfl, rfl⟩)
    | ((go_at_call 22; with_reducible refine (nload (HC.out _) _).mono ?_); rintro e w' ⟨rfl, rfl⟩)
    | ((go_at_call 22; with_reducible refine (nload (HE.out) _).mono ?_); rintro e w' ⟨rfl, rfl⟩)
    | ((go_at_call 12; with_reducible refine (ngive (HC.out _) _).mono ?_); rintro e w' ⟨rfl, rfl⟩)
    | ((go_at_call 12; with_reducible refine (ngive (HE.out) _).mono ?_); rintro e w' ⟨rfl, rfl⟩)
    | ((go_at_call 13; with_reducible refine (ndrop (HC.out _) _).mono ?_); rintro e w' ⟨rfl, rfl⟩)
    | ((go_at_call 13; with_reducible refine (ndrop (HE.out) _).mono ?_); rintro e w' ⟨rfl, rfl⟩)
    | ((go_at_call 23; with_reducible refine (nisa (HC.out _) _).mono ?_); rintro e w' ⟨rfl, rfl⟩)
    | ((go_at_call 23; with_reducible refine (nisa (HE.out) _).mono ?_); rintro e w' ⟨rfl, rfl⟩)
    | ((go_at_call 24; with_reducible refine (nstore (HC.out _) _ _).mono ?_); rintro e w' ⟨rfl, rfl⟩)
    | ((go_at_call 24; with_reducible refine (nstore (HE.out) _ _).mono ?_); rintro e w' ⟨rfl, rfl⟩)
    | ((go_at_call 25; with_reducible refine (nmem (HC.out _)).mono ?_); rintro e w' ⟨rfl, rfl⟩)
    | ((go_at_call 25; with_reducible refine (nmem (HE.out)).mono ?_); rintro e w' ⟨rfl, rfl⟩)
    | ((go_at_call 27; with_reducible refine (nleft (HC.out _) _).mono ?_); rintro e w' ⟨rfl, rfl⟩)
    | ((go_at_call 27; with_reducible refine (nleft (HE.out) _).mono ?_); rintro e w' ⟨rfl, rfl⟩)
    | ((go_at_call 17; with_reducible refine (nbase (HC.out _) _).mono ?_); rintro e w' ⟨rfl, rfl⟩)
    | ((go_at_call 17; with_reducible refine (nbase (HE.out) _).mono ?_); rintro e w' ⟨rfl, rfl⟩)
    | ((go_at_call 16; with_reducible refine (nkind (HC.out _) _).mono ?_); rintro e w' ⟨rfl, rfl⟩)
    | ((go_at_call 16; with_reducible refine (nkind (HE.out) _).mono ?_); rintro e w' ⟨rfl, rfl⟩)
    | ((go_at_call 28; with_reducible refine (nfree (HC.out _)).mono ?_); rintro e w' ⟨rfl, rfl⟩)
    | ((go_at_call 28; with_reducible refine (nfree (HE.out)).mono ?_); rintro e w' ⟨rfl, rfl⟩)
    | ((go_at_call 14; with_reducible refine (nall (HC.out _)).mono ?_); rintro e w' ⟨rfl, rfl⟩)
    | ((go_at_call 14; with_reducible refine (nall (HE.out)).mono ?_); rintro e w' ⟨rfl, rfl⟩))
  go_ret
  exact ⟨rfl, B2.out.trans (B7.out.mono B2.out.size)⟩
end Go.Proofs.YtfocdbflmodfhaaDoor
