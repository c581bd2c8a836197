/- A value's word: put. -/
import Derived.Test.YtjoejjhgneccgaaGreatDoorQSN01
import Derived.Test.YtjoejjhgneccgaaGreatDoorQSN04
import Derived.Test.YtjoejjhgneccgaaGreatDoorQSN22
import Derived.Test.YtjoejjhgneccgaaGreatDoorRows
import Derived.KernelRfl
import Derived.ProofKit
import Derived.OpenShut
import Derived.ChangeOld
import Derived.SizedLaws
import Derived.Deep.Fields
import Derived.Lib.SmallJoins
import Derived.Lib.LaidTab
import Derived.Stop.LaidErr
import Derived.LaidMore
namespace Go.Proofs.YtjoejjhgneccgaaGreatDoor
open Go.RowKit

def putW (k n : Int) : Int := if k = 0 then 0 else if k = 1 then 2 * n + 1 else 2 * n + 2
theorem check_ok {k n : Int} (h : checkV k n = 0) : (k = 0 ∧ n = 0) ∨ (k = 1 ∧ -1099511627776 ≤ n ∧ n < 1099511627776) ∨ (k = 2 ∧ 0 ≤ n ∧ n < 2048) := by
  unfold checkV at h
  simp only [beq_iff_eq, decide_eq_true_eq] at h
  split at h
  · split at h <;> omega
  split at h
  · split at h
    · split at h <;> omega
    · omega
  split at h
  · split at h
    · split at h <;> omega
    · omega
  · omega
def PutE (k n : Int) (e : Ending) : Prop := e = .returned (.tuple #[.int .i64 (if checkV k n = 0 then putW k n else 0), .bool (checkV k n == 0)])
set_option maxHeartbeats 2000000 in
theorem wput_any (k n : Int) (w : World) :
    Calls Tryz.prog 98 #[.agg #[.int .i64 k, .int .i64 n]] w fun e w' => PutE k n e ∧ Below w.heap.size w w' := by
  have B0 := Lib.hid (below_alloc0 w (.cells #[.int .i64 k, .int .i64 n] 70))
  have A0 := Lib.hid (heap_alloc_new w (.cells #[.int .i64 k, .int .i64 n] 70))
  have c0 : (w.alloc (.cells #[.int .i64 k, .int .i64 n] 70)).cell? ⟨w.heap.size, 0, none⟩ = some (.int .i64 k) := cell_of_row _ _ _ _ _ _ A0.out
  have c1 : (w.alloc (.cells #[.int .i64 k, .int .i64 n] 70)).cell? ⟨w.heap.size, 1, none⟩ = some (.int .i64 n) := cell_of_row _ _ _ _ _ _ A0.out
  by_cases hc : checkV k n = 0
  · have HC := Lib.hid hc
    have HE : Hid (∀ e, e = .returned (.tuple #[.int .i64 (putW k n), .bool true]) → PutE k n e) := Lib.hid (fun e he => by unfold PutE; rw [if_pos hc, hc]; exact he)
    rcases check_ok hc with ⟨rfl, rfl⟩ | ⟨rfl, h1, h2⟩ | ⟨rfl, h1, h2⟩
    · clear hc
      go_enter Tryz.func98, Tryz.ntmps98
      go_wp2_with (go_at_call 149; refine (wcheck_any _ _ _).mono ?_; rw [HC.out]; rintro e w1 ⟨rfl, hb⟩; have B1 := Lib.hid (below_next B0.out hb); have z := keep hb A0.out; have d0 : w1.cell? ⟨w.heap.size, 0, none⟩ = some (.int .i64 0) := cell_of_row _ _ _ _ _ _ z; clear z hb)
      go_ret2
      exact ⟨HE.out _ rfl, B1.out⟩
    · have k1 : IntKind.i64.wrap (2 * n) = 2 * n := by rw [IntKind.wrap_i64]; omega
      have k2 : IntKind.i64.wrap (2 * n + 1) = 2 * n + 1 := by rw [IntKind.wrap_i64]; omega
      have k3 : IntKind.i64.wrap (0 + (2 * n + 1)) = 2 * n + 1 := by rw [IntKind.wrap_i64]; omega
      clear hc h1 h2
      go_enter Tryz.func98, Tryz.ntmps98
      go_wp2_with (go_at_call 149; refine (wcheck_any _ _ _).mono ?_; rw [HC.out]; rintro e w1 ⟨rfl, hb⟩; have B1 := Lib.hid (below_next B0.out hb); have z := keep hb A0.out; have d0 : w1.cell? ⟨w.heap.size, 0, none⟩ = some (.int .i64 1) := cell_of_row _ _ _ _ _ _ z; have d1 : w1.cell? ⟨w.heap.size, 1, none⟩ = some (.int .i64 n) := cell_of_row _ _ _ _ _ _ z; clear z hb)
      go_ret2
      exact ⟨HE.out _ rfl, B1.out⟩
    · have k1 : IntKind.i64.wrap (2 * n) = 2 * n := by rw [IntKind.wrap_i64]; omega
      have k2 : IntKind.i64.wrap (2 * n + 1) = 2 * n + 1 := by rw [IntKind.wrap_i64]; omega
      have k3 : IntKind.i64.wrap (1 + (2 * n + 1)) = 2 * n + 2 := by rw [IntKind.wrap_i64]; omega
      clear hc h1 h2
      go_enter Tryz.func98, Tryz.ntmps98
      go_wp2_with (go_at_call 149; refine (wcheck_any _ _ _).mono ?_; rw [HC.out]; rintro e w1 ⟨rfl, hb⟩; have B1 := Lib.hid (below_next B0.out hb); have z := keep hb A0.out; have d0 : w1.cell? ⟨w.heap.size, 0, none⟩ = some (.int .i64 2) := cell_of_row _ _ _ _ _ _ z; have d1 : w1.cell? ⟨w.heap.size, 1, none⟩ = some (.int .i64 n) := cell_of_row _ _ _ _ _ _ z; clear z hb)
      go_ret2
      exact ⟨HE.out _ rfl, B1.out⟩
  · have z0 : (checkV k n == 0) = false := by simpa using hc
    have HE : Hid (∀ e, e = .returned (.tuple #[.int .i64 0, .bool false]) → PutE k n e) := Lib.hid (fun e he => by unfold PutE; rw [if_neg hc, z0]; exact he)
    clear hc
    go_enter Tryz.func98, Tryz.ntmps98
    go_wp2_with (go_at_call 149; refine (wcheck_any _ _ _).mono ?_; rintro e w1 ⟨rfl, hb⟩; have B1 := Lib.hid (below_next B0.out hb); clear hb)
    go_ret2
    exact ⟨HE.out _ rfl, B1.out⟩
end Go.Proofs.YtjoejjhgneccgaaGreatDoor

/- A store that nobody made: fields, and objects of a page. -/
namespace Go.Proofs.YtjoejjhgneccgaaGreatDoor
open Go.RowKit

section
variable {w w' : World} {p : Option Addr}
set_option maxHeartbeats 1000000 in
theorem nbhas_any (a i : Int) (h : NobS w p) :
    Calls Tryz.prog 94 #[.pointer p, .int .i64 a, .int .i64 i] w fun e w' => e = .returned (.bool false) ∧ w = w' := by
  have H := Lib.hid h
  clear h
  by_cases h0 : 0 ≤ i
  · have d0 : decide (0 ≤ i) = true := by simpa using h0
    have d1 : decide (i < -1) = false := by rw [decide_eq_false_iff_not]; omega
    clear h0
    go_enter Tryz.func94, Tryz.ntmps94
    go_wp2_with (go_at_call 44; refine (nbfields_any a H.out).mono ?_; rintro e w1 ⟨rfl, rfl⟩)
    go_ret
    exact ⟨rfl, rfl⟩
  · have d0 : decide (0 ≤ i) = false := by simpa using h0
    clear h0
    go_enter Tryz.func94, Tryz.ntmps94
    go_wp2_with fail
    go_ret
    exact ⟨rfl, rfl⟩
set_option maxHeartbeats 1000000 in
theorem nbset_any (a i k n : Int) (h : NobS w p) :
    Calls Tryz.prog 42 #[.pointer p, .int .i64 a, .int .i64 i, .agg #[.int .i64 k, .int .i64 n]] w fun e w' => e = .returned (.bool false) ∧ Below w.heap.size w w' := by
  have B0 := Lib.hid (below_alloc0 w (.cells #[.int .i64 k, .int .i64 n] 70))
  have H := Lib.hid (h.below B0.out)
  have c0 : (w.alloc (.cells #[.int .i64 k, .int .i64 n] 70)).cell? ⟨w.heap.size, 0, none⟩ = some (.int .i64 k) := cell_of_row _ _ _ _ _ _ (heap_alloc_new w _)
  have c1 : (w.alloc (.cells #[.int .i64 k, .int .i64 n] 70)).cell? ⟨w.heap.size, 1, none⟩ = some (.int .i64 n) := cell_of_row _ _ _ _ _ _ (heap_alloc_new w _)
  clear h
  cases hb : (checkV k n == 0)
  all_goals
    have HP : Hid (∀ e, PutE k n e → ∃ x, e = .returned (.tuple #[.int .i64 x, .bool (checkV k n == 0)])) := Lib.hid (fun e he => ⟨_, he⟩)
    rw [hb] at HP
    clear hb
    go_enter Tryz.func42, Tryz.ntmps42
    go_wp2_with (first
      | (go_at_call 98; refine (wput_any k n _).mono ?_; rintro e w1 ⟨he, hb⟩; obtain ⟨x, rfl⟩ := HP.out e he; have H1 := Lib.hid (H.out.below hb); have B1 := Lib.hid (below_next B0.out hb); clear he hb)
      | (go_at_call 94; refine (nbhas_any a i H1.out).mono ?_; rintro e w2 ⟨rfl, rfl⟩))
    go_ret
    exact ⟨rfl, B1.out⟩
set_option maxHeartbeats 1000000 in
theorem nbin_any (q : Int) (h : NobS w p) :
    Calls Tryz.prog 47 #[.pointer p, .int .i64 q] w fun e w' => e = .returned (.slice none 0 0) ∧ w = w' := by
  have H := Lib.hid h
  clear h
  go_enter Tryz.func47, Tryz.ntmps47
  go_wp2_with (go_at_call 46; refine (nbobjects_any H.out).mono ?_; rintro e w1 ⟨rfl, rfl⟩)
  go_loopw [5, 11] (fun v i wr => v = .slice none 0 0 ∧ i = .int .i64 0 ∧ wr = w) (fun _ _ _ => 0)
  case atStart => exact ⟨rfl, rfl, rfl⟩
  case round =>
    obtain ⟨rfl, rfl, rfl⟩ := hrel
    go_wp2_with fail
    go_ret
    exact ⟨rfl, rfl⟩
set_option maxHeartbeats 1000000 in
theorem nbget_any (a i : Int) (h : NobS w p) :
    Calls Tryz.prog 40 #[.pointer p, .int .i64 a, .int .i64 i] w fun e w' => e = .returned (.tuple #[.agg #[.int .i64 0, .int .i64 0], .bool false]) ∧ Below w.heap.size w w' := by
  have B0 := Lib.hid (below_alloc0 w (.cells #[.int .i64 0, .int .i64 0] 70))
  have H := Lib.hid (h.below B0.out)
  have A0 := Lib.hid (heap_alloc_new w (.cells #[.int .i64 0, .int .i64 0] 70))
  clear h
  go_enter Tryz.func40, Tryz.ntmps40
  go_wp2_with (first
    | (go_at_call 94; refine (nbhas_any a i H.out).mono ?_; rintro e w1 ⟨rfl, rfl⟩)
    | (refine wpList_store_row rfl 70 _ _ rfl w.heap.size #[.int .i64 0, .int .i64 0] rfl rfl 70 _ A0.out (by kernel_rfl) rfl (by kernel_rfl) ?_))
  exact bodyPost_ret (results_row_tmp (p := 6) (u := 7) rfl _ _ w.heap.size 70 #[.int .i64 0, .int .i64 0] _ _ rfl (heap_setRow_same _ A0.out) Tryz.underlying70 rfl (by kernel_rfl)) rfl
    ⟨rfl, below_setRow (g := w.heap.size) B0.out (by omega) _⟩
end
end Go.Proofs.YtjoejjhgneccgaaGreatDoor

/- The law StoreNobody. (Printed by wip/std.py.) -/
namespace Go.Proofs.YtjoejjhgneccgaaGreatDoor
open Go.RowKit

theorem nobs_nil (w : World) : NobS w none := .inl rfl
set_option maxHeartbeats 8000000 in
set_option maxRecDepth 100000 in
theorem storeNobody_any (n k m : Int) (w : World) :
    Calls Tryz.prog 8 #[.int .i64 n, .agg #[.int .i64 k, .int .i64 m]] w fun e w' => e = .returned (.bool true) ∧ Below w.heap.size w w' := by
  have B0 := Lib.hid (below_alloc0 w (.cells #[.int .i64 k, .int .i64 m] 70))
  have V0 := Lib.hid (heap_alloc_new w (.cells #[.int .i64 k, .int .i64 m] 70))
  go_enter Tryz.func8, Tryz.ntmps8
  go_wp2_with (first
    | (go_at_call 37; refine (stalive_any _).mono ?_; rintro e w1 ⟨rfl, hb⟩; have V := Lib.hid (keep (below_next hb (below_alloc0 w1 (.cells #[.pointer none, .pointer none, .int .i64 0, .int .i64 0, .int .i64 0] 74))) V0.out); have B := Lib.hid (below_next (below_next B0.out hb) (below_alloc0 w1 (.cells #[.pointer none, .pointer none, .int .i64 0, .int .i64 0, .int .i64 0] 74))); have T : Hid (NobS _ (some ⟨w1.heap.size, 0, none⟩)) := Lib.hid (.inr ⟨w1.heap.size, rfl, heap_alloc_new w1 (.cells #[.pointer none, .pointer none, .int .i64 0, .int .i64 0, .int .i64 0] 74)⟩); clear hb)
    | (go_at_call 38; first
      | ((with_reducible refine (nbfast_any 0 n (p := none) (nobs_nil _)).mono ?_); rintro e w9 ⟨rfl, rfl⟩)
      | ((with_reducible refine (nbfast_any 0 n T.out).mono ?_); rintro e w9 ⟨rfl, rfl⟩))
    | (go_at_call 39; first
      | ((with_reducible refine (nbslow_any 0 1 (p := none) (nobs_nil _)).mono ?_); rintro e w9 ⟨rfl, rfl⟩)
      | ((with_reducible refine (nbslow_any 0 1 T.out).mono ?_); rintro e w9 ⟨rfl, rfl⟩))
    | (go_at_call 40; refine (nbget_any (p := none) n 0 (nobs_nil _)).mono ?_; rintro e w3 ⟨rfl, hb⟩; have A4 := Lib.hid (heap_alloc_new w3 (.cells #[.int .i64 0, .int .i64 0] 70)); have hz : Below w3.heap.size w3 ((w3.alloc (.cells #[.int .i64 0, .int .i64 0] 70)).setRow w3.heap.size #[.int .i64 0, .int .i64 0]) := below_setRow (g := w3.heap.size) (below_alloc0 w3 _) (Nat.le_refl _) _; have V := Lib.hid (keep (below_next hb hz) V.out); have B := Lib.hid (below_next (below_next B.out hb) hz); have T := Lib.hid ((T.out.below hb).below hz); clear hb hz)
    | (refine wpList_store_row rfl 70 _ _ rfl w3.heap.size #[.int .i64 0, .int .i64 0] rfl rfl 70 _ A4.out (by kernel_rfl) rfl (by kernel_rfl) ?_)
    | (refine gate_guard (by rfl) ?_; refine wpList_load_row rfl 70 _ rfl w.heap.size rfl 70 #[.int .i64 k, .int .i64 m] (0, 0) _ V.out Tryz.underlying70 rfl (by kernel_rfl) ?_)
    | (go_at_call 41; first
      | ((with_reducible refine (nbfree_any n (p := none) (nobs_nil _)).mono ?_); rintro e w9 ⟨rfl, rfl⟩)
      | ((with_reducible refine (nbfree_any n T.out).mono ?_); rintro e w9 ⟨rfl, rfl⟩))
    | (go_at_call 42; first
      | ((with_reducible refine (nbset_any (p := none) n 0 k m (nobs_nil _)).mono ?_); rintro e w5 ⟨rfl, hb⟩; have V := Lib.hid (keep hb V.out); have B := Lib.hid (below_next B.out hb); have T := Lib.hid (T.out.below hb); clear hb)
      | ((with_reducible refine (nbset_any n 0 k m T.out).mono ?_); rintro e w6 ⟨rfl, hb⟩; have V := Lib.hid (keep hb V.out); have B := Lib.hid (below_next B.out hb); have T := Lib.hid (T.out.below hb); clear hb))
    | (go_at_call 43; first
      | ((with_reducible refine (nbtrim_any n (p := none) (nobs_nil _)).mono ?_); rintro e w9 ⟨rfl, rfl⟩)
      | ((with_reducible refine (nbtrim_any n T.out).mono ?_); rintro e w9 ⟨rfl, rfl⟩))
    | (go_at_call 44; first
      | ((with_reducible refine (nbfields_any n (p := none) (nobs_nil _)).mono ?_); rintro e w9 ⟨rfl, rfl⟩)
      | ((with_reducible refine (nbfields_any n T.out).mono ?_); rintro e w9 ⟨rfl, rfl⟩))
    | (go_at_call 45; first
      | ((with_reducible refine (nbserial_any n (p := none) (nobs_nil _)).mono ?_); rintro e w9 ⟨rfl, rfl⟩)
      | ((with_reducible refine (nbserial_any n T.out).mono ?_); rintro e w9 ⟨rfl, rfl⟩))
    | (go_at_call 46; first
      | ((with_reducible refine (nbobjects_any (p := none) (nobs_nil _)).mono ?_); rintro e w9 ⟨rfl, rfl⟩)
      | ((with_reducible refine (nbobjects_any T.out).mono ?_); rintro e w9 ⟨rfl, rfl⟩))
    | (go_at_call 47; first
      | ((with_reducible refine (nbin_any (p := none) n (nobs_nil _)).mono ?_); rintro e w9 ⟨rfl, rfl⟩)
      | ((with_reducible refine (nbin_any n T.out).mono ?_); rintro e w9 ⟨rfl, rfl⟩))
    | (go_at_call 48; first
      | ((with_reducible refine (nbquit_any n (p := none) (nobs_nil _)).mono ?_); rintro e w9 ⟨rfl, rfl⟩)
      | ((with_reducible refine (nbquit_any n T.out).mono ?_); rintro e w9 ⟨rfl, rfl⟩))
    | (go_at_call 49; first
      | ((with_reducible refine (nbpages_any (p := none) (nobs_nil _)).mono ?_); rintro e w9 ⟨rfl, rfl⟩)
      | ((with_reducible refine (nbpages_any T.out).mono ?_); rintro e w9 ⟨rfl, rfl⟩))
    | (go_at_call 50; first
      | ((with_reducible refine (nbkind_any n (p := none) (nobs_nil _)).mono ?_); rintro e w9 ⟨rfl, rfl⟩)
      | ((with_reducible refine (nbkind_any n T.out).mono ?_); rintro e w9 ⟨rfl, rfl⟩))
    | (go_at_call 51; first
      | ((with_reducible refine (nbowner_any n (p := none) (nobs_nil _)).mono ?_); rintro e w9 ⟨rfl, rfl⟩)
      | ((with_reducible refine (nbowner_any n T.out).mono ?_); rintro e w9 ⟨rfl, rfl⟩))
    | (go_at_call 52; first
      | ((with_reducible refine (nbmade_any (p := none) (nobs_nil _)).mono ?_); rintro e w9 ⟨rfl, rfl⟩)
      | ((with_reducible refine (nbmade_any T.out).mono ?_); rintro e w9 ⟨rfl, rfl⟩)))
  go_ret
  exact ⟨rfl, B.out⟩
end Go.Proofs.YtjoejjhgneccgaaGreatDoor

/- What each row of this seat leans on. -/
namespace Go.Proofs.YtjoejjhgneccgaaGreatDoor
theorem rowOwn : ownKnob Tryz.prog.godebug = none := by kernel_rfl
theorem rowLaidOut : laidOutB Tryz.prog = true := by kernel_rfl
end Go.Proofs.YtjoejjhgneccgaaGreatDoor

/- Arguments, opened: a struct of whole numbers by value; a slice of octets. -/
namespace Go.Proofs.YtjoejjhgneccgaaGreatDoor
open Go.ChangeShapes Go.WideShapes Go.ChangeAt Go.RowKit Go.Deep

section
variable {H : Type} {enc : TypeId × Value → H} {P : Program} {w : World} {base : Nat} {spare : Nat → Bool} {held : Bool}

theorem open_ints_struct {r : Reach} {b0 : Nat} {t : TypeId} {fs : Array Field} {v : Value} {d : DataW H} {p : List MemPlace} (hs : P.underlying t = some (.struct fs)) (hone : oneCellFields P fs = true) (hC : P.cellsOf t = fs.size)
    (hk : ∀ (i : Nat) (f : Field), fs[i]? = some f → P.underlying f.type = some (.int .i64))
    (hv : Value.okWide P w r b0 t v) (h : DataW.Trod enc P w base spare held t v d p) :
    ∃ xs : List Int, xs.length = fs.size ∧ v = .agg (xs.map (Value.int .i64)).toArray ∧ ∀ x ∈ xs, (Lit.int .i64 x).wf = true := by
  obtain ⟨cs, rfl, hsz⟩ := okWide_struct hs hv
  obtain ⟨fuel, hf⟩ := h
  obtain ⟨ys, n, _, _, _, hlen, hg⟩ := DataW.trod_struct hs hf
  have hcs : ∀ j, j < fs.size → ∃ x : Int, cs[j]? = some (.int .i64 x) ∧ (Lit.int .i64 x).wf = true := by
    intro j hj
    have hjs : fs[j]? = some fs[j] := Array.getElem?_eq_getElem hj
    obtain ⟨ho, hk1⟩ := hone_of hone j _ hjs
    have h1 := hg j _ hjs
    rw [ho, hk1] at h1
    have hys : ys[j]? = some (ys[j]'(by omega)) := List.getElem?_eq_getElem (by omega)
    rw [hys] at h1
    obtain ⟨x, e1, _, e3⟩ := DataW.trod_int (hk j _ hjs) h1
    refine ⟨x, ?_, e3⟩
    have hjc : j < cs.toList.length := by simp [hsz, hC]; exact hj
    have : ((Value.agg cs).cells.toList.drop j).take 1 = [cs.toList[j]] := by
      show (cs.toList.drop j).take 1 = _
      rw [List.drop_eq_getElem_cons hjc]; rfl
    rw [this] at e1
    have e2 : cs.toList[j] = Value.int .i64 x := by simpa using e1
    rw [← e2, ← Array.getElem?_toList, List.getElem?_eq_getElem hjc]
  refine ⟨cs.toList.map intOf, by simp [hsz, hC], ?_, ?_⟩
  · congr 1
    apply Array.ext
    · simp
    · intro i h1 h2
      obtain ⟨x, hx, _⟩ := hcs i (by rw [← hC, ← hsz]; exact h1)
      have : cs[i] = .int .i64 x := by rw [Array.getElem?_eq_getElem h1] at hx; simpa using hx
      simp [this, intOf]
  · intro x hx
    obtain ⟨u, hu, rfl⟩ := List.mem_map.1 hx
    obtain ⟨i, hi, rfl⟩ := List.getElem_of_mem hu
    have hi' : i < cs.size := by simpa using hi
    obtain ⟨x, hx, hwf⟩ := hcs i (by rw [← hC, ← hsz]; exact hi')
    have : cs.toList[i] = .int .i64 x := by rw [Array.getElem?_eq_getElem hi'] at hx; simpa using hx
    rw [this]; exact hwf

theorem open_bytes {r : Reach} {b0 : Nat} {t e : TypeId} {v : Value} {d : DataW H} {p : List MemPlace} (ht : P.underlying t = some (.slice e)) (he : P.underlying e = some (.int .u8)) (hc : P.cellsOf e = 1)
    (hv : Value.okWide P w r b0 t v) (h : DataW.Trod enc P w base spare held t v d p) :
    ∃ A n cap xs, v = .slice A n cap ∧ RdB w A n xs := by
  obtain ⟨a, n, cap, rfl⟩ := okWide_slice ht hv
  obtain ⟨fuel, hf⟩ := h
  rcases open_ints ht he hc hf with ⟨hcs, _⟩ | ⟨x, l, c, zs, hcs, _, hl, hm, hz, _, hcell, hwz⟩
  · simp [Value.cells] at hcs
    obtain ⟨rfl, rfl, rfl⟩ := hcs
    exact ⟨_, _, _, [], rfl, rfl, by omega, by simp, fun h0 => absurd h0 (by omega)⟩
  · simp [Value.cells] at hcs
    obtain ⟨rfl, rfl, rfl⟩ := hcs
    have hzl : n ≤ zs.length := by rw [hz]; split <;> omega
    refine ⟨_, n, cap, zs.take n, rfl, by simp; omega, ?_, ?_, fun h0 => ?_⟩
    · unfold maxLen at hm; omega
    · intro y hy
      have := hwz y (List.mem_of_mem_take hy)
      simp only [Lit.wf, Bool.and_eq_true, decide_eq_true_eq] at this
      exact ⟨this.1, this.2⟩
    · obtain ⟨b, off, spot⟩ := x
      have hspot : spot = none := by simpa [Addr.add] using World.cell?_spot (hcell 0 (by omega))
      subst hspot
      refine ⟨b, off, rfl, fun j hj => ?_⟩
      have := hcell j (by omega)
      rw [add_plain] at this
      rw [this]
      simp [List.getD_eq_getElem?_getD, hj]
end
end Go.Proofs.YtjoejjhgneccgaaGreatDoor

/- The one table that the rows list. -/
namespace Go.Proofs.YtjoejjhgneccgaaGreatDoor
open Go.ChangeShapes Go.WideShapes Go.ChangeAt Go.RowKit Go.Deep

theorem own : ownKnob Tryz.prog.godebug = none := by kernel_rfl
theorem gTab : Tryz.prog.globalNamed "math/bits.deBruijn64tab" = some 0 := by kernel_rfl
theorem tTab : (Tryz.prog.globals[0]?).map (·.type) = some 205 := by kernel_rfl
abbrev laid1 : List (String × DataW Unit) := [("math/bits.deBruijn64tab", Rows.laid_math_bits_deBruijn64tab)]
/-- The door's own heap meets the condition. -/
theorem door_met (os : Os) (args : Array Value) : laidMetH Tryz.prog laid1 ((World.doorLaid Tryz.prog 400 os).forCall (fun _ _ => 0) ⟨#[], args, []⟩).memory :=
  laidMetH_of_parts3 (fuel := 8) (laidMet_of_run' 8 (by kernel_rfl) (by kernel_rfl)) (by kernel_rfl) (by kernel_rfl)
theorem tab_of_laid {W : World} (h : laidMetH Tryz.prog laid1 W) : Tab64 W := by
  rw [MakeChecks.laidMetH_plain _ _ _ (by kernel_rfl)] at h
  have h1 : Lib.TabIs Tryz.prog W "math/bits.deBruijn64tab" .u8 (Lib.deBruijn64tab.map Int.ofNat) := Lib.tabIs_of_head gTab tTab Tryz.underlying205 Tryz.underlying5 (by kernel_rfl) (by kernel_rfl) h
  intro j hj
  unfold Lib.TabIs World.var? at h1
  rw [gTab] at h1
  simp only [Option.bind_some] at h1
  split at h1
  · rename_i cs T fr hb
    rw [cell_of_row _ _ _ _ _ _ hb, Option.some.inj h1, List.getElem?_toArray, List.getElem?_map, List.getElem?_map, List.getD_eq_getElem?_getD, List.getElem?_eq_getElem hj]
    rfl
  · cases h1
end Go.Proofs.YtjoejjhgneccgaaGreatDoor

/- A value that came in, opened. -/
namespace Go.Proofs.YtjoejjhgneccgaaGreatDoor
open Go.ChangeShapes Go.WideShapes Go.ChangeAt Go.RowKit Go.Deep

section
variable {H : Type} {enc : TypeId × Value → H} {w : World} {base : Nat} {spare : Nat → Bool} {held : Bool} {r : Reach} {b0 : Nat} {v : Value} {d : DataW H} {p : List MemPlace}
set_option maxRecDepth 100000 in
theorem open_val (hv : Value.okWide Tryz.prog w r b0 70 v) (h : DataW.Trod enc Tryz.prog w base spare held 70 v d p) :
    ∃ k n : Int, v = .agg #[.int .i64 k, .int .i64 n] := by
  obtain ⟨xs, hl, rfl, -⟩ := open_ints_struct Tryz.underlying70 (by kernel_rfl) (by kernel_rfl) (fun i f hf => by
    match i, hf with
    | 0, hf => cases hf; exact Tryz.underlying3
    | 1, hf => cases hf; exact Tryz.underlying2
    | i + 2, hf => simp at hf) hv h
  match xs, hl with
  | [k, n], _ => exact ⟨k, n, rfl⟩
end
end Go.Proofs.YtjoejjhgneccgaaGreatDoor
