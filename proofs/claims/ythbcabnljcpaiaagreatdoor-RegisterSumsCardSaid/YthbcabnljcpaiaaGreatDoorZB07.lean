/- A part of the proof that the register's laws hold; no condition of its own. -/
import Derived.Test.YthbcabnljcpaiaaGreatDoorZB06
import Derived.Deep.RegionWith
import Derived.RegionTactic
set_option linter.all false
namespace Go.Proofs.YthbcabnljcpaiaaGreatDoor.H
open Go.RowKit Go.Shelf Go.Proofs.YthbcabnljcpaiaaGreatDoorW.PrintWords Go.Proofs.YthbcabnljcpaiaaGreatDoor.M
set_option linter.unusedVariables false
theorem limbs_small {n : Nat} (h0 : 0 < n) (h1 : n < 1000000000) : limbs n = [(n : Int)] := by
  rw [limbs_pos (by omega), Nat.mod_eq_of_lt h1, Nat.div_eq_of_lt h1, limbs_zero]
theorem Num.one (W : World) (n : Nat) (h0 : 0 < n) (h1 : n < 1000000000) : Num (W.alloc (.cells #[.int .u64 (n : Int)] 167)) (.slice (some ⟨W.heap.size, 0, none⟩) 1 1) (limbs n) := by
  rw [limbs_small h0 h1]
  refine ⟨some ⟨W.heap.size, 0, none⟩, 1, rfl, by simp, ?_⟩
  refine Kd.C_of_reads (d := (0 : Int)) (h1 := fun _ => rfl) (enc := Value.int .u64) ⟨rfl, by simp, fun _ => ⟨⟨W.heap.size, 0, none⟩, rfl, fun j hj => ?_⟩⟩
  obtain rfl : j = 0 := by simpa using hj
  rw [add_plain]
  exact (Boxed.new W 167 _).cell
set_option maxRecDepth 100000 in
set_option maxHeartbeats 4000000 in
theorem div1_calls (m r : Nat) (k : Nat) (hk : k < 999999999) (hm : (limbs m).length + 1 ≤ 35184372088832) (Bm Br : Nat) (vm vr : Value) (w : World) (bm : Boxed w Bm 136 vm) (br : Boxed w Br 136 vr) (nm : Num w vm (limbs m)) (nr : Num w vr (limbs r)) :
    Calls Tryz.prog 188 #[.int .i64 k, .pointer (some ⟨Bm, 0, none⟩), .pointer (some ⟨Br, 0, none⟩)] w fun e w' => e = .returned (.bool (decide (0 < sg ((m * (k + 1) : Nat) : Int) r))) ∧ Below w.heap.size w w' := by
  have hmc := bm.cell
  have hrc := br.cell
  have hBm := bm.lt
  have hBr := br.lt
  have hm' : (limbs m).length + (limbs (k + 1)).length ≤ 35184372088832 := by rw [limbs_small (n := k + 1) (by omega) (by omega)]; simpa using hm
  have HM := Lib.hid hm'
  have n1 := fun W => Num.one W (k + 1) (by omega) (by omega)
  simp only [Int.natCast_add, Int.natCast_one] at n1
  have hk1 : IntKind.i64.wrap ((k : Int) + 1) = (k : Int) + 1 := IntWalk.i64_in _ (by omega)
  have hk2 : IntKind.u64.wrap ((k : Int) + 1) = (k : Int) + 1 := u64_of (by omega) (by omega)
  clear hm hm'
  go_enter Tryz.func188, Tryz.ntmps188
  go_wp2
  go_region_with (first | (go_at_call 178; refine (mul_calls m (k + 1) HM.out _ _ _ (nm.below (by repeat (first | exact Below.refl _ _ | apply below_drew | apply below_alloc))) ((n1 _).below (by repeat (first | exact Below.refl _ _ | apply below_drew | apply below_alloc)))).mono ?_; rintro e w1 ⟨u, rfl, hu, hb1⟩; have hrc1 : w1.cell? ⟨Br, 0, none⟩ = some vr := Boxed.cell (t := 136) (blk_below (by repeat (first | exact br | apply blk_drew | apply blk_alloc)) hb1); have hbw := below_then (w := w) (B := w.heap.size) (by repeat (first | exact Below.refl _ _ | apply below_drew | apply below_alloc)) (by simp) hb1; clear hb1) | (go_at_call 144; refine (cmp_calls (m * (k + 1)) r _ _ _ (hu.below (by repeat (first | exact Below.refl _ _ | apply below_drew | apply below_alloc))) (nr.below (by repeat (first | exact hbw | apply below_drew | apply below_alloc)))).mono ?_; rintro e w2 ⟨rfl, hb2⟩))
  all_goals
    have hb3 := Lib.hid (below_then (w := w) (B := w.heap.size) hbw hbw.size hb2)
    clear hb2
    go_wp2
    go_ret
    exact ⟨by push_cast; rfl, by repeat (first | exact hb3.out | apply below_drew)⟩
end Go.Proofs.YthbcabnljcpaiaaGreatDoor.H
