/- A part of the proof that the register's laws hold; no condition of its own. -/
import Derived.Test.YthbcabnljcpaiaaGreatDoorZB20
import Derived.Deep.RegionHeld3
set_option linter.all false
namespace Go.Proofs.YthbcabnljcpaiaaGreatDoor.H
open Go.RowKit Go.Shelf Go.Lib Go.Maps Go.WideElems Go.MapKept Go.Sort Go.Proofs.YthbcabnljcpaiaaGreatDoorW.PrintWords Go.Proofs.YthbcabnljcpaiaaGreatDoor.Q
set_option linter.unusedVariables false
attribute [local go_sem] heap_drew
set_option maxRecDepth 100000 in
theorem or2_calls (x y : Int) (b : Nat) (W : World) (hB : Bx W b 3 #[.int .i64 x, .int .i64 y]) :
    Calls Tryz.prog 67 #[.slice (some ⟨b, 0, none⟩) 2 2] W fun e w' => e = .returned (.int .i64 (if x = 0 then y else x)) ∧ w' = W := by
  have c0 : W.cell? ⟨b, 0, none⟩ = some (.int .i64 x) := hB.cell 0
  have c1 : W.cell? ⟨b, 1, none⟩ = some (.int .i64 y) := hB.cell 1
  by_cases hx : x = 0
  · subst hx
    by_cases hy : y = 0
    · subst hy
      go_enter Tryz.func67, Tryz.ntmps67
      go_wp2
      refine wp_loop_rounds 3 ?_
      rw [rounds_succ]
      go_wp2
      rw [rounds_succ]
      go_wp2
      rw [rounds_succ]
      go_wp2
      go_ret
      exact ⟨rfl, rfl⟩
    · have hy' : (y == 0) = false := by simpa using hy
      go_enter Tryz.func67, Tryz.ntmps67
      go_wp2
      refine wp_loop_rounds 3 ?_
      rw [rounds_succ]
      go_wp2
      rw [rounds_succ]
      go_wp2
      go_ret
      exact ⟨rfl, rfl⟩
  · have hx' : (x == 0) = false := by simpa using hx
    rw [if_neg hx]
    go_enter Tryz.func67, Tryz.ntmps67
    go_wp2
    refine wp_loop_rounds 3 ?_
    rw [rounds_succ]
    go_wp2
    go_ret
    exact ⟨rfl, rfl⟩
def Gd (W W' : World) : Prop := ∃ n os, W' = grow (W.drewN n) os
theorem Gd.start (W : World) : Gd W W := ⟨0, #[], by simp [grow, World.drewN]⟩
theorem Gd.alloc {W W' : World} {o : Obj} (h : Gd W W') : Gd W (W'.alloc o) := by
  obtain ⟨n, os, rfl⟩ := h
  refine ⟨n, os ++ #[o], ?_⟩
  rw [← grow_grow]
  simp [grow, World.alloc]
theorem Gd.draw {W W' : World} (h : Gd W W') : Gd W W'.drew := by
  obtain ⟨n, os, rfl⟩ := h
  exact ⟨n + 1, os, by rw [drew_grow, World.drew_drewN]⟩
def cfK (p q : Int × Int) : Int := if sg p.1 q.1 = 0 then sg p.2 q.2 else sg p.1 q.1
set_option maxRecDepth 100000 in
set_option maxHeartbeats 100000000 in
theorem lcmp_calls (p q : Int × Int) (W : World) : Calls Tryz.prog 66 #[keyV p, keyV q] W fun e w' => e = .returned (.int .i64 (cfK p q)) ∧ Gd W w' := by
  go_enter Tryz.func66, Tryz.ntmps66
  go_wp2_with (fail)
  have hc := fun a b W => cmp_int a b W
  have ho : ∀ (b : Nat) (W' : World), Bx W' b 3 #[.int .i64 (sg p.1 q.1), .int .i64 (sg p.2 q.2)] → Calls Tryz.prog 67 #[.slice (some ⟨b, 0, none⟩) 2 2] W' fun e w' => e = .returned (.int .i64 (cfK p q)) ∧ w' = W' := fun b W' h => or2_calls _ _ b W' h
  have Hc := hid hc
  have Ho := hid ho
  clear hc ho
  have hnew : ∀ (X : World) (o : Obj) (b : Nat), b = X.heap.size → (X.alloc o).heap[b]? = some o := fun X o b e => by subst e; exact World.alloc_heap_new X o
  obtain ⟨b, hb⟩ : ∃ b, b = W.heap.size := ⟨_, rfl⟩
  rw [← hb]
  have hS : ∀ W', Below ((W.alloc (.cells #[.int .i64 p.1, .int .i64 p.2] 63)).alloc (.cells #[.int .i64 q.1, .int .i64 q.2] 63)).heap.size ((W.alloc (.cells #[.int .i64 p.1, .int .i64 p.2] 63)).alloc (.cells #[.int .i64 q.1, .int .i64 q.2] 63)) W' →
      (W'.cell? ⟨b, 0, none⟩ = some (.int .i64 p.1) ∧ W'.cell? ⟨b, 1, none⟩ = some (.int .i64 p.2) ∧ W'.cell? ⟨b + 1, 0, none⟩ = some (.int .i64 q.1) ∧ W'.cell? ⟨b + 1, 1, none⟩ = some (.int .i64 q.2)) := fun W' h => by
    subst hb
    have R1 := ((Bx.new W 63 #[.int .i64 p.1, .int .i64 p.2]).below (below_alloc (Below.refl _ _) (.cells #[.int .i64 q.1, .int .i64 q.2] 63))).below h
    have R2 := (Bx.new (W.alloc (.cells #[.int .i64 p.1, .int .i64 p.2] 63)) 63 #[.int .i64 q.1, .int .i64 q.2]).below h
    rw [World.size_alloc] at R2
    exact ⟨R1.cell 0, R1.cell 1, R2.cell 0, R2.cell 1⟩
  have hG : Gd W ((W.alloc (.cells #[.int .i64 p.1, .int .i64 p.2] 63)).alloc (.cells #[.int .i64 q.1, .int .i64 q.2] 63)) := ((Gd.start W).alloc).alloc
  generalize (W.alloc (.cells #[.int .i64 p.1, .int .i64 p.2] 63)).alloc (.cells #[.int .i64 q.1, .int .i64 q.2] 63) = X at *
  have HS := hid hS
  clear hS hb
  go_region_held3 (fun W' => W'.cell? ⟨b, 0, none⟩ = some (.int .i64 p.1) ∧ W'.cell? ⟨b, 1, none⟩ = some (.int .i64 p.2) ∧ W'.cell? ⟨b + 1, 0, none⟩ = some (.int .i64 q.1) ∧ W'.cell? ⟨b + 1, 1, none⟩ = some (.int .i64 q.2)) (exact HS.out _ (by repeat (first | exact Below.refl _ _ | refine below_alloc ?_ _ | refine Below.drew ?_ | refine below_drewN ?_ _))) (first | (go_at_call 68; with_reducible refine (Hc.out _ _ _).mono ?_; rintro e w1 ⟨rfl, rfl⟩) | (go_at_call 67; with_reducible refine (Ho.out _ _ (by unfold Bx; simp only [heap_drew, World.heap_drewN]; exact hnew _ _ _ (by simp))).mono ?_; rintro e w1 ⟨rfl, rfl⟩))
  all_goals go_wp2_with (fail)
  all_goals go_ret
  all_goals exact ⟨rfl, by repeat (first | exact hG | apply Gd.alloc | apply Gd.draw)⟩
end Go.Proofs.YthbcabnljcpaiaaGreatDoor.H
