/- A part of the proof that the register's laws hold; no condition of its own. -/
import Derived.Test.YthbcabnljcpaiaaGreatDoorZB16
import Derived.Test.YthbcabnljcpaiaaGreatDoorZB23
set_option linter.all false
namespace Go.Proofs.YthbcabnljcpaiaaGreatDoor.Q
open Go.RowKit Go.Proofs.YthbcabnljcpaiaaGreatDoorW.PrintWords Go.Proofs.YthbcabnljcpaiaaGreatDoorW.PrintLast Go.Proofs.YthbcabnljcpaiaaGreatDoorW.PrintMore
attribute [local go_sem] max2_int min2_int max_two min_two max_three min_three max_four min_four
set_option linter.unusedVariables false
set_option linter.unusedSimpArgs false
def customhouseref17_SameHoldings.l0 : Nat → List (S36) → List (S36) → Int → Option (Bool)
  | 0, _, _, _ => none
  | k + 1, x0, x1, x5 => if x5 < (x0.length : Int) then (if 0 ≤ x5 then (if x5 < (x1.length : Int) then ((customhouseref17_SameHolding.f k ((rd_T36 x0 x5).f0) ((rd_T36 x0 x5).f1) ((rd_T36 x0 x5).f2) ((rd_T36 x0 x5).f3) ((rd_T36 x0 x5).f4) ((rd_T36 x0 x5).f5) ((rd_T36 x0 x5).f6) ((rd_T36 x0 x5).f7) ((rd_T36 x0 x5).f8) ((rd_T36 x0 x5).f9) ((rd_T36 x1 x5).f0) ((rd_T36 x1 x5).f1) ((rd_T36 x1 x5).f2) ((rd_T36 x1 x5).f3) ((rd_T36 x1 x5).f4) ((rd_T36 x1 x5).f5) ((rd_T36 x1 x5).f6) ((rd_T36 x1 x5).f7) ((rd_T36 x1 x5).f8) ((rd_T36 x1 x5).f9)).bind fun t133 => (if t133 = true then (customhouseref17_SameHoldings.l0 k x0 x1 (wrap64 (x5 + 1))) else (some false))) else (none)) else (none)) else (some true)
def customhouseref17_SameHoldings.f (k : Nat) (l0 : List (S36)) (l1 : List (S36)) : Option (Bool) := if (l0.length : Int) = (l1.length : Int) then (customhouseref17_SameHoldings.l0 k l0 l1 0) else (some false)
theorem customhouseref17_SameHoldings.mono_l : ∀ k, (∀ y0 y1 y2, LeO (customhouseref17_SameHoldings.l0 k y0 y1 y2) (customhouseref17_SameHoldings.l0 (k + 1) y0 y1 y2))
  | 0 => fun _ _ _ r h => by simp [customhouseref17_SameHoldings.l0] at h
  | k + 1 => by
    have ih0 := customhouseref17_SameHoldings.mono_l k
    · intro y0 y1 y2
      unfold customhouseref17_SameHoldings.l0
      repeat' first
      | (with_reducible exact ih0 _ _ _)
      | (with_reducible exact customhouseref17_SameHolding.mono _ _ _ _ _ _ _ _ _ _ _ _ _ _ _ _ _ _ _ _ _)
      | (with_reducible exact LeO.refl _)
      | (with_reducible exact LeO.none _)
      | (with_reducible refine LeO.ite ?_ ?_)
      | (with_reducible refine LeO.bind ?_ (fun _ => ?_))
      | exact ih0 _ _ _
      | exact customhouseref17_SameHolding.mono _ _ _ _ _ _ _ _ _ _ _ _ _ _ _ _ _ _ _ _ _
      | exact LeO.none _
      | refine LeO.ite ?_ ?_
      | refine LeO.bind ?_ (fun _ => ?_)
theorem customhouseref17_SameHoldings.mono : ∀ a0 a1 k, LeO (customhouseref17_SameHoldings.f k a0 a1) (customhouseref17_SameHoldings.f (k + 1) a0 a1) := by
  intro a0 a1 k
  have ih0 := customhouseref17_SameHoldings.mono_l k
  unfold customhouseref17_SameHoldings.f
  repeat' first
      | (with_reducible exact ih0 _ _ _)
      | (with_reducible exact customhouseref17_SameHolding.mono _ _ _ _ _ _ _ _ _ _ _ _ _ _ _ _ _ _ _ _ _)
      | (with_reducible exact LeO.refl _)
      | (with_reducible exact LeO.none _)
      | (with_reducible refine LeO.ite ?_ ?_)
      | (with_reducible refine LeO.bind ?_ (fun _ => ?_))
      | exact ih0 _ _ _
      | exact customhouseref17_SameHolding.mono _ _ _ _ _ _ _ _ _ _ _ _ _ _ _ _ _ _ _ _ _
      | exact LeO.none _
      | refine LeO.ite ?_ ?_
      | refine LeO.bind ?_ (fun _ => ?_)
def customhouseref17_SameHoldings.T6 : Bool × List (List Nat × List Nat) := (true, [([], []), ([], []), ([0, 1], [0, 1]), ([2], [2]), ([], []), ([], []), ([4, 5], [4, 5]), ([6], [6]), ([3, 7], [3, 7]), ([8], [8])])
def customhouseref17_SameHoldings.B6 : List Nat := [0, 0, 3, 7, 0, 0, 48, 112, 255, 511]
theorem customhouseref17_SameHoldings.tab6 : rtab .any (opsOf Tryz.f24 6) = customhouseref17_SameHoldings.T6 := by kernel_rfl
theorem customhouseref17_SameHoldings.bits6 : waitsOk customhouseref17_SameHoldings.T6.2 customhouseref17_SameHoldings.B6 = true := by kernel_rfl
set_option maxHeartbeats 8000000 in
set_option maxRecDepth 100000 in
theorem customhouseref17_SameHoldings.calls (k : Nat) (A0 : Option Addr) (c0 : Nat) (l0 : List (S36)) (A1 : Option Addr) (c1 : Nat) (l1 : List (S36)) (r : Bool) (w : World) (hr0 : Kd.C k36 w A0 l0.length l0) (hc0 : l0.length ≤ c0) (hr1 : Kd.C k36 w A1 l1.length l1) (hc1 : l1.length ≤ c1) (h : customhouseref17_SameHoldings.f k l0 l1 = some r) :
    Calls Tryz.prog 24 #[.slice A0 l0.length c0, .slice A1 l1.length c1] w fun e w' => e = .returned (.bool r) ∧ Below w.heap.size w w' := by
  have hu36 := Tryz.underlying36
  have HR0 := Aside0.mk hr0
  have HC0 := Aside0.mk hc0
  clear hr0 hc0
  have HR1 := Aside0.mk hr1
  have HC1 := Aside0.mk hc1
  clear hr1 hc1
  have HB := Aside0.mk (Below.refl w.heap.size w)
  have H : (if (l0.length : Int) = (l1.length : Int) then (customhouseref17_SameHoldings.l0 k l0 l1 0) else (some false)) = some r := h
  clear h
  by_cases c3 : (l0.length : Int) = (l1.length : Int)
  · rw [if_pos c3] at H
    have c3b0 : ((l0.length : Int) == (l1.length : Int)) = true := beq_iff_eq.mpr c3
    have c3b1 : ((l0.length : Int) != (l1.length : Int)) = false := bne_eq_false_iff_eq.mpr c3
    have c3b2 : (l0.length == l1.length) = true := by first | simpa using c3 | (simp at c3 ⊢; omega)
    clear c3
    have H' := Aside0.mk H
    clear H
    go_enter Tryz.func24, Tryz.ntmps24
    go_wp2
    go_loopg [5] k (fun kq v5 w' => ∃ (x5_1 : Int), v5 = .int .i64 x5_1 ∧ Aside0 (customhouseref17_SameHoldings.l0 kq l0 l1 x5_1 = some r) ∧ Aside0 (kq ≤ k) ∧ Aside0 (Below w.heap.size w w'))
    case atStart => exact ⟨(0), (by first | rfl | (simp; done) | (simp [*]; done)), H', ⟨Nat.le_refl _⟩, ⟨by repeat (first | (with_reducible first | exact HB.out | apply below_alloc | apply pw_below_drewN | apply below_drew1) | exact HB.out)⟩⟩
    case round =>
      clear H'
      try clear c1
      try clear c2
      try clear p2
      try clear c3
      try clear c3b0
      try clear c3b1
      try clear c3b2
      obtain ⟨x5_1, rfl, HA, HK1, HB⟩ := hrel
      cases gk with
      | zero => exact absurd HA.out (by simp [customhouseref17_SameHoldings.l0])
      | succ k1 =>
        have H := HA.out
        clear HA
        simp only [customhouseref17_SameHoldings.l0] at H
        by_cases c4 : x5_1 < (l0.length : Int)
        · rw [if_pos c4] at H
          have c4b0 : decide (x5_1 < (l0.length : Int)) = true := decide_eq_true c4
          clear c4
          by_cases c5 : 0 ≤ x5_1
          · rw [if_pos c5] at H
            have c5b0 : decide (0 ≤ x5_1) = true := decide_eq_true c5
            clear c5
            by_cases c6 : x5_1 < (l1.length : Int)
            · rw [if_pos c6] at H
              have c6b0 : decide (x5_1 < (l1.length : Int)) = true := decide_eq_true c6
              clear c6
              replace H := Option.bind_eq_some_iff.mp H
              obtain ⟨t133, A70, H⟩ := H
              replace H : (if t133 = true then (customhouseref17_SameHoldings.l0 k1 l0 l1 (wrap64 (x5_1 + 1))) else (some false)) = some r := H
              have A7 := Aside0.mk A70
              clear A70
              by_cases c8 : t133 = true
              · subst c8
                have H1 : (customhouseref17_SameHoldings.l0 k1 l0 l1 (wrap64 (x5_1 + 1))) = some r := by rw [if_pos rfl] at H; exact H
                clear H
                have H := H1
                clear H1
                have H' := Aside0.mk H
                clear H
                try go_wp2
                have n0_ := Aside0.mk (below_drew1 HB.out)
                clear HB
                have HB := n0_
                clear n0_
                have p131 : 0 ≤ (x5_1 : Int) := of_decide_eq_true (by first | (with_reducible assumption) | assumption)
                have q131 : x5_1 < (l0.length : Int) := of_decide_eq_true (by first | (with_reducible assumption) | assumption)
                obtain ⟨ad131, A131_5, c131_5, e131, hx131_0, hx131_1, hx131_2, hx131_3, hx131_4, hx131_5, hx131_6, hx131_7, hx131_8, hx131_9, hl131_5, hi131_5⟩ := at_T36 HR0.out x5_1 p131 q131
                have hw131_9 := hx131_9
                have hw131_8 := hx131_8
                have hw131_7 := hx131_7
                have hw131_6 := hx131_6
                have hw131_5 := hx131_5
                have hw131_4 := hx131_4
                have hw131_3 := hx131_3
                have hw131_2 := hx131_2
                have hw131_1 := hx131_1
                have hw131_0 := hx131_0
                cases e131
                replace hx131_0 := (HB.out.cell (World.block_lt_of_cell? w _ hx131_0)).trans hx131_0
                replace hx131_1 := (HB.out.cell (World.block_lt_of_cell? w _ hx131_1)).trans hx131_1
                replace hx131_2 := (HB.out.cell (World.block_lt_of_cell? w _ hx131_2)).trans hx131_2
                replace hx131_3 := (HB.out.cell (World.block_lt_of_cell? w _ hx131_3)).trans hx131_3
                replace hx131_4 := (HB.out.cell (World.block_lt_of_cell? w _ hx131_4)).trans hx131_4
                replace hx131_5 := (HB.out.cell (World.block_lt_of_cell? w _ hx131_5)).trans hx131_5
                replace hx131_6 := (HB.out.cell (World.block_lt_of_cell? w _ hx131_6)).trans hx131_6
                replace hx131_7 := (HB.out.cell (World.block_lt_of_cell? w _ hx131_7)).trans hx131_7
                replace hx131_8 := (HB.out.cell (World.block_lt_of_cell? w _ hx131_8)).trans hx131_8
                replace hx131_9 := (HB.out.cell (World.block_lt_of_cell? w _ hx131_9)).trans hx131_9
                have HR131_5 := Aside0.mk hi131_5
                have HC131_5 := Aside0.mk hl131_5
                clear hi131_5 hl131_5
                replace p131 := eq_true p131
                replace q131 := eq_true q131
                have p132 : 0 ≤ (x5_1 : Int) := of_decide_eq_true (by first | (with_reducible assumption) | assumption)
                have q132 : x5_1 < (l1.length : Int) := of_decide_eq_true (by first | (with_reducible assumption) | assumption)
                obtain ⟨ad132, A132_5, c132_5, e132, hx132_0, hx132_1, hx132_2, hx132_3, hx132_4, hx132_5, hx132_6, hx132_7, hx132_8, hx132_9, hl132_5, hi132_5⟩ := at_T36 HR1.out x5_1 p132 q132
                have hw132_9 := hx132_9
                have hw132_8 := hx132_8
                have hw132_7 := hx132_7
                have hw132_6 := hx132_6
                have hw132_5 := hx132_5
                have hw132_4 := hx132_4
                have hw132_3 := hx132_3
                have hw132_2 := hx132_2
                have hw132_1 := hx132_1
                have hw132_0 := hx132_0
                cases e132
                replace hx132_0 := (HB.out.cell (World.block_lt_of_cell? w _ hx132_0)).trans hx132_0
                replace hx132_1 := (HB.out.cell (World.block_lt_of_cell? w _ hx132_1)).trans hx132_1
                replace hx132_2 := (HB.out.cell (World.block_lt_of_cell? w _ hx132_2)).trans hx132_2
                replace hx132_3 := (HB.out.cell (World.block_lt_of_cell? w _ hx132_3)).trans hx132_3
                replace hx132_4 := (HB.out.cell (World.block_lt_of_cell? w _ hx132_4)).trans hx132_4
                replace hx132_5 := (HB.out.cell (World.block_lt_of_cell? w _ hx132_5)).trans hx132_5
                replace hx132_6 := (HB.out.cell (World.block_lt_of_cell? w _ hx132_6)).trans hx132_6
                replace hx132_7 := (HB.out.cell (World.block_lt_of_cell? w _ hx132_7)).trans hx132_7
                replace hx132_8 := (HB.out.cell (World.block_lt_of_cell? w _ hx132_8)).trans hx132_8
                replace hx132_9 := (HB.out.cell (World.block_lt_of_cell? w _ hx132_9)).trans hx132_9
                have HR132_5 := Aside0.mk hi132_5
                have HC132_5 := Aside0.mk hl132_5
                clear hi132_5 hl132_5
                replace p132 := eq_true p132
                replace q132 := eq_true q132
                refine start_ (n := 10) (S := fun w' => w'.cell? (ad131.add ((x5_1).toNat * 10)) = some (.string ((rd_T36 l0 x5_1).f0)) ∧ w'.cell? ⟨(ad131.add ((x5_1).toNat * 10)).block, (ad131.add ((x5_1).toNat * 10)).off + 1, none⟩ = some (.string ((rd_T36 l0 x5_1).f1)) ∧ w'.cell? ⟨(ad131.add ((x5_1).toNat * 10)).block, (ad131.add ((x5_1).toNat * 10)).off + 2, none⟩ = some (.string ((rd_T36 l0 x5_1).f2)) ∧ w'.cell? ⟨(ad131.add ((x5_1).toNat * 10)).block, (ad131.add ((x5_1).toNat * 10)).off + 3, none⟩ = some (.string ((rd_T36 l0 x5_1).f3)) ∧ w'.cell? ⟨(ad131.add ((x5_1).toNat * 10)).block, (ad131.add ((x5_1).toNat * 10)).off + 4, none⟩ = some (.string ((rd_T36 l0 x5_1).f4)) ∧ w'.cell? ⟨(ad131.add ((x5_1).toNat * 10)).block, (ad131.add ((x5_1).toNat * 10)).off + 5, none⟩ = some (.slice A131_5 ((rd_T36 l0 x5_1).f5).length c131_5) ∧ w'.cell? ⟨(ad131.add ((x5_1).toNat * 10)).block, (ad131.add ((x5_1).toNat * 10)).off + 6, none⟩ = some (.int .i64 ((rd_T36 l0 x5_1).f6)) ∧ w'.cell? ⟨(ad131.add ((x5_1).toNat * 10)).block, (ad131.add ((x5_1).toNat * 10)).off + 7, none⟩ = some (.int .i64 ((rd_T36 l0 x5_1).f7)) ∧ w'.cell? ⟨(ad131.add ((x5_1).toNat * 10)).block, (ad131.add ((x5_1).toNat * 10)).off + 8, none⟩ = some (.int .i64 ((rd_T36 l0 x5_1).f8)) ∧ w'.cell? ⟨(ad131.add ((x5_1).toNat * 10)).block, (ad131.add ((x5_1).toNat * 10)).off + 9, none⟩ = some (.int .i64 ((rd_T36 l0 x5_1).f9)) ∧ w'.cell? (ad132.add ((x5_1).toNat * 10)) = some (.string ((rd_T36 l1 x5_1).f0)) ∧ w'.cell? ⟨(ad132.add ((x5_1).toNat * 10)).block, (ad132.add ((x5_1).toNat * 10)).off + 1, none⟩ = some (.string ((rd_T36 l1 x5_1).f1)) ∧ w'.cell? ⟨(ad132.add ((x5_1).toNat * 10)).block, (ad132.add ((x5_1).toNat * 10)).off + 2, none⟩ = some (.string ((rd_T36 l1 x5_1).f2)) ∧ w'.cell? ⟨(ad132.add ((x5_1).toNat * 10)).block, (ad132.add ((x5_1).toNat * 10)).off + 3, none⟩ = some (.string ((rd_T36 l1 x5_1).f3)) ∧ w'.cell? ⟨(ad132.add ((x5_1).toNat * 10)).block, (ad132.add ((x5_1).toNat * 10)).off + 4, none⟩ = some (.string ((rd_T36 l1 x5_1).f4)) ∧ w'.cell? ⟨(ad132.add ((x5_1).toNat * 10)).block, (ad132.add ((x5_1).toNat * 10)).off + 5, none⟩ = some (.slice A132_5 ((rd_T36 l1 x5_1).f5).length c132_5) ∧ w'.cell? ⟨(ad132.add ((x5_1).toNat * 10)).block, (ad132.add ((x5_1).toNat * 10)).off + 6, none⟩ = some (.int .i64 ((rd_T36 l1 x5_1).f6)) ∧ w'.cell? ⟨(ad132.add ((x5_1).toNat * 10)).block, (ad132.add ((x5_1).toNat * 10)).off + 7, none⟩ = some (.int .i64 ((rd_T36 l1 x5_1).f7)) ∧ w'.cell? ⟨(ad132.add ((x5_1).toNat * 10)).block, (ad132.add ((x5_1).toNat * 10)).off + 8, none⟩ = some (.int .i64 ((rd_T36 l1 x5_1).f8)) ∧ w'.cell? ⟨(ad132.add ((x5_1).toNat * 10)).block, (ad132.add ((x5_1).toNat * 10)).off + 9, none⟩ = some (.int .i64 ((rd_T36 l1 x5_1).f9))) (ds := []) #[false, false, false, false, false, false, false, false, false, false] (by kernel_rfl) rfl rfl ⟨((HB.out.cell (World.block_lt_of_cell? w _ hw131_0)).trans hw131_0), ((HB.out.cell (World.block_lt_of_cell? w _ hw131_1)).trans hw131_1), ((HB.out.cell (World.block_lt_of_cell? w _ hw131_2)).trans hw131_2), ((HB.out.cell (World.block_lt_of_cell? w _ hw131_3)).trans hw131_3), ((HB.out.cell (World.block_lt_of_cell? w _ hw131_4)).trans hw131_4), ((HB.out.cell (World.block_lt_of_cell? w _ hw131_5)).trans hw131_5), ((HB.out.cell (World.block_lt_of_cell? w _ hw131_6)).trans hw131_6), ((HB.out.cell (World.block_lt_of_cell? w _ hw131_7)).trans hw131_7), ((HB.out.cell (World.block_lt_of_cell? w _ hw131_8)).trans hw131_8), ((HB.out.cell (World.block_lt_of_cell? w _ hw131_9)).trans hw131_9), ((HB.out.cell (World.block_lt_of_cell? w _ hw132_0)).trans hw132_0), ((HB.out.cell (World.block_lt_of_cell? w _ hw132_1)).trans hw132_1), ((HB.out.cell (World.block_lt_of_cell? w _ hw132_2)).trans hw132_2), ((HB.out.cell (World.block_lt_of_cell? w _ hw132_3)).trans hw132_3), ((HB.out.cell (World.block_lt_of_cell? w _ hw132_4)).trans hw132_4), ((HB.out.cell (World.block_lt_of_cell? w _ hw132_5)).trans hw132_5), ((HB.out.cell (World.block_lt_of_cell? w _ hw132_6)).trans hw132_6), ((HB.out.cell (World.block_lt_of_cell? w _ hw132_7)).trans hw132_7), ((HB.out.cell (World.block_lt_of_cell? w _ hw132_8)).trans hw132_8), ((HB.out.cell (World.block_lt_of_cell? w _ hw132_9)).trans hw132_9)⟩ (fun hHeld => ?_); refine with_tabW customhouseref17_SameHoldings.tab6 customhouseref17_SameHoldings.bits6 (fun HT_ HW_ => ?_)
                generalize wr.drew = w9 at HB HR131_5 HR132_5 hx131_0 hx131_1 hx131_2 hx131_3 hx131_4 hx131_5 hx131_6 hx131_7 hx131_8 hx131_9 hx132_0 hx132_1 hx132_2 hx132_3 hx132_4 hx132_5 hx132_6 hx132_7 hx132_8 hx132_9 hHeld ⊢
                refine pure_ (i := 0) (N := some 17) (v := ?_) (a' := ?_) #[true, false, false, false, false, false, false, false, false, false] rfl rfl (any_of HT_.out (by kernel_rfl)) (fun _ _ _ h => h) (Or.inl ⟨by rfl, ?_⟩) ?_ ?_
                rotate_left
                · intro w'
                  go_simp
                  with_reducible rfl
                rotate_left
                · simp only [Act.put, List.setIfInBounds_toArray, List.set_cons_zero, List.set_cons_succ, i64_w, i32_w]
                  rfl
                refine pure_ (i := 1) (N := some 18) (v := ?_) (a' := ?_) #[true, true, false, false, false, false, false, false, false, false] rfl rfl (any_of HT_.out (by kernel_rfl)) (fun _ _ _ h => h) (Or.inl ⟨by rfl, ?_⟩) ?_ ?_
                rotate_left
                · intro w'
                  go_simp
                  with_reducible rfl
                rotate_left
                · simp only [Act.put, List.setIfInBounds_toArray, List.set_cons_zero, List.set_cons_succ, i64_w, i32_w]
                  rfl
                refine pure_ (i := 2) (N := some 19) (v := ?_) (a' := ?_) #[true, true, true, false, false, false, false, false, false, false] rfl rfl (any_of HT_.out (by kernel_rfl)) (fun _ _ _ h => h) (Or.inl ⟨by rfl, ?_⟩) ?_ ?_
                rotate_left
                · intro w'
                  go_simp
                  with_reducible rfl
                rotate_left
                · simp only [Act.put, List.setIfInBounds_toArray, List.set_cons_zero, List.set_cons_succ, i64_w, i32_w]
                  rfl
                refine pure_ (i := 4) (N := some 21) (v := ?_) (a' := ?_) #[true, true, true, false, true, false, false, false, false, false] rfl rfl (any_of HT_.out (by kernel_rfl)) (fun _ _ _ h => h) (Or.inl ⟨by rfl, ?_⟩) ?_ ?_
                rotate_left
                · intro w'
                  go_simp
                  with_reducible rfl
                rotate_left
                · simp only [Act.put, List.setIfInBounds_toArray, List.set_cons_zero, List.set_cons_succ, i64_w, i32_w]
                  rfl
                refine pure_ (i := 5) (N := some 22) (v := ?_) (a' := ?_) #[true, true, true, false, true, true, false, false, false, false] rfl rfl (any_of HT_.out (by kernel_rfl)) (fun _ _ _ h => h) (Or.inl ⟨by rfl, ?_⟩) ?_ ?_
                rotate_left
                · intro w'
                  go_simp
                  with_reducible rfl
                rotate_left
                · simp only [Act.put, List.setIfInBounds_toArray, List.set_cons_zero, List.set_cons_succ, i64_w, i32_w]
                  rfl
                refine pure_ (i := 6) (N := some 23) (v := ?_) (a' := ?_) #[true, true, true, false, true, true, true, false, false, false] rfl rfl (any_of HT_.out (by kernel_rfl)) (fun _ _ _ h => h) (Or.inl ⟨by rfl, ?_⟩) ?_ ?_
                rotate_left
                · intro w'
                  go_simp
                  with_reducible rfl
                rotate_left
                · simp only [Act.put, List.setIfInBounds_toArray, List.set_cons_zero, List.set_cons_succ, i64_w, i32_w]
                  rfl
                refine take_ (i := 3) (N := some 20) (v := ?_) (a' := ?_) #[true, true, true, true, true, true, true, false, false, false] rfl rfl (take_ofW HT_.out HW_.out (by kernel_rfl)) (fun _ _ _ h => h) (Or.inl ⟨by rfl, ?_⟩) hHeld ?_ ?_
                rotate_left
                · rintro w' ⟨s0, s1, s2, s3, s4, s5, s6, s7, s8, s9, s10, s11, s12, s13, s14, s15, s16, s17, s18, s19⟩
                  go_simp
                  with_reducible rfl
                rotate_left
                · simp only [Act.put, List.setIfInBounds_toArray, List.set_cons_zero, List.set_cons_succ, i64_w, i32_w]
                  rfl
                refine take_ (i := 7) (N := some 24) (v := ?_) (a' := ?_) #[true, true, true, true, true, true, true, true, false, false] rfl rfl (take_ofW HT_.out HW_.out (by kernel_rfl)) (fun _ _ _ h => h) (Or.inl ⟨by rfl, ?_⟩) hHeld ?_ ?_
                rotate_left
                · rintro w' ⟨s0, s1, s2, s3, s4, s5, s6, s7, s8, s9, s10, s11, s12, s13, s14, s15, s16, s17, s18, s19⟩
                  go_simp
                  with_reducible rfl
                rotate_left
                · simp only [Act.put, List.setIfInBounds_toArray, List.set_cons_zero, List.set_cons_succ, i64_w, i32_w]
                  rfl
                refine one_ (i := 8) (N := some 25) #[true, true, true, true, true, true, true, true, true, false] rfl rfl (one_of HT_.out (by kernel_rfl)) (by decide) (fun K hK => ?_)
                refine goes_ Tryz.func25 (by kernel_rfl) rfl #[.agg #[.string ((rd_T36 l0 x5_1).f0), .string ((rd_T36 l0 x5_1).f1), .string ((rd_T36 l0 x5_1).f2), .string ((rd_T36 l0 x5_1).f3), .string ((rd_T36 l0 x5_1).f4), .slice A131_5 ((rd_T36 l0 x5_1).f5).length c131_5, .int .i64 ((rd_T36 l0 x5_1).f6), .int .i64 ((rd_T36 l0 x5_1).f7), .int .i64 ((rd_T36 l0 x5_1).f8), .int .i64 ((rd_T36 l0 x5_1).f9)], .agg #[.string ((rd_T36 l1 x5_1).f0), .string ((rd_T36 l1 x5_1).f1), .string ((rd_T36 l1 x5_1).f2), .string ((rd_T36 l1 x5_1).f3), .string ((rd_T36 l1 x5_1).f4), .slice A132_5 ((rd_T36 l1 x5_1).f5).length c132_5, .int .i64 ((rd_T36 l1 x5_1).f6), .int .i64 ((rd_T36 l1 x5_1).f7), .int .i64 ((rd_T36 l1 x5_1).f8), .int .i64 ((rd_T36 l1 x5_1).f9)]] (by rfl) rfl rfl (by (try simp only [List.map_toArray, List.map_cons, List.map_nil]); first | done | rfl | (simp only [List.length_drop, List.length_take]; rfl)) ?_
                with_reducible refine (customhouseref17_SameHolding.calls k1 ((rd_T36 l0 x5_1).f0) ((rd_T36 l0 x5_1).f1) ((rd_T36 l0 x5_1).f2) ((rd_T36 l0 x5_1).f3) ((rd_T36 l0 x5_1).f4) _ _ ((rd_T36 l0 x5_1).f5) ((rd_T36 l0 x5_1).f6) ((rd_T36 l0 x5_1).f7) ((rd_T36 l0 x5_1).f8) ((rd_T36 l0 x5_1).f9) ((rd_T36 l1 x5_1).f0) ((rd_T36 l1 x5_1).f1) ((rd_T36 l1 x5_1).f2) ((rd_T36 l1 x5_1).f3) ((rd_T36 l1 x5_1).f4) _ _ ((rd_T36 l1 x5_1).f5) ((rd_T36 l1 x5_1).f6) ((rd_T36 l1 x5_1).f7) ((rd_T36 l1 x5_1).f8) ((rd_T36 l1 x5_1).f9) true _ ?side1 ?side2 ?side3 ?side4 A7.out).mono ?_
                (case side1 => repeat (first | exact (Kd.C_below HR131_5.out HB.out) | (with_reducible refine Kd.C_alloc ?_ _) | (with_reducible refine Kd.C_drewN ?_ _) | (with_reducible refine Kd.C_drew ?_)))
                (case side2 => exact HC131_5.out)
                (case side3 => repeat (first | exact (Kd.C_below HR132_5.out HB.out) | (with_reducible refine Kd.C_alloc ?_ _) | (with_reducible refine Kd.C_drewN ?_ _) | (with_reducible refine Kd.C_drew ?_)))
                (case side4 => exact HC132_5.out)
                rintro e w10 ⟨rfl, hb⟩
                refine ⟨_, rfl, ?_⟩
                have n0_ := Aside0.mk (below_step (by repeat (first | (with_reducible first | exact HB.out | apply below_alloc | apply pw_below_drewN | apply below_drew1) | exact HB.out)) hb)
                clear HB
                have HB := n0_
                clear n0_
                (try clear hb)
                (try clear hb2)
                (try clear hk)
                (try clear hi)
                refine hK.out _ _ ⟨((HB.out.cell (World.block_lt_of_cell? w _ hw131_0)).trans hw131_0), ((HB.out.cell (World.block_lt_of_cell? w _ hw131_1)).trans hw131_1), ((HB.out.cell (World.block_lt_of_cell? w _ hw131_2)).trans hw131_2), ((HB.out.cell (World.block_lt_of_cell? w _ hw131_3)).trans hw131_3), ((HB.out.cell (World.block_lt_of_cell? w _ hw131_4)).trans hw131_4), ((HB.out.cell (World.block_lt_of_cell? w _ hw131_5)).trans hw131_5), ((HB.out.cell (World.block_lt_of_cell? w _ hw131_6)).trans hw131_6), ((HB.out.cell (World.block_lt_of_cell? w _ hw131_7)).trans hw131_7), ((HB.out.cell (World.block_lt_of_cell? w _ hw131_8)).trans hw131_8), ((HB.out.cell (World.block_lt_of_cell? w _ hw131_9)).trans hw131_9), ((HB.out.cell (World.block_lt_of_cell? w _ hw132_0)).trans hw132_0), ((HB.out.cell (World.block_lt_of_cell? w _ hw132_1)).trans hw132_1), ((HB.out.cell (World.block_lt_of_cell? w _ hw132_2)).trans hw132_2), ((HB.out.cell (World.block_lt_of_cell? w _ hw132_3)).trans hw132_3), ((HB.out.cell (World.block_lt_of_cell? w _ hw132_4)).trans hw132_4), ((HB.out.cell (World.block_lt_of_cell? w _ hw132_5)).trans hw132_5), ((HB.out.cell (World.block_lt_of_cell? w _ hw132_6)).trans hw132_6), ((HB.out.cell (World.block_lt_of_cell? w _ hw132_7)).trans hw132_7), ((HB.out.cell (World.block_lt_of_cell? w _ hw132_8)).trans hw132_8), ((HB.out.cell (World.block_lt_of_cell? w _ hw132_9)).trans hw132_9)⟩ (fun hHeld => ?_)
                clear hK K
                refine norm_ (a' := ?_) ?_ ?_
                rotate_left
                · show Act.put _ (some 25) _ = _
                  simp only [Act.put, List.setIfInBounds_toArray, List.set_cons_zero, List.set_cons_succ, i64_w, i32_w]
                  rfl
                refine pure_ (i := 9) (N := some 26) (v := ?_) (a' := ?_) #[true, true, true, true, true, true, true, true, true, true] rfl rfl (any_of HT_.out (by kernel_rfl)) (fun _ _ _ h => h) (Or.inl ⟨by rfl, ?_⟩) ?_ ?_
                rotate_left
                · intro w'
                  go_simp
                  with_reducible rfl
                rotate_left
                · simp only [Act.put, List.setIfInBounds_toArray, List.set_cons_zero, List.set_cons_succ, i64_w, i32_w]
                  rfl
                refine done_ (done_of HT_.out (by kernel_rfl)) ?_
                try go_wp2
                go_roundg k1
                case measure => have := HK1.out; omega
                case rel => exact ⟨(wrap64 (x5_1 + 1)), (by first | rfl | (simp; done) | (simp [*]; done)), H', ⟨by have := HK1.out; omega⟩, ⟨by repeat (first | (with_reducible first | exact HB.out | apply below_alloc | apply pw_below_drewN | apply below_drew1) | exact HB.out)⟩⟩
              · replace c8 := Bool.eq_false_iff.mpr c8
                subst c8
                have H1 : (some false) = some r := by rw [if_neg (show ¬ (false = true) by decide)] at H; exact H
                clear H
                have H := H1
                clear H1
                obtain rfl := Option.some.inj H
                try go_wp2
                have n0_ := Aside0.mk (below_drew1 HB.out)
                clear HB
                have HB := n0_
                clear n0_
                have p131 : 0 ≤ (x5_1 : Int) := of_decide_eq_true (by first | (with_reducible assumption) | assumption)
                have q131 : x5_1 < (l0.length : Int) := of_decide_eq_true (by first | (with_reducible assumption) | assumption)
                obtain ⟨ad131, A131_5, c131_5, e131, hx131_0, hx131_1, hx131_2, hx131_3, hx131_4, hx131_5, hx131_6, hx131_7, hx131_8, hx131_9, hl131_5, hi131_5⟩ := at_T36 HR0.out x5_1 p131 q131
                have hw131_9 := hx131_9
                have hw131_8 := hx131_8
                have hw131_7 := hx131_7
                have hw131_6 := hx131_6
                have hw131_5 := hx131_5
                have hw131_4 := hx131_4
                have hw131_3 := hx131_3
                have hw131_2 := hx131_2
                have hw131_1 := hx131_1
                have hw131_0 := hx131_0
                cases e131
                replace hx131_0 := (HB.out.cell (World.block_lt_of_cell? w _ hx131_0)).trans hx131_0
                replace hx131_1 := (HB.out.cell (World.block_lt_of_cell? w _ hx131_1)).trans hx131_1
                replace hx131_2 := (HB.out.cell (World.block_lt_of_cell? w _ hx131_2)).trans hx131_2
                replace hx131_3 := (HB.out.cell (World.block_lt_of_cell? w _ hx131_3)).trans hx131_3
                replace hx131_4 := (HB.out.cell (World.block_lt_of_cell? w _ hx131_4)).trans hx131_4
                replace hx131_5 := (HB.out.cell (World.block_lt_of_cell? w _ hx131_5)).trans hx131_5
                replace hx131_6 := (HB.out.cell (World.block_lt_of_cell? w _ hx131_6)).trans hx131_6
                replace hx131_7 := (HB.out.cell (World.block_lt_of_cell? w _ hx131_7)).trans hx131_7
                replace hx131_8 := (HB.out.cell (World.block_lt_of_cell? w _ hx131_8)).trans hx131_8
                replace hx131_9 := (HB.out.cell (World.block_lt_of_cell? w _ hx131_9)).trans hx131_9
                have HR131_5 := Aside0.mk hi131_5
                have HC131_5 := Aside0.mk hl131_5
                clear hi131_5 hl131_5
                replace p131 := eq_true p131
                replace q131 := eq_true q131
                have p132 : 0 ≤ (x5_1 : Int) := of_decide_eq_true (by first | (with_reducible assumption) | assumption)
                have q132 : x5_1 < (l1.length : Int) := of_decide_eq_true (by first | (with_reducible assumption) | assumption)
                obtain ⟨ad132, A132_5, c132_5, e132, hx132_0, hx132_1, hx132_2, hx132_3, hx132_4, hx132_5, hx132_6, hx132_7, hx132_8, hx132_9, hl132_5, hi132_5⟩ := at_T36 HR1.out x5_1 p132 q132
                have hw132_9 := hx132_9
                have hw132_8 := hx132_8
                have hw132_7 := hx132_7
                have hw132_6 := hx132_6
                have hw132_5 := hx132_5
                have hw132_4 := hx132_4
                have hw132_3 := hx132_3
                have hw132_2 := hx132_2
                have hw132_1 := hx132_1
                have hw132_0 := hx132_0
                cases e132
                replace hx132_0 := (HB.out.cell (World.block_lt_of_cell? w _ hx132_0)).trans hx132_0
                replace hx132_1 := (HB.out.cell (World.block_lt_of_cell? w _ hx132_1)).trans hx132_1
                replace hx132_2 := (HB.out.cell (World.block_lt_of_cell? w _ hx132_2)).trans hx132_2
                replace hx132_3 := (HB.out.cell (World.block_lt_of_cell? w _ hx132_3)).trans hx132_3
                replace hx132_4 := (HB.out.cell (World.block_lt_of_cell? w _ hx132_4)).trans hx132_4
                replace hx132_5 := (HB.out.cell (World.block_lt_of_cell? w _ hx132_5)).trans hx132_5
                replace hx132_6 := (HB.out.cell (World.block_lt_of_cell? w _ hx132_6)).trans hx132_6
                replace hx132_7 := (HB.out.cell (World.block_lt_of_cell? w _ hx132_7)).trans hx132_7
                replace hx132_8 := (HB.out.cell (World.block_lt_of_cell? w _ hx132_8)).trans hx132_8
                replace hx132_9 := (HB.out.cell (World.block_lt_of_cell? w _ hx132_9)).trans hx132_9
                have HR132_5 := Aside0.mk hi132_5
                have HC132_5 := Aside0.mk hl132_5
                clear hi132_5 hl132_5
                replace p132 := eq_true p132
                replace q132 := eq_true q132
                refine start_ (n := 10) (S := fun w' => w'.cell? (ad131.add ((x5_1).toNat * 10)) = some (.string ((rd_T36 l0 x5_1).f0)) ∧ w'.cell? ⟨(ad131.add ((x5_1).toNat * 10)).block, (ad131.add ((x5_1).toNat * 10)).off + 1, none⟩ = some (.string ((rd_T36 l0 x5_1).f1)) ∧ w'.cell? ⟨(ad131.add ((x5_1).toNat * 10)).block, (ad131.add ((x5_1).toNat * 10)).off + 2, none⟩ = some (.string ((rd_T36 l0 x5_1).f2)) ∧ w'.cell? ⟨(ad131.add ((x5_1).toNat * 10)).block, (ad131.add ((x5_1).toNat * 10)).off + 3, none⟩ = some (.string ((rd_T36 l0 x5_1).f3)) ∧ w'.cell? ⟨(ad131.add ((x5_1).toNat * 10)).block, (ad131.add ((x5_1).toNat * 10)).off + 4, none⟩ = some (.string ((rd_T36 l0 x5_1).f4)) ∧ w'.cell? ⟨(ad131.add ((x5_1).toNat * 10)).block, (ad131.add ((x5_1).toNat * 10)).off + 5, none⟩ = some (.slice A131_5 ((rd_T36 l0 x5_1).f5).length c131_5) ∧ w'.cell? ⟨(ad131.add ((x5_1).toNat * 10)).block, (ad131.add ((x5_1).toNat * 10)).off + 6, none⟩ = some (.int .i64 ((rd_T36 l0 x5_1).f6)) ∧ w'.cell? ⟨(ad131.add ((x5_1).toNat * 10)).block, (ad131.add ((x5_1).toNat * 10)).off + 7, none⟩ = some (.int .i64 ((rd_T36 l0 x5_1).f7)) ∧ w'.cell? ⟨(ad131.add ((x5_1).toNat * 10)).block, (ad131.add ((x5_1).toNat * 10)).off + 8, none⟩ = some (.int .i64 ((rd_T36 l0 x5_1).f8)) ∧ w'.cell? ⟨(ad131.add ((x5_1).toNat * 10)).block, (ad131.add ((x5_1).toNat * 10)).off + 9, none⟩ = some (.int .i64 ((rd_T36 l0 x5_1).f9)) ∧ w'.cell? (ad132.add ((x5_1).toNat * 10)) = some (.string ((rd_T36 l1 x5_1).f0)) ∧ w'.cell? ⟨(ad132.add ((x5_1).toNat * 10)).block, (ad132.add ((x5_1).toNat * 10)).off + 1, none⟩ = some (.string ((rd_T36 l1 x5_1).f1)) ∧ w'.cell? ⟨(ad132.add ((x5_1).toNat * 10)).block, (ad132.add ((x5_1).toNat * 10)).off + 2, none⟩ = some (.string ((rd_T36 l1 x5_1).f2)) ∧ w'.cell? ⟨(ad132.add ((x5_1).toNat * 10)).block, (ad132.add ((x5_1).toNat * 10)).off + 3, none⟩ = some (.string ((rd_T36 l1 x5_1).f3)) ∧ w'.cell? ⟨(ad132.add ((x5_1).toNat * 10)).block, (ad132.add ((x5_1).toNat * 10)).off + 4, none⟩ = some (.string ((rd_T36 l1 x5_1).f4)) ∧ w'.cell? ⟨(ad132.add ((x5_1).toNat * 10)).block, (ad132.add ((x5_1).toNat * 10)).off + 5, none⟩ = some (.slice A132_5 ((rd_T36 l1 x5_1).f5).length c132_5) ∧ w'.cell? ⟨(ad132.add ((x5_1).toNat * 10)).block, (ad132.add ((x5_1).toNat * 10)).off + 6, none⟩ = some (.int .i64 ((rd_T36 l1 x5_1).f6)) ∧ w'.cell? ⟨(ad132.add ((x5_1).toNat * 10)).block, (ad132.add ((x5_1).toNat * 10)).off + 7, none⟩ = some (.int .i64 ((rd_T36 l1 x5_1).f7)) ∧ w'.cell? ⟨(ad132.add ((x5_1).toNat * 10)).block, (ad132.add ((x5_1).toNat * 10)).off + 8, none⟩ = some (.int .i64 ((rd_T36 l1 x5_1).f8)) ∧ w'.cell? ⟨(ad132.add ((x5_1).toNat * 10)).block, (ad132.add ((x5_1).toNat * 10)).off + 9, none⟩ = some (.int .i64 ((rd_T36 l1 x5_1).f9))) (ds := []) #[false, false, false, false, false, false, false, false, false, false] (by kernel_rfl) rfl rfl ⟨((HB.out.cell (World.block_lt_of_cell? w _ hw131_0)).trans hw131_0), ((HB.out.cell (World.block_lt_of_cell? w _ hw131_1)).trans hw131_1), ((HB.out.cell (World.block_lt_of_cell? w _ hw131_2)).trans hw131_2), ((HB.out.cell (World.block_lt_of_cell? w _ hw131_3)).trans hw131_3), ((HB.out.cell (World.block_lt_of_cell? w _ hw131_4)).trans hw131_4), ((HB.out.cell (World.block_lt_of_cell? w _ hw131_5)).trans hw131_5), ((HB.out.cell (World.block_lt_of_cell? w _ hw131_6)).trans hw131_6), ((HB.out.cell (World.block_lt_of_cell? w _ hw131_7)).trans hw131_7), ((HB.out.cell (World.block_lt_of_cell? w _ hw131_8)).trans hw131_8), ((HB.out.cell (World.block_lt_of_cell? w _ hw131_9)).trans hw131_9), ((HB.out.cell (World.block_lt_of_cell? w _ hw132_0)).trans hw132_0), ((HB.out.cell (World.block_lt_of_cell? w _ hw132_1)).trans hw132_1), ((HB.out.cell (World.block_lt_of_cell? w _ hw132_2)).trans hw132_2), ((HB.out.cell (World.block_lt_of_cell? w _ hw132_3)).trans hw132_3), ((HB.out.cell (World.block_lt_of_cell? w _ hw132_4)).trans hw132_4), ((HB.out.cell (World.block_lt_of_cell? w _ hw132_5)).trans hw132_5), ((HB.out.cell (World.block_lt_of_cell? w _ hw132_6)).trans hw132_6), ((HB.out.cell (World.block_lt_of_cell? w _ hw132_7)).trans hw132_7), ((HB.out.cell (World.block_lt_of_cell? w _ hw132_8)).trans hw132_8), ((HB.out.cell (World.block_lt_of_cell? w _ hw132_9)).trans hw132_9)⟩ (fun hHeld => ?_); refine with_tabW customhouseref17_SameHoldings.tab6 customhouseref17_SameHoldings.bits6 (fun HT_ HW_ => ?_)
                generalize wr.drew = w11 at HB HR131_5 HR132_5 hx131_0 hx131_1 hx131_2 hx131_3 hx131_4 hx131_5 hx131_6 hx131_7 hx131_8 hx131_9 hx132_0 hx132_1 hx132_2 hx132_3 hx132_4 hx132_5 hx132_6 hx132_7 hx132_8 hx132_9 hHeld ⊢
                refine pure_ (i := 0) (N := some 17) (v := ?_) (a' := ?_) #[true, false, false, false, false, false, false, false, false, false] rfl rfl (any_of HT_.out (by kernel_rfl)) (fun _ _ _ h => h) (Or.inl ⟨by rfl, ?_⟩) ?_ ?_
                rotate_left
                · intro w'
                  go_simp
                  with_reducible rfl
                rotate_left
                · simp only [Act.put, List.setIfInBounds_toArray, List.set_cons_zero, List.set_cons_succ, i64_w, i32_w]
                  rfl
                refine pure_ (i := 1) (N := some 18) (v := ?_) (a' := ?_) #[true, true, false, false, false, false, false, false, false, false] rfl rfl (any_of HT_.out (by kernel_rfl)) (fun _ _ _ h => h) (Or.inl ⟨by rfl, ?_⟩) ?_ ?_
                rotate_left
                · intro w'
                  go_simp
                  with_reducible rfl
                rotate_left
                · simp only [Act.put, List.setIfInBounds_toArray, List.set_cons_zero, List.set_cons_succ, i64_w, i32_w]
                  rfl
                refine pure_ (i := 2) (N := some 19) (v := ?_) (a' := ?_) #[true, true, true, false, false, false, false, false, false, false] rfl rfl (any_of HT_.out (by kernel_rfl)) (fun _ _ _ h => h) (Or.inl ⟨by rfl, ?_⟩) ?_ ?_
                rotate_left
                · intro w'
                  go_simp
                  with_reducible rfl
                rotate_left
                · simp only [Act.put, List.setIfInBounds_toArray, List.set_cons_zero, List.set_cons_succ, i64_w, i32_w]
                  rfl
                refine pure_ (i := 4) (N := some 21) (v := ?_) (a' := ?_) #[true, true, true, false, true, false, false, false, false, false] rfl rfl (any_of HT_.out (by kernel_rfl)) (fun _ _ _ h => h) (Or.inl ⟨by rfl, ?_⟩) ?_ ?_
                rotate_left
                · intro w'
                  go_simp
                  with_reducible rfl
                rotate_left
                · simp only [Act.put, List.setIfInBounds_toArray, List.set_cons_zero, List.set_cons_succ, i64_w, i32_w]
                  rfl
                refine pure_ (i := 5) (N := some 22) (v := ?_) (a' := ?_) #[true, true, true, false, true, true, false, false, false, false] rfl rfl (any_of HT_.out (by kernel_rfl)) (fun _ _ _ h => h) (Or.inl ⟨by rfl, ?_⟩) ?_ ?_
                rotate_left
                · intro w'
                  go_simp
                  with_reducible rfl
                rotate_left
                · simp only [Act.put, List.setIfInBounds_toArray, List.set_cons_zero, List.set_cons_succ, i64_w, i32_w]
                  rfl
                refine pure_ (i := 6) (N := some 23) (v := ?_) (a' := ?_) #[true, true, true, false, true, true, true, false, false, false] rfl rfl (any_of HT_.out (by kernel_rfl)) (fun _ _ _ h => h) (Or.inl ⟨by rfl, ?_⟩) ?_ ?_
                rotate_left
                · intro w'
                  go_simp
                  with_reducible rfl
                rotate_left
                · simp only [Act.put, List.setIfInBounds_toArray, List.set_cons_zero, List.set_cons_succ, i64_w, i32_w]
                  rfl
                refine take_ (i := 3) (N := some 20) (v := ?_) (a' := ?_) #[true, true, true, true, true, true, true, false, false, false] rfl rfl (take_ofW HT_.out HW_.out (by kernel_rfl)) (fun _ _ _ h => h) (Or.inl ⟨by rfl, ?_⟩) hHeld ?_ ?_
                rotate_left
                · rintro w' ⟨s0, s1, s2, s3, s4, s5, s6, s7, s8, s9, s10, s11, s12, s13, s14, s15, s16, s17, s18, s19⟩
                  go_simp
                  with_reducible rfl
                rotate_left
                · simp only [Act.put, List.setIfInBounds_toArray, List.set_cons_zero, List.set_cons_succ, i64_w, i32_w]
                  rfl
                refine take_ (i := 7) (N := some 24) (v := ?_) (a' := ?_) #[true, true, true, true, true, true, true, true, false, false] rfl rfl (take_ofW HT_.out HW_.out (by kernel_rfl)) (fun _ _ _ h => h) (Or.inl ⟨by rfl, ?_⟩) hHeld ?_ ?_
                rotate_left
                · rintro w' ⟨s0, s1, s2, s3, s4, s5, s6, s7, s8, s9, s10, s11, s12, s13, s14, s15, s16, s17, s18, s19⟩
                  go_simp
                  with_reducible rfl
                rotate_left
                · simp only [Act.put, List.setIfInBounds_toArray, List.set_cons_zero, List.set_cons_succ, i64_w, i32_w]
                  rfl
                refine one_ (i := 8) (N := some 25) #[true, true, true, true, true, true, true, true, true, false] rfl rfl (one_of HT_.out (by kernel_rfl)) (by decide) (fun K hK => ?_)
                refine goes_ Tryz.func25 (by kernel_rfl) rfl #[.agg #[.string ((rd_T36 l0 x5_1).f0), .string ((rd_T36 l0 x5_1).f1), .string ((rd_T36 l0 x5_1).f2), .string ((rd_T36 l0 x5_1).f3), .string ((rd_T36 l0 x5_1).f4), .slice A131_5 ((rd_T36 l0 x5_1).f5).length c131_5, .int .i64 ((rd_T36 l0 x5_1).f6), .int .i64 ((rd_T36 l0 x5_1).f7), .int .i64 ((rd_T36 l0 x5_1).f8), .int .i64 ((rd_T36 l0 x5_1).f9)], .agg #[.string ((rd_T36 l1 x5_1).f0), .string ((rd_T36 l1 x5_1).f1), .string ((rd_T36 l1 x5_1).f2), .string ((rd_T36 l1 x5_1).f3), .string ((rd_T36 l1 x5_1).f4), .slice A132_5 ((rd_T36 l1 x5_1).f5).length c132_5, .int .i64 ((rd_T36 l1 x5_1).f6), .int .i64 ((rd_T36 l1 x5_1).f7), .int .i64 ((rd_T36 l1 x5_1).f8), .int .i64 ((rd_T36 l1 x5_1).f9)]] (by rfl) rfl rfl (by (try simp only [List.map_toArray, List.map_cons, List.map_nil]); first | done | rfl | (simp only [List.length_drop, List.length_take]; rfl)) ?_
                with_reducible refine (customhouseref17_SameHolding.calls k1 ((rd_T36 l0 x5_1).f0) ((rd_T36 l0 x5_1).f1) ((rd_T36 l0 x5_1).f2) ((rd_T36 l0 x5_1).f3) ((rd_T36 l0 x5_1).f4) _ _ ((rd_T36 l0 x5_1).f5) ((rd_T36 l0 x5_1).f6) ((rd_T36 l0 x5_1).f7) ((rd_T36 l0 x5_1).f8) ((rd_T36 l0 x5_1).f9) ((rd_T36 l1 x5_1).f0) ((rd_T36 l1 x5_1).f1) ((rd_T36 l1 x5_1).f2) ((rd_T36 l1 x5_1).f3) ((rd_T36 l1 x5_1).f4) _ _ ((rd_T36 l1 x5_1).f5) ((rd_T36 l1 x5_1).f6) ((rd_T36 l1 x5_1).f7) ((rd_T36 l1 x5_1).f8) ((rd_T36 l1 x5_1).f9) false _ ?side1 ?side2 ?side3 ?side4 A7.out).mono ?_
                (case side1 => repeat (first | exact (Kd.C_below HR131_5.out HB.out) | (with_reducible refine Kd.C_alloc ?_ _) | (with_reducible refine Kd.C_drewN ?_ _) | (with_reducible refine Kd.C_drew ?_)))
                (case side2 => exact HC131_5.out)
                (case side3 => repeat (first | exact (Kd.C_below HR132_5.out HB.out) | (with_reducible refine Kd.C_alloc ?_ _) | (with_reducible refine Kd.C_drewN ?_ _) | (with_reducible refine Kd.C_drew ?_)))
                (case side4 => exact HC132_5.out)
                rintro e w12 ⟨rfl, hb⟩
                refine ⟨_, rfl, ?_⟩
                have n0_ := Aside0.mk (below_step (by repeat (first | (with_reducible first | exact HB.out | apply below_alloc | apply pw_below_drewN | apply below_drew1) | exact HB.out)) hb)
                clear HB
                have HB := n0_
                clear n0_
                (try clear hb)
                (try clear hb2)
                (try clear hk)
                (try clear hi)
                refine hK.out _ _ ⟨((HB.out.cell (World.block_lt_of_cell? w _ hw131_0)).trans hw131_0), ((HB.out.cell (World.block_lt_of_cell? w _ hw131_1)).trans hw131_1), ((HB.out.cell (World.block_lt_of_cell? w _ hw131_2)).trans hw131_2), ((HB.out.cell (World.block_lt_of_cell? w _ hw131_3)).trans hw131_3), ((HB.out.cell (World.block_lt_of_cell? w _ hw131_4)).trans hw131_4), ((HB.out.cell (World.block_lt_of_cell? w _ hw131_5)).trans hw131_5), ((HB.out.cell (World.block_lt_of_cell? w _ hw131_6)).trans hw131_6), ((HB.out.cell (World.block_lt_of_cell? w _ hw131_7)).trans hw131_7), ((HB.out.cell (World.block_lt_of_cell? w _ hw131_8)).trans hw131_8), ((HB.out.cell (World.block_lt_of_cell? w _ hw131_9)).trans hw131_9), ((HB.out.cell (World.block_lt_of_cell? w _ hw132_0)).trans hw132_0), ((HB.out.cell (World.block_lt_of_cell? w _ hw132_1)).trans hw132_1), ((HB.out.cell (World.block_lt_of_cell? w _ hw132_2)).trans hw132_2), ((HB.out.cell (World.block_lt_of_cell? w _ hw132_3)).trans hw132_3), ((HB.out.cell (World.block_lt_of_cell? w _ hw132_4)).trans hw132_4), ((HB.out.cell (World.block_lt_of_cell? w _ hw132_5)).trans hw132_5), ((HB.out.cell (World.block_lt_of_cell? w _ hw132_6)).trans hw132_6), ((HB.out.cell (World.block_lt_of_cell? w _ hw132_7)).trans hw132_7), ((HB.out.cell (World.block_lt_of_cell? w _ hw132_8)).trans hw132_8), ((HB.out.cell (World.block_lt_of_cell? w _ hw132_9)).trans hw132_9)⟩ (fun hHeld => ?_)
                clear hK K
                refine norm_ (a' := ?_) ?_ ?_
                rotate_left
                · show Act.put _ (some 25) _ = _
                  simp only [Act.put, List.setIfInBounds_toArray, List.set_cons_zero, List.set_cons_succ, i64_w, i32_w]
                  rfl
                refine pure_ (i := 9) (N := some 26) (v := ?_) (a' := ?_) #[true, true, true, true, true, true, true, true, true, true] rfl rfl (any_of HT_.out (by kernel_rfl)) (fun _ _ _ h => h) (Or.inl ⟨by rfl, ?_⟩) ?_ ?_
                rotate_left
                · intro w'
                  go_simp
                  with_reducible rfl
                rotate_left
                · simp only [Act.put, List.setIfInBounds_toArray, List.set_cons_zero, List.set_cons_succ, i64_w, i32_w]
                  rfl
                refine done_ (done_of HT_.out (by kernel_rfl)) ?_
                try go_wp2
                go_ret
                exact ⟨by first | rfl | (simp [errW_none, errW_some] <;> rfl) | (simp [*, errW_none, errW_some] <;> rfl), by repeat (first | (with_reducible first | exact HB.out | apply below_alloc | apply pw_below_drewN | apply below_drew1) | exact HB.out)⟩
            · rw [if_neg c6] at H
              exact absurd H (by simp)
          · rw [if_neg c5] at H
            exact absurd H (by simp)
        · rw [if_neg c4] at H
          have c4b0 : decide (x5_1 < (l0.length : Int)) = false := decide_eq_false c4
          clear c4
          obtain rfl := Option.some.inj H
          go_wp2
          go_ret
          exact ⟨by first | rfl | (simp [errW_none, errW_some] <;> rfl) | (simp [*, errW_none, errW_some] <;> rfl), by repeat (first | (with_reducible first | exact HB.out | apply below_alloc | apply pw_below_drewN | apply below_drew1) | exact HB.out)⟩
  · rw [if_neg c3] at H
    have c3b0 : ((l0.length : Int) == (l1.length : Int)) = false := beq_eq_false_iff_ne.mpr c3
    have c3b1 : ((l0.length : Int) != (l1.length : Int)) = true := bne_iff_ne.mpr c3
    have c3b2 : (l0.length == l1.length) = false := by first | simpa using c3 | (simp at c3 ⊢; omega)
    obtain rfl := Option.some.inj H
    go_enter Tryz.func24, Tryz.ntmps24
    go_wp2
    go_ret
    exact ⟨by first | rfl | (simp [errW_none, errW_some] <;> rfl) | (simp [*, errW_none, errW_some] <;> rfl), by repeat (first | (with_reducible first | exact HB.out | apply below_alloc | apply pw_below_drewN | apply below_drew1) | exact HB.out)⟩
end Go.Proofs.YthbcabnljcpaiaaGreatDoor.Q
