/- A part of the proof that the register's laws hold; no condition of its own. -/
import Derived.Test.YthbcabnljcpaiaaGreatDoorZB09
import Derived.Deep.LoopGhost
set_option linter.all false
namespace Go.Proofs.YthbcabnljcpaiaaGreatDoor.H
open Go.RowKit Go.Shelf Go.Proofs.YthbcabnljcpaiaaGreatDoorW.PrintWords
set_option linter.unusedVariables false
theorem Num.shape {W : World} {v : Value} {xs : List Int} (h : Num W v xs) : ∃ A n c, v = .slice A n c ∧ n = xs.length := by
  obtain ⟨A, c, e, _⟩ := h
  exact ⟨A, _, c, e, rfl⟩
theorem limbs_len_pos {n : Nat} (h : 0 < n) : 0 < (limbs n).length := by rw [limbs_pos (by omega)]; simp
set_option maxRecDepth 100000 in
set_option maxHeartbeats 4000000 in
theorem gcd_calls (a b : Nat) (hla : (limbs a).length ≤ 1000000) (hlb : (limbs b).length ≤ 1000000) (v u : Value) (w : World) (hv : Num w v (limbs a)) (hu : Num w u (limbs b)) :
    Calls Tryz.prog 126 #[v, u] w fun e w' => ∃ r, e = .returned r ∧ Num w' r (limbs (Nat.gcd a b)) ∧ Below w.heap.size w w' := by
  go_enter Tryz.func126, Tryz.ntmps126
  go_wp2
  go_loopg [0, 1] b (fun y v0 v1 wr => ∃ x, Nat.gcd x y = Nat.gcd a b ∧ Num wr v0 (limbs x) ∧ Num wr v1 (limbs y) ∧ (limbs x).length ≤ 1000000 ∧ (limbs y).length ≤ 1000000 ∧ Below w.heap.size w wr)
  case atStart => exact ⟨a, rfl, hv, hu, hla, hlb, Below.refl _ _⟩
  case round =>
    obtain ⟨x, hg, n0, n1, hlx, hly, hB⟩ := hrel
    obtain ⟨A0, m0, c0, rfl, -⟩ := n0.shape
    obtain ⟨A1, m1, c1, rfl, hm1⟩ := n1.shape
    have Hg := Lib.hid hg
    clear hg
    by_cases hy : gk = 0
    · have h0 : m1 = 0 := by rw [hm1, hy, limbs_zero]; rfl
      have Hm1 := Lib.hid hm1
      have Hy := Lib.hid hy
      clear hm1 hy
      subst h0
      go_wp2
      go_ret
      refine ⟨_, rfl, ?_, hB⟩
      have h1 := Hg.out
      rw [Hy.out, Nat.gcd_zero_right] at h1
      rw [← h1]
      exact n0
    · have hp : 0 < gk := by omega
      have h0 : 0 < m1 := by rw [hm1]; exact limbs_len_pos hp
      have Hm1 := Lib.hid hm1
      clear hm1 hy
      go_wp2_with (go_at_call 148; refine (div_calls x gk hp hlx hly _ _ _ n0 n1).mono ?_; rintro e w1 ⟨q, r, rfl, hq, hr, hb⟩)
      have hmod := Nat.mod_lt x hp
      go_roundg (x % gk)
      case rel => exact ⟨gk, by rw [← Hg.out, Nat.gcd_comm x gk, Nat.gcd_rec gk x, Nat.gcd_comm], n1.below hb, hr, hly, Nat.le_trans (limbs_len_le (by omega)) hly, hB.trans (hb.mono hB.size)⟩
      case measure => exact hmod
end Go.Proofs.YthbcabnljcpaiaaGreatDoor.H
