/- A part of the proof that the register's laws hold; no condition of its own. -/
import Derived.Test.YthbcabnljcpaiaaGreatDoorZB26
import Derived.Lib.SmallJoins
set_option linter.all false
namespace Go.Proofs.YthbcabnljcpaiaaGreatDoor.H
open Go.RowKit Go.Shelf Go.Lib Go.Proofs.YthbcabnljcpaiaaGreatDoorW.PrintWords Go.Proofs.YthbcabnljcpaiaaGreatDoor.Q
set_option linter.unusedVariables false
theorem decFrom_digs : ∀ (l : List UInt8) (acc : Nat), Digs l → Lib.decFrom acc l = some (dvA acc l)
  | [], acc, _ => by rw [Lib.decFrom, dvA_nil]
  | c :: l, acc, h => by
    have hc := h c List.mem_cons_self
    have hd : Lib.digitVal c = some (c.toNat - 48) := by unfold Lib.digitVal; rw [if_pos (show 48 ≤ c.toNat ∧ c.toNat ≤ 57 from hc)]
    rw [Lib.decFrom, hd, dvA_cons]
    exact decFrom_digs l _ fun d hd => h d (List.mem_cons_of_mem _ hd)
theorem atoi_nat {l : List UInt8} (h : isNat l) : Lib.atoi l = some ((dv l : Nat) : Int) := by
  obtain ⟨⟨hd, hne, _⟩, _⟩ := h
  rcases l with _ | ⟨b, r⟩
  · exact absurd rfl hne
  · have hb := hd b List.mem_cons_self
    have h1 : (b == 45) = false := by rw [beq_eq_false_iff_ne]; intro e; rw [e] at hb; exact absurd hb.1 (by decide)
    have h2 : (b == 43) = false := by rw [beq_eq_false_iff_ne]; intro e; rw [e] at hb; exact absurd hb.1 (by decide)
    unfold Lib.atoi
    simp only [h1, h2, Bool.false_eq_true, if_false]
    unfold Lib.decNat
    rw [if_neg (by simp), decFrom_digs _ _ hd]
    rfl
theorem wrap64_in (a : Int) (h : -1000000000000000000 ≤ a ∧ a ≤ 1000000000000000000) : wrap64 a = a := by unfold wrap64; omega
def unitsE (r : S40) : Int :=
  if validR r.f0 r.f1.data.toList r.f2.data.toList ∧ r.f0 = false ∧ r.f1.size ≤ 4 ∧ r.f2.size ≤ 4 ∧ dv r.f1.data.toList ≤ dv r.f2.data.toList ∧ 6000 % dv r.f2.data.toList = 0 then ((dv r.f1.data.toList * (6000 / dv r.f2.data.toList) : Nat) : Int) else 0
abbrev rcells (r : S40) : Array Value := #[.bool r.f0, .string r.f1, .string r.f2]
theorem dv_lt4 {l : List UInt8} (h : isNat l) (hl : l.length ≤ 4) : dv l < 10000 := by
  have h1 := decFrom_digs l 0 h.1.1
  have h2 := Lib.decFrom_lt l 0 _ h1
  have h3 : 10 ^ l.length ≤ 10 ^ 4 := Nat.pow_le_pow_right (by omega) hl
  unfold dv
  omega
theorem unitsE_range (r : S40) : 0 ≤ unitsE r ∧ unitsE r ≤ 6000 := by
  unfold unitsE
  split
  · rename_i h
    obtain ⟨_, _, _, _, h5, h6⟩ := h
    refine ⟨by omega, ?_⟩
    have : dv r.f1.data.toList * (6000 / dv r.f2.data.toList) ≤ dv r.f2.data.toList * (6000 / dv r.f2.data.toList) := Nat.mul_le_mul_right _ h5
    have h7 : dv r.f2.data.toList * (6000 / dv r.f2.data.toList) ≤ 6000 := Nat.mul_div_le _ _
    omega
  · omega
set_option maxRecDepth 100000 in
set_option maxHeartbeats 4000000 in
theorem units_calls (r : S40) (h1 : r.f1.size ≤ 1000000) (h2 : r.f2.size ≤ 1000000) (w : World) (ht : Tab w) :
    Calls Tryz.prog 41 #[.agg (rcells r)] w fun e w' => e = .returned (.int .i64 (unitsE r)) ∧ Below w.heap.size w w' := by
  obtain ⟨neg, s, t⟩ := r
  have R0 := Bx.new w 40 (rcells ⟨neg, s, t⟩)
  have g0 := below_alloc (Below.refl w.heap.size w) (.cells (rcells ⟨neg, s, t⟩) 40)
  have es : bs s.data.toList = s := by cases s; rfl
  have et : bs t.data.toList = t := by cases t; rfl
  have ls : s.data.toList.length = s.size := by simp
  have lt : t.data.toList.length = t.size := by simp
  have hva := valid_calls neg s.data.toList t.data.toList (by simp at h1; omega) (by simp at h2; omega) _ (ht.below g0)
  rw [es, et] at hva
  have hU : unitsE ⟨neg, s, t⟩ = if validR neg s.data.toList t.data.toList ∧ neg = false ∧ s.size ≤ 4 ∧ t.size ≤ 4 ∧ dv s.data.toList ≤ dv t.data.toList ∧ 6000 % dv t.data.toList = 0 then ((dv s.data.toList * (6000 / dv t.data.toList) : Nat) : Int) else 0 := rfl
  generalize unitsE ⟨neg, s, t⟩ = U at *
  have Hva := hid hva
  have HU := hid hU
  clear hva es et
  by_cases c1 : validR neg s.data.toList t.data.toList
  · rw [decide_eq_true c1] at Hva
    rcases neg with _ | _
    · by_cases c3 : s.size ≤ 4
      · by_cases c4 : t.size ≤ 4
        · have n1 := c1.1
          have n2 := c1.2.1
          have ha1 := fun w => Tryz.strconv_Atoi s _ (by omega) (atoi_nat n1) w
          have ha2 := fun w => Tryz.strconv_Atoi t _ (by omega) (atoi_nat n2) w
          have b1 := dv_lt4 n1 (by omega)
          have b2 := dv_lt4 n2 (by omega)
          have Ha1 := hid ha1
          have Ha2 := hid ha2
          have hy : dv t.data.toList ≠ 0 := fun e => c1.2.2.1 (by have h := numeral_eq n2.1; rw [e, dec0] at h; exact h.symm)
          generalize hX : dv s.data.toList = X at *
          generalize hY : dv t.data.toList = Y at *
          have HU2 := hid (And.intro c1 (And.intro c3 c4))
          have z1 : ¬ (4 : Int) < (s.size : Int) := by omega
          have z2 : ¬ (4 : Int) < (t.size : Int) := by omega
          clear ha1 ha2 c1 n1 n2 hX hY ls lt h1 h2 c3 c4
          have z4 : ¬ (Y : Int) = 0 := by omega
          by_cases c5 : X ≤ Y
          · have z3 : ¬ (Y : Int) < (X : Int) := by omega
            by_cases c6 : 6000 % Y = 0
            · have z6 : (6000 : Int) % (Y : Int) = 0 := by rw [show (6000 : Int) % (Y : Int) = ((6000 % Y : Nat) : Int) from rfl, c6]; rfl
              go_enter Tryz.func41, Tryz.ntmps41
              go_wp2_with (first
              | (go_at_call 69; refine Hva.out.mono ?_; rintro e w1 ⟨rfl, hb1⟩; have R1 := R0.below hb1; have cc1 := R1.cell; have l1 := R1.lt; have g1 := bseq g0 hb1)
              | (go_at_call 70; with_reducible refine (Ha1.out w1).mono ?_; rintro e w2 ⟨rfl, t2, hw2⟩; have hb2 := Joins.below_bytesWorld w1.heap.size w1 5 t2 (Nat.le_refl _); rw [← hw2] at hb2; clear hw2; have R2 := R1.below hb2; have g2 := bseq g1 hb2; have cc2 := R2.cell; have l2 := R2.lt)
              | (go_at_call 70; with_reducible refine (Ha2.out w2).mono ?_; rintro e w3 ⟨rfl, t3, hw3⟩; have hb3 := Joins.below_bytesWorld w2.heap.size w2 5 t3 (Nat.le_refl _); rw [← hw3] at hb3; clear hw3; have R3 := R2.below hb3; have g3 := bseq g2 hb3; have cc3 := R3.cell; have l3 := R3.lt))
              go_ret
              have hU1 : U = ((X * (6000 / Y) : Nat) : Int) := by rw [HU.out, if_pos ⟨HU2.out.1, by first | rfl | trivial, HU2.out.2.1, HU2.out.2.2, c5, c6⟩]
              have q1 : 6000 / Y ≤ 6000 := Nat.div_le_self _ _
              have q2 : X * (6000 / Y) ≤ 10000 * 6000 := Nat.mul_le_mul (by omega) q1
              have e1 : (6000 : Int) / (Y : Int) = ((6000 / Y : Nat) : Int) := rfl
              have e2 : (X : Int) * ((6000 / Y : Nat) : Int) = ((X * (6000 / Y) : Nat) : Int) := by push_cast; rfl
              have e3 : wrap64 ((X : Int) * ((6000 : Int) / (Y : Int))) = U := by
                rw [e1, e2, wrap64_in _ (by omega), hU1]
              refine ⟨?_, g3⟩
              rw [← e3]
              rfl
            · have z6 : ¬ (6000 : Int) % (Y : Int) = 0 := by rw [show (6000 : Int) % (Y : Int) = ((6000 % Y : Nat) : Int) from rfl]; omega
              have z7 : ((6000 : Int) % (Y : Int) != 0) = true := by rw [bne_iff_ne]; exact z6
              have Z7 := hid z7
              go_enter Tryz.func41, Tryz.ntmps41
              go_wp2_with (first
              | (go_at_call 69; refine Hva.out.mono ?_; rintro e w1 ⟨rfl, hb1⟩; have R1 := R0.below hb1; have cc1 := R1.cell; have l1 := R1.lt; have g1 := bseq g0 hb1)
              | (go_at_call 70; with_reducible refine (Ha1.out w1).mono ?_; rintro e w2 ⟨rfl, t2, hw2⟩; have hb2 := Joins.below_bytesWorld w1.heap.size w1 5 t2 (Nat.le_refl _); rw [← hw2] at hb2; clear hw2; have R2 := R1.below hb2; have g2 := bseq g1 hb2; have cc2 := R2.cell; have l2 := R2.lt)
              | (go_at_call 70; with_reducible refine (Ha2.out w2).mono ?_; rintro e w3 ⟨rfl, t3, hw3⟩; have hb3 := Joins.below_bytesWorld w2.heap.size w2 5 t3 (Nat.le_refl _); rw [← hw3] at hb3; clear hw3; have R3 := R2.below hb3; have g3 := bseq g2 hb3; have cc3 := R3.cell; have l3 := R3.lt))
              all_goals first
                | (exfalso; rename_i hh; exact absurd hh.2 (by rw [Z7.out]; decide))
                | (have hU0 : U = 0 := by rw [HU.out, if_neg (fun h => c6 h.2.2.2.2.2)]
                   go_ret
                   exact ⟨by rw [hU0]; rfl, g3⟩)
          · have z3 : (Y : Int) < (X : Int) := by omega
            go_enter Tryz.func41, Tryz.ntmps41
            go_wp2_with (first
              | (go_at_call 69; refine Hva.out.mono ?_; rintro e w1 ⟨rfl, hb1⟩; have R1 := R0.below hb1; have cc1 := R1.cell; have l1 := R1.lt; have g1 := bseq g0 hb1)
              | (go_at_call 70; with_reducible refine (Ha1.out w1).mono ?_; rintro e w2 ⟨rfl, t2, hw2⟩; have hb2 := Joins.below_bytesWorld w1.heap.size w1 5 t2 (Nat.le_refl _); rw [← hw2] at hb2; clear hw2; have R2 := R1.below hb2; have g2 := bseq g1 hb2; have cc2 := R2.cell; have l2 := R2.lt)
              | (go_at_call 70; with_reducible refine (Ha2.out w2).mono ?_; rintro e w3 ⟨rfl, t3, hw3⟩; have hb3 := Joins.below_bytesWorld w2.heap.size w2 5 t3 (Nat.le_refl _); rw [← hw3] at hb3; clear hw3; have R3 := R2.below hb3; have g3 := bseq g2 hb3; have cc3 := R3.cell; have l3 := R3.lt))
            go_ret
            have hU0 : U = 0 := by rw [HU.out, if_neg (fun h => c5 h.2.2.2.2.1)]
            exact ⟨by rw [hU0]; rfl, g3⟩
        · have z2 : (4 : Int) < (t.size : Int) := by omega
          have z1 : ¬ (4 : Int) < (s.size : Int) := by omega
          go_enter Tryz.func41, Tryz.ntmps41
          go_wp2_with (first
              | (go_at_call 69; refine Hva.out.mono ?_; rintro e w1 ⟨rfl, hb1⟩; have R1 := R0.below hb1; have cc1 := R1.cell; have l1 := R1.lt; have g1 := bseq g0 hb1))
          go_ret
          have hU0 : U = 0 := by rw [HU.out, if_neg (fun h => c4 h.2.2.2.1)]
          exact ⟨by rw [hU0]; rfl, g1⟩
      · have z1 : (4 : Int) < (s.size : Int) := by omega
        go_enter Tryz.func41, Tryz.ntmps41
        go_wp2_with (first
              | (go_at_call 69; refine Hva.out.mono ?_; rintro e w1 ⟨rfl, hb1⟩; have R1 := R0.below hb1; have cc1 := R1.cell; have l1 := R1.lt; have g1 := bseq g0 hb1))
        go_ret
        have hU0 : U = 0 := by rw [HU.out, if_neg (fun h => c3 h.2.2.1)]
        exact ⟨by rw [hU0]; rfl, g1⟩
    · go_enter Tryz.func41, Tryz.ntmps41
      go_wp2_with (first
              | (go_at_call 69; refine Hva.out.mono ?_; rintro e w1 ⟨rfl, hb1⟩; have R1 := R0.below hb1; have cc1 := R1.cell; have l1 := R1.lt; have g1 := bseq g0 hb1))
      go_ret
      have hU0 : U = 0 := by rw [HU.out, if_neg (fun h => nomatch h.2.1)]
      exact ⟨by rw [hU0]; rfl, g1⟩
  · rw [decide_eq_false c1] at Hva
    go_enter Tryz.func41, Tryz.ntmps41
    go_wp2_with (first
              | (go_at_call 69; refine Hva.out.mono ?_; rintro e w1 ⟨rfl, hb1⟩; have R1 := R0.below hb1; have cc1 := R1.cell; have l1 := R1.lt; have g1 := bseq g0 hb1))
    go_ret
    have hU0 : U = 0 := by rw [HU.out, if_neg (fun h => c1 h.1)]
    exact ⟨by rw [hU0]; rfl, g1⟩
end Go.Proofs.YthbcabnljcpaiaaGreatDoor.H
