/- A part of the proof that the register's laws hold; no condition of its own. -/
import Derived.Test.YthbcabnljcpaiaaGreatDoorZB29
set_option linter.all false
namespace Go.Proofs.YthbcabnljcpaiaaGreatDoor.H
open Go.RowKit Go.Shelf Go.Lib Go.Maps Go.Proofs.YthbcabnljcpaiaaGreatDoorW.PrintWords Go.Proofs.YthbcabnljcpaiaaGreatDoor.Q
set_option linter.unusedVariables false
abbrev nmAt (ps : List ByteArray) (i : Nat) : ByteArray := rdOf ByteArray.empty ps (i : Int)
def nmOK (ps : List ByteArray) (i : Nat) : Prop := IsId (nmAt ps i) ∧ (i = 0 ∨ (nmAt ps (i - 1)).data.toList < (nmAt ps i).data.toList)
instance (ps : List ByteArray) (i : Nat) : Decidable (nmOK ps i) := by unfold nmOK; infer_instance
def soundE (ps : List ByteArray) (lc lv : List S42) : Prop := (∀ i, i < ps.length → nmOK ps i) ∧ ps.length ≤ 60 ∧ goodE ps.length lc ∧ goodE ps.length lv
instance (ps : List ByteArray) (lc lv : List S42) : Decidable (soundE ps lc lv) := by unfold soundE; infer_instance
set_option maxRecDepth 100000 in
set_option maxHeartbeats 8000000 in
theorem sound_calls (ps : List ByteArray) (lc lv : List S42) (A0 A1 A2 : Option Addr) (c0 c1 c2 : Nat) (hM1 : ModK lc) (hM2 : ModK lv) (hps : ∀ s ∈ ps, s.size ≤ 1000000) (hl0 : ps.length ≤ 1000000) (hl1 : lc.length ≤ 1000000) (hl2 : lv.length ≤ 1000000) (w : World)
    (hC0 : Kd.C Kd.string w A0 ps.length ps) (hc0 : ps.length ≤ c0) (hC1 : Kd.C k42 w A1 lc.length lc) (hc1 : lc.length ≤ c1) (hC2 : Kd.C k42 w A2 lv.length lv) (hc2 : lv.length ≤ c2) (ht : Tab w) :
    Calls Tryz.prog 14 #[.agg #[.slice A0 ps.length c0, .slice A1 lc.length c1, .slice A2 lv.length c2]] w fun e w' => e = .returned (.bool (decide (soundE ps lc lv))) ∧ Below w.heap.size w w' := by
  have R0 := Bx.new w 25 #[.slice A0 ps.length c0, .slice A1 lc.length c1, .slice A2 lv.length c2]
  have g0 := below_alloc (Below.refl w.heap.size w) (.cells #[.slice A0 ps.length c0, .slice A1 lc.length c1, .slice A2 lv.length c2] 25)
  have Ht := hid ht
  have hen40 := enters_of Tryz.func40 (by kernel_rfl) rfl
  clear ht
  go_enter Tryz.func14, Tryz.ntmps14
  go_wp2
  go_loopg [10] ps.length (fun g v10 wr => ∃ k : Nat, v10 = .int .i64 k ∧ g + k = ps.length ∧ (∀ i, i < k → nmOK ps i) ∧ Below w.heap.size w wr ∧ Bx wr w.heap.size 25 #[.slice A0 ps.length c0, .slice A1 lc.length c1, .slice A2 lv.length c2])
  case atStart => exact ⟨0, rfl, by omega, fun i hi => by omega, g0, R0⟩
  case round =>
    obtain ⟨k, rfl, hgk, hN, hBw, hR⟩ := hrel
    have cR := hR.cell
    have lR := hR.lt
    by_cases hk : k < ps.length
    · obtain ⟨ad, rfl, a0⟩ := Kd.at_string (Kd.C_below hC0 hBw) (k : Int) (by omega) (by omega)
      simp only [Int.toNat_natCast] at a0
      have hmem : nmAt ps k ∈ ps := by simp [nmAt, rdOf, List.getD, hk]
      have hnm := isName_calls (nmAt ps k) (hps _ hmem)
      have Hnm := hid hnm
      clear hnm hmem
      have hok : nmOK ps k ↔ (IsId (nmAt ps k) ∧ (k = 0 ∨ (nmAt ps (k - 1)).data.toList < (nmAt ps k).data.toList)) := Iff.rfl
      have hno : ¬ nmOK ps k → decide (soundE ps lc lv) = false := fun h => decide_eq_false (fun e => h (e.1 k hk))
      have Hok := hid (And.intro hok hno)
      clear hok hno
      by_cases q1 : IsId (nmAt ps k)
      · rw [decide_eq_true q1] at Hnm
        by_cases k0 : k = 0
        · have HB := hid (Hok.out.1.2 ⟨q1, .inl k0⟩)
          have HNN := hid hN
          have hnk : ¬ (0 : Int) < (k : Int) := by omega
          have K0 := hid k0
          clear hN k0
          go_wp2_with (first | (go_at_call 39; refine (Hnm.out _).mono ?_; rintro e w2 ⟨rfl, hb2⟩; have h2 := hBw.trans (hb2.mono hBw.size); have R2 := hR.below hb2; have cR2 := R2.cell; have lR2 := R2.lt))
          go_roundg (ps.length - (k + 1))
          case rel => exact ⟨k + 1, by go_num, by omega, fun i hi => by rcases Nat.lt_succ_iff_lt_or_eq.1 hi with h | h; exact HNN.out i h; rw [h]; exact HB.out, h2, R2⟩
          case measure => omega
        · obtain ⟨ad', ea, a1⟩ := Kd.at_string (Kd.C_below hC0 hBw) ((k : Int) - 1) (by omega) (by omega)
          cases ea
          have k1 : (0 : Int) < (k : Int) := by omega
          have et : ((k : Int) - 1).toNat = k - 1 := by omega
          have es : ((k : Int) - 1) = ((k - 1 : Nat) : Int) := by omega
          rw [et, es] at a1
          have HNN := hid hN
          clear es et hN
          by_cases q2 : (nmAt ps (k - 1)).data.toList < (nmAt ps k).data.toList
          · have HB := hid (Hok.out.1.2 ⟨q1, .inr q2⟩)
            have e1 : Op.bytesLess (rdOf ByteArray.empty ps (k : Int)).toList (rdOf ByteArray.empty ps ((k - 1 : Nat) : Int)).toList = false := by
              rw [bytesLess_eq, Lib.toList_data, Lib.toList_data]
              exact decide_eq_false (fun h => List.lt_irrefl _ (List.lt_trans h q2))
            have e2 : ((rdOf ByteArray.empty ps (k : Int)).toList == (rdOf ByteArray.empty ps ((k - 1 : Nat) : Int)).toList) = false := by
              rw [beq_eq_false_iff_ne, Lib.toList_data, Lib.toList_data]
              intro h
              rw [show (nmAt ps k).data.toList = (nmAt ps (k - 1)).data.toList from h] at q2
              exact List.lt_irrefl _ q2
            clear q2
            go_wp2_with (first | (go_at_call 39; refine (Hnm.out _).mono ?_; rintro e w2 ⟨rfl, hb2⟩; have h2 := hBw.trans (hb2.mono hBw.size); have R2 := hR.below hb2; have cR2 := R2.cell; have lR2 := R2.lt; have a12 := cellB hb2 a1))
            go_roundg (ps.length - (k + 1))
            case rel => exact ⟨k + 1, by go_num, by omega, fun i hi => by rcases Nat.lt_succ_iff_lt_or_eq.1 hi with h | h; exact HNN.out i h; rw [h]; exact HB.out, h2, R2⟩
            case measure => omega
          · have HB := hid (Hok.out.2 (fun h => ((Hok.out.1.1 h).2).elim k0 q2))
            by_cases q3 : nmAt ps k = nmAt ps (k - 1)
            · have e2 : ((rdOf ByteArray.empty ps (k : Int)).toList == (rdOf ByteArray.empty ps ((k - 1 : Nat) : Int)).toList) = true := by
                rw [show rdOf ByteArray.empty ps (k : Int) = rdOf ByteArray.empty ps ((k - 1 : Nat) : Int) from q3]; exact beq_self_eq_true _
              clear q2 q3
              go_wp2_with (first | (go_at_call 39; refine (Hnm.out _).mono ?_; rintro e w2 ⟨rfl, hb2⟩; have h2 := hBw.trans (hb2.mono hBw.size); have R2 := hR.below hb2; have cR2 := R2.cell; have lR2 := R2.lt; have a12 := cellB hb2 a1))
              all_goals go_ret
              all_goals exact ⟨by rw [HB.out]; rfl, h2⟩
            · have e1 : Op.bytesLess (rdOf ByteArray.empty ps (k : Int)).toList (rdOf ByteArray.empty ps ((k - 1 : Nat) : Int)).toList = true := by
                rw [bytesLess_eq, Lib.toList_data, Lib.toList_data]
                refine decide_eq_true ?_
                rcases Classical.em ((nmAt ps k).data.toList < (nmAt ps (k - 1)).data.toList) with h | h
                · exact h
                · exact absurd (data_inj (List.le_antisymm (List.not_lt.1 q2) (List.not_lt.1 h))) q3
              clear q2 q3
              go_wp2_with (first | (go_at_call 39; refine (Hnm.out _).mono ?_; rintro e w2 ⟨rfl, hb2⟩; have h2 := hBw.trans (hb2.mono hBw.size); have R2 := hR.below hb2; have cR2 := R2.cell; have lR2 := R2.lt; have a12 := cellB hb2 a1))
              all_goals go_ret
              all_goals exact ⟨by rw [HB.out]; rfl, h2⟩
      · rw [decide_eq_false q1] at Hnm
        have HB := hid (Hok.out.2 (fun h => q1 (Hok.out.1.1 h).1))
        go_wp2_with (first | (go_at_call 39; refine (Hnm.out _).mono ?_; rintro e w2 ⟨rfl, hb2⟩; have h2 := hBw.trans (hb2.mono hBw.size)))
        go_ret
        exact ⟨by rw [HB.out]; rfl, h2⟩
    · obtain rfl : k = ps.length := by omega
      have ht1 := Ht.out.below hBw
      have gb := below_alloc (Below.refl wr.heap.size wr) (.cells #[.int .i64 (ps.length : Int)] 3)
      have Rq : Boxed (wr.alloc (.cells #[.int .i64 (ps.length : Int)] 3)) wr.heap.size 3 (.int .i64 (ps.length : Int)) := Boxed.new _ _ _
      have hbw1 := hBw.trans (gb.mono hBw.size)
      have h1 := fun W (h : Below (wr.alloc (.cells #[.int .i64 (ps.length : Int)] 3)).heap.size (wr.alloc (.cells #[.int .i64 (ps.length : Int)] 3)) W) => good_calls (ps.length : Int) wr.heap.size lc A1 c1 hM1 hl1 W (Kd.C_below hC1 (hbw1.trans (h.mono hbw1.size))) hc1 ((h.block wr.heap.size Rq.lt).trans Rq) ((ht1.below gb).below h)
      have h2 := fun W (h : Below (wr.alloc (.cells #[.int .i64 (ps.length : Int)] 3)).heap.size (wr.alloc (.cells #[.int .i64 (ps.length : Int)] 3)) W) => good_calls (ps.length : Int) wr.heap.size lv A2 c2 hM2 hl2 W (Kd.C_below hC2 (hbw1.trans (h.mono hbw1.size))) hc2 ((h.block wr.heap.size Rq.lt).trans Rq) ((ht1.below gb).below h)
      have hsE : soundE ps lc lv ↔ (ps.length ≤ 60 ∧ goodE ps.length lc ∧ goodE ps.length lv) := ⟨fun h => h.2, fun h => ⟨hN, h⟩⟩
      obtain ⟨W1, hW1⟩ : ∃ W1, W1 = wr.alloc (.cells #[.int .i64 (ps.length : Int)] 3) := ⟨_, rfl⟩
      rw [← hW1] at h1 h2 gb hbw1 Rq
      have RB := hR.below gb
      have cB := RB.cell
      have lB := RB.lt
      have cq := Rq.cell
      have lq := Rq.lt
      have H1 := hid (h1 W1 (Below.refl _ _))
      have H2 := hid h2
      have HS := hid hsE
      have HW1 := hid hW1
      clear h1 h2 hsE hN hW1 ht1
      go_upto_region 9 with (fail)
      rw [← HW1.out]
      by_cases d1 : ps.length ≤ 60
      · have d1' : ((ps.length : Int) ≤ 60) := by omega
        by_cases d2 : goodE ps.length lc
        · rw [decide_eq_true d2] at H1
          have hd : decide (goodE ps.length lv) = decide (soundE ps lc lv) := decide_eq_decide.2 ⟨fun h => HS.out.2 ⟨d1, d2, h⟩, fun h => (HS.out.1 h).2.2⟩
          have HD := hid hd
          have D := hid (And.intro d1 d2)
          generalize decide (goodE ps.length lv) = r at *
          clear hd d1 d2
          go_wp2_with (first | (go_at_call 40; (with_reducible refine H1.out.mono ?_); rintro e w2 ⟨rfl, hb2⟩; have R2 := RB.below hb2; have c2' := R2.cell; have l2' := R2.lt) | (go_at_call 40; (with_reducible refine (H2.out w2 hb2).mono ?_); rintro e w3 ⟨rfl, hb3⟩; have hb4 := hbw1.trans ((bseq hb2 hb3).mono hbw1.size)))
          all_goals go_ret
          all_goals exact ⟨by rw [← HD.out]; first | rfl | (simp; done), hb4⟩
        · rw [decide_eq_false d2] at H1
          have hd : decide (soundE ps lc lv) = false := decide_eq_false (fun h => d2 (HS.out.1 h).2.1)
          have HD := hid hd
          clear hd d1 d2
          go_wp2_with (first | (go_at_call 40; (with_reducible refine H1.out.mono ?_); rintro e w2 ⟨rfl, hb2⟩; have R2 := RB.below hb2; have c2' := R2.cell; have l2' := R2.lt; have hb4 := hbw1.trans (hb2.mono hbw1.size)))
          all_goals go_ret
          all_goals exact ⟨by rw [HD.out]; first | rfl | (simp; done), hb4⟩
      · have d1' : ¬ ((ps.length : Int) ≤ 60) := by omega
        have hd : decide (soundE ps lc lv) = false := decide_eq_false (fun h => d1 (HS.out.1 h).1)
        have HD := hid hd
        clear hd d1
        go_wp2_with (fail)
        all_goals go_ret
        all_goals exact ⟨by rw [HD.out]; first | rfl | (simp; done), hbw1⟩
end Go.Proofs.YthbcabnljcpaiaaGreatDoor.H
