/- A part of the proof that the register's laws hold; no condition of its own. -/
import Derived.Test.YthbcabnljcpaiaaGreatDoorZB32
import Derived.Test.YthbcabnljcpaiaaGreatDoorZB19
set_option linter.all false
namespace Go.Proofs.YthbcabnljcpaiaaGreatDoor.H
open Go.RowKit Go.Shelf Go.Lib Go.Maps Go.Proofs.YthbcabnljcpaiaaGreatDoorW.PrintWords Go.Proofs.YthbcabnljcpaiaaGreatDoorW.PrintLast Go.Proofs.YthbcabnljcpaiaaGreatDoorW.PrintMore Go.Proofs.YthbcabnljcpaiaaGreatDoor.Q
set_option linter.unusedVariables false
def Qt (day later : Int) (x : S36) : Prop := (x.f8 ≤ day ∨ later < x.f8) ∧ (x.f9 ≤ day ∨ later < x.f9)
theorem quiet_all {l : List S36} {day later : Int} (h0 : atE l day = 0) (h1 : atE l later = 0) (hle : ¬ later < day) (hq : ∀ j : Nat, j < l.length → Qt day later (rd_T36 l (j : Int))) :
    rP l later = rP l day ∧ rC l later = rC l day ∧ rV l later = rV l day := by
  have hd : 0 ≤ day := by
    rcases atE_cases l day with ⟨_, _, h⟩ | ⟨h, _⟩
    · exact h.1
    · omega
  obtain ⟨e1, e2⟩ := quiet_law (l := l) hd (by omega : day ≤ later) fun x hx => by
    obtain ⟨j, hj, rfl⟩ := List.mem_iff_getElem.1 hx
    have := hq j hj
    rw [rd_nat hj] at this
    exact this
  unfold rP rC rV
  rw [h0, h1, e1, e2]
  exact ⟨rfl, rfl, rfl⟩
theorem endL_len (l : List S36) (id : ByteArray) (day : Int) : (endL l id day).length = l.length := by unfold endL; exact List.length_set
theorem endL_mod {l : List S36} (hM : ModL l) {id : ByteArray} {day : Int} (h : endE l id day = 0) : ModL (endL l id day) := by
  refine ⟨by rw [endL_len]; exact hM.1, fun y hy => ?_⟩
  obtain ⟨_, _, k, hk, e0, e9, e8, e⟩ := end_spec h
  rw [e] at hy
  rcases List.mem_or_eq_of_mem_set hy with h | h
  · exact hM.2 y h
  · rw [h]
    exact hM.2 l[k] (List.getElem_mem _)
set_option maxRecDepth 100000 in
set_option maxHeartbeats 16000000 in
theorem time_calls (l : List S36) (A : Option Addr) (c : Nat) (day later : Int) (id : ByteArray) (w : World) (hC : HC w A l) (hc : l.length ≤ c) (ht : Tab w) :
    Calls Tryz.prog 8 #[.slice A l.length c, .int .i64 day, .int .i64 later, .string id] w fun e w' => e = .returned (.bool true) ∧ Below w.heap.size w w' := by
  have hhd := head_calls w ht
  obtain ⟨b, hb, hfew⟩ := few_calls17 l
  have hfe := fun W (h : Below w.heap.size w W) => hfew A c W (Kd.C_below hC h) hc
  have Hhd := hid hhd
  have Hfe := hid hfe
  have Ht := hid ht
  clear hhd hfe hfew ht
  by_cases q0 : b = true ∧ ¬ later < day ∧ ¬ (60 : Int) < id.size
  rotate_left
  · rcases b with _ | _
    · go_enter Tryz.func8, Tryz.ntmps8
      go_wp2_with (first | (go_at_call 10; refine Hhd.out.mono ?_; rintro e w1 ⟨rfl, hb1⟩) | (go_at_call 12; refine (Hfe.out _ hb1).mono ?_; rintro e w2 ⟨rfl, hb2⟩; have hw2 := bseq hb1 hb2))
      go_ret
      exact ⟨rfl, hw2⟩
    · by_cases q1 : later < day
      · go_enter Tryz.func8, Tryz.ntmps8
        go_wp2_with (first | (go_at_call 10; refine Hhd.out.mono ?_; rintro e w1 ⟨rfl, hb1⟩) | (go_at_call 12; refine (Hfe.out _ hb1).mono ?_; rintro e w2 ⟨rfl, hb2⟩; have hw2 := bseq hb1 hb2))
        go_ret
        exact ⟨rfl, hw2⟩
      · have q2 : (60 : Int) < id.size := Classical.byContradiction fun h => q0 ⟨rfl, q1, h⟩
        go_enter Tryz.func8, Tryz.ntmps8
        go_wp2_with (first | (go_at_call 10; refine Hhd.out.mono ?_; rintro e w1 ⟨rfl, hb1⟩) | (go_at_call 12; refine (Hfe.out _ hb1).mono ?_; rintro e w2 ⟨rfl, hb2⟩; have hw2 := bseq hb1 hb2))
        go_ret
        exact ⟨rfl, hw2⟩
  · obtain ⟨rfl, q1, q2⟩ := q0
    obtain ⟨h20, hfx⟩ := hb rfl
    have hM := few_modL ⟨h20, hfx⟩
    clear hb
    have hq := quiet_all (l := l) (day := day) (later := later)
    have he := fun (h0 : atE l day = 0) (h1 : atE l later = 0) => And.intro h0 h1
    have hA1 := fun W (h : Below w.heap.size w W) => at_calls l A c day hM W (Kd.C_below hC h) hc (Ht.out.below h)
    have hA2 := fun W (h : Below w.heap.size w W) => at_calls l A c later hM W (Kd.C_below hC h) hc (Ht.out.below h)
    have HA1 := hid hA1
    have HA2 := hid hA2
    clear hA1 hA2
    by_cases z0 : atE l day = 0 ∧ atE l later = 0
    rotate_left
    · generalize atE l day = er1 at *
      generalize atE l later = er2 at *
      generalize rP l day = ps at *
      generalize rC l day = lc at *
      generalize rV l day = lv at *
      generalize rP l later = ps2 at *
      generalize rC l later = lc2 at *
      generalize rV l later = lv2 at *
      by_cases z1 : er1 = 0
      · have z2 : ¬ er2 = 0 := fun h => z0 ⟨z1, h⟩
        subst z1
        go_enter Tryz.func8, Tryz.ntmps8
        go_wp2_with (first | (go_at_call 10; refine Hhd.out.mono ?_; rintro e w1 ⟨rfl, hb1⟩) | (go_at_call 12; refine (Hfe.out _ hb1).mono ?_; rintro e w2 ⟨rfl, hb2⟩; have hw2 := bseq hb1 hb2) | (go_at_call 13; (with_reducible refine (HA1.out _ hw2).mono ?_); rintro e w3 ⟨s0, s1, s2, rfl, hP, hCc, hVv, hb3⟩; obtain ⟨P0, p0, rfl, hp0, P0C⟩ := hP; obtain ⟨P1, p1, rfl, hp1, P1C⟩ := hCc; obtain ⟨P2, p2, rfl, hp2, P2C⟩ := hVv; have hw3 := bseq hw2 hb3; have R3 := Bx.new w3 25 #[.slice P0 ps.length p0, .slice P1 lc.length p1, .slice P2 lv.length p2]; have g3 := below_alloc (Below.refl w3.heap.size w3) (.cells #[.slice P0 ps.length p0, .slice P1 lc.length p1, .slice P2 lv.length p2] 25); have hw3' := bseq hw3 g3) | (go_at_call 13; (with_reducible refine (HA2.out _ hw3').mono ?_); rintro e w4 ⟨s3, s4, s5, rfl, hP2, hC2, hV2, hb4⟩; obtain ⟨P3, p3, rfl, hp3, P3C⟩ := hP2; obtain ⟨P4, p4, rfl, hp4, P4C⟩ := hC2; obtain ⟨P5, p5, rfl, hp5, P5C⟩ := hV2; have R4 := R3.below hb4; have c4 := R4.cell; have l4 := R4.lt; have hw4 := bseq hw3' hb4; have g4 := below_alloc (Below.refl w4.heap.size w4) (.cells #[.slice P3 ps2.length p3, .slice P4 lc2.length p4, .slice P5 lv2.length p5] 25); have hw5 := bseq hw4 g4; have g34 := bseq (bseq g3 hb4) g4))
        go_ret
        exact ⟨rfl, hw5⟩
      · go_enter Tryz.func8, Tryz.ntmps8
        go_wp2_with (first | (go_at_call 10; refine Hhd.out.mono ?_; rintro e w1 ⟨rfl, hb1⟩) | (go_at_call 12; refine (Hfe.out _ hb1).mono ?_; rintro e w2 ⟨rfl, hb2⟩; have hw2 := bseq hb1 hb2) | (go_at_call 13; (with_reducible refine (HA1.out _ hw2).mono ?_); rintro e w3 ⟨s0, s1, s2, rfl, hP, hCc, hVv, hb3⟩; obtain ⟨P0, p0, rfl, hp0, P0C⟩ := hP; obtain ⟨P1, p1, rfl, hp1, P1C⟩ := hCc; obtain ⟨P2, p2, rfl, hp2, P2C⟩ := hVv; have hw3 := bseq hw2 hb3; have R3 := Bx.new w3 25 #[.slice P0 ps.length p0, .slice P1 lc.length p1, .slice P2 lv.length p2]; have g3 := below_alloc (Below.refl w3.heap.size w3) (.cells #[.slice P0 ps.length p0, .slice P1 lc.length p1, .slice P2 lv.length p2] 25); have hw3' := bseq hw3 g3) | (go_at_call 13; (with_reducible refine (HA2.out _ hw3').mono ?_); rintro e w4 ⟨s3, s4, s5, rfl, hP2, hC2, hV2, hb4⟩; obtain ⟨P3, p3, rfl, hp3, P3C⟩ := hP2; obtain ⟨P4, p4, rfl, hp4, P4C⟩ := hC2; obtain ⟨P5, p5, rfl, hp5, P5C⟩ := hV2; have R4 := R3.below hb4; have c4 := R4.cell; have l4 := R4.lt; have hw4 := bseq hw3' hb4; have g4 := below_alloc (Below.refl w4.heap.size w4) (.cells #[.slice P3 ps2.length p3, .slice P4 lc2.length p4, .slice P5 lv2.length p5] 25); have hw5 := bseq hw4 g4; have g34 := bseq (bseq g3 hb4) g4))
        go_ret
        exact ⟨rfl, hw5⟩
    · obtain ⟨z1, z2⟩ := z0
      have hq := quiet_all z1 z2 q1
      have hEn := fun W (h : Below w.heap.size w W) => end_calls l A c id later hM W (Kd.C_below hC h) hc
      have hA3 : endE l id later = 0 → ¬ day = later → ∀ W B n, HC W B (endL l id later) → l.length ≤ n → Below w.heap.size w W → Calls Tryz.prog 13 #[.slice B l.length n, .int .i64 day] W fun e w' => ∃ s0 s1 s2, e = .returned (.tuple #[.agg #[s0, s1, s2], .int .i64 0]) ∧ SV w' s0 (rP l day) ∧ LV w' s1 (rC l day) ∧ LV w' s2 (rV l day) ∧ Below W.heap.size W w' := fun h hd W B n hB hn hW => by
        have hr : 0 ≤ day ∧ day ≤ 100000 := by
          rcases atE_cases l day with ⟨_, _, h⟩ | ⟨h, _⟩
          · exact h
          · omega
        obtain ⟨o1, o2, o3, o4⟩ := ended_law h (by omega : day < later) hr
        have h3 := at_calls (endL l id later) B n day (endL_mod hM h) W hB (by rw [endL_len]; exact hn) (Ht.out.below hW)
        have e0 : rP (endL l id later) day = rP l day := by unfold rP; rw [o1, o2, z1]
        have e1 : rC (endL l id later) day = rC l day := by unfold rC; rw [o1, o3, z1]
        have e2 : rV (endL l id later) day = rV l day := by unfold rV; rw [o1, o4, z1]
        simp only [e0, e1, e2, o1, endL_len] at h3
        exact h3
      have hln := endL_len l id later
      obtain ⟨k0, hk0⟩ := Ev.rounds (same_refl (rP l day) (rC l day) (rV l day) (by have := rP_len l day; omega) (by have := rC_len l day (by omega); omega) (by have := rV_len l day (by omega); omega))
      rw [z1] at HA1
      rw [z2] at HA2
      generalize rP l day = ps at *
      generalize rC l day = lc at *
      generalize rV l day = lv at *
      generalize rP l later = ps2 at *
      generalize rC l later = lc2 at *
      generalize rV l later = lv2 at *
      generalize endL l id later = m at *
      generalize endE l id later = ee at *
      have HEn := hid hEn
      have HA3 := hid hA3
      have HQ := hid hq
      have HK := hid hk0
      clear hEn hA3 hq hk0 z1 z2 he
      subst_vars
      go_enter Tryz.func8, Tryz.ntmps8
      go_wp2_with (first | (go_at_call 10; refine Hhd.out.mono ?_; rintro e w1 ⟨rfl, hb1⟩) | (go_at_call 12; refine (Hfe.out _ hb1).mono ?_; rintro e w2 ⟨rfl, hb2⟩; have hw2 := bseq hb1 hb2) | (go_at_call 13; (with_reducible refine (HA1.out _ hw2).mono ?_); rintro e w3 ⟨s0, s1, s2, rfl, hP, hCc, hVv, hb3⟩; obtain ⟨P0, p0, rfl, hp0, P0C⟩ := hP; obtain ⟨P1, p1, rfl, hp1, P1C⟩ := hCc; obtain ⟨P2, p2, rfl, hp2, P2C⟩ := hVv; have hw3 := bseq hw2 hb3; have R3 := Bx.new w3 25 #[.slice P0 ps.length p0, .slice P1 lc.length p1, .slice P2 lv.length p2]; have g3 := below_alloc (Below.refl w3.heap.size w3) (.cells #[.slice P0 ps.length p0, .slice P1 lc.length p1, .slice P2 lv.length p2] 25); have hw3' := bseq hw3 g3) | (go_at_call 13; (with_reducible refine (HA2.out _ hw3').mono ?_); rintro e w4 ⟨s3, s4, s5, rfl, hP2, hC2, hV2, hb4⟩; obtain ⟨P3, p3, rfl, hp3, P3C⟩ := hP2; obtain ⟨P4, p4, rfl, hp4, P4C⟩ := hC2; obtain ⟨P5, p5, rfl, hp5, P5C⟩ := hV2; have R4 := R3.below hb4; have c4 := R4.cell; have l4 := R4.lt; have hw4 := bseq hw3' hb4; have g4 := below_alloc (Below.refl w4.heap.size w4) (.cells #[.slice P3 ps2.length p3, .slice P4 lc2.length p4, .slice P5 lv2.length p5] 25); have hw5 := bseq hw4 g4; have g34 := bseq (bseq g3 hb4) g4))
      go_loopg [14, 15] l.length (fun g v14 v15 wr => ∃ (k : Nat) (q : Bool), v14 = .bool q ∧ v15 = .int .i64 k ∧ g = l.length - k ∧ k ≤ l.length ∧ (q = true → ∀ j : Nat, j < k → Qt day later (rd_T36 l (j : Int))) ∧ Below (w4.alloc (.cells #[.slice P3 ps2.length p3, .slice P4 lc2.length p4, .slice P5 lv2.length p5] 25)).heap.size (w4.alloc (.cells #[.slice P3 ps2.length p3, .slice P4 lc2.length p4, .slice P5 lv2.length p5] 25)) wr)
      case atStart => exact ⟨0, true, rfl, rfl, by simp, by omega, fun _ j hj => by omega, Below.refl _ _⟩
      case round =>
        obtain ⟨k, q, rfl, rfl, hgk, hkl, hQ, hBr⟩ := hrel
        have hBW : Below w.heap.size w wr := bseq hw5 hBr
        by_cases hk : k < l.length
        · obtain ⟨ad, A5, c5, rfl, a0, a1, a2, a3, a4, a5, a6, a7, a8, a9, j5, J5⟩ := at36 hC hBW k hk
          obtain ⟨x, hx⟩ : ∃ x, rd_T36 l (k : Int) = x := ⟨_, rfl⟩
          rw [hx] at a8 a9
          clear a0 a1 a2 a3 a4 a5 a6 a7 j5 J5
          have et : ((k : Int)).toNat = k := by omega
          have hall : ∀ q' : Bool, (q' = true → q = true ∧ Qt day later x) → (q' = true → ∀ j : Nat, j < k + 1 → Qt day later (rd_T36 l (j : Int))) := fun q' h hq j hj => by
            rcases Nat.lt_or_ge j k with h1 | h1
            · exact hQ (h hq).1 j h1
            · have : j = k := by omega
              subst this
              rw [hx]
              exact (h hq).2
          rcases q with _ | _
          · go_wp2_with (fail)
            go_roundg (l.length - (k + 1))
            case rel => exact ⟨k + 1, false, by rfl, by go_num, rfl, by omega, hall false (fun h => by cases h), hBr⟩
            case measure => omega
          · by_cases d0 : Qt day later x
            · unfold Qt at d0
              have d1 : x.f8 ≤ day ∨ (¬ x.f8 ≤ day ∧ later < x.f8) := by omega
              have d2 : x.f9 ≤ day ∨ (¬ x.f9 ≤ day ∧ later < x.f9) := by omega
              have hal := hall true (fun _ => ⟨rfl, d0⟩)
              rcases d1 with d1 | ⟨d1, d1'⟩ <;> rcases d2 with d2 | ⟨d2, d2'⟩
              all_goals
                go_wp2_with (fail)
                go_roundg (l.length - (k + 1))
                case rel => exact ⟨k + 1, true, by rfl, by go_num, rfl, by omega, fun _ => hal trivial, hBr⟩
                case measure => omega
            · have hal := hall false (fun h => by cases h)
              have d1 : (¬ x.f8 ≤ day ∧ ¬ later < x.f8) ∨ ((x.f8 ≤ day ∨ (¬ x.f8 ≤ day ∧ later < x.f8)) ∧ ¬ x.f9 ≤ day ∧ ¬ later < x.f9) := by unfold Qt at d0; omega
              rcases d1 with ⟨d1, d2⟩ | ⟨d1 | ⟨d1, d2⟩, d3, d4⟩
              all_goals
                go_wp2_with (fail)
                go_roundg (l.length - (k + 1))
                case rel => exact ⟨k + 1, false, by rfl, by go_num, rfl, by omega, hal, hBr⟩
                case measure => omega
        · obtain rfl : k = l.length := by omega
          have RA := ((Bx.below (Bx.below R4 g4) hBr))
          have RB := (Bx.below (Bx.new w4 25 #[.slice P3 ps2.length p3, .slice P4 lc2.length p4, .slice P5 lv2.length p5]) hBr)
          have cA := RA.cell
          have lA := RA.lt
          have cB := RB.cell
          have lB := RB.lt
          have gA := bseq g34 hBr
          have gB := bseq g4 hBr
          have hln2 := hln
          have Hln := hid hln2
          clear hln hln2
          rcases q with _ | _
          · have hBWB := hBW
            by_cases e0 : ee = 0 ∧ ¬ day = later
            rotate_left
            · by_cases e1 : ee = 0
              · have e2 : day = later := Classical.byContradiction fun h => e0 ⟨e1, h⟩
                go_wp2_with (first | (go_at_call 19; refine (HEn.out _ hBWB).mono ?_; rintro e w6 ⟨v6, rfl, hN6, hb6⟩; have hw6 := bseq hBWB hb6))
                go_ret
                exact ⟨rfl, hw6⟩
              · go_wp2_with (first | (go_at_call 19; refine (HEn.out _ hBWB).mono ?_; rintro e w6 ⟨v6, rfl, hN6, hb6⟩; have hw6 := bseq hBWB hb6))
                go_ret
                exact ⟨rfl, hw6⟩
            · obtain ⟨rfl, e1⟩ := e0
              have ha4 := HA3.out rfl e1
              have HA4 := hid ha4
              clear ha4 HA3
              go_wp2_with (first | (go_at_call 19; refine (HEn.out _ hBWB).mono ?_; rintro e w6 ⟨v6, rfl, hN6, hb6⟩; have hw6 := bseq hBWB hb6; (first | rw [if_pos rfl] at hN6 | rw [if_pos trivial] at hN6); obtain ⟨A6, n6, hv6, hl6, hC6⟩ := hN6.shape; rw [Hln.out] at hv6; subst hv6; have hl6' : l.length ≤ n6 := Hln.out ▸ hl6; have R6 := RA.below hb6) | (go_at_call 13; have h13 := HA4.out w6 A6 n6 hC6 hl6' hw6; (with_reducible refine h13.mono ?_); rintro e w7 ⟨s6, s7, s8, rfl, hP, hCc, hVv, hb7⟩; obtain ⟨P6, p6, rfl, hp6, P6C⟩ := hP; obtain ⟨P7, p7, rfl, hp7, P7C⟩ := hCc; obtain ⟨P8, p8, rfl, hp8, P8C⟩ := hVv; have hw7 := bseq hw6 hb7; have R7 := R6.below hb7; have c7 := R7.cell; have l7 := R7.lt; have g7 := below_alloc (Below.refl w7.heap.size w7) (.cells #[.slice P6 ps.length p6, .slice P7 lc.length p7, .slice P8 lv.length p8] 25); have gA7 := bseq (bseq (bseq gA hb6) hb7) g7; have hw7' := bseq hw7 g7) | (go_at_call 16; (with_reducible refine (customhouseref17_Same.calls k0 P0 p0 ps P1 p1 lc P2 p2 lv P6 p6 ps P7 p7 lc P8 p8 lv true _ (Kd.C_below P0C gA7) hp0 (Kd.C_below P1C gA7) hp1 (Kd.C_below P2C gA7) hp2 (Kd.C_below P6C g7) hp6 (Kd.C_below P7C g7) hp7 (Kd.C_below P8C g7) hp8 HK.out).mono ?_); rintro e w8 ⟨rfl, hb8⟩; have hw8 := bseq hw7' hb8))
              go_ret
              exact ⟨rfl, hw8⟩
          · obtain ⟨y1, y2, y3⟩ := HQ.out (hQ rfl)
            have y1' := y1.symm
            have y2' := y2.symm
            have y3' := y3.symm
            clear y1 y2 y3
            subst y1' y2' y3'
            by_cases e0 : ee = 0 ∧ ¬ day = later
            rotate_left
            · by_cases e1 : ee = 0
              · have e2 : day = later := Classical.byContradiction fun h => e0 ⟨e1, h⟩
                go_wp2_with (first | (go_at_call 16; (with_reducible refine (customhouseref17_Same.calls k0 P0 p0 ps P1 p1 lc P2 p2 lv P3 p3 ps P4 p4 lc P5 p5 lv true _ (Kd.C_below P0C gA) hp0 (Kd.C_below P1C gA) hp1 (Kd.C_below P2C gA) hp2 (Kd.C_below P3C gB) hp3 (Kd.C_below P4C gB) hp4 (Kd.C_below P5C gB) hp5 HK.out).mono ?_); rintro e w5 ⟨rfl, hb5⟩; have hBWB := bseq hBW hb5; have R5 := RA.below hb5; have gA5 := bseq gA hb5) | (go_at_call 19; refine (HEn.out _ hBWB).mono ?_; rintro e w6 ⟨v6, rfl, hN6, hb6⟩; have hw6 := bseq hBWB hb6))
                go_ret
                exact ⟨rfl, hw6⟩
              · go_wp2_with (first | (go_at_call 16; (with_reducible refine (customhouseref17_Same.calls k0 P0 p0 ps P1 p1 lc P2 p2 lv P3 p3 ps P4 p4 lc P5 p5 lv true _ (Kd.C_below P0C gA) hp0 (Kd.C_below P1C gA) hp1 (Kd.C_below P2C gA) hp2 (Kd.C_below P3C gB) hp3 (Kd.C_below P4C gB) hp4 (Kd.C_below P5C gB) hp5 HK.out).mono ?_); rintro e w5 ⟨rfl, hb5⟩; have hBWB := bseq hBW hb5; have R5 := RA.below hb5; have gA5 := bseq gA hb5) | (go_at_call 19; refine (HEn.out _ hBWB).mono ?_; rintro e w6 ⟨v6, rfl, hN6, hb6⟩; have hw6 := bseq hBWB hb6))
                go_ret
                exact ⟨rfl, hw6⟩
            · obtain ⟨rfl, e1⟩ := e0
              have ha4 := HA3.out rfl e1
              have HA4 := hid ha4
              clear ha4 HA3
              go_wp2_with (first | (go_at_call 16; (with_reducible refine (customhouseref17_Same.calls k0 P0 p0 ps P1 p1 lc P2 p2 lv P3 p3 ps P4 p4 lc P5 p5 lv true _ (Kd.C_below P0C gA) hp0 (Kd.C_below P1C gA) hp1 (Kd.C_below P2C gA) hp2 (Kd.C_below P3C gB) hp3 (Kd.C_below P4C gB) hp4 (Kd.C_below P5C gB) hp5 HK.out).mono ?_); rintro e w5 ⟨rfl, hb5⟩; have hBWB := bseq hBW hb5; have R5 := RA.below hb5; have gA5 := bseq gA hb5) | (go_at_call 19; refine (HEn.out _ hBWB).mono ?_; rintro e w6 ⟨v6, rfl, hN6, hb6⟩; have hw6 := bseq hBWB hb6; (first | rw [if_pos rfl] at hN6 | rw [if_pos trivial] at hN6); obtain ⟨A6, n6, hv6, hl6, hC6⟩ := hN6.shape; rw [Hln.out] at hv6; subst hv6; have hl6' : l.length ≤ n6 := Hln.out ▸ hl6; have R6 := R5.below hb6) | (go_at_call 13; have h13 := HA4.out w6 A6 n6 hC6 hl6' hw6; (with_reducible refine h13.mono ?_); rintro e w7 ⟨s6, s7, s8, rfl, hP, hCc, hVv, hb7⟩; obtain ⟨P6, p6, rfl, hp6, P6C⟩ := hP; obtain ⟨P7, p7, rfl, hp7, P7C⟩ := hCc; obtain ⟨P8, p8, rfl, hp8, P8C⟩ := hVv; have hw7 := bseq hw6 hb7; have R7 := R6.below hb7; have c7 := R7.cell; have l7 := R7.lt; have g7 := below_alloc (Below.refl w7.heap.size w7) (.cells #[.slice P6 ps.length p6, .slice P7 lc.length p7, .slice P8 lv.length p8] 25); have gA7 := bseq (bseq (bseq gA5 hb6) hb7) g7; have hw7' := bseq hw7 g7) | (go_at_call 16; (with_reducible refine (customhouseref17_Same.calls k0 P0 p0 ps P1 p1 lc P2 p2 lv P6 p6 ps P7 p7 lc P8 p8 lv true _ (Kd.C_below P0C gA7) hp0 (Kd.C_below P1C gA7) hp1 (Kd.C_below P2C gA7) hp2 (Kd.C_below P6C g7) hp6 (Kd.C_below P7C g7) hp7 (Kd.C_below P8C g7) hp8 HK.out).mono ?_); rintro e w8 ⟨rfl, hb8⟩; have hw8 := bseq hw7' hb8))
              go_ret
              exact ⟨rfl, hw8⟩
end Go.Proofs.YthbcabnljcpaiaaGreatDoor.H
