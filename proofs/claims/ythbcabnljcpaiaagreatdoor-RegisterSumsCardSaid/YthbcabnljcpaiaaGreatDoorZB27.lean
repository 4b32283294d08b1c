/- A part of the proof that the register's laws hold; no condition of its own. -/
import Derived.Test.YthbcabnljcpaiaaGreatDoorZB26
set_option linter.all false
namespace Go.Proofs.YthbcabnljcpaiaaGreatDoor.H
open Go.RowKit Go.Shelf Go.Lib Go.Maps Go.WideElems Go.MapKept Go.Proofs.YthbcabnljcpaiaaGreatDoorW.PrintWords Go.Proofs.YthbcabnljcpaiaaGreatDoor.Q
set_option linter.unusedVariables false
def LV (W : World) (v : Value) (l : List S42) : Prop := ∃ A c, v = .slice A l.length c ∧ l.length ≤ c ∧ Kd.C k42 W A l.length l
theorem LV.below {w W : World} {v : Value} {l : List S42} (h : LV w v l) (hb : Below w.heap.size w W) : LV W v l := by
  obtain ⟨A, c, e, hl, hC⟩ := h
  exact ⟨A, c, e, hl, Kd.C_below hC hb⟩
theorem LV.nil (W : World) : LV W (.slice none 0 0) [] := LN.shape (base := 0) (Kd.N_nil _ _ _ _ _)
theorem SV.nil (W : World) : SV W (.slice none 0 0) [] := by
  obtain ⟨A, c, e, hl, hC⟩ := Kd.N_V (base' := 0) (Kd.N_nil Kd.string 9 W 0 (fun _ => True))
  exact ⟨A, c, e, hl, Kd.F_now hC⟩
def rP (l : List S36) (day : Int) : List ByteArray := if atE l day = 0 then partiesOf l else []
def rC (l : List S36) (day : Int) : List S42 := if atE l day = 0 then (atC l day).map linkS else []
def rV (l : List S36) (day : Int) : List S42 := if atE l day = 0 then (atV l day).map linkS else []
theorem SC_set {W : World} {A : Option Addr} {xs : List ByteArray} {b t : Nat} {cs : Array Value} (h : Kd.C Kd.string W A xs.length xs) (hB : Bx W b t cs) (hcs : ∀ (j : Nat) (s : ByteArray), cs[j]? ≠ some (.string s)) (j : Nat) (u : Value) : Kd.C Kd.string (W.setCell ⟨b, j, none⟩ u) A xs.length xs := by
  have hr := Kd.reads_of_C (enc := Value.string) (d := ByteArray.empty) (h1 := fun _ => rfl) h
  refine Kd.C_of_reads (d := ByteArray.empty) (h1 := fun _ => rfl) ⟨hr.1, hr.2.1, fun hn => ?_⟩
  obtain ⟨ad, ea, hc⟩ := hr.2.2 hn
  refine ⟨ad, ea, fun i hi => ?_⟩
  have h1 := hc i hi
  have hne : (ad.add i).block ≠ b := by
    intro e
    have h2 := h1
    unfold Bx at hB
    unfold World.cell? at h2
    rw [e, hB] at h2
    simp only at h2
    split at h2
    · cases h2
    · exact hcs _ _ h2
  rw [← h1]
  unfold World.cell?
  rw [Below.heap_setCell W ⟨b, j, none⟩ u (ad.add i).block hne]
theorem no3 (A1 : Option Addr) (n1 c1 : Nat) (A2 : Option Addr) (n2 c2 : Nat) (A3 : Option Addr) (n3 c3 : Nat) (j : Nat) (s : ByteArray) : #[Value.slice A1 n1 c1, .slice A2 n2 c2, .slice A3 n3 c3][j]? ≠ some (.string s) := by
  rcases j with _ | _ | _ | j <;> simp
theorem lit_C (W : World) (s : ByteArray) : Kd.C Kd.string (W.alloc (.cells #[.string s] 9)) (some ⟨W.heap.size, 0, none⟩) 1 [s] := by
  have h := own_lit_of (enc := Value.string) W W.heap.size 9 [s] (Nat.le_refl _) (by simp)
  obtain ⟨A, c, e, hl, hC⟩ := SV.of_own (xs := [s]) h
  injection e with e1 e2 e3
  subst e1
  exact hC
set_option maxRecDepth 100000 in
set_option maxHeartbeats 8000000 in
theorem at_calls (l : List S36) (A : Option Addr) (c : Nat) (day : Int) (hM : ModL l) (w : World) (hC : HC w A l) (hc : l.length ≤ c) (ht : Tab w) :
    Calls Tryz.prog 13 #[.slice A l.length c, .int .i64 day] w fun e w' => ∃ s0 s1 s2, e = .returned (.tuple #[.agg #[s0, s1, s2], .int .i64 (atE l day)]) ∧ SV w' s0 (rP l day) ∧ LV w' s1 (rC l day) ∧ LV w' s2 (rV l day) ∧ Below w.heap.size w w' := by
  have hl5 := hM.1
  have hmm := @run_makeMap Tryz.prog
  have hen36 := enters_of Tryz.func36 (by kernel_rfl) rfl
  have R0 := Bx.new w 25 #[.slice none 0 0, .slice none 0 0, .slice none 0 0]
  have hB0 := below_alloc (Below.refl w.heap.size w) (.cells #[.slice none 0 0, .slice none 0 0, .slice none 0 0] 25)
  have hva := valid_calls17 l A c hM _ (Kd.C_below hC hB0) hc
  have hda := isDay_calls day
  have Hva := hid hva
  have Hda := hid hda
  clear hva hda
  by_cases hv : Valid l
  · rw [decide_eq_true hv] at Hva
    by_cases hd : 0 ≤ day ∧ day ≤ 100000
    · rw [decide_eq_true hd] at Hda
      have hE : atE l day = 0 := by unfold atE; rw [if_pos ⟨hv, hd⟩]
      have e0 : rP l day = partiesOf l := by unfold rP; rw [if_pos hE]
      have e1 : rC l day = (atC l day).map linkS := by unfold rC; rw [if_pos hE]
      have e2 : rV l day = (atV l day).map linkS := by unfold rV; rw [if_pos hE]
      rw [hE]
      have hpa := fun W (h : Below w.heap.size w W) => parties_calls l A c hM W (Kd.C_below hC h) hc
      have hI := inc_partiesOf l
      have hpl : (partiesOf l).length ≤ 60 := hv.2.2.1
      have hco : ∀ x ∈ l, x.f1 ∈ partiesOf l := fun x hx => mem_partiesOf.2 (List.mem_flatMap.2 ⟨x, hx, List.mem_cons_self⟩)
      have hwC : ∀ x ∈ l, ∀ s ∈ whoC x, s ∈ partiesOf l := fun x hx s hs => mem_partiesOf.2 (List.mem_flatMap.2 ⟨x, hx, whoC_in hv x hx s hs⟩)
      have hwV : ∀ x ∈ l, ∀ s ∈ whoV x, s ∈ partiesOf l := fun x hx s hs => mem_partiesOf.2 (List.mem_flatMap.2 ⟨x, hx, whoV_in hv x hx s hs⟩)
      obtain ⟨ps, hps⟩ : ∃ ps, ps = partiesOf l := ⟨_, rfl⟩
      have hrc : atC l day = linkL (mapL whoC (·.f6) ps day l []) := by rw [hps]; rfl
      have hrv : atV l day = linkL (mapL whoV (·.f7) ps day l []) := by rw [hps]; rfl
      rw [e0, e1, e2, hrc, hrv]
      simp only [← hps] at hpa hpl hco hwC hwV hI ⊢
      have HI := hid (And.intro hI (And.intro hco (And.intro hwC hwV)))
      have Hpa := hid hpa
      have Hv := hid hv
      have Ht := hid ht
      clear hE e0 e1 e2 hpa hd hv ht hI hco hwC hwV hps hrc hrv
      go_enter Tryz.func13, Tryz.ntmps13
      go_wp2_with (first
        | (go_at_call 22; refine Hva.out.mono ?_; rintro e w1 ⟨rfl, hb1⟩; have hw1 := bseq hB0 hb1)
        | (go_at_call 32; refine (Hda.out _).mono ?_; rintro e w2 ⟨rfl, hb2⟩; have hw2 := bseq hw1 hb2)
        | (go_at_call 33; refine (Hpa.out _ hw2).mono ?_; rintro e wp ⟨v, rfl, hsv, hb3⟩; have hwp := bseq hw2 hb3; obtain ⟨Ap, cp, rfl, hcp, hCp⟩ := hsv))
      have hs1 := hwp.size
      go_loopg [32] l.length (fun g v32 wr => ∃ k : Nat, v32 = .int .i64 k ∧ g + k = l.length ∧ AtI wp ps Ap cp wp.heap.size (wp.heap.size + 1) (wp.heap.size + 1 + 1) (wp.heap.size + 1 + 1 + 1) (mapL whoC (·.f6) ps day (l.take k) []) (mapL whoV (·.f7) ps day (l.take k) []) wr)
      case atStart =>
        have q1 := Bx.new wp 25 #[.slice Ap ps.length cp, .slice none 0 0, .slice none 0 0]
        have g1 := below_alloc (Below.refl wp.heap.size wp) (.cells #[.slice Ap ps.length cp, .slice none 0 0, .slice none 0 0] 25)
        generalize hX1 : wp.alloc (.cells #[.slice Ap ps.length cp, .slice none 0 0, .slice none 0 0] 25) = X1 at *
        have z1 : X1.heap.size = wp.heap.size + 1 := by rw [← hX1, World.size_alloc]
        have q2 : MapK (X1.alloc (.map #[] 0)) X1.heap.size [] := MapA.made X1
        have g2 := below_alloc (Below.refl X1.heap.size X1) (.map #[] 0)
        generalize hX2 : X1.alloc (.map #[] 0) = X2 at *
        have z2 : X2.heap.size = wp.heap.size + 1 + 1 := by rw [← hX2, World.size_alloc, z1]
        have q3 : MapK (X2.alloc (.map #[] 0)) X2.heap.size [] := MapA.made X2
        have g3 := below_alloc (Below.refl X2.heap.size X2) (.map #[] 0)
        generalize hX3 : X2.alloc (.map #[] 0) = X3 at *
        have z3 : X3.heap.size = wp.heap.size + 1 + 1 + 1 := by rw [← hX3, World.size_alloc, z2]
        have q4 : Boxed (X3.alloc (.cells #[.func (.func 34) #[] #[.pointer (some ⟨wp.heap.size, 0, none⟩)]] 61)) X3.heap.size 61 _ := Boxed.new _ _ _
        have g4 := below_alloc (Below.refl X3.heap.size X3) (.cells #[.func (.func 34) #[] #[.pointer (some ⟨wp.heap.size, 0, none⟩)]] 61)
        rw [z3] at q4
        rw [z1] at q2
        rw [z2] at q3
        exact ⟨0, rfl, by omega, bseq (bseq (bseq g1 g2) g3) g4, ((q1.below g2).below g3).below g4, q4, (q2.below g3).below g4, q3.below g4⟩
      case round =>
        obtain ⟨k, rfl, hgk, hA⟩ := hrel
        have hBw : Below w.heap.size w wr := hwp.trans (hA.low.mono hwp.size)
        by_cases hk : k < l.length
        · obtain ⟨ad, A5, c5, rfl, a0, a1, a2, a3, a4, a5, a6, a7, a8, a9, j5, J5⟩ := at36 hC hBw k hk
          have htk := take_rd hk
          have hmem := rd_mem hk
          generalize hx : rd_T36 l (k : Int) = x at *
          have hpx := Hv.out.1.1 x hmem
          obtain ⟨wl1, wl2⟩ := who_len hpx
          have hnum := hpx.2.2
          have hx1 := HI.out.2.1 x hmem
          have hxC := HI.out.2.2.1 x hmem
          have hxV := HI.out.2.2.2 x hmem
          have hbd := mapL_ok (who := whoC) (pc := (·.f6)) (ps := ps) (day := day) (l := l.take k) (fun y hy => by have := Hv.out.1.1 y (List.mem_of_mem_take hy); exact ⟨this.2.2.1, (who_len this).1⟩) (by rw [List.length_take]; omega) (by omega)
          have hbv := mapL_ok (who := whoV) (pc := (·.f7)) (ps := ps) (day := day) (l := l.take k) (fun y hy => by have := Hv.out.1.1 y (List.mem_of_mem_take hy); exact ⟨this.2.2.2.1, (who_len this).2⟩) (by rw [List.length_take]; omega) (by omega)
          have ht7 : mapL whoC (·.f6) ps day (l.take (k + 1)) [] = if Runs x day then addS (mapL whoC (·.f6) ps day (l.take k) []) ps x.f1 x.f6 (whoC x).length (whoC x) else mapL whoC (·.f6) ps day (l.take k) [] := by rw [htk, mapL_append]; rfl
          have ht8 : mapL whoV (·.f7) ps day (l.take (k + 1)) [] = if Runs x day then addS (mapL whoV (·.f7) ps day (l.take k) []) ps x.f1 x.f7 (whoV x).length (whoV x) else mapL whoV (·.f7) ps day (l.take k) [] := by rw [htk, mapL_append]; rfl
          obtain ⟨M7, hM7⟩ : ∃ M7, M7 = mapL whoC (·.f6) ps day (l.take k) [] := ⟨_, rfl⟩
          obtain ⟨M8, hM8⟩ : ∃ M8, M8 = mapL whoV (·.f7) ps day (l.take k) [] := ⟨_, rfl⟩
          rw [← hM7] at hA ht7 hbd
          rw [← hM8] at hA ht8 hbv
          have R1 := Bx.new wr 36 (hcells x A5 c5)
          have g1 := below_alloc (Below.refl wr.heap.size wr) (.cells (hcells x A5 c5) 36)
          have hB1 := hBw.trans (g1.mono hBw.size)
          have hA1 := hA.below g1
          have hru := runs_calls x A5 c5 day _ (Kd.C_below J5 hB1) j5
          have Hru := hid hru
          have HT := hid (And.intro ht7 ht8)
          clear hru ht7 ht8 htk hmem hx hM7 hM8
          by_cases hr : Runs x day
          · rw [decide_eq_true hr] at Hru
            rw [if_pos hr, if_pos hr] at HT
            have hlt7 := hA.m7.lt
            have hlt8 := hA.m8.lt
            have hsh7 : ∀ (W : World), AtI wp ps Ap cp wp.heap.size (wp.heap.size + 1) (wp.heap.size + 1 + 1) (wp.heap.size + 1 + 1 + 1) M7 M8 W → ∀ (A2 : Option Addr) (n c2 : Nat), n = (whoC x).length → Kd.C Kd.string W A2 (whoC x).length (whoC x) → (whoC x).length ≤ c2 → Calls Tryz.prog 36 #[.map (some (wp.heap.size + 1)), .string x.f1, .int .i64 x.f6, .slice A2 n c2, .pointer (some ⟨wp.heap.size + 1 + 1 + 1, 0, none⟩)] W fun e w' => e = .returned (.tuple #[]) ∧ AtI wp ps Ap cp wp.heap.size (wp.heap.size + 1) (wp.heap.size + 1 + 1) (wp.heap.size + 1 + 1 + 1) (addS M7 ps x.f1 x.f6 (whoC x).length (whoC x)) M8 w' ∧ W.grownBy w' (some (wp.heap.size + 1)) := fun W hI A2 n c2 hn h2 hc2 => by
              rw [hn]
              exact hI.share7 hCp hcp HI.out.1 (by omega) (by omega) (by omega) (by omega) (by omega) x.f1 x.f6 (whoC x) A2 c2 hx1 hxC hnum.1 (by omega) hbd.2.2 h2 hc2
            have hsh8 : ∀ (W : World), AtI wp ps Ap cp wp.heap.size (wp.heap.size + 1) (wp.heap.size + 1 + 1) (wp.heap.size + 1 + 1 + 1) (addS M7 ps x.f1 x.f6 (whoC x).length (whoC x)) M8 W → ∀ (A2 : Option Addr) (n c2 : Nat), n = (whoV x).length → Kd.C Kd.string W A2 (whoV x).length (whoV x) → (whoV x).length ≤ c2 → Calls Tryz.prog 36 #[.map (some (wp.heap.size + 1 + 1)), .string x.f1, .int .i64 x.f7, .slice A2 n c2, .pointer (some ⟨wp.heap.size + 1 + 1 + 1, 0, none⟩)] W fun e w' => e = .returned (.tuple #[]) ∧ AtI wp ps Ap cp wp.heap.size (wp.heap.size + 1) (wp.heap.size + 1 + 1) (wp.heap.size + 1 + 1 + 1) (addS M7 ps x.f1 x.f6 (whoC x).length (whoC x)) (addS M8 ps x.f1 x.f7 (whoV x).length (whoV x)) w' ∧ W.grownBy w' (some (wp.heap.size + 1 + 1)) := fun W hI A2 n c2 hn h2 hc2 => by
              rw [hn]
              exact hI.share8 hCp hcp HI.out.1 (by omega) (by omega) (by omega) (by omega) (by omega) x.f1 x.f7 (whoV x) A2 c2 hx1 hxV hnum.2.1 (by omega) hbv.2.2 h2 hc2
            have R1n := R1
            obtain ⟨N7, hN7⟩ : ∃ N7, N7 = addS M7 ps x.f1 x.f6 (whoC x).length (whoC x) := ⟨_, rfl⟩
            obtain ⟨N8, hN8⟩ : ∃ N8, N8 = addS M8 ps x.f1 x.f7 (whoV x).length (whoV x) := ⟨_, rfl⟩
            rw [← hN7, ← hN8] at HT
            simp only [← hN7] at hsh7 hsh8
            simp only [← hN8] at hsh8
            have hlast : ∀ (k' : Nat) (w7 : World), k' = k + 1 → AtI wp ps Ap cp wp.heap.size (wp.heap.size + 1) (wp.heap.size + 1 + 1) (wp.heap.size + 1 + 1 + 1) N7 N8 w7 → AtI wp ps Ap cp wp.heap.size (wp.heap.size + 1) (wp.heap.size + 1 + 1) (wp.heap.size + 1 + 1 + 1) (mapL whoC (·.f6) ps day (l.take k') []) (mapL whoV (·.f7) ps day (l.take k') []) w7 := fun k' w7 e h => by
              subst e
              rw [HT.out.1, HT.out.2]
              exact h
            have Hlast := hid hlast
            have Hsh7 := hid hsh7
            have Hsh8 := hid hsh8
            have hJ5 := fun W (h : Below w.heap.size w W) => Kd.C_below J5 h
            have HJ5 := hid hJ5
            have HB := hid (And.intro hBw hB1)
            have hjl : x.f5.length ≤ 4 := hpx.1.2.2.2.2.2.1
            have HA1 := hid hA1
            have HR1 := hid R1
            clear hsh7 hsh8 hJ5 J5 hN7 hN8 hlast hA hx1 hxC hxV hbd hbv R1n wl1 wl2 hnum hpx hBw hB1 g1 hA1 R1 HT
            by_cases n3 : x.f3.size = 0
            · have n3a : x.f3.toList = ([] : List UInt8) := toList_nil.2 n3
              by_cases n4 : x.f4.size = 0
              · have n4a : x.f4.toList = ([] : List UInt8) := toList_nil.2 n4
                have ew : whoC x = [x.f2] ++ x.f5 := by unfold whoC; rw [if_pos n3]; rfl
                have ev : whoV x = whoC x := by unfold whoV; rw [if_pos n4]
                rw [ev] at Hsh8
                rw [ew] at Hsh7 Hsh8
                clear n3 n4 ew ev
                obtain ⟨n7, hn7⟩ : ∃ n, n = ([x.f2] ++ x.f5).length := ⟨_, rfl⟩
                have HN := hid hn7
                clear hn7
                go_wp2_with (first
                  | (go_at_call 37; refine Hru.out.mono ?_; rintro e w2 ⟨rfl, hb2⟩; have hI2 := HA1.out.below hb2; have R2 := HR1.out.below hb2; have c2 := R2.cell; have l2 := R2.lt; have hw2 := bseq HB.out.2 hb2; have ho4 : (w2.alloc (.cells #[.string x.f2] 9)).ownsRow w2.heap.size 9 1 (.slice (some ⟨w2.heap.size, 0, none⟩) 1 1) 1 ([x.f2].map Value.string) := own_lit_of (enc := Value.string) w2 w2.heap.size 9 [x.f2] (Nat.le_refl _) (by simp); have ga2 := below_alloc (Below.refl w2.heap.size w2) (.cells #[.string x.f2] 9); obtain ⟨v5, w5, e5, ho5, hg5⟩ := appS_run (ty := 22) (.slice (some ⟨w2.heap.size, 0, none⟩) 1 1) [x.f2] x.f5 (.slice A5 x.f5.length c5) ho4 ⟨A5, c5, rfl, j5, HJ5.out _ (hw2.trans (ga2.mono hw2.size))⟩ (by simp) (by simp; omega); obtain ⟨A7, c7, hv5, hc7, C7⟩ := SV.of_own ho5; rw [← HN.out] at hv5; subst hv5; have hb25 : Below w2.heap.size w2 w5 := ga2.grown hg5 ga2.size (fun k e => by simp [Value.ownBlock] at e; omega); have hI5 := hI2.below hb25; have R5 := R2.below hb25; clear ho4 ho5 hg5 ga2)
                  | (at_builtin; refine wpList_append_eq rfl _ _ 22 rfl _ _ _ _ rfl rfl e5 ?_; have q5 := R5.cell; have m5 := R5.lt)
                  | (go_at_call 36; have hX7 := Hsh7.out w5 hI5 A7 n7 c7 HN.out C7 hc7; with_reducible refine hX7.mono ?_; rintro e w6 ⟨rfl, hI6, hg6⟩; have R6 := R5.grown hg6 (by simp; omega); have q6 := R6.cell; have m6 := R6.lt)
                  | (go_at_call 36; have hX8 := Hsh8.out w6 hI6 A7 n7 c7 HN.out (C_past_map C7 hI5.m7 hg6) hc7; with_reducible refine hX8.mono ?_; rintro e w7 ⟨rfl, hI7, hg7⟩))
                go_roundg (l.length - (k + 1))
                case rel => exact ⟨k + 1, by go_num, by omega, Hlast.out _ _ rfl hI7⟩
                case measure => omega
              · have n4a : ¬ x.f4.toList = ([] : List UInt8) := fun e => n4 (toList_nil.1 e)
                have n4b : (x.f4.toList == ([] : List UInt8)) = false := by rw [beq_eq_false_iff_ne]; exact n4a
                have ew : whoC x = [x.f2] ++ x.f5 := by unfold whoC; rw [if_pos n3]; rfl
                have ev : whoV x = [x.f4] := by unfold whoV; rw [if_neg n4]
                rw [ev] at Hsh8
                rw [ew] at Hsh7
                clear n3 n4 ew ev
                obtain ⟨n7, hn7⟩ : ∃ n, n = ([x.f2] ++ x.f5).length := ⟨_, rfl⟩
                have HN := hid hn7
                clear hn7
                go_wp2_with (first
                  | (go_at_call 37; refine Hru.out.mono ?_; rintro e w2 ⟨rfl, hb2⟩; have hI2 := HA1.out.below hb2; have R2 := HR1.out.below hb2; have c2 := R2.cell; have l2 := R2.lt; have hw2 := bseq HB.out.2 hb2; have ho4 : (w2.alloc (.cells #[.string x.f2] 9)).ownsRow w2.heap.size 9 1 (.slice (some ⟨w2.heap.size, 0, none⟩) 1 1) 1 ([x.f2].map Value.string) := own_lit_of (enc := Value.string) w2 w2.heap.size 9 [x.f2] (Nat.le_refl _) (by simp); have ga2 := below_alloc (Below.refl w2.heap.size w2) (.cells #[.string x.f2] 9); obtain ⟨v5, w5, e5, ho5, hg5⟩ := appS_run (ty := 22) (.slice (some ⟨w2.heap.size, 0, none⟩) 1 1) [x.f2] x.f5 (.slice A5 x.f5.length c5) ho4 ⟨A5, c5, rfl, j5, HJ5.out _ (hw2.trans (ga2.mono hw2.size))⟩ (by simp) (by simp; omega); obtain ⟨A7, c7, hv5, hc7, C7⟩ := SV.of_own ho5; rw [← HN.out] at hv5; subst hv5; have hb25 : Below w2.heap.size w2 w5 := ga2.grown hg5 ga2.size (fun k e => by simp [Value.ownBlock] at e; omega); have hI5 := hI2.below hb25; have R5 := R2.below hb25; clear ho4 ho5 hg5 ga2)
                  | (at_builtin; refine wpList_append_eq rfl _ _ 22 rfl _ _ _ _ rfl rfl e5 ?_; have q5 := R5.cell; have m5 := R5.lt)
                  | (go_at_call 36; have hX7 := Hsh7.out w5 hI5 A7 n7 c7 HN.out C7 hc7; with_reducible refine hX7.mono ?_; rintro e w6 ⟨rfl, hI6, hg6⟩; have R6 := R5.grown hg6 (by simp; omega); have q6 := R6.cell; have m6 := R6.lt)
                  | (go_at_call 36; have hX8 := Hsh8.out (w6.alloc (.cells #[.string x.f4] 9)) (hI6.below (below_alloc (Below.refl _ _) _)) (some ⟨w6.heap.size, 0, none⟩) 1 1 rfl (lit_C w6 x.f4) (Nat.le_refl _); with_reducible refine hX8.mono ?_; rintro e w7 ⟨rfl, hI7, hg7⟩))
                go_roundg (l.length - (k + 1))
                case rel => exact ⟨k + 1, by go_num, by omega, Hlast.out _ _ rfl hI7⟩
                case measure => omega
            · have n3a : ¬ x.f3.toList = ([] : List UInt8) := fun e => n3 (toList_nil.1 e)
              have n3b : (x.f3.toList == ([] : List UInt8)) = false := by rw [beq_eq_false_iff_ne]; exact n3a
              by_cases n4 : x.f4.size = 0
              · have n4a : x.f4.toList = ([] : List UInt8) := toList_nil.2 n4
                have ew : whoC x = [x.f3] := by unfold whoC; rw [if_neg n3]
                have ev : whoV x = whoC x := by unfold whoV; rw [if_pos n4]
                rw [ev] at Hsh8
                rw [ew] at Hsh7 Hsh8
                clear n3 n4 ew ev
                obtain ⟨n7, hn7⟩ : ∃ n, n = ([x.f2] ++ x.f5).length := ⟨_, rfl⟩
                have HN := hid hn7
                clear hn7
                go_wp2_with (first
                  | (go_at_call 37; refine Hru.out.mono ?_; rintro e w2 ⟨rfl, hb2⟩; have hI2 := HA1.out.below hb2; have R2 := HR1.out.below hb2; have c2 := R2.cell; have l2 := R2.lt; have hw2 := bseq HB.out.2 hb2; have ho4 : (w2.alloc (.cells #[.string x.f2] 9)).ownsRow w2.heap.size 9 1 (.slice (some ⟨w2.heap.size, 0, none⟩) 1 1) 1 ([x.f2].map Value.string) := own_lit_of (enc := Value.string) w2 w2.heap.size 9 [x.f2] (Nat.le_refl _) (by simp); have ga2 := below_alloc (Below.refl w2.heap.size w2) (.cells #[.string x.f2] 9); obtain ⟨v5, w5, e5, ho5, hg5⟩ := appS_run (ty := 22) (.slice (some ⟨w2.heap.size, 0, none⟩) 1 1) [x.f2] x.f5 (.slice A5 x.f5.length c5) ho4 ⟨A5, c5, rfl, j5, HJ5.out _ (hw2.trans (ga2.mono hw2.size))⟩ (by simp) (by simp; omega); obtain ⟨A7, c7, hv5, hc7, C7⟩ := SV.of_own ho5; rw [← HN.out] at hv5; subst hv5; have hb25 : Below w2.heap.size w2 w5 := ga2.grown hg5 ga2.size (fun k e => by simp [Value.ownBlock] at e; omega); have hI5 := hI2.below hb25; have R5 := R2.below hb25; clear ho4 ho5 hg5 ga2)
                  | (at_builtin; refine wpList_append_eq rfl _ _ 22 rfl _ _ _ _ rfl rfl e5 ?_; have q5 := R5.cell; have m5 := R5.lt)
                  | (go_at_call 36; have hX7 := Hsh7.out (w5.alloc (.cells #[.string x.f3] 9)) (hI5.below (below_alloc (Below.refl _ _) _)) (some ⟨w5.heap.size, 0, none⟩) 1 1 rfl (lit_C w5 x.f3) (Nat.le_refl _); with_reducible refine hX7.mono ?_; rintro e w6 ⟨rfl, hI6, hg6⟩; have R6 := (R5.below (below_alloc (Below.refl _ _) (.cells #[.string x.f3] 9))).grown hg6 (by simp; omega); have q6 := R6.cell; have m6 := R6.lt)
                  | (go_at_call 36; have hX8 := Hsh8.out w6 hI6 (some ⟨w5.heap.size, 0, none⟩) 1 1 rfl (C_past_map (lit_C w5 x.f3) (hI5.below (below_alloc (Below.refl _ _) (.cells #[.string x.f3] 9))).m7 hg6) (Nat.le_refl _); with_reducible refine hX8.mono ?_; rintro e w7 ⟨rfl, hI7, hg7⟩))
                go_roundg (l.length - (k + 1))
                case rel => exact ⟨k + 1, by go_num, by omega, Hlast.out _ _ rfl hI7⟩
                case measure => omega
              · have n4a : ¬ x.f4.toList = ([] : List UInt8) := fun e => n4 (toList_nil.1 e)
                have n4b : (x.f4.toList == ([] : List UInt8)) = false := by rw [beq_eq_false_iff_ne]; exact n4a
                have ew : whoC x = [x.f3] := by unfold whoC; rw [if_neg n3]
                have ev : whoV x = [x.f4] := by unfold whoV; rw [if_neg n4]
                rw [ev] at Hsh8
                rw [ew] at Hsh7
                clear n3 n4 ew ev
                obtain ⟨n7, hn7⟩ : ∃ n, n = ([x.f2] ++ x.f5).length := ⟨_, rfl⟩
                have HN := hid hn7
                clear hn7
                go_wp2_with (first
                  | (go_at_call 37; refine Hru.out.mono ?_; rintro e w2 ⟨rfl, hb2⟩; have hI2 := HA1.out.below hb2; have R2 := HR1.out.below hb2; have c2 := R2.cell; have l2 := R2.lt; have hw2 := bseq HB.out.2 hb2; have ho4 : (w2.alloc (.cells #[.string x.f2] 9)).ownsRow w2.heap.size 9 1 (.slice (some ⟨w2.heap.size, 0, none⟩) 1 1) 1 ([x.f2].map Value.string) := own_lit_of (enc := Value.string) w2 w2.heap.size 9 [x.f2] (Nat.le_refl _) (by simp); have ga2 := below_alloc (Below.refl w2.heap.size w2) (.cells #[.string x.f2] 9); obtain ⟨v5, w5, e5, ho5, hg5⟩ := appS_run (ty := 22) (.slice (some ⟨w2.heap.size, 0, none⟩) 1 1) [x.f2] x.f5 (.slice A5 x.f5.length c5) ho4 ⟨A5, c5, rfl, j5, HJ5.out _ (hw2.trans (ga2.mono hw2.size))⟩ (by simp) (by simp; omega); obtain ⟨A7, c7, hv5, hc7, C7⟩ := SV.of_own ho5; rw [← HN.out] at hv5; subst hv5; have hb25 : Below w2.heap.size w2 w5 := ga2.grown hg5 ga2.size (fun k e => by simp [Value.ownBlock] at e; omega); have hI5 := hI2.below hb25; have R5 := R2.below hb25; clear ho4 ho5 hg5 ga2)
                  | (at_builtin; refine wpList_append_eq rfl _ _ 22 rfl _ _ _ _ rfl rfl e5 ?_; have q5 := R5.cell; have m5 := R5.lt)
                  | (go_at_call 36; have hX7 := Hsh7.out (w5.alloc (.cells #[.string x.f3] 9)) (hI5.below (below_alloc (Below.refl _ _) _)) (some ⟨w5.heap.size, 0, none⟩) 1 1 rfl (lit_C w5 x.f3) (Nat.le_refl _); with_reducible refine hX7.mono ?_; rintro e w6 ⟨rfl, hI6, hg6⟩; have R6 := (R5.below (below_alloc (Below.refl _ _) (.cells #[.string x.f3] 9))).grown hg6 (by simp; omega); have q6 := R6.cell; have m6 := R6.lt)
                  | (go_at_call 36; have hX8 := Hsh8.out (w6.alloc (.cells #[.string x.f4] 9)) (hI6.below (below_alloc (Below.refl _ _) _)) (some ⟨w6.heap.size, 0, none⟩) 1 1 rfl (lit_C w6 x.f4) (Nat.le_refl _); with_reducible refine hX8.mono ?_; rintro e w7 ⟨rfl, hI7, hg7⟩))
                go_roundg (l.length - (k + 1))
                case rel => exact ⟨k + 1, by go_num, by omega, Hlast.out _ _ rfl hI7⟩
                case measure => omega
          · rw [decide_eq_false hr] at Hru
            go_wp2_with (first | (go_at_call 37; refine Hru.out.mono ?_; rintro e w2 ⟨rfl, hb2⟩))
            go_roundg (l.length - (k + 1))
            case rel =>
              refine ⟨k + 1, by go_num, by omega, ?_⟩
              rw [HT.out.1, HT.out.2, if_neg hr, if_neg hr]
              exact hA1.below hb2
            case measure => omega
        · obtain rfl : k = l.length := by omega
          rw [List.take_length] at hA
          have hbd := mapL_ok (who := whoC) (pc := (·.f6)) (ps := ps) (day := day) (l := l) (fun y hy => by have := Hv.out.1.1 y hy; exact ⟨this.2.2.1, (who_len this).1⟩) (by omega) (by omega)
          have hbv := mapL_ok (who := whoV) (pc := (·.f7)) (ps := ps) (day := day) (l := l) (fun y hy => by have := Hv.out.1.1 y hy; exact ⟨this.2.2.2.1, (who_len this).2⟩) (by omega) (by omega)
          obtain ⟨M7, hM7⟩ : ∃ M7, M7 = mapL whoC (·.f6) ps day l [] := ⟨_, rfl⟩
          obtain ⟨M8, hM8⟩ : ∃ M8, M8 = mapL whoV (·.f7) ps day l [] := ⟨_, rfl⟩
          rw [← hM7] at hA hbd
          rw [← hM8] at hA hbv
          have HM := hid (And.intro hM7 hM8)
          have htr := Ht.out.below hBw
          have h7 := links_calls (wp.heap.size + 1) M7 wr hA.m7 hbd.2.1 hbd.1 htr
          have h8 := fun W (h : Below wr.heap.size wr W) => links_calls (wp.heap.size + 1 + 1) M8 W (hA.m8.below h) hbv.2.1 hbv.1 (htr.below h)
          have H7 := hid h7
          have H8 := hid h8
          have RR := R0.below (hb1.trans (((hb2.trans (hb3.mono hb2.size)).trans (hA.low.mono (bseq hb2 hb3).size)).mono hb1.size))
          have hlt0 : w.heap.size < wp.heap.size := by have := R0.lt; have := hb1.size; have := hb2.size; have := hb3.size; omega
          have hne1 : ¬ w.heap.size = wp.heap.size := by omega
          have hne2 : ¬ wp.heap.size = w.heap.size := by omega
          clear hM7 hM8 h7 h8 htr hbd hbv
          go_wp2_with (first
            | (go_at_call 38; with_reducible refine H7.out.mono ?_; rintro e w7 ⟨v7, rfl, hN7, hb7⟩; obtain ⟨A7, n7, hv7, hn7, hC7⟩ := hN7.shape; subst hv7; clear hn7 hC7)
            | (go_at_call 38; with_reducible refine (H8.out w7 hb7).mono ?_; rintro e w8 ⟨v8, rfl, hN8, hb8⟩; obtain ⟨A8, n8, hv8, hn8, hC8⟩ := hN8.shape; subst hv8; clear hn8 hC8; have hb78 := bseq hb7 hb8; have hA8 := hA.below hb78; have R8 := hA8.box; have c8 := R8.cell; have f8 := R8.fz; have l8 := R8.lt; have RR8 := RR.below hb78; have cR := RR8.cell; have fR := RR8.fz; have lR := RR8.lt))
          have hb9 : Below w.heap.size w w8 := hBw.trans (hb78.mono hBw.size)
          obtain ⟨v7, hv7⟩ : ∃ v, v = Value.slice A7 (linkL M7).length n7 := ⟨_, rfl⟩
          obtain ⟨v8, hv8⟩ : ∃ v, v = Value.slice A8 (linkL M8).length n8 := ⟨_, rfl⟩
          have r0 : Row3 w8 w.heap.size 25 (.slice none 0 0) (.slice none 0 0) (.slice none 0 0) := ⟨RR8⟩
          have p0 : Row3 w8 wp.heap.size 25 (.slice Ap ps.length cp) (.slice none 0 0) (.slice none 0 0) := ⟨R8⟩
          have p1 := p0.set1 (.slice A7 (linkL M7).length n7)
          have r1 := r0.far (p := ⟨wp.heap.size, 1, none⟩) hne1 (.slice A7 (linkL M7).length n7)
          have r2 := r1.far (p := ⟨wp.heap.size, 2, none⟩) hne1 (.slice A8 (linkL M8).length n8)
          have r3 := r2.set0 (.slice Ap ps.length cp)
          have r4 := r3.set1 (.slice A7 (linkL M7).length n7)
          have r5 := r4.set2 (.slice A8 (linkL M8).length n8)
          have hlw : w.heap.size < wr.heap.size := Nat.lt_of_lt_of_le hlt0 hA.low.size
          have hlp : wp.heap.size < wr.heap.size := hA.box.lt
          refine bodyPost_ret (results_ct rfl _ _ w.heap.size 25 _ (0, 0) _ rfl r5.at_ Tryz.underlying25 rfl (by kernel_rfl)) rfl ⟨_, _, _, rfl, ⟨Ap, cp, rfl, hcp, ?_⟩, ?_, ?_, ?_⟩
          · exact SC_set (SC_set (SC_set (SC_set (SC_set (Kd.C_below hCp hA8.low) p0.at_ (no3 _ _ _ _ _ _ _ _ _) 1 _) p1.at_ (no3 _ _ _ _ _ _ _ _ _) 2 _) r2.at_ (no3 _ _ _ _ _ _ _ _ _) 0 _) r3.at_ (no3 _ _ _ _ _ _ _ _ _) 1 _) r4.at_ (no3 _ _ _ _ _ _ _ _ _) 2 _
          · have h := (((((hN7.below hb8).set hlp 1 (.slice A7 (linkL M7).length n7)).set hlp 2 (.slice A8 (linkL M8).length n8)).set hlw 0 (.slice Ap ps.length cp)).set hlw 1 (.slice A7 (linkL M7).length n7)).set hlw 2 (.slice A8 (linkL M8).length n8)
            rw [List.length_map] at h
            rw [← HM.out.1]
            exact h.shape
          · have hb7s : wr.heap.size ≤ w7.heap.size := hb7.size
            have h := ((((hN8.set (Nat.lt_of_lt_of_le hlp hb7s) 1 (.slice A7 (linkL M7).length n7)).set (Nat.lt_of_lt_of_le hlp hb7s) 2 (.slice A8 (linkL M8).length n8)).set (Nat.lt_of_lt_of_le hlw hb7s) 0 (.slice Ap ps.length cp)).set (Nat.lt_of_lt_of_le hlw hb7s) 1 (.slice A7 (linkL M7).length n7)).set (Nat.lt_of_lt_of_le hlw hb7s) 2 (.slice A8 (linkL M8).length n8)
            rw [List.length_map] at h
            rw [← HM.out.2]
            exact h.shape
          · exact ((((hb9.setCell (p := ⟨wp.heap.size, 1, none⟩) (Nat.le_of_lt hlt0) _).setCell (p := ⟨wp.heap.size, 2, none⟩) (Nat.le_of_lt hlt0) _).setCell (p := ⟨w.heap.size, 0, none⟩) (Nat.le_refl _) _).setCell (p := ⟨w.heap.size, 1, none⟩) (Nat.le_refl _) _).setCell (p := ⟨w.heap.size, 2, none⟩) (Nat.le_refl _) _
    · rw [decide_eq_false hd] at Hda
      have hE : atE l day = 1 := by unfold atE; rw [if_neg (fun h => hd h.2)]
      have e0 : rP l day = [] := by unfold rP; rw [hE]; rfl
      have e1 : rC l day = [] := by unfold rC; rw [hE]; rfl
      have e2 : rV l day = [] := by unfold rV; rw [hE]; rfl
      rw [hE, e0, e1, e2]
      clear hE e0 e1 e2 hd hv ht
      go_enter Tryz.func13, Tryz.ntmps13
      go_wp2_with (first
        | (go_at_call 22; refine Hva.out.mono ?_; rintro e w1 ⟨rfl, hb1⟩; have hw1 := bseq hB0 hb1; have R1 := R0.below hb1)
        | (go_at_call 32; refine (Hda.out _).mono ?_; rintro e w2 ⟨rfl, hb2⟩; have hw2 := bseq hw1 hb2; have R2 := R1.below hb2; have cR := R2.cell; have fR := R2.fz; have lR := R2.lt))
      have r0 : Row3 w2 w.heap.size 25 (.slice none 0 0) (.slice none 0 0) (.slice none 0 0) := ⟨R2⟩
      have r3 := ((r0.set0 (.slice none 0 0)).set1 (.slice none 0 0)).set2 (.slice none 0 0)
      refine bodyPost_ret (results_ct rfl _ _ w.heap.size 25 _ (0, 0) _ rfl r3.at_ Tryz.underlying25 rfl (by kernel_rfl)) rfl ⟨_, _, _, rfl, SV.nil _, LV.nil _, LV.nil _, ?_⟩
      exact ((hw2.setCell (p := ⟨w.heap.size, 0, none⟩) (Nat.le_refl _) _).setCell (p := ⟨w.heap.size, 1, none⟩) (Nat.le_refl _) _).setCell (p := ⟨w.heap.size, 2, none⟩) (Nat.le_refl _) _
  · rw [decide_eq_false hv] at Hva
    have hE : atE l day = 1 := by unfold atE; rw [if_neg (fun h => hv h.1)]
    have e0 : rP l day = [] := by unfold rP; rw [hE]; rfl
    have e1 : rC l day = [] := by unfold rC; rw [hE]; rfl
    have e2 : rV l day = [] := by unfold rV; rw [hE]; rfl
    rw [hE, e0, e1, e2]
    clear hE e0 e1 e2 hv ht
    go_enter Tryz.func13, Tryz.ntmps13
    go_wp2_with (first
      | (go_at_call 22; refine Hva.out.mono ?_; rintro e w1 ⟨rfl, hb1⟩; have hw1 := bseq hB0 hb1; have R1 := R0.below hb1; have cR := R1.cell; have fR := R1.fz; have lR := R1.lt))
    have r0 : Row3 w1 w.heap.size 25 (.slice none 0 0) (.slice none 0 0) (.slice none 0 0) := ⟨R1⟩
    have r3 := ((r0.set0 (.slice none 0 0)).set1 (.slice none 0 0)).set2 (.slice none 0 0)
    refine bodyPost_ret (results_ct rfl _ _ w.heap.size 25 _ (0, 0) _ rfl r3.at_ Tryz.underlying25 rfl (by kernel_rfl)) rfl ⟨_, _, _, rfl, SV.nil _, LV.nil _, LV.nil _, ?_⟩
    exact ((hw1.setCell (p := ⟨w.heap.size, 0, none⟩) (Nat.le_refl _) _).setCell (p := ⟨w.heap.size, 1, none⟩) (Nat.le_refl _) _).setCell (p := ⟨w.heap.size, 2, none⟩) (Nat.le_refl _) _
end Go.Proofs.YthbcabnljcpaiaaGreatDoor.H
