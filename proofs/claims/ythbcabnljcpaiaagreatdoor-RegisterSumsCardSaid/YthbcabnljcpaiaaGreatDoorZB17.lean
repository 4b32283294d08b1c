/- A part of the proof that the register's laws hold; no condition of its own. -/
import Derived.Test.YthbcabnljcpaiaaGreatDoorZB16
import Derived.Deep.LoopGhost
set_option linter.all false
namespace Go.Proofs.YthbcabnljcpaiaaGreatDoor.H
open Go.RowKit Go.Shelf Go.Lib Go.WideMaps Go.Proofs.YthbcabnljcpaiaaGreatDoorW.PrintWords Go.Proofs.YthbcabnljcpaiaaGreatDoor.Q
set_option linter.unusedVariables false
def Seen (m : List (ByteArray × Bool)) (l : List ByteArray) : Prop := ∀ s, asGet m s false = decide (s ∈ l)
theorem Seen.nil : Seen [] [] := fun s => by simp [asGet]
theorem Seen.put {m : List (ByteArray × Bool)} {l : List ByteArray} (h : Seen m l) (hd : m.Pairwise fun p q => p.1 ≠ q.1) (s : ByteArray) : Seen (asPut m s true) (l ++ [s]) := fun t => by
  rw [asGet_put m hd, h t]
  by_cases e : t = s
  · rw [if_pos e, decide_eq_true (by rw [e]; simp)]
  · rw [if_neg e]
    apply decide_eq_decide.2
    simp [e]
set_option maxRecDepth 100000 in
set_option maxHeartbeats 8000000 in
theorem proper_on (x : S36) (A : Option Addr) (c : Nat) (hM : Mod x) (w : World) (hC : Kd.C Kd.string w A x.f5.length x.f5) (hc : x.f5.length ≤ c) (hP : Pre x) :
    Calls Tryz.prog 44 #[.agg (hcells x A c)] w fun e w' => e = .returned (.bool (decide (JointOK x ∧ NumsOK x))) ∧ Below w.heap.size w w' := by
  have hmm := @run_makeMap Tryz.prog
  obtain ⟨m0, m1, m2, m3, m4, m5, m6⟩ := hM
  obtain ⟨p0, p1, p2, p3, p4, p5, p6⟩ := hP
  have p5' : (x.f5.length : Int) ≤ 4 := by omega
  have p5'' : decide ((4 : Int) < x.f5.length) = false := decide_eq_false (by omega)
  have R := Bx.new w 36 (hcells x A c)
  have hw := below_alloc (Below.refl w.heap.size w) (.cells (hcells x A c) 36)
  have hJ : ∀ i, i < x.f5.length → (rdOf ByteArray.empty x.f5 (i : Int)) ∈ x.f5 := fun i hi => by simp [rdOf, List.getD, hi]
  have hT : ∀ i, i < x.f5.length → x.f5.take (i + 1) = x.f5.take i ++ [rdOf ByteArray.empty x.f5 (i : Int)] := fun i hi => by
    rw [List.take_succ_eq_append_getElem hi]
    simp [rdOf, List.getD, hi]
  have HJ := hid hJ
  have HT := hid hT
  clear hJ hT
  go_enter Tryz.func44, Tryz.ntmps44
  go_wp2_with (first | (go_at_call 39; refine (isName_calls _ (by assumption) _).mono ?_; rintro e w1 ⟨rfl, hb1⟩; have R := Bx.below R hb1; have hw := bseq hw hb1; have cK := Bx.cell R; have lK := Bx.lt R; clear hb1) | (go_at_call 72; refine (optional_calls _ (by assumption) _).mono ?_; rintro e w1 ⟨rfl, hb1⟩; have R := Bx.below R hb1; have hw := bseq hw hb1; have cK := Bx.cell R; have lK := Bx.lt R; clear hb1) | (refine wpList_putS rfl _ _ _ (.inr rfl) w1.heap.size [] rfl x.f2 rfl true rfl (MapA.made w1) m2 ?_; intro w2 hm2 hg2; have R := Bx.grown (R.below (below_alloc (Below.refl _ _) (.map #[] 0))) hg2 (by simp; omega); have cK := Bx.cell R; have lK := Bx.lt R))
  all_goals first
    | (exfalso; omega)
    | (exfalso; rcases p6 with h | h; exact absurd (toList_nil.2 h) (by assumption); omega)
    | skip
  all_goals
    have hw2 : Below w.heap.size w w2 := (hw.alloc hw.size (.map #[] 0)).grown hg2 (by simp; have := hw.size; omega) (fun k e => by cases e; exact hw.size)
    have hsz1 : w.heap.size ≤ w1.heap.size := hw.size
    have hl2 : w1.heap.size < w2.heap.size := by have := hg2.size; simp at this; omega
    go_loopg [61] x.f5.length (fun g v61 wr => ∃ k m, v61 = .int .i64 (k : Nat) ∧ g + k = x.f5.length ∧ MapS wr w1.heap.size m ∧ Seen m (x.f2 :: x.f5.take k) ∧ (∀ s ∈ x.f5.take k, IsId s) ∧ (x.f2 :: x.f5.take k).Nodup ∧ Below w.heap.size w wr ∧ Bx wr w.heap.size 36 (hcells x A c))
    case atStart => exact ⟨0, _, rfl, by omega, hm2, Seen.nil.put List.Pairwise.nil x.f2, by simp, by simp, hw2, R⟩
    case round =>
      obtain ⟨k, m, rfl, hgk, hMp, hS, hI, hN, hBw, hR⟩ := hrel
      have cR := hR.cell
      have lR := hR.lt
      have hap := MapA.apart str_inj hMp
      clear cK lK R hg2 hm2
      by_cases hk : k < x.f5.length
      · obtain ⟨ad, rfl, hcell⟩ := Kd.at_string (Kd.C_below hC hBw) (k : Int) (by omega) (by omega)
        simp only [Int.toNat_natCast] at hcell
        have hsJ := HJ.out k hk
        have hsT := HT.out k hk
        have HS := hid hS
        have HI := hid hI
        have HN := hid hN
        generalize hs : rdOf ByteArray.empty x.f5 (k : Int) = s at *
        have hsz := m6 s hsJ
        have hl := fun W (h : MapS W w1.heap.size m) => MapS.get h hsz
        have Hl := hid hl
        have HsJ := hid hsJ
        have HsT := hid hsT
        clear hl hsJ hsT hs hS hI hN
        by_cases hid1 : IsId s
        · by_cases hin : s ∈ x.f2 :: x.f5.take k
          · have hg : asGet m s false = true := by rw [HS.out]; exact decide_eq_true hin
            have HNo : Hid (¬ (JointOK x ∧ NumsOK x)) := hid fun h => by
              have h2 : ((x.f2 :: x.f5.take k) ++ [s]).Nodup := by
                rw [List.cons_append, ← HsT.out]
                exact h.1.2.1.sublist (List.Sublist.cons₂ _ (List.take_sublist _ _))
              exact (List.nodup_append.1 h2).2.2 s hin s (List.mem_singleton.2 rfl) rfl
            clear hin
            go_wp2_with (first | (go_at_call 39; refine (isName_calls s hsz _).mono ?_; rintro e w3 ⟨rfl, hb3⟩; have hl3 := Hl.out w3 (hMp.below hb3); rw [hg] at hl3))
            go_ret
            exact ⟨by rw [decide_eq_false HNo.out]; rfl, hBw.trans (hb3.mono hBw.size)⟩
          · have hg : asGet m s false = false := by rw [HS.out]; exact decide_eq_false hin
            have Hin := hid hin
            clear hin
            go_wp2_with (first | (go_at_call 39; refine (isName_calls s hsz _).mono ?_; rintro e w3 ⟨rfl, hb3⟩; have hl3 := Hl.out w3 (hMp.below hb3); rw [hg] at hl3) | (refine wpList_putS rfl _ _ _ (.inl rfl) w1.heap.size m rfl s rfl true rfl (hMp.below hb3) hsz ?_; intro w4 hm4 hg4))
            go_roundg (gk - 1)
            case rel =>
              have hB4 : Below w.heap.size w w4 := (hBw.trans (hb3.mono hBw.size)).grown hg4 (by have := hb3.size; have := hBw.size; omega) (fun k e => by cases e; exact hsz1)
              refine ⟨k + 1, asPut m s true, by go_num, by omega, hm4, ?_, ?_, ?_, hB4, (hR.below hb3).grown hg4 (by simp; omega)⟩
              · rw [HsT.out, ← List.cons_append]
                exact HS.out.put hap s
              · rw [HsT.out]
                intro t ht
                rcases List.mem_append.1 ht with h | h
                · exact HI.out t h
                · rw [List.mem_singleton.1 h]; exact hid1
              · rw [HsT.out, ← List.cons_append]
                refine List.nodup_append.2 ⟨HN.out, by simp, fun a ha b hb e => ?_⟩
                rw [List.mem_singleton.1 hb] at e
                exact Hin.out (e ▸ ha)
            case measure => omega
        · have HNo : Hid (¬ (JointOK x ∧ NumsOK x)) := hid fun h => hid1 (h.1.1 s HsJ.out)
          go_wp2_with (first | (go_at_call 39; refine (isName_calls s hsz _).mono ?_; rintro e w3 ⟨rfl, hb3⟩))
          go_ret
          exact ⟨by rw [decide_eq_false HNo.out]; rfl, hBw.trans (hb3.mono hBw.size)⟩
      · obtain rfl : k = x.f5.length := by omega
        rw [List.take_length] at hS hI hN
        have hl := MapS.get hMp m1
        rw [hS] at hl
        have HI := hid hI
        have HN := hid hN
        clear hS hI hN
        have hf1 : ¬ x.f1.toList = [] := fun e => by have := toList_nil.1 e; have := p1.1; omega
        have hf1' : x.f1.toList.isEmpty = false := by cases h : x.f1.toList with | nil => exact absurd h hf1 | cons a b => rfl
        by_cases q1 : x.f1 ∈ x.f2 :: x.f5
        · have HNo : Hid (¬ (JointOK x ∧ NumsOK x)) := hid fun h => h.1.2.2.1 q1
          rw [decide_eq_true q1] at hl
          clear q1
          go_wp2_with (first | (go_at_call 73; refine (percent_calls _ _).mono ?_; rintro e w3 ⟨rfl, hb3⟩; have hBw := hBw.trans (hb3.mono hBw.size); have hR := hR.below hb3; have cR := hR.cell; have lR := hR.lt) | (go_at_call 32; refine (isDay_calls _ _).mono ?_; rintro e w3 ⟨rfl, hb3⟩; have hBw := hBw.trans (hb3.mono hBw.size); have hR := hR.below hb3; have cR := hR.cell; have lR := hR.lt))
          all_goals go_ret
          all_goals exact ⟨by rw [decide_eq_false HNo.out]; rfl, hBw⟩
        · rw [decide_eq_false q1] at hl
          have Q1 := hid q1
          clear q1
          by_cases q2 : x.f1 = x.f3
          · have HNo : Hid (¬ (JointOK x ∧ NumsOK x)) := hid fun h => h.1.2.2.2 q2
            have e2 : (x.f1.toList == x.f3.toList) = true := by rw [q2]; exact beq_self_eq_true _
            have e2' : x.f1.toList = x.f3.toList := by rw [q2]
            clear q2
            go_wp2_with (first | (go_at_call 73; refine (percent_calls _ _).mono ?_; rintro e w3 ⟨rfl, hb3⟩; have hBw := hBw.trans (hb3.mono hBw.size); have hR := hR.below hb3; have cR := hR.cell; have lR := hR.lt) | (go_at_call 32; refine (isDay_calls _ _).mono ?_; rintro e w3 ⟨rfl, hb3⟩; have hBw := hBw.trans (hb3.mono hBw.size); have hR := hR.below hb3; have cR := hR.cell; have lR := hR.lt))
            all_goals first | (exfalso; simp_all; done) | skip
            all_goals go_ret
            all_goals exact ⟨by rw [decide_eq_false HNo.out]; rfl, hBw⟩
          · have e2' : ¬ x.f1.toList = x.f3.toList := fun e => q2 (by rw [Lib.toList_data, Lib.toList_data] at e; cases h1 : x.f1; cases h2 : x.f3; rw [h1, h2] at e; simp at e; rw [e])
            have e2 : (x.f1.toList == x.f3.toList) = false := by rw [beq_eq_false_iff_ne]; exact e2'
            have HJ1 : Hid (JointOK x) := hid ⟨HI.out, HN.out, Q1.out, q2⟩
            clear q2
            by_cases q3 : 0 ≤ x.f6 ∧ x.f6 ≤ 100
            · by_cases q4 : 0 ≤ x.f7 ∧ x.f7 ≤ 100
              · by_cases q5 : 0 ≤ x.f8 ∧ x.f8 ≤ 100000
                · by_cases q6 : x.f9 = -1
                  · have hY : Hid (decide (JointOK x ∧ NumsOK x) = true) := hid (decide_eq_true ⟨HJ1.out, q3, q4, q5, .inl q6⟩)
                    go_wp2_with (first | (go_at_call 73; refine (percent_calls _ _).mono ?_; rintro e w3 ⟨rfl, hb3⟩; have hBw := hBw.trans (hb3.mono hBw.size); have hR := hR.below hb3; have cR := hR.cell; have lR := hR.lt) | (go_at_call 32; refine (isDay_calls _ _).mono ?_; rintro e w3 ⟨rfl, hb3⟩; have hBw := hBw.trans (hb3.mono hBw.size); have hR := hR.below hb3; have cR := hR.cell; have lR := hR.lt))
                    all_goals go_ret
                    all_goals exact ⟨by rw [hY.out]; rfl, hBw⟩
                  · by_cases q7 : 0 ≤ x.f9 ∧ x.f9 ≤ 100000
                    · have hY : Hid (decide (JointOK x ∧ NumsOK x) = decide (x.f8 < x.f9)) := hid (decide_eq_decide.2 ⟨fun h => (h.2.2.2.2.resolve_left q6).2, fun h => ⟨HJ1.out, q3, q4, q5, .inr ⟨q7, h⟩⟩⟩)
                      have q6' : (x.f9 == -1) = false := by rw [beq_eq_false_iff_ne]; exact q6
                      go_wp2_with (first | (go_at_call 73; refine (percent_calls _ _).mono ?_; rintro e w3 ⟨rfl, hb3⟩; have hBw := hBw.trans (hb3.mono hBw.size); have hR := hR.below hb3; have cR := hR.cell; have lR := hR.lt) | (go_at_call 32; refine (isDay_calls _ _).mono ?_; rintro e w3 ⟨rfl, hb3⟩; have hBw := hBw.trans (hb3.mono hBw.size); have hR := hR.below hb3; have cR := hR.cell; have lR := hR.lt))
                      all_goals go_ret
                      all_goals exact ⟨by rw [hY.out]; first | rfl | (simp; done), hBw⟩
                    · have HNo : Hid (¬ (JointOK x ∧ NumsOK x)) := hid fun h => q7 (h.2.2.2.2.resolve_left q6).1
                      have q6' : (x.f9 == -1) = false := by rw [beq_eq_false_iff_ne]; exact q6
                      go_wp2_with (first | (go_at_call 73; refine (percent_calls _ _).mono ?_; rintro e w3 ⟨rfl, hb3⟩; have hBw := hBw.trans (hb3.mono hBw.size); have hR := hR.below hb3; have cR := hR.cell; have lR := hR.lt) | (go_at_call 32; refine (isDay_calls _ _).mono ?_; rintro e w3 ⟨rfl, hb3⟩; have hBw := hBw.trans (hb3.mono hBw.size); have hR := hR.below hb3; have cR := hR.cell; have lR := hR.lt))
                      all_goals go_ret
                      all_goals exact ⟨by rw [decide_eq_false HNo.out]; first | rfl | (simp; done), hBw⟩
                · have HNo : Hid (¬ (JointOK x ∧ NumsOK x)) := hid fun h => q5 h.2.2.2.1
                  go_wp2_with (first | (go_at_call 73; refine (percent_calls _ _).mono ?_; rintro e w3 ⟨rfl, hb3⟩; have hBw := hBw.trans (hb3.mono hBw.size); have hR := hR.below hb3; have cR := hR.cell; have lR := hR.lt) | (go_at_call 32; refine (isDay_calls _ _).mono ?_; rintro e w3 ⟨rfl, hb3⟩; have hBw := hBw.trans (hb3.mono hBw.size); have hR := hR.below hb3; have cR := hR.cell; have lR := hR.lt))
                  all_goals go_ret
                  all_goals exact ⟨by rw [decide_eq_false HNo.out]; rfl, hBw⟩
              · have HNo : Hid (¬ (JointOK x ∧ NumsOK x)) := hid fun h => q4 h.2.2.1
                go_wp2_with (first | (go_at_call 73; refine (percent_calls _ _).mono ?_; rintro e w3 ⟨rfl, hb3⟩; have hBw := hBw.trans (hb3.mono hBw.size); have hR := hR.below hb3; have cR := hR.cell; have lR := hR.lt) | (go_at_call 32; refine (isDay_calls _ _).mono ?_; rintro e w3 ⟨rfl, hb3⟩; have hBw := hBw.trans (hb3.mono hBw.size); have hR := hR.below hb3; have cR := hR.cell; have lR := hR.lt))
                all_goals go_ret
                all_goals exact ⟨by rw [decide_eq_false HNo.out]; rfl, hBw⟩
            · have HNo : Hid (¬ (JointOK x ∧ NumsOK x)) := hid fun h => q3 h.2.1
              go_wp2_with (first | (go_at_call 73; refine (percent_calls _ _).mono ?_; rintro e w3 ⟨rfl, hb3⟩; have hBw := hBw.trans (hb3.mono hBw.size); have hR := hR.below hb3; have cR := hR.cell; have lR := hR.lt) | (go_at_call 32; refine (isDay_calls _ _).mono ?_; rintro e w3 ⟨rfl, hb3⟩; have hBw := hBw.trans (hb3.mono hBw.size); have hR := hR.below hb3; have cR := hR.cell; have lR := hR.lt))
              all_goals go_ret
              all_goals exact ⟨by rw [decide_eq_false HNo.out]; rfl, hBw⟩
theorem proper_calls (x : S36) (A : Option Addr) (c : Nat) (hM : Mod x) (w : World) (hC : Kd.C Kd.string w A x.f5.length x.f5) (hc : x.f5.length ≤ c) :
    Calls Tryz.prog 44 #[.agg (hcells x A c)] w fun e w' => e = .returned (.bool (decide (Proper x))) ∧ Below w.heap.size w w' := by
  by_cases h : Pre x
  · rw [show decide (Proper x) = decide (JointOK x ∧ NumsOK x) from decide_eq_decide.2 ⟨fun e => e.2, fun e => ⟨h, e⟩⟩]
    exact proper_on x A c hM w hC hc h
  · rw [show decide (Proper x) = false from decide_eq_false fun e => h e.1]
    exact proper_pre x A c hM w h
end Go.Proofs.YthbcabnljcpaiaaGreatDoor.H
