/- What Put and End return without an error is valid and has all other holdings in their places: for every list of holdings, holding, identifier and day the law returns true; the listed package-level variables are tied to the text of the program. -/
import Derived.Test.YthbcabnljcpaiaaGreatDoorZB32
import Derived.Test.YthbcabnljcpaiaaGreatDoorZB19
import Derived.Test.YthbcabnljcpaiaaGreatDoorZBs01
import Derived.Deep.RegionHeld3
import Derived.IntWalk
import Derived.Test.YthbcabnljcpaiaaGreatDoorZB34
import Derived.SevenTiedAt
set_option linter.all false
namespace Go.Proofs.YthbcabnljcpaiaaGreatDoor.H
open Go.RowKit Go.Shelf Go.Lib Go.Maps Go.Proofs.YthbcabnljcpaiaaGreatDoorW.PrintWords Go.Proofs.YthbcabnljcpaiaaGreatDoorW.PrintLast Go.Proofs.YthbcabnljcpaiaaGreatDoorW.PrintMore Go.Proofs.YthbcabnljcpaiaaGreatDoor.Q
set_option linter.unusedVariables false
theorem HC.front {w : World} {A : Option Addr} {l : List S36} {x : S36} (h : HC w A (l ++ [x])) : HC w A l :=
  ⟨rfl, by have := h.2.1; simp at this ⊢; omega, fun hn => by
    obtain ⟨ad, e, hc⟩ := h.2.2 (by simp)
    refine ⟨ad, e, fun j p hj => hc j p ?_⟩
    have hjl : j < l.length := by
      rcases Nat.lt_or_ge j l.length with h | h
      · exact h
      · rw [List.getElem?_eq_none h] at hj; cases hj
    rw [List.getElem?_append_left hjl]
    exact hj⟩
theorem ba_ext {a b : ByteArray} (h : a.toList = b.toList) : a = b := by
  rw [Lib.toList_data, Lib.toList_data] at h
  exact data_inj h
def sameH (k : Nat) (x y : S36) : Option Bool := customhouseref17_SameHolding.f k x.f0 x.f1 x.f2 x.f3 x.f4 x.f5 x.f6 x.f7 x.f8 x.f9 y.f0 y.f1 y.f2 y.f3 y.f4 y.f5 y.f6 y.f7 y.f8 y.f9
theorem holding_refl (x : S36) (hl : x.f5.length ≤ 1000000000) : Ev (fun k => sameH k x x) true := by
  unfold sameH customhouseref17_SameHolding.f
  refine Ev_ite_pos rfl (Ev_ite_pos rfl (Ev_ite_pos rfl (Ev_ite_pos rfl (Ev_ite_pos rfl ?_))))
  refine Ev.bind (f := fun k t130 => (if t130 = true then (if x.f6 = x.f6 then (if x.f7 = x.f7 then (if x.f8 = x.f8 then (some (x.f9 == x.f9)) else (some false)) else (some false)) else (some false)) else (some false))) (texts_refl x.f5 hl) ?_
  refine Ev_ite_pos rfl (Ev_ite_pos rfl (Ev_ite_pos rfl (Ev_ite_pos rfl ?_)))
  simp only [beq_self_eq_true]
  exact Ev.now _
theorem holdings_refl (l : List S36) (hl : l.length ≤ 1000000) (hx : ∀ x ∈ l, x.f5.length ≤ 1000000000) : Ev (fun k => customhouseref17_SameHoldings.f k l l) true := by
  have h : ∀ d i, l.length - i = d → i ≤ l.length → Ev (fun k => customhouseref17_SameHoldings.l0 k l l (i : Int)) true := by
    intro d
    induction d with
    | zero =>
      intro i hd hi
      refine Ev.step (f := fun _ => some true) (fun k => ?_) (Ev.now _)
      rw [customhouseref17_SameHoldings.l0, if_neg (by omega)]
    | succ d ih =>
      intro i hd hi
      have hw : wrap64 ((i : Int) + 1) = ((i + 1 : Nat) : Int) := by unfold wrap64; omega
      have hil : i < l.length := by omega
      refine Ev.step (f := fun k => (sameH k (rd_T36 l (i : Int)) (rd_T36 l (i : Int))).bind fun t => if t = true then customhouseref17_SameHoldings.l0 k l l ((i + 1 : Nat) : Int) else some false) (fun k => ?_) ?_
      · rw [customhouseref17_SameHoldings.l0, if_pos (by omega), if_pos (by omega), if_pos (by omega), hw]; rfl
      · refine Ev.bind (f := fun k t => if t = true then customhouseref17_SameHoldings.l0 k l l ((i + 1 : Nat) : Int) else some false) (holding_refl _ ?_) (Ev_ite_pos rfl (ih (i + 1) (by omega) (by omega)))
        exact hx _ (by simp [rd_T36, hil])
  have := h l.length 0 (by omega) (by omega)
  unfold customhouseref17_SameHoldings.f
  exact Ev_ite_pos rfl this
theorem same_calls (x : S36) (hl : x.f5.length ≤ 1000000000) : ∀ (A B : Option Addr) (c d : Nat) (w : World), Kd.C Kd.string w A x.f5.length x.f5 → x.f5.length ≤ c → Kd.C Kd.string w B x.f5.length x.f5 → x.f5.length ≤ d →
    Calls Tryz.prog 25 #[.agg (hcells x A c), .agg (hcells x B d)] w fun e w' => e = .returned (.bool true) ∧ Below w.heap.size w w' := by
  obtain ⟨k, hk⟩ := Ev.rounds (holding_refl x hl)
  intro A B c d w h1 h2 h3 h4
  exact customhouseref17_SameHolding.calls k x.f0 x.f1 x.f2 x.f3 x.f4 A c x.f5 x.f6 x.f7 x.f8 x.f9 x.f0 x.f1 x.f2 x.f3 x.f4 B d x.f5 x.f6 x.f7 x.f8 x.f9 true w h1 h2 h3 h4 hk
theorem sames_calls (l : List S36) (hl : l.length ≤ 1000000) (hx : ∀ x ∈ l, x.f5.length ≤ 1000000000) : ∀ (A B : Option Addr) (c d : Nat) (w : World), HC w A l → l.length ≤ c → HC w B l → l.length ≤ d →
    Calls Tryz.prog 24 #[.slice A l.length c, .slice B l.length d] w fun e w' => e = .returned (.bool true) ∧ Below w.heap.size w w' := by
  obtain ⟨k, hk⟩ := Ev.rounds (holdings_refl l hl hx)
  intro A B c d w h1 h2 h3 h4
  exact customhouseref17_SameHoldings.calls k A c l B d l true w h1 h2 h3 h4 hk
theorem endS_len (l : List S36) (id : ByteArray) (day : Int) : (endL l id day).length = l.length := by unfold endL; exact List.length_set
theorem endS_mod {l : List S36} (hM : ModL l) {id : ByteArray} {day : Int} (h : endE l id day = 0) : ModL (endL l id day) := by
  refine ⟨by rw [endS_len]; exact hM.1, fun y hy => ?_⟩
  obtain ⟨_, _, k, hk, e0, e9, e8, e⟩ := end_spec h
  rw [e] at hy
  rcases List.mem_or_eq_of_mem_set hy with h | h
  · exact hM.2 y h
  · rw [h]
    exact hM.2 l[k] (List.getElem_mem _)
theorem end_at {l : List S36} {id : ByteArray} {day : Int} (h : endE l id day = 0) : ∃ kk : Nat, kk < l.length ∧ (∀ k : Nat, k < l.length → ((rd_T36 l (k : Int)).f0 = id ↔ k = kk)) ∧ ∀ k : Nat, k < l.length → rd_T36 (endL l id day) (k : Int) = if k = kk then ended (rd_T36 l (k : Int)) day else rd_T36 l (k : Int) := by
  obtain ⟨hv, _, kk, hk, e0, _, _, e⟩ := end_spec h
  have hnd := hv.1.2
  refine ⟨kk, hk, fun k hkl => ⟨fun h0 => ?_, fun h0 => by subst h0; rw [rd_nat hkl]; exact e0⟩, fun k hkl => ?_⟩
  · rw [rd_nat hkl] at h0
    have h1 : (l.map (·.f0))[k]'(by simpa using hkl) = (l.map (·.f0))[kk]'(by simpa using hk) := by simp [h0, e0]
    exact (List.getElem_inj hnd).1 h1
  · rw [e, rd_nat hkl]
    by_cases hh : k = kk
    · subst hh; rw [if_pos rfl]; simp [rd_T36, hk]
    · rw [if_neg hh]
      have : kk ≠ k := fun x => hh x.symm
      simp [rd_T36, hkl, List.getElem?_set, this]
set_option maxRecDepth 100000 in
set_option maxHeartbeats 16000000 in
theorem stays_x (l : List S36) (A : Option Addr) (c : Nat) (x : S36) (A5 : Option Addr) (c5 : Nat) (id : ByteArray) (day : Int) (w : World) (hC : HC w A l) (hc : l.length ≤ c) (hJ : Kd.C Kd.string w A5 x.f5.length x.f5) (j5 : x.f5.length ≤ c5) (ht : Tab w) (hq : ¬ ((l.length ≤ 20 ∧ ∀ y ∈ l, FewX y) ∧ FewX x ∧ id.size ≤ 60 ∧ Valid l)) :
    Calls Tryz.prog 7 #[.slice A l.length c, .agg (hcells x A5 c5), .string id, .int .i64 day] w fun e w' => e = .returned (.bool true) ∧ Below w.heap.size w w' := by
  have R0 := Bx.new w 36 (hcells x A5 c5)
  have g0 := below_alloc (Below.refl w.heap.size w) (.cells (hcells x A5 c5) 36)
  have hhd := head_calls (w.alloc (.cells (hcells x A5 c5) 36)) (ht.below g0)
  obtain ⟨b, hb, hfew⟩ := few_calls17 l
  obtain ⟨b2, hb2, hfew2⟩ := few_calls17 [x]
  have hfe := fun W (h : Below w.heap.size w W) => hfew A c W (Kd.C_below hC h) hc
  have hfx : ∀ W, Below w.heap.size w W → Calls Tryz.prog 12 #[.slice (some ⟨W.heap.size, 0, none⟩) 1 1] (W.alloc (.cells (hcells x A5 c5) 36)) fun e w' => e = .returned (.bool b2) ∧ Below (W.alloc (.cells (hcells x A5 c5) 36)).heap.size (W.alloc (.cells (hcells x A5 c5) 36)) w' := fun W h => by
    have hB := Bx.new W 36 (hcells x A5 c5)
    have g1 := below_alloc (Below.refl W.heap.size W) (.cells (hcells x A5 c5) 36)
    exact hfew2 (some ⟨W.heap.size, 0, none⟩) 1 _ (Kd.F_now (F_one hB (Kd.F_below (Kd.C_F Kd.heap_string hJ) (bseq h g1)) j5)) (Nat.le_refl _)
  have Hhd := hid hhd
  have Hfe := hid hfe
  have Hfx := hid hfx
  clear hhd hfe hfew hfx hfew2
  rcases b with _ | _
  ·
    go_enter Tryz.func7, Tryz.ntmps7
    go_wp2_with (first | (go_at_call 10; (with_reducible refine Hhd.out.mono ?_); rintro e w1 ⟨rfl, hb1⟩; have hw1 := bseq g0 hb1; have R1 := R0.below hb1; have c1 := R1.cell; have l1 := R1.lt) | (go_at_call 12; (with_reducible refine (Hfe.out _ hw1).mono ?_); rintro e w2 ⟨rfl, hb2⟩; have hw2 := bseq hw1 hb2; have R2 := R1.below hb2; have c2 := R2.cell; have l2 := R2.lt))
    go_ret
    exact ⟨rfl, hw2⟩
  have h20 := hb rfl
  have hM := few_modL h20
  rcases b2 with _ | _
  ·
    go_enter Tryz.func7, Tryz.ntmps7
    go_wp2_with (first | (go_at_call 10; (with_reducible refine Hhd.out.mono ?_); rintro e w1 ⟨rfl, hb1⟩; have hw1 := bseq g0 hb1; have R1 := R0.below hb1; have c1 := R1.cell; have l1 := R1.lt) | (go_at_call 12; (with_reducible refine (Hfe.out _ hw1).mono ?_); rintro e w2 ⟨rfl, hb2⟩; have hw2 := bseq hw1 hb2; have R2 := R1.below hb2; have c2 := R2.cell; have l2 := R2.lt) | (go_at_call 12; (with_reducible refine (Hfx.out _ hw2).mono ?_); rintro e w3 ⟨rfl, hb3⟩; have g3 := below_alloc (Below.refl w2.heap.size w2) (.cells (hcells x A5 c5) 36); have hw3 := bseq (bseq hw2 g3) hb3; have R3 := (R2.below g3).below hb3; have c3 := R3.cell; have l3 := R3.lt))
    go_ret
    exact ⟨rfl, hw3⟩
  have hfx := (hb2 rfl).2 x List.mem_cons_self
  by_cases q3 : (60 : Int) < id.size
  ·
    go_enter Tryz.func7, Tryz.ntmps7
    go_wp2_with (first | (go_at_call 10; (with_reducible refine Hhd.out.mono ?_); rintro e w1 ⟨rfl, hb1⟩; have hw1 := bseq g0 hb1; have R1 := R0.below hb1; have c1 := R1.cell; have l1 := R1.lt) | (go_at_call 12; (with_reducible refine (Hfe.out _ hw1).mono ?_); rintro e w2 ⟨rfl, hb2⟩; have hw2 := bseq hw1 hb2; have R2 := R1.below hb2; have c2 := R2.cell; have l2 := R2.lt) | (go_at_call 12; (with_reducible refine (Hfx.out _ hw2).mono ?_); rintro e w3 ⟨rfl, hb3⟩; have g3 := below_alloc (Below.refl w2.heap.size w2) (.cells (hcells x A5 c5) 36); have hw3 := bseq (bseq hw2 g3) hb3; have R3 := (R2.below g3).below hb3; have c3 := R3.cell; have l3 := R3.lt))
    go_ret
    exact ⟨rfl, hw3⟩
  have q4 : ¬ Valid l := fun h => hq ⟨h20, hfx, by omega, h⟩
  have hva := fun W (h : Below w.heap.size w W) => valid_calls17 l A c hM W (Kd.C_below hC h) hc
  rw [decide_eq_false q4] at hva
  have Hva := hid hva
  clear hva hb hb2
  go_enter Tryz.func7, Tryz.ntmps7
  go_wp2_with (first | (go_at_call 10; (with_reducible refine Hhd.out.mono ?_); rintro e w1 ⟨rfl, hb1⟩; have hw1 := bseq g0 hb1; have R1 := R0.below hb1; have c1 := R1.cell; have l1 := R1.lt) | (go_at_call 12; (with_reducible refine (Hfe.out _ hw1).mono ?_); rintro e w2 ⟨rfl, hb2⟩; have hw2 := bseq hw1 hb2; have R2 := R1.below hb2; have c2 := R2.cell; have l2 := R2.lt) | (go_at_call 12; (with_reducible refine (Hfx.out _ hw2).mono ?_); rintro e w3 ⟨rfl, hb3⟩; have g3 := below_alloc (Below.refl w2.heap.size w2) (.cells (hcells x A5 c5) 36); have hw3 := bseq (bseq hw2 g3) hb3; have R3 := (R2.below g3).below hb3; have c3 := R3.cell; have l3 := R3.lt) | (go_at_call 22; (with_reducible refine (Hva.out _ hw3).mono ?_); rintro e w4 ⟨rfl, hb4⟩; have hw4 := bseq hw3 hb4; have R4 := R3.below hb4; have c4 := R4.cell; have l4 := R4.lt))
  go_ret
  exact ⟨rfl, hw4⟩
set_option maxRecDepth 100000 in
set_option maxHeartbeats 16000000 in
theorem stays_y1 (l : List S36) (A : Option Addr) (c : Nat) (x : S36) (A5 : Option Addr) (c5 : Nat) (id : ByteArray) (day : Int) (w : World) (hC : HC w A l) (hc : l.length ≤ c) (hJ : Kd.C Kd.string w A5 x.f5.length x.f5) (j5 : x.f5.length ≤ c5) (ht : Tab w) (hfe : ∀ W, Below w.heap.size w W → Calls Tryz.prog 12 #[.slice A l.length c] W fun e w' => e = .returned (.bool false) ∧ Below W.heap.size W w') :
    Calls Tryz.prog 7 #[.slice A l.length c, .agg (hcells x A5 c5), .string id, .int .i64 day] w fun e w' => e = .returned (.bool true) ∧ Below w.heap.size w w' := by
  have R0 := Bx.new w 36 (hcells x A5 c5)
  have g0 := below_alloc (Below.refl w.heap.size w) (.cells (hcells x A5 c5) 36)
  have hhd := head_calls (w.alloc (.cells (hcells x A5 c5) 36)) (ht.below g0)
  have Hhd := hid hhd
  have Hfe := hid hfe
  clear hhd hfe
  go_enter Tryz.func7, Tryz.ntmps7
  go_wp2_with (first | (go_at_call 10; (with_reducible refine Hhd.out.mono ?_); rintro e w1 ⟨rfl, hb1⟩; have hw1 := bseq g0 hb1; have R1 := R0.below hb1; have c1 := R1.cell; have l1 := R1.lt) | (go_at_call 12; (with_reducible refine (Hfe.out _ hw1).mono ?_); rintro e w2 ⟨rfl, hb2⟩; have hw2 := bseq hw1 hb2; have R2 := R1.below hb2; have c2 := R2.cell; have l2 := R2.lt))
  go_ret
  exact ⟨rfl, hw2⟩
set_option maxRecDepth 100000 in
set_option maxHeartbeats 16000000 in
theorem stays_y2 (l : List S36) (A : Option Addr) (c : Nat) (x : S36) (A5 : Option Addr) (c5 : Nat) (id : ByteArray) (day : Int) (w : World) (hC : HC w A l) (hc : l.length ≤ c) (hJ : Kd.C Kd.string w A5 x.f5.length x.f5) (j5 : x.f5.length ≤ c5) (ht : Tab w) (hfe : ∀ W, Below w.heap.size w W → Calls Tryz.prog 12 #[.slice A l.length c] W fun e w' => e = .returned (.bool true) ∧ Below W.heap.size W w') (hfx : ∀ W, Below w.heap.size w W → Calls Tryz.prog 12 #[.slice (some ⟨W.heap.size, 0, none⟩) 1 1] (W.alloc (.cells (hcells x A5 c5) 36)) fun e w' => e = .returned (.bool false) ∧ Below (W.alloc (.cells (hcells x A5 c5) 36)).heap.size (W.alloc (.cells (hcells x A5 c5) 36)) w') :
    Calls Tryz.prog 7 #[.slice A l.length c, .agg (hcells x A5 c5), .string id, .int .i64 day] w fun e w' => e = .returned (.bool true) ∧ Below w.heap.size w w' := by
  have R0 := Bx.new w 36 (hcells x A5 c5)
  have g0 := below_alloc (Below.refl w.heap.size w) (.cells (hcells x A5 c5) 36)
  have hhd := head_calls (w.alloc (.cells (hcells x A5 c5) 36)) (ht.below g0)
  have Hhd := hid hhd
  have Hfe := hid hfe
  clear hhd hfe
  have Hfx := hid hfx
  clear hfx
  go_enter Tryz.func7, Tryz.ntmps7
  go_wp2_with (first | (go_at_call 10; (with_reducible refine Hhd.out.mono ?_); rintro e w1 ⟨rfl, hb1⟩; have hw1 := bseq g0 hb1; have R1 := R0.below hb1; have c1 := R1.cell; have l1 := R1.lt) | (go_at_call 12; (with_reducible refine (Hfe.out _ hw1).mono ?_); rintro e w2 ⟨rfl, hb2⟩; have hw2 := bseq hw1 hb2; have R2 := R1.below hb2; have c2 := R2.cell; have l2 := R2.lt) | (go_at_call 12; (with_reducible refine (Hfx.out _ hw2).mono ?_); rintro e w3 ⟨rfl, hb3⟩; have g3 := below_alloc (Below.refl w2.heap.size w2) (.cells (hcells x A5 c5) 36); have hw3 := bseq (bseq hw2 g3) hb3; have R3 := (R2.below g3).below hb3; have c3 := R3.cell; have l3 := R3.lt))
  go_ret
  exact ⟨rfl, hw3⟩
set_option maxRecDepth 100000 in
set_option maxHeartbeats 16000000 in
theorem stays_a (l : List S36) (A : Option Addr) (c : Nat) (x : S36) (A5 : Option Addr) (c5 : Nat) (id : ByteArray) (day : Int) (w : World) (hC : HC w A l) (hc : l.length ≤ c) (hJ : Kd.C Kd.string w A5 x.f5.length x.f5) (j5 : x.f5.length ≤ c5) (ht : Tab w)
    (h20 : l.length ≤ 20 ∧ ∀ y ∈ l, FewX y) (hfx0 : FewX x) (q3 : ¬ (60 : Int) < id.size) (q4 : Valid l)
    (hfe : ∀ W, Below w.heap.size w W → Calls Tryz.prog 12 #[.slice A l.length c] W fun e w' => e = .returned (.bool true) ∧ Below W.heap.size W w')
    (hfx : ∀ W, Below w.heap.size w W → Calls Tryz.prog 12 #[.slice (some ⟨W.heap.size, 0, none⟩) 1 1] (W.alloc (.cells (hcells x A5 c5) 36)) fun e w' => e = .returned (.bool true) ∧ Below (W.alloc (.cells (hcells x A5 c5) 36)).heap.size (W.alloc (.cells (hcells x A5 c5) 36)) w') (hp : ¬ putE l x = 0) :
    Calls Tryz.prog 7 #[.slice A l.length c, .agg (hcells x A5 c5), .string id, .int .i64 day] w fun e w' => e = .returned (.bool true) ∧ Below w.heap.size w w' := by
  have R0 := Bx.new w 36 (hcells x A5 c5)
  have g0 := below_alloc (Below.refl w.heap.size w) (.cells (hcells x A5 c5) 36)
  have hhd := head_calls (w.alloc (.cells (hcells x A5 c5) 36)) (ht.below g0)
  have hM := few_modL h20
  have hva := fun W (h : Below w.heap.size w W) => valid_calls17 l A c hM W (Kd.C_below hC h) hc
  rw [decide_eq_true q4] at hva
  have hpu := fun W (h : Below w.heap.size w W) => put_calls l A c x A5 c5 hM (by omega) hfx0.mod W (Kd.C_below hC h) hc (Kd.C_below hJ h) j5
  have hen := fun W (h : Below w.heap.size w W) => end_calls l A c id day hM W (Kd.C_below hC h) hc
  have Hhd := hid hhd
  have Hfe := hid hfe
  have Hfx := hid hfx
  have Hva := hid hva
  have hl20 := h20.1
  clear hhd hfe hfx hva
  generalize putE l x = er at *
  have hpb : (er == 0) = false := by simpa using hp
  have hpd : decide (er = 0) = false := decide_eq_false hp
  have Hpu := hid hpu
  clear hpu
  by_cases he : endE l id day = 0
  · obtain ⟨kk, hkk, hid1, hat⟩ := end_at he
    have hvb := fun W B n (hB : HC W B (endL l id day)) (hn : l.length ≤ n) => valid_calls17 (endL l id day) B n (endS_mod hM he) W hB (by rw [endS_len]; exact hn)
    rw [decide_eq_true (end_valid he)] at hvb
    simp only [endS_len] at hvb
    have hln := endS_len l id day
    rw [he] at hen
    clear he
    generalize endL l id day = m at *
    have Hen := hid hen
    have Hvb := hid hvb
    have Hln := hid hln
    have Hat := hid (And.intro hid1 hat)
    have HM := hid (And.intro hM h20)
    clear hen hvb hln hid1 hat hM h20
    go_enter Tryz.func7, Tryz.ntmps7
    go_wp2_with (first | (go_at_call 10; (with_reducible refine Hhd.out.mono ?_); rintro e w1 ⟨rfl, hb1⟩; have hw1 := bseq g0 hb1; have R1 := R0.below hb1; have c1 := R1.cell; have l1 := R1.lt) | (go_at_call 12; (with_reducible refine (Hfe.out _ hw1).mono ?_); rintro e w2 ⟨rfl, hb2⟩; have hw2 := bseq hw1 hb2; have R2 := R1.below hb2; have c2 := R2.cell; have l2 := R2.lt) | (go_at_call 12; (with_reducible refine (Hfx.out _ hw2).mono ?_); rintro e w3 ⟨rfl, hb3⟩; have g3 := below_alloc (Below.refl w2.heap.size w2) (.cells (hcells x A5 c5) 36); have hw3 := bseq (bseq hw2 g3) hb3; have R3 := (R2.below g3).below hb3; have c3 := R3.cell; have l3 := R3.lt) | (go_at_call 22; (with_reducible refine (Hva.out _ hw3).mono ?_); rintro e w4 ⟨rfl, hb4⟩; have hw4 := bseq hw3 hb4; have R4 := R3.below hb4; have c4 := R4.cell; have l4 := R4.lt) | (go_at_call 17; (with_reducible refine (Hpu.out _ hw4).mono ?_); rintro e w5 ⟨v5, rfl, hn5, hb5⟩; have hw5 := bseq hw4 hb5))
    go_quiet (fail)
    go_wp2_with (first | (go_at_call 19; (with_reducible refine (Hen.out _ (below_drewN hw5 _)).mono ?_); rintro e w6 ⟨v6, rfl, hn6, hb6⟩; have hw6 := bseq (below_drewN hw5 _) hb6; (first | rw [if_pos rfl] at hn6 | rw [if_pos trivial] at hn6); obtain ⟨A6, n6, hv6, hl6, hC6⟩ := hn6.shape; rw [Hln.out] at hv6; subst hv6; have hl6' : l.length ≤ n6 := Hln.out ▸ hl6) | (go_at_call 22; (with_reducible refine (Hvb.out _ _ _ hC6 hl6').mono ?_); rintro e w7 ⟨rfl, hb7⟩; have hw7 := bseq hw6 hb7))
    go_loopg [14, 15] l.length (fun g v14 v15 wr => ∃ k : Nat, v14 = .int .i64 (if kk < k then 1 else 0) ∧ v15 = .int .i64 k ∧ g + k = l.length ∧ Below w7.heap.size w7 wr)
    case atStart => exact ⟨0, by rw [if_neg (by omega)], rfl, by omega, Below.refl _ _⟩
    case round =>
      obtain ⟨k, rfl, rfl, hgk, hBr⟩ := hrel
      have hBW : Below w.heap.size w wr := bseq hw7 hBr
      by_cases hk : k < l.length
      · obtain ⟨ad, A8, c8, rfl, a0, a1, a2, a3, a4, a5, a6, a7, a8, a9, j8, J8⟩ := at36 hC hBW k hk
        obtain ⟨am, A9, c9, rfl, b0, b1, b2, b3, b4, b5, b6, b7, b8, b9, j9, J9⟩ := at36 hC6 (bseq hb7 hBr) k (by rw [Hln.out]; exact hk)
        have hy := (Hat.out.2 k hk)
        have hy0 := (Hat.out.1 k hk)
        have hfy : FewX (rd_T36 l (k : Int)) := HM.out.2.2 _ (by simp [rd_T36, hk])
        generalize rd_T36 m (k : Int) = z at *
        generalize rd_T36 l (k : Int) = y at *
        have n1 := World.block_lt_of_cell? _ _ b0
        have n2 := World.block_lt_of_cell? _ _ a0
        have h5 := hfy.2.2.2.2.2.1
        have HJ8 := hid J8
        have HJ9 := hid J9
        clear J8 J9 hfy
        by_cases hkk2 : k = kk
        · have e0 : y.f0 = id := hy0.2 hkk2
          rw [if_pos hkk2] at hy
          rw [if_neg (by omega)]
          subst hkk2
          subst hy
          have hsm := same_calls (ended y day) (by show y.f5.length ≤ _; omega)
          dsimp only [ended] at b0 b1 b2 b3 b4 b5 b6 b7 b8 b9 j9 HJ9 hsm
          have Hsm := hid hsm
          subst e0
          clear hy0 hsm
          go_wp2_with (fail)
          go_region_with (first | (go_at_call 25; (with_reducible refine (Hsm.out _ _ _ _ _ (Kd.C_below HJ9.out (by repeat (first | exact (bseq hb7 hBr) | refine below_alloc ?_ _ | refine below_drew ?_))) j9 (Kd.C_below HJ8.out (by repeat (first | exact hBW | refine below_alloc ?_ _ | refine below_drew ?_))) j8).mono ?_); rintro e w8 ⟨rfl, hb8⟩))
          all_goals go_wp2_with (fail)
          all_goals
            go_roundg (l.length - (k + 1))
            case rel => exact ⟨k + 1, by rw [if_pos (by omega)], by go_num, by omega, bseq hBr (bseq (by repeat (first | exact Below.refl _ _ | refine below_alloc ?_ _ | refine below_drew ?_)) hb8)⟩
            case measure => omega
        · have e0 : ¬ y.f0 = id := fun h => hkk2 (hy0.1 h)
          rw [if_neg hkk2] at hy
          subst hy
          have hne : (z.f0.toList == id.toList) = false := by
            rw [beq_eq_false_iff_ne]
            intro h
            exact e0 (ba_ext h)
          have hsm := same_calls z (by omega)
          have Hsm := hid hsm
          have hcn : (if kk < k then (1 : Int) else 0) = (if kk < k + 1 then (1 : Int) else 0) := by
            by_cases h : kk < k
            · rw [if_pos h, if_pos (by omega)]
            · rw [if_neg h, if_neg (by omega)]
          rw [hcn]
          generalize hen1 : (if kk < k + 1 then (1 : Int) else 0) = en
          have Hen1 := hid hen1
          clear hy0 hsm e0 hkk2 hcn hen1
          go_wp2_with (fail)
          go_region_with (first | (go_at_call 25; (with_reducible refine (Hsm.out _ _ _ _ _ (Kd.C_below HJ9.out (by repeat (first | exact (bseq hb7 hBr) | refine below_alloc ?_ _ | refine below_drew ?_))) j9 (Kd.C_below HJ8.out (by repeat (first | exact hBW | refine below_alloc ?_ _ | refine below_drew ?_))) j8).mono ?_); rintro e w8 ⟨rfl, hb8⟩))
          all_goals go_wp2_with (fail)
          all_goals
            go_roundg (l.length - (k + 1))
            case rel => exact ⟨k + 1, by rw [Hen1.out], by go_num, by omega, bseq hBr (bseq (by repeat (first | exact Below.refl _ _ | refine below_alloc ?_ _ | refine below_drew ?_)) hb8)⟩
            case measure => omega
      · have hkl : k = l.length := by omega
        subst hkl
        rw [if_pos hkk]
        go_wp2_with (fail)
        go_ret
        exact ⟨rfl, hBW⟩
  · generalize endE l id day = ee at *
    generalize endL l id day = m at *
    have Hen := hid hen
    have HM := hid (And.intro hM h20)
    clear hen hM h20
    go_enter Tryz.func7, Tryz.ntmps7
    go_wp2_with (first | (go_at_call 10; (with_reducible refine Hhd.out.mono ?_); rintro e w1 ⟨rfl, hb1⟩; have hw1 := bseq g0 hb1; have R1 := R0.below hb1; have c1 := R1.cell; have l1 := R1.lt) | (go_at_call 12; (with_reducible refine (Hfe.out _ hw1).mono ?_); rintro e w2 ⟨rfl, hb2⟩; have hw2 := bseq hw1 hb2; have R2 := R1.below hb2; have c2 := R2.cell; have l2 := R2.lt) | (go_at_call 12; (with_reducible refine (Hfx.out _ hw2).mono ?_); rintro e w3 ⟨rfl, hb3⟩; have g3 := below_alloc (Below.refl w2.heap.size w2) (.cells (hcells x A5 c5) 36); have hw3 := bseq (bseq hw2 g3) hb3; have R3 := (R2.below g3).below hb3; have c3 := R3.cell; have l3 := R3.lt) | (go_at_call 22; (with_reducible refine (Hva.out _ hw3).mono ?_); rintro e w4 ⟨rfl, hb4⟩; have hw4 := bseq hw3 hb4; have R4 := R3.below hb4; have c4 := R4.cell; have l4 := R4.lt) | (go_at_call 17; (with_reducible refine (Hpu.out _ hw4).mono ?_); rintro e w5 ⟨v5, rfl, hn5, hb5⟩; have hw5 := bseq hw4 hb5))
    go_quiet (fail)
    go_wp2_with (first | (go_at_call 19; (with_reducible refine (Hen.out _ (below_drewN hw5 _)).mono ?_); rintro e w6 ⟨v6, rfl, hn6, hb6⟩; have hw6 := bseq (below_drewN hw5 _) hb6; rw [if_neg he] at hn6; obtain ⟨A6, n6, rfl, hl6, hC6⟩ := hn6.shape) | fail)
    go_ret
    exact ⟨rfl, hw6⟩
end Go.Proofs.YthbcabnljcpaiaaGreatDoor.H
namespace Go.Proofs.YthbcabnljcpaiaaGreatDoor.H
open Go.RowKit Go.Shelf Go.Lib Go.Maps Go.Proofs.YthbcabnljcpaiaaGreatDoorW.PrintWords Go.Proofs.YthbcabnljcpaiaaGreatDoorW.PrintLast Go.Proofs.YthbcabnljcpaiaaGreatDoorW.PrintMore Go.Proofs.YthbcabnljcpaiaaGreatDoor.Q
set_option linter.unusedVariables false
set_option maxRecDepth 100000 in
set_option maxHeartbeats 16000000 in
theorem stays_b (l : List S36) (A : Option Addr) (c : Nat) (x : S36) (A5 : Option Addr) (c5 : Nat) (id : ByteArray) (day : Int) (w : World) (hC : HC w A l) (hc : l.length ≤ c) (hJ : Kd.C Kd.string w A5 x.f5.length x.f5) (j5 : x.f5.length ≤ c5) (ht : Tab w)
    (h20 : l.length ≤ 20 ∧ ∀ y ∈ l, FewX y) (hfx0 : FewX x) (q3 : ¬ (60 : Int) < id.size) (q4 : Valid l)
    (hfe : ∀ W, Below w.heap.size w W → Calls Tryz.prog 12 #[.slice A l.length c] W fun e w' => e = .returned (.bool true) ∧ Below W.heap.size W w')
    (hfx : ∀ W, Below w.heap.size w W → Calls Tryz.prog 12 #[.slice (some ⟨W.heap.size, 0, none⟩) 1 1] (W.alloc (.cells (hcells x A5 c5) 36)) fun e w' => e = .returned (.bool true) ∧ Below (W.alloc (.cells (hcells x A5 c5) 36)).heap.size (W.alloc (.cells (hcells x A5 c5) 36)) w') (hp : putE l x = 0) :
    Calls Tryz.prog 7 #[.slice A l.length c, .agg (hcells x A5 c5), .string id, .int .i64 day] w fun e w' => e = .returned (.bool true) ∧ Below w.heap.size w w' := by
  have R0 := Bx.new w 36 (hcells x A5 c5)
  have g0 := below_alloc (Below.refl w.heap.size w) (.cells (hcells x A5 c5) 36)
  have hhd := head_calls (w.alloc (.cells (hcells x A5 c5) 36)) (ht.below g0)
  have hM := few_modL h20
  have hva := fun W (h : Below w.heap.size w W) => valid_calls17 l A c hM W (Kd.C_below hC h) hc
  rw [decide_eq_true q4] at hva
  have hpu := fun W (h : Below w.heap.size w W) => put_calls l A c x A5 c5 hM (by omega) hfx0.mod W (Kd.C_below hC h) hc (Kd.C_below hJ h) j5
  have hen := fun W (h : Below w.heap.size w W) => end_calls l A c id day hM W (Kd.C_below hC h) hc
  have Hhd := hid hhd
  have Hfe := hid hfe
  have Hfx := hid hfx
  have Hva := hid hva
  have hl20 := h20.1
  clear hhd hfe hfx hva
  have hpv := put_valid hp
  rw [hp] at hpu
  have hM2 : ModL (l ++ [x]) := ⟨by simp; omega, fun y hy => by rcases List.mem_append.1 hy with h | h; exact hM.2 y h; rw [List.mem_singleton.1 h]; exact hfx0.mod⟩
  have hvp := fun W B n (hB : HC W B (l ++ [x])) (hn : l.length + 1 ≤ n) => valid_calls17 (l ++ [x]) B n hM2 W hB (by simpa using hn)
  rw [decide_eq_true hpv] at hvp
  have hls : (l ++ [x]).length = l.length + 1 := by simp
  rw [hls] at hvp
  have hsl := sames_calls l (by omega) (fun y hy => by have := (h20.2 y hy).2.2.2.2.2.1; omega)
  have hsx := same_calls x (by have := hfx0.2.2.2.2.2.1; omega)
  have hxl : rd_T36 (l ++ [x]) (l.length : Int) = x := by simp [rd_T36]
  have Hpu := hid hpu
  have Hvp := hid hvp
  have Hls := hid hls
  have Hsl := hid hsl
  have Hsx := hid hsx
  have Hxl := hid hxl
  clear hpu hpv hp hvp hls hsl hsx hxl hM2
  by_cases he : endE l id day = 0
  · obtain ⟨kk, hkk, hid1, hat⟩ := end_at he
    have hvb := fun W B n (hB : HC W B (endL l id day)) (hn : l.length ≤ n) => valid_calls17 (endL l id day) B n (endS_mod hM he) W hB (by rw [endS_len]; exact hn)
    rw [decide_eq_true (end_valid he)] at hvb
    simp only [endS_len] at hvb
    have hln := endS_len l id day
    rw [he] at hen
    clear he
    generalize endL l id day = m at *
    have Hen := hid hen
    have Hvb := hid hvb
    have Hln := hid hln
    have Hat := hid (And.intro hid1 hat)
    have HM := hid (And.intro hM h20)
    clear hen hvb hln hid1 hat hM h20
    go_enter Tryz.func7, Tryz.ntmps7
    go_wp2_with (first | (go_at_call 10; (with_reducible refine Hhd.out.mono ?_); rintro e w1 ⟨rfl, hb1⟩; have hw1 := bseq g0 hb1; have R1 := R0.below hb1; have c1 := R1.cell; have l1 := R1.lt) | (go_at_call 12; (with_reducible refine (Hfe.out _ hw1).mono ?_); rintro e w2 ⟨rfl, hb2⟩; have hw2 := bseq hw1 hb2; have R2 := R1.below hb2; have c2 := R2.cell; have l2 := R2.lt) | (go_at_call 12; (with_reducible refine (Hfx.out _ hw2).mono ?_); rintro e w3 ⟨rfl, hb3⟩; have g3 := below_alloc (Below.refl w2.heap.size w2) (.cells (hcells x A5 c5) 36); have hw3 := bseq (bseq hw2 g3) hb3; have R3 := (R2.below g3).below hb3; have c3 := R3.cell; have l3 := R3.lt) | (go_at_call 22; (with_reducible refine (Hva.out _ hw3).mono ?_); rintro e w4 ⟨rfl, hb4⟩; have hw4 := bseq hw3 hb4; have R4 := R3.below hb4; have c4 := R4.cell; have l4 := R4.lt) | (go_at_call 17; (with_reducible refine (Hpu.out _ hw4).mono ?_); rintro e w5 ⟨v5, rfl, hn5, hb5⟩; have hw5 := bseq hw4 hb5; (first | rw [if_pos rfl] at hn5 | rw [if_pos trivial] at hn5); obtain ⟨B5, n5, hv5, hl5, hC5⟩ := hn5.shape; rw [Hls.out] at hv5; subst hv5; have hl5' : l.length + 1 ≤ n5 := Hls.out ▸ hl5; obtain ⟨ad5, A7, c7, rfl, d0, d1, d2, d3, d4, d5, d6, d7, d8, d9, j7, J7⟩ := at36 hC5 (Below.refl _ _) l.length (by rw [Hls.out]; omega); rw [Hxl.out] at d0 d1 d2 d3 d4 d5 d6 d7 d8 d9 j7 J7; have HJ7 := hid J7; clear J7; have R5 := R4.below hb5; have c5' := R5.cell; have l5' := R5.lt))
    have hS : ∀ W, Below w5.heap.size w5 W → (Below w5.heap.size w5 W ∧ W.cell? (ad5.add (l.length * 10)) = some (.string x.f0) ∧ W.cell? ⟨(ad5.add (l.length * 10)).block, (ad5.add (l.length * 10)).off + 1, none⟩ = some (.string x.f1) ∧ W.cell? ⟨(ad5.add (l.length * 10)).block, (ad5.add (l.length * 10)).off + 2, none⟩ = some (.string x.f2) ∧ W.cell? ⟨(ad5.add (l.length * 10)).block, (ad5.add (l.length * 10)).off + 3, none⟩ = some (.string x.f3) ∧ W.cell? ⟨(ad5.add (l.length * 10)).block, (ad5.add (l.length * 10)).off + 4, none⟩ = some (.string x.f4) ∧ W.cell? ⟨(ad5.add (l.length * 10)).block, (ad5.add (l.length * 10)).off + 5, none⟩ = some (.slice A7 x.f5.length c7) ∧ W.cell? ⟨(ad5.add (l.length * 10)).block, (ad5.add (l.length * 10)).off + 6, none⟩ = some (.int .i64 x.f6) ∧ W.cell? ⟨(ad5.add (l.length * 10)).block, (ad5.add (l.length * 10)).off + 7, none⟩ = some (.int .i64 x.f7) ∧ W.cell? ⟨(ad5.add (l.length * 10)).block, (ad5.add (l.length * 10)).off + 8, none⟩ = some (.int .i64 x.f8) ∧ W.cell? ⟨(ad5.add (l.length * 10)).block, (ad5.add (l.length * 10)).off + 9, none⟩ = some (.int .i64 x.f9) ∧ W.cell? ⟨w.heap.size, 0, none⟩ = some (.string x.f0) ∧ W.cell? ⟨w.heap.size, 1, none⟩ = some (.string x.f1) ∧ W.cell? ⟨w.heap.size, 2, none⟩ = some (.string x.f2) ∧ W.cell? ⟨w.heap.size, 3, none⟩ = some (.string x.f3) ∧ W.cell? ⟨w.heap.size, 4, none⟩ = some (.string x.f4) ∧ W.cell? ⟨w.heap.size, 5, none⟩ = some (.slice A5 x.f5.length c5) ∧ W.cell? ⟨w.heap.size, 6, none⟩ = some (.int .i64 x.f6) ∧ W.cell? ⟨w.heap.size, 7, none⟩ = some (.int .i64 x.f7) ∧ W.cell? ⟨w.heap.size, 8, none⟩ = some (.int .i64 x.f8) ∧ W.cell? ⟨w.heap.size, 9, none⟩ = some (.int .i64 x.f9)) := fun W h => ⟨h, cellB h d0, cellB h d1, cellB h d2, cellB h d3, cellB h d4, cellB h d5, cellB h d6, cellB h d7, cellB h d8, cellB h d9, cellB h (c5' 0), cellB h (c5' 1), cellB h (c5' 2), cellB h (c5' 3), cellB h (c5' 4), cellB h (c5' 5), cellB h (c5' 6), cellB h (c5' 7), cellB h (c5' 8), cellB h (c5' 9)⟩
    have HS := hid hS
    have hsum : IntKind.i64.wrap ((l.length : Int) + 1) = (l.length : Int) + 1 := IntWalk.i64_in _ (by omega)
    have y1 : (0 : Int) ≤ (l.length : Int) := by omega
    have y2 : (l.length : Int) ≤ (n5 : Int) := by omega
    have y3 : (l.length : Int) < ((l.length + 1 : Nat) : Int) := by omega
    have y4 : (l.length : Int) < (l.length : Int) + 1 := by omega
    clear hS c1 l1 c2 l2 c3 l3 c4 l4 c5' l5' d0 d1 d2 d3 d4 d5 d6 d7 d8 d9
    go_region_held3 (fun W => Below w5.heap.size w5 W ∧ W.cell? (ad5.add (l.length * 10)) = some (.string x.f0) ∧ W.cell? ⟨(ad5.add (l.length * 10)).block, (ad5.add (l.length * 10)).off + 1, none⟩ = some (.string x.f1) ∧ W.cell? ⟨(ad5.add (l.length * 10)).block, (ad5.add (l.length * 10)).off + 2, none⟩ = some (.string x.f2) ∧ W.cell? ⟨(ad5.add (l.length * 10)).block, (ad5.add (l.length * 10)).off + 3, none⟩ = some (.string x.f3) ∧ W.cell? ⟨(ad5.add (l.length * 10)).block, (ad5.add (l.length * 10)).off + 4, none⟩ = some (.string x.f4) ∧ W.cell? ⟨(ad5.add (l.length * 10)).block, (ad5.add (l.length * 10)).off + 5, none⟩ = some (.slice A7 x.f5.length c7) ∧ W.cell? ⟨(ad5.add (l.length * 10)).block, (ad5.add (l.length * 10)).off + 6, none⟩ = some (.int .i64 x.f6) ∧ W.cell? ⟨(ad5.add (l.length * 10)).block, (ad5.add (l.length * 10)).off + 7, none⟩ = some (.int .i64 x.f7) ∧ W.cell? ⟨(ad5.add (l.length * 10)).block, (ad5.add (l.length * 10)).off + 8, none⟩ = some (.int .i64 x.f8) ∧ W.cell? ⟨(ad5.add (l.length * 10)).block, (ad5.add (l.length * 10)).off + 9, none⟩ = some (.int .i64 x.f9) ∧ W.cell? ⟨w.heap.size, 0, none⟩ = some (.string x.f0) ∧ W.cell? ⟨w.heap.size, 1, none⟩ = some (.string x.f1) ∧ W.cell? ⟨w.heap.size, 2, none⟩ = some (.string x.f2) ∧ W.cell? ⟨w.heap.size, 3, none⟩ = some (.string x.f3) ∧ W.cell? ⟨w.heap.size, 4, none⟩ = some (.string x.f4) ∧ W.cell? ⟨w.heap.size, 5, none⟩ = some (.slice A5 x.f5.length c5) ∧ W.cell? ⟨w.heap.size, 6, none⟩ = some (.int .i64 x.f6) ∧ W.cell? ⟨w.heap.size, 7, none⟩ = some (.int .i64 x.f7) ∧ W.cell? ⟨w.heap.size, 8, none⟩ = some (.int .i64 x.f8) ∧ W.cell? ⟨w.heap.size, 9, none⟩ = some (.int .i64 x.f9)) (exact HS.out _ (by repeat (first | exact Below.refl _ _ | refine below_alloc ?_ _ | refine below_drew ?_ | refine below_drewN ?_ _ | refine bseq ?_ (by assumption)))) (first | (go_at_call 22; (with_reducible refine (Hvp.out _ _ _ (Kd.C_below hC5 (by repeat (first | exact Below.refl _ _ | refine below_alloc ?_ _ | refine below_drew ?_ | refine below_drewN ?_ _ | refine bseq ?_ (by assumption)))) hl5').mono ?_); rintro e w8 ⟨rfl, hb8⟩) | (go_at_call 24; (with_reducible refine (Hsl.out _ _ _ _ _ (HC.front (Kd.C_below hC5 (by repeat (first | exact Below.refl _ _ | refine below_alloc ?_ _ | refine below_drew ?_ | refine below_drewN ?_ _ | refine bseq ?_ (by assumption))))) (by omega) (Kd.C_below hC (by repeat (first | exact Below.refl _ _ | refine below_alloc ?_ _ | refine below_drew ?_ | refine below_drewN ?_ _ | refine bseq ?_ (by assumption)))) hc).mono ?_); rintro e w9 ⟨rfl, hb9⟩) | (go_at_call 25; (with_reducible refine (Hsx.out _ _ _ _ _ (Kd.C_below HJ7.out (by repeat (first | exact Below.refl _ _ | refine below_alloc ?_ _ | refine below_drew ?_ | refine below_drewN ?_ _ | refine bseq ?_ (by assumption)))) j7 (Kd.C_below hJ (by repeat (first | exact Below.refl _ _ | refine below_alloc ?_ _ | refine below_drew ?_ | refine below_drewN ?_ _ | refine bseq ?_ (by assumption)))) j5).mono ?_); rintro e w10 ⟨rfl, hb10⟩))
    have hw10 := bseq (bseq (bseq hw5.drew hb8) hb9) hb10
    clear hb8 hb9 hb10
    go_wp2_with (first | (go_at_call 19; (with_reducible refine (Hen.out _ hw10).mono ?_); rintro e w6 ⟨v6, rfl, hn6, hb6⟩; have hw6 := bseq hw10 hb6; (first | rw [if_pos rfl] at hn6 | rw [if_pos trivial] at hn6); obtain ⟨A6, n6, hv6, hl6, hC6⟩ := hn6.shape; rw [Hln.out] at hv6; subst hv6; have hl6' : l.length ≤ n6 := Hln.out ▸ hl6) | (go_at_call 22; (with_reducible refine (Hvb.out _ _ _ hC6 hl6').mono ?_); rintro e w7 ⟨rfl, hb7⟩; have hw7 := bseq hw6 hb7))
    go_loopg [14, 15] l.length (fun g v14 v15 wr => ∃ k : Nat, v14 = .int .i64 (if kk < k then 1 else 0) ∧ v15 = .int .i64 k ∧ g + k = l.length ∧ Below w7.heap.size w7 wr)
    case atStart => exact ⟨0, by rw [if_neg (by omega)], rfl, by omega, Below.refl _ _⟩
    case round =>
      obtain ⟨k, rfl, rfl, hgk, hBr⟩ := hrel
      have hBW : Below w.heap.size w wr := bseq hw7 hBr
      by_cases hk : k < l.length
      · obtain ⟨ad, A8, c8, rfl, a0, a1, a2, a3, a4, a5, a6, a7, a8, a9, j8, J8⟩ := at36 hC hBW k hk
        obtain ⟨am, A9, c9, rfl, b0, b1, b2, b3, b4, b5, b6, b7, b8, b9, j9, J9⟩ := at36 hC6 (bseq hb7 hBr) k (by rw [Hln.out]; exact hk)
        have hy := (Hat.out.2 k hk)
        have hy0 := (Hat.out.1 k hk)
        have hfy : FewX (rd_T36 l (k : Int)) := HM.out.2.2 _ (by simp [rd_T36, hk])
        generalize rd_T36 m (k : Int) = z at *
        generalize rd_T36 l (k : Int) = y at *
        have n1 := World.block_lt_of_cell? _ _ b0
        have n2 := World.block_lt_of_cell? _ _ a0
        have h5 := hfy.2.2.2.2.2.1
        have HJ8 := hid J8
        have HJ9 := hid J9
        clear J8 J9 hfy
        by_cases hkk2 : k = kk
        · have e0 : y.f0 = id := hy0.2 hkk2
          rw [if_pos hkk2] at hy
          rw [if_neg (by omega)]
          subst hkk2
          subst hy
          have hsm := same_calls (ended y day) (by show y.f5.length ≤ _; omega)
          dsimp only [ended] at b0 b1 b2 b3 b4 b5 b6 b7 b8 b9 j9 HJ9 hsm
          have Hsm := hid hsm
          subst e0
          clear hy0 hsm
          go_wp2_with (fail)
          go_region_with (first | (go_at_call 25; (with_reducible refine (Hsm.out _ _ _ _ _ (Kd.C_below HJ9.out (by repeat (first | exact (bseq hb7 hBr) | refine below_alloc ?_ _ | refine below_drew ?_))) j9 (Kd.C_below HJ8.out (by repeat (first | exact hBW | refine below_alloc ?_ _ | refine below_drew ?_))) j8).mono ?_); rintro e w8 ⟨rfl, hb8⟩))
          all_goals go_wp2_with (fail)
          all_goals
            go_roundg (l.length - (k + 1))
            case rel => exact ⟨k + 1, by rw [if_pos (by omega)], by go_num, by omega, bseq hBr (bseq (by repeat (first | exact Below.refl _ _ | refine below_alloc ?_ _ | refine below_drew ?_)) hb8)⟩
            case measure => omega
        · have e0 : ¬ y.f0 = id := fun h => hkk2 (hy0.1 h)
          rw [if_neg hkk2] at hy
          subst hy
          have hne : (z.f0.toList == id.toList) = false := by
            rw [beq_eq_false_iff_ne]
            intro h
            exact e0 (ba_ext h)
          have hsm := same_calls z (by omega)
          have Hsm := hid hsm
          have hcn : (if kk < k then (1 : Int) else 0) = (if kk < k + 1 then (1 : Int) else 0) := by
            by_cases h : kk < k
            · rw [if_pos h, if_pos (by omega)]
            · rw [if_neg h, if_neg (by omega)]
          rw [hcn]
          generalize hen1 : (if kk < k + 1 then (1 : Int) else 0) = en
          have Hen1 := hid hen1
          clear hy0 hsm e0 hkk2 hcn hen1
          go_wp2_with (fail)
          go_region_with (first | (go_at_call 25; (with_reducible refine (Hsm.out _ _ _ _ _ (Kd.C_below HJ9.out (by repeat (first | exact (bseq hb7 hBr) | refine below_alloc ?_ _ | refine below_drew ?_))) j9 (Kd.C_below HJ8.out (by repeat (first | exact hBW | refine below_alloc ?_ _ | refine below_drew ?_))) j8).mono ?_); rintro e w8 ⟨rfl, hb8⟩))
          all_goals go_wp2_with (fail)
          all_goals
            go_roundg (l.length - (k + 1))
            case rel => exact ⟨k + 1, by rw [Hen1.out], by go_num, by omega, bseq hBr (bseq (by repeat (first | exact Below.refl _ _ | refine below_alloc ?_ _ | refine below_drew ?_)) hb8)⟩
            case measure => omega
      · have hkl : k = l.length := by omega
        subst hkl
        rw [if_pos hkk]
        go_wp2_with (fail)
        go_ret
        exact ⟨rfl, hBW⟩
  · generalize endE l id day = ee at *
    generalize endL l id day = m at *
    have Hen := hid hen
    have HM := hid (And.intro hM h20)
    clear hen hM h20
    go_enter Tryz.func7, Tryz.ntmps7
    go_wp2_with (first | (go_at_call 10; (with_reducible refine Hhd.out.mono ?_); rintro e w1 ⟨rfl, hb1⟩; have hw1 := bseq g0 hb1; have R1 := R0.below hb1; have c1 := R1.cell; have l1 := R1.lt) | (go_at_call 12; (with_reducible refine (Hfe.out _ hw1).mono ?_); rintro e w2 ⟨rfl, hb2⟩; have hw2 := bseq hw1 hb2; have R2 := R1.below hb2; have c2 := R2.cell; have l2 := R2.lt) | (go_at_call 12; (with_reducible refine (Hfx.out _ hw2).mono ?_); rintro e w3 ⟨rfl, hb3⟩; have g3 := below_alloc (Below.refl w2.heap.size w2) (.cells (hcells x A5 c5) 36); have hw3 := bseq (bseq hw2 g3) hb3; have R3 := (R2.below g3).below hb3; have c3 := R3.cell; have l3 := R3.lt) | (go_at_call 22; (with_reducible refine (Hva.out _ hw3).mono ?_); rintro e w4 ⟨rfl, hb4⟩; have hw4 := bseq hw3 hb4; have R4 := R3.below hb4; have c4 := R4.cell; have l4 := R4.lt) | (go_at_call 17; (with_reducible refine (Hpu.out _ hw4).mono ?_); rintro e w5 ⟨v5, rfl, hn5, hb5⟩; have hw5 := bseq hw4 hb5; (first | rw [if_pos rfl] at hn5 | rw [if_pos trivial] at hn5); obtain ⟨B5, n5, hv5, hl5, hC5⟩ := hn5.shape; rw [Hls.out] at hv5; subst hv5; have hl5' : l.length + 1 ≤ n5 := Hls.out ▸ hl5; obtain ⟨ad5, A7, c7, rfl, d0, d1, d2, d3, d4, d5, d6, d7, d8, d9, j7, J7⟩ := at36 hC5 (Below.refl _ _) l.length (by rw [Hls.out]; omega); rw [Hxl.out] at d0 d1 d2 d3 d4 d5 d6 d7 d8 d9 j7 J7; have HJ7 := hid J7; clear J7; have R5 := R4.below hb5; have c5' := R5.cell; have l5' := R5.lt))
    have hS : ∀ W, Below w5.heap.size w5 W → (Below w5.heap.size w5 W ∧ W.cell? (ad5.add (l.length * 10)) = some (.string x.f0) ∧ W.cell? ⟨(ad5.add (l.length * 10)).block, (ad5.add (l.length * 10)).off + 1, none⟩ = some (.string x.f1) ∧ W.cell? ⟨(ad5.add (l.length * 10)).block, (ad5.add (l.length * 10)).off + 2, none⟩ = some (.string x.f2) ∧ W.cell? ⟨(ad5.add (l.length * 10)).block, (ad5.add (l.length * 10)).off + 3, none⟩ = some (.string x.f3) ∧ W.cell? ⟨(ad5.add (l.length * 10)).block, (ad5.add (l.length * 10)).off + 4, none⟩ = some (.string x.f4) ∧ W.cell? ⟨(ad5.add (l.length * 10)).block, (ad5.add (l.length * 10)).off + 5, none⟩ = some (.slice A7 x.f5.length c7) ∧ W.cell? ⟨(ad5.add (l.length * 10)).block, (ad5.add (l.length * 10)).off + 6, none⟩ = some (.int .i64 x.f6) ∧ W.cell? ⟨(ad5.add (l.length * 10)).block, (ad5.add (l.length * 10)).off + 7, none⟩ = some (.int .i64 x.f7) ∧ W.cell? ⟨(ad5.add (l.length * 10)).block, (ad5.add (l.length * 10)).off + 8, none⟩ = some (.int .i64 x.f8) ∧ W.cell? ⟨(ad5.add (l.length * 10)).block, (ad5.add (l.length * 10)).off + 9, none⟩ = some (.int .i64 x.f9) ∧ W.cell? ⟨w.heap.size, 0, none⟩ = some (.string x.f0) ∧ W.cell? ⟨w.heap.size, 1, none⟩ = some (.string x.f1) ∧ W.cell? ⟨w.heap.size, 2, none⟩ = some (.string x.f2) ∧ W.cell? ⟨w.heap.size, 3, none⟩ = some (.string x.f3) ∧ W.cell? ⟨w.heap.size, 4, none⟩ = some (.string x.f4) ∧ W.cell? ⟨w.heap.size, 5, none⟩ = some (.slice A5 x.f5.length c5) ∧ W.cell? ⟨w.heap.size, 6, none⟩ = some (.int .i64 x.f6) ∧ W.cell? ⟨w.heap.size, 7, none⟩ = some (.int .i64 x.f7) ∧ W.cell? ⟨w.heap.size, 8, none⟩ = some (.int .i64 x.f8) ∧ W.cell? ⟨w.heap.size, 9, none⟩ = some (.int .i64 x.f9)) := fun W h => ⟨h, cellB h d0, cellB h d1, cellB h d2, cellB h d3, cellB h d4, cellB h d5, cellB h d6, cellB h d7, cellB h d8, cellB h d9, cellB h (c5' 0), cellB h (c5' 1), cellB h (c5' 2), cellB h (c5' 3), cellB h (c5' 4), cellB h (c5' 5), cellB h (c5' 6), cellB h (c5' 7), cellB h (c5' 8), cellB h (c5' 9)⟩
    have HS := hid hS
    have hsum : IntKind.i64.wrap ((l.length : Int) + 1) = (l.length : Int) + 1 := IntWalk.i64_in _ (by omega)
    have y1 : (0 : Int) ≤ (l.length : Int) := by omega
    have y2 : (l.length : Int) ≤ (n5 : Int) := by omega
    have y3 : (l.length : Int) < ((l.length + 1 : Nat) : Int) := by omega
    have y4 : (l.length : Int) < (l.length : Int) + 1 := by omega
    clear hS c1 l1 c2 l2 c3 l3 c4 l4 c5' l5' d0 d1 d2 d3 d4 d5 d6 d7 d8 d9
    go_region_held3 (fun W => Below w5.heap.size w5 W ∧ W.cell? (ad5.add (l.length * 10)) = some (.string x.f0) ∧ W.cell? ⟨(ad5.add (l.length * 10)).block, (ad5.add (l.length * 10)).off + 1, none⟩ = some (.string x.f1) ∧ W.cell? ⟨(ad5.add (l.length * 10)).block, (ad5.add (l.length * 10)).off + 2, none⟩ = some (.string x.f2) ∧ W.cell? ⟨(ad5.add (l.length * 10)).block, (ad5.add (l.length * 10)).off + 3, none⟩ = some (.string x.f3) ∧ W.cell? ⟨(ad5.add (l.length * 10)).block, (ad5.add (l.length * 10)).off + 4, none⟩ = some (.string x.f4) ∧ W.cell? ⟨(ad5.add (l.length * 10)).block, (ad5.add (l.length * 10)).off + 5, none⟩ = some (.slice A7 x.f5.length c7) ∧ W.cell? ⟨(ad5.add (l.length * 10)).block, (ad5.add (l.length * 10)).off + 6, none⟩ = some (.int .i64 x.f6) ∧ W.cell? ⟨(ad5.add (l.length * 10)).block, (ad5.add (l.length * 10)).off + 7, none⟩ = some (.int .i64 x.f7) ∧ W.cell? ⟨(ad5.add (l.length * 10)).block, (ad5.add (l.length * 10)).off + 8, none⟩ = some (.int .i64 x.f8) ∧ W.cell? ⟨(ad5.add (l.length * 10)).block, (ad5.add (l.length * 10)).off + 9, none⟩ = some (.int .i64 x.f9) ∧ W.cell? ⟨w.heap.size, 0, none⟩ = some (.string x.f0) ∧ W.cell? ⟨w.heap.size, 1, none⟩ = some (.string x.f1) ∧ W.cell? ⟨w.heap.size, 2, none⟩ = some (.string x.f2) ∧ W.cell? ⟨w.heap.size, 3, none⟩ = some (.string x.f3) ∧ W.cell? ⟨w.heap.size, 4, none⟩ = some (.string x.f4) ∧ W.cell? ⟨w.heap.size, 5, none⟩ = some (.slice A5 x.f5.length c5) ∧ W.cell? ⟨w.heap.size, 6, none⟩ = some (.int .i64 x.f6) ∧ W.cell? ⟨w.heap.size, 7, none⟩ = some (.int .i64 x.f7) ∧ W.cell? ⟨w.heap.size, 8, none⟩ = some (.int .i64 x.f8) ∧ W.cell? ⟨w.heap.size, 9, none⟩ = some (.int .i64 x.f9)) (exact HS.out _ (by repeat (first | exact Below.refl _ _ | refine below_alloc ?_ _ | refine below_drew ?_ | refine below_drewN ?_ _ | refine bseq ?_ (by assumption)))) (first | (go_at_call 22; (with_reducible refine (Hvp.out _ _ _ (Kd.C_below hC5 (by repeat (first | exact Below.refl _ _ | refine below_alloc ?_ _ | refine below_drew ?_ | refine below_drewN ?_ _ | refine bseq ?_ (by assumption)))) hl5').mono ?_); rintro e w8 ⟨rfl, hb8⟩) | (go_at_call 24; (with_reducible refine (Hsl.out _ _ _ _ _ (HC.front (Kd.C_below hC5 (by repeat (first | exact Below.refl _ _ | refine below_alloc ?_ _ | refine below_drew ?_ | refine below_drewN ?_ _ | refine bseq ?_ (by assumption))))) (by omega) (Kd.C_below hC (by repeat (first | exact Below.refl _ _ | refine below_alloc ?_ _ | refine below_drew ?_ | refine below_drewN ?_ _ | refine bseq ?_ (by assumption)))) hc).mono ?_); rintro e w9 ⟨rfl, hb9⟩) | (go_at_call 25; (with_reducible refine (Hsx.out _ _ _ _ _ (Kd.C_below HJ7.out (by repeat (first | exact Below.refl _ _ | refine below_alloc ?_ _ | refine below_drew ?_ | refine below_drewN ?_ _ | refine bseq ?_ (by assumption)))) j7 (Kd.C_below hJ (by repeat (first | exact Below.refl _ _ | refine below_alloc ?_ _ | refine below_drew ?_ | refine below_drewN ?_ _ | refine bseq ?_ (by assumption)))) j5).mono ?_); rintro e w10 ⟨rfl, hb10⟩))
    have hw10 := bseq (bseq (bseq hw5.drew hb8) hb9) hb10
    clear hb8 hb9 hb10
    go_wp2_with (first | (go_at_call 19; (with_reducible refine (Hen.out _ hw10).mono ?_); rintro e w6 ⟨v6, rfl, hn6, hb6⟩; have hw6 := bseq hw10 hb6; rw [if_neg he] at hn6; obtain ⟨A6, n6, rfl, hl6, hC6⟩ := hn6.shape) | fail)
    go_ret
    exact ⟨rfl, hw6⟩
set_option maxRecDepth 100000 in
theorem stays_calls (l : List S36) (A : Option Addr) (c : Nat) (x : S36) (A5 : Option Addr) (c5 : Nat) (id : ByteArray) (day : Int) (w : World) (hC : HC w A l) (hc : l.length ≤ c) (hJ : Kd.C Kd.string w A5 x.f5.length x.f5) (j5 : x.f5.length ≤ c5) (ht : Tab w) :
    Calls Tryz.prog 7 #[.slice A l.length c, .agg (hcells x A5 c5), .string id, .int .i64 day] w fun e w' => e = .returned (.bool true) ∧ Below w.heap.size w w' := by
  by_cases hq : (l.length ≤ 20 ∧ ∀ y ∈ l, FewX y) ∧ FewX x ∧ id.size ≤ 60 ∧ Valid l
  · obtain ⟨h20, hfx0, q3, q4⟩ := hq
    obtain ⟨b, hb, hfew⟩ := few_calls17 l
    obtain ⟨b2, hb2, hfew2⟩ := few_calls17 [x]
    have hfe := fun W (h : Below w.heap.size w W) => hfew A c W (Kd.C_below hC h) hc
    have hfx : ∀ W, Below w.heap.size w W → Calls Tryz.prog 12 #[.slice (some ⟨W.heap.size, 0, none⟩) 1 1] (W.alloc (.cells (hcells x A5 c5) 36)) fun e w' => e = .returned (.bool b2) ∧ Below (W.alloc (.cells (hcells x A5 c5) 36)).heap.size (W.alloc (.cells (hcells x A5 c5) 36)) w' := fun W h => by
      have hB := Bx.new W 36 (hcells x A5 c5)
      have g1 := below_alloc (Below.refl W.heap.size W) (.cells (hcells x A5 c5) 36)
      exact hfew2 (some ⟨W.heap.size, 0, none⟩) 1 _ (Kd.F_now (F_one hB (Kd.F_below (Kd.C_F Kd.heap_string hJ) (bseq h g1)) j5)) (Nat.le_refl _)
    rcases b with _ | _
    · exact stays_y1 l A c x A5 c5 id day w hC hc hJ j5 ht hfe
    rcases b2 with _ | _
    · exact stays_y2 l A c x A5 c5 id day w hC hc hJ j5 ht hfe hfx
    by_cases hp : putE l x = 0
    · exact stays_b l A c x A5 c5 id day w hC hc hJ j5 ht h20 hfx0 (by omega) q4 hfe hfx hp
    · exact stays_a l A c x A5 c5 id day w hC hc hJ j5 ht h20 hfx0 (by omega) q4 hfe hfx hp
  · exact stays_x l A c x A5 c5 id day w hC hc hJ j5 ht hq
end Go.Proofs.YthbcabnljcpaiaaGreatDoor.H
namespace Go.Proofs.YthbcabnljcpaiaaGreatDoor
open Go.RowKit Go.Shelf Go.Lib Go.ChangeShapes Go.WideShapes Go.ChangeAt Go.Deep Go.Proofs.YthbcabnljcpaiaaGreatDoorW.PrintWords Go.Proofs.YthbcabnljcpaiaaGreatDoor.Q Go.Proofs.YthbcabnljcpaiaaGreatDoor.H
set_option linter.unusedVariables false
set_option maxRecDepth 100000 in
theorem registerStays_contract (E : Type) (enc : TypeId × Value → E) (W : World) (base : Nat) (args : Array Value) (ds gs : List (DataW E)) (before : List MemPlace)
    (hval : ∀ (j : Nat) t v, Tryz.f7.params[j]? = some t → args[j]? = some v → Value.okWide Tryz.prog W .any base t v)
    (hW : DataW.Whole enc Tryz.prog Tryz.f7.params.toList Rows.registerStaysSpec.vars false W args.toList ds gs before) (hL : laidMetH Tryz.prog Rows.registerStaysRow.laid W) :
    Calls Tryz.prog 7 args W fun e W' => ∃ v, e = .returned v ∧ Rows.registerStaysSpec.post enc Tryz.prog Tryz.f7 false true false false W args v W' := by
  have hW' := hW
  obtain ⟨p, q, hA0, hV, rfl, hfz, hnd⟩ := hW
  have hA : DataW.TrodAll enc Tryz.prog W 0 (fun _ => true) true Tryz.f7.params.toList args.toList ds p := hA0
  rw [Tryz.params7] at hA hval
  obtain ⟨v0, vs0, d0, ds0, p0, q0, hargs, rfl, rfl, h0, r0⟩ := trodAll_cons hA
  obtain ⟨v1, vs1, d1, ds1, p1, q1, rfl, rfl, rfl, h1, r1⟩ := trodAll_cons r0
  obtain ⟨v2, vs2, d2, ds2, p2, q2, rfl, rfl, rfl, h2, r2⟩ := trodAll_cons r1
  obtain ⟨v3, vs3, d3, ds3, p3, q3, rfl, rfl, rfl, h3, r3⟩ := trodAll_cons r2
  obtain ⟨rfl, rfl, rfl⟩ := trodAll_nil r3
  obtain rfl : args = #[v0, v1, v2, v3] := by cases args; simp_all
  obtain ⟨rfl, rfl⟩ := trodVars_none hV
  obtain ⟨a0, len0, cap0, rfl⟩ := okWide_slice Tryz.underlying26 (hval 0 26 v0 rfl rfl)
  have k0 := h0
  have lt0 : ∀ x ∈ p0, x.block < W.heap.size := by obtain ⟨m, hm⟩ := k0; exact DataW.trod_lt m _ _ _ hm
  obtain ⟨l0, rfl, hc0, hC0, hI0⟩ : ∃ l : List S36, l.length = len0 ∧ len0 ≤ cap0 ∧ HC W a0 l ∧ ∀ y ∈ l, I64 y.f6 ∧ I64 y.f7 ∧ I64 y.f8 ∧ I64 y.f9 := by
    obtain ⟨fuel, hf⟩ := h0
    exact open_holdings hf
  obtain ⟨cs1, rfl, hsz1⟩ := okWide_struct Tryz.underlying36 (hval 1 36 v1 rfl rfl)
  have k1 := h1
  have lt1 : ∀ x ∈ p1, x.block < W.heap.size := by obtain ⟨m, hm⟩ := k1; exact DataW.trod_lt m _ _ _ hm
  obtain ⟨y1, A1, c1, rfl, hj1, hJ1, hY1⟩ : ∃ (y : S36) (A : Option Addr) (c : Nat), cs1 = hcells y A c ∧ y.f5.length ≤ c ∧ Kd.C Kd.string W A y.f5.length y.f5 ∧ I64 y.f6 ∧ I64 y.f7 ∧ I64 y.f8 ∧ I64 y.f9 := by
    obtain ⟨fuel, hf⟩ := h1
    exact open_holding hf
  obtain ⟨s2, rfl⟩ := okWide_string Tryz.underlying9 (hval 2 9 v2 rfl rfl)
  have k2 := h2
  have lt2 : ∀ x ∈ p2, x.block < W.heap.size := by obtain ⟨m, hm⟩ := k2; exact DataW.trod_lt m _ _ _ hm
  obtain ⟨n3, rfl, rfl, rfl, w3⟩ := open_int Tryz.underlying3 (hval 3 3 v3 rfl rfl) h3
  clear hA0 hval
  have T : Tab W := table hL
  refine (stays_calls l0 a0 cap0 y1 A1 c1 s2 n3 W hC0 hc0 hJ1 hj1 T).mono fun e W' ⟨he, bel⟩ => ?_
  subst he
  exact ⟨_, rfl, _, _, _, [], _, [], hW', trodAll_mk1 (shut_bool Tryz.underlying4 _), trodAll_cons_mk (Below.trod laidOut (by kernel_rfl) (of_decide_eq_true (by kernel_rfl)) k0 bel lt0) (trodAll_cons_mk (Below.trod laidOut (by kernel_rfl) (of_decide_eq_true (by kernel_rfl)) k1 bel lt1) (trodAll_cons_mk (Below.trod laidOut (by kernel_rfl) (of_decide_eq_true (by kernel_rfl)) k2 bel lt2) (trodAll_cons_mk (shut_int Tryz.underlying3 w3) trodAll_mk0))), rfl, bel.frame _, fun h => by cases h⟩
end Go.Proofs.YthbcabnljcpaiaaGreatDoor
namespace Go.Proofs.YthbcabnljcpaiaaGreatDoor
open Go.RowKit Go.Shelf Go.Lib Go.ChangeShapes Go.WideShapes Go.ChangeAt Go.Deep Go.Proofs.YthbcabnljcpaiaaGreatDoorW.PrintWords Go.Proofs.YthbcabnljcpaiaaGreatDoor.Q Go.Proofs.YthbcabnljcpaiaaGreatDoor.H
set_option linter.unusedVariables false
theorem registerStays_reads (os : Os) {E : Type} (enc : TypeId × Value → E) : ∃ places, DataW.whole enc Tryz.prog ((laidWorld os).forCall (fun _ _ => 0) ⟨#[], #[.slice none 0 0, .agg #[.string ⟨#[]⟩, .string ⟨#[]⟩, .string ⟨#[]⟩, .string ⟨#[]⟩, .string ⟨#[]⟩, .slice none 0 0, .int .i64 0, .int .i64 0, .int .i64 0, .int .i64 0], .string ⟨#[]⟩, .int .i64 0], []⟩).memory Tryz.f7.params.toList Rows.registerStaysSpec.vars false #[Value.slice none 0 0, .agg #[.string ⟨#[]⟩, .string ⟨#[]⟩, .string ⟨#[]⟩, .string ⟨#[]⟩, .string ⟨#[]⟩, .slice none 0 0, .int .i64 0, .int .i64 0, .int .i64 0, .int .i64 0], .string ⟨#[]⟩, .int .i64 0].toList 8 = some ([.nil, .agg [.lit (.string []), .lit (.string []), .lit (.string []), .lit (.string []), .lit (.string []), .nil, .lit (.int .i64 0), .lit (.int .i64 0), .lit (.int .i64 0), .lit (.int .i64 0)], .lit (.string []), .lit (.int .i64 0)], [], places) :=
  ⟨[], by kernel_rfl⟩
theorem registerStays_laid (os : Os) : laidMet Tryz.prog Rows.registerStaysRow.laid ((laidWorld os).forCall (fun _ _ => 0) ⟨#[], #[.slice none 0 0, .agg #[.string ⟨#[]⟩, .string ⟨#[]⟩, .string ⟨#[]⟩, .string ⟨#[]⟩, .string ⟨#[]⟩, .slice none 0 0, .int .i64 0, .int .i64 0, .int .i64 0, .int .i64 0], .string ⟨#[]⟩, .int .i64 0], []⟩).memory := laid_met os
set_option maxRecDepth 100000 in
theorem registerStays_lifted (os : Os) (started : os.Started) (E : Type) (enc : TypeId × Value → E) (F : Stop.Interp) :
    ReturnsInHanded {} Tryz.checked os 7 .any ((OpenSpec.ofChange Rows.registerStaysSpec).preRow enc Tryz.prog Tryz.f7 Rows.registerStaysRow.domain false Rows.registerStaysRow.laid) (((OpenSpec.ofChange Rows.registerStaysSpec).at F).post enc Tryz.prog Tryz.f7 false true false false) := by
  obtain ⟨places, hx⟩ := registerStays_reads os enc
  refine returnsInHanded_of_row (C := Tryz.checked) (s := OpenSpec.ofChange Rows.registerStaysSpec) own started (by kernel_rfl) Tryz.func7
    (witness_row_at (enc := enc) (C := Tryz.checked) false (laidWorld os) #[.slice none 0 0, .agg #[.string ⟨#[]⟩, .string ⟨#[]⟩, .string ⟨#[]⟩, .string ⟨#[]⟩, .string ⟨#[]⟩, .slice none 0 0, .int .i64 0, .int .i64 0, .int .i64 0, .int .i64 0], .string ⟨#[]⟩, .int .i64 0] rfl (by kernel_rfl) (by kernel_rfl) (by kernel_rfl)
      (OpenSpec.preRow_of_cond 8 hx (by kernel_rfl) (fun k hk => by cases hk) (by kernel_rfl) (registerStays_laid os))) ?_
  intro W base args ds gs before hval hW _ _ _ hL _ _
  exact registerStays_contract E enc W base args ds gs before hval hW hL
end Go.Proofs.YthbcabnljcpaiaaGreatDoor
namespace Go.Proofs.YthbcabnljcpaiaaGreatDoor
open Go.RowKit Go.Shelf Go.Lib Go.ChangeShapes Go.WideShapes Go.ChangeAt Go.Deep Go.Proofs.YthbcabnljcpaiaaGreatDoorW.PrintWords Go.Proofs.YthbcabnljcpaiaaGreatDoor.Q Go.Proofs.YthbcabnljcpaiaaGreatDoor.H
set_option linter.unusedVariables false
theorem registerStays_said : Rows.RegisterStaysSaid :=
  OpenClaim.holds_of_cond 7 Tryz.f7 rfl rfl rfl rfl rfl rfl rfl ⟨rfl, rfl, rfl, rfl, rfl⟩ rfl rfl rfl rfl rfl (by kernel_rfl) Tryz.func7 (by kernel_rfl)
    (of_decide_eq_true (by kernel_rfl)) (by unfold Func.isWrapper; first | (rw [if_pos (by decide +kernel)]; kernel_rfl) | (rw [if_neg (by decide +kernel)]; exact ⟨rfl, rfl⟩))
    (fun os started E enc _ F => by rw [OpenClaim.pre_eq_preRow]; exact registerStays_lifted os started E enc F)
end Go.Proofs.YthbcabnljcpaiaaGreatDoor
namespace Go.Proofs.YthbcabnljcpaiaaGreatDoor
open Go.RowKit Go.Shelf Go.Lib Go.ChangeShapes Go.WideShapes Go.ChangeAt Go.Deep Go.Proofs.YthbcabnljcpaiaaGreatDoorW.PrintWords Go.Proofs.YthbcabnljcpaiaaGreatDoor.Q Go.Proofs.YthbcabnljcpaiaaGreatDoor.H
set_option linter.unusedVariables false
theorem registerStays_plain (f : FuncId) (fn : Func) (hf : Tryz.pinned.checked.prog.funcNamed "customhouse/customhouselaw17.RegisterStays" = some f) (hfn : Tryz.pinned.checked.prog.funcs[f]? = some fn) :
    true = Tryz.pinned.checked.prog.looks [] ∧ ∀ (j : Nat) t, fn.params[j]? = some t → Tryz.pinned.checked.prog.wantsStandIn t = false := by
  obtain rfl : f = 7 := Option.some.inj ((show Tryz.prog.funcNamed "customhouse/customhouselaw17.RegisterStays" = some 7 by kernel_rfl).symm.trans hf) |>.symm
  obtain rfl : fn = Tryz.f7 := (Option.some.inj (Tryz.func7.symm.trans hfn)).symm
  refine ⟨by kernel_rfl, fun j t ht => ?_⟩
  rw [Tryz.params7] at ht
  have hm : t = 26 ∨ t = 36 ∨ t = 9 ∨ t = 3 := by simpa using Array.mem_of_getElem? ht
  rcases hm with rfl | rfl | rfl | rfl
  · exact (show Tryz.prog.wantsStandIn 26 = false by kernel_rfl)
  · exact (show Tryz.prog.wantsStandIn 36 = false by kernel_rfl)
  · exact (show Tryz.prog.wantsStandIn 9 = false by kernel_rfl)
  · exact (show Tryz.prog.wantsStandIn 3 = false by kernel_rfl)
theorem registerStays_holds : Rows.RegisterStaysCardSaid :=
  Claim7.holds_tied_plain_at .later [] _ _ _ _ registerStays_said (fun _ h => by cases h) (by kernel_rfl) (fun _ h => by cases h) registerStays_row_tie rfl ⟨rfl, rfl⟩ (by kernel_rfl) rfl registerStays_plain (by kernel_rfl)
#print axioms registerStays_holds
end Go.Proofs.YthbcabnljcpaiaaGreatDoor
