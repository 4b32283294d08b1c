/- A part of the proof that the register's laws hold; no condition of its own. -/
import Derived.Test.YthbcabnljcpaiaaGreatDoorZB28
import Derived.Deep.CutRange
import Derived.Deep.CutBlock
set_option linter.all false
namespace Go.Proofs.YthbcabnljcpaiaaGreatDoor.H
open Go.RowKit Go.Shelf Go.Lib Go.Maps Go.WideElems Go.MapKept Go.Proofs.YthbcabnljcpaiaaGreatDoorW.PrintWords Go.Proofs.YthbcabnljcpaiaaGreatDoor.Q
set_option linter.unusedVariables false
abbrev MapI (w : World) (b : Nat) (m : List (Int × Int)) : Prop := MapA Tryz.prog 3 (Value.int .i64) (Value.int .i64) w b m
theorem intV_inj (a c : Int) (h : Value.int .i64 a = Value.int .i64 c) : a = c := by cases h; rfl
theorem MapI.get {w : World} {b : Nat} {m : List (Int × Int)} (h : MapI w b m) {a : Int} (ha : I64 a) : (Instr.lookup 68 (.map (some b)) (.int .i64 a) false).run Tryz.prog w = .ok (.int .i64 (asGet m a 0)) w :=
  MapA.get h intV_inj (Maps.int_keyed Tryz.underlying3) Tryz.underlying68 (d := 0) (by kernel_rfl) (keyOf_int_mk Tryz.underlying3 (wf64 ha))
theorem MapI.put {w : World} {b : Nat} {m : List (Int × Int)} (h : MapI w b m) {a : Int} (ha : I64 a) (v : Int) : ∃ w', (Instr.mapUpdate 68 (.map (some b)) (.int .i64 a) (.int .i64 v)).run Tryz.prog w = .ok () w' ∧ MapI w' b (asPut m a v) ∧ w.grownBy w' (some b) :=
  MapA.put h intV_inj (Maps.int_keyed Tryz.underlying3) Tryz.underlying68 v (keyOf_int_mk Tryz.underlying3 (wf64 ha))
theorem Bx.set2 {w : World} {b : Nat} {t : TypeId} {p q : Value} (h : Bx w b t #[p, q]) (x y : Value) : Bx ((w.setCell ⟨b, 0, none⟩ x).setCell ⟨b, 1, none⟩ y) b t #[x, y] := by
  unfold Bx at *
  simp [World.setCell, Array.getElem?_modify, h]
def Rises (last : Int × Int) (x : S42) : Prop := last.1 < x.f0 ∨ (x.f0 = last.1 ∧ last.2 < x.f1)
def BadL (n : Int) (F : Int → Int) (last : Int × Int) (x : S42) : Prop :=
  x.f0 < 0 ∨ n ≤ x.f0 ∨ x.f1 < 0 ∨ n ≤ x.f1 ∨ x.f0 = x.f1 ∨ ¬ Rises last x ∨ unitsE x.f2 = 0 ∨ 6000 < F x.f0 + unitsE x.f2
instance (last : Int × Int) (x : S42) : Decidable (Rises last x) := by unfold Rises; infer_instance
instance (n : Int) (F : Int → Int) (last : Int × Int) (x : S42) : Decidable (BadL n F last x) := by unfold BadL; infer_instance
def addU (F : Int → Int) (x : S42) : Int → Int := fun c => if c = x.f0 then F c + unitsE x.f2 else F c
def goodF (n : Int) : (Int → Int) → Int × Int → List S42 → Prop
  | _, _, [] => True
  | F, last, x :: l => ¬ BadL n F last x ∧ goodF n (addU F x) (x.f0, x.f1) l
instance decGood (n : Int) : ∀ (F : Int → Int) (last : Int × Int) (l : List S42), Decidable (goodF n F last l)
  | _, _, [] => isTrue trivial
  | F, last, x :: l => @instDecidableAnd _ _ _ (decGood n (addU F x) (x.f0, x.f1) l)
def goodE (n : Int) (l : List S42) : Prop := goodF n (fun _ => 0) (-1, -1) l
instance (n : Int) (l : List S42) : Decidable (goodE n l) := by unfold goodE; infer_instance
def ModK (l : List S42) : Prop := ∀ x ∈ l, I64 x.f0 ∧ I64 x.f1 ∧ x.f2.f1.size ≤ 1000000 ∧ x.f2.f2.size ≤ 1000000
set_option maxRecDepth 100000 in
set_option maxHeartbeats 40000000 in
theorem good_calls (n : Int) (q : Nat) (l : List S42) (A : Option Addr) (c : Nat) (hM : ModK l) (hl : l.length ≤ 1000000) (w : World) (hC : Kd.C k42 w A l.length l) (hc : l.length ≤ c) (hq : Boxed w q 3 (.int .i64 n)) (ht : Tab w) :
    Calls Tryz.prog 40 #[.slice A l.length c, .pointer (some ⟨q, 0, none⟩)] w fun e w' => e = .returned (.bool (decide (goodE n l))) ∧ Below w.heap.size w w' := by
  have hmm := @run_makeMap Tryz.prog
  have Ht := hid ht
  clear ht
  go_enter Tryz.func40, Tryz.ntmps40
  go_wp2
  go_loopg [15] l.length (fun g v15 wr => ∃ (k : Nat) (m : List (Int × Int)) (F : Int → Int) (last : Int × Int), v15 = .int .i64 k ∧ g + k = l.length ∧ MapI wr w.heap.size m ∧ (∀ c, asGet m c 0 = F c) ∧ (∀ c, 0 ≤ F c ∧ F c ≤ 6000) ∧ Bx wr (w.heap.size + 1) 63 #[.int .i64 last.1, .int .i64 last.2] ∧ (goodE n l ↔ goodF n F last (l.drop k)) ∧ Below w.heap.size w wr)
  case atStart =>
    have q1 : MapI (w.alloc (.map #[] 0)) w.heap.size [] := MapA.made w
    have g1 := below_alloc (Below.refl w.heap.size w) (.map #[] 0)
    generalize hX1 : w.alloc (.map #[] 0) = X1 at *
    have z1 : X1.heap.size = w.heap.size + 1 := by rw [← hX1, World.size_alloc]
    have q2 := Bx.new X1 63 #[.int .i64 (-1), .int .i64 (-1)]
    have g2 := below_alloc (Below.refl X1.heap.size X1) (.cells #[.int .i64 (-1), .int .i64 (-1)] 63)
    rw [z1] at q2
    exact ⟨0, [], fun _ => 0, (-1, -1), rfl, by omega, q1.below g2, fun c => by simp [asGet], fun c => by show (0 : Int) ≤ 0 ∧ (0 : Int) ≤ 6000; omega, q2, Iff.rfl, bseq g1 g2⟩
  case round =>
    obtain ⟨k, m, F, last, rfl, hgk, hMp, hF, hF2, hL, hG, hBw⟩ := hrel
    by_cases hk : k < l.length
    · obtain ⟨ad, rfl, a0, a1, a2, a3, a4⟩ := at_T42 (Kd.C_below hC hBw) (k : Int) (by omega) (by omega)
      simp only [Int.toNat_natCast] at a0 a1 a2 a3 a4
      have hdk : l.drop k = rd_T42 l (k : Int) :: l.drop (k + 1) := by rw [List.drop_eq_getElem_cons hk]; simp [rd_T42, hk]
      have hmem : rd_T42 l (k : Int) ∈ l := by simp [rd_T42, hk]
      generalize hx : rd_T42 l (k : Int) = x at *
      obtain ⟨x0, x1, x2⟩ := x
      obtain ⟨j0, j1, i2, i3⟩ := hM _ hmem
      have i0 : I64 x0 := j0
      have i1 : I64 x1 := j1
      clear j0 j1
      rw [hdk] at hG
      have hur := unitsE_range x2
      have hG2 : goodE n l ↔ (¬ BadL n F last ⟨x0, x1, x2⟩ ∧ goodF n (addU F ⟨x0, x1, x2⟩) (x0, x1) (l.drop (k + 1))) := hG
      have R1 := Bx.new wr 42 #[.int .i64 x0, .int .i64 x1, .bool x2.f0, .string x2.f1, .string x2.f2]
      have g1 := below_alloc (Below.refl wr.heap.size wr) (.cells #[.int .i64 x0, .int .i64 x1, .bool x2.f0, .string x2.f1, .string x2.f2] 42)
      have hs1 : wr.heap.size < (wr.alloc (.cells #[.int .i64 x0, .int .i64 x1, .bool x2.f0, .string x2.f1, .string x2.f2] 42)).heap.size := R1.lt
      obtain ⟨W1, hW1⟩ : ∃ W1, W1 = wr.alloc (.cells #[.int .i64 x0, .int .i64 x1, .bool x2.f0, .string x2.f1, .string x2.f2] 42) := ⟨_, rfl⟩
      rw [← hW1] at R1 g1 hs1
      have hB1 := hBw.trans (g1.mono hBw.size)
      have hun := fun W (h : Below W1.heap.size W1 W) => units_calls x2 i2 i3 W ((Ht.out.below hB1).below h)
      obtain ⟨u, hu⟩ : ∃ u, u = unitsE x2 := ⟨_, rfl⟩
      rw [← hu] at hun hur
      have c1 := R1.cell
      have l1 := R1.lt
      have Hun := hid hun
      have HW1 := hid hW1
      have HG2 := hid hG2
      have HU := hid hu
      have Hdk := hid hdk
      have HF := hid (And.intro hF hF2)
      clear hun hG hG2 hdk hmem hx i2 i3 hu hF hF2 hW1
      go_upto_region 5 with (fail)
      rw [← HW1.out]
      go_cut [8, 9] from 19 to 26 (fun v8 v9 wx => ∃ b8, v8 = .pointer (some ⟨b8, 0, none⟩) ∧ v9 = .int .i64 u ∧ Bx wx b8 63 #[.int .i64 x0, .int .i64 x1] ∧ Below W1.heap.size W1 wx ∧ W1.heap.size ≤ b8)
      case first =>
        have b1 : Below W1.heap.size W1 W1.drew := below_drew (Below.refl _ _)
        have b2 : Below W1.heap.size W1 (W1.alloc (.cells #[.int .i64 x0, .int .i64 x1] 63)).drew := below_drew (below_alloc (Below.refl _ _) _)
        have b3 : Below W1.heap.size W1 (W1.alloc (.cells #[.int .i64 0, .int .i64 0] 63)).drew := below_drew (below_alloc (Below.refl _ _) _)
        have d1 := Hun.out _ b1
        have d2 := Hun.out _ b2
        have d3 := Hun.out _ b3
        have D1 := hid (And.intro d1 b1)
        have D2 := hid (And.intro d2 b2)
        have D3 := hid (And.intro d3 b3)
        clear d1 d2 d3 b1 b2 b3
        have hS : ∀ W, Below W1.heap.size W1 W → (Below W1.heap.size W1 W ∧ W.cell? ⟨wr.heap.size, 0, none⟩ = some (.int .i64 x0) ∧ W.cell? ⟨wr.heap.size, 1, none⟩ = some (.int .i64 x1) ∧ W.cell? ⟨wr.heap.size, 2, none⟩ = some (.bool x2.f0) ∧ W.cell? ⟨wr.heap.size, 3, none⟩ = some (.string x2.f1) ∧ W.cell? ⟨wr.heap.size, 4, none⟩ = some (.string x2.f2)) := fun W h => ⟨h, (R1.below h).cell 0, (R1.below h).cell 1, (R1.below h).cell 2, (R1.below h).cell 3, (R1.below h).cell 4⟩
        have HS := hid hS
        clear hS
        go_region_held3 (fun W => Below W1.heap.size W1 W ∧ W.cell? ⟨wr.heap.size, 0, none⟩ = some (.int .i64 x0) ∧ W.cell? ⟨wr.heap.size, 1, none⟩ = some (.int .i64 x1) ∧ W.cell? ⟨wr.heap.size, 2, none⟩ = some (.bool x2.f0) ∧ W.cell? ⟨wr.heap.size, 3, none⟩ = some (.string x2.f1) ∧ W.cell? ⟨wr.heap.size, 4, none⟩ = some (.string x2.f2)) (exact HS.out _ (by repeat (first | exact Below.refl _ _ | refine below_alloc ?_ _ | refine below_drew ?_ | refine below_drewN ?_ _ | refine bseq ?_ (by assumption) | refine Below.setCell ?_ (by simp) _)))
          (first | (go_at_call 41; (with_reducible refine D1.out.1.mono ?_); rintro e w2 ⟨rfl, hb2⟩; have hw2 := D1.out.2.trans (hb2.mono D1.out.2.size); have R42 := R1.below hw2; have c42 := R42.cell; have l42 := R42.lt) | (go_at_call 41; (with_reducible refine D2.out.1.mono ?_); rintro e w2 ⟨rfl, hb2⟩; have hw2 := D2.out.2.trans (hb2.mono D2.out.2.size); have R42 := R1.below hw2; have c42 := R42.cell; have l42 := R42.lt; have R2 := Bx.below (w := (W1.alloc (.cells #[.int .i64 x0, .int .i64 x1] 63)).drew) (Bx.new W1 63 #[.int .i64 x0, .int .i64 x1]) hb2) | (go_at_call 41; (with_reducible refine D3.out.1.mono ?_); rintro e w2 ⟨rfl, hb2⟩; have hw2 := D3.out.2.trans (hb2.mono D3.out.2.size); have R42 := R1.below hw2; have c42 := R42.cell; have l42 := R42.lt; have R3 := Bx.below (w := (W1.alloc (.cells #[.int .i64 0, .int .i64 0] 63)).drew) (Bx.new W1 63 #[.int .i64 0, .int .i64 0]) hb2; have c3 := R3.cell; have f3 := R3.fz; have l3 := R3.lt))
        all_goals go_wp2_with (fail)
        all_goals go_meet
        all_goals first
          | exact ⟨_, rfl, rfl, Bx.new _ _ _, below_alloc hw2 _, hw2.size⟩
          | exact ⟨_, rfl, rfl, Bx.set2 R3 _ _, (hw2.setCell (p := ⟨W1.heap.size, 0, none⟩) (Nat.le_refl _) _).setCell (p := ⟨W1.heap.size, 1, none⟩) (Nat.le_refl _) _, Nat.le_refl _⟩
          | exact ⟨_, rfl, rfl, R2, hw2, Nat.le_refl _⟩
      case rest =>
        obtain ⟨b8, rfl, rfl, R8, hb8, hle8⟩ := hcut
        obtain ⟨la, lb⟩ := last
        have hw8 := g1.trans (hb8.mono g1.size)
        have hM8 := hMp.below hw8
        have R42 := R1.below hb8
        have RL := hL.below hw8
        have hbw8 : Below w.heap.size w wc := hBw.trans (hw8.mono hBw.size)
        have Rq : Boxed wc q 3 (.int .i64 n) := (hbw8.block q hq.lt).trans hq
        have hF := HF.out.1
        have hF2 := HF.out.2 x0
        have hlk := MapI.get hM8 i0
        rw [hF] at hlk
        obtain ⟨F0, hF0⟩ : ∃ F0, F0 = F x0 := ⟨_, rfl⟩
        rw [← hF0] at hlk hF2
        obtain ⟨w9, e9, hM9, hg9⟩ := MapI.put hM8 i0 (F0 + u)
        have hwr1 : IntKind.i64.wrap (F0 + u) = F0 + u := IntWalk.i64_in _ (by omega)
        have hwr2 : wrap64 (F0 + u) = F0 + u := wrap64_in _ (by omega)
        have hlk9 := MapI.get hM9 i0
        rw [asGet_put m (MapA.apart intV_inj hM8) x0 (F0 + u) x0 0, if_pos rfl] at hlk9
        have hmlt := hMp.lt
        have hlen1 := hL.lt
        have hb89 : wr.heap.size ≤ b8 := by omega
        have R9 := R8.grown hg9 (fun e => by have := Option.some.inj e; omega)
        have R429 := R42.grown hg9 (fun e => by have := Option.some.inj e; omega)
        have RL9 := RL.grown hg9 (fun e => by have := Option.some.inj e; omega)
        have Rq9 : Boxed w9 q 3 (.int .i64 n) := (hg9.block q Rq.lt (fun e => by have := Option.some.inj e; have := hq.lt; omega)).trans Rq
        have c8 := R8.cell
        have l8 := R8.lt
        have c42 := R42.cell
        have l42 := R42.lt
        have c9 := R9.cell
        have l9 := R9.lt
        have c429 := R429.cell
        have l429 := R429.lt
        have cL := RL9.cell
        have fL := RL9.fz
        have lL := RL9.lt
        have cq := Rq9.cell
        have HM9 := hid (And.intro hM9 (And.intro hg9 hM8))
        have HF0 := hid (And.intro hF (And.intro hF2 hF0))
        have HR := hid (And.intro RL9 (And.intro hbw8 hmlt))
        clear hM8 hM9 hg9 hF hF2 hF0 hMp hL R8 R9 R42 R429 RL RL9 Rq Rq9 hbw8 hw8 hb8 R1 c1 l1
        go_upto_region 7 with (fail)
        have hris : Rises (la, lb) ⟨x0, x1, x2⟩ ↔ (la < x0 ∨ (x0 = la ∧ lb < x1)) := Iff.rfl
        have hbad : BadL n F (la, lb) ⟨x0, x1, x2⟩ ↔ (x0 < 0 ∨ n ≤ x0 ∨ x1 < 0 ∨ n ≤ x1 ∨ x0 = x1 ∨ ¬ Rises (la, lb) ⟨x0, x1, x2⟩ ∨ u = 0 ∨ 6000 < F0 + u) := by
          rw [HF0.out.2.2, HU.out]; exact Iff.rfl
        obtain ⟨ris, hrd⟩ : ∃ ris, ris = decide (Rises (la, lb) ⟨x0, x1, x2⟩) := ⟨_, rfl⟩
        have Hrd := hid (And.intro hrd (And.intro hris hbad))
        clear hrd hris hbad
        go_cut [10] from 33 to 51 (fun v10 wx => v10 = .bool ris ∧ wx = w9)
        case first =>
          have hr1 : ∀ (h : la < x0), ris = true := fun h => by rw [Hrd.out.1]; exact decide_eq_true (Hrd.out.2.1.2 (.inl h))
          have hr2 : ∀ (h : ¬ la < x0) (h2 : x0 = la) (h3 : lb < x1), ris = true := fun _ h2 h3 => by rw [Hrd.out.1]; exact decide_eq_true (Hrd.out.2.1.2 (.inr ⟨h2, h3⟩))
          have hr3 : ∀ (h : ¬ la < x0) (h2 : ¬ (x0 = la ∧ lb < x1)), ris = false := fun h h2 => by rw [Hrd.out.1]; exact decide_eq_false (fun e => (Hrd.out.2.1.1 e).elim h h2)
          have HR3 := hid (And.intro hr1 (And.intro hr2 hr3))
          clear hr1 hr2 hr3
          by_cases q1 : la < x0
          · have Q := hid (HR3.out.1 q1)
            go_wp2_with (fail)
            go_meet
            exact ⟨congrArg Value.bool Q.out.symm, rfl⟩
          · by_cases q2 : x0 = la
            · by_cases q3 : lb < x1
              · have Q := hid (HR3.out.2.1 q1 q2 q3)
                have q2' : (x0 == la) = true := by simp [q2]
                have Q2 := hid q2
                clear q2
                go_wp2_with (fail)
                go_meet
                exact ⟨congrArg Value.bool Q.out.symm, rfl⟩
              · have Q := hid (HR3.out.2.2 q1 (fun e => q3 e.2))
                have q2' : (x0 == la) = true := by simp [q2]
                have Q2 := hid q2
                clear q2
                go_wp2_with (fail)
                go_meet
                exact ⟨congrArg Value.bool Q.out.symm, rfl⟩
            · have Q := hid (HR3.out.2.2 q1 (fun e => q2 e.1))
              have q2' : (x0 == la) = false := by simp [q2]
              go_wp2_with (fail)
              go_meet
              exact ⟨congrArg Value.bool Q.out.symm, rfl⟩
        case rest =>
          obtain ⟨rfl, rfl⟩ := hcut
          have hfalse : BadL n F (la, lb) ⟨x0, x1, x2⟩ → decide (goodE n l) = false := fun h => decide_eq_false (fun e => (HG2.out.1 e).1 h)
          have hbw9 : Below w.heap.size w wc := HR.out.2.1.grown HM9.out.2.1 HR.out.2.1.size (fun k e => by have := Option.some.inj e; omega)
          have HFa := hid (And.intro hfalse hbw9)
          have hrisf : ris = false → ¬ Rises (la, lb) ⟨x0, x1, x2⟩ := fun e h => by rw [Hrd.out.1, decide_eq_true h] at e; cases e
          have Hrf := hid hrisf
          clear hfalse hbw9 hrisf
          by_cases p1 : x0 < 0
          · have HB := hid (HFa.out.1 (Hrd.out.2.2.2 (.inl p1)))
            go_wp2_with (fail)
            go_ret
            exact ⟨by rw [HB.out]; rfl, HFa.out.2⟩
          · by_cases p2 : n ≤ x0
            · have HB := hid (HFa.out.1 (Hrd.out.2.2.2 (.inr (.inl p2))))
              go_wp2_with (fail)
              go_ret
              exact ⟨by rw [HB.out]; rfl, HFa.out.2⟩
            · by_cases p3 : x1 < 0
              · have HB := hid (HFa.out.1 (Hrd.out.2.2.2 (.inr (.inr (.inl p3)))))
                go_wp2_with (fail)
                go_ret
                exact ⟨by rw [HB.out]; rfl, HFa.out.2⟩
              · by_cases p4 : n ≤ x1
                · have HB := hid (HFa.out.1 (Hrd.out.2.2.2 (.inr (.inr (.inr (.inl p4))))))
                  go_wp2_with (fail)
                  go_ret
                  exact ⟨by rw [HB.out]; rfl, HFa.out.2⟩
                · by_cases p5 : x0 = x1
                  · have HB := hid (HFa.out.1 (Hrd.out.2.2.2 (.inr (.inr (.inr (.inr (.inl p5)))))))
                    have e5 : (x0 == x1) = true := by simp [p5]
                    have P5 := hid p5
                    clear p5
                    go_wp2_with (fail)
                    go_ret
                    exact ⟨by rw [HB.out]; rfl, HFa.out.2⟩
                  · have e5 : (x0 == x1) = false := by simp [p5]
                    by_cases p6 : ris = false
                    · have HB := hid (HFa.out.1 (Hrd.out.2.2.2 (.inr (.inr (.inr (.inr (.inr (.inl (Hrf.out p6)))))))))
                      subst p6
                      go_wp2_with (fail)
                      go_ret
                      exact ⟨by rw [HB.out]; rfl, HFa.out.2⟩
                    · have p6' : ris = true := by simpa using p6
                      have P6 := hid p6'
                      subst p6'
                      by_cases p7 : u = 0
                      · have HB := hid (HFa.out.1 (Hrd.out.2.2.2 (.inr (.inr (.inr (.inr (.inr (.inr (.inl p7)))))))))
                        have e7 : (u == 0) = true := by simp [p7]
                        have P7 := hid p7
                        clear p7
                        go_wp2_with (fail)
                        go_ret
                        exact ⟨by rw [HB.out]; rfl, HFa.out.2⟩
                      · have e7 : (u == 0) = false := by simp [p7]
                        by_cases p8 : 6000 < F0 + u
                        · have HB := hid (HFa.out.1 (Hrd.out.2.2.2 (.inr (.inr (.inr (.inr (.inr (.inr (.inr (p8))))))))))
                          go_wp2_with (fail)
                          go_ret
                          exact ⟨by rw [HB.out]; rfl, HFa.out.2⟩
                        · have HB := hid (fun h : BadL n F (la, lb) ⟨x0, x1, x2⟩ => by rcases Hrd.out.2.2.1 h with h | h | h | h | h | h | h | h; exact p1 h; exact p2 h; exact p3 h; exact p4 h; exact p5 h; exact h (of_decide_eq_true (Hrd.out.1.symm.trans P6.out)); exact p7 h; exact p8 h)
                          go_wp2_with (fail)
                          go_roundg (l.length - (k + 1))
                          case rel =>
                            refine ⟨k + 1, asPut m x0 (F0 + u), addU F ⟨x0, x1, x2⟩, (x0, x1), by go_num, by omega, (HM9.out.1.far (a := ⟨w.heap.size + 1, 0, none⟩) (by simp) _).far (a := ⟨w.heap.size + 1, 1, none⟩) (by simp) _, fun c => ?_, fun c => ?_, Bx.set2 HR.out.1 _ _, ?_, (HFa.out.2.setCell (p := ⟨w.heap.size + 1, 0, none⟩) (by simp) _).setCell (p := ⟨w.heap.size + 1, 1, none⟩) (by simp) _⟩
                            · rw [asGet_put m (MapA.apart intV_inj HM9.out.2.2)]
                              unfold addU
                              simp only
                              rw [HF.out.1, HF0.out.2.2, ← HU.out]
                              by_cases hcx : c = x0
                              · subst hcx; rfl
                              · rw [if_neg hcx, if_neg hcx]
                            · unfold addU
                              simp only
                              rw [← HU.out]
                              by_cases hcx : c = x0
                              · subst hcx
                                rw [if_pos rfl, ← HF0.out.2.2]
                                have := HF0.out.2.1
                                omega
                              · rw [if_neg hcx]
                                exact HF.out.2 c
                            · exact ⟨fun h => (HG2.out.1 h).2, fun h => HG2.out.2 ⟨HB.out, h⟩⟩
                          case measure => omega
    · obtain rfl : k = l.length := by omega
      rw [List.drop_length] at hG
      have hg : decide (goodE n l) = true := decide_eq_true (hG.2 trivial)
      have HG := hid hg
      clear hg hG
      go_wp2_with (fail)
      go_ret
      exact ⟨by rw [HG.out]; rfl, hBw⟩
end Go.Proofs.YthbcabnljcpaiaaGreatDoor.H
