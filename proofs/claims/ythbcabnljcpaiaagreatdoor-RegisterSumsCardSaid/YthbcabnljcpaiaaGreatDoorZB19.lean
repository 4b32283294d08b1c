/- A part of the proof that the register's laws hold; no condition of its own. -/
import Derived.Test.YthbcabnljcpaiaaGreatDoorZB18
import Derived.Lib.LazyBuf
import Derived.Deep.RegionLaw
import Derived.Deep.Onto
import Derived.DeepKeys3
set_option linter.all false
namespace Go.Proofs.YthbcabnljcpaiaaGreatDoor.H
open Go.RowKit Go.Shelf Go.Lib Go.Proofs.YthbcabnljcpaiaaGreatDoorW.PrintWords Go.Proofs.YthbcabnljcpaiaaGreatDoorW.PrintLast Go.Proofs.YthbcabnljcpaiaaGreatDoorW.PrintMore Go.Proofs.YthbcabnljcpaiaaGreatDoor.Q
set_option linter.unusedVariables false
def appOp (t ty : TypeId) : Oper := { dst := some 0, op := .call { callee := .builtin .append, args := #[.tmp 0, .tmp 1], argTypes := #[t, t] }, type := ty, pos := "", after := #[], guard := none }
theorem append_extract {P : Program} {W : World} {v u : Value} {t ty : TypeId} {R : Value → World → Prop}
    (h : Oper.wp P (appOp t ty) { tmps := #[v, u], defers := [] } W (fun a w => R (a.tmps.getD 0 undef) w) (fun _ _ _ => False)) :
    ∃ v1 w1, (Builtin.append_ #[t, t] ty #[v, u]).run P W = .ok v1 w1 ∧ R v1 w1 := by
  unfold Oper.wp execOp appOp at h
  simp only [resolve, invoke, builtin, Sem.run_bind, Sem.run_pure, Result.andThen_ok, List.map_toArray, List.map_cons, List.map_nil] at h
  have e0 : ({ tmps := #[v, u], defers := [] } : Act).eval (.tmp 0) = v := rfl
  have e1 : ({ tmps := #[v, u], defers := [] } : Act).eval (.tmp 1) = u := rfl
  rw [e0, e1] at h
  cases hr : (Builtin.append_ #[t, t] ty #[v, u]).run P W with
  | ok v1 w1 =>
    rw [hr] at h
    exact ⟨v1, w1, rfl, h⟩
  | _ =>
    rw [hr] at h
    refine absurd h ?_
    simp only [Result.andThen, Oper.upon]
    intro h'
    split at h' <;> simp_all
theorem wanted_app (t ty : TypeId) (v u : Value) : Region.wanted (appOp t ty) (yielded #[] #[v, u]) = true := rfl
theorem appH_rows {W : World} (base : Nat) (v : Value) (xs ys : List S36) (A : Option Addr) (m c : Nat) (ok okp : Nat → Prop) (HO : Kd.N k36 36 W base ok v xs) (HR : Kd.F k36 W okp A m ys) (hokp : ∀ k, okp k → ok k ∧ some k ≠ v.ownBlock) (hfresh : ∀ k, W.heap.size ≤ k → ok k)
    (hbase : base ≤ W.heap.size) (hl : (xs.length + m) * 136 ≤ 140737488355328) :
    ∃ v1 w1, (Builtin.append_ #[26, 26] 26 #[v, .slice A m c]).run Tryz.prog W = .ok v1 w1 ∧ Kd.N k36 36 w1 base ok v1 (xs ++ ys) ∧ Below base W w1 ∧ W.grownBy w1 v.ownBlock := by
  refine append_extract ?_
  have h := Kd.N_append_rows_step (P := Tryz.prog) (ops := #[]) (o := appOp 26 26) (a := { tmps := #[v, .slice A m c], defers := [] }) (Q := fun _ _ _ => False) (Kc := fun a w => Kd.N k36 36 w base ok (a.tmps.getD 0 undef) (xs ++ ys) ∧ Below base W w ∧ W.grownBy w v.ownBlock) k36 (w0 := W) base rfl (.tmp 0) (.tmp 1) 26 36 _ 136 rfl Tryz.underlying26 info36 rfl (by decide) (by omega) v xs ys A m c ok okp rfl rfl HO HR hokp hfresh (Below.refl _ _) hbase hl (fun v1 w1 h1 h2 h3 _ => ⟨h1, h2, h3⟩)
  rw [if_pos (wanted_app 26 26 v _)] at h
  exact h
def HN (w : World) (base : Nat) (v : Value) (l : List S36) : Prop := Kd.N k36 36 w base (fun _ => True) v l
theorem HN.shape {w : World} {base : Nat} {v : Value} {l : List S36} (h : HN w base v l) : ∃ A c, v = .slice A l.length c ∧ l.length ≤ c ∧ HC w A l := by
  obtain ⟨A, c, he, hl, hf⟩ := Kd.N_V (base' := 0) h
  exact ⟨A, c, he, hl, Kd.F_now hf⟩
theorem HN.ge {w : World} {base b : Nat} {v : Value} {l : List S36} (h : HN w base v l) (e : v.ownBlock = some b) : base ≤ b := by
  obtain ⟨_, rows, _, ⟨_, inner, ho, _⟩, _⟩ := h
  exact (ho.lt b e).1
theorem HN.below {w w' : World} {base : Nat} {v : Value} {l : List S36} (h : HN w base v l) (hb : Below w.heap.size w w') : HN w' base v l := Kd.N_below h hb
theorem F_one {W : World} {b : Nat} {x : S36} {A5 : Option Addr} {c5 : Nat} {okJ : Nat → Prop} (hB : Bx W b 36 (hcells x A5 c5)) (hJ : Kd.F Kd.string W okJ A5 x.f5.length x.f5) (j5 : x.f5.length ≤ c5) :
    Kd.F k36 W (fun k => okJ k ∨ k = b) (some ⟨b, 0, none⟩) 1 [x] := by
  intro W' hW
  have hB' : Bx W' b 36 (hcells x A5 c5) := (hW b (.inr rfl) hB.lt).trans hB
  have hJ' : Kd.string.C W' A5 x.f5.length x.f5 := hJ W' (fun k hk hlt => hW k (.inl hk) hlt)
  refine ⟨rfl, by omega, fun _ => ⟨⟨b, 0, none⟩, rfl, fun j p hj => ?_⟩⟩
  obtain rfl : j = 0 := by
    rcases j with _ | j
    · rfl
    · simp at hj
  simp only [List.getElem?_cons_zero, Option.some.injEq] at hj
  subst hj
  refine ⟨_, rfl, k36_mk W' x j5 hJ', fun i u hu => ?_⟩
  have hc := hB'.cell i
  have e : (Addr.add ⟨b, 0, none⟩ (0 * k36.sz + i)) = ⟨b, i, none⟩ := by simp [Addr.add]; intro h; exact h.symm
  rw [e, hc]
  simpa using hu
theorem appH_lit {W : World} (base : Nat) (A : Option Addr) (n b : Nat) (l : List S36) (x : S36) (A5 : Option Addr) (c5 : Nat) (HO : HN W base (.slice A l.length n) l) (hB : Bx W b 36 (hcells x A5 c5)) (hb : (Value.slice A l.length n).ownBlock ≠ some b) {okJ : Nat → Prop} (hJ : Kd.F Kd.string W okJ A5 x.f5.length x.f5)
    (hok : ∀ k, okJ k → k < base) (j5 : x.f5.length ≤ c5) (hbase : base ≤ W.heap.size) (hl : l.length ≤ 1000000) :
    ∃ v1 w1, (Builtin.append_ #[26, 26] 26 #[.slice A l.length n, .slice (some ⟨b, 0, none⟩) 1 1]).run Tryz.prog W = .ok v1 w1 ∧ HN w1 base v1 (l ++ [x]) ∧ Below base W w1 := by
  obtain ⟨v1, w1, e1, h1, h2, _⟩ := appH_rows base (.slice A l.length n) l [x] (some ⟨b, 0, none⟩) 1 1 (fun _ => True) (fun k => okJ k ∨ k = b) HO (F_one hB hJ j5)
    (fun k hk => ⟨trivial, fun e => by
      rcases hk with hk | rfl
      · have := HO.ge e.symm; have := hok k hk; omega
      · exact hb e.symm⟩) (fun _ _ => trivial) hbase (by omega)
  exact ⟨v1, w1, e1, h1, h2⟩
set_option maxRecDepth 100000 in
set_option maxHeartbeats 4000000 in
theorem clone_calls (l : List S36) (A : Option Addr) (c : Nat) (hl : l.length ≤ 1000000) (w : World) (hC : HC w A l) (hc : l.length ≤ c) :
    Calls Tryz.prog 46 #[.slice A l.length c] w fun e w' => ∃ v, e = .returned v ∧ HN w' w.heap.size v l ∧ Below w.heap.size w w' := by
  have heq := fun (w : World) a l c => run_eql_slice_nil (P := Tryz.prog) w 26 36 a l c Tryz.underlying26
  rcases A with _ | ad
  · have h0 : l = [] := by
      rcases Nat.eq_zero_or_pos l.length with h0 | h0
      · exact List.eq_nil_of_length_eq_zero h0
      · obtain ⟨ad, h, _⟩ := hC.2.2 h0
        cases h
    subst h0
    go_enter Tryz.func46, Tryz.ntmps46
    go_wp2
    go_ret
    exact ⟨_, rfl, Kd.N_nil _ _ _ _ _, Below.refl _ _⟩
  · have hw := below_alloc (Below.refl w.heap.size w) (.cells #[] 36)
    have hN0 : HN (w.alloc (.cells #[] 36)) w.heap.size (.slice (some ⟨w.heap.size, 0, none⟩) 0 0) [] := Kd.R_N ⟨fun _ _ => trivial, [], by
      have h := World.ownsRow_lit (base := w.heap.size) (e := 36) (size := 10) w #[] 0 (Nat.le_refl _) (by unfold maxLen; omega) (by simp)
      exact h, Reps.none _ _⟩
    obtain ⟨v1, w1, hrun, hN1, hb1, hg1⟩ := appH_rows w.heap.size _ [] l (some ad) l.length c (fun _ => True) (fun k => k < w.heap.size) hN0 (Kd.F_below (Kd.C_F k36_heap hC) hw) (fun k hk => ⟨trivial, by simp [Value.ownBlock]; omega⟩) (fun _ _ => trivial) (by simp) (by simp; omega)
    have Hrun := hid hrun
    clear hrun
    go_enter Tryz.func46, Tryz.ntmps46
    go_wp2_with (first | (at_builtin; refine wpList_append_eq rfl _ _ 26 rfl _ _ _ _ rfl rfl Hrun.out ?_))
    go_ret
    exact ⟨v1, rfl, hN1, hw.trans hb1⟩
end Go.Proofs.YthbcabnljcpaiaaGreatDoor.H
namespace Go.Proofs.YthbcabnljcpaiaaGreatDoor.H
open Go.RowKit Go.Shelf Go.Lib Go.Proofs.YthbcabnljcpaiaaGreatDoorW.PrintWords Go.Proofs.YthbcabnljcpaiaaGreatDoorW.PrintLast Go.Proofs.YthbcabnljcpaiaaGreatDoorW.PrintMore Go.Proofs.YthbcabnljcpaiaaGreatDoor.Q
set_option linter.unusedVariables false
theorem step_append_eq {P : Program} {ops : Array Oper} {o : Oper} {a : Act} {w : World} {K : Act → World → Prop} {Q : Exit → Act → World → Prop} {E : Prop}
    (hg : o.guard = none) (s x : Operand) (t : TypeId) (hop : o.op = Op.call { callee := Callee.builtin Builtin.append, args := #[s, x], argTypes := #[t, t] })
    (v u v1 : Value) (w1 : World) (hs : a.eval s = v) (hx : a.eval x = u) (hrun : (Builtin.append_ #[t, t] o.type #[v, u]).run P w = .ok v1 w1) (hK : K (a.put o.dst v1) w1) :
    if Region.wanted o (yielded ops a.tmps) = true then Oper.wp P o a w K Q else E := by
  have hw : Region.wanted o (yielded ops a.tmps) = true := by simp [Region.wanted, hg]
  rw [if_pos hw]
  unfold Oper.wp execOp
  simp only [hop, resolve, invoke, builtin, Sem.run_bind, Sem.run_pure, Result.andThen_ok, List.map_toArray, List.map_cons, List.map_nil, hs, hx, hrun]
  exact hK
theorem own_ne_new {w : World} {base : Nat} {v : Value} {l : List S36} (h : HN w base v l) : v.ownBlock ≠ some w.heap.size := by
  obtain ⟨_, rows, _, ⟨_, inner, ho, _⟩, _⟩ := h
  intro e
  have := own_lt ho _ e
  omega
theorem HN.lower {w : World} {base base' : Nat} {v : Value} {l : List S36} (h : HN w base v l) (hb : base' ≤ base) : HN w base' v l := by
  obtain ⟨h0, rows, h1, ⟨h2, inner, ho, h3⟩, h4⟩ := h
  exact ⟨h0, rows, h1, ⟨h2, inner, World.ownsRow.mono ho hb, h3⟩, h4⟩
def putE (l : List S36) (x : S36) : Int :=
  if ¬ (Valid l ∧ Proper x) then 1 else if x.f0 ∈ l.map (·.f0) then 9 else if 400 < (l ++ [x]).length ∨ 60 < (partiesOf (l ++ [x])).length then 2 else if ¬ Bear (l ++ [x]) then 10 else 0
theorem idx_found {id : ByteArray} {l : List S36} {r : Int} (h : IdxIs (hasId id) l r) : (0 ≤ r) ↔ id ∈ l.map (·.f0) := by
  rcases h with ⟨k, hk, rfl, hp, _⟩ | ⟨rfl, hn⟩
  · have := of_decide_eq_true hp
    exact ⟨fun _ => List.mem_map.2 ⟨_, rd_mem hk, this⟩, fun _ => by omega⟩
  · refine ⟨fun h => by omega, fun h => ?_⟩
    obtain ⟨x, hx, e⟩ := List.mem_map.1 h
    obtain ⟨j, hj, rfl⟩ := List.getElem_of_mem hx
    have h1 := hn j hj
    simp [rd_T36, List.getD, hj, hasId] at h1
    exact absurd e h1
set_option maxRecDepth 100000 in
set_option maxHeartbeats 8000000 in
theorem put_calls (l : List S36) (A : Option Addr) (c : Nat) (x : S36) (A5 : Option Addr) (c5 : Nat) (hM : ModL l) (hl4 : l.length ≤ 499) (hMx : Mod x) (w : World) (hC : HC w A l) (hc : l.length ≤ c) (hJ : Kd.C Kd.string w A5 x.f5.length x.f5) (j5 : x.f5.length ≤ c5) :
    Calls Tryz.prog 17 #[.slice A l.length c, .agg (hcells x A5 c5)] w fun e w' => ∃ v, e = .returned (.tuple #[v, .int .i64 (putE l x)]) ∧ HN w' w.heap.size v (if putE l x = 0 then l ++ [x] else []) ∧ Below w.heap.size w w' := by
  have R0 := Bx.new w 36 (hcells x A5 c5)
  have hw0 := below_alloc (Below.refl w.heap.size w) (.cells (hcells x A5 c5) 36)
  have hM2 : ModL (l ++ [x]) := ⟨by simp; omega, fun y hy => by rcases List.mem_append.1 hy with h | h; exact hM.2 y h; rw [List.mem_singleton.1 h]; exact hMx⟩
  obtain ⟨ls, hls⟩ : ∃ ls, ls = l ++ [x] := ⟨_, rfl⟩
  have Hls := hid hls
  rw [← hls] at hM2 ⊢
  have hva := valid_calls17 l A c hM _ (Kd.C_below hC hw0) hc
  have Hva := hid hva
  clear hva
  by_cases q1 : Valid l
  · rw [decide_eq_true q1] at Hva
    have hpr := fun W (h : Below w.heap.size w W) => proper_calls x A5 c5 hMx W (Kd.C_below hJ h) j5
    by_cases q2 : Proper x
    · have Hpr := hid hpr
      rw [decide_eq_true q2] at Hpr
      have hfi := fun W (h : Below w.heap.size w W) => find_calls l A c x.f0 W (Kd.C_below hC h) hc
      have Hfi := hid hfi
      clear hpr hfi
      by_cases q3 : x.f0 ∈ l.map (·.f0)
      · have hE : putE l x = 9 := by unfold putE; rw [if_neg (fun h => h ⟨q1, q2⟩), if_pos q3]
        have hd : ∀ r, IdxIs (hasId x.f0) l r → decide (0 ≤ r) = true := fun r hr => decide_eq_true ((idx_found hr).2 q3)
        have Hd := hid hd
        rw [hE]
        clear q1 q2 q3 hE hd
        go_enter Tryz.func17, Tryz.ntmps17
        go_wp2_with (first | (go_at_call 22; refine Hva.out.mono ?_; rintro e w1 ⟨rfl, hb1⟩; have hw1 := bseq hw0 hb1; have R1 := R0.below hb1; have c1 := R1.cell; have l1 := R1.lt) | (go_at_call 44; refine (Hpr.out _ hw1).mono ?_; rintro e w2 ⟨rfl, hb2⟩; have hw2 := bseq hw1 hb2; have R2 := R1.below hb2; have c2 := R2.cell; have l2 := R2.lt) | (go_at_call 45; refine (Hfi.out _ hw2).mono ?_; rintro e w3 ⟨r, rfl, hr, hb3⟩; have hw3 := bseq hw2 hb3; have dr := Hd.out r hr; have dr' := of_decide_eq_true dr))
        go_ret2
        exact ⟨_, rfl, Kd.N_nil _ _ _ _ _, hw3⟩
      · have hd : ∀ r, IdxIs (hasId x.f0) l r → decide (0 ≤ r) = false := fun r hr => decide_eq_false (fun h => q3 ((idx_found hr).1 h))
        have Hd := hid hd
        have hE : putE l x = if 400 < ls.length ∨ 60 < (partiesOf ls).length then 2 else if ¬ Bear ls then 10 else 0 := by unfold putE; rw [if_neg (fun h => h ⟨q1, q2⟩), if_neg q3, ← hls]
        have hPo : Pos ls := fun y hy => by
          rw [hls] at hy
          rcases List.mem_append.1 hy with h | h
          · exact q1.1.pos y h
          · rw [List.mem_singleton.1 h]; exact ⟨q2.2.2.1, q2.2.2.2.1⟩
        have HPo := hid hPo
        generalize hEE : putE l x = E at *
        have HE := hid hE
        clear q1 q3 hE hd hPo hEE hls
        go_enter Tryz.func17, Tryz.ntmps17
        go_wp2_with (first | (go_at_call 22; refine Hva.out.mono ?_; rintro e w1 ⟨rfl, hb1⟩; have hw1 := bseq hw0 hb1; have R1 := R0.below hb1; have c1 := R1.cell; have l1 := R1.lt) | (go_at_call 44; refine (Hpr.out _ hw1).mono ?_; rintro e w2 ⟨rfl, hb2⟩; have hw2 := bseq hw1 hb2; have R2 := R1.below hb2; have c2 := R2.cell; have l2 := R2.lt) | (go_at_call 45; refine (Hfi.out _ hw2).mono ?_; rintro e w3 ⟨r, rfl, hr, hb3⟩; have hw3 := bseq hw2 hb3; have dr := Hd.out r hr; have R3 := R2.below hb3; have c3 := R3.cell; have l3 := R3.lt))
        all_goals first | (exfalso; simp_all; done) | skip
        clear c1 l1 c2 l2 dr
        have hcl := fun W (h : Below w.heap.size w W) => clone_calls l A c (by omega) W (Kd.C_below hC h) hc
        have Hcl := hid hcl
        clear hcl
        have hjf : ∀ W, Below w.heap.size w W → Kd.F Kd.string W (fun k => k < w.heap.size) A5 x.f5.length x.f5 := fun W h => Kd.F_below (Kd.C_F Kd.heap_string hJ) h
        have Hjf := hid hjf
        clear hjf
        have hsz3 : w.heap.size ≤ w3.heap.size := hw3.size
        go_region_law (first
          | (refine step_append_eq rfl _ _ 26 rfl _ _ _ _ rfl rfl e5 ?_)
          | (go_simp; go_at_call 46; refine (Hcl.out w3.drew hw3.drew).mono ?_; rintro e w4 ⟨v4, rfl, hn4, hb4⟩; have hw4 : Below w.heap.size w w4 := (hw3.drew).trans (hb4.mono hw3.size); have R4 := Bx.below (w := w3.drew) R3 hb4; have c4 := R4.cell; have l4 := R4.lt; have hs4 := hn4.shape; obtain ⟨A4, n4, rfl, _, _⟩ := hs4; have hB5 := Bx.new w4 36 (hcells x A5 c5); have ha4 := below_alloc (Below.refl w4.heap.size w4) (.cells (hcells x A5 c5) 36); have hap := appH_lit w3.drew.heap.size A4 n4 w4.heap.size l x A5 c5 (hn4.below ha4) hB5 (own_ne_new hn4) (Hjf.out _ (hw4.trans (ha4.mono hw4.size))) (fun k hk => Nat.lt_of_lt_of_le hk hsz3) j5 (Nat.le_trans hb4.size ha4.size) (by omega); obtain ⟨v5, w5, e5, hn5, hb5⟩ := hap; rw [← Hls.out] at hn5; have hw5 : Below w.heap.size w w5 := (hw4.trans (ha4.mono hw4.size)).trans (hb5.mono hsz3))
          | (go_simp; go_at_call 46; refine (Hcl.out (w3.alloc (.cells (hcells x A5 c5) 36)).drew ((hw3.alloc hw3.size _).drew)).mono ?_; rintro e w4 ⟨v4, rfl, hn4, hb4⟩; have hw4 : Below w.heap.size w w4 := ((hw3.alloc hw3.size (.cells (hcells x A5 c5) 36)).drew).trans (hb4.mono (Nat.le_trans hsz3 (by simp))); have hs4 := hn4.shape; obtain ⟨A4, n4, rfl, _, _⟩ := hs4; have hB5 := Bx.below (w := (w3.alloc (.cells (hcells x A5 c5) 36)).drew) (Bx.new w3 36 (hcells x A5 c5)) hb4; have hap := appH_lit (w3.alloc (.cells (hcells x A5 c5) 36)).drew.heap.size A4 n4 w3.heap.size l x A5 c5 hn4 hB5 (fun e => by have h1 := hn4.ge e; have e3 : (w3.alloc (.cells (hcells x A5 c5) 36)).drew.heap.size = w3.heap.size + 1 := World.size_alloc w3 _; omega) (Hjf.out _ hw4) (fun k hk => Nat.lt_of_lt_of_le hk (Nat.le_trans hsz3 (by simp))) j5 hb4.size (by omega); obtain ⟨v5, w5, e5, hn5, hb5⟩ := hap; rw [← Hls.out] at hn5; have hw5 : Below w.heap.size w w5 := hw4.trans (hb5.mono (Nat.le_trans hsz3 (by simp)))))
        all_goals
          obtain ⟨A6, n6, rfl, hl6, hC6⟩ := hn5.shape
          have hn5' : HN w5 w.heap.size (.slice A6 ls.length n6) ls := hn5.lower (by first | exact hsz3 | exact Nat.le_trans hsz3 (by simp))
          have hpa := parties_calls ls A6 n6 hM2 w5 hC6 hl6
          have hbe := fun W (h : Below w5.heap.size w5 W) => bearable_calls ls A6 n6 hM2 HPo.out W (Kd.C_below hC6 h) hl6
          have Hpa := hid hpa
          have Hbe := hid hbe
          have Hn5 := hid hn5'
          clear hpa hbe hn5 hn5' hC6 R3 c3 l3 R0
          by_cases d1 : 400 < ls.length
          · have e1 : decide ((400 : Int) < ls.length) = true := decide_eq_true (by omega)
            have h2 : E = 2 := by rw [HE.out, if_pos (.inl d1)]
            subst h2
            go_wp2_with (fail)
            go_ret2
            exact ⟨_, rfl, Kd.N_nil _ _ _ _ _, hw5⟩
          · have e1 : decide ((400 : Int) < ls.length) = false := decide_eq_false (by omega)
            by_cases d2 : 60 < (partiesOf ls).length
            · have e2 : decide ((60 : Int) < (partiesOf ls).length) = true := decide_eq_true (by omega)
              have h2 : E = 2 := by rw [HE.out, if_pos (.inr d2)]
              subst h2
              go_wp2_with (first | (go_at_call 33; refine Hpa.out.mono ?_; rintro e w6 ⟨v6, rfl, ⟨A8, c8, rfl, hl8, hC8⟩, hb6⟩; have hw6 := bseq hw5 hb6))
              go_ret2
              exact ⟨_, rfl, Kd.N_nil _ _ _ _ _, hw6⟩
            · have e2 : decide ((60 : Int) < (partiesOf ls).length) = false := decide_eq_false (by omega)
              by_cases d3 : Bear ls
              · rw [decide_eq_true d3] at Hbe
                have h2 : E = 0 := by rw [HE.out, if_neg (fun h => h.elim d1 d2), if_neg (fun h => h d3)]
                subst h2
                go_wp2_with (first | (go_at_call 33; refine Hpa.out.mono ?_; rintro e w6 ⟨v6, rfl, ⟨A8, c8, rfl, hl8, hC8⟩, hb6⟩; have hw6 := bseq hw5 hb6) | (go_at_call 47; refine (Hbe.out _ hb6).mono ?_; rintro e w7 ⟨rfl, hb7⟩; have hw7 := bseq hw6 hb7))
                go_ret2
                exact ⟨_, rfl, Hn5.out.below (bseq hb6 hb7), hw7⟩
              · rw [decide_eq_false d3] at Hbe
                have h2 : E = 10 := by rw [HE.out, if_neg (fun h => h.elim d1 d2), if_pos d3]
                subst h2
                go_wp2_with (first | (go_at_call 33; refine Hpa.out.mono ?_; rintro e w6 ⟨v6, rfl, ⟨A8, c8, rfl, hl8, hC8⟩, hb6⟩; have hw6 := bseq hw5 hb6) | (go_at_call 47; refine (Hbe.out _ hb6).mono ?_; rintro e w7 ⟨rfl, hb7⟩; have hw7 := bseq hw6 hb7))
                go_ret2
                exact ⟨_, rfl, Kd.N_nil _ _ _ _ _, hw7⟩
    · have Hpr := hid hpr
      rw [decide_eq_false q2] at Hpr
      have hE : putE l x = 1 := by unfold putE; rw [if_pos (fun h => q2 h.2)]
      rw [hE]
      clear hpr q1 q2 hE
      go_enter Tryz.func17, Tryz.ntmps17
      go_wp2_with (first | (go_at_call 22; refine Hva.out.mono ?_; rintro e w1 ⟨rfl, hb1⟩; have hw1 := bseq hw0 hb1; have R1 := R0.below hb1; have c1 := R1.cell; have l1 := R1.lt) | (go_at_call 44; refine (Hpr.out _ hw1).mono ?_; rintro e w2 ⟨rfl, hb2⟩; have hw2 := bseq hw1 hb2))
      go_ret2
      exact ⟨_, rfl, Kd.N_nil _ _ _ _ _, hw2⟩
  · rw [decide_eq_false q1] at Hva
    have hE : putE l x = 1 := by unfold putE; rw [if_pos (fun h => q1 h.1)]
    rw [hE]
    clear q1 hE
    go_enter Tryz.func17, Tryz.ntmps17
    go_wp2_with (first | (go_at_call 22; refine Hva.out.mono ?_; rintro e w1 ⟨rfl, hb1⟩; have hw1 := bseq hw0 hb1))
    go_ret2
    exact ⟨_, rfl, Kd.N_nil _ _ _ _ _, hw1⟩
end Go.Proofs.YthbcabnljcpaiaaGreatDoor.H
namespace Go.Proofs.YthbcabnljcpaiaaGreatDoor.H
open Go.RowKit Go.Shelf Go.Lib Go.Proofs.YthbcabnljcpaiaaGreatDoorW.PrintWords Go.Proofs.YthbcabnljcpaiaaGreatDoorW.PrintLast Go.Proofs.YthbcabnljcpaiaaGreatDoorW.PrintMore Go.Proofs.YthbcabnljcpaiaaGreatDoor.Q
set_option linter.unusedVariables false
def idxF (p : S36 → Bool) : List S36 → Int → Int
  | [], _ => -1
  | x :: l, k => if p x then k else idxF p l (k + 1)
theorem idx_eq {p : S36 → Bool} {l : List S36} {r : Int} (h : IdxIs p l r) : r = idxF p l 0 := by
  have gen : ∀ (l : List S36) (o : Int) (r : Int), ((∃ k : Nat, k < l.length ∧ r = o + k ∧ p (rd_T36 l k) = true ∧ ∀ j : Nat, j < k → p (rd_T36 l j) = false) ∨ (r = -1 ∧ ∀ j : Nat, j < l.length → p (rd_T36 l j) = false)) → r = idxF p l o := by
    intro l
    induction l with
    | nil =>
      intro o r h
      rcases h with ⟨k, hk, _⟩ | ⟨h, _⟩
      · simp at hk
      · exact h
    | cons x l ih =>
      intro o r h
      have e0 : rd_T36 (x :: l) ((0 : Nat) : Int) = x := rfl
      have es : ∀ j : Nat, rd_T36 (x :: l) ((j + 1 : Nat) : Int) = rd_T36 l (j : Int) := fun j => by simp [rd_T36]
      unfold idxF
      rcases h with ⟨k, hk, rfl, hp, hn⟩ | ⟨rfl, hn⟩
      · rcases k with _ | k
        · rw [e0] at hp; rw [if_pos hp]; omega
        · have h0 := hn 0 (by omega)
          rw [e0] at h0
          rw [if_neg (by rw [h0]; simp)]
          refine ih (o + 1) _ (.inl ⟨k, by simpa using hk, by omega, by rw [← es]; exact hp, fun j hj => by rw [← es]; exact hn (j + 1) (by omega)⟩)
      · have h0 := hn 0 (by simp)
        rw [e0] at h0
        rw [if_neg (by rw [h0]; simp)]
        exact ih (o + 1) _ (.inr ⟨rfl, fun j hj => by rw [← es]; exact hn (j + 1) (by simpa using hj)⟩)
  refine gen l 0 r (h.imp (fun ⟨k, a, b, c, d⟩ => ⟨k, a, by omega, c, d⟩) id)
def ended (x : S36) (day : Int) : S36 := { x with f9 := day }
theorem idxF_lt (p : S36 → Bool) (l : List S36) (o : Int) : idxF p l o = -1 ∨ (o ≤ idxF p l o ∧ idxF p l o < o + l.length) := by
  induction l generalizing o with
  | nil => exact .inl rfl
  | cons x l ih =>
    unfold idxF
    split
    · exact .inr ⟨by omega, by simp; omega⟩
    · rcases ih (o + 1) with h | h
      · exact .inl h
      · exact .inr ⟨by omega, by simp; omega⟩
theorem ended_FK {W : World} {ok : Nat → Prop} {x : S36} {c : List Value} (h : Kd.FK k36 W ok x c) (day : Int) : Kd.FK k36 W ok (ended x day) (c.take 9 ++ [.int .i64 day] ++ c.drop 10) := by
  obtain ⟨A5, c5, rfl, hl, hF⟩ := k36_openF h
  exact k36_mkF W ok (ended x day) hl hF
def endE (l : List S36) (id : ByteArray) (day : Int) : Int :=
  if ¬ (Valid l ∧ (0 ≤ day ∧ day ≤ 100000)) then 1 else if idxF (hasId id) l 0 < 0 then 11 else if (rd_T36 l (idxF (hasId id) l 0)).f9 ≠ -1 then 12 else if day ≤ (rd_T36 l (idxF (hasId id) l 0)).f8 then 14 else 0
def endL (l : List S36) (id : ByteArray) (day : Int) : List S36 := l.set (idxF (hasId id) l 0).toNat (ended (rd_T36 l (idxF (hasId id) l 0)) day)
set_option maxRecDepth 100000 in
set_option maxHeartbeats 8000000 in
theorem end_calls (l : List S36) (A : Option Addr) (c : Nat) (id : ByteArray) (day : Int) (hM : ModL l) (w : World) (hC : HC w A l) (hc : l.length ≤ c) :
    Calls Tryz.prog 19 #[.slice A l.length c, .string id, .int .i64 day] w fun e w' => ∃ v, e = .returned (.tuple #[v, .int .i64 (endE l id day)]) ∧ HN w' w.heap.size v (if endE l id day = 0 then endL l id day else []) ∧ Below w.heap.size w w' := by
  have hl5 := hM.1
  have hva := valid_calls17 l A c hM w hC hc
  have Hva := hid hva
  clear hva
  by_cases q1 : Valid l
  · rw [decide_eq_true q1] at Hva
    have hdy := isDay_calls day
    by_cases q2 : 0 ≤ day ∧ day ≤ 100000
    · rw [decide_eq_true q2] at hdy
      have Hdy := hid hdy
      have hfi := fun W (h : Below w.heap.size w W) => find_calls l A c id W (Kd.C_below hC h) hc
      have Hfi := hid hfi
      clear hdy hfi
      have hE : endE l id day = if idxF (hasId id) l 0 < 0 then 11 else if (rd_T36 l (idxF (hasId id) l 0)).f9 ≠ -1 then 12 else if day ≤ (rd_T36 l (idxF (hasId id) l 0)).f8 then 14 else 0 := by unfold endE; rw [if_neg (fun h => h ⟨q1, q2⟩)]
      have hL : endL l id day = l.set (idxF (hasId id) l 0).toNat (ended (rd_T36 l (idxF (hasId id) l 0)) day) := rfl
      generalize endE l id day = E at *
      generalize endL l id day = L at *
      have hlt := idxF_lt (hasId id) l 0
      have hix : ∀ r, IdxIs (hasId id) l r → r = idxF (hasId id) l 0 ∧ (0 ≤ r → r < l.length) := fun r hr => ⟨idx_eq hr, fun h => by rcases hr with ⟨k, hk, rfl, _⟩ | ⟨rfl, _⟩ <;> omega⟩
      generalize idxF (hasId id) l 0 = ix at *
      have Hix := hid hix
      have HE := hid hE
      have HL := hid hL
      clear q1 hE hL hix
      by_cases q3 : ix < 0
      · have h2 : E = 11 := by rw [HE.out, if_pos q3]
        subst h2
        go_enter Tryz.func19, Tryz.ntmps19
        go_wp2_with (first | (go_at_call 22; refine Hva.out.mono ?_; rintro e w1 ⟨rfl, hb1⟩) | (go_at_call 32; refine (Hdy.out _).mono ?_; rintro e w2 ⟨rfl, hb2⟩; have hw2 := bseq hb1 hb2) | (go_at_call 45; refine (Hfi.out _ hw2).mono ?_; rintro e w3 ⟨r, rfl, hr, hb3⟩; have hw3 := bseq hw2 hb3; obtain ⟨rfl, hlt⟩ := Hix.out r hr))
        all_goals first | (exfalso; omega) | skip
        go_ret2
        exact ⟨_, rfl, Kd.N_nil _ _ _ _ _, hw3⟩
      · obtain ⟨k, rfl⟩ := Int.eq_ofNat_of_zero_le (show 0 ≤ ix by omega)
        have hk : k < l.length := by omega
        obtain ⟨ad, A5, c5, rfl, a0, a1, a2, a3, a4, a5, a6, a7, a8, a9, j5, J5⟩ := at36 hC (Below.refl _ _) k hk
        generalize hx : rd_T36 l (k : Int) = x at *
        have hcl := fun W (h : Below w.heap.size w W) => clone_calls l (some ad) c (by omega) W (Kd.C_below hC h) hc
        have Hcl := hid hcl
        have Hx := hid hx
        clear hcl hlt a0 a1 a2 a3 a4 a5 a6 a7 hx
        by_cases q4 : x.f9 = -1
        · by_cases q5 : day ≤ x.f8
          · have h2 : E = 14 := by rw [HE.out, if_neg q3, if_neg (fun h => h q4), if_pos q5]
            subst h2
            go_enter Tryz.func19, Tryz.ntmps19
            go_wp2_with (first | (go_at_call 22; refine Hva.out.mono ?_; rintro e w1 ⟨rfl, hb1⟩) | (go_at_call 32; refine (Hdy.out _).mono ?_; rintro e w2 ⟨rfl, hb2⟩; have hw2 := bseq hb1 hb2) | (go_at_call 45; refine (Hfi.out _ hw2).mono ?_; rintro e w3 ⟨r, rfl, hr, hb3⟩; have hw3 := bseq hw2 hb3; obtain ⟨rfl, hlt⟩ := Hix.out r hr; have b8 := cellB hw3 a8; have b9 := cellB hw3 a9))
            go_ret2
            exact ⟨_, rfl, Kd.N_nil _ _ _ _ _, hw3⟩
          · have h2 : E = 0 := by rw [HE.out, if_neg q3, if_neg (fun h => h q4), if_neg q5]
            subst h2
            have d5 : decide (day ≤ x.f8) = false := decide_eq_false q5
            have dk : decide ((k : Int) < 0) = false := decide_eq_false (by omega)
            go_enter Tryz.func19, Tryz.ntmps19
            go_wp2_with (first | (go_at_call 22; refine Hva.out.mono ?_; rintro e w1 ⟨rfl, hb1⟩) | (go_at_call 32; refine (Hdy.out _).mono ?_; rintro e w2 ⟨rfl, hb2⟩; have hw2 := bseq hb1 hb2) | (go_at_call 45; refine (Hfi.out _ hw2).mono ?_; rintro e w3 ⟨r, rfl, hr, hb3⟩; have hw3 := bseq hw2 hb3; obtain ⟨rfl, hlt⟩ := Hix.out r hr; have b8 := cellB hw3 a8; have b9 := cellB hw3 a9) | (go_at_call 46; refine (Hcl.out _ hw3).mono ?_; rintro e w4 ⟨v4, rfl, hn4, hb4⟩; have hw4 := bseq hw3 hb4; obtain ⟨A4, n4, rfl, hl4, hC4⟩ := hn4.shape; obtain ⟨ad4, rfl⟩ : ∃ ad4, A4 = some ad4 := (by obtain ⟨ad4, h, _⟩ := hC4.2.2 (by omega); exact ⟨ad4, h⟩); obtain ⟨g4, rfl⟩ : ∃ g, ad4 = ⟨g, 0, none⟩ := (by obtain ⟨_, rows, _, hR, _⟩ := hn4; exact Kd.R_head hR); obtain ⟨cx, hcx, hFK, hcc, hfr⟩ := Kd.N_elem hn4 z36 (k : Int) (by omega) (by omega); rw [show l.getD (k : Int).toNat z36 = x from Hx.out] at hFK; have hf9 : w4.frozen? ⟨g4, k * 10 + 9, none⟩ = false := (by have := hfr 9; rw [Int.toNat_natCast] at this; exact this); have HP := hid (Kd.N_seg hn4 (k : Int) (by omega) (by omega) (seg := [.int .i64 day]) (j := 9) hcx hcc (show 10 ≤ 10 by decide) (x' := ended x day) (ended_FK hFK day) (fun _ hk => hk)); obtain ⟨A9, c9, rfl, hl9, hF9⟩ := k36_openF hFK; have hc9 : w4.cell? ⟨g4, k * 10 + 9, none⟩ = some (.int .i64 x.f9) := (by have := hcc 9 _ rfl; rw [Int.toNat_natCast] at this; exact this); clear hcc hfr hcx))
            go_ret2
            have hge := hn4.ge (b := g4) rfl
            have hP := HP.out.1
            rw [Int.toNat_natCast] at hP
            refine ⟨_, rfl, ?_, hw4.setCell (p := ⟨g4, k * 10 + 9, none⟩) (Nat.le_trans hw3.size hge) _⟩
            have h6 : HN (w4.setCell ⟨g4, k * 10 + 9, none⟩ (.int .i64 day)) w3.heap.size (.slice (some ⟨g4, 0, none⟩) l.length n4) L := by
              rw [HL.out, Int.toNat_natCast]
              exact hP
            exact h6.lower hw3.size
        · have h2 : E = 12 := by rw [HE.out, if_neg q3, if_pos q4]
          subst h2
          go_enter Tryz.func19, Tryz.ntmps19
          go_wp2_with (first | (go_at_call 22; refine Hva.out.mono ?_; rintro e w1 ⟨rfl, hb1⟩) | (go_at_call 32; refine (Hdy.out _).mono ?_; rintro e w2 ⟨rfl, hb2⟩; have hw2 := bseq hb1 hb2) | (go_at_call 45; refine (Hfi.out _ hw2).mono ?_; rintro e w3 ⟨r, rfl, hr, hb3⟩; have hw3 := bseq hw2 hb3; obtain ⟨rfl, hlt⟩ := Hix.out r hr; have b8 := cellB hw3 a8; have b9 := cellB hw3 a9))
          go_ret2
          exact ⟨_, rfl, Kd.N_nil _ _ _ _ _, hw3⟩
    · rw [decide_eq_false q2] at hdy
      have Hdy := hid hdy
      have hE : endE l id day = 1 := by unfold endE; rw [if_pos (fun h => q2 h.2)]
      rw [hE]
      clear hdy q1 q2 hE
      go_enter Tryz.func19, Tryz.ntmps19
      go_wp2_with (first | (go_at_call 22; refine Hva.out.mono ?_; rintro e w1 ⟨rfl, hb1⟩) | (go_at_call 32; refine (Hdy.out _).mono ?_; rintro e w2 ⟨rfl, hb2⟩; have hw2 := bseq hb1 hb2))
      go_ret2
      exact ⟨_, rfl, Kd.N_nil _ _ _ _ _, hw2⟩
  · rw [decide_eq_false q1] at Hva
    have hE : endE l id day = 1 := by unfold endE; rw [if_pos (fun h => q1 h.1)]
    rw [hE]
    clear q1 hE
    go_enter Tryz.func19, Tryz.ntmps19
    go_wp2_with (first | (go_at_call 22; refine Hva.out.mono ?_; rintro e w1 ⟨rfl, hb1⟩))
    go_ret2
    exact ⟨_, rfl, Kd.N_nil _ _ _ _ _, hb1⟩
end Go.Proofs.YthbcabnljcpaiaaGreatDoor.H
namespace Go.Proofs.YthbcabnljcpaiaaGreatDoor.H
open Go.RowKit Go.Maps Go.MapKept
open Go.ChangeMaps (setBlock modify_eq_set heap_setBlock_other heap_setBlock_same)
set_option linter.unusedVariables false
section
variable {α β : Type} [DecidableEq α]
def MapE (P : Program) (k : TypeId) (ek : α → Value) (ev : β → Value) (w : World) (b : Nat) (m : List (α × β)) (a : α) (stamp : Nat) : Prop :=
  ∃ arr clock, w.heap[b]? = some (.map arr clock) ∧ Stamped arr clock ∧ arr.toList.map (fun e => (e.key, e.val)) = m.map (fun p => (ek p.1, ev p.2)) ∧ (∀ e ∈ arr.toList, ∃ l, keyOf P k e.key = some l) ∧ ∃ e ∈ arr.toList, e.key = ek a ∧ e.born = stamp
variable {P : Program} {k : TypeId} {ek : α → Value} {ev : β → Value} {w w' : World} {b : Nat} {m : List (α × β)}
theorem MapE.same {a : α} {s : Nat} (h : MapE P k ek ev w b m a s) (e : w'.heap[b]? = w.heap[b]?) : MapE P k ek ev w' b m a s := by
  obtain ⟨arr, cl, hb, hr⟩ := h
  exact ⟨arr, cl, e.trans hb, hr⟩
theorem modify_key {arr : Array MapEntry} {j : Nat} {e0 : MapEntry} {key : Value} (h : arr[j]? = some e0) (hk : e0.key = key) : (arr.modify j fun e => { e with key := key }) = arr := by
  apply Array.ext'
  rw [Array.toList_modify, modify_eq_set _ _ _ e0 (by simpa using h)]
  have hj : j < arr.toList.length := by have := (Array.getElem?_eq_some_iff.1 h).1; simpa using this
  have e1 : ({ e0 with key := key } : MapEntry) = arr.toList[j] := by
    have : arr.toList[j] = e0 := by
      have h' : arr.toList[j]? = some e0 := by simpa using h
      rw [List.getElem?_eq_getElem hj] at h'
      exact Option.some.inj h'
    rw [this, ← hk]
  rw [e1, List.set_getElem_self]
theorem MapA.entryAt {t e : TypeId} (h : MapA P k ek ev w b m) (hek : ∀ a c, ek a = ek c → a = c) (K : Keyed P k) (ht : P.underlying t = some (.map k e)) {d : β} (hz : (zeroValue e).run P w = .ok (ev d) w)
    {a : α} {kl : Lit} (hkey : keyOf P k (ek a) = some kl) : ∃ s w', (Instr.mapEntry t (.map (some b)) (ek a)).run P w = .ok (.tuple #[ev (asGet m a d), .int .i64 (s : Nat)]) w' ∧ MapE P k ek ev w' b (asPut m a (asGet m a d)) a s ∧ w.grownBy w' (some b) := by
  have hap := h.apart hek
  obtain ⟨arr, cl, hb, hs, hm, hk⟩ := h
  have hgr : ∀ o, w.grownBy (setBlock w b o) (some b) := fun o => ⟨rfl, rfl, rfl, by simp [setBlock], fun i _ hi => heap_setBlock_other hb _ (fun e => hi (by rw [e]))⟩
  rcases K.find w hkey arr.toList hk with ⟨h1, h2⟩ | ⟨j, e0, h1, h2, h3⟩
  · have hno : ∀ p ∈ m, p.1 ≠ a := fun p hp e => by
      obtain ⟨x, hx, ex, _⟩ := MapA.back hm hp
      exact h2 x hx (by rw [ex, e])
    have hg : asGet m a d = d := asGet_none hno
    refine ⟨cl, setBlock w b (.map (arr.push ⟨ek a, ev d, cl⟩) (cl + 1)), ?_, ⟨arr.push ⟨ek a, ev d, cl⟩, cl + 1, heap_setBlock_same hb _, stamped_push hs h2, ?_, ?_, ⟨⟨ek a, ev d, cl⟩, by simp, rfl, rfl⟩⟩, hgr _⟩
    · rw [hg]
      simp [Instr.mapEntry, run_underlying ht, MapKept.run_getObj_map hb, K.check w false hkey, h1, hz, MapKept.run_setObj_map _ hb, Result.andThen, setBlock, goInt]
    · unfold asPut
      rw [hg, if_pos hno, Array.toList_push, List.map_append, hm, List.map_append]
      rfl
    · intro e he
      rw [Array.toList_push] at he
      rcases List.mem_append.1 he with he | he
      · exact hk e he
      · rw [List.mem_singleton.1 he]; exact ⟨kl, hkey⟩
  · obtain ⟨p, hp, e1, e2⟩ := MapA.entry hm (List.mem_of_getElem? h2)
    have hpa : p.1 = a := hek _ _ (by rw [← e1, h3])
    have hg : asGet m a d = p.2 := asGet_mem hap (by rw [← hpa]; exact hp)
    have hj : arr[j]? = some e0 := by simpa using h2
    have hput : asPut m a p.2 = m := by
      unfold asPut
      rw [if_neg (fun hx => hx p hp hpa)]
      refine (List.map_congr_left (g := id) (fun q hq => ?_)).trans (List.map_id _)
      show _ = q
      by_cases e : q.1 = a
      · rw [if_pos e]
        have h5 : q = p := by
          refine Classical.byContradiction fun hne => ?_
          have := asGet_mem hap (a := a) (v := q.2) (d := d) (by rw [← e]; exact hq)
          rw [hg] at this
          exact hne (Prod.ext (e.trans hpa.symm) this.symm)
        rw [h5, ← hpa]
      · rw [if_neg e]
    refine ⟨e0.born, setBlock w b (.map arr cl), ?_, ⟨arr, cl, heap_setBlock_same hb _, hs, ?_, hk, ⟨e0, List.mem_of_getElem? h2, h3, rfl⟩⟩, hgr _⟩
    · rw [hg, ← e2]
      simp [Instr.mapEntry, run_underlying ht, MapKept.run_getObj_map hb, K.check w false hkey, h1, hj, h3, K.stays w hkey, MapKept.run_setObj_map _ hb, Result.andThen, setBlock, goInt, modify_key hj h3]
    · rw [hg, hput]; exact hm
theorem MapE.store {t : TypeId} {a : α} {s : Nat} (h : MapE P k ek ev w b m a s) (hek : ∀ a c, ek a = ek c → a = c) (hmem : ∃ p ∈ m, p.1 = a) (v : β) :
    ∃ w', (Instr.entryStore t (.map (some b)) (.int .i64 (s : Nat)) (ev v)).run P w = .ok () w' ∧ MapA P k ek ev w' b (asPut m a v) ∧ w.grownBy w' (some b) := by
  obtain ⟨arr, cl, hb, hs, hm, hk, e0, he0, hk0, hb0⟩ := h
  have hgr : ∀ o, w.grownBy (setBlock w b o) (some b) := fun o => ⟨rfl, rfl, rfl, by simp [setBlock], fun i _ hi => heap_setBlock_other hb _ (fun e => hi (by rw [e]))⟩
  obtain ⟨_, hnd, hap⟩ := (stamped_iff arr cl).1 hs
  obtain ⟨j, hj, ej⟩ := List.getElem_of_mem he0
  have hja : j < arr.size := by simpa using hj
  have hfind : arr.findIdx? (fun e => (e.born : Int) == (s : Int)) = some j := by
    rw [Array.findIdx?_eq_some_iff_getElem]
    refine ⟨hja, ?_, fun i hi => ?_⟩
    · have : arr[j] = e0 := by simpa using ej
      rw [this, hb0]; simp
    · have hil : i < arr.toList.length := by omega
      have h5 := List.pairwise_iff_getElem.1 (List.pairwise_map.1 hnd) i j hil hj hi
      have e1 : arr[i] = arr.toList[i] := by simp
      rw [e1]
      simp only [beq_eq_false_iff_ne, ne_eq, Bool.not_eq_true]
      intro e2
      apply h5
      rw [ej, hb0]
      exact_mod_cast e2
  have hj2 : arr[j]? = some e0 := by rw [Array.getElem?_eq_getElem hja]; congr 1
  have hlist : (arr.modify j (fun e' => { e' with val := ev v })).toList = arr.toList.set j { e0 with val := ev v } := by rw [Array.toList_modify, modify_eq_set _ _ _ e0 (by simpa using hj2)]
  refine ⟨setBlock w b (.map (arr.modify j (fun e' => { e' with val := ev v })) cl), ?_, ⟨_, cl, heap_setBlock_same hb _, stamped_modify hs _ _ (fun _ _ => rfl) (fun e' _ _ => rfl), ?_, ?_⟩, hgr _⟩
  · simp [Instr.entryStore, MapKept.run_getObj_map hb, asInt, asIntOf, hfind, MapKept.run_setObj_map _ hb, Result.andThen, setBlock]
  · unfold asPut
    obtain ⟨p0, hp0, hpa⟩ := hmem
    rw [if_neg (fun hx => hx p0 hp0 hpa), hlist, List.map_set, hm, List.map_map]
    have hlen : arr.toList.length = m.length := by have := congrArg List.length hm; simpa using this
    refine List.ext_getElem (by simp) fun i h1 h2' => ?_
    have him : i < m.length := by simpa using h2'
    rw [List.getElem_set, List.getElem_map, List.getElem_map]
    have hkey2 : ∀ q, q < m.length → (hq : q < arr.toList.length) → ((arr.toList[q]'hq).key = ek (m[q]'(by omega)).1) := fun q hq hq' => by
      have := congrArg (fun l => (l[q]?).map Prod.fst) hm
      simp only [List.getElem?_map, List.getElem?_eq_getElem hq', List.getElem?_eq_getElem (show q < m.length by omega), Option.map_some] at this
      exact Option.some.inj this
    by_cases hij : j = i
    · subst hij
      rw [if_pos rfl]
      have : (m[j]'him).1 = a := hek _ _ (by rw [← hkey2 j him hj, ej, hk0])
      simp [this, hk0]
    · rw [if_neg hij]
      have : (m[i]'him).1 ≠ a := fun e => by
        have h5 := List.pairwise_iff_getElem.1 hap
        have hil : i < arr.toList.length := by omega
        have h6 : (arr.toList[i]'hil).key = (arr.toList[j]'hj).key := by rw [hkey2 i him hil, ej, hk0, e]
        rcases Nat.lt_or_ge i j with h | h
        · exact h5 i j hil hj h h6
        · exact h5 j i hj hil (by omega) h6.symm
      simp [this]
  · intro e he
    rw [hlist] at he
    rcases List.mem_or_eq_of_mem_set he with he | rfl
    · exact hk e he
    · exact hk e0 he0
end
end Go.Proofs.YthbcabnljcpaiaaGreatDoor.H
namespace Go.Proofs.YthbcabnljcpaiaaGreatDoor.H
open Go.RowKit Go.Shelf Go.Lib Go.Maps Go.Proofs.YthbcabnljcpaiaaGreatDoorW.PrintWords Go.Proofs.YthbcabnljcpaiaaGreatDoor.Q
set_option linter.unusedVariables false
abbrev keyV (p : Int × Int) : Value := .agg #[.int .i64 p.1, .int .i64 p.2]
theorem keyV_inj (a c : Int × Int) (h : keyV a = keyV c) : a = c := by
  simp only [keyV, Value.agg.injEq] at h
  have h1 := congrArg (fun x : Array Value => x[0]?) h
  have h2 := congrArg (fun x : Array Value => x[1]?) h
  simp at h1 h2
  exact Prod.ext h1 h2
def I64 (n : Int) : Prop := -9223372036854775808 ≤ n ∧ n ≤ 9223372036854775807
theorem keyed63 : Keyed Tryz.prog 63 := Keyed.of_law (deep_law (m := 3) (by omega) (k := 63) (by kernel_rfl) (by kernel_rfl) (by kernel_rfl))
theorem wf64 {n : Int} (h : I64 n) : (Lit.int .i64 n).wf = true := by
  have hm : IntKind.i64.min = -9223372036854775808 := by decide
  simp [Lit.wf, hm]
  exact h
theorem key63 {p : Int × Int} (h1 : I64 p.1) (h2 : I64 p.2) : ∃ l, keyOf Tryz.prog 63 (keyV p) = some l := by
  have hkt : Tryz.prog.keyType 63 = true := by kernel_rfl
  have hc : Tryz.prog.cellsOf 63 = 2 := by kernel_rfl
  have hc3 : Tryz.prog.cellsOf 3 = 1 := by kernel_rfl
  have h0 : (Tryz.prog.types.size == 0) = false := by kernel_rfl
  obtain ⟨m, hm⟩ : ∃ m, Tryz.prog.types.size = m + 1 := Nat.exists_eq_succ_of_ne_zero (by simpa using h0)
  have w1 := wf64 h1
  have w2 := wf64 h2
  have hu := Tryz.underlying63
  have hu3 := Tryz.underlying3
  unfold keyOf
  simp only [hu, hm]
  rw [if_pos (by simp [hkt, Value.formed, hu, hc])]
  unfold Program.keyLits
  simp only [hu, Value.cells]
  rw [if_pos ⟨by rw [hc]; rfl, by simp⟩, List.mapM_cons, List.mapM_cons, List.mapM_nil]
  simp [hc3, Program.keyLits, hu3, w1, w2]
abbrev MapK (w : World) (b : Nat) (m : List ((Int × Int) × Int)) : Prop := MapA Tryz.prog 63 keyV (Value.int .i64) w b m
theorem MapK.get {w : World} {b : Nat} {m : List ((Int × Int) × Int)} (h : MapK w b m) {p : Int × Int} (h1 : I64 p.1) (h2 : I64 p.2) : (Instr.lookup 58 (.map (some b)) (keyV p) false).run Tryz.prog w = .ok (.int .i64 (asGet m p 0)) w := by
  obtain ⟨l, hl⟩ := key63 h1 h2
  exact MapA.get h keyV_inj keyed63 Tryz.underlying58 (d := 0) (by kernel_rfl) hl
theorem MapK.entryAt {w : World} {b : Nat} {m : List ((Int × Int) × Int)} (h : MapK w b m) {p : Int × Int} (h1 : I64 p.1) (h2 : I64 p.2) :
    ∃ s w', (Instr.mapEntry 58 (.map (some b)) (keyV p)).run Tryz.prog w = .ok (.tuple #[.int .i64 (asGet m p 0), .int .i64 (s : Nat)]) w' ∧ MapE Tryz.prog 63 keyV (Value.int .i64) w' b (asPut m p (asGet m p 0)) p s ∧ w.grownBy w' (some b) := by
  obtain ⟨l, hl⟩ := key63 h1 h2
  exact MapA.entryAt h keyV_inj keyed63 Tryz.underlying58 (d := 0) (by kernel_rfl) hl
end Go.Proofs.YthbcabnljcpaiaaGreatDoor.H
namespace Go.Proofs.YthbcabnljcpaiaaGreatDoor.H
open Go.RowKit Go.Shelf Go.Lib Go.Proofs.YthbcabnljcpaiaaGreatDoorW.PrintWords Go.Proofs.YthbcabnljcpaiaaGreatDoor.Q
set_option linter.unusedVariables false
def Inc (ps : List ByteArray) : Prop := ps.Pairwise fun a b => a.data.toList < b.data.toList
theorem Inc.iff {ps : List ByteArray} (h : Inc ps) {i j : Nat} (hi : i < ps.length) (hj : j < ps.length) : (ps[i].data.toList < ps[j].data.toList) ↔ i < j := by
  have hp := List.pairwise_iff_getElem.1 h
  constructor
  · intro e
    rcases Nat.lt_trichotomy i j with h1 | h1 | h1
    · exact h1
    · subst h1; exact absurd e (List.lt_irrefl _)
    · exact absurd (List.lt_trans e (hp j i hj hi h1)) (List.lt_irrefl _)
  · exact hp i j hi hj
theorem less_ev (a b : ByteArray) : M.cmp_Less_string.f a b = some (decide (a.data.toList < b.data.toList)) := by
  unfold M.cmp_Less_string.f M.cmp_isNaN_string.f
  simp only [bne_self_eq_false, Option.bind_some, Bool.false_eq_true, if_false, Go.Proofs.bytesLess_eq, Lib.toList_data]
theorem half (i j : Nat) (h : i + j ≤ 1000000000) : wrap64 ((IntKind.u64.wrap (wrap64 ((i : Int) + (j : Int)))) / 2) = (((i + j) / 2 : Nat) : Int) := by
  have e1 : wrap64 ((i : Int) + (j : Int)) = (i : Int) + j := by unfold wrap64; omega
  rw [e1, u64_of (by omega) (by omega)]
  unfold wrap64
  omega
theorem bin_ev (ps : List ByteArray) (s : ByteArray) (t : Nat) (hI : Inc ps) (hl : ps.length ≤ 1000000) (ht : t < ps.length) (hs : ps[t] = s) : Ev (fun k => M.slices_BinarySearch_string_string.f k ps s) ((t : Int), true) := by
  show Ev (fun k => M.slices_BinarySearch_string_string.l0 k ps s (ps.length : Int) ((0 : Nat) : Int) (ps.length : Int)) _
  have main : ∀ d i j : Nat, j - i ≤ d → i ≤ t → t ≤ j → j ≤ ps.length → Ev (fun k => M.slices_BinarySearch_string_string.l0 k ps s (ps.length : Int) (i : Int) (j : Int)) ((t : Int), true) := by
    intro d
    induction d with
    | zero =>
      intro i j hd hi hj hn
      obtain rfl : i = t := by omega
      refine Ev.step (f := fun _ => some _) (fun k => ?_) (Ev.now _)
      have er : rdOf ByteArray.empty ps (i : Int) = s := by simp [rdOf, List.getD, ht, hs]
      simp only [M.slices_BinarySearch_string_string.l0]
      rw [if_neg (by omega), if_pos (by omega), if_pos (by omega), if_pos (by omega), er, if_pos rfl]
    | succ d ih =>
      intro i j hd hi hj hn
      by_cases hij : i < j
      · have hh : (i + j) / 2 < ps.length := by omega
        have er : rdOf ByteArray.empty ps (((i + j) / 2 : Nat) : Int) = ps[(i + j) / 2] := by unfold rdOf; rw [Int.toNat_natCast, List.getD, List.getElem?_eq_getElem hh]; rfl
        have hw := half i j (by omega)
        have hw1 : wrap64 ((((i + j) / 2 : Nat) : Int) + 1) = (((i + j) / 2 + 1 : Nat) : Int) := by unfold wrap64; omega
        have hc := hI.iff hh ht
        rw [hs] at hc
        by_cases hlt : (i + j) / 2 < t
        · refine Ev.step (f := fun k => M.slices_BinarySearch_string_string.l0 k ps s (ps.length : Int) (((i + j) / 2 + 1 : Nat) : Int) (j : Int)) (fun k => ?_) (ih _ _ (by omega) (by omega) hj hn)
          simp only [M.slices_BinarySearch_string_string.l0, hw, hw1]
          rw [if_pos (by omega), if_pos (by omega), if_pos (by omega), er, less_ev, decide_eq_true (hc.2 hlt)]
          rfl
        · refine Ev.step (f := fun k => M.slices_BinarySearch_string_string.l0 k ps s (ps.length : Int) (i : Int) (((i + j) / 2 : Nat) : Int)) (fun k => ?_) (ih _ _ (by omega) hi (by omega) (by omega))
          simp only [M.slices_BinarySearch_string_string.l0, hw, hw1]
          rw [if_pos (by omega), if_pos (by omega), if_pos (by omega), er, less_ev, decide_eq_false (fun e => hlt (hc.1 e))]
          rfl
      · exact ih i j (by omega) hi hj hn
  exact main ps.length 0 ps.length (by omega) (by omega) (by omega) (Nat.le_refl _)
theorem bin_calls (ps : List ByteArray) (A : Option Addr) (c : Nat) (s : ByteArray) (t : Nat) (hI : Inc ps) (hl : ps.length ≤ 1000000) (ht : t < ps.length) (hs : ps[t] = s) (w : World) (hC : Kd.C Kd.string w A ps.length ps) (hc : ps.length ≤ c) :
    Calls Tryz.prog 35 #[.slice A ps.length c, .string s] w fun e w' => e = .returned (.tuple #[.int .i64 (t : Int), .bool true]) ∧ Drawn0 w w' := by
  obtain ⟨k, hk⟩ := Ev.rounds (bin_ev ps s t hI hl ht hs)
  exact M.slices_BinarySearch_string_string.calls k A c ps s _ _ w hC hc hk
end Go.Proofs.YthbcabnljcpaiaaGreatDoor.H
