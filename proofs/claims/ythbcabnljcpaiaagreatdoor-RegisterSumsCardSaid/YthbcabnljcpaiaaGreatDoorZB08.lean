/- A part of the proof that the register's laws hold; no condition of its own. -/
import Derived.Test.YthbcabnljcpaiaaGreatDoorZB07
import Derived.RegionIn
import Derived.Maps.AppendAt
set_option linter.all false
namespace Go.Proofs.YthbcabnljcpaiaaGreatDoor.H
open Go.RowKit Go.Shelf Go.Proofs.YthbcabnljcpaiaaGreatDoorW.PrintWords
set_option linter.unusedVariables false
set_option maxRecDepth 100000 in
set_option maxHeartbeats 4000000 in
theorem search_calls (n : Nat) (hn : n ≤ 1000000000000) (lb : Array Value) (p : Nat → Bool) (w0 : World)
    (hp : ∀ (k : Nat), k < n → ∀ W, Below w0.heap.size w0 W → Calls Tryz.prog 188 (#[.int .i64 k] ++ lb) W fun e w' => e = .returned (.bool (p k)) ∧ Below W.heap.size W w') :
    Calls Tryz.prog 187 #[.int .i64 n, .func (.func 188) #[] lb] w0 fun e w' => ∃ r : Nat, r ≤ n ∧ e = .returned (.int .i64 r) ∧ (0 < r → p (r - 1) = false) ∧ (r < n → p r = true) ∧ Below w0.heap.size w0 w' := by
  have hen := enters_of Tryz.func188 (by kernel_rfl) rfl
  have HP := Lib.hid hp
  clear hp
  go_enter Tryz.func187, Tryz.ntmps187
  go_wp2
  go_loopw [5, 6] (fun vi vj wr => ∃ i j : Nat, i ≤ j ∧ j ≤ n ∧ vi = .int .i64 i ∧ vj = .int .i64 j ∧ (0 < i → p (i - 1) = false) ∧ (j < n → p j = true) ∧ Below w0.heap.size w0 wr)
    (fun vi vj _ => (intOf vj - intOf vi).toNat)
  case atStart => exact ⟨0, n, by omega, by omega, rfl, rfl, fun h => by omega, fun h => by omega, Below.refl _ _⟩
  case round =>
    obtain ⟨i, j, hij, hjn, rfl, rfl, hi, hj, hB⟩ := hrel
    have Hi := Lib.hid hi
    have Hj := Lib.hid hj
    clear hi hj
    by_cases hlt : i < j
    · have e1 : IntKind.i64.wrap ((i : Int) + (j : Int)) = (i : Int) + j := IntWalk.i64_in _ (by omega)
      have hc := HP.out ((i + j) / 2) (by omega) wr hB
      have e2 : (((i + j) / 2 : Nat) : Int) = ((i : Int) + (j : Int)) / 2 := by omega
      rw [e2] at hc
      have b1 : (i : Int) ≤ ((i : Int) + (j : Int)) / 2 := by omega
      have b2 : ((i : Int) + (j : Int)) / 2 < (j : Int) := by omega
      cases hph : p ((i + j) / 2) with
      | false =>
        rw [hph] at hc
        have HC := Lib.hid hc
        have E2 := Lib.hid e2
        have HPH := Lib.hid hph
        clear hc e2 hph
        go_wp2_with (fail)
        refine HC.out.mono ?_
        rintro e w' ⟨rfl, hb⟩
        go_wp2
        go_roundw
        case rel => exact ⟨(i + j) / 2 + 1, j, by omega, hjn, by rw [← E2.out]; go_num, rfl, fun _ => HPH.out, Hj.out, hB.trans (hb.mono hB.size)⟩
        case measure => simp [intOf]; omega
      | true =>
        rw [hph] at hc
        have HC := Lib.hid hc
        have E2 := Lib.hid e2
        have HPH := Lib.hid hph
        clear hc e2 hph
        go_wp2_with (fail)
        refine HC.out.mono ?_
        rintro e w' ⟨rfl, hb⟩
        go_wp2
        go_roundw
        case rel => exact ⟨i, (i + j) / 2, by omega, by omega, rfl, by rw [← E2.out], Hi.out, fun _ => HPH.out, hB.trans (hb.mono hB.size)⟩
        case measure => simp [intOf]; omega
    · obtain rfl : i = j := by omega
      go_wp2
      go_ret
      exact ⟨i, hjn, rfl, Hi.out, Hj.out, hB⟩
end Go.Proofs.YthbcabnljcpaiaaGreatDoor.H
namespace Go.Proofs.YthbcabnljcpaiaaGreatDoor.H
open Go.RowKit Go.Shelf Go.Proofs.YthbcabnljcpaiaaGreatDoorW.PrintWords
set_option linter.unusedVariables false
attribute [local go_sem] Oper.semAt_some
theorem in_append {F : Fence} {n : Nat} {P : Program} {w : World} {ops : Array Oper} {rest : List Oper} {o : Oper} {a : Act} {Q : Exit → Act → World → Prop} (hg : o.guard = none) (s x : Operand) (t : TypeId)
    (hop : o.op = Op.call { callee := Callee.builtin Builtin.append, args := #[s, x], argTypes := #[t, t] }) (v u v1 : Value) (w1 : World) (hs : a.eval s = v) (hx : a.eval x = u) (hrun : (Builtin.append_ #[t, t] o.type #[v, u]).run P w = .ok v1 w1)
    (hK : wpListIn F n P ops Q rest (a.put o.dst v1) w1) : wpListIn F n P ops Q (o :: rest) a w := by
  refine wpListIn_plain hg fun K hK' => ?_
  unfold Oper.wpIn
  refine ⟨?_, ?_⟩
  · simp [Oper.about, hop, resolve, Target.leads, Sem.run_pure]
  · rw [Oper.semAt_plain F _ _ (by rw [hop]; intro c hc'; cases hc')]
    simp [execOp, hop, resolve, invoke, builtin, hs, hx, hrun, Result.andThen]
    exact hK' _ _ hK
def NumF (ok : Nat → Prop) (W : World) (v : Value) (xs : List Int) : Prop := Kd.V (Kd.int .u64) 167 W 0 ok v xs
theorem NumF.num {ok : Nat → Prop} {W : World} {v : Value} {xs : List Int} (h : NumF ok W v xs) : Num W v xs := Num.of_V h
theorem NumF.mono {ok ok' : Nat → Prop} {W : World} {v : Value} {xs : List Int} (h : NumF ok W v xs) (hk : ∀ k, ok k → ok' k) : NumF ok' W v xs := Kd.V_mono h hk
theorem NumF.below {ok : Nat → Prop} {W W' : World} {v : Value} {xs : List Int} (h : NumF ok W v xs) (hb : Below W.heap.size W W') : NumF ok W' v xs := Kd.V_below h hb
theorem NumF.far {ok : Nat → Prop} {W : World} {v : Value} {xs : List Int} (h : NumF ok W v xs) {b j : Nat} (hk : ∀ k, ok k → k ≠ b) (u : Value) : NumF ok (W.setCell ⟨b, j, none⟩ u) v xs := Kd.V_far (p := ⟨b, j, none⟩) h hk u
theorem NumF.grown {ok : Nat → Prop} {W W' : World} {v : Value} {xs : List Int} {row : Option Nat} (h : NumF ok W v xs) (hg : W.grownBy W' row) (hk : ∀ k, ok k → some k ≠ row) : NumF ok W' v xs := Kd.V_grown h hg hk
theorem NumF.of_own {W : World} {base : Nat} {v : Value} {xs : List Int} (h : W.ownsRow base 167 1 v xs.length (nums .u64 xs)) : NumF (fun k => base ≤ k) W v xs :=
  Kd.V_mono (Kd.R_V (base := base) (Kd.R_mono (Kd.R_bound (Kd.R_of_own (enc := Value.int .u64) (h1 := fun _ => rfl) (ok := fun _ => True) h (fun _ _ => trivial))) (fun k hk => hk))) (fun k hk => hk.2.1)
theorem NumF.nil (ok : Nat → Prop) (W : World) : NumF ok W (.slice none 0 0) [] := Kd.V_nil _ _ _ _ _
theorem trim_callsF (ok : Nat → Prop) (xs : List Int) (v : Value) (w : World) (h : NumF ok w v xs) : Calls Tryz.prog 179 #[v] w fun e w' => ∃ u, e = .returned u ∧ NumF (fun k => ok k ∨ w.heap.size ≤ k) w' u (trimL xs) ∧ Below w.heap.size w w' := by
  obtain ⟨A, c, rfl, hl, hF⟩ := h
  obtain ⟨k, hk⟩ := Ev.rounds (trim_ev xs (Kd.F_max hF))
  refine (M.natural_number_trim.calls k ok A c xs (trimL xs) w (Kd.V_mk hl hF) hk).mono ?_
  rintro e w' ⟨u, rfl, hV, hb⟩
  exact ⟨u, rfl, hV, hb⟩
theorem sub_callsF (a b : Nat) (hab : b ≤ a) (hm : (limbs a).length ≤ 35184372088832) (v u : Value) (w : World) (h : Num w v (limbs a)) (h' : Num w u (limbs b)) : Calls Tryz.prog 145 #[v, u] w fun e w' => ∃ r, e = .returned r ∧ NumF (fun k => w.heap.size ≤ k) w' r (limbs (a - b)) ∧ Below w.heap.size w w' := by
  obtain ⟨A, c, rfl, hl, hC⟩ := h
  obtain ⟨A', c', rfl, hl', hC'⟩ := h'
  obtain ⟨k, hk⟩ := sub_ev hab hm
  refine (M.natural_number_sub.calls k A c _ A' c' _ _ w hC hl hC' hl' hk).mono ?_
  rintro e w' ⟨r, rfl, hV, hb⟩
  exact ⟨r, rfl, hV, hb⟩
theorem cell_block {W : World} {a : Addr} {v : Value} (h : W.cell? a = some v) : ∃ c e f, W.heap[a.block]? = some (.cells c e f) := by
  unfold World.cell? at h
  split at h
  · exact ⟨_, _, _, by assumption⟩
  · cases h
theorem cell_same {W W' : World} {a : Addr} (h : W'.heap[a.block]? = W.heap[a.block]?) : W'.cell? a = W.cell? a := by simp [World.cell?, h]
theorem NC.cells {W W' : World} {A : Option Addr} {n : Nat} {xs : List Int} (h : NC W A n xs) (hs : ∀ (k : Nat) c e f, W.heap[k]? = some (Obj.cells c e f) → W'.heap[k]? = W.heap[k]?) : NC W' A n xs := by
  have hr := Kd.reads_of_C (enc := Value.int .u64) (d := (0 : Int)) (h1 := fun _ => rfl) h
  refine Kd.C_of_reads (d := (0 : Int)) (h1 := fun _ => rfl) ⟨hr.1, hr.2.1, fun hn => ?_⟩
  obtain ⟨ad, e, hc⟩ := hr.2.2 hn
  refine ⟨ad, e, fun j hj => ?_⟩
  have h1 := hc j hj
  obtain ⟨c, e, f, hb⟩ := cell_block h1
  exact (cell_same (hs _ c e f hb)).trans h1
theorem NumF.notcells {ok : Nat → Prop} {W W1 : World} {v : Value} {xs : List Int} {row : Option Nat} (h : NumF ok W v xs) (hg : W.grownBy W1 row) (hr : ∀ r, row = some r → ∃ o : Obj, W.heap[r]? = some o ∧ o.isCells = false) : NumF ok W1 v xs := by
  obtain ⟨A, c, e, hl, hF⟩ := h
  refine ⟨A, c, e, hl, fun W2 h2 => ?_⟩
  cases row with
  | none => exact hF W2 (fun k hk hlt => (h2 k hk (Nat.lt_of_lt_of_le hlt hg.size)).trans (hg.block k hlt (by simp)))
  | some r =>
    obtain ⟨o, ho, hno⟩ := hr r rfl
    have hrl : r < W.heap.size := (Array.getElem?_eq_some_iff.1 ho).1
    have hC : NC { W2 with heap := W2.heap.setIfInBounds r o } A xs.length xs := hF _ (fun k hk hlt => by
      have h3 := h2 k hk (Nat.lt_of_lt_of_le hlt hg.size)
      by_cases hkr : k = r
      · subst hkr
        have hk2 : k < W2.heap.size := by
          have : W1.heap[k]? ≠ none := by simp; exact Nat.lt_of_lt_of_le hlt hg.size
          rw [← h3] at this
          simpa using this
        show (W2.heap.setIfInBounds k o)[k]? = _
        rw [ho]
        simp [hk2]
      · show (W2.heap.setIfInBounds r o)[k]? = _
        rw [Array.getElem?_setIfInBounds_ne (Ne.symm hkr), h3]
        exact hg.block k hlt (by simpa using hkr))
    refine NC.cells hC (fun k c e f hk => ?_)
    have hkr : k ≠ r := by
      rintro rfl
      have hk' : (W2.heap.setIfInBounds k o)[k]? = some (.cells c e f) := hk
      by_cases hlt : k < W2.heap.size
      · simp [hlt] at hk'
        subst hk'
        cases hno
      · simp [hlt] at hk'
    show W2.heap[k]? = (W2.heap.setIfInBounds r o)[k]?
    rw [Array.getElem?_setIfInBounds_ne (Ne.symm hkr)]
theorem own_notcells {W W1 : World} {base : Nat} {e : TypeId} {size n : Nat} {v : Value} {xs : List Value} {row : Option Nat} (h : W.ownsRow base e size v n xs) (hg : W.grownBy W1 row) (hr : ∀ r, row = some r → ∃ o : Obj, W.heap[r]? = some o ∧ o.isCells = false) : W1.ownsRow base e size v n xs :=
  own_move h (fun k hk => by
    obtain ⟨cells, hc⟩ := own_typed h k hk
    refine hg.block k (own_lt h k hk) (fun e' => ?_)
    obtain ⟨o, ho, hno⟩ := hr k e'.symm
    rw [hc] at ho
    cases ho
    cases hno)
theorem KO_below {W W' : World} (h : Below W.heap.size W W') : KeepsOthers W W' := ⟨h.size, fun k o hk _ => (h.block k (Array.getElem?_eq_some_iff.1 hk).1).trans hk⟩
theorem info167 : (Tryz.prog.info? 167).map (fun i => (i.zero, i.size, i.bytes)) = some (some (.int .u64 0), 1, 8) := by kernel_rfl
theorem Num.of_own {W : World} {base : Nat} {v : Value} {xs : List Int} (h : W.ownsRow base 167 1 v xs.length (nums .u64 xs)) : Num W v xs := by
  obtain ⟨A, c, rfl, hl, hr⟩ := own_reads_of_le (enc := Value.int .u64) (d := (0 : Int)) h
  exact ⟨A, c, rfl, hl, Kd.C_of_reads (d := (0 : Int)) (h1 := fun _ => rfl) hr⟩
theorem app_run {W : World} {base : Nat} {ty : TypeId} (v : Value) (xs ys : List Int) (u : Value) (hown : W.ownsRow base 167 1 v xs.length (nums .u64 xs)) (hu : Num W u ys) (hbase : base ≤ W.heap.size) (hl : (xs.length + ys.length) * 8 ≤ 140737488355328) :
    ∃ v1 w1, (Builtin.append_ #[136, 136] ty #[v, u]).run Tryz.prog W = .ok v1 w1 ∧ NumF (fun k => base ≤ k) w1 v1 (xs ++ ys) ∧ W.grownBy w1 v.ownBlock := by
  obtain ⟨i0, hi, hzz⟩ := Option.map_eq_some_iff.1 info167
  simp only [Prod.mk.injEq] at hzz
  obtain ⟨hz0, hz1, hz2⟩ := hzz
  obtain ⟨A, c, rfl, hlc, hC⟩ := hu
  have hr := Kd.reads_of_C (enc := Value.int .u64) (d := (0 : Int)) (h1 := fun _ => rfl) hC
  rcases A with _ | ad
  · have h0 : ys = [] := by
      rcases Nat.eq_zero_or_pos ys.length with h0 | h0
      · exact List.eq_nil_of_length_eq_zero h0
      · obtain ⟨ad, h, _⟩ := hr.2.2 h0
        cases h
    subst h0
    refine ⟨v, W, ?_, by rw [List.append_nil]; exact NumF.of_own hown, World.grownBy.refl W _⟩
    rcases hown.2 with ⟨rfl, hn⟩ | ⟨g, cap, cur, rfl, _, _, hnc, _⟩
    · simp [Builtin.append_, run_underlying Tryz.underlying136, sizeOf, typeInfo, hi, Builtin.lenOf, Builtin.firstCells]
    · simp [Builtin.append_, run_underlying Tryz.underlying136, sizeOf, typeInfo, hi, Builtin.lenOf, Builtin.firstCells, hnc, storeCells]
  · have hcells : ∀ j u, (nums .u64 ys)[j]? = some u → W.cell? (ad.add j) = some u := by
      intro j u hu
      have hj : j < ys.length := by
        rcases Nat.lt_or_ge j ys.length with h | h
        · exact h
        · simp [nums, List.getElem?_eq_none h] at hu
      obtain ⟨ad', h', hc⟩ := hr.2.2 (by omega)
      obtain rfl : ad = ad' := Option.some.inj h'
      have := encs_get (enc := Value.int .u64) (d := (0 : Int)) ys j hj
      rw [show encs (Value.int .u64) ys = nums .u64 ys from rfl, hu] at this
      rw [this]
      exact hc j (by omega)
    have hmx : xs.length + ys.length ≤ maxLen := by have : maxLen = 9223372036854775807 := rfl; omega
    obtain ⟨v1, w1, hrun, h2, h3, _, h5⟩ := run_append_own_at (P := Tryz.prog) W base 136 ty 167 i0 (.int .u64 0) 1 8 Tryz.underlying136 hi hz0 hz1 hz2 rfl (by omega) v xs.length (nums .u64 xs) hown ad ys.length c (nums .u64 ys) (by simp [nums]) hcells
      (by intro u hu; simp only [nums, List.mem_map] at hu; obtain ⟨q, _, rfl⟩ := hu; rfl) hmx hl hbase
    refine ⟨v1, w1, hrun, NumF.of_own (base := base) ?_, h3⟩
    have e1 : (xs ++ ys).length = xs.length + ys.length := List.length_append
    rw [nums_append, e1]
    exact h2
end Go.Proofs.YthbcabnljcpaiaaGreatDoor.H
