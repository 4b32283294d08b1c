/- A part of the proof that the register's laws hold; no condition of its own. -/
import Derived.Test.YthbcabnljcpaiaaGreatDoorZB10
import Derived.Test.YthbcabnljcpaiaaGreatDoorZB11
import Derived.Lib.AppendIntMem
import Derived.Lib.Builder
import Derived.Lib.AppendStr
import Derived.Lib.OthersKept
import Derived.Test.YthbcabnljcpaiaaGreatDoorZB04
import Derived.Lib.ItoaNum
import Derived.Lib.Repeat
import Derived.Lib.ParseIntB
import Derived.Test.YthbcabnljcpaiaaGreatDoorZB09
import Derived.Deep.Onto
import Derived.Shelf.Strings.SlTrimAscii
set_option linter.all false
namespace Go.Proofs.YthbcabnljcpaiaaGreatDoor.H
open Go.RowKit Go.Shelf Go.Sort Go.Lib Go.Proofs.YthbcabnljcpaiaaGreatDoorW.PrintWords
set_option linter.unusedVariables false
def Tab (w : World) : Prop := Lib.TabIs Tryz.prog w "internal/strconv.uint64pow10" .u64 Lib.pow10Tab
theorem below_grow (w : World) (k : Nat) (os : Array Obj) : Below w.heap.size w (grow (w.drewN k) os) :=
  ⟨rfl, rfl, rfl, by show w.heap.size ≤ (w.heap ++ os).size; simp, fun i hi => heap_grow_old w k os i hi⟩
set_option maxRecDepth 100000 in
set_option maxHeartbeats 4000000 in
theorem iformatUint_calls (u : Nat) (hu64 : u < 18446744073709551616) (w : World) (htab : Tab w) :
    Calls Tryz.prog 219 #[.int .u64 u, .int .i64 10] w fun e w' => e = .returned (.string ⟨(Lib.decDigits u).toArray⟩) ∧ Below w.heap.size w w' := by
  by_cases hs : u < 100
  · have hi : (u : Int) < 100 := by omega
    have hw64 : IntKind.i64.wrap (u : Int) = (u : Int) := IntWalk.i64_in _ (by omega)
    go_enter Tryz.func219, Tryz.ntmps219
    go_wp2_with (go_at_call 183; refine (Tryz.internal_strconv_small u hs _).mono ?_; rintro e w' ⟨rfl, rfl⟩)
    go_ret
    exact ⟨rfl, Below.refl _ _⟩
  · have hu1 : 1 ≤ u := by omega
    have hnd20 : Lib.nDigits u ≤ 20 := by have := Lib.numDigits_eq u hu1 hu64; split at this <;> omega
    have hge : ¬ (u : Int) < 100 := by omega
    have hal : Tryz.prog.arrayLen 189 = 24 := by kernel_rfl
    have hsl : ∀ W, (Instr.sliceAt 189 (.pointer (some ⟨w.heap.size, 0, none⟩)) none (some (.int .i64 (Lib.nDigits u : Int))) none).run Tryz.prog W = .ok (.slice (some ⟨w.heap.size, 0, none⟩) (Lib.nDigits u) 24) W := fun W => by
      rw [run_sliceAt_array_h W 189 ⟨w.heap.size, 0, none⟩ (by kernel_rfl) .i64 (Lib.nDigits u : Int) (by omega) (by rw [hal]; omega)]
      go_simp
    have hH0 := Lib.holds_zero0 w 189 (Lib.nDigits u) (by omega)
    have hfmt := Tryz.internal_strconv_formatBase10 w.heap.size 0 24 u (Array.replicate (Lib.nDigits u) 0) (w.alloc (.cells Lib.zeros24 189)) hH0 (by rw [Array.size_replicate]; exact Lib.lt_pow_nDigits u) hu64 (by rw [Array.size_replicate]; omega)
    rw [Array.size_replicate] at hfmt
    have HH0 := Lib.hid hH0
    clear hH0 hal
    go_enter Tryz.func219, Tryz.ntmps219
    go_wp2_with (first
      | (go_at_call 184; refine (Tryz.internal_strconv_numDigits u hu1 hu64 _ (Lib.tabIs_alloc htab _)).mono ?_; rintro e w' ⟨rfl, rfl⟩))
    go_at_call 185
    refine hfmt.mono ?_
    rintro e w' ⟨rfl, k, v', dk, rfl, hF⟩
    have hcv : (convert 138 9 (.slice (some ⟨w.heap.size, 0, none⟩) (Lib.nDigits u) 24)).run Tryz.prog ((putRow (fun (b : UInt8) => Value.int .u8 (b.toNat : Int)) (w.alloc (.cells Lib.zeros24 189)) w.heap.size 0 dk).drewN k) = .ok (.string ⟨(Lib.decDigits u).toArray⟩) ((putRow (fun (b : UInt8) => Value.int .u8 (b.toNat : Int)) (w.alloc (.cells Lib.zeros24 189)) w.heap.size 0 dk).drewN k) := by
      have h := run_convert_bytes_back (P := Tryz.prog) ((putRow (fun (b : UInt8) => Value.int .u8 (b.toNat : Int)) (w.alloc (.cells Lib.zeros24 189)) w.heap.size 0 dk).drewN k) 138 9 5 ⟨w.heap.size, 0, none⟩ 24 (Lib.decDigits u) Tryz.underlying138 Tryz.underlying5 Tryz.underlying9 (fun j hj => by
        rw [Lib.row_is_numeral hF j hj, Lib.add_plain, World.cell?_drewN]
        exact cell?_putRow (fun (b : UInt8) => Value.int .u8 (b.toNat : Int)) _ w.heap.size 0 _ dk HH0.out (by rw [hF.size, Array.size_replicate]) j (by rw [hF.size]; rw [Lib.decDigits_length] at hj; exact hj))
      rw [Lib.decDigits_length] at h
      exact h
    go_wp2
    go_ret
    obtain ⟨os, eo⟩ := Lib.fin_at w (.cells Lib.zeros24 189) dk k 0
    refine ⟨rfl, ?_⟩
    rw [eo]
    exact below_grow w k os
theorem formatUint_calls (u : Nat) (hu64 : u < 18446744073709551616) (w : World) (htab : Tab w) :
    Calls Tryz.prog 189 #[.int .u64 u, .int .i64 10] w fun e w' => e = .returned (.string ⟨(Lib.decDigits u).toArray⟩) ∧ Below w.heap.size w w' := by
  go_enter Tryz.func189, Tryz.ntmps189
  go_wp2_with (go_at_call 219; refine (iformatUint_calls u hu64 _ htab).mono ?_; rintro e w' ⟨rfl, hb⟩)
  go_ret
  exact ⟨rfl, hb⟩
end Go.Proofs.YthbcabnljcpaiaaGreatDoor.H
namespace Go.Proofs.YthbcabnljcpaiaaGreatDoor.H
open Go.RowKit Go.Shelf Go.Proofs.YthbcabnljcpaiaaGreatDoorW.PrintWords
set_option linter.unusedVariables false
theorem sizeB : (Tryz.prog.info? 196).map (fun i => (i.size, decide (i.size ≠ 0))) = some (2, true) := by kernel_rfl
theorem liesB : liesAt Tryz.prog Tryz.prog.depth 196 (2 / Tryz.prog.cellsOf 196) 0 196 1 = true := by kernel_rfl
theorem info5 : (Tryz.prog.info? 5).map (fun i => (i.zero, i.size, i.bytes)) = some (some (.int .u8 0), 1, 1) := by kernel_rfl
set_option maxHeartbeats 2000000 in
set_option maxRecDepth 100000 in
theorem copyCheck_used (b : Nat) (w : World) (h0 : w.cell? ⟨b, 0, none⟩ = some (.pointer (some ⟨b, 0, none⟩))) :
    Calls Tryz.prog 220 #[.pointer (some ⟨b, 0, none⟩)] w fun e w' => e = .returned (.tuple #[]) ∧ w = w' := by
  obtain ⟨j, hj, _⟩ := Option.map_eq_some_iff.1 sizeB
  go_enter Tryz.func220, Tryz.ntmps220
  go_wp2
  rw [Lib.run_neq_ptr_same w _ Tryz.underlying194 hj]
  go_wp2
  go_end0
  exact ⟨rfl, rfl⟩
set_option maxHeartbeats 2000000 in
set_option maxRecDepth 100000 in
theorem copyCheck_fresh (b : Nat) (w : World) (h0 : w.cell? ⟨b, 0, none⟩ = some (.pointer none)) (hsh : w.shape? b = some (196, 2)) (hfz : w.frozen? ⟨b, 0, none⟩ = false) :
    Calls Tryz.prog 220 #[.pointer (some ⟨b, 0, none⟩)] w fun e w' => e = .returned (.tuple #[]) ∧ w' = w.setCell ⟨b, 0, none⟩ (.pointer (some ⟨b, 0, none⟩)) := by
  obtain ⟨j, hj, hjs⟩ := Option.map_eq_some_iff.1 sizeB
  simp only [Prod.mk.injEq] at hjs
  go_enter Tryz.func220, Tryz.ntmps220
  go_wp2
  rw [Lib.run_to_unsafe w ⟨b, 0, none⟩ Tryz.underlying194 Tryz.underlying236 hj (by omega) hsh (Nat.zero_lt_succ 1)]
  simp only [Result.andThen]
  rw [Oper.upon_value]
  go_wp2
  rw [run_callFunc_extern Tryz.func233 (by kernel_rfl) (by kernel_rfl) (by kernel_rfl) (e := Extern.AbiNoEscape.same) (by kernel_rfl)]
  rw [Lib.run_noEscape]
  simp only [Result.andThen]
  rw [Oper.upon_value]
  go_wp2
  rw [Lib.run_from_unsafe w ⟨b, 0, none⟩ Tryz.underlying236 Tryz.underlying194 hj hsh liesB]
  simp only [Result.andThen]
  rw [Oper.upon_value]
  go_wp2
  go_end0
  exact ⟨rfl, rfl⟩
theorem copyCheck_calls (B b : Nat) (bs : List Value) (w : World) (h : Lib.IsBuilder 196 5 B b bs w) :
    Calls Tryz.prog 220 #[.pointer (some ⟨b, 0, none⟩)] w fun e w' => e = .returned (.tuple #[]) ∧ (Lib.BuilderAt 196 5 B b (.pointer (some ⟨b, 0, none⟩)) bs w' ∧ Below B w w' ∧ Lib.OthersKept 5 (some b) w w') := by
  rcases h with h | h
  · refine (copyCheck_fresh b w h.cell0 h.shape h.frozen0).mono ?_
    rintro e w' ⟨rfl, rfl⟩
    exact ⟨rfl, h.used _, (Below.refl B w).setCell (p := ⟨b, 0, none⟩) h.1 _, (Lib.OthersKept.refl _ _ _).setCell ⟨b, 0, none⟩ rfl _⟩
  · refine (copyCheck_used b w h.cell0).mono ?_
    rintro e w' ⟨rfl, rfl⟩
    exact ⟨rfl, h, Below.refl B _, Lib.OthersKept.refl _ _ _⟩
set_option maxHeartbeats 2000000 in
set_option maxRecDepth 100000 in
theorem writeString_calls (B b : Nat) (bs : List Value) (s : ByteArray) (w : World) (h : Lib.IsBuilder 196 5 B b bs w) (hlen : bs.length + s.size ≤ 140737488355328) (hBw : B ≤ w.heap.size) :
    Calls Tryz.prog 190 #[.pointer (some ⟨b, 0, none⟩), .string s] w fun e w' => e = .returned (.tuple #[.int .i64 s.size, .nilIface]) ∧ (Lib.BuilderAt 196 5 B b (.pointer (some ⟨b, 0, none⟩)) (bs ++ Lib.strCells s) w' ∧ Below B w w' ∧ Lib.OthersKept 5 (some b) w w') := by
  obtain ⟨i0, hi, hz0, hz1, hz2⟩ := info_parts info5
  go_enter Tryz.func190, Tryz.ntmps190
  go_wp2_with (go_at_call 220; refine (copyCheck_calls B b bs _ h).mono ?_)
  rintro e w1 ⟨rfl, h1, hb1, hk1⟩
  obtain ⟨hB, v, hbk, hown, hne⟩ := h1
  have c0 : w1.cell? ⟨b, 0, none⟩ = some (.pointer (some ⟨b, 0, none⟩)) := by rw [Lib.cell_of_heap hbk]; rfl
  have c1 : w1.cell? ⟨b, 1, none⟩ = some v := by rw [Lib.cell_of_heap hbk]; rfl
  go_wp2_with (at_builtin; refine Lib.wpList_append_own_string _ rfl _ _ 138 9 rfl B 5 i0 Tryz.underlying138 Tryz.underlying9 hi hz0 hz1 hz2 _ _ _ rfl hown s rfl ?c3 ?c4 ?c5 ?_)
  case c3 => unfold maxLen; omega
  case c4 => omega
  case c5 => have := hb1.size; omega
  intro v' w2 hown' hgrow _
  have hlt : b < w1.heap.size := blk_lt hbk
  have hb2 : w2.heap[b]? = some (.cells #[.pointer (some ⟨b, 0, none⟩), v] 196 (0, 0)) := by
    rw [hgrow.block b hlt (fun e => hne e.symm)]
    exact hbk
  have d0 : w2.cell? ⟨b, 0, none⟩ = some (.pointer (some ⟨b, 0, none⟩)) := by rw [Lib.cell_of_heap hb2]; rfl
  have d1 : w2.cell? ⟨b, 1, none⟩ = some v := by rw [Lib.cell_of_heap hb2]; rfl
  have f1 : w2.frozen? ⟨b, 1, none⟩ = false := Lib.frozen_of_heap hb2 1
  obtain ⟨ao, n', cap, rfl⟩ : ∃ ao n' cap, v' = .slice ao n' cap := by
    rcases hown'.2 with ⟨hv, _⟩ | ⟨g, cap, cur, hv, _⟩
    · exact ⟨_, _, _, hv⟩
    · exact ⟨_, _, _, hv⟩
  go_wp2
  go_ret2
  refine ⟨rfl, ?_, ?_, (hk1.grown hgrow (fun g hg => ?_)).setCell ⟨b, 1, none⟩ rfl _⟩
  · exact Lib.BuilderAt.put (T := 196) (e := 5) hB hb2 (bs' := bs ++ Lib.strCells s) (by simpa [Lib.strCells_length] using hown') (by decide)
  · exact (hb1.grown hgrow (by have := hb1.size; omega) (fun k hk => (hown.lt k hk).1)).setCell (p := ⟨b, 1, none⟩) hB _
  · rcases hown.2 with ⟨rfl, _⟩ | ⟨g', cap, cur, rfl, _, hg', _⟩
    · simp [Value.ownBlock] at hg
    · simp only [Value.ownBlock, Option.some.injEq] at hg
      subst hg
      exact ⟨_, _, hg'⟩
end Go.Proofs.YthbcabnljcpaiaaGreatDoor.H
namespace Go.Proofs.YthbcabnljcpaiaaGreatDoor.H
open Go.Lib
set_option linter.unusedVariables false
def dvS (a : Nat) (c : UInt8) : Nat := a * 10 + (c.toNat - 48)
def dvA (a : Nat) (l : List UInt8) : Nat := l.foldl dvS a
def dv (l : List UInt8) : Nat := dvA 0 l
def Dig (c : UInt8) : Prop := 48 ≤ c.toNat ∧ c.toNat ≤ 57
def Digs (l : List UInt8) : Prop := ∀ c ∈ l, Dig c
theorem Digs.nil : Digs [] := fun c h => by simp at h
theorem Digs.append {a b : List UInt8} (ha : Digs a) (hb : Digs b) : Digs (a ++ b) := fun c h => (List.mem_append.1 h).elim (ha c) (hb c)
theorem Digs.left {a b : List UInt8} (h : Digs (a ++ b)) : Digs a := fun c hc => h c (List.mem_append_left _ hc)
theorem Digs.right {a b : List UInt8} (h : Digs (a ++ b)) : Digs b := fun c hc => h c (List.mem_append_right _ hc)
theorem Digs.one {d : Nat} (h : d < 10) : Digs [UInt8.ofNat (48 + d)] := fun c hc => by
  obtain rfl := List.mem_singleton.1 hc
  have : (UInt8.ofNat (48 + d)).toNat = 48 + d := by simp [UInt8.toNat_ofNat']; omega
  unfold Dig
  omega
theorem dig_toNat {d : Nat} (h : d < 10) : (UInt8.ofNat (48 + d)).toNat = 48 + d := by simp [UInt8.toNat_ofNat']; omega
theorem dvA_cons (a : Nat) (c : UInt8) (l : List UInt8) : dvA a (c :: l) = dvA (a * 10 + (c.toNat - 48)) l := by
  unfold dvA
  rw [List.foldl_cons, dvS]
theorem dvA_nil (a : Nat) : dvA a [] = a := by unfold dvA; rw [List.foldl_nil]
theorem dvA_append (a : Nat) (l m : List UInt8) : dvA a (l ++ m) = dvA (dvA a l) m := by
  unfold dvA
  rw [List.foldl_append]
theorem dvA_eq (a : Nat) (l : List UInt8) : dvA a l = a * 10 ^ l.length + dv l := by
  induction l generalizing a with
  | nil => rw [dv, dvA_nil, dvA_nil]; simp
  | cons c l ih =>
    unfold dv
    rw [dvA_cons, dvA_cons, ih, ih (0 * 10 + _), List.length_cons, Nat.pow_succ, Nat.add_mul, Nat.zero_mul, Nat.zero_add, Nat.mul_assoc, Nat.mul_comm 10, Nat.add_assoc]
theorem dv_append (l m : List UInt8) : dv (l ++ m) = dv l * 10 ^ m.length + dv m := by
  unfold dv
  rw [dvA_append, dvA_eq]
  rfl
theorem dv_snoc (l : List UInt8) (c : UInt8) : dv (l ++ [c]) = dv l * 10 + (c.toNat - 48) := by
  rw [dv_append]
  rw [show dv [c] = c.toNat - 48 by rw [dv, dvA_cons, dvA_nil]; omega]
  simp
theorem dv_lt {l : List UInt8} (h : Digs l) : dv l < 10 ^ l.length := by
  have : ∀ n, ∀ l : List UInt8, l.length = n → Digs l → dv l < 10 ^ n := by
    intro n
    induction n with
    | zero => intro l hl _; rw [List.length_eq_zero_iff.1 hl]; simp [dv, dvA]
    | succ n ih =>
      intro l hl hd
      have hne : l ≠ [] := by intro e; subst e; simp at hl
      rw [← List.dropLast_concat_getLast hne] at hd ⊢
      have h1 := ih l.dropLast (by simp [hl]) hd.left
      have h2 := hd.right _ (List.mem_singleton.2 rfl)
      rw [dv_snoc, Nat.pow_succ]
      unfold Dig at h2
      omega
  exact this _ l rfl h
theorem decDigits_snoc {n : Nat} (h : 10 ≤ n) : decDigits n = decDigits (n / 10) ++ [UInt8.ofNat (48 + n % 10)] := by rw [decDigits, dif_neg (by omega)]
theorem decDigits_digs (n : Nat) : Digs (decDigits n) := by
  induction n using Nat.strongRecOn with
  | _ n ih =>
    by_cases h : n < 10
    · rw [decDigits_one h]; exact Digs.one h
    · rw [decDigits_snoc (by omega)]
      exact (ih _ (by omega)).append (Digs.one (by omega))
theorem decDigits_dv (n : Nat) : dv (decDigits n) = n := by
  induction n using Nat.strongRecOn with
  | _ n ih =>
    by_cases h : n < 10
    · rw [decDigits_one h]
      have := dig_toNat h
      rw [dv, dvA_cons, dvA_nil]
      omega
    · rw [decDigits_snoc (by omega), dv_snoc, ih _ (by omega), dig_toNat (by omega)]
      omega
theorem decDigits_ne (n : Nat) : decDigits n ≠ [] := by
  by_cases h : n < 10
  · rw [decDigits_one h]; simp
  · rw [decDigits_snoc (by omega)]; simp
def Numeral (l : List UInt8) : Prop := Digs l ∧ l ≠ [] ∧ (l.length = 1 ∨ l.head? ≠ some 48)
theorem dig_eq {c : UInt8} (h : Dig c) : UInt8.ofNat (48 + (c.toNat - 48)) = c := by
  unfold Dig at h
  rw [Nat.add_sub_cancel' h.1]
  simp
theorem decDigits_head (n : Nat) (h : n ≠ 0) : (decDigits n).head? ≠ some 48 := by
  induction n using Nat.strongRecOn with
  | _ n ih =>
    by_cases hl : n < 10
    · rw [decDigits_one hl]
      intro e
      have e := congrArg UInt8.toNat (Option.some.inj e)
      rw [dig_toNat hl] at e
      simp at e
      omega
    · rw [decDigits_snoc (by omega), List.head?_append]
      have := ih (n / 10) (by omega) (by omega)
      cases hd : (decDigits (n / 10)).head? with
      | none => exact absurd (List.head?_eq_none_iff.1 hd) (decDigits_ne _)
      | some c => rw [hd] at this; simpa using this
theorem decDigits_numeral (n : Nat) : Numeral (decDigits n) := by
  refine ⟨decDigits_digs n, decDigits_ne n, ?_⟩
  by_cases h : n = 0
  · subst h; left; rw [decDigits_one (by omega)]; rfl
  · right; exact decDigits_head n h
theorem numeral_eq : ∀ {l : List UInt8}, Numeral l → decDigits (dv l) = l := by
  have : ∀ n, ∀ l : List UInt8, l.length = n → Numeral l → decDigits (dv l) = l := by
    intro n
    induction n using Nat.strongRecOn with
    | _ n ih =>
      intro l hl ⟨hd, hne, hh⟩
      rw [← List.dropLast_concat_getLast hne] at hd ⊢
      generalize hm : l.dropLast = m at *
      generalize l.getLast hne = c at *
      have hml : m.length = n - 1 := by rw [← hm, List.length_dropLast, hl]
      have hc := hd.right _ (List.mem_singleton.2 rfl)
      have hc' := hc
      unfold Dig at hc'
      by_cases hz : m = []
      · subst hz
        rw [dv_snoc]
        have : dv [] = 0 := rfl
        rw [this, Nat.zero_mul, Nat.zero_add, decDigits_one (by omega), dig_eq hc]
        rfl
      · have hn1 : 0 < m.length := List.length_pos_iff.2 hz
        have hhead : m.head? ≠ some 48 := by
          rcases hh with h1 | h1
          · omega
          · have e : l.head? = m.head? := by
              have := List.dropLast_concat_getLast hne
              rw [hm] at this
              rw [← this, List.head?_append]
              cases m with
              | nil => exact absurd rfl hz
              | cons a m => rfl
            rwa [← e]
        have e1 := ih m.length (by omega) m rfl ⟨hd.left, hz, .inr hhead⟩
        have hpos : dv m ≠ 0 := by
          intro h0
          rw [h0, decDigits_one (by omega)] at e1
          rw [← e1] at hhead
          exact hhead rfl
        rw [dv_snoc, decDigits_snoc (by omega), show (dv m * 10 + (c.toNat - 48)) / 10 = dv m from by omega, e1, show (dv m * 10 + (c.toNat - 48)) % 10 = c.toNat - 48 from by omega, dig_eq hc]
  intro l h
  exact this _ l rfl h
def padD : Nat → Nat → List UInt8
  | 0, _ => []
  | j + 1, r => padD j (r / 10) ++ [UInt8.ofNat (48 + r % 10)]
theorem padD_length (j r : Nat) : (padD j r).length = j := by
  induction j generalizing r with
  | zero => rfl
  | succ j ih => simp [padD, ih]
theorem padD_eq (j r : Nat) (h0 : 0 < j) (h : r < 10 ^ j) : padD j r = List.replicate (j - (decDigits r).length) 48 ++ decDigits r := by
  induction j generalizing r with
  | zero => omega
  | succ j ih =>
    rw [padD]
    by_cases hr : r < 10
    · rw [decDigits_one hr, Nat.div_eq_of_lt hr, Nat.mod_eq_of_lt hr]
      have : ∀ j, padD j 0 = List.replicate j 48 := by
        intro j
        induction j with
        | zero => rfl
        | succ j ih => rw [padD, ih, List.replicate_succ']; rfl
      rw [this]
      simp
    · have hj : 0 < j := by
        rcases Nat.eq_zero_or_pos j with h1 | h1
        · subst h1; simp at h; omega
        · exact h1
      rw [ih (r / 10) hj (by rw [Nat.pow_succ] at h; omega), decDigits_snoc (n := r) (by omega), List.length_append, List.append_assoc]
      congr 2
      simp
theorem decDigits_split (j q r : Nat) (hq : 0 < q) (h : r < 10 ^ j) : decDigits (q * 10 ^ j + r) = decDigits q ++ padD j r := by
  induction j generalizing r with
  | zero =>
    obtain rfl : r = 0 := by simpa using h
    simp [padD]
  | succ j ih =>
    have h10 : 10 ≤ q * 10 ^ (j + 1) + r := by
      have : 10 ^ j > 0 := Nat.pow_pos (by omega)
      have h2 : 1 * 10 ^ (j + 1) ≤ q * 10 ^ (j + 1) := Nat.mul_le_mul_right _ hq
      rw [Nat.one_mul] at h2
      have h3 : 10 ≤ 10 ^ (j + 1) := by rw [Nat.pow_succ]; omega
      omega
    have e1 : (q * 10 ^ (j + 1) + r) / 10 = q * 10 ^ j + r / 10 := by
      rw [Nat.pow_succ, ← Nat.mul_assoc]
      omega
    have e2 : (q * 10 ^ (j + 1) + r) % 10 = r % 10 := by
      rw [Nat.pow_succ, ← Nat.mul_assoc]
      omega
    rw [decDigits_snoc h10, e1, e2, ih (r / 10) (by rw [Nat.pow_succ] at h; omega), padD, List.append_assoc]
theorem decDigits_len_lt {j r : Nat} (h0 : 0 < j) (h : r < 10 ^ j) : (decDigits r).length ≤ j := by
  have := congrArg List.length (padD_eq j r h0 h)
  rw [padD_length, List.length_append, List.length_replicate] at this
  omega
theorem parseUintM_digs (M : Nat) (hM : M = 18446744073709551615) : ∀ (l : List UInt8) (acc : Nat), Digs l → dvA acc l < 1000000000000000000 → parseUintM M acc l = .ok (dvA acc l)
  | [], acc, _, _ => by rw [parseUintM, dvA_nil]
  | c :: l, acc, hd, h => by
    have hc := hd c List.mem_cons_self
    unfold Dig at hc
    have hle : acc * 10 + (c.toNat - 48) ≤ dvA acc (c :: l) := by
      rw [dvA_cons, dvA_eq]
      have : 1 ≤ 10 ^ l.length := Nat.pow_pos (by omega)
      have := Nat.le_mul_of_pos_right (acc * 10 + (c.toNat - 48)) this
      omega
    rw [parseUintM, if_pos hc, if_neg (by omega), if_neg (by omega), dvA_cons]
    exact parseUintM_digs M hM l _ (fun x hx => hd x (List.mem_cons_of_mem _ hx)) h
theorem parseUintB_digs {l : List UInt8} (hd : Digs l) (hne : l ≠ []) (h : dv l < 1000000000000000000) : parseUintB 64 l = .ok (dv l) := by
  rw [parseUintB, if_neg hne]
  exact parseUintM_digs _ (by decide) l 0 hd h
end Go.Proofs.YthbcabnljcpaiaaGreatDoor.H
namespace Go.Proofs.YthbcabnljcpaiaaGreatDoor.H
open Go.RowKit Go.Shelf Go.Lib Go.Proofs.YthbcabnljcpaiaaGreatDoorW.PrintWords
set_option linter.unusedVariables false
attribute [local go_sem] Oper.semAt_some
theorem Tab.below {w w' : World} (h : Tab w) (hb : Below w.heap.size w w') : Tab w' := by
  unfold Tab TabIs World.var? at *
  cases hg : Tryz.prog.globalNamed "internal/strconv.uint64pow10" with
  | none => simp [hg] at h
  | some g =>
    simp only [hg, Option.bind_some] at h ⊢
    have hlt : g < w.heap.size := by
      rcases Nat.lt_or_ge g w.heap.size with h' | h'
      · exact h'
      · rw [Array.getElem?_eq_none h'] at h; simp at h
    rw [hb.block g hlt]
    exact h
def tx (xs : List Int) (k : Nat) : List UInt8 := if k = 0 then [] else decDigits (top xs k).toNat
theorem drop_limbs (j n : Nat) : ∃ m, (limbs n).drop j = limbs m := by
  induction j generalizing n with
  | zero => exact ⟨n, rfl⟩
  | succ j ih =>
    by_cases h : n = 0
    · subst h; exact ⟨0, by rw [limbs_zero]; simp⟩
    · rw [limbs_pos h]; exact ih _
theorem top_limbs_pos {n k : Nat} (h0 : 0 < k) (h : k ≤ (limbs n).length) : 0 < top (limbs n) k := by
  obtain ⟨m, hm⟩ := drop_limbs ((limbs n).length - k) n
  unfold top
  rw [hm, limbs_val]
  rcases Nat.eq_zero_or_pos m with h1 | h1
  · subst h1
    have := congrArg List.length hm
    rw [limbs_zero, List.length_drop] at this
    simp at this
    omega
  · omega
theorem tx_all (n : Nat) (h : limbs n ≠ []) : tx (limbs n) (limbs n).length = decDigits n := by
  unfold tx
  rw [if_neg (fun e => h (List.eq_nil_of_length_eq_zero e)), top_all, limbs_val]
  rfl
theorem tx_first {xs : List Int} (h : 0 < xs.length) : tx xs 1 = decDigits (rd xs ((xs.length - 1 : Nat) : Int)).toNat := by
  have := top_succ (xs := xs) (k := 0) h
  rw [top_zero] at this
  unfold tx
  rw [if_neg (by omega), this]
  simp
theorem tx_next {n k : Nat} (h0 : 0 < k) (h : k < (limbs n).length) : tx (limbs n) (k + 1) = tx (limbs n) k ++ padD 9 (rd (limbs n) (((limbs n).length - 1 - k : Nat) : Int)).toNat := by
  have h1 := top_succ h
  have h2 := top_limbs_pos h0 (Nat.le_of_lt h)
  have h3 := rd_OKL (limbs_OKL n) (show (limbs n).length - 1 - k < (limbs n).length by omega)
  generalize rd (limbs n) (((limbs n).length - 1 - k : Nat) : Int) = d at *
  unfold tx
  rw [if_neg (by omega), if_neg (by omega), h1, ← decDigits_split 9 _ _ (by omega) (by omega)]
  congr 1
  omega
def textV (n : Nat) : Value := if (decDigits n).length ≤ 300 then .tuple #[.string ⟨(decDigits n).toArray⟩, .int .i64 0] else .tuple #[.string ⟨#[]⟩, .int .i64 2]
theorem bld_below {B b : Nat} {bs : List Value} {w w' : World} (h : IsBuilder 196 5 B b bs w) (hb : Below w.heap.size w w') : IsBuilder 196 5 B b bs w' := by
  have go : ∀ p, BuilderAt 196 5 B b p bs w → BuilderAt 196 5 B b p bs w' := fun p hp => by
    obtain ⟨hB, v, hbk, hown, hne⟩ := hp
    exact ⟨hB, v, (hb.block b (blk_lt hbk)).trans hbk, pw_own_below hown hb, hne⟩
  exact h.imp (go _) (go _)
theorem bld_notcells {B b : Nat} {bs : List Value} {w w' : World} {row : Option Nat} (h : IsBuilder 196 5 B b bs w) (hg : w.grownBy w' row) (hr : ∀ r, row = some r → ∃ o : Obj, w.heap[r]? = some o ∧ o.isCells = false) : IsBuilder 196 5 B b bs w' := by
  have go : ∀ p, BuilderAt 196 5 B b p bs w → BuilderAt 196 5 B b p bs w' := fun p hp => by
    obtain ⟨hB, v, hbk, hown, hne⟩ := hp
    refine ⟨hB, v, (hg.block b (blk_lt hbk) (fun e => ?_)).trans hbk, own_notcells hown hg hr, hne⟩
    obtain ⟨o, ho, hc⟩ := hr b e.symm
    rw [hbk] at ho; cases ho; cases hc
  exact h.imp (go _) (go _)
theorem KO_others {e : TypeId} {b : Nat} {w w' : World} (h : OthersKept e (some b) w w') (hs : w.heap.size ≤ w'.heap.size) (hb : ∃ c t f, w.heap[b]? = some (.cells c t f)) : KeepsOthers w w' :=
  ⟨hs, fun k o hk ho => h k o hk (fun e => by obtain ⟨c, t, f, hc⟩ := hb; cases e; rw [hk] at hc; cases hc; cases ho) (fun c f e => by subst e; cases ho)⟩
theorem box_others {b c : Nat} {w w' : World} {v : Value} {t : TypeId} (h : OthersKept 5 (some b) w w') (hb : Boxed w c t v) (hne : c ≠ b) (ht : t ≠ 5) : Boxed w' c t v :=
  h c _ hb (fun e => hne (Option.some.inj e)) (fun c f e => by cases e; exact ht rfl)
theorem bld_cells {B b : Nat} {bs : List Value} {w : World} (h : IsBuilder 196 5 B b bs w) : ∃ c t f, w.heap[b]? = some (.cells c t f) := by
  rcases h with ⟨_, v, hbk, _⟩ | ⟨_, v, hbk, _⟩ <;> exact ⟨_, _, _, hbk⟩
structure TxI (xs : List Int) (N : Nat) (vn : Value) (pre : List (Fin xs.length)) (W : World) (ds : List UInt8) : Prop where
  bld : IsBuilder 196 5 N (N + 1) (byteCells ds) W
  len : ds.length ≤ 9 * pre.length
  bn : Boxed W N 136 vn
  bi : Boxed W (N + 1 + 1) 136 vn
  ok : pre = (bkl xs.length).take pre.length → ds = tx xs pre.length
theorem rep48 (c : Nat) : repeatL [48] c = List.replicate c 48 := by
  induction c with
  | zero => rfl
  | succ c ih => rw [repeatL, ih, List.replicate_succ]; rfl
set_option maxRecDepth 100000 in
set_option maxHeartbeats 8000000 in
theorem text_calls (n : Nat) (hl : (limbs n).length ≤ 1000000) (v : Value) (w : World) (ht : Tab w) (hv : Num w v (limbs n)) :
    Calls Tryz.prog 149 #[v] w fun e w' => e = .returned (textV n) ∧ Below w.heap.size w w' := by
  obtain ⟨A, c, rfl, hlc, hA⟩ := hv
  by_cases hn : n = 0
  · subst hn
    rw [limbs_zero] at hlc hA ⊢
    go_enter Tryz.func149, Tryz.ntmps149
    go_wp2
    go_ret2
    exact ⟨by rw [show textV 0 = .tuple #[.string ⟨#[48]⟩, .int .i64 0] by unfold textV; rw [decDigits_one (by omega)]; rfl]; rfl, below_alloc (Below.refl _ _) _⟩
  have hne : limbs n ≠ [] := by rw [limbs_pos hn]; simp
  have hpos : 0 < (limbs n).length := List.length_pos_iff.2 hne
  have hall := tx_all n hne
  have hnext := fun k (h0 : 0 < k) h => tx_next (n := n) (k := k) h0 h
  have hox : OKL (limbs n) := limbs_OKL n
  generalize hxs : limbs n = xs at *
  clear hne hxs
  have hc0 : ((xs.length : Int) == 0) = false := by rw [beq_eq_false_iff_ne]; omega
  refine (callsIn_wide (n := 3)).1 ?_
  generalize hF : Fence.wide = F
  have hfn : ∀ g, F.fn g := by subst hF; intro g; trivial
  have hro : F.round = none := by subst hF; rfl
  have hwide : ∀ {n : Nat} {f : FuncId} {args : Array Value} {W : World} {R : Ending → World → Prop}, Calls Tryz.prog f args W R → CallsIn F n Tryz.prog f args W R := by subst hF; exact fun h => callsIn_wide.2 h
  refine callsIn_of_wp_marks Tryz.func149 rfl (hfn _) ?_ hro
  simp only [Tryz.ntmps149, List.size_toArray, List.length_cons, List.length_nil, Nat.reduceAdd, Nat.reduceSub, Array.replicate_succ, Array.replicate_zero, List.push_toArray, List.append_toArray, List.nil_append, List.cons_append]
  have Hall := hid hall
  have Hnext := hid hnext
  clear hall hnext
  gi_wp2_with (first | (gi_at_call 181; refine (bk_in F _ (hfn _) hro _ _ _ _).mono ?_; rintro e w' ⟨rfl, rfl⟩))
  have hB0 : Below w.heap.size w (((w.alloc (Obj.cells #[Value.slice A xs.length c] 136)).alloc (Obj.cells #[Value.pointer none, Value.slice none 0 0] 196)).alloc (Obj.cells #[Value.slice A xs.length c] 136)) :=
    (((Below.refl _ w).alloc (Nat.le_refl _) _).alloc (by simp) _).alloc (by simp; omega) _
  have bN := Boxed.new w 136 (.slice A xs.length c)
  have bB := fresh_isBuilder 196 5 (w.alloc (Obj.cells #[Value.slice A xs.length c] 136))
  have bI := Boxed.new ((w.alloc (Obj.cells #[Value.slice A xs.length c] 136)).alloc (Obj.cells #[Value.pointer none, Value.slice none 0 0] 196)) 136 (.slice A xs.length c)
  simp only [World.size_alloc] at bB bI
  have bN := ((bN.alloc (Obj.cells #[Value.pointer none, Value.slice none 0 0] 196)).alloc (Obj.cells #[Value.slice A xs.length c] 136))
  have bB : IsBuilder 196 5 w.heap.size (w.heap.size + 1) [] _ := bld_below (bB.imp (fun ⟨h1, h2⟩ => ⟨by omega, by obtain ⟨v, h3, h4, h5⟩ := h2; exact ⟨v, h3, World.ownsRow.mono h4 (by omega), h5⟩⟩) (fun ⟨h1, h2⟩ => ⟨by omega, by obtain ⟨v, h3, h4, h5⟩ := h2; exact ⟨v, h3, World.ownsRow.mono h4 (by omega), h5⟩⟩)) (below_alloc (Below.refl _ _) (Obj.cells #[Value.slice A xs.length c] 136))
  have hsz : (((w.alloc (Obj.cells #[Value.slice A xs.length c] 136)).alloc (Obj.cells #[Value.pointer none, Value.slice none 0 0] 196)).alloc (Obj.cells #[Value.slice A xs.length c] 136)).heap.size = w.heap.size + 3 := by simp
  generalize hW1 : (((w.alloc (Obj.cells #[Value.slice A xs.length c] 136)).alloc (Obj.cells #[Value.pointer none, Value.slice none 0 0] 196)).alloc (Obj.cells #[Value.slice A xs.length c] 136)) = W1 at *
  clear hW1
  refine wpIn_rangeFunc_ownG hro (by omega) (gf := 213) (lb := #[.pointer (some ⟨w.heap.size + 1 + 1, 0, none⟩)]) rfl (hfn _) (enters_of Tryz.func213 (by kernel_rfl) rfl)
      (bk_stops F _ (hfn _) hro (by omega) (w.heap.size + 1 + 1) A c xs w W1 hB0 hA bI) (fun h k => KpB.t h k) (KpB.b (by omega) (by omega)) (Below.refl _ _) (fun _ => rfl)
      (fun pre W => (∃ ds, TxI xs w.heap.size (.slice A xs.length c) pre W ds) ∧ Below w.heap.size w W)
      (fun cc pre W => False)
      ?hI ?hIx ⟨⟨[], bB, by simp, bN, bI, fun _ => rfl⟩, hB0⟩
      (fun x => { tmps := #[.slice A xs.length c, .pointer (some ⟨w.heap.size, 0, none⟩), .string ⟨#[]⟩, .int .i64 0, .pointer (some ⟨w.heap.size + 1, 0, none⟩), .int .i64 (x.1 : Int), .int .u64 (rd xs (x.1 : Int)), undef, .slice A xs.length c, .int .i64 xs.length, .bool false, .slice A xs.length c, .func (.func 213) #[] #[.pointer (some ⟨w.heap.size + 1 + 1, 0, none⟩)], .int .i64 (x.1 : Int), .int .u64 (rd xs (x.1 : Int)),
        undef, undef, undef, undef, undef, undef, undef, undef, undef, undef, undef, undef, undef, undef, undef, undef, undef], defers := [] }) ?assign ?body ?done ?stop
  case hI =>
    refine OwnFrom.and (fun s X Y row hs hg hr => ?_) (ownFrom_below (Nat.le_refl _) (by omega))
    obtain ⟨ds, h⟩ := hs
    have hr2 := fun r e => (hr r e).2
    exact ⟨ds, bld_notcells h.bld hg hr2, h.len, boxKept h.bn hg hr2, boxKept h.bi hg hr2, h.ok⟩
  case hIx => exact fun cc s X Y row hs hg hr => hs
  case assign =>
    intro l x W K hK
    gi_wp2
    exact hK
  case body =>
    rintro l pre x W ⟨⟨ds, hI⟩, hBW⟩ hpl
    have hx := x.2
    have hrx := rd_OKL hox hx
    have hok := hI.ok
    have hlen := hI.len
    have hin : pre ++ [x] = (bkl xs.length).take (pre ++ [x]).length → pre = (bkl xs.length).take pre.length ∧ x.1 = xs.length - 1 - pre.length := fun e => by
      rw [List.length_append, List.length_singleton, bkl_succ hpl] at e
      obtain ⟨h1, h2⟩ := List.append_inj' e rfl
      exact ⟨h1, congrArg Fin.val (List.cons.inj h2).1⟩
    have hrd : ∃ d0 : Nat, rd xs (x.1 : Int) = d0 := Int.eq_ofNat_of_zero_le hrx.1
    obtain ⟨d0, hd0⟩ := hrd
    have hd9 : d0 < 1000000000 := by omega
    have hdl : (decDigits d0).length ≤ 9 := decDigits_len_lt (by omega) hd9
    have hpad : padD 9 d0 = List.replicate (9 - (decDigits d0).length) 48 ++ decDigits d0 := padD_eq 9 d0 (by omega) hd9
    generalize hpt : decDigits d0 = part at *
    have hps : (⟨part.toArray⟩ : ByteArray).size = part.length := by simp [ByteArray.size]
    have hTW : Tab W := ht.below hBW
    have hbc := hI.bn.cell
    rw [hd0]
    have hi64 : IntKind.i64.wrap ((xs.length : Int) - 1) = (xs.length : Int) - 1 := IntWalk.i64_in _ (by omega)
    have hfu := formatUint_calls d0 (by omega) W hTW
    rw [hpt] at hfu
    have Hfu := hid hfu
    have Hd0 := hid hd0
    have Hpt := hid hpt
    clear hfu hd0 hpt
    have kb : ∀ {w1 w2 : World} {b : List Value}, Below W.heap.size W w1 → KeepsOthers W w1 → IsBuilder 196 5 w.heap.size (w.heap.size + 1) b w1 → OthersKept 5 (some (w.heap.size + 1)) w1 w2 → Below w.heap.size w1 w2 → KeepsOthers W w2 ∧ Below w.heap.size W w2 ∧ Boxed w2 w.heap.size 136 (.slice A xs.length c) ∧ Boxed w2 (w.heap.size + 1 + 1) 136 (.slice A xs.length c) := fun {w1 w2 b} h1 k1 h2 h3 h4 =>
      ⟨k1.trans (KO_others h3 h4.size (bld_cells h2)), (h1.mono hBW.size).trans h4, box_others h3 (blk_below hI.bn h1) (by omega) (by decide), box_others h3 (blk_below hI.bi h1) (by omega) (by decide)⟩
    by_cases hlast : x.1 < xs.length - 1
    · have hdc : decide ((x.1 : Int) < (xs.length : Int) - 1) = true := decide_eq_true (by omega)
      obtain ⟨cc, hcc⟩ : ∃ cc : Nat, part.length + cc = 9 := ⟨9 - part.length, by omega⟩
      have hwr : IntKind.i64.wrap (9 - (part.length : Int)) = (cc : Int) := by rw [IntWalk.i64_in _ (by omega)]; omega
      have hrep : repeatL [48] cc = List.replicate (9 - part.length) 48 := by rw [rep48]; congr 1; omega
      gi_wp2_with (first | (gi_at_call 189; refine (CallsIn.inRound l (hwide Hfu.out)).mono ?_; rintro e w1 ⟨rfl, hb1⟩; have bn1 : Boxed w1 w.heap.size 136 (.slice A xs.length c) := blk_below hI.bn hb1; have hc1 := bn1.cell) | (gi_at_call 191; refine (CallsIn.inRound l (hwide (Tryz.strings_Repeat ⟨#[48]⟩ cc _ (by omega) (by show 1 * cc ≤ _; omega)))).mono ?_; rintro e w2 ⟨rfl, hb2⟩))
      have hb12 : Below W.heap.size W w2 := hb1.trans (hb2.mono hb1.size)
      refine (CallsIn.inRound l (hwide (writeString_calls w.heap.size (w.heap.size + 1) (byteCells ds) ⟨Array.replicate (9 - part.length) 48⟩ w2 (bld_below hI.bld hb12) (by simp [byteCells, ByteArray.size]; omega) (by have := hb12.size; have := hBW.size; omega)))).mono ?_
      rintro e w3 ⟨rfl, hB3, hb3, hk3⟩
      obtain ⟨k3, B3, bn3, bi3⟩ := kb hb12 (KO_below hb12) (bld_below hI.bld hb12) hk3 hb3
      gi_wp2
      refine (CallsIn.inRound l (hwide (writeString_calls w.heap.size (w.heap.size + 1) _ ⟨part.toArray⟩ w3 (.inr hB3) (by simp [byteCells, ByteArray.size, strCells]; omega) (by have := B3.size; have := hBW.size; omega)))).mono ?_
      rintro e w4 ⟨rfl, hB4, hb4, hk4⟩
      have k4 := k3.trans (KO_others hk4 hb4.size (bld_cells (.inr hB3)))
      have B4 := B3.trans hb4
      have bn4 := box_others hk4 bn3 (by omega) (by decide)
      have bi4 := box_others hk4 bi3 (by omega) (by decide)
      gi_wp2
      refine ⟨k4.from _, ⟨B4, bi4.trans hI.bi.symm⟩, ⟨ds ++ padD 9 d0, .inr ?_, by simp [padD_length]; omega, bn4, bi4, fun e => ?_⟩, hBW.trans B4⟩
      · have e1 : byteCells (ds ++ padD 9 d0) = byteCells ds ++ strCells ⟨Array.replicate (9 - part.length) 48⟩ ++ strCells ⟨part.toArray⟩ := by
          rw [hpad]
          simp [byteCells, strCells]
        rw [e1]
        exact hB4
      · obtain ⟨h1, h2⟩ := hin e
        have h3 := Hnext.out pre.length (by omega) hpl
        rw [← h2, Hd0.out] at h3
        rw [List.length_append, List.length_singleton, h3, hok h1]
        rfl
    · have hdc : decide ((x.1 : Int) < (xs.length : Int) - 1) = false := decide_eq_false (by omega)
      gi_wp2_with (first | (gi_at_call 189; refine (CallsIn.inRound l (hwide Hfu.out)).mono ?_; rintro e w1 ⟨rfl, hb1⟩; have bn1 : Boxed w1 w.heap.size 136 (.slice A xs.length c) := blk_below hI.bn hb1; have hc1 := bn1.cell))
      refine (CallsIn.inRound l (hwide (writeString_calls w.heap.size (w.heap.size + 1) (byteCells ds) ⟨part.toArray⟩ w1 (bld_below hI.bld hb1) (by rw [hps]; simp [byteCells]; omega) (by have := hb1.size; have := hBW.size; omega)))).mono ?_
      rintro e w2 ⟨rfl, hB2, hb2, hk2⟩
      obtain ⟨k2, B2, bn2, bi2⟩ := kb hb1 (KO_below hb1) (bld_below hI.bld hb1) hk2 hb2
      gi_wp2
      refine ⟨k2.from _, ⟨B2, bi2.trans hI.bi.symm⟩, ⟨ds ++ part, .inr ?_, by simp; omega, bn2, bi2, fun e => ?_⟩, hBW.trans B2⟩
      · have e1 : byteCells (ds ++ part) = byteCells ds ++ strCells ⟨part.toArray⟩ := by
          rw [strCells_toArray]
          simp [byteCells]
        rw [e1]
        exact hB2
      · obtain ⟨h1, h2⟩ := hin e
        have h4 : pre.length = 0 := by omega
        have h3 := tx_first (xs := xs) (by omega)
        rw [h4, Nat.sub_zero] at h2
        rw [← h2, Hd0.out] at h3
        have h5 := hok h1
        rw [h4] at h5
        rw [List.length_append, List.length_singleton, h4, h5, h3]
        simp [tx, ← Hpt.out]
  case done =>
    rintro D zs W hD rfl ⟨⟨ds, hI⟩, hBW⟩ hK
    have hds := hI.ok (by rw [bkl_length, List.take_of_length_le (by rw [bkl_length]; exact Nat.le_refl _)])
    rw [bkl_length, Hall.out] at hds
    have hlen := hI.len
    rw [bkl_length] at hlen
    have hb0 := hI.bld
    have hlb : ((byteCells ds).length : Int) = ds.length := by simp [byteCells]
    have hNW := hBW.size
    have Hds := hid hds
    clear hI hds
    by_cases h3 : ds.length ≤ 300
    · have hdc : decide ((300 : Int) < ds.length) = false := decide_eq_false (by omega)
      gi_wp2_with (first | (gi_at_call 192; refine (hwide (Tryz.Builder_Len w.heap.size (w.heap.size + 1) (byteCells ds) _ hb0)).mono ?_; rintro e w' ⟨rfl, rfl⟩; rw [hlb]))
      refine (hwide (Tryz.Builder_String_any_k w.heap.size (w.heap.size + 1) ds _ (IsBuilderF.of hb0) hNW)).mono ?_
      rintro e w2 ⟨rfl, _, hb2, hk2⟩
      have hK2 := hk2 D _ hK (by simp; omega) (by simp)
      gi_wp2
      refine ⟨by simp, .inl ⟨_, _, rfl, run_takeDeferred hK2, ?_⟩⟩
      refine ⟨.tuple #[.string ⟨ds.toArray⟩, .int .i64 0], by simp [results, Tryz.f149, go_sem], ?_, ?_⟩
      · unfold textV; rw [← Hds.out, if_pos h3]
      · exact (hBW.trans hb2).trans (belowK_b (w := w) (Nat.le_refl _) w2 D _ _ (by omega) hK2 rfl rfl)
    · have hdc : decide ((300 : Int) < ds.length) = true := decide_eq_true (by omega)
      gi_wp2_with (first | (gi_at_call 192; refine (hwide (Tryz.Builder_Len w.heap.size (w.heap.size + 1) (byteCells ds) _ hb0)).mono ?_; rintro e w' ⟨rfl, rfl⟩; rw [hlb]))
      refine ⟨by simp, .inl ⟨_, _, rfl, run_takeDeferred hK, ?_⟩⟩
      refine ⟨.tuple #[.string ⟨#[]⟩, .int .i64 2], by simp [results, Tryz.f149, go_sem], ?_, ?_⟩
      · unfold textV; rw [← Hds.out, if_neg h3]
      · exact hBW.trans (belowK_b (w := w) (Nat.le_refl _) _ D _ _ (by omega) hK rfl rfl)
  case stop =>
    rintro D cc pre W hD _ hf hK
    exact hf.elim
end Go.Proofs.YthbcabnljcpaiaaGreatDoor.H
namespace Go.Proofs.YthbcabnljcpaiaaGreatDoor.H
open Go.RowKit Go.Shelf Go.Lib Go.Proofs.YthbcabnljcpaiaaGreatDoorW.PrintWords
set_option linter.unusedVariables false
theorem val_snoc (xs : List Int) (d : Int) : val (xs ++ [d]) = val xs + pw xs.length * d := by
  induction xs with
  | nil => simp [val, pw_zero]
  | cons x xs ih =>
    rw [List.cons_append, val, ih, val, List.length_cons, pw_succ, Int.mul_add, Int.mul_assoc, Int.add_assoc]
theorem pow9 : (10 : Nat) ^ 9 = 1000000000 := by decide
theorem pw_nat (k : Nat) : ((10 ^ (9 * k) : Nat) : Int) = pw k := by
  induction k with
  | zero => rfl
  | succ k ih =>
    rw [show 9 * (k + 1) = 9 + 9 * k by omega, Nat.pow_add, pow9, pw_succ, ← ih, Int.natCast_mul]
    rfl
theorem parse_step {l : List UInt8} {xs : List Int} {zn : Nat} (hd : Digs l) (hz : (zn : Int) = (l.length : Int) - 9 * (xs.length : Int)) (hv : val xs = dv (l.drop zn)) (hox : OKL xs) (h0 : 0 < zn) :
    ∃ ch : List UInt8, ch = (l.drop (zn - 9)).take (zn - (zn - 9)) ∧ ch.length ≤ 9 ∧ (∀ w, Calls Tryz.prog 180 #[.string ⟨ch.toArray⟩, .int .i64 10, .int .i64 64] w fun e w' => e = .returned (.tuple #[.int .u64 (dv ch), .nilIface]) ∧ (w' = w ∨ w' = Lib.bytesWorld w 5 ⟨ch.toArray⟩)) ∧ val (xs ++ [(dv ch : Int)]) = dv (l.drop (zn - 9)) ∧ OKL (xs ++ [(dv ch : Int)]) := by
  obtain ⟨lo, hlo⟩ : ∃ lo : Nat, lo = zn - 9 := ⟨_, rfl⟩
  rw [← hlo]
  obtain ⟨ch, hch⟩ : ∃ ch : List UInt8, ch = (l.drop lo).take (zn - lo) := ⟨_, rfl⟩
  have hcl : ch.length = zn - lo := by rw [hch, List.length_take, List.length_drop]; omega
  have hcd : Digs ch := fun c hc => hd c (by rw [hch] at hc; exact List.mem_of_mem_drop (List.mem_of_mem_take hc))
  have hdl : l.drop lo = ch ++ l.drop zn := by
    rw [hch]
    conv => lhs; rw [← List.take_append_drop (zn - lo) (l.drop lo)]
    rw [List.drop_drop]
    congr 2
    omega
  have hc9 : dv ch < 1000000000 := Nat.lt_of_lt_of_le (dv_lt hcd) (by rw [← pow9]; exact Nat.pow_le_pow_right (by omega) (show ch.length ≤ 9 by omega))
  have hne : ch ≠ [] := fun e => by rw [e, List.length_nil] at hcl; omega
  have hsz : (⟨ch.toArray⟩ : ByteArray).size ≤ 9223372036854775806 := by simp only [ByteArray.size, List.size_toArray]; omega
  have hpd := parseUintB_digs hcd hne (Nat.lt_trans hc9 (by decide))
  refine ⟨ch, hch, by omega, fun w => Tryz.strconv_ParseUint_10_at64_ok ⟨ch.toArray⟩ hsz (dv ch) hpd w, ?_, ?_⟩
  · rw [val_snoc, hdl, dv_append, hv]
    have : (l.drop zn).length = 9 * xs.length := by rw [List.length_drop]; omega
    rw [this, Int.natCast_add, Int.natCast_mul, pw_nat, Int.mul_comm, Int.add_comm]
  · intro x hx
    rcases List.mem_append.1 hx with h | h
    · exact hox x h
    · rw [List.mem_singleton.1 h]
      generalize dv ch = d at *
      omega
theorem cell_new_o (W : World) (v : Value) (t : TypeId) : (W.alloc (.cells #[v] t)).cell? ⟨W.heap.size, 0, none⟩ = some v := by rw [Lib.cell_of_heap (heap_alloc_new W _)]; rfl
set_option maxRecDepth 100000 in
set_option maxHeartbeats 4000000 in
theorem parse_calls (s : ByteArray) (hd : Digs s.data.toList) (hl : s.size ≤ 100000) (w : World) :
    Calls Tryz.prog 143 #[.string s] w fun e w' => ∃ v, e = .returned v ∧ Num w' v (limbs (dv s.data.toList)) ∧ Below w.heap.size w w' := by
  obtain ⟨l, rfl⟩ : ∃ l : List UInt8, s = ⟨l.toArray⟩ := ⟨s.data.toList, rfl⟩
  have hsz : (⟨l.toArray⟩ : ByteArray).size = l.length := by simp [ByteArray.size]
  rw [hsz] at hl
  simp only at hd ⊢
  go_enter Tryz.func143, Tryz.ntmps143
  go_wp2
  go_loopg [3, 4] l.length (fun g v3 v4 wr => ∃ z xs, v4 = .int .i64 z ∧ z = (l.length : Int) - 9 * (xs.length : Int) ∧ g = z.toNat ∧ -9 < z ∧ OKL xs ∧ val xs = dv (l.drop g) ∧ wr.ownsRow w.heap.size 167 1 v3 xs.length (nums .u64 xs) ∧ Below w.heap.size w wr)
  case atStart => exact ⟨l.length, [], rfl, by simp, by simp, by omega, OKL.nil, by simp [val, dv, dvA_nil], World.ownsRow_nil _ _ _ _, Below.refl _ _⟩
  case round =>
    obtain ⟨z, xs, rfl, hz, hg, hz9, hox, hv, hown, hB⟩ := hrel
    by_cases h0 : 0 < z
    · have hdc : decide (0 < z) = true := decide_eq_true h0
      have hw9 : IntKind.i64.wrap (z - 9) = z - 9 := IntWalk.i64_in _ (by omega)
      obtain ⟨zn, rfl⟩ : ∃ zn : Nat, z = zn := ⟨z.toNat, by omega⟩
      have hgz : gk = zn := by omega
      rw [hgz] at hv
      obtain ⟨ch, hch, hc9, hpu, hv2, hox2⟩ := parse_step hd hz hv hox (by omega)
      obtain ⟨lo, hlo⟩ : ∃ lo : Nat, lo = zn - 9 := ⟨_, rfl⟩
      rw [← hlo] at hv2 hch
      have hlo1 : (max 0 ((zn : Int) - 9)).toNat = lo := by omega
      have hlo2 : max 0 ((zn : Int) - 9) = lo := by omega
      have hex : (⟨l.toArray⟩ : ByteArray).extract lo zn = ⟨ch.toArray⟩ := by rw [hch]; exact ByteArray.extract_mk _ _ _
      have hxl : xs.length * 9 ≤ 100009 := by omega
      have hlz : lo ≤ zn := by omega
      have hzl : zn ≤ l.length := by omega
      have Hz := hid hz
      have Hpu := hid hpu
      have Hv2 := hid hv2
      have Hlo := hid hlo
      have Hox2 := hid hox2
      generalize dv ch = d at *
      clear hz hv hpu hd hch hv2 hlo hox2
      obtain ⟨i0, hi, hz0, hz1, hz2⟩ := info_parts info167
      obtain ⟨A3, n3, c3, rfl⟩ : ∃ A n c, u3 = Value.slice A n c := by
        rcases hown.2 with ⟨h, _⟩ | ⟨g, cap, cur, h, _⟩
        · exact ⟨_, _, _, h⟩
        · exact ⟨_, _, _, h⟩
      go_wp2_with (first | (go_at_call 180; refine (Hpu.out _).mono ?_; rintro e w1 ⟨rfl, hw1⟩; have hb1 : Below wr.heap.size wr w1 := (by rcases hw1 with rfl | rfl; exact Below.refl _ _; exact Lib.bytesWorld_below _ _ _); have ho1 := pw_own_below hown hb1; have ho2 := ho1.alloc (.cells #[.int .u64 (d : Int)] 167)) | (at_builtin; refine wpList_append_own _ rfl _ _ 136 rfl w.heap.size 167 i0 (.int .u64 0) 1 8 Tryz.underlying136 hi hz0 hz1 hz2 rfl (by omega) _ _ _ rfl ho2 ⟨w1.heap.size, 0, none⟩ 1 1 [.int .u64 (d : Int)] rfl rfl ?c1 ?c2 ?c3 ?c4 ?c5 ?_))
      case c1 => intro j u hu; cases j with | zero => (obtain rfl := Option.some.inj hu; exact (cell_new_o w1 _ _)) | succ j => simp at hu
      case c2 => intro u hu; rw [List.mem_singleton.1 hu]; rfl
      case c3 => unfold maxLen; omega
      case c4 => omega
      case c5 => simp; have := hb1.size; have := hB.size; omega
      intro v2 w2 ho3 hg3 _
      go_wp2
      go_roundg lo
      case rel =>
        have hl2 : (xs ++ [(d : Int)]).length = xs.length + 1 := by rw [List.length_append, List.length_singleton]
        refine ⟨(zn : Int) - 9, xs ++ [(d : Int)], rfl, by rw [hl2]; have := Hz.out; omega, by have := Hlo.out; omega, by omega, Hox2.out, Hv2.out, ?_, ?_⟩
        · rw [hl2, nums_append]
          exact ho3
        · refine ((hB.trans (hb1.mono hB.size)).alloc (by have := hb1.size; have := hB.size; omega) _).grown hg3 (by simp; have := hb1.size; have := hB.size; omega) (fun k e => ?_)
          exact (ho2.lt k e).1
      case measure => have := Hlo.out; omega
    · have hdc : decide (0 < z) = false := decide_eq_false h0
      have hgz : gk = 0 := by omega
      rw [hgz, List.drop_zero] at hv
      have Hv := hid hv
      have Hz := hid hz
      clear hv hz
      go_wp2_with (first | (go_at_call 179; refine (trim_calls xs _ _ (Num.of_own hown)).mono ?_; rintro e w1 ⟨u, rfl, hu, hb⟩))
      go_ret
      refine ⟨_, rfl, ?_, hB.trans (hb.mono hB.size)⟩
      rw [trimL_limbs hox, Hv.out] at hu
      exact hu
end Go.Proofs.YthbcabnljcpaiaaGreatDoor.H
namespace Go.Proofs.YthbcabnljcpaiaaGreatDoor.H
open Go.RowKit Go.Shelf Go.Lib Go.Proofs.YthbcabnljcpaiaaGreatDoorW.PrintWords
set_option linter.unusedVariables false
def tens : List UInt8 := [48, 49, 50, 51, 52, 53, 54, 55, 56, 57]
set_option maxRecDepth 10000 in
theorem tens_dig (c : UInt8) : tens.contains c = true ↔ Dig c := by
  have h : ∀ n : Fin 256, (tens.contains (UInt8.ofNat n.1) = true ↔ 48 ≤ n.1 ∧ n.1 ≤ 57) := by decide
  have := h ⟨c.toNat, c.toNat_lt⟩
  simp only [UInt8.ofNat_toNat] at this
  exact this
theorem dropWhile_all {p : UInt8 → Bool} {l : List UInt8} : l.dropWhile p = [] ↔ ∀ c ∈ l, p c = true := by
  induction l with
  | nil => simp
  | cons a l ih =>
    rw [List.dropWhile_cons]
    by_cases h : p a = true
    · simp [h, ih]
    · simp [h]
theorem trimS_nil (l : List UInt8) : trimS l tens = [] ↔ Digs l := by
  have h1 : ∀ m : List UInt8, trimLeftS m tens = [] ↔ Digs m := fun m => by
    unfold trimLeftS
    rw [dropWhile_all]
    exact ⟨fun h c hc => (tens_dig c).1 (h c hc), fun h c hc => (tens_dig c).2 (h c hc)⟩
  unfold trimS
  rw [h1]
  constructor
  · intro h c hc
    by_cases hcd : Dig c
    · exact hcd
    · refine absurd (h c ?_) hcd
      unfold trimRightS
      have hnc : tens.contains c = false := by
        cases e : tens.contains c with
        | false => rfl
        | true => exact absurd ((tens_dig c).1 e) hcd
      have : ∀ m : List UInt8, c ∈ m → c ∈ m.dropWhile (tens.contains ·) := by
        intro m hm
        induction m with
        | nil => exact hm
        | cons a m ih =>
          rw [List.dropWhile_cons]
          by_cases h : tens.contains a = true
          · rw [if_pos h]
            rcases List.mem_cons.1 hm with rfl | h2
            · rw [hnc] at h; cases h
            · exact ih h2
          · rw [if_neg h]; exact hm
      rw [List.mem_reverse]
      exact this _ (List.mem_reverse.2 hc)
  · intro h c hc
    unfold trimRightS at hc
    exact h c (List.mem_reverse.1 ((List.dropWhile_sublist _).subset (List.mem_reverse.1 hc)))
def isNat (l : List UInt8) : Prop := Numeral l ∧ l.length ≤ 300
instance (l : List UInt8) : Decidable (isNat l) := by unfold isNat Numeral Digs Dig; infer_instance
theorem trim_tens (s : ByteArray) (hs : s.size ≤ 300) (w : World) :
    Calls Tryz.prog 124 #[.string s, .string ⟨#[48, 49, 50, 51, 52, 53, 54, 55, 56, 57]⟩] w fun e w' => e = .returned (.string ⟨(trimS s.data.toList tens).toArray⟩) ∧ Below w.heap.size w w' :=
  Any.strings_Trim_laid Tryz.lays160 (by kernel_rfl) s ⟨#[48, 49, 50, 51, 52, 53, 54, 55, 56, 57]⟩ w (by omega) (by decide) (ascii_of_all (by decide))
set_option maxRecDepth 100000 in
set_option maxHeartbeats 4000000 in
theorem is_calls (l : List UInt8) (hl : l.length ≤ 9223372036854775807) (w : World) :
    Calls Tryz.prog 97 #[.string ⟨l.toArray⟩] w fun e w' => e = .returned (.bool (decide (isNat l))) ∧ Below w.heap.size w w' := by
  have hsz : (⟨l.toArray⟩ : ByteArray).size = l.length := by simp [ByteArray.size]
  cases l with
  | nil =>
    go_enter Tryz.func97, Tryz.ntmps97
    go_wp2
    go_ret
    exact ⟨by rw [decide_eq_false (fun h => h.1.2.1 rfl)]; rfl, Below.refl _ _⟩
  | cons c r =>
    have hne : (⟨(c :: r).toArray⟩ : ByteArray) ≠ ⟨#[]⟩ := fun e => by
      have := congrArg ByteArray.size e
      rw [hsz] at this
      simp [ByteArray.size] at this
    by_cases h3 : (c :: r).length ≤ 300
    · have hd3 : decide (((c :: r).length : Int) ≤ 300) = true := decide_eq_true (by omega)
      have htr := trimS_nil (c :: r)
      have hct := trim_tens ⟨(c :: r).toArray⟩ (by rw [hsz]; exact h3)
      have eD : (⟨(c :: r).toArray⟩ : ByteArray).data.toList = c :: r := rfl
      rw [eD] at hct
      by_cases hD : Digs (c :: r)
      · rw [htr.2 hD] at hct
        have hct : ∀ w, Calls Tryz.prog 124 #[.string ⟨(c :: r).toArray⟩, .string ⟨#[48, 49, 50, 51, 52, 53, 54, 55, 56, 57]⟩] w fun e w' => e = .returned (.string ⟨#[]⟩) ∧ Below w.heap.size w w' := hct
        have Hct := hid hct
        have HD := hid hD
        clear hct hD htr eD
        have h300 : (r.length : Int) + 1 ≤ 300 := by simp at h3; omega
        cases r with
        | nil =>
          go_enter Tryz.func97, Tryz.ntmps97
          go_wp2_with (first | (go_at_call 124; refine (Hct.out _).mono ?_; rintro e w1 ⟨rfl, hb1⟩))
          go_ret
          exact ⟨by rw [decide_eq_true ⟨⟨HD.out, by simp, .inl rfl⟩, by simp⟩]; rfl, hb1⟩
        | cons d r =>
          have h0 : ∀ h, (⟨(c :: d :: r).toArray⟩ : ByteArray)[0]'h = c := fun _ => rfl
          have hq1 : ((r.length : Int) + 1 + 1 == 1) = false := by rw [beq_eq_false_iff_ne]; omega
          go_enter Tryz.func97, Tryz.ntmps97
          go_wp2_with (first | (go_at_call 124; refine (Hct.out _).mono ?_; rintro e w1 ⟨rfl, hb1⟩))
          go_ret
          refine ⟨?_, hb1⟩
          by_cases hc : c = 48
          · subst hc
            rw [decide_eq_false (fun h => by rcases h.1.2.2 with h | h <;> simp at h)]
            simp [hq1]
          · rw [decide_eq_true ⟨⟨HD.out, by simp, .inr (by simp; exact hc)⟩, h3⟩]
            have hcn : c.toNat ≠ 48 := fun e => hc (by rw [← UInt8.toNat_inj]; exact e)
            simp [hq1]
            intro e
            exact hcn (by have h1 := congrArg UInt8.toNat (h0 (by rw [hsz]; simp)); rw [← h1]; exact_mod_cast e)
      · obtain ⟨t0, ts, hts⟩ : ∃ t0 ts, trimS (c :: r) tens = t0 :: ts := by
          cases e : trimS (c :: r) tens with
          | nil => exact absurd (htr.1 e) hD
          | cons a b => exact ⟨a, b, rfl⟩
        rw [hts] at hct
        have Hct := hid hct
        have HD := hid hD
        clear hct hD htr hts eD
        have h300 : (r.length : Int) + 1 ≤ 300 := by simp at h3; omega
        go_enter Tryz.func97, Tryz.ntmps97
        go_wp2_with (first | (go_at_call 124; refine (Hct.out _).mono ?_; rintro e w1 ⟨rfl, hb1⟩))
        all_goals go_ret
        all_goals exact ⟨by rw [decide_eq_false (fun h => HD.out h.1.1)]; rfl, hb1⟩
    · have hd3 : decide (((c :: r).length : Int) ≤ 300) = false := decide_eq_false (by omega)
      have h300 : ¬ (r.length : Int) + 1 ≤ 300 := by simp at h3; omega
      go_enter Tryz.func97, Tryz.ntmps97
      go_wp2
      all_goals go_ret
      all_goals exact ⟨by rw [decide_eq_false (fun h => h3 h.2)]; rfl, Below.refl _ _⟩
end Go.Proofs.YthbcabnljcpaiaaGreatDoor.H
namespace Go.Proofs.YthbcabnljcpaiaaGreatDoor.H
open Go.RowKit Go.Shelf Go.Lib Go.Proofs.YthbcabnljcpaiaaGreatDoorW.PrintWords
set_option linter.unusedVariables false
abbrev bs (l : List UInt8) : ByteArray := ⟨l.toArray⟩
abbrev dg (n : Nat) : ByteArray := ⟨(decDigits n).toArray⟩
theorem limbs_len_pow : ∀ k n, n < 10 ^ k → (limbs n).length ≤ k := by
  intro k
  induction k with
  | zero =>
    intro n hn
    rw [Nat.pow_zero] at hn
    obtain rfl : n = 0 := by omega
    rw [limbs_zero]
    exact Nat.le_refl _
  | succ k ih =>
    intro n hn
    by_cases h0 : n = 0
    · subst h0; rw [limbs_zero]; exact Nat.zero_le _
    · rw [limbs_pos h0, List.length_cons]
      have := ih (n / 1000000000) (by
        rw [Nat.pow_succ] at hn
        generalize 10 ^ k = P at *
        omega)
      omega
theorem limbs_len_digs {l : List UInt8} (h : Digs l) (h3 : l.length ≤ 300) : (limbs (dv l)).length ≤ 1000000 := by
  have := limbs_len_pow l.length (dv l) (dv_lt h)
  omega
set_option maxRecDepth 100000 in
set_option maxHeartbeats 4000000 in
theorem apply_no (l m : List UInt8) (fv : Value) (hl : l.length ≤ 9223372036854775807) (hm : m.length ≤ 9223372036854775807) (w : World) (h : ¬ (isNat l ∧ isNat m)) :
    Calls Tryz.prog 125 #[.string (bs l), .string (bs m), fv] w fun e w' => e = .returned (.tuple #[.string ⟨#[]⟩, .int .i64 1]) ∧ Below w.heap.size w w' := by
  have ha := is_calls l hl
  have hb := is_calls m hm
  by_cases h1 : isNat l
  · have h2 : ¬ isNat m := fun e => h ⟨h1, e⟩
    rw [decide_eq_true h1] at ha
    rw [decide_eq_false h2] at hb
    have Ha := hid ha
    have Hb := hid hb
    clear ha hb h h1 h2
    go_enter Tryz.func125, Tryz.ntmps125
    go_wp2_with (first | (go_at_call 97; with_reducible refine (Ha.out _).mono ?_; rintro e w1 ⟨rfl, hb1⟩) | (go_at_call 97; with_reducible refine (Hb.out _).mono ?_; rintro e w2 ⟨rfl, hb2⟩))
    go_ret2
    exact ⟨rfl, hb1.trans (hb2.mono hb1.size)⟩
  · rw [decide_eq_false h1] at ha
    have Ha := hid ha
    clear ha hb h h1
    go_enter Tryz.func125, Tryz.ntmps125
    go_wp2_with (first | (go_at_call 97; with_reducible refine (Ha.out _).mono ?_; rintro e w1 ⟨rfl, hb1⟩))
    go_ret2
    exact ⟨rfl, hb1⟩
set_option maxRecDepth 100000 in
set_option maxHeartbeats 4000000 in
theorem apply_gcd (l m : List UInt8) (w : World) (ht : Tab w) (hl : isNat l) (hm : isNat m) :
    Calls Tryz.prog 125 #[.string (bs l), .string (bs m), .func (.func 126) #[] #[]] w fun e w' => e = .returned (textV (Nat.gcd (dv l) (dv m))) ∧ Below w.heap.size w w' := by
  have hll := limbs_len_digs hl.1.1 hl.2
  have hlm := limbs_len_digs hm.1.1 hm.2
  have hlg : (limbs (Nat.gcd (dv l) (dv m))).length ≤ 1000000 := by
    rcases Nat.eq_zero_or_pos (dv l) with h | h
    · rw [h, Nat.gcd_zero_left]; exact hlm
    · exact Nat.le_trans (limbs_len_le (Nat.gcd_le_left _ h)) hll
  have ha := is_calls l (by have := hl.2; omega)
  have hb := is_calls m (by have := hm.2; omega)
  rw [decide_eq_true hl] at ha
  rw [decide_eq_true hm] at hb
  have hpa := parse_calls (bs l) hl.1.1 (by have := hl.2; simp [ByteArray.size]; omega)
  have hpb := parse_calls (bs m) hm.1.1 (by have := hm.2; simp [ByteArray.size]; omega)
  have hg := gcd_calls (dv l) (dv m) hll hlm
  have htx := text_calls (Nat.gcd (dv l) (dv m)) hlg
  simp only at hpa hpb
  have Ha := hid ha
  have Hb := hid hb
  have Hpa := hid hpa
  have Hpb := hid hpb
  have Hg := hid hg
  have Htx := hid htx
  generalize dv l = a at *
  generalize dv m = b at *
  obtain ⟨r, hr⟩ : ∃ r, textV (Nat.gcd a b) = .tuple #[(r : Value × Value).1, r.2] := by
    unfold textV
    split
    · exact ⟨(_, _), rfl⟩
    · exact ⟨(_, _), rfl⟩
  obtain ⟨r1, r2⟩ := r
  rw [hr] at Htx ⊢
  clear ha hb hl hm hll hlm hlg hpa hpb hg htx hr
  go_enter Tryz.func125, Tryz.ntmps125
  go_wp2_with (first | (go_at_call 97; with_reducible refine (Ha.out _).mono ?_; rintro e w1 ⟨rfl, hb1⟩) | (go_at_call 97; with_reducible refine (Hb.out _).mono ?_; rintro e w2 ⟨rfl, hb2⟩) | (go_at_call 143; with_reducible refine (Hpa.out _).mono ?_; rintro e w3 ⟨v3, rfl, hn3, hb3⟩) | (go_at_call 143; with_reducible refine (Hpb.out _).mono ?_; rintro e w4 ⟨v4, rfl, hn4, hb4⟩))
  refine (Hg.out v3 v4 w4 (hn3.below hb4) hn4).mono ?_
  rintro e w5 ⟨r, rfl, hr5, hb5⟩
  have hb15 : Below w.heap.size w w5 := ((((hb1.trans (hb2.mono hb1.size)).trans (hb3.mono (hb1.trans (hb2.mono hb1.size)).size))).trans (hb4.mono ((hb1.trans (hb2.mono hb1.size)).trans (hb3.mono (hb1.trans (hb2.mono hb1.size)).size)).size)).trans (hb5.mono (((hb1.trans (hb2.mono hb1.size)).trans (hb3.mono (hb1.trans (hb2.mono hb1.size)).size)).trans (hb4.mono ((hb1.trans (hb2.mono hb1.size)).trans (hb3.mono (hb1.trans (hb2.mono hb1.size)).size)).size)).size)
  go_wp2_with (go_at_call 149; refine (Htx.out _ _ (ht.below hb15) hr5).mono ?_; rintro e w6 ⟨rfl, hb6⟩)
  go_ret2
  exact ⟨rfl, hb15.trans (hb6.mono hb15.size)⟩
def gcdV (l m : List UInt8) : Value := if isNat l ∧ isNat m then textV (Nat.gcd (dv l) (dv m)) else .tuple #[.string ⟨#[]⟩, .int .i64 1]
set_option maxRecDepth 100000 in
set_option maxHeartbeats 4000000 in
theorem gcdT_calls (l m : List UInt8) (hl : l.length ≤ 9223372036854775807) (hm : m.length ≤ 9223372036854775807) (w : World) (ht : Tab w) :
    Calls Tryz.prog 98 #[.string (bs l), .string (bs m)] w fun e w' => e = .returned (gcdV l m) ∧ Below w.heap.size w w' := by
  have h : Calls Tryz.prog 125 #[.string (bs l), .string (bs m), .func (.func 126) #[] #[]] w fun e w' => e = .returned (gcdV l m) ∧ Below w.heap.size w w' := by
    unfold gcdV
    by_cases h : isNat l ∧ isNat m
    · rw [if_pos h]; exact apply_gcd l m w ht h.1 h.2
    · rw [if_neg h]; exact apply_no l m _ hl hm w h
  obtain ⟨r1, r2, hr⟩ : ∃ r1 r2, gcdV l m = .tuple #[r1, r2] := by
    unfold gcdV textV
    split
    · split <;> exact ⟨_, _, rfl⟩
    · exact ⟨_, _, rfl⟩
  rw [hr] at h ⊢
  have H := hid h
  clear h hr
  go_enter Tryz.func98, Tryz.ntmps98
  go_wp2_with (go_at_call 125; refine H.out.mono ?_; rintro e w1 ⟨rfl, hb1⟩)
  go_ret2
  exact ⟨rfl, hb1⟩
end Go.Proofs.YthbcabnljcpaiaaGreatDoor.H
