/- A part of the proof that the register's laws hold; no condition of its own. -/
import Derived.Test.YthbcabnljcpaiaaGreatDoorProg
import Derived.Below
import Derived.Deep.Draws
import Derived.Deep.AppendLies
import Derived.Maps.AppendAt
import Derived.OwnWalk
import Derived.Laws.BytesArg
import Derived.Laws.MakeOwn
import Derived.Laws.OwnMore
import Derived.Deep.OwnRows
import Derived.Tactics
import Derived.Lib.ConvBytes
import Derived.Laws.Slices
import Derived.WalkKit
import Derived.KernelRfl
import Derived.RowKit3
import Derived.Deep.LoopGhost
import Derived.Deep.QuietTactic
import Derived.BigQuiet
import Derived.WideLaws
import Derived.Deep.DeepCutAuto
import Derived.Deep.CutBlock
import Derived.Deep.RegionHeld3
import Derived.Laws.Rows
import Derived.Lib.AppendStr
import Derived.ArgAppend
import Derived.Laws.IdiomCopy
import Derived.OrdersHeld
import Derived.Laws.BitsLemmas
import Derived.RowKit
import Derived.Test.YthbcabnljcpaiaaGreatDoorZB01
import Derived.Test.YthbcabnljcpaiaaGreatDoorZB02
import Derived.Test.YthbcabnljcpaiaaGreatDoorZB03
import Derived.Test.YthbcabnljcpaiaaGreatDoorZB13
import Derived.Test.YthbcabnljcpaiaaGreatDoorZB04
import Derived.Test.YthbcabnljcpaiaaGreatDoorZB05
import Derived.Test.YthbcabnljcpaiaaGreatDoorZB14
import Derived.Test.YthbcabnljcpaiaaGreatDoorZB15
set_option linter.all false
namespace Go.Proofs.YthbcabnljcpaiaaGreatDoor.Q
open Go.RowKit Go.Proofs.YthbcabnljcpaiaaGreatDoorW.PrintWords Go.Proofs.YthbcabnljcpaiaaGreatDoorW.PrintLast Go.Proofs.YthbcabnljcpaiaaGreatDoorW.PrintMore
attribute [local go_sem] max2_int min2_int max_two min_two max_three min_three max_four min_four
set_option linter.unusedVariables false
set_option linter.unusedSimpArgs false
def errW : Option Int → Value
  | none => .nilIface
  | some c => .iface 0 (.int .i64 c)
theorem errW_none : errW none = .nilIface := rfl
theorem errW_some (c : Int) : errW (some c) = .iface 0 (.int .i64 c) := rfl
theorem info5 : (Tryz.prog.info? 5).map (fun i => (i.zero, i.size, i.bytes)) = some (some (.int .u8 0), 1, 1) := by kernel_rfl
theorem info36 : (Tryz.prog.info? 36).map (fun i => (i.zero, i.size, i.bytes)) = some (some (.agg #[(.string ⟨#[]⟩), (.string ⟨#[]⟩), (.string ⟨#[]⟩), (.string ⟨#[]⟩), (.string ⟨#[]⟩), (.slice none 0 0), (.int .i64 0), (.int .i64 0), (.int .i64 0), (.int .i64 0)]), 10, 136) := by kernel_rfl
structure S40 where
  f0 : Bool
  f1 : ByteArray
  f2 : ByteArray
def z40 : S40 := ⟨false, (⟨#[]⟩ : ByteArray), (⟨#[]⟩ : ByteArray)⟩
def k40 : Kd S40 := Kd.iso (Kd.pair Kd.bool (Kd.pair Kd.string Kd.string)) (fun x : S40 => (x.f0, x.f1, x.f2))
theorem k40_open {w : World} {x : S40} {cs : List Value} (h : k40.K w x cs) : cs = [.bool x.f0, .string x.f1, .string x.f2] := by
  obtain ⟨_, _, rfl, rfl, ⟨_, _, rfl, rfl, rfl⟩⟩ := h
  exact rfl
theorem k40_mk (w : World) (x : S40)  : k40.K w x [.bool x.f0, .string x.f1, .string x.f2] := ⟨[.bool x.f0], [.string x.f1, .string x.f2], rfl, rfl, ⟨[.string x.f1], [.string x.f2], rfl, rfl, rfl⟩⟩
structure S42 where
  f0 : Int
  f1 : Int
  f2 : S40
def z42 : S42 := ⟨(0 : Int), (0 : Int), z40⟩
def k42 : Kd S42 := Kd.iso (Kd.pair (Kd.int .i64) (Kd.pair (Kd.int .i64) k40)) (fun x : S42 => (x.f0, x.f1, x.f2))
theorem k42_open {w : World} {x : S42} {cs : List Value} (h : k42.K w x cs) : cs = [.int .i64 x.f0, .int .i64 x.f1, .bool x.f2.f0, .string x.f2.f1, .string x.f2.f2] := by
  obtain ⟨_, _, rfl, rfl, ⟨_, _, rfl, rfl, s2⟩⟩ := h
  obtain rfl := k40_open s2
  exact rfl
theorem k42_mk (w : World) (x : S42)  : k42.K w x [.int .i64 x.f0, .int .i64 x.f1, .bool x.f2.f0, .string x.f2.f1, .string x.f2.f2] := ⟨[.int .i64 x.f0], [.int .i64 x.f1, .bool x.f2.f0, .string x.f2.f1, .string x.f2.f2], rfl, rfl, ⟨[.int .i64 x.f1], [.bool x.f2.f0, .string x.f2.f1, .string x.f2.f2], rfl, rfl, (k40_mk w x.f2 )⟩⟩
theorem k42_mkF (W : World) (ok : Nat → Prop) (x : S42) : Kd.FK k42 W ok x [.int .i64 x.f0, .int .i64 x.f1, .bool x.f2.f0, .string x.f2.f1, .string x.f2.f2] := fun W2 _ => k42_mk W2 x
def rd_T42 (xs : List S42) (i : Int) : S42 := xs.getD i.toNat z42
theorem at_T42 {w : World} {A : Option Addr} {n : Nat} {xs : List S42} (h : Kd.C k42 w A n xs) (i : Int) (h0 : 0 ≤ i) (h1 : i < n) : ∃ ad , A = some ad ∧ w.cell? (ad.add (i.toNat * 5)) = some (.int .i64 (rd_T42 xs i).f0) ∧ w.cell? ⟨(ad.add (i.toNat * 5)).block, (ad.add (i.toNat * 5)).off + 1, none⟩ = some (.int .i64 (rd_T42 xs i).f1) ∧ w.cell? ⟨(ad.add (i.toNat * 5)).block, (ad.add (i.toNat * 5)).off + 2, none⟩ = some (.bool (rd_T42 xs i).f2.f0) ∧ w.cell? ⟨(ad.add (i.toNat * 5)).block, (ad.add (i.toNat * 5)).off + 3, none⟩ = some (.string (rd_T42 xs i).f2.f1) ∧ w.cell? ⟨(ad.add (i.toNat * 5)).block, (ad.add (i.toNat * 5)).off + 4, none⟩ = some (.string (rd_T42 xs i).f2.f2) := by
  obtain ⟨ad, c, e, _, hK, hc0⟩ := Kd.C_get h z42 i h0 h1
  have hc : ∀ j u, c[j]? = some u → w.cell? (ad.add (i.toNat * 5 + j)) = some u := hc0
  obtain rfl := k42_open hK
  exact ⟨ad, e, hc 0 _ rfl, by rw [← add_field _ _ 1 (by omega)]; exact hc 1 _ rfl, by rw [← add_field _ _ 2 (by omega)]; exact hc 2 _ rfl, by rw [← add_field _ _ 3 (by omega)]; exact hc 3 _ rfl, by rw [← add_field _ _ 4 (by omega)]; exact hc 4 _ rfl⟩
structure S36 where
  f0 : ByteArray
  f1 : ByteArray
  f2 : ByteArray
  f3 : ByteArray
  f4 : ByteArray
  f5 : (List ByteArray)
  f6 : Int
  f7 : Int
  f8 : Int
  f9 : Int
def z36 : S36 := ⟨(⟨#[]⟩ : ByteArray), (⟨#[]⟩ : ByteArray), (⟨#[]⟩ : ByteArray), (⟨#[]⟩ : ByteArray), (⟨#[]⟩ : ByteArray), ([] : List ByteArray), (0 : Int), (0 : Int), (0 : Int), (0 : Int)⟩
def k36 : Kd S36 := Kd.iso (Kd.pair Kd.string (Kd.pair Kd.string (Kd.pair Kd.string (Kd.pair Kd.string (Kd.pair Kd.string (Kd.pair (Kd.slice 9 Kd.string) (Kd.pair (Kd.int .i64) (Kd.pair (Kd.int .i64) (Kd.pair (Kd.int .i64) (Kd.int .i64)))))))))) (fun x : S36 => (x.f0, x.f1, x.f2, x.f3, x.f4, x.f5, x.f6, x.f7, x.f8, x.f9))
theorem k36_heap : Kd.Heap k36 := Kd.heap_iso _ (Kd.heap_pair Kd.heap_string (Kd.heap_pair Kd.heap_string (Kd.heap_pair Kd.heap_string (Kd.heap_pair Kd.heap_string (Kd.heap_pair Kd.heap_string (Kd.heap_pair (Kd.heap_slice 9 Kd.heap_string) (Kd.heap_pair (Kd.heap_int .i64) (Kd.heap_pair (Kd.heap_int .i64) (Kd.heap_pair (Kd.heap_int .i64) (Kd.heap_int .i64))))))))))
theorem k36_open {w : World} {x : S36} {cs : List Value} (h : k36.K w x cs) : ∃ A5 c5, cs = [.string x.f0, .string x.f1, .string x.f2, .string x.f3, .string x.f4, .slice A5 x.f5.length c5, .int .i64 x.f6, .int .i64 x.f7, .int .i64 x.f8, .int .i64 x.f9] ∧ x.f5.length ≤ c5 ∧ Kd.string.C w A5 x.f5.length x.f5 := by
  obtain ⟨_, _, rfl, rfl, ⟨_, _, rfl, rfl, ⟨_, _, rfl, rfl, ⟨_, _, rfl, rfl, ⟨_, _, rfl, rfl, ⟨_, _, rfl, ⟨A5, c5, rfl, l5, g5⟩, ⟨_, _, rfl, rfl, ⟨_, _, rfl, rfl, ⟨_, _, rfl, rfl, rfl⟩⟩⟩⟩⟩⟩⟩⟩⟩ := h
  exact ⟨A5, c5, rfl, l5, g5⟩
theorem k36_mk (w : World) (x : S36) {A5 : Option Addr} {c5 : Nat} (l5 : x.f5.length ≤ c5) (g5 : Kd.string.C w A5 x.f5.length x.f5) : k36.K w x [.string x.f0, .string x.f1, .string x.f2, .string x.f3, .string x.f4, .slice A5 x.f5.length c5, .int .i64 x.f6, .int .i64 x.f7, .int .i64 x.f8, .int .i64 x.f9] := ⟨[.string x.f0], [.string x.f1, .string x.f2, .string x.f3, .string x.f4, .slice A5 x.f5.length c5, .int .i64 x.f6, .int .i64 x.f7, .int .i64 x.f8, .int .i64 x.f9], rfl, rfl, ⟨[.string x.f1], [.string x.f2, .string x.f3, .string x.f4, .slice A5 x.f5.length c5, .int .i64 x.f6, .int .i64 x.f7, .int .i64 x.f8, .int .i64 x.f9], rfl, rfl, ⟨[.string x.f2], [.string x.f3, .string x.f4, .slice A5 x.f5.length c5, .int .i64 x.f6, .int .i64 x.f7, .int .i64 x.f8, .int .i64 x.f9], rfl, rfl, ⟨[.string x.f3], [.string x.f4, .slice A5 x.f5.length c5, .int .i64 x.f6, .int .i64 x.f7, .int .i64 x.f8, .int .i64 x.f9], rfl, rfl, ⟨[.string x.f4], [.slice A5 x.f5.length c5, .int .i64 x.f6, .int .i64 x.f7, .int .i64 x.f8, .int .i64 x.f9], rfl, rfl, ⟨[.slice A5 x.f5.length c5], [.int .i64 x.f6, .int .i64 x.f7, .int .i64 x.f8, .int .i64 x.f9], rfl, ⟨A5, c5, rfl, l5, g5⟩, ⟨[.int .i64 x.f6], [.int .i64 x.f7, .int .i64 x.f8, .int .i64 x.f9], rfl, rfl, ⟨[.int .i64 x.f7], [.int .i64 x.f8, .int .i64 x.f9], rfl, rfl, ⟨[.int .i64 x.f8], [.int .i64 x.f9], rfl, rfl, rfl⟩⟩⟩⟩⟩⟩⟩⟩⟩
theorem k36_openF {W : World} {ok : Nat → Prop} {x : S36} {cs : List Value} (h : Kd.FK k36 W ok x cs) : ∃ A5 c5, cs = [.string x.f0, .string x.f1, .string x.f2, .string x.f3, .string x.f4, .slice A5 x.f5.length c5, .int .i64 x.f6, .int .i64 x.f7, .int .i64 x.f8, .int .i64 x.f9] ∧ x.f5.length ≤ c5 ∧ Kd.F Kd.string W ok A5 x.f5.length x.f5 := by
  obtain ⟨A5, c5, rfl, l5, _⟩ := k36_open (Kd.FK_now h)
  exact ⟨A5, c5, rfl, l5, (fun W' hW => by obtain ⟨A5_, c5_, he, l5_, g5_⟩ := k36_open (h W' hW); injection (Option.some.inj (show some (Value.slice A5 x.f5.length c5) = some (Value.slice A5_ x.f5.length c5_) from congrArg (fun l => l[5]?) he)) with ha_ _ _; rw [ha_]; exact g5_)⟩
theorem k36_mkF (W : World) (ok : Nat → Prop) (x : S36) {A5 : Option Addr} {c5 : Nat} (l5 : x.f5.length ≤ c5) (g5 : Kd.F Kd.string W ok A5 x.f5.length x.f5) : Kd.FK k36 W ok x [.string x.f0, .string x.f1, .string x.f2, .string x.f3, .string x.f4, .slice A5 x.f5.length c5, .int .i64 x.f6, .int .i64 x.f7, .int .i64 x.f8, .int .i64 x.f9] := fun W2 hW => k36_mk W2 x l5 (g5 W2 hW)
def rd_T36 (xs : List S36) (i : Int) : S36 := xs.getD i.toNat z36
theorem at_T36 {w : World} {A : Option Addr} {n : Nat} {xs : List S36} (h : Kd.C k36 w A n xs) (i : Int) (h0 : 0 ≤ i) (h1 : i < n) : ∃ ad A5 c5, A = some ad ∧ w.cell? (ad.add (i.toNat * 10)) = some (.string (rd_T36 xs i).f0) ∧ w.cell? ⟨(ad.add (i.toNat * 10)).block, (ad.add (i.toNat * 10)).off + 1, none⟩ = some (.string (rd_T36 xs i).f1) ∧ w.cell? ⟨(ad.add (i.toNat * 10)).block, (ad.add (i.toNat * 10)).off + 2, none⟩ = some (.string (rd_T36 xs i).f2) ∧ w.cell? ⟨(ad.add (i.toNat * 10)).block, (ad.add (i.toNat * 10)).off + 3, none⟩ = some (.string (rd_T36 xs i).f3) ∧ w.cell? ⟨(ad.add (i.toNat * 10)).block, (ad.add (i.toNat * 10)).off + 4, none⟩ = some (.string (rd_T36 xs i).f4) ∧ w.cell? ⟨(ad.add (i.toNat * 10)).block, (ad.add (i.toNat * 10)).off + 5, none⟩ = some (.slice A5 (rd_T36 xs i).f5.length c5) ∧ w.cell? ⟨(ad.add (i.toNat * 10)).block, (ad.add (i.toNat * 10)).off + 6, none⟩ = some (.int .i64 (rd_T36 xs i).f6) ∧ w.cell? ⟨(ad.add (i.toNat * 10)).block, (ad.add (i.toNat * 10)).off + 7, none⟩ = some (.int .i64 (rd_T36 xs i).f7) ∧ w.cell? ⟨(ad.add (i.toNat * 10)).block, (ad.add (i.toNat * 10)).off + 8, none⟩ = some (.int .i64 (rd_T36 xs i).f8) ∧ w.cell? ⟨(ad.add (i.toNat * 10)).block, (ad.add (i.toNat * 10)).off + 9, none⟩ = some (.int .i64 (rd_T36 xs i).f9) ∧ (rd_T36 xs i).f5.length ≤ c5 ∧ Kd.string.C w A5 (rd_T36 xs i).f5.length (rd_T36 xs i).f5 := by
  obtain ⟨ad, c, e, _, hK, hc0⟩ := Kd.C_get h z36 i h0 h1
  have hc : ∀ j u, c[j]? = some u → w.cell? (ad.add (i.toNat * 10 + j)) = some u := hc0
  obtain ⟨A5, c5, rfl, l5, g5⟩ := k36_open hK
  exact ⟨ad, A5, c5, e, hc 0 _ rfl, by rw [← add_field _ _ 1 (by omega)]; exact hc 1 _ rfl, by rw [← add_field _ _ 2 (by omega)]; exact hc 2 _ rfl, by rw [← add_field _ _ 3 (by omega)]; exact hc 3 _ rfl, by rw [← add_field _ _ 4 (by omega)]; exact hc 4 _ rfl, by rw [← add_field _ _ 5 (by omega)]; exact hc 5 _ rfl, by rw [← add_field _ _ 6 (by omega)]; exact hc 6 _ rfl, by rw [← add_field _ _ 7 (by omega)]; exact hc 7 _ rfl, by rw [← add_field _ _ 8 (by omega)]; exact hc 8 _ rfl, by rw [← add_field _ _ 9 (by omega)]; exact hc 9 _ rfl, l5, g5⟩
structure S25 where
  f0 : (List ByteArray)
  f1 : (List S42)
  f2 : (List S42)
def z25 : S25 := ⟨([] : List ByteArray), ([] : List S42), ([] : List S42)⟩
end Go.Proofs.YthbcabnljcpaiaaGreatDoor.Q
namespace Go.Proofs.YthbcabnljcpaiaaGreatDoor.H
open Go.RowKit Go.Shelf Go.Lib Go.Proofs.YthbcabnljcpaiaaGreatDoorW.PrintWords Go.Proofs.YthbcabnljcpaiaaGreatDoor.Q
set_option linter.unusedVariables false
def chOK (first : Prop) (c : Int) : Prop := (97 ≤ c ∧ c ≤ 122) ∨ (65 ≤ c ∧ c ≤ 90) ∨ (¬ first ∧ (c = 95 ∨ (48 ≤ c ∧ c ≤ 57)))
instance (first : Prop) [Decidable first] (c : Int) : Decidable (chOK first c) := by unfold chOK; infer_instance
def IsId (s : ByteArray) : Prop := 1 ≤ s.size ∧ s.size ≤ 24 ∧ ∀ i, i < s.size → chOK (i = 0) (bt s (i : Int))
instance (s : ByteArray) : Decidable (IsId s) := by unfold IsId; infer_instance
theorem size_data (s : ByteArray) : s.size = s.data.toList.length := Lib.size_eq s
theorem toList_nil {s : ByteArray} : s.toList = ([] : List UInt8) ↔ s.size = 0 := by
  rw [Lib.toList_data, size_data]
  exact ⟨fun h => by rw [h]; rfl, fun h => List.eq_nil_of_length_eq_zero h⟩
set_option maxRecDepth 10000 in
theorem isName_ev (s : ByteArray) (hs : s.size ≤ 1000000) : Ev (fun k => M.register_isName.f k s) (decide (IsId s)) := by
  show Ev (fun k => M.register_isName.l0 k s (s.size : Int) 0) (decide (IsId s))
  have step : ∀ (i : Nat), i < s.size → ∀ k, M.register_isName.l0 (k + 1) s (s.size : Int) (i : Int) = if chOK (i = 0) (bt s (i : Int)) then M.register_isName.l0 k s (s.size : Int) ((i + 1 : Nat) : Int) else some false := by
    intro i hi k
    have hw : wrap64 ((i : Int) + 1) = ((i + 1 : Nat) : Int) := by unfold wrap64; omega
    simp only [M.register_isName.l0, hw]
    rw [if_pos (by omega), if_pos (by omega), if_pos (by omega)]
    generalize bt s (i : Int) = c
    generalize M.register_isName.l0 k s (s.size : Int) ((i + 1 : Nat) : Int) = R
    have e0 : ((i : Int) = 0) ↔ (i = 0) := by omega
    by_cases hc : chOK (i = 0) c
    · rw [if_pos hc]
      unfold chOK at hc
      repeat' split
      all_goals first | rfl | (exfalso; omega)
    · rw [if_neg hc]
      unfold chOK at hc
      repeat' split
      all_goals first | rfl | (exfalso; omega)
  have main : ∀ d i, s.size - i = d → i ≤ s.size → Ev (fun k => M.register_isName.l0 k s (s.size : Int) (i : Int)) (decide (1 ≤ s.size ∧ s.size ≤ 24 ∧ ∀ j, j < s.size → i ≤ j → chOK (j = 0) (bt s (j : Int)))) := by
    intro d
    induction d with
    | zero =>
      intro i hd hi
      have : i = s.size := by omega
      subst this
      refine Ev.step (f := fun _ => some _) (fun k => ?_) (Ev.now _)
      simp only [M.register_isName.l0]
      rw [if_neg (by omega)]
      by_cases h0 : s.size = 0
      · rw [if_pos (toList_nil.2 h0), decide_eq_false (by omega)]
      · rw [if_neg (fun e => h0 (toList_nil.1 e))]
        congr 1
        by_cases h24 : s.size ≤ 24
        · rw [decide_eq_true (show (s.size : Int) ≤ 24 by omega), decide_eq_true (p := 1 ≤ s.size ∧ s.size ≤ 24 ∧ ∀ j, j < s.size → s.size ≤ j → chOK (j = 0) (bt s (j : Int))) ⟨by omega, h24, fun j h1 h2 => by omega⟩]
        · rw [decide_eq_false (show ¬ (s.size : Int) ≤ 24 by omega), decide_eq_false (fun h => h24 h.2.1)]
    | succ d ih =>
      intro i hd hi
      by_cases hc : chOK (i = 0) (bt s (i : Int))
      · refine Ev.step (f := fun k => M.register_isName.l0 k s (s.size : Int) ((i + 1 : Nat) : Int)) (fun k => by rw [step i (by omega) k, if_pos hc]) ?_
        have := ih (i + 1) (by omega) (by omega)
        have e : decide (1 ≤ s.size ∧ s.size ≤ 24 ∧ ∀ j, j < s.size → i ≤ j → chOK (j = 0) (bt s (j : Int))) = decide (1 ≤ s.size ∧ s.size ≤ 24 ∧ ∀ j, j < s.size → i + 1 ≤ j → chOK (j = 0) (bt s (j : Int))) := by
          apply decide_eq_decide.2
          refine ⟨fun h => ⟨h.1, h.2.1, fun j h2 h1 => h.2.2 j h2 (by omega)⟩, fun h => ⟨h.1, h.2.1, fun j h2 h1 => ?_⟩⟩
          rcases Nat.lt_or_ge i j with h3 | h3
          · exact h.2.2 j h2 (by omega)
          · obtain rfl : i = j := by omega
            exact hc
        rw [e]
        exact this
      · refine Ev.step (f := fun _ => some false) (fun k => by rw [step i (by omega) k, if_neg hc]) ?_
        rw [decide_eq_false (fun h => hc (h.2.2 i (by omega) (Nat.le_refl _)))]
        exact Ev.now _
  have := main _ 0 rfl (Nat.zero_le _)
  have e : decide (IsId s) = decide (1 ≤ s.size ∧ s.size ≤ 24 ∧ ∀ j, j < s.size → 0 ≤ j → chOK (j = 0) (bt s (j : Int))) := by
    apply decide_eq_decide.2
    unfold IsId
    exact ⟨fun h => ⟨h.1, h.2.1, fun j h2 _ => h.2.2 j h2⟩, fun h => ⟨h.1, h.2.1, fun j h2 => h.2.2 j h2 (Nat.zero_le _)⟩⟩
  rw [e]
  exact this
theorem isName_calls (s : ByteArray) (hs : s.size ≤ 1000000) (w : World) : Calls Tryz.prog 39 #[.string s] w fun e w' => e = .returned (.bool (decide (IsId s))) ∧ Below w.heap.size w w' := by
  obtain ⟨k, hk⟩ := Ev.rounds (isName_ev s hs)
  refine (M.register_isName.calls k s _ w hk).mono ?_
  rintro e w' ⟨rfl, hd⟩
  exact ⟨rfl, hd.below⟩
theorem isDay_calls (n : Int) (w : World) : Calls Tryz.prog 32 #[.int .i64 n] w fun e w' => e = .returned (.bool (decide (0 ≤ n ∧ n ≤ 100000))) ∧ Below w.heap.size w w' := by
  refine (M.register_isDay.calls n (decide (0 ≤ n ∧ n ≤ 100000)) w ?_).mono ?_
  · unfold M.register_isDay.f
    by_cases h : n ≥ 0
    · rw [if_pos h]; congr 1; apply decide_eq_decide.2; omega
    · rw [if_neg h, decide_eq_false (by omega)]
  · rintro e w' ⟨rfl, hd⟩
    exact ⟨rfl, hd.below⟩
theorem percent_calls (n : Int) (w : World) : Calls Tryz.prog 73 #[.int .i64 n] w fun e w' => e = .returned (.bool (decide (0 ≤ n ∧ n ≤ 100))) ∧ Below w.heap.size w w' := by
  refine (M.register_percent.calls n (decide (0 ≤ n ∧ n ≤ 100)) w ?_).mono ?_
  · unfold M.register_percent.f
    by_cases h : n ≥ 0
    · rw [if_pos h]; congr 1; apply decide_eq_decide.2; omega
    · rw [if_neg h, decide_eq_false (by omega)]
  · rintro e w' ⟨rfl, hd⟩
    exact ⟨rfl, hd.below⟩
def Runs (h : S36) (day : Int) : Prop := h.f8 ≤ day ∧ (h.f9 = -1 ∨ day < h.f9)
instance (h : S36) (day : Int) : Decidable (Runs h day) := by unfold Runs; infer_instance
abbrev hcells (x : S36) (A : Option Addr) (c : Nat) : Array Value := #[.string x.f0, .string x.f1, .string x.f2, .string x.f3, .string x.f4, .slice A x.f5.length c, .int .i64 x.f6, .int .i64 x.f7, .int .i64 x.f8, .int .i64 x.f9]
theorem runs_calls (x : S36) (A : Option Addr) (c : Nat) (day : Int) (w : World) (hC : Kd.C Kd.string w A x.f5.length x.f5) (hc : x.f5.length ≤ c) :
    Calls Tryz.prog 37 #[.agg (hcells x A c), .int .i64 day] w fun e w' => e = .returned (.bool (decide (Runs x day))) ∧ Below w.heap.size w w' := by
  refine M.register_runs.calls _ _ _ _ _ A c x.f5 _ _ _ _ day _ w hC hc ?_
  unfold M.register_runs.f
  by_cases h : day ≥ x.f8
  · rw [if_pos h]
    by_cases h9 : x.f9 = -1
    · rw [if_pos h9, decide_eq_true ⟨h, .inl h9⟩]
    · rw [if_neg h9]; congr 1; apply decide_eq_decide.2; unfold Runs; exact ⟨fun e => ⟨h, .inr e⟩, fun e => e.2.resolve_left h9⟩
  · rw [if_neg h, decide_eq_false (fun e => h e.1)]
end Go.Proofs.YthbcabnljcpaiaaGreatDoor.H
namespace Go.Proofs.YthbcabnljcpaiaaGreatDoor.H
open Go.RowKit Go.Shelf Go.Lib Go.WideMaps Go.Proofs.YthbcabnljcpaiaaGreatDoorW.PrintWords Go.Proofs.YthbcabnljcpaiaaGreatDoor.Q
set_option linter.unusedVariables false
def Bx (w : World) (b : Nat) (t : TypeId) (cs : Array Value) : Prop := w.heap[b]? = some (.cells cs t (0, 0))
theorem Bx.cell {w : World} {b : Nat} {t : TypeId} {cs : Array Value} (h : Bx w b t cs) (j : Nat) : w.cell? ⟨b, j, none⟩ = cs[j]? := Lib.cell_of_heap h j
theorem Bx.fz {w : World} {b : Nat} {t : TypeId} {cs : Array Value} (h : Bx w b t cs) (j : Nat) : w.frozen? ⟨b, j, none⟩ = false := Lib.frozen_of_heap h j
theorem Bx.lt {w : World} {b : Nat} {t : TypeId} {cs : Array Value} (h : Bx w b t cs) : b < w.heap.size := blk_lt h
theorem Bx.new (w : World) (t : TypeId) (cs : Array Value) : Bx (w.alloc (.cells cs t)) w.heap.size t cs := heap_alloc_new w _
theorem Bx.below {w w' : World} {b : Nat} {t : TypeId} {cs : Array Value} (h : Bx w b t cs) (hb : Below w.heap.size w w') : Bx w' b t cs := (hb.block b h.lt).trans h
theorem Bx.far {w : World} {b : Nat} {t : TypeId} {cs : Array Value} (h : Bx w b t cs) {p : Addr} (hp : b ≠ p.block) (v : Value) : Bx (w.setCell p v) b t cs := (Below.heap_setCell _ _ _ _ hp).trans h
theorem Bx.grown {w w' : World} {row : Option Nat} {b : Nat} {t : TypeId} {cs : Array Value} (h : Bx w b t cs) (hg : w.grownBy w' row) (hne : some b ≠ row) : Bx w' b t cs := (hg.block b h.lt hne).trans h
def Opt (s : ByteArray) : Prop := s.size = 0 ∨ IsId s
instance (s : ByteArray) : Decidable (Opt s) := by unfold Opt; infer_instance
set_option maxRecDepth 100000 in
set_option maxHeartbeats 4000000 in
theorem optional_calls (s : ByteArray) (hs : s.size ≤ 1000000) (w : World) : Calls Tryz.prog 72 #[.string s] w fun e w' => e = .returned (.bool (decide (Opt s))) ∧ Below w.heap.size w w' := by
  have h := isName_calls s hs
  by_cases h0 : s.size = 0
  · have hn : s.toList = ([] : List UInt8) := toList_nil.2 h0
    rw [decide_eq_true (show Opt s from .inl h0)]
    clear h
    go_enter Tryz.func72, Tryz.ntmps72
    go_wp2
    go_ret
    exact ⟨rfl, Below.refl _ _⟩
  · have hn : (s.toList == ([] : List UInt8)) = false := by rw [beq_eq_false_iff_ne]; exact fun e => h0 (toList_nil.1 e)
    have hn2 : s.toList ≠ [] := fun e => h0 (toList_nil.1 e)
    rw [show decide (Opt s) = decide (IsId s) from decide_eq_decide.2 ⟨fun e => e.resolve_left h0, .inr⟩]
    have H := hid h
    generalize decide (IsId s) = r at *
    clear h
    go_enter Tryz.func72, Tryz.ntmps72
    go_wp2_with (go_at_call 39; refine (H.out _).mono ?_; rintro e w1 ⟨rfl, hb1⟩)
    all_goals go_ret
    all_goals exact ⟨rfl, hb1⟩
abbrev MapS (w : World) (b : Nat) (m : List (ByteArray × Bool)) : Prop := MapA Tryz.prog 9 Value.string Value.bool w b m
theorem str_inj (a c : ByteArray) (h : Value.string a = Value.string c) : a = c := by cases h; rfl
theorem MapS.get {w : World} {b : Nat} {m : List (ByteArray × Bool)} (h : MapS w b m) {s : ByteArray} (hs : s.size ≤ 1000000) : (Instr.lookup 80 (.map (some b)) (.string s) false).run Tryz.prog w = .ok (.bool (asGet m s false)) w :=
  MapA.get h str_inj (Maps.string_keyed Tryz.underlying9) Tryz.underlying80 (d := false) (by kernel_rfl) (keyOf_string_mk Tryz.underlying9 (by unfold maxLen; omega))
theorem MapS.put {w : World} {b : Nat} {m : List (ByteArray × Bool)} (h : MapS w b m) {s : ByteArray} (hs : s.size ≤ 1000000) (v : Bool) : ∃ w', (Instr.mapUpdate 80 (.map (some b)) (.string s) (.bool v)).run Tryz.prog w = .ok () w' ∧ MapS w' b (asPut m s v) ∧ w.grownBy w' (some b) :=
  MapA.put h str_inj (Maps.string_keyed Tryz.underlying9) Tryz.underlying80 v (keyOf_string_mk Tryz.underlying9 (by unfold maxLen; omega))
theorem wpList_putS {w : World} {ops : Array Oper} {rest : List Oper} {o : Oper} {a : Act} {Q : Exit → Act → World → Prop} (hg : o.guard = none) (m x v : Operand)
    (hop : o.op = Op.mapUpdate 80 m x v ∨ o.op = Op.insert 80 m x v) (b : Nat) (M : List (ByteArray × Bool)) (hm : a.eval m = .map (some b)) (s : ByteArray) (hx : a.eval x = .string s) (r : Bool) (hv : a.eval v = .bool r)
    (h : MapS w b M) (hs : s.size ≤ 1000000) (hK : ∀ w', MapS w' b (asPut M s r) → w.grownBy w' (some b) → wpList Tryz.prog ops Q rest (a.put o.dst undef) w') : wpList Tryz.prog ops Q (o :: rest) a w := by
  refine wpList_plain hg fun K' hK' => ?_
  obtain ⟨w', hrun, r1, r2⟩ := h.put hs r
  unfold Oper.wp
  rcases hop with hop | hop
  · simp [execOp, hop, hm, hx, hv, hrun, Result.andThen]
    exact hK' _ _ (hK w' r1 r2)
  · simp [execOp, hop, hm, hx, hv, hrun, Result.andThen]
    exact hK' _ _ (hK w' r1 r2)
instance memDec (a : ByteArray) (l : List ByteArray) : Decidable (a ∈ l) := @List.instDecidableMemOfLawfulBEq _ instBEqOfDecidableEq _ a l
def Pre (x : S36) : Prop := IsId x.f0 ∧ IsId x.f1 ∧ IsId x.f2 ∧ Opt x.f3 ∧ Opt x.f4 ∧ x.f5.length ≤ 4 ∧ (x.f3.size = 0 ∨ x.f5.length = 0)
def JointOK (x : S36) : Prop := (∀ s ∈ x.f5, IsId s) ∧ (x.f2 :: x.f5).Nodup ∧ x.f1 ∉ x.f2 :: x.f5 ∧ x.f1 ≠ x.f3
def NumsOK (x : S36) : Prop := (0 ≤ x.f6 ∧ x.f6 ≤ 100) ∧ (0 ≤ x.f7 ∧ x.f7 ≤ 100) ∧ (0 ≤ x.f8 ∧ x.f8 ≤ 100000) ∧ (x.f9 = -1 ∨ ((0 ≤ x.f9 ∧ x.f9 ≤ 100000) ∧ x.f8 < x.f9))
def Proper (x : S36) : Prop := Pre x ∧ JointOK x ∧ NumsOK x
instance (x : S36) : Decidable (Pre x) := by unfold Pre; infer_instance
instance (x : S36) : Decidable (JointOK x) := by unfold JointOK; infer_instance
instance (x : S36) : Decidable (NumsOK x) := by unfold NumsOK; infer_instance
instance (x : S36) : Decidable (Proper x) := by unfold Proper; infer_instance
def Mod (x : S36) : Prop := x.f0.size ≤ 1000000 ∧ x.f1.size ≤ 1000000 ∧ x.f2.size ≤ 1000000 ∧ x.f3.size ≤ 1000000 ∧ x.f4.size ≤ 1000000 ∧ x.f5.length ≤ 1000 ∧ ∀ s ∈ x.f5, s.size ≤ 1000000
set_option maxRecDepth 100000 in
set_option maxHeartbeats 4000000 in
theorem proper_pre (x : S36) (A : Option Addr) (c : Nat) (hM : Mod x) (w : World) (hP : ¬ Pre x) :
    Calls Tryz.prog 44 #[.agg (hcells x A c)] w fun e w' => e = .returned (.bool false) ∧ Below w.heap.size w w' := by
  have hmm := @run_makeMap Tryz.prog
  obtain ⟨m0, m1, m2, m3, m4, m5, m6⟩ := hM
  have R := Bx.new w 36 (hcells x A c)
  have hw := below_alloc (Below.refl w.heap.size w) (.cells (hcells x A c) 36)
  have HP := hid hP
  clear hP
  go_enter Tryz.func44, Tryz.ntmps44
  go_wp2_with (first | (go_at_call 39; refine (isName_calls _ (by assumption) _).mono ?_; rintro e w1 ⟨rfl, hb1⟩; have R := Bx.below R hb1; have hw := bseq hw hb1; have cK := Bx.cell R; have lK := Bx.lt R; clear hb1) | (go_at_call 72; refine (optional_calls _ (by assumption) _).mono ?_; rintro e w1 ⟨rfl, hb1⟩; have R := Bx.below R hb1; have hw := bseq hw hb1; have cK := Bx.cell R; have lK := Bx.lt R; clear hb1))
  all_goals first
    | (go_ret; exact ⟨rfl, hw⟩)
    | (exfalso; exact HP.out ⟨by assumption, by assumption, by assumption, by assumption, by assumption, by omega, .inl (toList_nil.1 (by assumption))⟩)
    | (exfalso; exact HP.out ⟨by assumption, by assumption, by assumption, by assumption, by assumption, by omega, .inr (by first | omega | (simp_all; done) | (simp_all; omega))⟩)
end Go.Proofs.YthbcabnljcpaiaaGreatDoor.H
