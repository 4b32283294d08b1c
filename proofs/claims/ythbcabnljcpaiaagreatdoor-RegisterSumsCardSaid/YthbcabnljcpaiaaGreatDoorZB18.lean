/- A part of the proof that the register's laws hold; no condition of its own. -/
import Derived.Shelf.SlIter.Nil
import Derived.Shelf.SortM.Plain
import Derived.Shelf.SortM.SortNone
import Derived.Ground.GgzProg
import Derived.Ground.SlgmProg
import Derived.Test.YthbcabnljcpaiaaGreatDoorZB11
import Derived.Test.YthbcabnljcpaiaaGreatDoorZB17
import Derived.Laws.EntriesVeiled
set_option linter.all false
namespace Go.Proofs
open Go.RowKit Go.Maps Go.Sort Go.Shelf
theorem Tryz.sorts90 (m : Nat) : AnyZ.SortsIn Tryz.prog Tryz.sorted90_ren Fence.wide m :=
  ⟨fun blk off cap ss W hH hblk hsz => callsIn_wide.2 (AnyM.slices_Sort_string Tryz.sort119 blk off cap ss W hH hblk hsz),
   fun p cap W => callsIn_wide.2 (AnyM.slices_Sort_string_none Tryz.sort119 p cap W)⟩
theorem Tryz.maps_Keys_91 (mb : Option Nat) (W : World) : CallsIn Fence.wide 5 Tryz.prog 91 #[.map mb] W fun e w' => e = .returned (.func (.func 120) #[] #[.pointer (some ⟨W.heap.size, 0, none⟩)]) ∧ w' = W.alloc (.cells #[.map mb] 80) :=
  AnyZ.keys_in Tryz.keys91 Fence.wide 5 trivial rfl mb W
set_option maxHeartbeats 1000000 in
theorem Tryz.slices_Sorted_keys_90_91 {H : Type} (b nn : Nat) (D0 : DataW H) (R : Value → Option (DataW H × List MemPlace)) (w : World) (hown : w.ownsMap Tryz.prog 9 R b nn D0) (hmax : Maps.size D0 ≤ maxLen) (hbytes : Maps.size D0 * 16 ≤ 140737488355328) :
    CallsIn Fence.wide 5 Tryz.prog 90 #[.func (.func 120) #[] #[.pointer (some ⟨w.heap.size, 0, none⟩)]] (w.alloc (.cells #[.map (some b)] 80)) fun e w' => ∃ (v : Value) (ss : List (List UInt8)), e = .returned v ∧ ss.Perm (strKeys D0) ∧
      w'.ownsRow (w.alloc (.cells #[.map (some b)] 80)).heap.size 9 1 v ss.length ((ss.mergeSort (fun x y => decide (x ≤ y))).map encStr) ∧ (v = .slice none 0 0 ↔ ss = []) ∧ Below (w.alloc (.cells #[.map (some b)] 80)).heap.size (w.alloc (.cells #[.map (some b)] 80)) w' := by
  have hbl := hown.lt
  have hseq : SeqGives Fence.wide 2 Tryz.prog 120 #[.pointer (some ⟨w.heap.size, 0, none⟩)] encStr (fun ss => ss.Perm (strKeys D0)) (Maps.size D0) (w.alloc (.cells #[.map (some b)] 80)) :=
    AnyZ.keys_gives (ρ := Tryz.keys91_ren) { Tryz.keys91 with } Fence.wide _ trivial rfl (by omega) w.heap.size b nn D0 _ (by simp) (by simp) (by
      obtain ⟨es, clock, hb, Ft, hs, hD⟩ := hown
      exact ⟨es, clock, (Below.heap_alloc _ _ b hbl).trans hb, Ft, hs, hD⟩)
  exact AnyZ.sorted_in Tryz.sorted90 Fence.wide 5 trivial trivial trivial trivial rfl (by omega) (Tryz.sorts90 _) (enters_of Tryz.func119 (by kernel_rfl) rfl) 120 #[.pointer (some ⟨w.heap.size, 0, none⟩)] trivial (enters_of Tryz.func120 (by kernel_rfl) rfl) _ _ hmax hbytes _ hseq
end Go.Proofs
namespace Go.Proofs.YthbcabnljcpaiaaGreatDoor.H
open Go.RowKit Go.Shelf Go.Lib Go.WideMaps Go.Maps Go.WideElems Go.MapKept Go.Sort Go.Proofs.YthbcabnljcpaiaaGreatDoorW.PrintWords Go.Proofs.YthbcabnljcpaiaaGreatDoor.Q
set_option linter.unusedVariables false
def SV (W : World) (v : Value) (xs : List ByteArray) : Prop := ∃ A c, v = .slice A xs.length c ∧ xs.length ≤ c ∧ Kd.C Kd.string W A xs.length xs
theorem SV.below {W W' : World} {v : Value} {xs : List ByteArray} (h : SV W v xs) (hb : Below W.heap.size W W') : SV W' v xs := by
  obtain ⟨A, c, e, hl, hC⟩ := h
  exact ⟨A, c, e, hl, Kd.C_below hC hb⟩
theorem SV.of_own {W : World} {base : Nat} {v : Value} {xs : List ByteArray} (h : W.ownsRow base 9 1 v xs.length (xs.map Value.string)) : SV W v xs := by
  obtain ⟨A, c, e, hl, hR⟩ := own_reads_of_le (enc := Value.string) (d := ByteArray.empty) h
  exact ⟨A, c, e, hl, Kd.C_of_reads (h1 := fun _ => rfl) hR⟩
theorem info9s : (Tryz.prog.info? 9).map (fun i => (i.zero, i.size, i.bytes)) = some (some (.string ⟨#[]⟩), 1, 16) := by kernel_rfl
theorem appS_run {W : World} {base : Nat} {ty : TypeId} (v : Value) (xs ys : List ByteArray) (u : Value) (hown : W.ownsRow base 9 1 v xs.length (xs.map Value.string)) (hu : SV W u ys) (hbase : base ≤ W.heap.size) (hl : (xs.length + ys.length) * 16 ≤ 140737488355328) :
    ∃ v1 w1, (Builtin.append_ #[22, 22] ty #[v, u]).run Tryz.prog W = .ok v1 w1 ∧ w1.ownsRow base 9 1 v1 (xs ++ ys).length ((xs ++ ys).map Value.string) ∧ W.grownBy w1 v.ownBlock := by
  obtain ⟨i0, hi, hzz⟩ := Option.map_eq_some_iff.1 info9s
  simp only [Prod.mk.injEq] at hzz
  obtain ⟨hz0, hz1, hz2⟩ := hzz
  obtain ⟨A, c, rfl, hlc, hC⟩ := hu
  have hr := Kd.reads_of_C (enc := Value.string) (d := ByteArray.empty) (h1 := fun _ => rfl) hC
  rcases A with _ | ad
  · have h0 : ys = [] := by
      rcases Nat.eq_zero_or_pos ys.length with h0 | h0
      · exact List.eq_nil_of_length_eq_zero h0
      · obtain ⟨ad, h, _⟩ := hr.2.2 h0
        cases h
    subst h0
    refine ⟨v, W, ?_, by rw [List.append_nil]; exact hown, World.grownBy.refl W _⟩
    rcases hown.2 with ⟨rfl, hn⟩ | ⟨g, cap, cur, rfl, _, _, hnc, _⟩
    · simp [Builtin.append_, run_underlying Tryz.underlying22, sizeOf, typeInfo, hi, Builtin.lenOf, Builtin.firstCells]
    · simp [Builtin.append_, run_underlying Tryz.underlying22, sizeOf, typeInfo, hi, Builtin.lenOf, Builtin.firstCells, hnc, storeCells]
  · have hcells : ∀ j u, (ys.map Value.string)[j]? = some u → W.cell? (ad.add j) = some u := by
      intro j u hu
      have hj : j < ys.length := by
        rcases Nat.lt_or_ge j ys.length with h | h
        · exact h
        · simp [List.getElem?_eq_none h] at hu
      obtain ⟨ad', h', hc⟩ := hr.2.2 (by omega)
      obtain rfl : ad = ad' := Option.some.inj h'
      have := encs_get (enc := Value.string) (d := ByteArray.empty) ys j hj
      rw [show encs Value.string ys = ys.map Value.string from rfl, hu] at this
      rw [this]
      exact hc j (by omega)
    have hmx : xs.length + ys.length ≤ maxLen := by have : maxLen = 9223372036854775807 := rfl; omega
    obtain ⟨v1, w1, hrun, h2, h3, _, h5⟩ := run_append_own_at (P := Tryz.prog) W base 22 ty 9 i0 (.string ⟨#[]⟩) 1 16 Tryz.underlying22 hi hz0 hz1 hz2 rfl (by omega) v xs.length (xs.map Value.string) hown ad ys.length c (ys.map Value.string) (by simp) hcells
      (by intro u hu; obtain ⟨q, _, rfl⟩ := List.mem_map.1 hu; rfl) hmx hl hbase
    refine ⟨v1, w1, hrun, ?_, h3⟩
    have e1 : (xs ++ ys).length = xs.length + ys.length := List.length_append
    rw [List.map_append, e1]
    exact h2
def keyBytes' : Value → List UInt8
  | .string s => s.data.toList
  | _ => []
set_option maxRecDepth 100000 in
theorem MapS.owns {w : World} {b : Nat} {m : List (ByteArray × Bool)} (h : MapS w b m) (hm : m.length ≤ 1000000) (hs : ∀ p ∈ m, p.1.size ≤ 1000000) :
    ∃ D : DataW Unit, w.ownsMap Tryz.prog 9 (plainElem Tryz.prog 4) b m.length D ∧ (strKeys D).Perm (m.map fun p => p.1.data.toList) ∧ Maps.size D = m.length := by
  obtain ⟨arr, cl, hb, hst, he, hk⟩ := h
  have hlen : arr.size = m.length := by have := congrArg List.length he; simpa using this
  have hrd : ∀ x ∈ arr.toList, ∃ d, rd Tryz.prog 9 (plainElem (H := Unit) Tryz.prog 4) x = some (.string (keyBytes' x.key), d) := fun x hx => by
    obtain ⟨p, hp, e1, e2⟩ := MapA.entry he hx
    obtain ⟨k, v, bo⟩ := x
    simp only at e1 e2
    subst e1 e2
    exact ⟨_, rd_mk (keyOf_string_mk Tryz.underlying9 (by have := hs p hp; unfold maxLen; omega)) (plainElem_bool Tryz.underlying4 p.2)⟩
  refine ⟨_, ⟨arr, cl, hb, ⟨by rw [hlen]; unfold maxLen; omega, hst, fun x hx => by obtain ⟨d, h⟩ := hrd x hx; exact ⟨_, h⟩⟩, by omega, rfl⟩, ?_, ?_⟩
  · unfold strKeys
    refine ((WideShapes.sorted_perm _).map _).trans ?_
    rw [List.map_map]
    have e : arr.toList.map ((fun p : Lit × DataW Unit => strOf p.1) ∘ rg Tryz.prog 9 (plainElem (H := Unit) Tryz.prog 4)) = (arr.toList.map fun e => (e.key, e.val)).map (fun q => keyBytes' q.1) := by
      rw [List.map_map]
      refine List.map_congr_left fun x hx => ?_
      obtain ⟨d, h⟩ := hrd x hx
      simp only [Function.comp, rg_of h]
      rfl
    rw [e, he, List.map_map]
    exact List.Perm.refl _
  · simp [Maps.size, hlen, length_sorted]
def sortB (l : List (List UInt8)) : List ByteArray := (l.mergeSort (fun x y => decide (x ≤ y))).map fun b => ⟨b.toArray⟩
set_option maxRecDepth 100000 in
set_option maxHeartbeats 4000000 in
theorem sorted_calls (b : Nat) (m : List (ByteArray × Bool)) (w : World) (h : MapS w b m) (hm : m.length ≤ 1000000) (hs : ∀ p ∈ m, p.1.size ≤ 1000000) :
    Calls Tryz.prog 61 #[.map (some b)] w fun e w' => ∃ v, e = .returned v ∧ SV w' v (sortB (m.map fun p => p.1.data.toList)) ∧ Below w.heap.size w w' := by
  obtain ⟨D, hown, hperm, hsize⟩ := h.owns hm hs
  have hS := Tryz.slices_Sorted_keys_90_91 b m.length D (plainElem Tryz.prog 4) w hown (by rw [hsize]; unfold maxLen; omega) (by rw [hsize]; omega)
  have HS := hid hS
  have HP := hid hperm
  clear hS hperm hown hsize
  refine (callsIn_wide (n := 6)).1 ?_
  have hfK : Fence.wide.fn 91 := trivial
  have hfS : Fence.wide.fn 90 := trivial
  refine callsIn_of_wp Tryz.func61 rfl trivial ?_ rfl
  simp only [Tryz.ntmps61, List.size_toArray, List.length_cons, List.length_nil, Nat.reduceAdd, Nat.reduceSub, Array.replicate_succ, Array.replicate_zero, List.push_toArray, List.append_toArray, List.nil_append, List.cons_append]
  gi_wp2_with (first | (gi_at_call 91; refine (Tryz.maps_Keys_91 _ _).mono ?_; rintro e w' ⟨rfl, rfl⟩) | (gi_at_call 90; refine HS.out.mono ?_; rintro e w' ⟨v, ss, rfl, hss, hrow, hnil, hb⟩))
  go_ret
  refine ⟨_, rfl, ?_, (below_alloc (Below.refl _ _) _).trans (hb.mono (by simp))⟩
  have e1 : sortB (m.map fun p => p.1.data.toList) = (ss.mergeSort (fun x y => decide (x ≤ y))).map fun b => ⟨b.toArray⟩ := by
    unfold sortB
    rw [mergeSort_of_perm (hss.trans HP.out)]
  rw [e1]
  refine SV.of_own (base := (w.alloc (.cells #[.map (some b)] 80)).heap.size) ?_
  rw [List.map_map, List.length_map, List.length_mergeSort]
  exact hrow
end Go.Proofs.YthbcabnljcpaiaaGreatDoor.H
namespace Go.Proofs.YthbcabnljcpaiaaGreatDoor.H
open Go.RowKit Go.Shelf Go.Lib Go.WideMaps Go.Sort Go.Proofs.YthbcabnljcpaiaaGreatDoorW.PrintWords Go.Proofs.YthbcabnljcpaiaaGreatDoor.Q
set_option linter.unusedVariables false
abbrev HC (w : World) (A : Option Addr) (l : List S36) : Prop := Kd.C k36 w A l.length l
def ModL (l : List S36) : Prop := l.length ≤ 500 ∧ ∀ x ∈ l, Mod x
def namesOf (x : S36) : List ByteArray := x.f1 :: x.f2 :: (x.f3 :: x.f4 :: x.f5).filter fun s => s.size ≠ 0
def KeysAre (m : List (ByteArray × Bool)) (l : List ByteArray) : Prop := ∀ s, (∃ p ∈ m, p.1 = s) ↔ s ∈ l
theorem KeysAre.put {m : List (ByteArray × Bool)} {l l' : List ByteArray} (h : KeysAre m l) (s : ByteArray) (hl : ∀ t, t ∈ l' ↔ (t = s ∨ t ∈ l)) : KeysAre (asPut m s true) l' := fun t => by
  rw [asPut_keys, h t, hl]
theorem wpList_append_eq {P : Program} {w : World} {ops : Array Oper} {rest : List Oper} {o : Oper} {a : Act} {Q : Exit → Act → World → Prop} (hg : o.guard = none) (s x : Operand) (t : TypeId)
    (hop : o.op = Op.call { callee := Callee.builtin Builtin.append, args := #[s, x], argTypes := #[t, t] }) (v u v1 : Value) (w1 : World) (hs : a.eval s = v) (hx : a.eval x = u) (hrun : (Builtin.append_ #[t, t] o.type #[v, u]).run P w = .ok v1 w1)
    (hK : wpList P ops Q rest (a.put o.dst v1) w1) : wpList P ops Q (o :: rest) a w := by
  refine wpList_plain hg fun K' hK' => ?_
  unfold Oper.wp execOp
  simp only [hop, resolve, invoke, builtin, Sem.run_bind, Sem.run_pure, Result.andThen_ok, List.map_toArray, List.map_cons, List.map_nil, hs, hx, hrun]
  exact hK' _ _ hK
theorem cellB {w W : World} {a : Addr} {v : Value} (hB : Below w.heap.size w W) (h : w.cell? a = some v) : W.cell? a = some v := (hB.cell (World.block_lt_of_cell? _ _ h)).trans h
theorem at36 {w W : World} {A : Option Addr} {l : List S36} (h : HC w A l) (hB : Below w.heap.size w W) (k : Nat) (hk : k < l.length) : ∃ ad A5 c5, A = some ad ∧ W.cell? (ad.add (k * 10)) = some (.string (rd_T36 l k).f0) ∧ W.cell? ⟨(ad.add (k * 10)).block, (ad.add (k * 10)).off + 1, none⟩ = some (.string (rd_T36 l k).f1) ∧ W.cell? ⟨(ad.add (k * 10)).block, (ad.add (k * 10)).off + 2, none⟩ = some (.string (rd_T36 l k).f2) ∧ W.cell? ⟨(ad.add (k * 10)).block, (ad.add (k * 10)).off + 3, none⟩ = some (.string (rd_T36 l k).f3) ∧ W.cell? ⟨(ad.add (k * 10)).block, (ad.add (k * 10)).off + 4, none⟩ = some (.string (rd_T36 l k).f4) ∧ W.cell? ⟨(ad.add (k * 10)).block, (ad.add (k * 10)).off + 5, none⟩ = some (.slice A5 (rd_T36 l k).f5.length c5) ∧ W.cell? ⟨(ad.add (k * 10)).block, (ad.add (k * 10)).off + 6, none⟩ = some (.int .i64 (rd_T36 l k).f6) ∧ W.cell? ⟨(ad.add (k * 10)).block, (ad.add (k * 10)).off + 7, none⟩ = some (.int .i64 (rd_T36 l k).f7) ∧ W.cell? ⟨(ad.add (k * 10)).block, (ad.add (k * 10)).off + 8, none⟩ = some (.int .i64 (rd_T36 l k).f8) ∧ W.cell? ⟨(ad.add (k * 10)).block, (ad.add (k * 10)).off + 9, none⟩ = some (.int .i64 (rd_T36 l k).f9) ∧ (rd_T36 l k).f5.length ≤ c5 ∧ Kd.string.C w A5 (rd_T36 l k).f5.length (rd_T36 l k).f5 := by
  obtain ⟨ad, A5, c5, e, a0, a1, a2, a3, a4, a5, a6, a7, a8, a9, j5, J5⟩ := at_T36 h (k : Int) (by omega) (by omega)
  simp only [Int.toNat_natCast] at a0 a1 a2 a3 a4 a5 a6 a7 a8 a9
  exact ⟨ad, A5, c5, e, cellB hB a0, cellB hB a1, cellB hB a2, cellB hB a3, cellB hB a4, cellB hB a5, cellB hB a6, cellB hB a7, cellB hB a8, cellB hB a9, j5, J5⟩
def ddup : List (List UInt8) → List (List UInt8)
  | [] => []
  | a :: l => if a ∈ ddup l then ddup l else a :: ddup l
theorem mem_ddup {l : List (List UInt8)} {b : List UInt8} : b ∈ ddup l ↔ b ∈ l := by
  induction l with
  | nil => rfl
  | cons a l ih =>
    unfold ddup
    split
    · rename_i h
      rw [ih, List.mem_cons]
      exact ⟨.inr, fun e => e.elim (fun e => ih.1 (e ▸ h)) id⟩
    · rw [List.mem_cons, List.mem_cons, ih]
theorem nodup_ddup (l : List (List UInt8)) : (ddup l).Nodup := by
  induction l with
  | nil => exact List.nodup_nil
  | cons a l ih =>
    unfold ddup
    split
    · exact ih
    · rename_i h
      exact List.nodup_cons.2 ⟨h, ih⟩
def partiesOf (l : List S36) : List ByteArray := sortB (ddup ((l.flatMap namesOf).map (·.data.toList)))
theorem data_inj {a b : ByteArray} (h : a.data.toList = b.data.toList) : a = b := by cases a; cases b; simp at h; rw [h]
theorem namesOf_mod {x : S36} (h : Mod x) : ∀ s ∈ namesOf x, s.size ≤ 1000000 := by
  obtain ⟨m0, m1, m2, m3, m4, m5, m6⟩ := h
  intro s hs
  unfold namesOf at hs
  rcases List.mem_cons.1 hs with rfl | hs
  · exact m1
  rcases List.mem_cons.1 hs with rfl | hs
  · exact m2
  have hs := (List.mem_filter.1 hs).1
  rcases List.mem_cons.1 hs with rfl | hs
  · exact m3
  rcases List.mem_cons.1 hs with rfl | hs
  · exact m4
  exact m6 s hs
theorem names_length (l : List S36) (n : Nat) (h : ∀ x ∈ l, (namesOf x).length ≤ n) : (l.flatMap namesOf).length ≤ l.length * n := by
  induction l with
  | nil => simp
  | cons x l ih =>
    have h1 := h x List.mem_cons_self
    have h2 := ih fun y hy => h y (List.mem_cons_of_mem _ hy)
    rw [List.flatMap_cons, List.length_append, List.length_cons, Nat.succ_mul]
    omega
theorem flat_succ {l : List S36} {k : Nat} (h : k < l.length) : (l.take (k + 1)).flatMap namesOf = (l.take k).flatMap namesOf ++ namesOf (rd_T36 l (k : Int)) := by
  rw [List.take_succ_eq_append_getElem h, List.flatMap_append]
  simp [rd_T36, List.getD, h]
set_option maxRecDepth 100000 in
set_option maxHeartbeats 8000000 in
theorem parties_calls (l : List S36) (A : Option Addr) (c : Nat) (hM : ModL l) (w : World) (hC : HC w A l) (hc : l.length ≤ c) :
    Calls Tryz.prog 33 #[.slice A l.length c] w fun e w' => ∃ v, e = .returned v ∧ SV w' v (partiesOf l) ∧ Below w.heap.size w w' := by
  have hmm := @run_makeMap Tryz.prog
  have hl5 := hM.1
  go_enter Tryz.func33, Tryz.ntmps33
  go_wp2
  go_loopg [11] l.length (fun g v11 wr => ∃ k m, v11 = .int .i64 (k : Nat) ∧ g + k = l.length ∧ MapS wr w.heap.size m ∧ KeysAre m ((l.take k).flatMap namesOf) ∧ Below w.heap.size w wr)
  case atStart => exact ⟨0, [], rfl, by omega, MapA.made w, fun s => by simp, below_alloc (Below.refl _ _) _⟩
  case round =>
    obtain ⟨k, m, rfl, hgk, hMp, hK, hBw⟩ := hrel
    by_cases hk : k < l.length
    · obtain ⟨ad, A5, c5, rfl, a0, a1, a2, a3, a4, a5, a6, a7, a8, a9, j5, J5⟩ := at36 hC hBw k hk
      have hfl := flat_succ hk
      generalize hx : rd_T36 l (k : Int) = x at *
      go_wp2_with (fail)
      have mx := hM.2 x (by rw [← hx]; simp [rd_T36, List.getD, hk])
      have Hfl := hid hfl
      clear hfl
      obtain ⟨m0, m1, m2, m3, m4, m5, m6⟩ := mx
      have R1 := Bx.new wr 36 (hcells x A5 c5)
      have hM1 := hMp.below (below_alloc (Below.refl _ _) (.cells (hcells x A5 c5) 36))
      have hB1 := hBw.trans ((below_alloc (Below.refl wr.heap.size wr) (.cells (hcells x A5 c5) 36)).mono hBw.size)
      have hl1 : w.heap.size < wr.heap.size := hMp.lt
      generalize hW1 : wr.alloc (.cells (hcells x A5 c5) 36) = W1 at *
      have hM1d : MapS W1.drew w.heap.size m := hM1
      obtain ⟨w2, e2, hM2, hg2⟩ := MapS.put hM1d m1 true
      have R2 := Bx.grown (w := W1.drew) R1 hg2 (by simp; omega)
      obtain ⟨w3, e3, hM3, hg3⟩ := MapS.put hM2 m2 true
      have R3 := R2.grown hg3 (by simp; omega)
      have c1 := R1.cell
      have c2 := R2.cell
      have l1 := R1.lt
      have l2 := R2.lt
      clear hW1
      go_region_with (fail)
      all_goals clear c1 c2 l1 l2 e2 e3
      all_goals
        have c3 := R3.cell
        have l3 := R3.lt
        have HM3 := hid hM3
        have hs2 := hg2.size
        have hs3 := hg3.size
        have ho4 : (w3.alloc (.cells #[.string x.f3, .string x.f4] 9)).ownsRow w3.heap.size 9 1 (.slice (some ⟨w3.heap.size, 0, none⟩) 2 2) 2 ([x.f3, x.f4].map Value.string) := own_lit_of (enc := Value.string) w3 w3.heap.size 9 [x.f3, x.f4] (Nat.le_refl _) (by simp)
        have hB3 : Below w.heap.size w w3 := ((Below.grown (w := W1.drew) (show Below w.heap.size w W1.drew from hB1.drew) hg2 hB1.size (fun k e => by cases e; exact Nat.le_refl _))).grown hg3 (Nat.le_trans hB1.size hg2.size) (fun k e => by cases e; exact Nat.le_refl _)
        obtain ⟨v5, w5, e5, ho5, hg5⟩ := appS_run (ty := 22) (.slice (some ⟨w3.heap.size, 0, none⟩) 2 2) [x.f3, x.f4] x.f5 (.slice A5 x.f5.length c5) ho4 ⟨A5, c5, rfl, j5, Kd.C_below J5 (hB3.trans ((below_alloc (Below.refl w3.heap.size w3) _).mono hB3.size))⟩ (by simp) (by simp; omega)
        have E5 := hid e5
        clear e5
        obtain ⟨A6, n6, c6, rfl⟩ : ∃ A n c, v5 = .slice A n c := by
          rcases ho5.2 with ⟨h, _⟩ | ⟨g, cap, cur, h, _⟩
          · exact ⟨_, _, _, h⟩
          · exact ⟨_, _, _, h⟩
        go_wp2_with (first | (at_builtin; refine wpList_append_eq rfl _ _ 22 rfl _ _ _ _ rfl rfl E5.out ?_))
        have hn6 : n6 = ([x.f3, x.f4] ++ x.f5).length := by
          rcases ho5.2 with ⟨h, h0⟩ | ⟨g, cap, cur, h, _⟩
          · simp at h0
          · injection h
        have hB5 : Below w.heap.size w w5 := ((hB3.alloc hB3.size _)).grown hg5 (by simp; have := hB3.size; omega) (fun k e => by simp [Value.ownBlock] at e; have := hB3.size; omega)
        have hM5 : MapS w5 w.heap.size (asPut (asPut m x.f1 true) x.f2 true) := (HM3.out.below (below_alloc (Below.refl _ _) _)).grown hg5 (by simp [Value.ownBlock]; have := HM3.out.lt; omega)
        have hK5 : KeysAre (asPut (asPut m x.f1 true) x.f2 true) ((l.take k).flatMap namesOf ++ [x.f1, x.f2]) := (hK.put x.f1 (l' := (l.take k).flatMap namesOf ++ [x.f1]) (fun t => by simp; exact Or.comm)).put x.f2 (fun t => by simp [or_comm, or_assoc, or_left_comm])
        have Ho5 := hid ho5
        have hl3 := HM3.out.lt
        clear hK ho5 hg5 hg3 hg2 HM3 hM3 hM2 hM1d hM1 R1 R2 R3 c3 l3 ho4 E5 hMp hB3 a0 a1 a2 a3 a4 a5 a6 a7 a8 a9 J5 j5
        generalize hlt : [x.f3, x.f4] ++ x.f5 = lt at *
        have hltm : ∀ s ∈ lt, s.size ≤ 1000000 := by
          intro s hs
          rw [← hlt] at hs
          simp at hs
          rcases hs with rfl | rfl | h
          · exact m3
          · exact m4
          · exact m6 s h
        have hltl : lt.length ≤ 1002 := by rw [← hlt]; simp; omega
        subst hn6
        go_loopg [30] lt.length (fun gi v30 wi => ∃ j m', v30 = .int .i64 (j : Nat) ∧ gi + j = lt.length ∧ MapS wi w.heap.size m' ∧ KeysAre m' ((l.take k).flatMap namesOf ++ [x.f1, x.f2] ++ (lt.take j).filter fun s => s.size ≠ 0) ∧ wi.ownsRow w3.heap.size 9 1 (.slice A6 lt.length c6) lt.length (lt.map Value.string) ∧ Below w.heap.size w wi)
        case atStart => exact ⟨0, _, rfl, by omega, hM5, by simpa using hK5, Ho5.out, hB5⟩
        case round =>
          obtain ⟨j, m', rfl, hgj, hMi, hKi, hoi, hBi⟩ := hrel
          by_cases hj : j < lt.length
          · obtain ⟨A7, c7, e7, _, C7⟩ := SV.of_own hoi
            injection e7 with e71 e72 e73
            subst e71 e73
            obtain ⟨ad7, rfl, hcell⟩ := Kd.at_string C7 (j : Int) (by omega) (by omega)
            simp only [Int.toNat_natCast] at hcell
            have hmem : rdOf ByteArray.empty lt (j : Int) ∈ lt := by simp [rdOf, List.getD, hj]
            have htk : lt.take (j + 1) = lt.take j ++ [rdOf ByteArray.empty lt (j : Int)] := by
              rw [List.take_succ_eq_append_getElem hj]
              simp [rdOf, List.getD, hj]
            generalize hs : rdOf ByteArray.empty lt (j : Int) = s at *
            have hsz := hltm s hmem
            have Htk := hid htk
            have HKi := hid hKi
            clear htk hKi hs hmem
            by_cases h0 : s.size = 0
            · have hn : s.toList = ([] : List UInt8) := toList_nil.2 h0
              go_wp2_with (fail)
              go_roundg (lt.length - (j + 1))
              case rel =>
                refine ⟨j + 1, m', by go_num, by omega, hMi, ?_, hoi, hBi⟩
                have ef : ([s].filter fun s => decide (s.size ≠ 0)) = [] := List.filter_cons_of_neg (by rw [decide_eq_true_iff]; exact fun e => e h0)
                rw [Htk.out, List.filter_append, ef, List.append_nil]
                exact HKi.out
              case measure => omega
            · have hn : ¬ s.toList = ([] : List UInt8) := fun e => h0 (toList_nil.1 e)
              have hn' : (s.toList == ([] : List UInt8)) = false := by rw [beq_eq_false_iff_ne]; exact hn
              go_wp2_with (first | (refine wpList_putS rfl _ _ _ (.inl rfl) w.heap.size m' rfl s rfl true rfl hMi hsz ?_; intro w8 hm8 hg8))
              go_roundg (lt.length - (j + 1))
              case rel =>
                have hne8 : ∀ b, (Value.slice (some ad7) lt.length c6).ownBlock = some b → w3.heap.size ≤ b := fun b e => (hoi.lt b e).1
                refine ⟨j + 1, _, by go_num, by omega, hm8, ?_, hoi.kept hg8 (.inr fun e => by have := hne8 _ e; omega), hBi.grown hg8 hBi.size (fun k e => by cases e; exact Nat.le_refl _)⟩
                have ef : ([s].filter fun s => decide (s.size ≠ 0)) = [s] := List.filter_cons_of_pos (by rw [decide_eq_true_iff]; exact h0)
                rw [Htk.out, List.filter_append, ef]
                refine HKi.out.put s fun t => ?_
                rw [← List.append_assoc, List.mem_append, List.mem_singleton]
                exact Or.comm
              case measure => omega
          · obtain rfl : j = lt.length := by omega
            rw [List.take_length] at hKi
            have HKi := hid hKi
            clear hKi
            go_wp2_with (fail)
            go_roundg (l.length - (k + 1))
            case rel =>
              refine ⟨k + 1, m', by go_num, by omega, hMi, ?_, hBi⟩
              rw [Hfl.out]
              have e : (l.take k).flatMap namesOf ++ namesOf x = (l.take k).flatMap namesOf ++ [x.f1, x.f2] ++ lt.filter fun s => s.size ≠ 0 := by
                rw [← hlt]; simp [namesOf]
              rw [e]
              exact HKi.out
            case measure => omega
    · obtain rfl : k = l.length := by omega
      rw [List.take_length] at hK
      have hap := MapA.apart str_inj hMp
      have hmem : ∀ p ∈ m, p.1 ∈ l.flatMap namesOf := fun p hp => (hK p.1).1 ⟨p, hp, rfl⟩
      have hsize : ∀ p ∈ m, p.1.size ≤ 1000000 := fun p hp => by
        obtain ⟨x, hx, hn⟩ := List.mem_flatMap.1 (hmem p hp)
        exact namesOf_mod (hM.2 x hx) _ hn
      have hlen : m.length ≤ 1000000 := by
        have h1 : (m.map (·.1)).Nodup := by rw [List.Nodup, List.pairwise_map]; exact hap
        have h2 := List.Nodup.length_le_of_subset h1 (fun s hs => by obtain ⟨p, hp, rfl⟩ := List.mem_map.1 hs; exact hmem p hp)
        rw [List.length_map] at h2
        have h3 := names_length l 1004 (fun x hx => by have := (hM.2 x hx).2.2.2.2.2.1; unfold namesOf; have := List.length_filter_le (fun s => decide (s.size ≠ 0)) (x.f3 :: x.f4 :: x.f5); simp at this ⊢; omega)
        have h4 : l.length * 1004 ≤ 500 * 1004 := Nat.mul_le_mul_right _ hl5
        omega
      have hperm : (m.map fun p => p.1.data.toList).Perm (ddup ((l.flatMap namesOf).map (·.data.toList))) := by
        refine (List.perm_ext_iff_of_nodup ?_ (nodup_ddup _)).2 fun b => ?_
        · rw [List.Nodup, List.pairwise_map]
          exact hap.imp fun {p q} h e => h (data_inj e)
        · rw [mem_ddup]
          constructor
          · intro hb
            obtain ⟨p, hp, rfl⟩ := List.mem_map.1 hb
            exact List.mem_map.2 ⟨_, hmem p hp, rfl⟩
          · intro hb
            obtain ⟨s, hs, rfl⟩ := List.mem_map.1 hb
            obtain ⟨p, hp, rfl⟩ := (hK s).2 hs
            exact List.mem_map.2 ⟨p, hp, rfl⟩
      have hso : sortB (m.map fun p => p.1.data.toList) = partiesOf l := by
        unfold partiesOf sortB
        rw [mergeSort_of_perm hperm]
      have hsc := sorted_calls w.heap.size m wr hMp hlen hsize
      rw [hso] at hsc
      have Hsc := hid hsc
      clear hK hsc hmem hsize hlen hperm hso hap
      go_wp2_with (first | (go_at_call 61; refine Hsc.out.mono ?_; rintro e w1 ⟨v, rfl, hv, hb⟩))
      go_ret
      exact ⟨_, rfl, hv, hBw.trans (hb.mono hBw.size)⟩
end Go.Proofs.YthbcabnljcpaiaaGreatDoor.H
namespace Go.Proofs.YthbcabnljcpaiaaGreatDoor.H
open Go.RowKit Go.Shelf Go.Lib Go.Proofs.YthbcabnljcpaiaaGreatDoorW.PrintWords Go.Proofs.YthbcabnljcpaiaaGreatDoor.Q
set_option linter.unusedVariables false
def IdxIs (p : S36 → Bool) (l : List S36) (r : Int) : Prop := (∃ k : Nat, k < l.length ∧ r = k ∧ p (rd_T36 l k) = true ∧ ∀ j : Nat, j < k → p (rd_T36 l j) = false) ∨ (r = -1 ∧ ∀ j : Nat, j < l.length → p (rd_T36 l j) = false)
set_option maxRecDepth 100000 in
set_option maxHeartbeats 4000000 in
theorem index_calls (l : List S36) (A : Option Addr) (c : Nat) (g : FuncId) (hen : ∀ args w, (callFunc g args).run Tryz.prog w = .ok (.enter g args) w) (lb : Array Value) (p : S36 → Bool) (w : World) (hC : HC w A l) (hc : l.length ≤ c)
    (hp : ∀ k : Nat, k < l.length → ∀ A5 c5, (rd_T36 l k).f5.length ≤ c5 → Kd.string.C w A5 (rd_T36 l k).f5.length (rd_T36 l k).f5 → ∀ W, Below w.heap.size w W → Calls Tryz.prog g (#[.agg (hcells (rd_T36 l k) A5 c5)] ++ lb) W fun e w' => e = .returned (.bool (p (rd_T36 l k))) ∧ Below W.heap.size W w') :
    Calls Tryz.prog 74 #[.slice A l.length c, .func (.func g) #[] lb] w fun e w' => ∃ r, e = .returned (.int .i64 r) ∧ IdxIs p l r ∧ Below w.heap.size w w' := by
  have hmx : l.length ≤ 9223372036854775807 := hC.2.1
  have HP := hid hp
  clear hp
  go_enter Tryz.func74, Tryz.ntmps74
  go_wp2
  go_loopg [8] l.length (fun gh v8 wr => ∃ k : Nat, v8 = .int .i64 k ∧ gh + k = l.length ∧ (∀ j : Nat, j < k → p (rd_T36 l j) = false) ∧ Below w.heap.size w wr)
  case atStart => exact ⟨0, rfl, by omega, fun j hj => by omega, Below.refl _ _⟩
  case round =>
    obtain ⟨k, rfl, hgk, hno, hB⟩ := hrel
    have Hno := hid hno
    clear hno
    by_cases hk : k < l.length
    · obtain ⟨ad, A5, c5, rfl, a0, a1, a2, a3, a4, a5, a6, a7, a8, a9, j5, J5⟩ := at36 hC hB k hk
      have hcl := HP.out k hk A5 c5 j5 J5 wr hB
      generalize hx : rd_T36 l (k : Int) = x at *
      cases hpx : p x with
      | true =>
        rw [hpx] at hcl
        have Hcl := hid hcl
        have Hpx := hid hpx
        clear hcl hpx
        go_wp2_with (fail)
        refine Hcl.out.mono ?_
        rintro e w1 ⟨rfl, hb⟩
        go_wp2
        go_ret
        exact ⟨k, rfl, .inl ⟨k, hk, rfl, by rw [hx]; exact Hpx.out, Hno.out⟩, hB.trans (hb.mono hB.size)⟩
      | false =>
        rw [hpx] at hcl
        have Hcl := hid hcl
        have Hpx := hid hpx
        clear hcl hpx
        go_wp2_with (fail)
        refine Hcl.out.mono ?_
        rintro e w1 ⟨rfl, hb⟩
        go_wp2
        go_roundg (l.length - (k + 1))
        case rel =>
          refine ⟨k + 1, by go_num, by omega, fun j hj => ?_, hB.trans (hb.mono hB.size)⟩
          rcases Nat.lt_or_ge j k with h | h
          · exact Hno.out j h
          · obtain rfl : j = k := by omega
            rw [hx]; exact Hpx.out
        case measure => omega
    · obtain rfl : k = l.length := by omega
      go_wp2_with (fail)
      go_ret
      exact ⟨-1, rfl, .inr ⟨rfl, Hno.out⟩, hB⟩
set_option maxRecDepth 100000 in
set_option maxHeartbeats 4000000 in
theorem findp_calls (x : S36) (A5 : Option Addr) (c5 : Nat) (b : Nat) (id : ByteArray) (W : World) (hb : Boxed W b 9 (.string id)) :
    Calls Tryz.prog 75 #[.agg (hcells x A5 c5), .pointer (some ⟨b, 0, none⟩)] W fun e w' => e = .returned (.bool (decide (x.f0 = id))) ∧ Below W.heap.size W w' := by
  have R := Bx.new W 36 (hcells x A5 c5)
  have hw := below_alloc (Below.refl W.heap.size W) (.cells (hcells x A5 c5) 36)
  have hb2 : Boxed _ b 9 (.string id) := blk_below hb hw
  have hbc := hb2.cell
  have hl := hb.lt
  have e : (x.f0.toList == id.toList) = decide (x.f0 = id) := by
    by_cases h : x.f0 = id
    · rw [decide_eq_true h, h]; exact beq_self_eq_true _
    · rw [decide_eq_false h, beq_eq_false_iff_ne]; exact fun e => h (data_inj (by rw [Lib.toList_data, Lib.toList_data] at e; exact e))
  have E := hid e
  clear e
  go_enter Tryz.func75, Tryz.ntmps75
  go_wp2_with (fail)
  go_ret
  exact ⟨congrArg (fun b => Ending.returned (.bool b)) E.out, hw⟩
def hasId (id : ByteArray) (x : S36) : Bool := decide (x.f0 = id)
set_option maxRecDepth 100000 in
set_option maxHeartbeats 4000000 in
theorem find_calls (l : List S36) (A : Option Addr) (c : Nat) (id : ByteArray) (w : World) (hC : HC w A l) (hc : l.length ≤ c) :
    Calls Tryz.prog 45 #[.slice A l.length c, .string id] w fun e w' => ∃ r, e = .returned (.int .i64 r) ∧ IdxIs (hasId id) l r ∧ Below w.heap.size w w' := by
  have hb := Boxed.new w 9 (.string id)
  have hw := below_alloc (Below.refl w.heap.size w) (.cells #[.string id] 9)
  have hI := index_calls l A c 75 (enters_of Tryz.func75 (by kernel_rfl) rfl) #[.pointer (some ⟨w.heap.size, 0, none⟩)] (hasId id) (w.alloc (.cells #[.string id] 9)) (Kd.C_below hC hw) hc
    (fun k hk A5 c5 _ _ W hW => findp_calls _ A5 c5 w.heap.size id W (blk_below hb hW))
  have HI := hid hI
  clear hI
  go_enter Tryz.func45, Tryz.ntmps45
  go_wp2_with (first | (go_at_call 74; refine HI.out.mono ?_; rintro e w1 ⟨r, rfl, hr, hb1⟩))
  go_ret
  exact ⟨r, rfl, hr, bseq hw hb1⟩
end Go.Proofs.YthbcabnljcpaiaaGreatDoor.H
namespace Go.Proofs.YthbcabnljcpaiaaGreatDoor.H
open Go.RowKit Go.Shelf Go.Lib Go.WideMaps Go.Proofs.YthbcabnljcpaiaaGreatDoorW.PrintWords Go.Proofs.YthbcabnljcpaiaaGreatDoor.Q
set_option linter.unusedVariables false
def capOn (l : List S36) (day : Int) (c : ByteArray) : Int := (l.map fun x => if Runs x day ∧ x.f1 = c then x.f6 else 0).sum
def votOn (l : List S36) (day : Int) (c : ByteArray) : Int := (l.map fun x => if Runs x day ∧ x.f1 = c then x.f7 else 0).sum
def Whole (l : List S36) (day : Int) : Prop := ∀ x ∈ l, capOn l day x.f1 ≤ 100 ∧ votOn l day x.f1 ≤ 100
instance (l : List S36) (day : Int) : Decidable (Whole l day) := by unfold Whole; infer_instance
def Pos (l : List S36) : Prop := ∀ x ∈ l, (0 ≤ x.f6 ∧ x.f6 ≤ 100) ∧ 0 ≤ x.f7 ∧ x.f7 ≤ 100
theorem sum_append_le {f : S36 → Int} {l m : List S36} (h : ∀ x ∈ m, 0 ≤ f x) : (l.map f).sum ≤ ((l ++ m).map f).sum := by
  rw [List.map_append, List.sum_append]
  have : 0 ≤ (m.map f).sum := by
    induction m with
    | nil => simp
    | cons a m ih =>
      have h1 := h a List.mem_cons_self
      have h2 := ih fun x hx => h x (List.mem_cons_of_mem _ hx)
      rw [List.map_cons, List.sum_cons]
      omega
  omega
theorem cap_le {l : List S36} (h : Pos l) (k : Nat) (day : Int) (c : ByteArray) : capOn (l.take k) day c ≤ capOn l day c := by
  have := sum_append_le (f := fun x => if Runs x day ∧ x.f1 = c then x.f6 else 0) (l := l.take k) (m := l.drop k) (fun x hx => by have := (h x (List.mem_of_mem_drop hx)).1.1; split <;> omega)
  rwa [List.take_append_drop] at this
theorem vot_le {l : List S36} (h : Pos l) (k : Nat) (day : Int) (c : ByteArray) : votOn (l.take k) day c ≤ votOn l day c := by
  have := sum_append_le (f := fun x => if Runs x day ∧ x.f1 = c then x.f7 else 0) (l := l.take k) (m := l.drop k) (fun x hx => by have := (h x (List.mem_of_mem_drop hx)).2.1; split <;> omega)
  rwa [List.take_append_drop] at this
theorem take_rd {l : List S36} {k : Nat} (h : k < l.length) : l.take (k + 1) = l.take k ++ [rd_T36 l (k : Int)] := by
  rw [List.take_succ_eq_append_getElem h]
  simp [rd_T36, List.getD, h]
theorem rd_mem {l : List S36} {k : Nat} (h : k < l.length) : rd_T36 l (k : Int) ∈ l := by simp [rd_T36, List.getD, h]
theorem cap_succ {l : List S36} {k : Nat} (h : k < l.length) (day : Int) (c : ByteArray) : capOn (l.take (k + 1)) day c = capOn (l.take k) day c + (if Runs (rd_T36 l k) day ∧ (rd_T36 l k).f1 = c then (rd_T36 l k).f6 else 0) := by
  unfold capOn
  rw [take_rd h, List.map_append, List.sum_append]
  simp
theorem vot_succ {l : List S36} {k : Nat} (h : k < l.length) (day : Int) (c : ByteArray) : votOn (l.take (k + 1)) day c = votOn (l.take k) day c + (if Runs (rd_T36 l k) day ∧ (rd_T36 l k).f1 = c then (rd_T36 l k).f7 else 0) := by
  unfold votOn
  rw [take_rd h, List.map_append, List.sum_append]
  simp
abbrev sumV (p : Int × Int) : Value := .agg #[.int .i64 p.1, .int .i64 p.2]
abbrev MapP (w : World) (b : Nat) (m : List (ByteArray × (Int × Int))) : Prop := MapA Tryz.prog 9 Value.string sumV w b m
theorem MapP.get {w : World} {b : Nat} {m : List (ByteArray × (Int × Int))} (h : MapP w b m) {s : ByteArray} (hs : s.size ≤ 1000000) : (Instr.lookup 101 (.map (some b)) (.string s) false).run Tryz.prog w = .ok (sumV (asGet m s (0, 0))) w :=
  MapA.get h str_inj (Maps.string_keyed Tryz.underlying9) Tryz.underlying101 (d := (0, 0)) (by kernel_rfl) (keyOf_string_mk Tryz.underlying9 (by unfold maxLen; omega))
theorem MapP.put {w : World} {b : Nat} {m : List (ByteArray × (Int × Int))} (h : MapP w b m) {s : ByteArray} (hs : s.size ≤ 1000000) (v : Int × Int) : ∃ w', (Instr.mapUpdate 101 (.map (some b)) (.string s) (sumV v)).run Tryz.prog w = .ok () w' ∧ MapP w' b (asPut m s v) ∧ w.grownBy w' (some b) :=
  MapA.put h str_inj (Maps.string_keyed Tryz.underlying9) Tryz.underlying101 v (keyOf_string_mk Tryz.underlying9 (by unfold maxLen; omega))
theorem wpList_putP {w : World} {ops : Array Oper} {rest : List Oper} {o : Oper} {a : Act} {Q : Exit → Act → World → Prop} (hg : o.guard = none) (m x v : Operand)
    (hop : o.op = Op.mapUpdate 101 m x v) (b : Nat) (M : List (ByteArray × (Int × Int))) (hm : a.eval m = .map (some b)) (s : ByteArray) (hx : a.eval x = .string s) (r : Int × Int) (hv : a.eval v = sumV r)
    (h : MapP w b M) (hs : s.size ≤ 1000000) (hK : ∀ w', MapP w' b (asPut M s r) → w.grownBy w' (some b) → wpList Tryz.prog ops Q rest (a.put o.dst undef) w') : wpList Tryz.prog ops Q (o :: rest) a w := by
  refine wpList_plain hg fun K' hK' => ?_
  obtain ⟨w', hrun, r1, r2⟩ := MapP.put h hs r
  unfold Oper.wp
  simp [execOp, hop, hm, hx, hv, hrun, Result.andThen]
  exact hK' _ _ (hK w' r1 r2)
set_option maxRecDepth 100000 in
set_option maxHeartbeats 8000000 in
theorem on_calls (l : List S36) (A : Option Addr) (c : Nat) (b : Nat) (day : Int) (hM : ModL l) (hP : Pos l) (w : World) (hC : HC w A l) (hc : l.length ≤ c) (W : World) (hW : Below w.heap.size w W) (hb : Boxed W b 26 (.slice A l.length c)) :
    Calls Tryz.prog 76 #[.int .i64 day, .pointer (some ⟨b, 0, none⟩)] W fun e w' => e = .returned (.bool (decide (Whole l day))) ∧ Below W.heap.size W w' := by
  have hmm := @run_makeMap Tryz.prog
  have hl5 := hM.1
  have hb0 : Boxed (W.alloc (.map #[] 0)) b 26 (.slice A l.length c) := blk_below hb (below_alloc (Below.refl _ _) _)
  have hbc := hb0.cell
  have hbl := hb.lt
  go_enter Tryz.func76, Tryz.ntmps76
  go_wp2
  go_loopg [11] l.length (fun g v11 wr => ∃ k m, v11 = .int .i64 (k : Nat) ∧ g + k = l.length ∧ MapP wr W.heap.size m ∧ (∀ s, asGet m s (0, 0) = (capOn (l.take k) day s, votOn (l.take k) day s)) ∧ (∀ s, capOn (l.take k) day s ≤ 100 ∧ votOn (l.take k) day s ≤ 100) ∧ (∀ s, 0 ≤ capOn (l.take k) day s ∧ 0 ≤ votOn (l.take k) day s) ∧ Below W.heap.size W wr)
  case atStart => exact ⟨0, [], rfl, by omega, MapA.made W, fun s => by simp [asGet, capOn, votOn], fun s => by simp [capOn, votOn], fun s => by simp [capOn, votOn], below_alloc (Below.refl _ _) _⟩
  case round =>
    obtain ⟨k, m, rfl, hgk, hMp, hS, hU, hZ, hBw⟩ := hrel
    by_cases hk : k < l.length
    · obtain ⟨ad, A5, c5, rfl, a0, a1, a2, a3, a4, a5, a6, a7, a8, a9, j5, J5⟩ := at36 hC (hW.trans (hBw.mono hW.size)) k hk
      have hcs := cap_succ hk day
      have hvs := vot_succ hk day
      have hmem := rd_mem hk
      generalize hx : rd_T36 l (k : Int) = x at *
      obtain ⟨m0, m1, m2, m3, m4, m5, m6⟩ := hM.2 x hmem
      have hpx := hP x hmem
      have R1 := Bx.new wr 36 (hcells x A5 c5)
      have hB1 := hBw.trans ((below_alloc (Below.refl wr.heap.size wr) (.cells (hcells x A5 c5) 36)).mono hBw.size)
      have J1 := fun W' (h : Below W.heap.size W W') => Kd.C_below J5 (hW.trans (h.mono hW.size))
      have hrun := runs_calls x A5 c5 day _ (J1 _ hB1) j5
      by_cases hr : Runs x day
      · rw [decide_eq_true hr] at hrun
        have Hrun := hid hrun
        have hcs0 := hS x.f1
        have hcu := hU x.f1
        have hcz := hZ x.f1
        have hcs1 := hcs x.f1
        have hvs1 := hvs x.f1
        rw [if_pos ⟨hr, rfl⟩] at hcs1 hvs1
        have hl : ∀ w2, Below wr.heap.size wr w2 → (Instr.lookup 101 (.map (some W.heap.size)) (.string x.f1) false).run Tryz.prog w2 = .ok (.agg #[.int .i64 (capOn (l.take k) day x.f1), .int .i64 (votOn (l.take k) day x.f1)]) w2 := fun w2 h2 => by
          have := MapP.get (w := w2) (hMp.below h2) m1
          rw [hcs0] at this
          exact this
        have Hl := hid hl
        have Hcs1 := hid hcs1
        have Hvs1 := hid hvs1
        generalize hcs2 : capOn (l.take k) day x.f1 = cs at *
        generalize hvs2 : votOn (l.take k) day x.f1 = vs at *
        have Hcs2 := hid hcs2.symm
        have Hvs2 := hid hvs2.symm
        clear hcs2 hvs2
        have hwc : IntKind.i64.wrap (cs + x.f6) = cs + x.f6 := IntWalk.i64_in _ (by omega)
        have hwv : IntKind.i64.wrap (vs + x.f7) = vs + x.f7 := IntWalk.i64_in _ (by omega)
        clear hcs0 hcs1 hvs1
        have HS := hid hS
        have HU := hid hU
        have HZ := hid hZ
        have Hcs := hid hcs
        have Hvs := hid hvs
        have Hx := hid hx
        clear hrun hl hS hU hZ hcs hvs hx
        have hpz : 0 ≤ cs + x.f6 ∧ 0 ≤ vs + x.f7 := by omega
        by_cases q : cs + x.f6 ≤ 100 ∧ vs + x.f7 ≤ 100
        · have d1 : decide (100 < cs + x.f6) = false := decide_eq_false (by omega)
          have d2 : decide (100 < vs + x.f7) = false := decide_eq_false (by omega)
          go_wp2_with (first | (go_at_call 37; refine Hrun.out.mono ?_; rintro e w1 ⟨rfl, hb1⟩; have R2 := R1.below hb1; have c2 := R2.cell; have l2 := R2.lt; have hb2 := (below_alloc (Below.refl wr.heap.size wr) (.cells (hcells x A5 c5) 36)).trans (hb1.mono (by simp)); have hl2 := Hl.out w1 hb2) | (refine wpList_putP rfl _ _ _ rfl W.heap.size m rfl x.f1 rfl (cs + x.f6, vs + x.f7) rfl (MapA.below (hMp.below hb2) (below_alloc (Below.refl _ _) _)) m1 ?_; intro w5 hm5 hg5))
          go_roundg (l.length - (k + 1))
          case rel =>
            have hB5 : Below W.heap.size W w5 := ((hBw.trans (hb2.mono hBw.size)).alloc (by have := hb2.size; have := hBw.size; omega) _).grown hg5 (by simp; have := hb2.size; have := hBw.size; omega) (fun k e => by cases e; exact Nat.le_refl _)
            refine ⟨k + 1, _, by go_num, by omega, hm5, fun s => ?_, fun s => ?_, fun s => ?_, hB5⟩
            · rw [asGet_put m (MapA.apart str_inj hMp), Hcs.out s, Hvs.out s]
              by_cases e : s = x.f1
              · subst e
                rw [if_pos rfl, if_pos ⟨hr, rfl⟩, if_pos ⟨hr, rfl⟩, ← Hcs2.out, ← Hvs2.out]
              · rw [if_neg e, if_neg (fun h => e h.2.symm), if_neg (fun h => e h.2.symm), HS.out s, Int.add_zero, Int.add_zero]
            · rw [Hcs.out s, Hvs.out s]
              by_cases e : s = x.f1
              · subst e
                rw [if_pos ⟨hr, rfl⟩, if_pos ⟨hr, rfl⟩, ← Hcs2.out, ← Hvs2.out]; exact q
              · rw [if_neg (fun h => e h.2.symm), if_neg (fun h => e h.2.symm), Int.add_zero, Int.add_zero]; exact HU.out s
            · rw [Hcs.out s, Hvs.out s]
              by_cases e : s = x.f1
              · subst e
                rw [if_pos ⟨hr, rfl⟩, if_pos ⟨hr, rfl⟩, ← Hcs2.out, ← Hvs2.out]; exact hpz
              · rw [if_neg (fun h => e h.2.symm), if_neg (fun h => e h.2.symm), Int.add_zero, Int.add_zero]; exact HZ.out s
          case measure => omega
        · have HNo : Hid (¬ Whole l day) := hid fun h => by
            have h1 := h x hmem
            have h2 := cap_le hP (k + 1) day x.f1
            have h3 := vot_le hP (k + 1) day x.f1
            rw [Hcs1.out] at h2
            rw [Hvs1.out] at h3
            omega
          by_cases q1 : cs + x.f6 ≤ 100
          · have d1 : decide (100 < cs + x.f6) = false := decide_eq_false (by omega)
            have d2 : decide (100 < vs + x.f7) = true := decide_eq_true (by omega)
            go_wp2_with (first | (go_at_call 37; refine Hrun.out.mono ?_; rintro e w1 ⟨rfl, hb1⟩; have R2 := R1.below hb1; have c2 := R2.cell; have l2 := R2.lt; have hb2 := (below_alloc (Below.refl wr.heap.size wr) (.cells (hcells x A5 c5) 36)).trans (hb1.mono (by simp)); have hl2 := Hl.out w1 hb2))
            go_ret
            exact ⟨by rw [decide_eq_false HNo.out]; rfl, (hBw.trans (hb2.mono hBw.size)).alloc (by have := hb2.size; have := hBw.size; omega) _⟩
          · have d1 : decide (100 < cs + x.f6) = true := decide_eq_true (by omega)
            go_wp2_with (first | (go_at_call 37; refine Hrun.out.mono ?_; rintro e w1 ⟨rfl, hb1⟩; have R2 := R1.below hb1; have c2 := R2.cell; have l2 := R2.lt; have hb2 := (below_alloc (Below.refl wr.heap.size wr) (.cells (hcells x A5 c5) 36)).trans (hb1.mono (by simp)); have hl2 := Hl.out w1 hb2))
            go_ret
            exact ⟨by rw [decide_eq_false HNo.out]; rfl, (hBw.trans (hb2.mono hBw.size)).alloc (by have := hb2.size; have := hBw.size; omega) _⟩
      · rw [decide_eq_false hr] at hrun
        have Hrun := hid hrun
        have HS := hid hS
        have HU := hid hU
        have HZ := hid hZ
        have Hcs := hid hcs
        have Hvs := hid hvs
        clear hrun hS hU hZ hcs hvs hx
        go_wp2_with (first | (go_at_call 37; refine Hrun.out.mono ?_; rintro e w1 ⟨rfl, hb1⟩; have hb2 := (below_alloc (Below.refl wr.heap.size wr) (.cells (hcells x A5 c5) 36)).trans (hb1.mono (by simp))))
        go_roundg (l.length - (k + 1))
        case rel =>
          have e1 : ∀ s, capOn (l.take (k + 1)) day s = capOn (l.take k) day s := fun s => by rw [Hcs.out s, if_neg (fun h => hr h.1), Int.add_zero]
          have e2 : ∀ s, votOn (l.take (k + 1)) day s = votOn (l.take k) day s := fun s => by rw [Hvs.out s, if_neg (fun h => hr h.1), Int.add_zero]
          exact ⟨k + 1, m, by go_num, by omega, hMp.below hb2, fun s => by rw [e1, e2]; exact HS.out s, fun s => by rw [e1, e2]; exact HU.out s, fun s => by rw [e1, e2]; exact HZ.out s, hBw.trans (hb2.mono hBw.size)⟩
        case measure => omega
    · obtain rfl : k = l.length := by omega
      rw [List.take_length] at hU
      have HY : Hid (Whole l day) := hid fun x hx => hU x.f1
      clear hS hU hZ
      go_wp2_with (fail)
      go_ret
      exact ⟨by rw [decide_eq_true HY.out]; rfl, hBw⟩
end Go.Proofs.YthbcabnljcpaiaaGreatDoor.H
namespace Go.Proofs.YthbcabnljcpaiaaGreatDoor.H
open Go.RowKit Go.Shelf Go.Lib Go.WideMaps Go.Proofs.YthbcabnljcpaiaaGreatDoorW.PrintWords Go.Proofs.YthbcabnljcpaiaaGreatDoor.Q
set_option linter.unusedVariables false
set_option maxRecDepth 100000 in
set_option maxHeartbeats 4000000 in
theorem bear2_calls (l : List S36) (A : Option Addr) (c : Nat) (b q : Nat) (hM : ModL l) (hP : Pos l) (w : World) (hC : HC w A l) (hc : l.length ≤ c) (x : S36) (A5 : Option Addr) (c5 : Nat) (W : World) (hW : Below w.heap.size w W)
    (hb : Boxed W b 26 (.slice A l.length c)) (hq : Boxed W q 56 (.func (.func 76) #[] #[.pointer (some ⟨b, 0, none⟩)])) :
    Calls Tryz.prog 78 #[.agg (hcells x A5 c5), .pointer (some ⟨q, 0, none⟩)] W fun e w' => e = .returned (.bool (!decide (Whole l x.f8))) ∧ Below W.heap.size W w' := by
  have R := Bx.new W 36 (hcells x A5 c5)
  have hw := below_alloc (Below.refl W.heap.size W) (.cells (hcells x A5 c5) 36)
  have hq2 : Boxed _ q 56 (.func (.func 76) #[] #[.pointer (some ⟨b, 0, none⟩)]) := blk_below hq hw
  have hqc := hq2.cell
  have hl := hq.lt
  have hon := on_calls l A c b x.f8 hM hP w hC hc _ (hW.trans (hw.mono hW.size)) (blk_below hb hw)
  have Hon := hid hon
  have hen := enters_of Tryz.func76 (by kernel_rfl) rfl
  clear hon
  generalize decide (Whole l x.f8) = r at *
  go_enter Tryz.func78, Tryz.ntmps78
  go_wp2_with (first | (go_at_call 76; refine Hon.out.mono ?_; rintro e w1 ⟨rfl, hb1⟩))
  go_ret
  exact ⟨rfl, bseq hw hb1⟩
set_option maxRecDepth 100000 in
set_option maxHeartbeats 4000000 in
theorem contains_calls (l : List S36) (A : Option Addr) (c : Nat) (g : FuncId) (hen : ∀ args w, (callFunc g args).run Tryz.prog w = .ok (.enter g args) w) (lb : Array Value) (p : S36 → Bool) (w : World) (hC : HC w A l) (hc : l.length ≤ c)
    (hp : ∀ k : Nat, k < l.length → ∀ A5 c5, (rd_T36 l k).f5.length ≤ c5 → Kd.string.C w A5 (rd_T36 l k).f5.length (rd_T36 l k).f5 → ∀ W, Below w.heap.size w W → Calls Tryz.prog g (#[.agg (hcells (rd_T36 l k) A5 c5)] ++ lb) W fun e w' => e = .returned (.bool (p (rd_T36 l k))) ∧ Below W.heap.size W w') :
    Calls Tryz.prog 77 #[.slice A l.length c, .func (.func g) #[] lb] w fun e w' => e = .returned (.bool (decide (∃ x ∈ l, p x = true))) ∧ Below w.heap.size w w' := by
  have hI := index_calls l A c g hen lb p w hC hc hp
  have HI := hid hI
  have hre : ∀ r, IdxIs p l r → decide (∃ x ∈ l, p x = true) = decide (0 ≤ r) := fun r hr => by
    apply decide_eq_decide.2
    rcases hr with ⟨k, hk, rfl, hp, _⟩ | ⟨rfl, hn⟩
    · exact ⟨fun _ => by omega, fun _ => ⟨_, rd_mem hk, hp⟩⟩
    · refine ⟨fun ⟨x, hx, hp⟩ => ?_, fun h => by omega⟩
      obtain ⟨j, hj, rfl⟩ := List.getElem_of_mem hx
      have := hn j hj
      simp [rd_T36, List.getD, hj] at this
      rw [this] at hp
      cases hp
  have Hre := hid hre
  clear hI hre hp
  go_enter Tryz.func77, Tryz.ntmps77
  go_wp2_with (first | (go_at_call 74; refine HI.out.mono ?_; rintro e w1 ⟨r, rfl, hr, hb1⟩))
  go_ret
  exact ⟨by rw [Hre.out r hr]; rfl, hb1⟩
def Bear (l : List S36) : Prop := ∀ x ∈ l, Whole l x.f8
instance (l : List S36) : Decidable (Bear l) := by unfold Bear; infer_instance
set_option maxRecDepth 100000 in
set_option maxHeartbeats 4000000 in
theorem bearable_calls (l : List S36) (A : Option Addr) (c : Nat) (hM : ModL l) (hP : Pos l) (w : World) (hC : HC w A l) (hc : l.length ≤ c) :
    Calls Tryz.prog 47 #[.slice A l.length c] w fun e w' => e = .returned (.bool (decide (Bear l))) ∧ Below w.heap.size w w' := by
  have b0 := Boxed.new w 26 (.slice A l.length c)
  have hw0 := below_alloc (Below.refl w.heap.size w) (.cells #[.slice A l.length c] 26)
  have q0 := Boxed.new (w.alloc (.cells #[.slice A l.length c] 26)) 56 (.func (.func 76) #[] #[.pointer (some ⟨w.heap.size, 0, none⟩)])
  have hw1 := hw0.trans ((below_alloc (Below.refl _ (w.alloc (.cells #[.slice A l.length c] 26))) (.cells #[.func (.func 76) #[] #[.pointer (some ⟨w.heap.size, 0, none⟩)]] 56)).mono hw0.size)
  have b1 : Boxed _ w.heap.size 26 (.slice A l.length c) := blk_below b0 (below_alloc (Below.refl _ (w.alloc (.cells #[.slice A l.length c] 26))) (.cells #[.func (.func 76) #[] #[.pointer (some ⟨w.heap.size, 0, none⟩)]] 56))
  simp only [World.size_alloc] at q0
  have hI := contains_calls l A c 78 (enters_of Tryz.func78 (by kernel_rfl) rfl) #[.pointer (some ⟨w.heap.size + 1, 0, none⟩)] (fun x => !decide (Whole l x.f8)) _ (Kd.C_below hC hw1) hc
    (fun k hk A5 c5 _ _ W hW => bear2_calls l A c w.heap.size (w.heap.size + 1) hM hP w hC hc _ A5 c5 W (hw1.trans (hW.mono hw1.size)) (blk_below b1 hW) (blk_below q0 hW))
  have hre : decide (∃ x ∈ l, (fun x => !decide (Whole l x.f8)) x = true) = !decide (Bear l) := by
    by_cases h : Bear l
    · rw [decide_eq_true h, decide_eq_false (fun ⟨x, hx, hp⟩ => by simp [h x hx] at hp)]; rfl
    · rw [decide_eq_false h]
      have : ∃ x ∈ l, (fun x => !decide (Whole l x.f8)) x = true := Classical.byContradiction fun hn => h fun x hx => Classical.byContradiction fun hw => hn ⟨x, hx, by simp [hw]⟩
      rw [decide_eq_true this]; rfl
  rw [hre] at hI
  generalize decide (Bear l) = r at *
  have HI := hid hI
  have hbc := b1.cell
  have hl := b1.lt
  clear hI hre
  cases r <;>
  · go_enter Tryz.func47, Tryz.ntmps47
    go_wp2_with (first | (go_at_call 77; refine HI.out.mono ?_; rintro e w1 ⟨rfl, hb1⟩))
    go_ret
    exact ⟨rfl, hw1.trans (hb1.mono hw1.size)⟩
end Go.Proofs.YthbcabnljcpaiaaGreatDoor.H
namespace Go.Proofs.YthbcabnljcpaiaaGreatDoor.H
open Go.RowKit Go.Shelf Go.Lib Go.WideMaps Go.Proofs.YthbcabnljcpaiaaGreatDoorW.PrintWords Go.Proofs.YthbcabnljcpaiaaGreatDoor.Q
set_option linter.unusedVariables false
def Ok1 (l : List S36) : Prop := (∀ x ∈ l, Proper x) ∧ (l.map (·.f0)).Nodup
def Ok2 (l : List S36) : Prop := l.length ≤ 400 ∧ (partiesOf l).length ≤ 60 ∧ Bear l
def Valid (l : List S36) : Prop := Ok1 l ∧ Ok2 l
instance (l : List S36) : Decidable (Ok1 l) := by unfold Ok1; infer_instance
instance (l : List S36) : Decidable (Ok2 l) := by unfold Ok2; infer_instance
instance (l : List S36) : Decidable (Valid l) := by unfold Valid; infer_instance
theorem Ok1.pos {l : List S36} (h : Ok1 l) : Pos l := fun x hx => ⟨(h.1 x hx).2.2.1, (h.1 x hx).2.2.2.1⟩
set_option maxRecDepth 100000 in
set_option maxHeartbeats 8000000 in
theorem valid_calls17 (l : List S36) (A : Option Addr) (c : Nat) (hM : ModL l) (w : World) (hC : HC w A l) (hc : l.length ≤ c) :
    Calls Tryz.prog 22 #[.slice A l.length c] w fun e w' => e = .returned (.bool (decide (Valid l))) ∧ Below w.heap.size w w' := by
  have hmm := @run_makeMap Tryz.prog
  have hl5 := hM.1
  go_enter Tryz.func22, Tryz.ntmps22
  go_wp2
  go_loopg [9] l.length (fun g v9 wr => ∃ k m, v9 = .int .i64 (k : Nat) ∧ g + k = l.length ∧ MapS wr w.heap.size m ∧ Seen m ((l.take k).map (·.f0)) ∧ (∀ x ∈ l.take k, Proper x) ∧ ((l.take k).map (·.f0)).Nodup ∧ Below w.heap.size w wr)
  case atStart => exact ⟨0, [], rfl, by omega, MapA.made w, Seen.nil, by simp, by simp, below_alloc (Below.refl _ _) _⟩
  case round =>
    obtain ⟨k, m, rfl, hgk, hMp, hS, hI, hN, hBw⟩ := hrel
    by_cases hk : k < l.length
    · obtain ⟨ad, A5, c5, rfl, a0, a1, a2, a3, a4, a5, a6, a7, a8, a9, j5, J5⟩ := at36 hC hBw k hk
      have htk := take_rd hk
      have hmem := rd_mem hk
      generalize hx : rd_T36 l (k : Int) = x at *
      have mx := hM.2 x hmem
      have m0 := mx.1
      have hap := MapA.apart str_inj hMp
      have R1 := Bx.new wr 36 (hcells x A5 c5)
      have hB1 := hBw.trans ((below_alloc (Below.refl wr.heap.size wr) (.cells (hcells x A5 c5) 36)).mono hBw.size)
      have hpr := proper_calls x A5 c5 mx _ (Kd.C_below J5 hB1) j5
      have hseen := hS x.f0
      have Htk := hid htk
      have HS := hid hS
      have HI := hid hI
      have HN := hid hN
      have Hx := hid hx
      by_cases hp : Proper x
      · rw [decide_eq_true hp] at hpr
        have Hpr := hid hpr
        by_cases hin : x.f0 ∈ (l.take k).map (·.f0)
        · rw [decide_eq_true hin] at hseen
          have hl : ∀ w2, Below wr.heap.size wr w2 → (Instr.lookup 80 (.map (some w.heap.size)) (.string x.f0) false).run Tryz.prog w2 = .ok (.bool true) w2 := fun w2 h2 => by
            have := MapS.get (w := w2) (hMp.below h2) m0
            rw [hseen] at this
            exact this
          have Hl := hid hl
          have HNo : Hid (¬ Valid l) := hid fun h => by
            have h2 : ((l.take (k + 1)).map (·.f0)).Nodup := h.1.2.sublist ((List.take_sublist _ _).map _)
            rw [htk, List.map_append] at h2
            exact (List.nodup_append.1 h2).2.2 x.f0 hin x.f0 (by simp) rfl
          clear hpr hl hseen htk hS hI hN hx hin
          go_wp2_with (first | (go_at_call 44; refine Hpr.out.mono ?_; rintro e w1 ⟨rfl, hb1⟩; have R2 := R1.below hb1; have c2 := R2.cell; have l2 := R2.lt; have hb2 := (below_alloc (Below.refl wr.heap.size wr) (.cells (hcells x A5 c5) 36)).trans (hb1.mono (by simp)); have hl2 := Hl.out w1 hb2))
          go_ret
          exact ⟨by rw [decide_eq_false HNo.out]; rfl, hBw.trans (hb2.mono hBw.size)⟩
        · rw [decide_eq_false hin] at hseen
          have hl : ∀ w2, Below wr.heap.size wr w2 → (Instr.lookup 80 (.map (some w.heap.size)) (.string x.f0) false).run Tryz.prog w2 = .ok (.bool false) w2 := fun w2 h2 => by
            have := MapS.get (w := w2) (hMp.below h2) m0
            rw [hseen] at this
            exact this
          have Hl := hid hl
          have Hin := hid hin
          clear hpr hl hseen htk hS hI hN hx hin
          go_wp2_with (first | (go_at_call 44; refine Hpr.out.mono ?_; rintro e w1 ⟨rfl, hb1⟩; have R2 := R1.below hb1; have c2 := R2.cell; have l2 := R2.lt; have hb2 := (below_alloc (Below.refl wr.heap.size wr) (.cells (hcells x A5 c5) 36)).trans (hb1.mono (by simp)); have hl2 := Hl.out w1 hb2) | (refine wpList_putS rfl _ _ _ (.inl rfl) w.heap.size m rfl x.f0 rfl true rfl (hMp.below hb2) m0 ?_; intro w4 hm4 hg4))
          go_roundg (l.length - (k + 1))
          case rel =>
            refine ⟨k + 1, _, by go_num, by omega, hm4, ?_, ?_, ?_, (hBw.trans (hb2.mono hBw.size)).grown hg4 (by have := hb2.size; have := hBw.size; omega) (fun k e => by cases e; exact Nat.le_refl _)⟩
            · rw [Htk.out, List.map_append]
              exact HS.out.put hap x.f0
            · rw [Htk.out]
              intro t ht
              rcases List.mem_append.1 ht with h | h
              · exact HI.out t h
              · rw [List.mem_singleton.1 h]; exact hp
            · rw [Htk.out, List.map_append]
              refine List.nodup_append.2 ⟨HN.out, by simp, fun a ha b hb e => ?_⟩
              obtain ⟨y, hy, rfl⟩ := List.mem_map.1 hb
              rw [List.mem_singleton.1 hy] at e
              exact Hin.out (e ▸ ha)
          case measure => omega
      · rw [decide_eq_false hp] at hpr
        have Hpr := hid hpr
        have HNo : Hid (¬ Valid l) := hid fun h => hp (h.1.1 x hmem)
        clear hpr hseen htk hS hI hN hx
        go_wp2_with (first | (go_at_call 44; refine Hpr.out.mono ?_; rintro e w1 ⟨rfl, hb1⟩; have hb2 := (below_alloc (Below.refl wr.heap.size wr) (.cells (hcells x A5 c5) 36)).trans (hb1.mono (by simp))))
        go_ret
        exact ⟨by rw [decide_eq_false HNo.out]; rfl, hBw.trans (hb2.mono hBw.size)⟩
    · obtain rfl : k = l.length := by omega
      rw [List.take_length] at hI hN
      have hO1 : Ok1 l := ⟨hI, hN⟩
      have hpa := fun w2 (h2 : Below w.heap.size w w2) => parties_calls l A c hM w2 (Kd.C_below hC h2) hc
      have hbe := fun w2 (h2 : Below w.heap.size w w2) => bearable_calls l A c hM hO1.pos w2 (Kd.C_below hC h2) hc
      have Hpa := hid hpa
      have HO := hid hO1
      clear hpa hS hI hN hO1
      by_cases q1 : l.length ≤ 400
      · have d1 : decide ((l.length : Int) ≤ 400) = true := decide_eq_true (by omega)
        by_cases q2 : (partiesOf l).length ≤ 60
        · have d2 : decide (((partiesOf l).length : Int) ≤ 60) = true := decide_eq_true (by omega)
          have hv : decide (Valid l) = decide (Bear l) := decide_eq_decide.2 ⟨fun h => h.2.2.2, fun h => ⟨HO.out, q1, q2, h⟩⟩
          have Hv := hid hv
          have Hbe := hid hbe
          generalize decide (Bear l) = r at *
          clear hv hbe
          go_wp2_with (first | (go_at_call 33; refine (Hpa.out _ hBw).mono ?_; rintro e w1 ⟨v, rfl, ⟨A8, c8, rfl, hl8, hC8⟩, hb1⟩; have hB1 := hBw.trans (hb1.mono hBw.size)) | (go_at_call 47; refine (Hbe.out _ hB1).mono ?_; rintro e w2 ⟨rfl, hb2⟩))
          all_goals go_ret
          all_goals exact ⟨by rw [Hv.out]; first | rfl | (simp; done), hB1.trans (hb2.mono hB1.size)⟩
        · have d2 : decide (((partiesOf l).length : Int) ≤ 60) = false := decide_eq_false (by omega)
          have HNo : Hid (¬ Valid l) := hid fun h => q2 h.2.2.1
          clear hbe
          go_wp2_with (first | (go_at_call 33; refine (Hpa.out _ hBw).mono ?_; rintro e w1 ⟨v, rfl, ⟨A8, c8, rfl, hl8, hC8⟩, hb1⟩; have hB1 := hBw.trans (hb1.mono hBw.size)))
          go_ret
          exact ⟨by rw [decide_eq_false HNo.out]; rfl, hB1⟩
      · have d1 : decide ((l.length : Int) ≤ 400) = false := decide_eq_false (by omega)
        have HNo : Hid (¬ Valid l) := hid fun h => q1 h.2.1
        clear hbe
        go_wp2_with (fail)
        go_ret
        exact ⟨by rw [decide_eq_false HNo.out]; rfl, hBw⟩
end Go.Proofs.YthbcabnljcpaiaaGreatDoor.H
