/- A part of the proof that the register's laws hold; no condition of its own. -/
import Derived.Test.YthbcabnljcpaiaaGreatDoorZB24
import Derived.Test.YthbcabnljcpaiaaGreatDoorZB25
import Derived.Test.YthbcabnljcpaiaaGreatDoorZB21
import Derived.Shelf.SlSortCmp.NoneTotal
import Derived.Test.YthbcabnljcpaiaaGreatDoorZB11
set_option linter.all false
namespace Go.Proofs.YthbcabnljcpaiaaGreatDoor.H
open Go.RowKit Go.Shelf Go.Lib Go.Maps Go.WideElems Go.MapKept Go.Sort Go.Proofs.YthbcabnljcpaiaaGreatDoorW.PrintWords Go.Proofs.YthbcabnljcpaiaaGreatDoor.Q
set_option linter.unusedVariables false
theorem ltK (x y : Int × Int) : ltOf cfK x y = true ↔ (x.1 < y.1 ∨ (x.1 = y.1 ∧ x.2 < y.2)) := by
  unfold ltOf cfK
  rw [decide_eq_true_iff]
  rcases Int.lt_trichotomy x.1 y.1 with h | h | h
  · rw [sg_lt h, if_neg (by omega)]; omega
  · rw [sg_eq h, if_pos rfl]
    rcases Int.lt_trichotomy x.2 y.2 with h2 | h2 | h2
    · rw [sg_lt h2]; omega
    · rw [sg_eq h2]; omega
    · rw [sg_gt h2]; omega
  · rw [sg_gt h, if_neg (by omega)]; omega
theorem ltKf (x y : Int × Int) : ltOf cfK x y = false ↔ ¬ (x.1 < y.1 ∨ (x.1 = y.1 ∧ x.2 < y.2)) := by
  rw [← ltK]; simp
theorem swoK : SWO (ltOf cfK) where
  irrefl x := by rw [ltKf]; omega
  trans x y z h1 h2 := by rw [ltK] at *; omega
  ntrans x y z h1 h2 := by rw [ltKf] at *; omega
theorem totK (x y : Int × Int) (h1 : ltOf cfK x y = false) (h2 : ltOf cfK y x = false) : x = y := by
  rw [ltKf] at *
  exact Prod.ext (by omega) (by omega)
theorem leK : (fun x y : Int × Int => !(ltOf cfK) y x) = lexP := by
  funext x y
  by_cases h : x.1 < y.1 ∨ (x.1 = y.1 ∧ x.2 ≤ y.2)
  · rw [(lexP_iff x y).2 h, (ltKf y x).2 (by omega)]; rfl
  · have h1 : lexP x y = false := by
      rw [← Bool.not_eq_true, lexP_iff]; exact h
    rw [h1, (ltK y x).2 (by omega)]; rfl
theorem encs2_get : ∀ (ss : List (Int × Int)) (t : Nat), t < ss.length * 2 → (encs2 ss)[t]? = some ((enc2 ss.toArray[t / 2]!)[t % 2]!)
  | [], t, h => by simp at h
  | p :: ss, 0, _ => by simp [encs2, enc2]
  | p :: ss, 1, _ => by simp [encs2, enc2]
  | p :: ss, t + 2, h => by
    have ih := encs2_get ss t (by simp at h; omega)
    have e1 : (encs2 (p :: ss))[t + 2]? = (encs2 ss)[t]? := by simp [encs2, enc2]
    have e2 : (t + 2) / 2 = t / 2 + 1 := by omega
    have e3 : (t + 2) % 2 = t % 2 := by omega
    have e4 : (p :: ss).toArray[t / 2 + 1]! = ss.toArray[t / 2]! := by simp [List.getElem!_toArray]
    rw [e1, ih, e2, e3, e4]
theorem holds2 {W : World} {g : Nat} {cur : Array Value} {ss : List (Int × Int)} (hb : W.heap[g]? = some (.cells cur 63 (0, 0))) (ht : cur.toList.take (ss.length * 2) = encs2 ss) : HoldsK enc2 2 W g 0 ss.toArray := by
  intro t hj
  have hj' : t < ss.length * 2 := by simpa using hj
  refine ⟨?_, by simp [World.frozen?, hb]⟩
  have h1 : (cur.toList.take (ss.length * 2))[t]? = (encs2 ss)[t]? := by rw [ht]
  rw [List.getElem?_take_of_lt hj', encs2_get ss t hj'] at h1
  rw [get_flatK enc2 2 ss.toArray t (by simpa using hj')]
  simp only [World.cell?, hb, Nat.zero_add]
  simpa using h1
theorem add0 (g n : Nat) : (⟨g, 0, none⟩ : Addr).add n = ⟨g, n, none⟩ := by
  unfold Addr.add
  split
  · rename_i h; rw [h]
  · simp
def PR (W : World) (v : Value) (ks : List (Int × Int)) : Prop := ∃ A c, v = .slice A ks.length c ∧ ks.length ≤ c ∧ ∀ j, j < ks.length → ∃ ad : Addr, A = some ad ∧ W.cell? (ad.add (j * 2)) = some (.int .i64 (ks.getD j (0, 0)).1) ∧ W.cell? ⟨(ad.add (j * 2)).block, (ad.add (j * 2)).off + 1, none⟩ = some (.int .i64 (ks.getD j (0, 0)).2)
theorem PR.of_holds {W : World} {g c n : Nat} {ks : List (Int × Int)} (h : HoldsK enc2 2 W g 0 ks.toArray) (hn : n = ks.length) (hc : n ≤ c) : PR W (.slice (some ⟨g, 0, none⟩) n c) ks := by
  subst hn
  refine ⟨_, c, rfl, hc, fun j hj => ⟨⟨g, 0, none⟩, rfl, ?_, ?_⟩⟩
  · have := (h (j * 2) (by simp; omega)).1
    rw [get_flatK enc2 2 ks.toArray (j * 2) (by simp; omega)] at this
    rw [Nat.zero_add] at this
    rw [add0, this]
    have e1 : j * 2 / 2 = j := by omega
    have e2 : j * 2 % 2 = 0 := by omega
    rw [e1, e2]
    simp [enc2, hj]
  · have := (h (j * 2 + 1) (by simp; omega)).1
    rw [get_flatK enc2 2 ks.toArray (j * 2 + 1) (by simp; omega)] at this
    rw [Nat.zero_add] at this
    rw [add0]
    show W.cell? ⟨g, j * 2 + 1, none⟩ = _
    rw [this]
    have e1 : (j * 2 + 1) / 2 = j := by omega
    have e2 : (j * 2 + 1) % 2 = 1 := by omega
    rw [e1, e2]
    simp [enc2, hj]
theorem grownBy_sortedK {w : World} {g n : Nat} {dk : Array (Int × Int)} {os : Array Obj} : w.grownBy (sortWorldK enc2 2 w g 0 n dk os) (some g) := by
  unfold sortWorldK putRowK
  refine ⟨rfl, rfl, rfl, by simp, fun k hk hne => ?_⟩
  rw [heap_grow_old _ _ (by simpa using hk)]
  have : g ≠ k := fun e => hne (by rw [e])
  simp [putRow, mapBlock, Sort.ahead, Array.getElem?_modify, this]
theorem sortK_calls (g cap : Nat) (cur : Array Value) (ss : List (Int × Int)) (W : World) (hb : W.heap[g]? = some (.cells cur 63 (0, 0))) (ht : cur.toList.take (ss.length * 2) = encs2 ss) (hl : ss.length ≤ 10000000) (hc : ss.length ≤ cap) :
    Calls Tryz.prog 94 #[.slice (some ⟨g, 0, none⟩) ss.length cap, .func (.func 66) #[] #[]] W fun e w' => e = .returned (.tuple #[]) ∧ PR w' (.slice (some ⟨g, 0, none⟩) ss.length cap) (ss.mergeSort lexP) ∧ W.grownBy w' (some g) := by
  obtain ⟨i0, hi, hzz⟩ := Option.map_eq_some_iff.1 info63
  simp only [Prod.mk.injEq] at hzz
  obtain ⟨hz0, hz1, hz2⟩ := hzz
  have hH := holds2 hb ht
  have hblk : g < W.heap.size := blk_lt hb
  have aE : ∀ w, (isAgg 63).run Tryz.prog w = .ok true w := fun w => by simp [isAgg, run_underlying Tryz.underlying63]
  have zE : ∀ w, (Go.sizeOf 63).run Tryz.prog w = .ok 2 w := fun w => by simp [Go.sizeOf, typeInfo, hi, hz1]
  have hcmp : CmpLays Tryz.prog 66 #[] enc2 2 cfK g 0 ss.toArray.size W := fun m os dk hs x y => lcmp_calls x y _
  have eg : ∀ args w, (callFunc 66 args).run Tryz.prog w = .ok (.enter 66 args) w := enters_of Tryz.func66 (by kernel_rfl) rfl
  have hS := AnyQ.slices_SortFunc_total Tryz.sortF94 2 aE zE enc2 (fun _ => rfl) (fun x v hv => by simp [enc2] at hv; rcases hv with rfl | rfl <;> rfl) cfK swoK 66 #[] g 0 cap ss.toArray W eg hcmp hH hblk (by simp; omega) totK
  rw [leK] at hS
  change Calls Tryz.prog 94 #[.slice (some ⟨g, 0, none⟩) ss.length cap, .func (.func 66) #[] #[]] W _ at hS
  refine hS.mono ?_
  rintro e w' ⟨rfl, n, os, rfl⟩
  exact ⟨rfl, PR.of_holds (holdsK_sortWorldK enc2 2 W g 0 n ss.toArray _ os hblk hH (by simp)) (by simp) hc, grownBy_sortedK⟩
theorem sortK_none (p : Option Addr) (c : Nat) (W : World) : Calls Tryz.prog 94 #[.slice p 0 c, .func (.func 66) #[] #[]] W fun e w' => e = .returned (.tuple #[]) ∧ w' = W := by
  have h := AnyF.slices_SortFunc_none (P := Tryz.prog) (ρ := Tryz.sortF94_ren) Tryz.sortF94 p c (.func (.func 66) #[] #[]) W
  exact h
theorem ss_perm {ss ks : List (Int × Int)} (h : (ss.map kb).Perm (ks.map kb)) (hs : IP ss) (hk : IP ks) (hn : ks.Nodup) : ss.Perm ks := by
  have hinj : ∀ a ∈ ks, ∀ b ∈ ks, kb a = kb b → a = b := fun a ha b hb e => kb_inj (hk a ha).1 (hk a ha).2 (hk b hb).1 (hk b hb).2 e
  have hkn : (ks.map kb).Nodup := by
    refine List.pairwise_map.2 (hn.imp_of_mem fun {a b} ha hb hne e => hne (hinj a ha b hb e))
  have hsn : (ss.map kb).Nodup := h.nodup_iff.2 hkn
  have hsn' : ss.Nodup := (List.pairwise_map.1 hsn).imp fun {a b} hne e => hne (by rw [e])
  refine (List.perm_ext_iff_of_nodup hsn' hn).2 fun x => ⟨fun hx => ?_, fun hx => ?_⟩
  · obtain ⟨y, hy, e⟩ := List.mem_map.1 (h.mem_iff.1 (List.mem_map.2 ⟨x, hx, rfl⟩))
    rw [← kb_inj (hk y hy).1 (hk y hy).2 (hs x hx).1 (hs x hx).2 e]
    exact hy
  · obtain ⟨y, hy, e⟩ := List.mem_map.1 (h.mem_iff.2 (List.mem_map.2 ⟨x, hx, rfl⟩))
    rw [← kb_inj (hs y hy).1 (hs y hy).2 (hk x hx).1 (hk x hx).2 e]
    exact hy
theorem sort_perm {a b : List (Int × Int)} (h : a.Perm b) : a.mergeSort lexP = b.mergeSort lexP := by
  refine List.Perm.eq_of_pairwise (le := fun a b => lexP a b = true) (fun a b _ _ h1 h2 => ?_) (List.pairwise_mergeSort lexP_trans lexP_total a) (List.pairwise_mergeSort lexP_trans lexP_total b) (((List.mergeSort_perm a lexP).trans h).trans (List.mergeSort_perm b lexP).symm)
  rw [lexP_iff] at h1 h2
  exact Prod.ext (by omega) (by omega)
set_option maxRecDepth 100000 in
set_option maxHeartbeats 4000000 in
theorem sortedK_calls (b : Nat) (m : PMap) (w : World) (h : MapK w b m) (hm : m.length ≤ 1000000) (hs : KeysI m) :
    Calls Tryz.prog 64 #[.func (.func 95) #[] #[.pointer (some ⟨w.heap.size, 0, none⟩)], .func (.func 66) #[] #[]] (w.alloc (.cells #[.map (some b)] 58)) fun e w' => ∃ v, e = .returned v ∧ PR w' v (keysL m) ∧ Below w.heap.size w w' := by
  obtain ⟨D, hown, hperm, hsize⟩ := h.owns (by omega) hs
  have hap := MapA.apart keyV_inj h
  obtain ⟨w1, hw1⟩ : ∃ w1, w1 = w.alloc (.cells #[.map (some b)] 58) := ⟨_, rfl⟩
  have hB1 : Boxed w1 w.heap.size 58 (.map (some b)) := by rw [hw1]; exact Boxed.new _ _ _
  have hbw : Below w.heap.size w w1 := by rw [hw1]; exact below_alloc (Below.refl _ _) _
  have hown1 : w1.ownsMap Tryz.prog 63 (plainElem Tryz.prog 3) b m.length D := by rw [hw1]; exact hown.alloc _
  have hs1 : w.heap.size < w1.heap.size := hB1.lt
  rw [← hw1]
  refine (callsIn_wide (n := 6)).1 ?_
  have hG := keysK_gives Fence.wide 3 trivial rfl (by omega) w.heap.size b m.length D w1 hs1 hB1.cell hown1
  have hC := collectK_in Fence.wide 5 trivial trivial rfl (by omega) 95 #[.pointer (some ⟨w.heap.size, 0, none⟩)] trivial (enters_of Tryz.func95 (by kernel_rfl) rfl) _ (Maps.size D) (by rw [hsize]; omega) w1 hG.bounded
  have HC := hid hC
  have HP := hid (And.intro hperm (And.intro hsize hap))
  clear hC hG hown1 hown hperm hsize hap hw1
  have hf93 : Fence.wide.fn 93 := trivial
  have hf94 : Fence.wide.fn 94 := trivial
  refine callsIn_of_wp Tryz.func64 rfl trivial ?_ rfl
  simp only [Tryz.ntmps64, List.size_toArray, List.length_cons, List.length_nil, Nat.reduceAdd, Nat.reduceSub, Array.replicate_succ, Array.replicate_zero, List.push_toArray, List.append_toArray, List.nil_append, List.cons_append]
  gi_wp2_with (first | (gi_at_call 93; refine HC.out.mono ?_; rintro e w2 ⟨v, ss, rfl, hss, hrow, hnil, hb⟩))
  have hIm : IP (m.map (·.1)) := fun p hp => by
    obtain ⟨q, hq, rfl⟩ := List.mem_map.1 hp
    exact ⟨(hs q hq).1, (hs q hq).2.1⟩
  obtain ⟨⟨hp1, hI⟩, hlen⟩ := hss
  obtain ⟨hperm, hsize, hap⟩ := HP.out
  have hpp : ss.Perm (m.map (·.1)) := by
    refine ss_perm ?_ hI hIm (List.pairwise_map.2 hap)
    refine hp1.trans (hperm.trans ?_)
    rw [List.map_map]
    exact List.Perm.refl _
  have hkl : ss.mergeSort lexP = keysL m := sort_perm hpp
  have hbb : Below w.heap.size w w2 := hbw.trans (hb.mono (by omega))
  rcases hrow.2 with ⟨rfl, hz⟩ | ⟨gb, cap, cur, rfl, hbase, hgb, r1, r2, r3, r4⟩
  · have hss : ss = [] := List.eq_nil_of_length_eq_zero hz
    subst hss
    have hk0 : keysL m = [] := by rw [← hkl]; exact List.eq_nil_of_length_eq_zero (by simp)
    have Hk0 := hid hk0
    clear hp1 hperm hpp hkl hIm hk0
    gi_wp2_with (first | (gi_at_call 94; refine (callsIn_wide.2 (sortK_none none 0 _)).mono ?_; rintro e w3 ⟨rfl, rfl⟩))
    go_ret
    rw [Hk0.out]
    exact ⟨_, rfl, ⟨none, 0, rfl, by simp, fun j hj => by simp at hj⟩, hbb⟩
  · have cS := sortK_calls gb cap cur ss w2 hgb r4 (by omega) r1
    rw [hkl] at cS
    clear hp1 hperm hpp hkl hIm hgb r3 r4 hrow
    have CS := hid cS
    clear cS
    gi_wp2_with (first | (gi_at_call 94; refine (callsIn_wide.2 CS.out).mono ?_; rintro e w3 ⟨rfl, hpr, hg3⟩))
    go_ret
    exact ⟨_, rfl, hpr, hbb.grown hg3 hbb.size (fun j hj => by cases hj; omega)⟩
end Go.Proofs.YthbcabnljcpaiaaGreatDoor.H
namespace Go.Proofs.YthbcabnljcpaiaaGreatDoor.H
open Go.RowKit Go.Shelf Go.Lib Go.Maps Go.WideElems Go.MapKept Go.Sort Go.Proofs.YthbcabnljcpaiaaGreatDoorW.PrintWords Go.Proofs.YthbcabnljcpaiaaGreatDoorW.PrintLast Go.Proofs.YthbcabnljcpaiaaGreatDoorW.PrintMore Go.Proofs.YthbcabnljcpaiaaGreatDoor.Q
set_option linter.unusedVariables false
theorem info42 : (Tryz.prog.info? 42).map (fun i => (i.zero, i.size, i.bytes)) = some (some (.agg #[(.int .i64 0), (.int .i64 0), (.bool false), (.string ⟨#[]⟩), (.string ⟨#[]⟩)]), 5, 56) := by kernel_rfl
def ratS (num den : Int) : S40 := ⟨(!(decide (num < 0) == decide (den < 0))) && decide (num.natAbs / Nat.gcd num.natAbs den.natAbs ≠ 0), dg (num.natAbs / Nat.gcd num.natAbs den.natAbs), dg (den.natAbs / Nat.gcd num.natAbs den.natAbs)⟩
theorem ratOf_S (num den : Int) : ratOf num den = rat (ratS num den).f0 (ratS num den).f1 (ratS num den).f2 := rfl
def linkS (c : (Int × Int) × Int) : S42 := ⟨c.1.1, c.1.2, ratS c.2 6000⟩
def LN (w : World) (base : Nat) (v : Value) (l : List S42) : Prop := Kd.N k42 42 w base (fun k => base ≤ k) v l
theorem LN.lower {w : World} {base base' : Nat} {v : Value} {l : List S42} (h : LN w base v l) (hb : base' ≤ base) : LN w base' v l := Kd.N_mono (Kd.N_lower h hb) (fun k hk => Nat.le_trans hb hk)
theorem LN.set {w : World} {base : Nat} {v : Value} {l : List S42} (h : LN w base v l) {b : Nat} (hb : b < base) (j : Nat) (u : Value) : LN (w.setCell ⟨b, j, none⟩ u) base v l := Kd.N_far h (fun k hk e => by subst e; exact absurd hk (by simpa using hb)) u
theorem LN.shape {w : World} {base : Nat} {v : Value} {l : List S42} (h : LN w base v l) : ∃ A c, v = .slice A l.length c ∧ l.length ≤ c ∧ Kd.C k42 w A l.length l := by
  obtain ⟨A, c, he, hl, hf⟩ := Kd.N_V (base' := 0) h
  exact ⟨A, c, he, hl, Kd.F_now hf⟩
theorem LN.below {w w' : World} {base : Nat} {v : Value} {l : List S42} (h : LN w base v l) (hb : Below w.heap.size w w') : LN w' base v l := Kd.N_below h hb
abbrev lcells (x : S42) : Array Value := #[.int .i64 x.f0, .int .i64 x.f1, .bool x.f2.f0, .string x.f2.f1, .string x.f2.f2]
theorem appL_one {W : World} (base : Nat) (v : Value) (xs : List S42) (x : S42) (HO : LN W base v xs) (hbase : base ≤ W.heap.size) (hl : xs.length ≤ 1000000) :
    ∃ v1 w1, (Builtin.append_ #[23, 23] 23 #[v, .slice (some ⟨W.heap.size, 0, none⟩) 1 1]).run Tryz.prog (W.alloc (.cells (lcells x) 42)) = .ok v1 w1 ∧ LN w1 base v1 (xs ++ [x]) ∧ Below base W w1 := by
  refine append_extract ?_
  have h := Kd.N_append_step (P := Tryz.prog) (ops := #[]) (o := appOp 23 23) (a := { tmps := #[v, .slice (some ⟨W.heap.size, 0, none⟩) 1 1], defers := [] }) (Q := fun _ _ _ => False) (Kc := fun a w => Kd.N k42 42 w base (fun k => base ≤ k) (a.tmps.getD 0 undef) (xs ++ [x]) ∧ Below base W w) k42 (w0 := W) base rfl (.tmp 0) (.tmp 1) 23 42 _ 56 rfl Tryz.underlying23 info42 rfl (by decide) (by omega) v xs x [.int .i64 x.f0, .int .i64 x.f1, .bool x.f2.f0, .string x.f2.f1, .string x.f2.f2] (fun k => base ≤ k) (fun _ => False) rfl rfl (k42_mkF W _ x) (fun k h => h.elim) (fun k hk => Nat.le_trans hbase hk) HO (Below.refl _ _) hbase (by omega) (fun v1 w1 h1 h2 h3 _ => ⟨h1, h2⟩)
  rw [if_pos (wanted_app 23 23 v _)] at h
  exact h
theorem PR.below {w W : World} {v : Value} {ks : List (Int × Int)} (h : PR w v ks) (hb : Below w.heap.size w W) : PR W v ks := by
  obtain ⟨A, c, rfl, hc, hk⟩ := h
  refine ⟨A, c, rfl, hc, fun j hj => ?_⟩
  obtain ⟨g, e, h1, h2⟩ := hk j hj
  exact ⟨g, e, cellB hb h1, cellB hb h2⟩
theorem keys_val {m : PMap} (hap : m.Pairwise fun p q => p.1 ≠ q.1) (hs : KeysI m) {p : Int × Int} (hp : p ∈ keysL m) : I64 p.1 ∧ I64 p.2 ∧ I64 (asGet m p 0) := by
  obtain ⟨q, hq, rfl⟩ := (keysL_mem m p).1 hp
  obtain ⟨h1, h2, h3⟩ := hs q hq
  rw [asGet_mem hap (v := q.2) hq]
  exact ⟨h1, h2, h3⟩
set_option maxRecDepth 100000 in
set_option maxHeartbeats 8000000 in
theorem links_calls (mb : Nat) (m : PMap) (w : World) (hM : MapK w mb m) (hlen : m.length ≤ 1000000) (hs : KeysI m) (ht : Tab w) :
    Calls Tryz.prog 38 #[.map (some mb)] w fun e w' => ∃ v, e = .returned v ∧ LN w' w.heap.size v ((linkL m).map linkS) ∧ Below w.heap.size w w' := by
  have hap := MapA.apart keyV_inj hM
  have hsort := sortedK_calls mb m w hM hlen hs
  have hkv := fun p => keys_val (p := p) hap hs
  have hk65 : Calls Tryz.prog 65 #[.map (some mb)] w fun e w' => e = .returned (.func (.func 95) #[] #[.pointer (some ⟨w.heap.size, 0, none⟩)]) ∧ w' = w.alloc (.cells #[.map (some mb)] 58) := (callsIn_wide (n := 6)).1 (keysK_in Fence.wide 6 trivial rfl (some mb) w)
  have hLL : linkL m = (keysL m).map fun k => (k, asGet m k 0) := rfl
  have hkl := keysL_length m
  obtain ⟨ks, hks⟩ : ∃ ks, ks = keysL m := ⟨_, rfl⟩
  rw [← hks] at hsort hkv hLL hkl
  obtain ⟨out, hout⟩ : ∃ out : List S42, out = ks.map fun k => linkS (k, asGet m k 0) := ⟨_, rfl⟩
  have hout2 : (linkL m).map linkS = out := by rw [hout, hLL, List.map_map]; rfl
  rw [hout2]
  have hlk : ks.length ≤ 1000000 := by omega
  have Hsort := hid hsort
  have Hk65 := hid hk65
  have Hkv := hid hkv
  have Hout := hid hout
  have Ht := hid ht
  clear hsort hk65 hkv hks hap hs hout hout2 hLL ht hkl
  go_enter Tryz.func38, Tryz.ntmps38
  go_wp2_with (first | (go_at_call 65; refine Hk65.out.mono ?_; rintro e w1 ⟨rfl, rfl⟩) | (go_at_call 64; refine Hsort.out.mono ?_; rintro e w2 ⟨v, rfl, hpr, hb2⟩; have hpr0 := hpr; obtain ⟨A, c, rfl, hc, hcells⟩ := hpr0; clear hcells))
  have Hpr := hid hpr
  clear hpr
  go_loopg [4, 14] ks.length (fun g v4 v14 wr => ∃ k : Nat, v14 = .int .i64 k ∧ g + k = ks.length ∧ LN wr w2.heap.size v4 ((ks.take k).map fun p => linkS (p, asGet m p 0)) ∧ Below w2.heap.size w2 wr)
  case atStart => exact ⟨0, rfl, by omega, Kd.N_nil _ _ _ _ _, Below.refl _ _⟩
  case round =>
    obtain ⟨k, rfl, hgk, hN, hBw⟩ := hrel
    by_cases hk : k < ks.length
    · obtain ⟨A', c', eA, hc', hcells⟩ := PR.below Hpr.out hBw
      cases eA
      obtain ⟨ad, rfl, a0, a1⟩ := hcells k hk
      clear hcells
      have hmem : ks.getD k (0, 0) ∈ ks := by simp [List.getD, hk]
      have htk : ks.take (k + 1) = ks.take k ++ [ks.getD k (0, 0)] := by rw [List.take_succ_eq_append_getElem hk]; simp [List.getD, hk]
      obtain ⟨i1, i2, i3⟩ := Hkv.out _ hmem
      obtain ⟨g, hg⟩ : ∃ g, g = asGet m (ks.getD k (0, 0)) 0 := ⟨_, rfl⟩
      generalize hp : ks.getD k (0, 0) = p at *
      obtain ⟨px, py⟩ := p
      rw [← hg] at i3
      have hBs : Below w.heap.size w wr := hb2.trans (hBw.mono hb2.size)
      have hB1 := below_alloc (Below.refl wr.heap.size wr) (.cells #[.int .i64 px, .int .i64 py] 63)
      have hM1 : MapK (wr.alloc (.cells #[.int .i64 px, .int .i64 py] 63)) mb m := (hM.below hBs).below hB1
      have hlk : (Instr.lookup 58 (.map (some mb)) (.agg #[.int .i64 px, .int .i64 py]) false).run Tryz.prog (wr.alloc (.cells #[.int .i64 px, .int .i64 py] 63)) = .ok (.int .i64 g) (wr.alloc (.cells #[.int .i64 px, .int .i64 py] 63)) := by
        have := hM1.get (p := (px, py)) i1 i2
        rw [← hg] at this
        exact this
      have ht1 : Tab (wr.alloc (.cells #[.int .i64 px, .int .i64 py] 63)) := (Ht.out.below hBs).below hB1
      have hof := of_calls g 6000 i3.1 i3.2 (by omega) (by omega) (by omega) _ ht1
      rw [ratOf_S] at hof
      have R1 := Bx.new wr 63 #[.int .i64 px, .int .i64 py]
      have HOf := hid hof
      have Htk := hid (And.intro htk hg)
      have HN := hid hN
      generalize hrs : ratS g 6000 = rs at *
      have Hrs := hid hrs
      clear hof ht1 hM1 htk hg hp hmem hBs i1 i2 i3 hN hrs
      go_wp2_with (first
        | (go_at_call 60; refine HOf.out.mono ?_; rintro e w3 ⟨rfl, hb3⟩; have hw3 := bseq hB1 hb3; have R3 := R1.below hb3; have c3 := R3.cell; have l3 := R3.lt)
        | (at_builtin; have ha3 := below_alloc hw3 (.cells #[.bool rs.f0, .string rs.f1, .string rs.f2] 40); obtain ⟨v5, w5, hrun5, hN5, hb5⟩ := appL_one (W := w3.alloc (.cells #[.bool rs.f0, .string rs.f1, .string rs.f2] 40)) w2.heap.size _ _ ⟨px, py, rs⟩ (HN.out.below ha3) (Nat.le_trans hBw.size ha3.size) (by rw [List.length_map, List.length_take]; omega); rw [World.size_alloc] at hrun5; simp only [lcells] at hrun5; refine wpList_append_eq rfl _ _ 23 rfl _ _ _ _ rfl rfl hrun5 ?_))
      go_roundg (ks.length - (k + 1))
      case rel =>
        refine ⟨k + 1, by go_num, by omega, ?_, ?_⟩
        · rw [Htk.out.1, List.map_append]
          have e1 : linkS ((px, py), asGet m (px, py) 0) = ⟨px, py, rs⟩ := by rw [← Htk.out.2, ← Hrs.out]; rfl
          rw [List.map_singleton, e1]
          exact hN5
        · exact (hBw.trans (ha3.mono hBw.size)).trans (hb5.mono (Nat.le_refl _))
      case measure => omega
    · obtain rfl : k = ks.length := by omega
      rw [List.take_length] at hN
      go_wp2_with (fail)
      go_ret
      rw [Hout.out]
      exact ⟨_, rfl, LN.lower hN hb2.size, hb2.trans (hBw.mono hb2.size)⟩
end Go.Proofs.YthbcabnljcpaiaaGreatDoor.H
namespace Go.Proofs.YthbcabnljcpaiaaGreatDoor.H
open Go.RowKit Go.Shelf Go.Lib Go.Maps Go.WideElems Go.MapKept Go.Proofs.YthbcabnljcpaiaaGreatDoorW.PrintWords Go.Proofs.YthbcabnljcpaiaaGreatDoor.Q
set_option linter.unusedVariables false
theorem mapL_bound {who : S36 → List ByteArray} {pc : S36 → Int} {ps : List ByteArray} {day : Int} : ∀ (l : List S36) (m : PMap) (K : Nat), (∀ x ∈ l, (0 ≤ pc x ∧ pc x ≤ 100) ∧ 0 < (who x).length ∧ (who x).length ≤ 5) →
    m.Pairwise (fun p q => p.1 ≠ q.1) → m.length ≤ K → (∀ p, 0 ≤ asGet m p 0 ∧ asGet m p 0 ≤ 6000 * K) →
    (mapL who pc ps day l m).Pairwise (fun p q => p.1 ≠ q.1) ∧ (mapL who pc ps day l m).length ≤ K + 5 * l.length ∧ ∀ p, 0 ≤ asGet (mapL who pc ps day l m) p 0 ∧ asGet (mapL who pc ps day l m) p 0 ≤ 6000 * (K + 5 * l.length : Nat)
  | [], m, K, _, hd, hl, h => ⟨hd, by simpa [mapL] using hl, fun p => by simpa [mapL] using h p⟩
  | x :: l, m, K, hx, hd, hl, h => by
    obtain ⟨h1, h2, h3⟩ := hx x List.mem_cons_self
    have hb := addS_bound (ps := ps) (co := x.f1) (n := (who x).length) h1 h2 (lo := 0) (hi := 6000 * K) (who x) m 0 hd (fun p => by have := h p; omega)
    have hlen : ∀ (w : List ByteArray) (m : PMap), (addS m ps x.f1 (pc x) (who x).length w).length ≤ m.length + w.length := by
      intro w
      induction w with
      | nil => intro m; exact Nat.le_refl _
      | cons s w ih =>
        intro m
        rw [addS]
        refine Nat.le_trans (ih _) ?_
        split
        · have := asPut_length m ((plc ps x.f1 : Int), (plc ps s : Int)) (asGet m ((plc ps x.f1 : Int), (plc ps s : Int)) 0 + pc x * 60 / ((who x).length : Int))
          simp only [List.length_cons]; omega
        · simp only [List.length_cons]; omega
    rw [mapL]
    by_cases hr : Runs x day
    · rw [if_pos hr]
      have := mapL_bound (ps := ps) (day := day) l (addS m ps x.f1 (pc x) (who x).length (who x)) (K + 5) (fun y hy => hx y (List.mem_cons_of_mem _ hy)) hb.1 (by have := hlen (who x) m; omega) (fun p => by
        have := hb.2 p
        have h5 : ((0 + (who x).length : Nat) : Int) ≤ 5 := by omega
        constructor
        · exact this.1
        · have h6 := this.2
          have : (6000 : Int) * ((0 + (who x).length : Nat) : Int) ≤ 30000 := by omega
          push_cast at *
          omega)
      have e : K + 5 + 5 * l.length = K + 5 * (x :: l).length := by simp; omega
      rw [e] at this
      exact this
    · rw [if_neg hr]
      have := mapL_bound (ps := ps) (day := day) l m (K + 5) (fun y hy => hx y (List.mem_cons_of_mem _ hy)) hd (by omega) (fun p => by have := h p; push_cast; omega)
      have e : K + 5 + 5 * l.length = K + 5 * (x :: l).length := by simp; omega
      rw [e] at this
      exact this
theorem mapL_keys {who : S36 → List ByteArray} {pc : S36 → Int} {ps : List ByteArray} {day : Int} {l : List S36} {p : (Int × Int) × Int} (h : p ∈ mapL who pc ps day l []) : (0 ≤ p.1.1 ∧ p.1.1 ≤ ps.length) ∧ 0 ≤ p.1.2 ∧ p.1.2 ≤ ps.length := by
  rw [mapL_addC] at h
  obtain ⟨_, _, h3⟩ := addC_get ps (ctrs who pc day l) [] List.Pairwise.nil
  rcases (h3 p.1).1 ⟨p, h, rfl⟩ with ⟨c, _, e⟩ | ⟨q, hq, _⟩
  · rw [← e]
    have h1 : plc ps c.1.1 ≤ ps.length := List.findIdx_le_length
    have h2 : plc ps c.1.2 ≤ ps.length := List.findIdx_le_length
    simp only [pos]
    omega
  · simp at hq
theorem mapL_ok {who : S36 → List ByteArray} {pc : S36 → Int} {ps : List ByteArray} {day : Int} {l : List S36} (hx : ∀ x ∈ l, (0 ≤ pc x ∧ pc x ≤ 100) ∧ 0 < (who x).length ∧ (who x).length ≤ 5) (hl : l.length ≤ 500) (hps : ps.length ≤ 1000000) :
    KeysI (mapL who pc ps day l []) ∧ (mapL who pc ps day l []).length ≤ 1000000 ∧ ∀ p, 0 ≤ asGet (mapL who pc ps day l []) p 0 ∧ asGet (mapL who pc ps day l []) p 0 ≤ 1000000000000 := by
  obtain ⟨h1, h2, h3⟩ := mapL_bound (ps := ps) (day := day) l [] 0 hx List.Pairwise.nil (by simp) (fun p => by simp [asGet])
  refine ⟨fun p hp => ?_, by omega, fun p => by have := h3 p; omega⟩
  have hk := mapL_keys hp
  have hv := h3 p.1
  rw [asGet_mem h1 (v := p.2) hp] at hv
  unfold I64
  omega
theorem who_len {x : S36} (hp : Proper x) : (0 < (whoC x).length ∧ (whoC x).length ≤ 5) ∧ 0 < (whoV x).length ∧ (whoV x).length ≤ 5 := by
  have h5 := hp.1.2.2.2.2.2.1
  have hc : 0 < (whoC x).length ∧ (whoC x).length ≤ 5 := by
    unfold whoC; split
    · simp; omega
    · simp
  refine ⟨hc, ?_⟩
  unfold whoV; split
  · exact hc
  · simp
structure AtI (wp : World) (ps : List ByteArray) (A : Option Addr) (c sb b7 b8 q : Nat) (M7 M8 : PMap) (W : World) : Prop where
  low : Below wp.heap.size wp W
  box : Bx W sb 25 #[.slice A ps.length c, .slice none 0 0, .slice none 0 0]
  fn : Boxed W q 61 (.func (.func 34) #[] #[.pointer (some ⟨sb, 0, none⟩)])
  m7 : MapK W b7 M7
  m8 : MapK W b8 M8
section
variable {wp : World} {ps : List ByteArray} {A : Option Addr} {c sb b7 b8 q : Nat} {M7 M8 : PMap} {W W' : World}
theorem AtI.below (h : AtI wp ps A c sb b7 b8 q M7 M8 W) (hb : Below W.heap.size W W') : AtI wp ps A c sb b7 b8 q M7 M8 W' :=
  ⟨h.low.trans (hb.mono h.low.size), h.box.below hb, (hb.block q h.fn.lt).trans h.fn, h.m7.below hb, h.m8.below hb⟩
theorem AtI.share7 (h : AtI wp ps A c sb b7 b8 q M7 M8 W) (hC : Kd.C Kd.string wp A ps.length ps) (hc : ps.length ≤ c) (hI : Inc ps) (hl : ps.length ≤ 1000000) (hsb : sb < b7) (hq7 : q ≠ b7) (hwb : wp.heap.size ≤ b7) (h78 : b7 ≠ b8)
    (co : ByteArray) (pc : Int) (who : List ByteArray) (A2 : Option Addr) (c2 : Nat) (hco : co ∈ ps) (hwho : ∀ s ∈ who, s ∈ ps) (hpc : 0 ≤ pc ∧ pc ≤ 100) (hn : who.length ≤ 1000) (hm : ∀ p, 0 ≤ asGet M7 p 0 ∧ asGet M7 p 0 ≤ 1000000000000)
    (h2 : Kd.C Kd.string W A2 who.length who) (hc2 : who.length ≤ c2) :
    Calls Tryz.prog 36 #[.map (some b7), .string co, .int .i64 pc, .slice A2 who.length c2, .pointer (some ⟨q, 0, none⟩)] W fun e w' => e = .returned (.tuple #[]) ∧ AtI wp ps A c sb b7 b8 q (addS M7 ps co pc who.length who) M8 w' ∧ W.grownBy w' (some b7) := by
  refine (share_calls ps A c sb q b7 _ _ M7 co pc who A2 c2 hI hl hco hwho hpc hn hm wp W h.low hC hc h.box h.fn h.m7 hsb hq7 hwb h2 hc2).mono ?_
  rintro e w' ⟨rfl, hM, hg⟩
  exact ⟨rfl, ⟨h.low.grown hg h.low.size (fun k e => by cases e; exact hwb), (hg.block sb h.box.lt (fun e => by cases e; omega)).trans h.box, (hg.block q h.fn.lt (fun e => hq7 (by cases e; rfl))).trans h.fn, hM, h.m8.grown hg (fun e => h78 (by cases e; rfl))⟩, hg⟩
theorem AtI.share8 (h : AtI wp ps A c sb b7 b8 q M7 M8 W) (hC : Kd.C Kd.string wp A ps.length ps) (hc : ps.length ≤ c) (hI : Inc ps) (hl : ps.length ≤ 1000000) (hsb : sb < b8) (hq8 : q ≠ b8) (hwb : wp.heap.size ≤ b8) (h78 : b7 ≠ b8)
    (co : ByteArray) (pc : Int) (who : List ByteArray) (A2 : Option Addr) (c2 : Nat) (hco : co ∈ ps) (hwho : ∀ s ∈ who, s ∈ ps) (hpc : 0 ≤ pc ∧ pc ≤ 100) (hn : who.length ≤ 1000) (hm : ∀ p, 0 ≤ asGet M8 p 0 ∧ asGet M8 p 0 ≤ 1000000000000)
    (h2 : Kd.C Kd.string W A2 who.length who) (hc2 : who.length ≤ c2) :
    Calls Tryz.prog 36 #[.map (some b8), .string co, .int .i64 pc, .slice A2 who.length c2, .pointer (some ⟨q, 0, none⟩)] W fun e w' => e = .returned (.tuple #[]) ∧ AtI wp ps A c sb b7 b8 q M7 (addS M8 ps co pc who.length who) w' ∧ W.grownBy w' (some b8) := by
  refine (share_calls ps A c sb q b8 _ _ M8 co pc who A2 c2 hI hl hco hwho hpc hn hm wp W h.low hC hc h.box h.fn h.m8 hsb hq8 hwb h2 hc2).mono ?_
  rintro e w' ⟨rfl, hM, hg⟩
  exact ⟨rfl, ⟨h.low.grown hg h.low.size (fun k e => by cases e; exact hwb), (hg.block sb h.box.lt (fun e => by cases e; omega)).trans h.box, (hg.block q h.fn.lt (fun e => hq8 (by cases e; rfl))).trans h.fn, h.m7.grown hg (fun e => h78 (by cases e; rfl)), hM⟩, hg⟩
theorem C_past_map {b : Nat} {M : PMap} {A2 : Option Addr} {n : Nat} {xs : List ByteArray} (h : Kd.C Kd.string W A2 n xs) (hM : MapK W b M) (hg : W.grownBy W' (some b)) : Kd.C Kd.string W' A2 n xs :=
  SC_same h fun k cs t f hk => hg.block k (blk_lt hk) fun e => by
    cases e
    obtain ⟨arr, cl, hb, _⟩ := hM
    rw [hb] at hk
    cases hk
end
end Go.Proofs.YthbcabnljcpaiaaGreatDoor.H
