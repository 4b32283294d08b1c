/- A part of the proof that the register's laws hold; no condition of its own. -/
import Derived.RangeFuncNested
import Derived.RangeFuncBound
import Derived.RangeFuncBox
import Derived.RangeFuncCalls
import Derived.RangeFuncLeaves
import Derived.Shelf.Abstract
import Derived.Shelf.RegionOpen
import Derived.WalkKit
import Derived.Lib.Hide
import Derived.OwnWalkIn
import Derived.TacticsInMore
import Derived.LoopNIn
import Derived.LoopIn
import Derived.WalkSpells
import Derived.WalkLawsBesides
import Derived.Test.YthbcabnljcpaiaaGreatDoorZB03
import Derived.Test.YthbcabnljcpaiaaGreatDoorProg
import Derived.Maps.OwnOps
import Derived.Maps.OwnSet
import Derived.Maps.Range
import Derived.Below
import Derived.Deep.Draws
import Derived.Deep.AppendLies
import Derived.Maps.AppendAt
import Derived.OwnWalk
import Derived.Laws.BytesArg
import Derived.Laws.MakeOwn
import Derived.Laws.OwnMore
import Derived.Deep.OwnRows
import Derived.Tactics
import Derived.Lib.ConvBytes
import Derived.Laws.Slices
import Derived.KernelRfl
import Derived.RowKit3
import Derived.Deep.LoopGhost
import Derived.Deep.QuietTactic
import Derived.BigQuiet
import Derived.WideLaws
import Derived.Deep.DeepCutAuto
import Derived.Deep.CutBlock
import Derived.Deep.RegionHeld3
import Derived.Laws.Rows
import Derived.Lib.AppendStr
import Derived.ArgAppend
import Derived.Laws.IdiomCopy
import Derived.OrdersHeld
import Derived.Laws.BitsLemmas
import Derived.RowKit
import Derived.Test.YthbcabnljcpaiaaGreatDoorZB01
import Derived.Test.YthbcabnljcpaiaaGreatDoorZB02
set_option linter.all false
namespace Go.Proofs.YthbcabnljcpaiaaGreatDoor.H
open Go.RowKit Go.Shelf Go.Proofs.YthbcabnljcpaiaaGreatDoorW.PrintWords
set_option linter.unusedVariables false
def sg (a b : Int) : Int := if a < b then -1 else if b < a then 1 else 0
theorem sg_lt {a b : Int} (h : a < b) : sg a b = -1 := by simp [sg, h]
theorem sg_gt {a b : Int} (h : b < a) : sg a b = 1 := by simp [sg, h]; omega
theorem sg_eq {a b : Int} (h : a = b) : sg a b = 0 := by simp [sg, h]
theorem sg_zero {a b : Int} : sg a b = 0 ↔ a = b := by
  unfold sg
  split
  · simp; omega
  · split
    · simp; omega
    · simp; omega
theorem sg_range (a b : Int) : -1 ≤ sg a b ∧ sg a b ≤ 1 := by
  unfold sg
  split
  · omega
  · split <;> omega
theorem ret_int {k : IntKind} {a b : Int} (h : a = b) : Ending.returned (.int k a) = .returned (.int k b) := by rw [h]
set_option maxHeartbeats 1000000 in
theorem isNaN_int (a : Int) (w : World) : Calls Tryz.prog 96 #[.int .i64 a] w fun e w' => e = .returned (.bool false) ∧ w = w' := by
  go_enter Tryz.func96, Tryz.ntmps96
  go_wp2
  go_ret
  exact ⟨rfl, rfl⟩
set_option maxHeartbeats 2000000 in
theorem cmp_int (a b : Int) (w : World) : Calls Tryz.prog 68 #[.int .i64 a, .int .i64 b] w fun e w' => e = .returned (.int .i64 (sg a b)) ∧ w = w' := by
  rcases Int.lt_trichotomy a b with h | h | h
  · have hs := Lib.hid (sg_lt h)
    go_enter Tryz.func68, Tryz.ntmps68
    go_wp2_with (go_at_call 96; refine (isNaN_int _ _).mono ?_; rintro e w' ⟨rfl, rfl⟩)
    go_ret
    exact ⟨ret_int hs.out.symm, rfl⟩
  · subst h
    have hs := Lib.hid (sg_eq (a := a) rfl)
    go_enter Tryz.func68, Tryz.ntmps68
    go_wp2_with (go_at_call 96; refine (isNaN_int _ _).mono ?_; rintro e w' ⟨rfl, rfl⟩)
    go_ret
    exact ⟨ret_int hs.out.symm, rfl⟩
  · have hs := Lib.hid (sg_gt h)
    go_enter Tryz.func68, Tryz.ntmps68
    go_wp2_with (go_at_call 96; refine (isNaN_int _ _).mono ?_; rintro e w' ⟨rfl, rfl⟩)
    go_ret
    exact ⟨ret_int hs.out.symm, rfl⟩
set_option maxHeartbeats 1000000 in
theorem isNaN_u64 (a : Int) (w : World) : Calls Tryz.prog 214 #[.int .u64 a] w fun e w' => e = .returned (.bool false) ∧ w = w' := by
  go_enter Tryz.func214, Tryz.ntmps214
  go_wp2
  go_ret
  exact ⟨rfl, rfl⟩
set_option maxHeartbeats 2000000 in
theorem cmp_u64 (a b : Int) (w : World) : Calls Tryz.prog 182 #[.int .u64 a, .int .u64 b] w fun e w' => e = .returned (.int .i64 (sg a b)) ∧ w = w' := by
  rcases Int.lt_trichotomy a b with h | h | h
  · have hs := Lib.hid (sg_lt h)
    go_enter Tryz.func182, Tryz.ntmps182
    go_wp2_with (go_at_call 214; refine (isNaN_u64 _ _).mono ?_; rintro e w' ⟨rfl, rfl⟩)
    go_ret
    exact ⟨ret_int hs.out.symm, rfl⟩
  · subst h
    have hs := Lib.hid (sg_eq (a := a) rfl)
    go_enter Tryz.func182, Tryz.ntmps182
    go_wp2_with (go_at_call 214; refine (isNaN_u64 _ _).mono ?_; rintro e w' ⟨rfl, rfl⟩)
    go_ret
    exact ⟨ret_int hs.out.symm, rfl⟩
  · have hs := Lib.hid (sg_gt h)
    go_enter Tryz.func182, Tryz.ntmps182
    go_wp2_with (go_at_call 214; refine (isNaN_u64 _ _).mono ?_; rintro e w' ⟨rfl, rfl⟩)
    go_ret
    exact ⟨ret_int hs.out.symm, rfl⟩
end Go.Proofs.YthbcabnljcpaiaaGreatDoor.H
namespace Go.Proofs.YthbcabnljcpaiaaGreatDoor.H
open Go.RowKit Go.Maps Go.MapKept
open Go.ChangeMaps (setBlock modify_eq_set heap_setBlock_other heap_setBlock_same)
set_option linter.unusedVariables false
section
variable {α β : Type} [DecidableEq α]
def asPut (m : List (α × β)) (a : α) (v : β) : List (α × β) := if (∀ p ∈ m, p.1 ≠ a) then m ++ [(a, v)] else m.map fun p => if p.1 = a then (a, v) else p
def asGet (m : List (α × β)) (a : α) (d : β) : β := ((m.find? fun p => p.1 = a).map (·.2)).getD d
theorem asGet_none {m : List (α × β)} {a : α} {d : β} (h : ∀ p ∈ m, p.1 ≠ a) : asGet m a d = d := by
  unfold asGet
  rw [List.find?_eq_none.2 (fun p hp => by simpa using h p hp)]
  rfl
theorem asGet_mem {m : List (α × β)} {a : α} {v d : β} (hd : m.Pairwise fun p q => p.1 ≠ q.1) (h : (a, v) ∈ m) : asGet m a d = v := by
  induction m with
  | nil => simp at h
  | cons p m ih =>
    unfold asGet
    rw [List.pairwise_cons] at hd
    rw [List.find?_cons]
    by_cases hp : p.1 = a
    · rcases List.mem_cons.1 h with e | h2
      · subst e; simp
      · exact absurd hp (hd.1 _ h2)
    · rcases List.mem_cons.1 h with e | h2
      · subst e; exact absurd rfl hp
      · simp only [hp, decide_false]
        exact ih hd.2 h2
theorem asPut_keys (m : List (α × β)) (a : α) (v : β) (c : α) : (∃ p ∈ asPut m a v, p.1 = c) ↔ (c = a ∨ ∃ p ∈ m, p.1 = c) := by
  unfold asPut
  split
  · constructor
    · rintro ⟨p, hp, rfl⟩
      rcases List.mem_append.1 hp with h | h
      · exact .inr ⟨p, h, rfl⟩
      · rw [List.mem_singleton.1 h]; exact .inl rfl
    · rintro (rfl | ⟨p, hp, rfl⟩)
      · exact ⟨_, List.mem_append_right _ (List.mem_singleton.2 rfl), rfl⟩
      · exact ⟨p, List.mem_append_left _ hp, rfl⟩
  · rename_i h
    constructor
    · rintro ⟨p, hp, rfl⟩
      obtain ⟨q, hq, rfl⟩ := List.mem_map.1 hp
      by_cases e : q.1 = a
      · simp [e]
      · simp only [e, if_false]; exact .inr ⟨q, hq, rfl⟩
    · rintro (rfl | ⟨p, hp, rfl⟩)
      · have : ∃ p ∈ m, p.1 = c := by
          refine Classical.byContradiction fun hn => h fun p hp e => hn ⟨p, hp, e⟩
        obtain ⟨p, hp, rfl⟩ := this
        exact ⟨(p.1, v), List.mem_map.2 ⟨p, hp, by simp⟩, rfl⟩
      · by_cases e : p.1 = a
        · exact ⟨(a, v), List.mem_map.2 ⟨p, hp, by simp [e]⟩, e.symm⟩
        · exact ⟨p, List.mem_map.2 ⟨p, hp, by simp [e]⟩, rfl⟩
theorem asPut_apart {m : List (α × β)} (hd : m.Pairwise fun p q => p.1 ≠ q.1) (a : α) (v : β) : (asPut m a v).Pairwise fun p q => p.1 ≠ q.1 := by
  unfold asPut
  split
  · rename_i h
    exact List.pairwise_append.2 ⟨hd, List.pairwise_singleton _ _, fun p hp q hq => by rw [List.mem_singleton.1 hq]; exact h p hp⟩
  · rw [List.pairwise_map]
    refine hd.imp fun {p q} h => ?_
    by_cases e1 : p.1 = a <;> by_cases e2 : q.1 = a <;> simp [e1, e2]
    · exact h (e1.trans e2.symm)
    · exact fun e => e2 e.symm
    · exact h
theorem asPut_length (m : List (α × β)) (a : α) (v : β) : (asPut m a v).length ≤ m.length + 1 := by
  unfold asPut
  split <;> simp
theorem asGet_put (m : List (α × β)) (hd : m.Pairwise fun p q => p.1 ≠ q.1) (a : α) (v : β) (c : α) (d : β) : asGet (asPut m a v) c d = if c = a then v else asGet m c d := by
  by_cases h : c = a
  · rw [if_pos h]
    refine asGet_mem (asPut_apart hd a v) ?_
    subst h
    unfold asPut
    split
    · exact List.mem_append_right _ (List.mem_singleton.2 rfl)
    · rename_i hn
      have : ∃ p ∈ m, p.1 = c := Classical.byContradiction fun hx => hn fun p hp e => hx ⟨p, hp, e⟩
      obtain ⟨p, hp, rfl⟩ := this
      exact List.mem_map.2 ⟨p, hp, by simp⟩
  · rw [if_neg h]
    by_cases hc : ∀ p ∈ m, p.1 ≠ c
    · rw [asGet_none hc, asGet_none]
      intro p hp e
      rcases (asPut_keys m a v c).1 ⟨p, hp, e⟩ with e2 | ⟨q, hq, e2⟩
      · exact h e2
      · exact hc q hq e2
    · have : ∃ p ∈ m, p.1 = c := Classical.byContradiction fun hx => hc fun p hp e => hx ⟨p, hp, e⟩
      obtain ⟨p, hp, rfl⟩ := this
      rw [asGet_mem hd (v := p.2) hp, asGet_mem (asPut_apart hd a v) (v := p.2)]
      unfold asPut
      split
      · exact List.mem_append_left _ hp
      · exact List.mem_map.2 ⟨p, hp, by simp [h]⟩
def MapA (P : Program) (k : TypeId) (ek : α → Value) (ev : β → Value) (w : World) (b : Nat) (m : List (α × β)) : Prop :=
  ∃ arr clock, w.heap[b]? = some (.map arr clock) ∧ Stamped arr clock ∧ arr.toList.map (fun e => (e.key, e.val)) = m.map (fun p => (ek p.1, ev p.2)) ∧ ∀ e ∈ arr.toList, ∃ l, keyOf P k e.key = some l
variable {P : Program} {k : TypeId} {ek : α → Value} {ev : β → Value} {w w' : World} {b : Nat} {m : List (α × β)}
theorem MapA.lt (h : MapA P k ek ev w b m) : b < w.heap.size := by
  obtain ⟨_, _, hb, _⟩ := h
  exact (Array.getElem?_eq_some_iff.1 hb).1
theorem MapA.made (w : World) : MapA P k ek ev (w.alloc (.map #[] 0)) w.heap.size [] := ⟨#[], 0, heap_alloc_new w _, by simp [Stamped], rfl, by simp⟩
theorem MapA.same (h : MapA P k ek ev w b m) (e : w'.heap[b]? = w.heap[b]?) : MapA P k ek ev w' b m := by
  obtain ⟨arr, cl, hb, hr⟩ := h
  exact ⟨arr, cl, e.trans hb, hr⟩
theorem MapA.below (h : MapA P k ek ev w b m) (hb : Below w.heap.size w w') : MapA P k ek ev w' b m := h.same (hb.block b h.lt)
theorem MapA.grown {row : Option Nat} (h : MapA P k ek ev w b m) (hg : w.grownBy w' row) (hne : some b ≠ row) : MapA P k ek ev w' b m := h.same (hg.block b h.lt hne)
theorem MapA.far (h : MapA P k ek ev w b m) {a : Addr} (ha : b ≠ a.block) (u : Value) : MapA P k ek ev (w.setCell a u) b m := h.same (Below.heap_setCell _ _ _ _ ha)
theorem MapA.apart (hek : ∀ a c, ek a = ek c → a = c) (h : MapA P k ek ev w b m) : m.Pairwise fun p q => p.1 ≠ q.1 := by
  obtain ⟨arr, cl, hb, hs, hm, hk⟩ := h
  have h1 := ((stamped_iff arr cl).1 hs).2.2
  have h2 : (arr.toList.map (fun e => (e.key, e.val))).Pairwise fun p q => p.1 ≠ q.1 := List.pairwise_map.2 h1
  rw [hm, List.pairwise_map] at h2
  exact h2.imp fun {p q} h e => h (by simp [e])
theorem MapA.entry {arr : Array MapEntry} (h : arr.toList.map (fun e : MapEntry => (e.key, e.val)) = m.map (fun p => (ek p.1, ev p.2))) {e : MapEntry} (he : e ∈ arr.toList) : ∃ p ∈ m, e.key = ek p.1 ∧ e.val = ev p.2 := by
  have : (e.key, e.val) ∈ m.map (fun p => (ek p.1, ev p.2)) := by rw [← h]; exact List.mem_map.2 ⟨e, he, rfl⟩
  obtain ⟨p, hp, e2⟩ := List.mem_map.1 this
  exact ⟨p, hp, (congrArg Prod.fst e2).symm, (congrArg Prod.snd e2).symm⟩
theorem MapA.back {arr : Array MapEntry} (h : arr.toList.map (fun e : MapEntry => (e.key, e.val)) = m.map (fun p => (ek p.1, ev p.2))) {p : α × β} (hp : p ∈ m) : ∃ e ∈ arr.toList, e.key = ek p.1 ∧ e.val = ev p.2 := by
  have : (ek p.1, ev p.2) ∈ arr.toList.map (fun e : MapEntry => (e.key, e.val)) := by rw [h]; exact List.mem_map.2 ⟨p, hp, rfl⟩
  obtain ⟨e, he, e2⟩ := List.mem_map.1 this
  exact ⟨e, he, congrArg Prod.fst e2, congrArg Prod.snd e2⟩
theorem MapA.get {t e : TypeId} (h : MapA P k ek ev w b m) (hek : ∀ a c, ek a = ek c → a = c) (K : Keyed P k) (ht : P.underlying t = some (.map k e)) {d : β} (hz : (zeroValue e).run P w = .ok (ev d) w)
    {a : α} {kl : Lit} (hkey : keyOf P k (ek a) = some kl) : (Instr.lookup t (.map (some b)) (ek a) false).run P w = .ok (ev (asGet m a d)) w := by
  have hap := h.apart hek
  obtain ⟨arr, cl, hb, hs, hm, hk⟩ := h
  rcases K.find w hkey arr.toList hk with ⟨h1, h2⟩ | ⟨j, e0, h1, h2, h3⟩
  · have : asGet m a d = d := asGet_none fun p hp e => by
      obtain ⟨x, hx, ex, _⟩ := MapA.back hm hp
      exact h2 x hx (by rw [ex, e])
    rw [this]
    simp [Instr.lookup, run_underlying ht, MapKept.run_getObj_map hb, K.check w _ hkey, h1, hz, Result.andThen]
  · obtain ⟨p, hp, e1, e2⟩ := MapA.entry hm (List.mem_of_getElem? h2)
    have hpa : p.1 = a := hek _ _ (by rw [← e1, h3])
    have : asGet m a d = p.2 := asGet_mem hap (by rw [← hpa]; exact hp)
    rw [this, ← e2]
    simp [Instr.lookup, run_underlying ht, MapKept.run_getObj_map hb, K.check w _ hkey, h1, Result.andThen]
theorem MapA.put {t e : TypeId} (h : MapA P k ek ev w b m) (hek : ∀ a c, ek a = ek c → a = c) (K : Keyed P k) (ht : P.underlying t = some (.map k e)) (v : β)
    {a : α} {kl : Lit} (hkey : keyOf P k (ek a) = some kl) : ∃ w', (Instr.mapUpdate t (.map (some b)) (ek a) (ev v)).run P w = .ok () w' ∧ MapA P k ek ev w' b (asPut m a v) ∧ w.grownBy w' (some b) := by
  have hap := h.apart hek
  obtain ⟨arr, cl, hb, hs, hm, hk⟩ := h
  have hgr : ∀ o, w.grownBy (setBlock w b o) (some b) := fun o => ⟨rfl, rfl, rfl, by simp [setBlock], fun i _ hi => heap_setBlock_other hb _ (fun e => hi (by rw [e]))⟩
  rcases K.find w hkey arr.toList hk with ⟨h1, h2⟩ | ⟨j, e0, h1, h2, h3⟩
  · refine ⟨setBlock w b (.map (arr.push ⟨ek a, ev v, cl⟩) (cl + 1)), ?_, ⟨arr.push ⟨ek a, ev v, cl⟩, cl + 1, heap_setBlock_same hb _, stamped_push hs h2, ?_, ?_⟩, hgr _⟩
    · simp [Instr.mapUpdate, run_underlying ht, MapKept.run_getObj_map hb, K.check w false hkey, h1, MapKept.run_setObj_map _ hb, Result.andThen, setBlock]
    · have : ∀ p ∈ m, p.1 ≠ a := fun p hp e => by
        obtain ⟨x, hx, ex, _⟩ := MapA.back hm hp
        exact h2 x hx (by rw [ex, e])
      unfold asPut
      rw [if_pos this, Array.toList_push, List.map_append, hm, List.map_append]
      rfl
    · intro e he
      rw [Array.toList_push] at he
      rcases List.mem_append.1 he with he | he
      · exact hk e he
      · rw [List.mem_singleton.1 he]; exact ⟨kl, hkey⟩
  · have hj : arr[j]? = some e0 := by simpa using h2
    have hjl : j < arr.toList.length := (List.getElem?_eq_some_iff.1 h2).1
    have hkeyf : ∀ e', arr[j]? = some e' → ({ e' with key := ek a, val := ev v } : MapEntry).key = e'.key := fun e' he' => by rw [hj] at he'; cases he'; exact h3.symm
    have hlist : (arr.modify j (fun e' => { e' with key := ek a, val := ev v })).toList = arr.toList.set j { e0 with key := ek a, val := ev v } := by rw [Array.toList_modify, modify_eq_set _ _ _ _ h2]
    obtain ⟨p0, hp0, e1, e2⟩ := MapA.entry hm (List.mem_of_getElem? h2)
    have hpa : p0.1 = a := hek _ _ (by rw [← e1, h3])
    refine ⟨setBlock w b (.map (arr.modify j (fun e' => { e' with key := ek a, val := ev v })) cl), ?_, ⟨_, cl, heap_setBlock_same hb _, stamped_modify hs _ _ (fun _ _ => rfl) (fun e' _ he' => hkeyf e' he'), ?_, ?_⟩, hgr _⟩
    · simp [Instr.mapUpdate, run_underlying ht, MapKept.run_getObj_map hb, K.check w false hkey, h1, hj, h3, K.stays w hkey, MapKept.run_setObj_map _ hb, Result.andThen, setBlock]
    · have hn : ¬ ∀ p ∈ m, p.1 ≠ a := fun hx => hx p0 hp0 hpa
      unfold asPut
      rw [if_neg hn, hlist, List.map_set, hm, List.map_map]
      have hlen : arr.toList.length = m.length := by have := congrArg List.length hm; simpa using this
      refine List.ext_getElem (by simp) fun i h1 h2' => ?_
      have him : i < m.length := by simpa using h2'
      rw [List.getElem_set, List.getElem_map, List.getElem_map]
      have hkey2 : ∀ q, q < m.length → (hq : q < arr.toList.length) → ((arr.toList[q]'hq).key = ek (m[q]'(by omega)).1) := fun q hq hq' => by
        have := congrArg (fun l => (l[q]?).map Prod.fst) hm
        simp only [List.getElem?_map, List.getElem?_eq_getElem hq', List.getElem?_eq_getElem (show q < m.length by omega), Option.map_some] at this
        exact Option.some.inj this
      have hje : (arr.toList[j]'hjl) = e0 := by rw [List.getElem?_eq_getElem hjl] at h2; exact Option.some.inj h2
      by_cases hij : j = i
      · subst hij
        rw [if_pos rfl]
        have : (m[j]'him).1 = a := hek _ _ (by rw [← hkey2 j him hjl, hje, h3])
        simp [this]
      · rw [if_neg hij]
        have : (m[i]'him).1 ≠ a := fun e => by
          have h5 := List.pairwise_iff_getElem.1 ((stamped_iff arr cl).1 hs).2.2
          have hil : i < arr.toList.length := by omega
          have h6 : (arr.toList[i]'hil).key = (arr.toList[j]'hjl).key := by rw [hkey2 i him hil, hje, h3, e]
          rcases Nat.lt_or_ge i j with h | h
          · exact h5 i j hil hjl h h6
          · exact h5 j i hjl hil (by omega) h6.symm
        simp [this]
    · intro e he
      rw [hlist] at he
      rcases List.mem_or_eq_of_mem_set he with he | rfl
      · exact hk e he
      · exact ⟨kl, hkey⟩
end
end Go.Proofs.YthbcabnljcpaiaaGreatDoor.H
namespace Go.Proofs.YthbcabnljcpaiaaGreatDoor.H
open Go.RowKit Go.Shelf Go.Proofs.YthbcabnljcpaiaaGreatDoorW.PrintWords
set_option linter.unusedVariables false
attribute [local go_sem] Oper.semAt_some
abbrev NC (w : World) (A : Option Addr) (n : Nat) (xs : List Int) : Prop := Kd.C (Kd.int .u64) w A n xs
theorem NC.len {w : World} {A : Option Addr} {n : Nat} {xs : List Int} (h : NC w A n xs) : xs.length = n := h.1
theorem NC.max {w : World} {A : Option Addr} {n : Nat} {xs : List Int} (h : NC w A n xs) : n ≤ 9223372036854775807 := h.2.1
def bkl (n : Nat) : List (Fin n) := (List.finRange n).reverse
theorem bkl_length (n : Nat) : (bkl n).length = n := by simp [bkl]
theorem bkl_get {n k : Nat} (h : k < n) (h' : k < (bkl n).length) : (bkl n)[k] = ⟨n - 1 - k, by omega⟩ := by
  apply Fin.ext
  simp [bkl]
theorem bkl_succ {n k : Nat} (h : k < n) : (bkl n).take (k + 1) = (bkl n).take k ++ [⟨n - 1 - k, by omega⟩] := by
  rw [List.take_succ_eq_append_getElem (by rw [bkl_length]; exact h), bkl_get h]
theorem bkl_take_length {n k : Nat} (h : k ≤ n) : ((bkl n).take k).length = k := by rw [List.length_take, bkl_length]; omega
theorem bkl_mem {n k : Nat} (x : Fin n) (h : n - 1 - k ≤ x.1) (hk : k < n) : x ∈ (bkl n).take (k + 1) := by
  refine List.mem_iff_getElem.2 ⟨n - 1 - x.1, by rw [bkl_take_length (by omega)]; omega, ?_⟩
  rw [List.getElem_take, bkl_get (by omega)]
  apply Fin.ext
  simp; omega
def KpB (n₀ Bs : Nat) (W W' : World) : Prop := Below n₀ W W' ∧ W'.heap[Bs]? = W.heap[Bs]?
theorem KpB.t {n₀ Bs : Nat} {A B C : World} (h : KpB n₀ Bs A B) (k : KpB n₀ Bs B C) : KpB n₀ Bs A C := ⟨h.1.trans k.1, k.2.trans h.2⟩
theorem KpB.refl (n₀ Bs : Nat) (A : World) : KpB n₀ Bs A A := ⟨Below.refl _ _, rfl⟩
theorem KpB.b {n₀ Bs : Nat} {w : World} (h : n₀ ≤ w.heap.size) (hb : Bs < w.heap.size) (W : World) (l : Nat) (o o' : Obj) (hl : w.heap.size ≤ l) (ho : W.heap[l]? = some o) (hc : o.isCells = false) (hw : o.isWalk = false) : KpB n₀ Bs W (W.putObj l o') :=
  ⟨belowK_b h W l o o' hl ho hc hw, by
    have : l ≠ Bs := by omega
    simp [World.putObj, this]⟩
set_option maxRecDepth 100000 in
set_option maxHeartbeats 2000000 in
theorem bk1_in (F : Fence) (n : Nat) (hf : F.fn 213) (hro : F.round = none) (hn : 1 ≤ n) (l Bs : Nat) (A : Option Addr) (cap : Nat) (xs : List Int) (W0 : World) (hC : NC W0 A xs.length xs) (J Jx : List (Fin xs.length) → World → Prop)
    (hY : ∀ pre x W, J pre W → pre.length < xs.length → YieldAt F (n - 1) Tryz.prog l #[.int .i64 (x.1 : Int), .int .u64 (rd xs (x.1 : Int))] W fun e W' =>
      (e = .returned (.bool true) ∧ J (pre ++ [x]) W' ∧ KpB W0.heap.size Bs W W') ∨ (e = .returned (.bool false) ∧ Jx (pre ++ [x]) W'))
    (W : World) (hW0 : Below W0.heap.size W0 W) (hBs : Boxed W Bs 136 (.slice A xs.length cap)) (h0 : J [] W) :
    CallsIn F n Tryz.prog 213 #[.func (.yield l) #[] #[], .pointer (some ⟨Bs, 0, none⟩)] W fun e W' => (∃ v, e = .returned v) ∧
      ((∃ ys, ys = bkl xs.length ∧ J ys W') ∨ (∃ pre, (∃ k, k ≤ xs.length ∧ pre = (bkl xs.length).take k) ∧ Jx pre W')) := by
  have hmx := NC.max hC
  have hBc := hBs.cell
  refine callsIn_of_wp Tryz.func213 rfl hf ?_ hro
  simp only [Tryz.ntmps213, List.size_toArray, List.length_cons, List.length_nil, Nat.reduceAdd, Nat.reduceSub, Array.replicate_succ, Array.replicate_zero, List.push_toArray, List.append_toArray, List.nil_append, List.cons_append]
  gi_wp2
  clear hBc
  gi_loopw [3] (fun i wr => ∃ k : Nat, k ≤ xs.length ∧ i = .int .i64 ((xs.length : Int) - 1 - k) ∧ J ((bkl xs.length).take k) wr ∧ KpB W0.heap.size Bs W wr)
    (fun i _ => (intOf i + 1).toNat)
  case atStart => exact ⟨0, Nat.zero_le _, by simp, h0, KpB.refl _ _ _⟩
  case round =>
    obtain ⟨k, hk, rfl, hJs, hnx⟩ := hrel
    have hBs' : wr.cell? ⟨Bs, 0, none⟩ = some (.slice A xs.length cap) := Boxed.cell (t := 136) (hnx.2.trans hBs)
    by_cases hlt : k < xs.length
    · have hC' : NC wr A xs.length xs := Kd.C_below hC (hW0.trans hnx.1)
      have h01 : (0 : Int) ≤ (xs.length : Int) - 1 - k := by omega
      have h02 : (xs.length : Int) - 1 - k < xs.length := by omega
      obtain ⟨ad, rfl, hcell⟩ := Kd.at_int hC' ((xs.length : Int) - 1 - k) h01 h02
      rw [show ((xs.length : Int) - 1 - k).toNat = xs.length - 1 - k from by omega] at hcell
      obtain ⟨fn, tmps, assign, body, hy, hR⟩ := hY _ ⟨xs.length - 1 - k, by omega⟩ wr hJs (by rw [bkl_take_length hk]; exact hlt)
      simp only at hy
      rw [show ((xs.length - 1 - k : Nat) : Int) = (xs.length : Int) - 1 - k from by omega] at hy
      gi_wp2
      refine hR.mono ?_
      rintro e W3 (⟨rfl, hJ3, hk3⟩ | ⟨rfl, hJx3⟩)
      · gi_wp2
        go_roundw
        case rel => exact ⟨k + 1, by omega, by congr 1; omega, by rw [bkl_succ hlt]; exact hJ3, hnx.t hk3⟩
        case measure => simp [intOf]; omega
      · gi_wp2
        refine bodyPost_ret (results_none rfl _ _ _) rfl ?_
        exact ⟨⟨_, rfl⟩, .inr ⟨_, ⟨k + 1, by omega, (bkl_succ hlt).symm⟩, hJx3⟩⟩
    · obtain rfl : k = xs.length := by omega
      gi_wp2
      go_end0
      exact ⟨⟨_, rfl⟩, .inl ⟨_, rfl, by rw [List.take_of_length_le (by rw [bkl_length]; exact Nat.le_refl _)] at hJs; exact hJs⟩⟩
set_option maxHeartbeats 1000000 in
theorem bk_in (F : Fence) (n : Nat) (hf : F.fn 181) (hro : F.round = none) (a : Option Addr) (len cap : Nat) (w : World) :
    CallsIn F n Tryz.prog 181 #[.slice a len cap] w fun e w' => e = .returned (.func (.func 213) #[] #[.pointer (some ⟨w.heap.size, 0, none⟩)]) ∧ w' = w.alloc (.cells #[.slice a len cap] 136) := by
  refine callsIn_of_wp Tryz.func181 rfl hf ?_ hro
  simp only [Tryz.ntmps181, List.size_toArray, List.length_cons, List.length_nil, Nat.reduceAdd, Nat.reduceSub, Array.replicate_succ, Array.replicate_zero, List.push_toArray, List.append_toArray, List.nil_append, List.cons_append]
  gi_wp2
  go_ret
  exact ⟨rfl, rfl⟩
theorem bk_stops (F : Fence) (n : Nat) (hf : F.fn 213) (hro : F.round = none) (hn : 1 ≤ n) (Bs : Nat) (A : Option Addr) (cap : Nat) (xs : List Int) (W0 w : World) (hW0 : Below W0.heap.size W0 w) (hC : NC W0 A xs.length xs) (hBs : Boxed w Bs 136 (.slice A xs.length cap)) :
    SeqStopsK F n Tryz.prog 213 #[.pointer (some ⟨Bs, 0, none⟩)] (fun x : Fin xs.length => #[.int .i64 (x.1 : Int), .int .u64 (rd xs (x.1 : Int))]) (KpB W0.heap.size Bs) (fun ys => ys = bkl xs.length) (fun pre => ∃ k, k ≤ xs.length ∧ pre = (bkl xs.length).take k) xs.length w := fun l J Jx W hW _ _ hY h0 =>
  bk1_in F n hf hro hn l Bs A cap xs W0 hC J Jx hY W (hW0.trans (hW.mono hW0.size)) (blk_below hBs hW) h0
def cmpR : List Int → List Int → Int
  | x :: xs, y :: ys => if sg x y = 0 then cmpR xs ys else sg x y
  | _, _ => 0
def cmpN (xs ys : List Int) : Int := if sg xs.length ys.length = 0 then cmpR xs.reverse ys.reverse else sg xs.length ys.length
theorem cmpR_first : ∀ (xs ys : List Int) (k : Nat), k < xs.length → xs.length = ys.length → (∀ j, j < k → sg (xs.getD j 0) (ys.getD j 0) = 0) → sg (xs.getD k 0) (ys.getD k 0) ≠ 0 → cmpR xs ys = sg (xs.getD k 0) (ys.getD k 0)
  | [], _, k, h, _, _, _ => by simp at h
  | _ :: _, [], _, _, h, _, _ => by simp at h
  | x :: xs, y :: ys, 0, _, _, _, h => by simp only [List.getD_cons_zero] at h ⊢; rw [cmpR, if_neg h]
  | x :: xs, y :: ys, k + 1, h1, h2, h3, h4 => by
    have h0 := h3 0 (by omega)
    simp only [List.getD_cons_zero] at h0
    simp only [List.getD_cons_succ] at h4 ⊢
    rw [cmpR, if_pos h0]
    exact cmpR_first xs ys k (by simpa using h1) (by simpa using h2) (fun j hj => by have := h3 (j + 1) (by omega); simpa using this) h4
theorem cmpR_all : ∀ (xs ys : List Int), xs.length = ys.length → (∀ j, j < xs.length → sg (xs.getD j 0) (ys.getD j 0) = 0) → cmpR xs ys = 0
  | [], _, _, _ => by simp [cmpR]
  | _ :: _, [], h, _ => by simp at h
  | x :: xs, y :: ys, h2, h3 => by
    have h0 := h3 0 (by simp)
    simp only [List.getD_cons_zero] at h0
    rw [cmpR, if_pos h0]
    exact cmpR_all xs ys (by simpa using h2) (fun j hj => by have := h3 (j + 1) (by simpa using hj); simpa using this)
theorem rev_getD (xs : List Int) (k : Nat) (h : k < xs.length) : xs.reverse.getD k 0 = rd xs ((xs.length - 1 - k : Nat) : Int) := by
  have h2 : xs.length - 1 - k < xs.length := by omega
  simp [rd, List.getD, h, h2]
theorem boxKept {X Y : World} {B : Nat} {t : TypeId} {v : Value} {row : Option Nat} (h : Boxed X B t v) (hg : X.grownBy Y row) (hr : ∀ r, row = some r → ∃ o : Obj, X.heap[r]? = some o ∧ o.isCells = false) : Boxed Y B t v :=
  h.kept hg (fun e' => by obtain ⟨o, ho, hc⟩ := hr B e'.symm; rw [show X.heap[B]? = _ from h] at ho; cases ho; cases hc)
theorem boxSet {X : World} {B : Nat} {t : TypeId} {v : Value} (h : Boxed X B t v) (u : Value) : Boxed (X.setCell ⟨B, 0, none⟩ u) B t u := blk_set h 0 u
set_option maxRecDepth 100000 in
set_option maxHeartbeats 4000000 in
theorem compare_calls (A B : Option Addr) (c d : Nat) (xs ys : List Int) (w : World) (hA : NC w A xs.length xs) (hB : NC w B ys.length ys) (hc : xs.length ≤ c) (hd : ys.length ≤ d) :
    Calls Tryz.prog 144 #[.slice A xs.length c, .slice B ys.length d] w fun e w' => e = .returned (.int .i64 (cmpN xs ys)) ∧ Below w.heap.size w w' := by
  have hmx := NC.max hA
  have hmy := NC.max hB
  refine (callsIn_wide (n := 3)).1 ?_
  generalize hF : Fence.wide = F
  have hfn : ∀ g, F.fn g := by subst hF; intro g; trivial
  have hro : F.round = none := by subst hF; rfl
  have hwide : ∀ {n : Nat} {f : FuncId} {args : Array Value} {W : World} {R : Ending → World → Prop}, Calls Tryz.prog f args W R → CallsIn F n Tryz.prog f args W R := by subst hF; exact fun h => callsIn_wide.2 h
  refine callsIn_of_wp_marks Tryz.func144 rfl (hfn _) ?_ hro
  simp only [Tryz.ntmps144, List.size_toArray, List.length_cons, List.length_nil, Nat.reduceAdd, Nat.reduceSub, Array.replicate_succ, Array.replicate_zero, List.push_toArray, List.append_toArray, List.nil_append, List.cons_append]
  by_cases hs : sg xs.length ys.length = 0
  · have hs1 : (sg (xs.length : Int) (ys.length : Int) != 0) = false := by rw [hs]; rfl
    have hlen : xs.length = ys.length := by have := sg_zero.1 hs; omega
    have hlen' := Lib.hid hlen
    clear hs hlen
    gi_wp2_with (first | (gi_at_call 68; refine (hwide (cmp_int _ _ _)).mono ?_; rintro e w' ⟨rfl, rfl⟩) | (gi_at_call 181; refine (bk_in F _ (hfn _) hro _ _ _ _).mono ?_; rintro e w' ⟨rfl, rfl⟩))
    have bM := Boxed.new w 136 (.slice B ys.length d)
    have bR := Boxed.new (w.alloc (.cells #[.slice B ys.length d] 136)) 3 (.int .i64 0)
    have bN := Boxed.new ((w.alloc (.cells #[.slice B ys.length d] 136)).alloc (.cells #[.int .i64 0] 3)) 136 (.slice A xs.length c)
    simp only [World.size_alloc] at bR bN
    have bM' := (bM.alloc (.cells #[.int .i64 0] 3)).alloc (.cells #[.slice A xs.length c] 136)
    have bR' := bR.alloc (.cells #[.slice A xs.length c] 136)
    have hB0 : Below w.heap.size w (((w.alloc (.cells #[.slice B ys.length d] 136)).alloc (.cells #[.int .i64 0] 3)).alloc (.cells #[.slice A xs.length c] 136)) := (((Below.refl _ w).alloc (Nat.le_refl _) _).alloc (by simp) _).alloc (by simp; omega) _
    have hsz : (((w.alloc (.cells #[.slice B ys.length d] 136)).alloc (.cells #[.int .i64 0] 3)).alloc (.cells #[.slice A xs.length c] 136)).heap.size = w.heap.size + 3 := by simp
    generalize hW1 : (((w.alloc (.cells #[.slice B ys.length d] 136)).alloc (.cells #[.int .i64 0] 3)).alloc (.cells #[.slice A xs.length c] 136)) = W1 at *
    clear bM bR hW1
    let dif : Fin xs.length → Int := fun p => sg (rd xs (p.1 : Int)) (rd ys (p.1 : Int))
    refine wpIn_rangeFunc_ownG hro (by omega) (gf := 213) (lb := #[.pointer (some ⟨w.heap.size + 1 + 1, 0, none⟩)]) rfl (hfn _) (enters_of Tryz.func213 (by kernel_rfl) rfl)
      (bk_stops F _ (hfn _) hro (by omega) (w.heap.size + 1 + 1) A c xs w W1 hB0 hA bN) (fun h k => KpB.t h k) (KpB.b (by omega) (by omega)) (Below.refl _ _) (fun _ => rfl)
      (fun pre W => ((∀ p ∈ pre, dif p = 0) ∧ Boxed W w.heap.size 136 (.slice B ys.length d) ∧ Boxed W (w.heap.size + 1) 3 (.int .i64 0)) ∧ Below w.heap.size w W)
      (fun cc pre W => (cc = .ret ∧ ∃ ini last, pre = ini ++ [last] ∧ (∀ p ∈ ini, dif p = 0) ∧ dif last ≠ 0 ∧ Boxed W (w.heap.size + 1) 3 (.int .i64 (dif last))) ∧ Below w.heap.size w W)
      ?hI ?hIx ⟨⟨by simp, bM', bR'⟩, hB0⟩
      (fun x => { tmps := #[.slice A xs.length c, .slice B ys.length d, undef, .pointer (some ⟨w.heap.size, 0, none⟩), .pointer (some ⟨w.heap.size + 1, 0, none⟩), .int .i64 (sg xs.length ys.length), .int .i64 (x.1 : Int), .int .u64 (rd xs (x.1 : Int)), undef, .slice A xs.length c, .int .i64 xs.length, .slice B ys.length d, .int .i64 ys.length, .int .i64 (sg xs.length ys.length), .int .i64 (sg xs.length ys.length), .bool false, undef, .slice A xs.length c, .func (.func 213) #[] #[.pointer (some ⟨w.heap.size + 1 + 1, 0, none⟩)], .int .i64 (x.1 : Int), .int .u64 (rd xs (x.1 : Int)), undef, undef, undef, undef, undef, undef, undef, undef, undef], defers := [] }) ?assign ?body ?done ?stop
    case hI => exact OwnFrom.and (fun s X Y row hs hg hr => ⟨hs.1, boxKept hs.2.1 hg (fun r e => (hr r e).2), boxKept hs.2.2 hg (fun r e => (hr r e).2)⟩) (ownFrom_below (Nat.le_refl _) (by omega))
    case hIx => exact fun cc => OwnFrom.and (fun s X Y row hs hg hr => by obtain ⟨hc, ini, last, e1, e2, e3, e4⟩ := hs; exact ⟨hc, ini, last, e1, e2, e3, boxKept e4 hg (fun r e => (hr r e).2)⟩) (ownFrom_below (Nat.le_refl _) (by omega))
    case assign =>
      intro l x W K hK
      gi_wp2
      exact hK
    case body =>
      rintro l pre x W ⟨⟨hp, hbm, hbr⟩, hBW⟩ hpl
      have hbc := hbm.cell
      have hrc := hbr.cell
      have hrf := hbr.frozen
      have hx := x.2
      have hx1 : (x.1 : Int) < (ys.length : Int) := by have := hlen'.out; omega
      obtain ⟨ad, rfl, hcell⟩ := Kd.at_int (Kd.C_below hB hBW) (x.1 : Int) (by omega) hx1
      simp only [Int.toNat_natCast] at hcell
      by_cases hd0 : dif x = 0
      · have hd1 : (sg (rd xs (x.1 : Int)) (rd ys (x.1 : Int)) != 0) = false := by rw [show sg (rd xs (x.1 : Int)) (rd ys (x.1 : Int)) = 0 from hd0]; rfl
        have Hd0 := Lib.hid hd0
        clear hd0
        gi_wp2_with (gi_at_call 182; refine (CallsIn.inRound l (hwide (cmp_u64 _ _ _))).mono ?_; rintro e w' ⟨rfl, rfl⟩)
        exact ⟨KeepsFrom.refl _ _, KpB.refl _ _ _, ⟨fun p hp' => (List.mem_append.1 hp').elim (hp p) (fun e => by simp at e; subst e; exact Hd0.out), hbm, hbr⟩, hBW⟩
      · have hd1 : (sg (rd xs (x.1 : Int)) (rd ys (x.1 : Int)) != 0) = true := by rw [bne_iff_ne]; exact hd0
        have Hd0 := Lib.hid hd0
        clear hd0
        gi_wp2_with (gi_at_call 182; refine (CallsIn.inRound l (hwide (cmp_u64 _ _ _))).mono ?_; rintro e w' ⟨rfl, rfl⟩)
        exact ⟨(KeepsOthers.setCell _ _ _).from _, ⟨rfl, pre, x, rfl, hp, Hd0.out, boxSet hbr _⟩, hBW.setCell (p := ⟨w.heap.size + 1, 0, none⟩) (by simp) _⟩
    case done =>
      rintro D zs W hD rfl ⟨⟨hne, hbm, hbr⟩, hBW⟩ hK
      have hrc := hbr.cell
      have hrf := hbr.frozen
      gi_wp2
      have hK' := (KeepsOthers.setCell W ⟨w.heap.size + 1, 0, none⟩ (.int .i64 0)).same D _ hK rfl
      refine ⟨by simp, .inl ⟨_, _, rfl, run_takeDeferred hK', ?_⟩⟩
      have hc5 := cell_kept (boxSet hbr (.int .i64 0)).cell (grownBy_putObj' _ D (.deferred none)) (fun r e => by cases e; exact ⟨_, hK', rfl⟩)
      refine ⟨.int .i64 0, ?_, ?_, (hBW.setCell (p := ⟨w.heap.size + 1, 0, none⟩) (by simp) _).trans (belowK_b (w := w) (Nat.le_refl _) _ D _ _ (by omega) hK' rfl rfl)⟩
      · simp [results, Tryz.f144, go_sem, hc5]
      · refine ret_int ?_
        rw [cmpN, if_pos (sg_zero.2 (by have := hlen'.out; omega))]
        refine (cmpR_all _ _ (by simpa using hlen'.out) (fun j hj => ?_)).symm
        have hj' : j < xs.length := by simpa using hj
        rw [rev_getD _ _ hj', rev_getD _ _ (by have := hlen'.out; omega), ← hlen'.out]
        exact hne ⟨xs.length - 1 - j, by omega⟩ (by have := bkl_mem (n := xs.length) (k := xs.length - 1) ⟨xs.length - 1 - j, by omega⟩ (by simp) (by omega); rw [show xs.length - 1 + 1 = xs.length from by omega, List.take_of_length_le (by rw [bkl_length]; exact Nat.le_refl _)] at this; exact this)
    case stop =>
      rintro D cc pre W hD ⟨k, hk, rfl⟩ ⟨⟨rfl, ini, last, e1, e2, e3, hcr⟩, hBW⟩ hK
      gi_wp2
      refine ⟨by simp, .inl ⟨_, _, rfl, run_takeDeferred hK, ?_⟩⟩
      have hc5 := cell_kept hcr.cell (grownBy_putObj' _ D (.deferred none)) (fun r e => by cases e; exact ⟨_, hK, rfl⟩)
      refine ⟨.int .i64 (dif last), by simp [results, Tryz.f144, go_sem, hc5], ?_, hBW.trans (belowK_b (w := w) (Nat.le_refl _) W D _ _ (by omega) hK rfl rfl)⟩
      obtain ⟨k, rfl⟩ : ∃ k', k = k' + 1 := by
        cases k with
        | zero => simp at e1
        | succ k' => exact ⟨k', rfl⟩
      have hk' : k < xs.length := by omega
      rw [bkl_succ hk'] at e1
      obtain ⟨rfl, e5⟩ := List.append_inj' e1 rfl
      obtain rfl : (⟨xs.length - 1 - k, by omega⟩ : Fin xs.length) = last := by simpa using e5
      refine ret_int ?_
      have hl := hlen'.out
      rw [cmpN, if_pos (sg_zero.2 (by omega))]
      have hr1 : ∀ j, j < xs.length → sg (xs.reverse.getD j 0) (ys.reverse.getD j 0) = dif ⟨xs.length - 1 - j, by omega⟩ := fun j hj => by
        rw [rev_getD _ _ hj, rev_getD _ _ (by omega), ← hl]
      rw [cmpR_first xs.reverse ys.reverse k (by simpa using hk') (by simpa using hl) (fun j hj => ?_) (by rw [hr1 k hk']; exact e3), hr1 k hk']
      rw [hr1 j (by omega)]
      refine e2 _ ?_
      obtain ⟨k, rfl⟩ : ∃ k', k = k' + 1 := ⟨k - 1, by omega⟩
      exact bkl_mem _ (by simp; omega) (by omega)
  · have hs1 : (sg (xs.length : Int) (ys.length : Int) != 0) = true := by rw [bne_iff_ne]; exact hs
    have Hs := Lib.hid hs
    clear hs
    gi_wp2_with (first | (gi_at_call 68; refine (hwide (cmp_int _ _ _)).mono ?_; rintro e w' ⟨rfl, rfl⟩))
    refine ⟨.int .i64 (cmpN xs ys), ?_, rfl, ?_⟩
    · rw [cmpN, if_neg Hs.out]
      simp [results, Tryz.f144, go_sem]
    · exact ((Below.refl _ w).alloc (Nat.le_refl _) _).alloc (by simp) _
end Go.Proofs.YthbcabnljcpaiaaGreatDoor.H
namespace Go.Proofs.YthbcabnljcpaiaaGreatDoor.M
open Go.RowKit Go.Proofs.YthbcabnljcpaiaaGreatDoorW.PrintWords Go.Proofs.YthbcabnljcpaiaaGreatDoorW.PrintLast Go.Proofs.YthbcabnljcpaiaaGreatDoorW.PrintMore
attribute [local go_sem] max2_int min2_int max_two min_two max_three min_three max_four min_four
set_option linter.unusedVariables false
set_option linter.unusedSimpArgs false
def errW : Option Int → Value
  | none => .nilIface
  | some c => .iface 0 (.int .i64 c)
theorem errW_none : errW none = .nilIface := rfl
theorem errW_some (c : Int) : errW (some c) = .iface 0 (.int .i64 c) := rfl
theorem info167 : (Tryz.prog.info? 167).map (fun i => (i.zero, i.size, i.bytes)) = some (some (.int .u64 0), 1, 8) := by kernel_rfl
end Go.Proofs.YthbcabnljcpaiaaGreatDoor.M
