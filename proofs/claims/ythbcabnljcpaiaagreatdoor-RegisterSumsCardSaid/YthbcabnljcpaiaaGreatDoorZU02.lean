/- The parts of each company add up to what its holdings have: for every list of holdings and day the law returns true; the listed package-level variables are tied to the text of the program. -/
import Derived.Test.YthbcabnljcpaiaaGreatDoorZU00
import Derived.Test.YthbcabnljcpaiaaGreatDoorZU01
import Derived.Deep.QuietTactic
import Derived.BigQuiet
import Derived.Test.YthbcabnljcpaiaaGreatDoorZB33
import Derived.SevenTiedAt
set_option linter.all false
namespace Go.Proofs.YthbcabnljcpaiaaGreatDoor.H
open Go.RowKit Go.Shelf Go.Lib Go.Maps Go.Proofs.YthbcabnljcpaiaaGreatDoor.Q
set_option linter.unusedVariables false
theorem sum_add_map {κ : Type} (f g : κ → Int) (l : List κ) : (l.map fun k => f k + g k).sum = (l.map f).sum + (l.map g).sum := by
  induction l with
  | nil => rfl
  | cons x l ih => simp only [List.map_cons, List.sum_cons, ih]; omega
theorem sum_zero_map {κ : Type} (l : List κ) : (l.map fun _ => (0 : Int)).sum = 0 := by
  induction l with
  | nil => rfl
  | cons x l ih => simp only [List.map_cons, List.sum_cons, ih]; rfl
theorem sum_one {κ : Type} [DecidableEq κ] {l : List κ} (hn : l.Nodup) (a : κ) (v : Int) : (l.map fun k => if a = k then v else 0).sum = if a ∈ l then v else 0 := by
  induction l with
  | nil => simp
  | cons x l ih =>
    obtain ⟨h1, h2⟩ := List.nodup_cons.1 hn
    rw [List.map_cons, List.sum_cons, ih h2]
    by_cases e : a = x
    · subst e
      simp [h1]
    · simp [e]
theorem tot_sum {κ : Type} [DecidableEq κ] {ks : List κ} (hn : ks.Nodup) (P : κ → Prop) [DecidablePred P] (ds : List (κ × Int)) (h : ∀ d ∈ ds, d.1 ∈ ks) :
    (ks.map fun k => if P k then tot ds k else 0).sum = (ds.map fun d => if P d.1 then d.2 else 0).sum := by
  induction ds with
  | nil =>
    have : (fun k => if P k then tot ([] : List (κ × Int)) k else 0) = fun _ : κ => (0 : Int) := by funext k; simp [tot]
    rw [this, sum_zero_map]; rfl
  | cons d ds ih =>
    have e : (fun k => if P k then tot (d :: ds) k else 0) = fun k => (if d.1 = k then (if P d.1 then d.2 else 0) else 0) + (if P k then tot ds k else 0) := by
      funext k
      rw [tot_cons]
      by_cases hk : d.1 = k
      · subst hk; by_cases hp : P d.1 <;> simp [hp]
      · by_cases hp : P k <;> simp [hk, hp]
    rw [e, sum_add_map, sum_one hn, if_pos (h d List.mem_cons_self), ih fun x hx => h x (List.mem_cons_of_mem _ hx), List.map_cons, List.sum_cons]
theorem sumC_linkL {ps : List ByteArray} (hI : Inc ps) {cs : List ((ByteArray × ByteArray) × Int)} (hcs : ∀ c ∈ cs, c.1.1 ∈ ps ∧ c.1.2 ∈ ps) {i : Nat} (hi : i < ps.length) :
    sumC (i : Int) (linkL (addC ps cs [])) = (cs.map fun c => if c.1.1 = ps[i] then c.2 else 0).sum := by
  obtain ⟨a1, a2, a3⟩ := addC_get ps cs [] List.Pairwise.nil
  have hnd : (keysL (addC ps cs [])).Nodup := by
    have : ((addC ps cs []).map (·.1)).Nodup := List.pairwise_map.2 a1
    exact (List.mergeSort_perm _ _).nodup_iff.2 this
  have hks : ∀ d ∈ cs.map (fun c => (pos ps c.1, c.2)), d.1 ∈ keysL (addC ps cs []) := fun d hd => by
    obtain ⟨c, hc, rfl⟩ := List.mem_map.1 hd
    rw [keysL_mem, a3]
    exact .inl ⟨c, hc, rfl⟩
  have h := tot_sum hnd (fun k : Int × Int => k.1 = (i : Int)) _ hks
  have e1 : sumC (i : Int) (linkL (addC ps cs [])) = ((keysL (addC ps cs [])).map fun k => if k.1 = (i : Int) then tot (cs.map fun c => (pos ps c.1, c.2)) k else 0).sum := by
    unfold sumC linkL
    rw [List.map_map]
    congr 1
    refine List.map_congr_left fun k _ => ?_
    simp only [Function.comp]
    rw [a2, asGet_none (by simp), Int.zero_add]
  rw [e1, h, List.map_map]
  congr 1
  refine List.map_congr_left fun c hc => ?_
  simp only [Function.comp, pos]
  have hp := hcs c hc
  have : ((plc ps c.1.1 : Int) = (i : Int)) ↔ c.1.1 = ps[i] := by
    constructor
    · intro e
      obtain ⟨h1, e1⟩ := plc_spec hp.1
      rw [← e1]
      congr 1
      omega
    · intro e
      rw [e, plc_get hI hi]
  by_cases hh : c.1.1 = ps[i]
  · rw [if_pos hh]; exact if_pos (this.2 hh)
  · rw [if_neg hh]; exact if_neg (fun e => hh (this.1 e))
theorem sum_flat {α β : Type} (f : α → List β) (g : β → Int) (l : List α) : ((l.flatMap f).map g).sum = (l.map fun x => ((f x).map g).sum).sum := by
  induction l with
  | nil => rfl
  | cons x l ih => rw [List.flatMap_cons, List.map_append, List.sum_append, ih, List.map_cons, List.sum_cons]
theorem sum_const {α : Type} (l : List α) (v : Int) : (l.map fun _ => v).sum = (l.length : Int) * v := by
  induction l with
  | nil => simp
  | cons x l ih =>
    simp only [List.map_cons, List.sum_cons, ih, List.length_cons]
    rw [show ((l.length + 1 : Nat) : Int) = (l.length : Int) + 1 from rfl, Int.add_mul]
    omega
theorem ctr_sum (who : S36 → List ByteArray) (pc : S36 → Int) (day : Int) (x : S36) (name : ByteArray) :
    ((ctr who pc day x).map fun c => if c.1.1 = name then c.2 else 0).sum = if (Runs x day ∧ x.f1 = name) ∧ 0 < pc x then ((((who x).filter fun s => decide (s ≠ x.f1)).length : Nat) : Int) * (pc x * 60 / ((who x).length : Int)) else 0 := by
  unfold ctr
  by_cases h1 : Runs x day ∧ 0 < pc x
  · rw [if_pos h1, List.map_map]
    by_cases h2 : x.f1 = name
    · rw [if_pos ⟨⟨h1.1, h2⟩, h1.2⟩, ← sum_const]
      congr 1
      refine List.map_congr_left fun s _ => ?_
      simp [h2]
    · rw [if_neg (fun e => h2 e.1.2)]
      have : ((fun c : (ByteArray × ByteArray) × Int => if c.1.1 = name then c.2 else 0) ∘ fun s => ((x.f1, s), pc x * 60 / ((who x).length : Int))) = fun _ => (0 : Int) := by
        funext s
        simp [h2]
      rw [this, sum_zero_map]
  · rw [if_neg h1, if_neg (fun e => h1 ⟨e.1.1, e.2⟩)]; rfl
theorem whoC_ne {x : S36} (hp : Proper x) : ∀ s ∈ whoC x, s ≠ x.f1 := by
  intro s hs e
  obtain ⟨hpre, ⟨j1, j2, j3, j4⟩, _⟩ := hp
  unfold whoC at hs
  split at hs
  · exact j3 (e ▸ hs)
  · rw [List.mem_singleton.1 hs] at e
    exact j4 e.symm
theorem whoC_filter {x : S36} (hp : Proper x) : ((whoC x).filter fun s => decide (s ≠ x.f1)) = whoC x := List.filter_eq_self.2 fun s hs => decide_eq_true (whoC_ne hp s hs)
theorem whoC_size {x : S36} (hp : Proper x) : 1 ≤ (whoC x).length ∧ (whoC x).length ≤ 5 := by
  have h4 := hp.1.2.2.2.2.2.1
  unfold whoC
  split
  · simp; omega
  · simp
theorem div60 {n : Nat} (h1 : 1 ≤ n) (h5 : n ≤ 5) (p : Int) : (n : Int) * (p * 60 / (n : Int)) = p * 60 := by
  obtain rfl | rfl | rfl | rfl | rfl : n = 1 ∨ n = 2 ∨ n = 3 ∨ n = 4 ∨ n = 5 := by omega
  · show (1 : Int) * (p * 60 / 1) = p * 60; omega
  · show (2 : Int) * (p * 60 / 2) = p * 60; omega
  · show (3 : Int) * (p * 60 / 3) = p * 60; omega
  · show (4 : Int) * (p * 60 / 4) = p * 60; omega
  · show (5 : Int) * (p * 60 / 5) = p * 60; omega
theorem sums_cap {l : List S36} {day : Int} (h : atE l day = 0) {i : Nat} (hi : i < (partiesOf l).length) : sumC (i : Int) (atC l day) = 60 * capOn l day (partiesOf l)[i] := by
  rcases atE_cases l day with ⟨_, hv, hd⟩ | ⟨h1, _⟩
  · unfold atC linksOf
    rw [mapL_addC, sumC_linkL (inc_partiesOf l) (ctrs_in (whoC_in hv)) hi]
    unfold ctrs capOn
    rw [sum_flat]
    have key : ∀ t : List S36, (∀ x ∈ t, Proper x) → (t.map fun x => ((ctr whoC (·.f6) day x).map fun c => if c.1.1 = (partiesOf l)[i] then c.2 else 0).sum).sum = 60 * (t.map fun x => if Runs x day ∧ x.f1 = (partiesOf l)[i] then x.f6 else 0).sum := by
      intro t
      induction t with
      | nil => intro _; rfl
      | cons x t ih =>
        intro ht
        have hp := ht x List.mem_cons_self
        have h6 := hp.2.2.1
        rw [List.map_cons, List.map_cons, List.sum_cons, List.sum_cons, ih fun y hy => ht y (List.mem_cons_of_mem _ hy), ctr_sum, whoC_filter hp]
        obtain ⟨n1, n5⟩ := whoC_size hp
        rw [div60 n1 n5]
        by_cases hr : Runs x day ∧ x.f1 = (partiesOf l)[i]
        · rw [if_pos hr]
          by_cases h0 : 0 < x.f6
          · rw [if_pos ⟨hr, h0⟩]; omega
          · rw [if_neg (fun e => h0 e.2)]; omega
        · rw [if_neg hr, if_neg (fun e => hr e.1)]; omega
    exact key l hv.1.1
  · omega
def votS (l : List S36) (day : Int) (name : ByteArray) : Int := (l.map fun x => if (Runs x day ∧ x.f1 = name) ∧ x.f4 ≠ x.f1 then x.f7 else 0).sum
theorem sums_vot {l : List S36} {day : Int} (h : atE l day = 0) {i : Nat} (hi : i < (partiesOf l).length) : sumC (i : Int) (atV l day) = 60 * votS l day (partiesOf l)[i] := by
  rcases atE_cases l day with ⟨_, hv, hd⟩ | ⟨h1, _⟩
  · unfold atV linksOf
    rw [mapL_addC, sumC_linkL (inc_partiesOf l) (ctrs_in (whoV_in hv)) hi]
    unfold ctrs votS
    rw [sum_flat]
    have key : ∀ t : List S36, (∀ x ∈ t, Proper x) → (t.map fun x => ((ctr whoV (·.f7) day x).map fun c => if c.1.1 = (partiesOf l)[i] then c.2 else 0).sum).sum = 60 * (t.map fun x => if (Runs x day ∧ x.f1 = (partiesOf l)[i]) ∧ x.f4 ≠ x.f1 then x.f7 else 0).sum := by
      intro t
      induction t with
      | nil => intro _; rfl
      | cons x t ih =>
        intro ht
        have hp := ht x List.mem_cons_self
        have h7 := hp.2.2.2.1
        rw [List.map_cons, List.map_cons, List.sum_cons, List.sum_cons, ih fun y hy => ht y (List.mem_cons_of_mem _ hy), ctr_sum]
        have hval : ((((whoV x).filter fun s => decide (s ≠ x.f1)).length : Nat) : Int) * (x.f7 * 60 / ((whoV x).length : Int)) = if x.f4 ≠ x.f1 then x.f7 * 60 else 0 := by
          by_cases h4 : x.f4.size = 0
          · have hne : x.f4 ≠ x.f1 := fun e => by have := hp.1.2.1.1; rw [← e] at this; omega
            have e : whoV x = whoC x := by unfold whoV; rw [if_pos h4]
            rw [if_pos hne, e, whoC_filter hp]
            obtain ⟨n1, n5⟩ := whoC_size hp
            exact div60 n1 n5 _
          · have e : whoV x = [x.f4] := by unfold whoV; rw [if_neg h4]
            rw [e]
            by_cases hne : x.f4 ≠ x.f1
            · rw [if_pos hne]
              simp [hne]
            · rw [if_neg hne]
              have : x.f4 = x.f1 := Classical.not_not.1 hne
              simp [this]
        rw [hval]
        clear hval ih
        generalize (t.map fun x => if (Runs x day ∧ x.f1 = (partiesOf l)[i]) ∧ x.f4 ≠ x.f1 then x.f7 else 0).sum = T
        by_cases hr : Runs x day ∧ x.f1 = (partiesOf l)[i]
        · by_cases hq : x.f4 ≠ x.f1
          · rw [if_pos hq, if_pos (And.intro hr hq)]
            by_cases h0 : 0 < x.f7
            · rw [if_pos (And.intro hr h0)]; omega
            · rw [if_neg (fun e : (Runs x day ∧ x.f1 = (partiesOf l)[i]) ∧ 0 < x.f7 => h0 e.2)]; omega
          · rw [if_neg hq, if_neg (fun e : (Runs x day ∧ x.f1 = (partiesOf l)[i]) ∧ x.f4 ≠ x.f1 => hq e.2)]
            split <;> omega
        · rw [if_neg (fun e : (Runs x day ∧ x.f1 = (partiesOf l)[i]) ∧ 0 < x.f7 => hr e.1), if_neg (fun e : (Runs x day ∧ x.f1 = (partiesOf l)[i]) ∧ x.f4 ≠ x.f1 => hr e.1)]; omega
    exact key l hv.1.1
  · omega
end Go.Proofs.YthbcabnljcpaiaaGreatDoor.H
namespace Go.Proofs.YthbcabnljcpaiaaGreatDoor.H
open Go.RowKit Go.Shelf Go.Lib Go.Maps Go.Proofs.YthbcabnljcpaiaaGreatDoor.Q
set_option linter.unusedVariables false
theorem exists_max {α : Type} (P : α → Prop) (f : α → Int) (l : List α) (h : ∃ x ∈ l, P x) : ∃ x ∈ l, P x ∧ ∀ y ∈ l, P y → f y ≤ f x := by
  induction l with
  | nil => obtain ⟨x, hx, _⟩ := h; cases hx
  | cons a l ih =>
    by_cases hl : ∃ x ∈ l, P x
    · obtain ⟨x, hx, px, hm⟩ := ih hl
      by_cases hc : P a ∧ f x ≤ f a
      · refine ⟨a, List.mem_cons_self, hc.1, fun y hy py => ?_⟩
        rcases List.mem_cons.1 hy with rfl | hy
        · exact Int.le_refl _
        · exact Int.le_trans (hm y hy py) hc.2
      · refine ⟨x, List.mem_cons_of_mem _ hx, px, fun y hy py => ?_⟩
        rcases List.mem_cons.1 hy with rfl | hy
        · have : ¬ f x ≤ f y := fun e => hc ⟨py, e⟩
          omega
        · exact hm y hy py
    · obtain ⟨x, hx, px⟩ := h
      rcases List.mem_cons.1 hx with rfl | hx
      · refine ⟨x, List.mem_cons_self, px, fun y hy py => ?_⟩
        rcases List.mem_cons.1 hy with rfl | hy
        · exact Int.le_refl _
        · exact absurd ⟨y, hy, py⟩ hl
      · exact absurd ⟨x, hx, px⟩ hl
theorem sum_le_map {α : Type} {f g : α → Int} {l : List α} (h : ∀ x ∈ l, f x ≤ g x) : (l.map f).sum ≤ (l.map g).sum := by
  induction l with
  | nil => exact Int.le_refl _
  | cons x l ih =>
    have := ih fun y hy => h y (List.mem_cons_of_mem _ hy)
    have h0 := h x List.mem_cons_self
    simp only [List.map_cons, List.sum_cons]
    omega
theorem sum_nonneg_map {α : Type} {f : α → Int} {l : List α} (h : ∀ x ∈ l, 0 ≤ f x) : 0 ≤ (l.map f).sum := by
  have := sum_le_map (f := fun _ => (0 : Int)) (g := f) h
  rwa [sum_zero_map] at this
theorem days_le {l : List S36} (day : Int) (name : ByteArray) (F : S36 → Int) (hF : ∀ x ∈ l, 0 ≤ F x) (hb : ∀ x ∈ l, (l.map fun y => if Runs y x.f8 ∧ y.f1 = x.f1 then F y else 0).sum ≤ 100) :
    0 ≤ (l.map fun y => if Runs y day ∧ y.f1 = name then F y else 0).sum ∧ (l.map fun y => if Runs y day ∧ y.f1 = name then F y else 0).sum ≤ 100 := by
  refine ⟨sum_nonneg_map fun x hx => by have := hF x hx; split <;> omega, ?_⟩
  by_cases he : ∃ x ∈ l, Runs x day ∧ x.f1 = name
  · obtain ⟨x, hx, ⟨hr, hn⟩, hm⟩ := exists_max (fun x => Runs x day ∧ x.f1 = name) (fun x => x.f8) l he
    refine Int.le_trans (sum_le_map fun y hy => ?_) (hb x hx)
    have h0 := hF y hy
    by_cases hy2 : Runs y day ∧ y.f1 = name
    · have h1 := hm y hy hy2
      have h2 : Runs y x.f8 := by
        have a := hy2.1
        have b := hr
        unfold Runs at *
        omega
      rw [if_pos hy2, if_pos ⟨h2, by rw [hy2.2, hn]⟩]
      exact Int.le_refl _
    · rw [if_neg hy2]
      split <;> omega
  · have e : (l.map fun y => if Runs y day ∧ y.f1 = name then F y else 0).sum = 0 := by
      have : (l.map fun y => if Runs y day ∧ y.f1 = name then F y else 0) = l.map fun _ => (0 : Int) := List.map_congr_left fun y hy => if_neg fun h => he ⟨y, hy, h⟩
      rw [this, sum_zero_map]
    omega
theorem capDay_le {l : List S36} (hv : Valid l) (day : Int) (name : ByteArray) : 0 ≤ capOn l day name ∧ capOn l day name ≤ 100 :=
  days_le day name (·.f6) (fun x hx => (hv.1.pos x hx).1.1) fun x hx => (hv.2.2.2 x hx x hx).1
theorem votDay_le {l : List S36} (hv : Valid l) (day : Int) (name : ByteArray) : 0 ≤ votOn l day name ∧ votOn l day name ≤ 100 :=
  days_le day name (·.f7) (fun x hx => (hv.1.pos x hx).2.1) fun x hx => (hv.2.2.2 x hx x hx).2
theorem votS_le {l : List S36} (hv : Valid l) (day : Int) (name : ByteArray) : 0 ≤ votS l day name ∧ votS l day name ≤ 100 := by
  refine ⟨sum_nonneg_map fun x hx => by have := (hv.1.pos x hx).2.1; split <;> omega, Int.le_trans (sum_le_map fun x hx => ?_) (votDay_le hv day name).2⟩
  have := (hv.1.pos x hx).2.1
  by_cases h : Runs x day ∧ x.f1 = name
  · by_cases h2 : x.f4 ≠ x.f1
    · rw [if_pos ⟨h, h2⟩, if_pos h]; exact Int.le_refl _
    · rw [if_neg (fun e => h2 e.2), if_pos h]; exact this
  · rw [if_neg (fun e => h e.1), if_neg h]; exact Int.le_refl _
theorem linkL_nonneg {who : S36 → List ByteArray} {pc : S36 → Int} {ps : List ByteArray} {day : Int} {l : List S36} (hpc : ∀ x ∈ l, 0 ≤ pc x) : ∀ x ∈ linksOf who pc ps day l, 0 ≤ x.2 := by
  intro x hx
  unfold linksOf linkL at hx
  rw [mapL_addC] at hx
  obtain ⟨k, _, rfl⟩ := List.mem_map.1 hx
  obtain ⟨a1, a2, a3⟩ := addC_get ps (ctrs who pc day l) [] List.Pairwise.nil
  show 0 ≤ asGet (addC ps (ctrs who pc day l) []) k 0
  rw [a2, asGet_none (by simp), Int.zero_add]
  unfold tot
  rw [List.map_map]
  refine sum_nonneg_map fun c hc => ?_
  simp only [Function.comp]
  obtain ⟨y, hy, hcy⟩ := List.mem_flatMap.1 hc
  have h0 := hpc y hy
  unfold ctr at hcy
  split at hcy
  · obtain ⟨s, hs, rfl⟩ := List.mem_map.1 hcy
    split
    · exact Int.ediv_nonneg (by omega) (by omega)
    · exact Int.le_refl _
  · simp at hcy
end Go.Proofs.YthbcabnljcpaiaaGreatDoor.H
namespace Go.Proofs.YthbcabnljcpaiaaGreatDoor.H
open Go.RowKit Go.Shelf Go.Lib Go.Maps Go.Proofs.YthbcabnljcpaiaaGreatDoorW.PrintWords Go.Proofs.YthbcabnljcpaiaaGreatDoorW.PrintLast Go.Proofs.YthbcabnljcpaiaaGreatDoorW.PrintMore Go.Proofs.YthbcabnljcpaiaaGreatDoor.Q
set_option linter.unusedVariables false
theorem name_at {w : World} {A : Option Addr} {xs : List ByteArray} (h : Kd.C Kd.string w A xs.length xs) {i : Nat} (hi : i < xs.length) : ∃ ad, A = some ad ∧ w.cell? (ad.add i) = some (.string xs[i]) := by
  obtain ⟨ad, e, _, hc⟩ := sv_at h (i := i) (List.getElem?_eq_getElem hi)
  exact ⟨ad, e, hc⟩
def capT (l : List S36) (day : Int) (name : ByteArray) (k : Nat) : Int := capOn (l.take k) day name
def votT (l : List S36) (day : Int) (name : ByteArray) (k : Nat) : Int := votS (l.take k) day name
theorem capT_succ {l : List S36} {k : Nat} (hk : k < l.length) (day : Int) (name : ByteArray) : capT l day name (k + 1) = capT l day name k + if Runs (rd_T36 l (k : Int)) day ∧ (rd_T36 l (k : Int)).f1 = name then (rd_T36 l (k : Int)).f6 else 0 := by
  unfold capT capOn
  rw [List.take_succ_eq_append_getElem hk, List.map_append, List.sum_append, rd_nat hk]
  simp
theorem votT_succ {l : List S36} {k : Nat} (hk : k < l.length) (day : Int) (name : ByteArray) : votT l day name (k + 1) = votT l day name k + if (Runs (rd_T36 l (k : Int)) day ∧ (rd_T36 l (k : Int)).f1 = name) ∧ (rd_T36 l (k : Int)).f4 ≠ (rd_T36 l (k : Int)).f1 then (rd_T36 l (k : Int)).f7 else 0 := by
  unfold votT votS
  rw [List.take_succ_eq_append_getElem hk, List.map_append, List.sum_append, rd_nat hk]
  simp
theorem capT_rng {l : List S36} (hp : Pos l) (day : Int) (name : ByteArray) (k : Nat) : 0 ≤ capT l day name k ∧ capT l day name k ≤ (l.length : Int) * 100 := by
  unfold capT capOn
  have h1 : 0 ≤ ((l.take k).map fun x => if Runs x day ∧ x.f1 = name then x.f6 else 0).sum := sum_nonneg_map fun x hx => by have := hp x (List.mem_of_mem_take hx); split <;> omega
  have h2 : ((l.take k).map fun x => if Runs x day ∧ x.f1 = name then x.f6 else 0).sum ≤ ((l.take k).map fun _ => (100 : Int)).sum := sum_le_map fun x hx => by have := hp x (List.mem_of_mem_take hx); split <;> omega
  rw [sum_const] at h2
  have h3 : (l.take k).length ≤ l.length := List.length_take_le' _ _
  omega
theorem votT_rng {l : List S36} (hp : Pos l) (day : Int) (name : ByteArray) (k : Nat) : 0 ≤ votT l day name k ∧ votT l day name k ≤ (l.length : Int) * 100 := by
  unfold votT votS
  have h1 : 0 ≤ ((l.take k).map fun x => if (Runs x day ∧ x.f1 = name) ∧ x.f4 ≠ x.f1 then x.f7 else 0).sum := sum_nonneg_map fun x hx => by have := hp x (List.mem_of_mem_take hx); split <;> omega
  have h2 : ((l.take k).map fun x => if (Runs x day ∧ x.f1 = name) ∧ x.f4 ≠ x.f1 then x.f7 else 0).sum ≤ ((l.take k).map fun _ => (100 : Int)).sum := sum_le_map fun x hx => by have := hp x (List.mem_of_mem_take hx); split <;> omega
  rw [sum_const] at h2
  have h3 : (l.take k).length ≤ l.length := List.length_take_le' _ _
  omega
set_option maxRecDepth 100000 in
set_option maxHeartbeats 16000000 in
theorem sums_calls (l : List S36) (A : Option Addr) (c : Nat) (day : Int) (w : World) (hC : HC w A l) (hc : l.length ≤ c) (ht : Tab w) :
    Calls Tryz.prog 9 #[.slice A l.length c, .int .i64 day] w fun e w' => e = .returned (.bool true) ∧ Below w.heap.size w w' := by
  have hhd := head_calls w ht
  obtain ⟨b, hb, hfew⟩ := few_calls17 l
  have hfe := fun W (h : Below w.heap.size w W) => hfew A c W (Kd.C_below hC h) hc
  have Hhd := hid hhd
  have Hfe := hid hfe
  have Ht := hid ht
  clear hhd hfe hfew ht
  rcases b with _ | _
  · go_enter Tryz.func9, Tryz.ntmps9
    go_wp2_with (first | (go_at_call 10; refine Hhd.out.mono ?_; rintro e w1 ⟨rfl, hb1⟩) | (go_at_call 12; refine (Hfe.out _ hb1).mono ?_; rintro e w2 ⟨rfl, hb2⟩; have hw2 := bseq hb1 hb2))
    go_ret
    exact ⟨rfl, hw2⟩
  obtain ⟨h20, hfx⟩ := hb rfl
  have hM := few_modL ⟨h20, hfx⟩
  clear hb
  have hA1 := fun W (h : Below w.heap.size w W) => at_calls l A c day hM W (Kd.C_below hC h) hc (Ht.out.below h)
  by_cases z0 : atE l day = 0
  rotate_left
  · generalize rP l day = ps at *
    generalize rC l day = lc at *
    generalize rV l day = lv at *
    generalize atE l day = er at *
    have HA1 := hid hA1
    clear hA1
    go_enter Tryz.func9, Tryz.ntmps9
    go_wp2_with (first | (go_at_call 10; refine Hhd.out.mono ?_; rintro e w1 ⟨rfl, hb1⟩) | (go_at_call 12; refine (Hfe.out _ hb1).mono ?_; rintro e w2 ⟨rfl, hb2⟩; have hw2 := bseq hb1 hb2) | (go_at_call 13; (with_reducible refine (HA1.out _ hw2).mono ?_); rintro e w3 ⟨s0, s1, s2, rfl, hP, hCc, hVv, hb3⟩; obtain ⟨P0, p0, rfl, hp0, P0C⟩ := hP; obtain ⟨P1, p1, rfl, hp1, P1C⟩ := hCc; obtain ⟨P2, p2, rfl, hp2, P2C⟩ := hVv; have hw3 := below_alloc (bseq hw2 hb3) (.cells #[.slice P0 ps.length p0, .slice P1 lc.length p1, .slice P2 lv.length p2] 25)))
    go_ret
    exact ⟨rfl, hw3⟩
  · obtain ⟨_, hv, hd⟩ := (atE_cases l day).resolve_right fun h => by omega
    have eP : rP l day = partiesOf l := by unfold rP; rw [if_pos z0]
    have eC : rC l day = (atC l day).map linkS := by unfold rC; rw [if_pos z0]
    have eV : rV l day = (atV l day).map linkS := by unfold rV; rw [if_pos z0]
    have hlC := rC_len l day (by omega)
    have hlV := rV_len l day (by omega)
    have hpl : (partiesOf l).length ≤ 60 := hv.2.2.1
    rw [eC, List.length_map] at hlC
    rw [eV, List.length_map] at hlV
    rw [z0, eP, eC, eV] at hA1
    have hc1 : ∀ (i : Nat) (hi : i < (partiesOf l).length) W A c, Kd.C k42 W A ((atC l day).map linkS).length ((atC l day).map linkS) → ((atC l day).map linkS).length ≤ c → Tab W → Calls Tryz.prog 26 #[.slice A ((atC l day).map linkS).length c, .int .i64 (i : Int), .int .i64 (capOn l day (partiesOf l)[i])] W fun e w' => e = .returned (.bool true) ∧ Below W.heap.size W w' := fun i hi W A c h1 h2 h3 => by
      have := adds_calls (atC l day) A c (i : Int) _ (capDay_le hv day (partiesOf l)[i]) (linkL_nonneg fun x hx => (hv.1.pos x hx).1.1) (sums_cap z0 hi) hlC W h1 (by simpa using h2) h3
      rw [List.length_map]
      exact this
    have hc2 : ∀ (i : Nat) (hi : i < (partiesOf l).length) W A c, Kd.C k42 W A ((atV l day).map linkS).length ((atV l day).map linkS) → ((atV l day).map linkS).length ≤ c → Tab W → Calls Tryz.prog 26 #[.slice A ((atV l day).map linkS).length c, .int .i64 (i : Int), .int .i64 (votS l day (partiesOf l)[i])] W fun e w' => e = .returned (.bool true) ∧ Below W.heap.size W w' := fun i hi W A c h1 h2 h3 => by
      have := adds_calls (atV l day) A c (i : Int) _ (votS_le hv day (partiesOf l)[i]) (linkL_nonneg fun x hx => (hv.1.pos x hx).2.1) (sums_vot z0 hi) hlV W h1 (by simpa using h2) h3
      rw [List.length_map]
      exact this
    have hpos := hv.1.pos
    clear eP eC eV hlC hlV z0 hv hd
    generalize (atC l day).map linkS = lc at *
    generalize (atV l day).map linkS = lv at *
    generalize partiesOf l = ps at *
    have HA1 := hid hA1
    have HC1 := hid hc1
    have HC2 := hid hc2
    have HPos := hid hpos
    clear hA1 hc1 hc2 hpos
    go_enter Tryz.func9, Tryz.ntmps9
    go_wp2_with (first | (go_at_call 10; refine Hhd.out.mono ?_; rintro e w1 ⟨rfl, hb1⟩) | (go_at_call 12; refine (Hfe.out _ hb1).mono ?_; rintro e w2 ⟨rfl, hb2⟩; have hw2 := bseq hb1 hb2) | (go_at_call 13; (with_reducible refine (HA1.out _ hw2).mono ?_); rintro e w3 ⟨s0, s1, s2, rfl, hP, hCc, hVv, hb3⟩; obtain ⟨P0, p0, rfl, hp0, P0C⟩ := hP; obtain ⟨P1, p1, rfl, hp1, P1C⟩ := hCc; obtain ⟨P2, p2, rfl, hp2, P2C⟩ := hVv; have hw3 := bseq hw2 hb3; have R3 := Bx.new w3 25 #[.slice P0 ps.length p0, .slice P1 lc.length p1, .slice P2 lv.length p2]; have g3 := below_alloc (Below.refl w3.heap.size w3) (.cells #[.slice P0 ps.length p0, .slice P1 lc.length p1, .slice P2 lv.length p2] 25); have hw4 := bseq hw3 g3))
    obtain ⟨W4, hW4⟩ : ∃ W4, W4 = w3.alloc (.cells #[.slice P0 ps.length p0, .slice P1 lc.length p1, .slice P2 lv.length p2] 25) := ⟨_, rfl⟩
    rw [← hW4] at R3 g3 hw4 ⊢
    clear hW4
    go_loopg [8] ps.length (fun g v8 wr => ∃ i : Nat, v8 = .int .i64 i ∧ g + i = ps.length ∧ Below W4.heap.size W4 wr)
    case atStart => exact ⟨0, rfl, by omega, Below.refl _ _⟩
    case round =>
      obtain ⟨i, rfl, hgi, hBr⟩ := hrel
      have hBW := bseq hw4 hBr
      have RA := R3.below hBr
      have cA := RA.cell
      have lA := RA.lt
      by_cases hi : i < ps.length
      · have hC1 := HC1.out i hi
        have hC2 := HC2.out i hi
        have hn := fun W (h : Below w3.heap.size w3 W) => name_at (Kd.C_below P0C h) hi
        generalize hnm : ps[i] = name at *
        clear hnm
        have HC1i := hid hC1
        have HC2i := hid hC2
        have Hn := hid hn
        clear hC1 hC2 hn
        obtain ⟨wo, rfl⟩ : ∃ wo : World, wo = wr := ⟨_, rfl⟩
        obtain ⟨ad0, rfl, d0⟩ := Hn.out wo (bseq g3 hBr)
        have hg1 := bseq g3 hBr
        go_wp2_with (fail)
        go_loopg [9, 10, 11] l.length (fun g v9 v10 v11 wi => ∃ k : Nat, v9 = .int .i64 (capT l day name k) ∧ v10 = .int .i64 (votT l day name k) ∧ v11 = .int .i64 k ∧ g + k = l.length ∧ Below wo.heap.size wo wi)
        case atStart => exact ⟨0, rfl, rfl, rfl, by omega, Below.refl _ _⟩
        case round =>
          obtain ⟨k, rfl, rfl, rfl, hgk, hBi⟩ := hrel
          have hBWi := bseq hBW hBi
          have RI := RA.below hBi
          clear cA lA
          have cA := RI.cell
          have lA := RI.lt
          by_cases hk : k < l.length
          · obtain ⟨ad, A5, c5, rfl, a0, a1, a2, a3, a4, a5, a6, a7, a8, a9, j5, J5⟩ := at36 hC hBWi k hk
            have d1 := cellB hBi d0
            have n0 := World.block_lt_of_cell? _ _ d1
            have sC := capT_succ hk day name
            have sV := votT_succ hk day name
            have rC := capT_rng HPos.out day name k
            have rV := votT_rng HPos.out day name k
            have px := HPos.out (rd_T36 l (k : Int)) (by simp [rd_T36, hk])
            generalize rd_T36 l (k : Int) = x at *
            generalize capT l day name k = C at *
            generalize votT l day name k = V at *
            clear j5 J5
            have HsC := hid sC
            have HsV := hid sV
            clear sC sV
            have hno : ¬ (Runs x day ∧ x.f1 = name) → C = capT l day name (k + 1) ∧ V = votT l day name (k + 1) := fun h => ⟨by rw [HsC.out, if_neg h]; omega, by rw [HsV.out, if_neg (fun e => h e.1)]; omega⟩
            have Hno := hid hno
            clear hno
            by_cases e1 : x.f1 = name
            · have hrw := e1
              rw [e1] at a1
              clear e1
              have E1 := hid hrw
              clear hrw
              by_cases e2 : day < x.f8
              · have dd2 : decide (day < x.f8) = true := decide_eq_true e2
                obtain ⟨u1, u2⟩ := Hno.out fun h => by have := h.1.1; omega
                have U1 := hid u1
                have U2 := hid u2
                clear u1 u2
                go_wp2_with (fail)
                go_quiet (fail)
                go_wp2_with (fail)
                go_roundg (l.length - (k + 1))
                case rel => exact ⟨k + 1, by rw [U1.out], by rw [U2.out], by go_num, by omega, below_drewN (below_alloc hBi _) _⟩
                case measure => omega
              · have dd2 : decide (day < x.f8) = false := decide_eq_false e2
                by_cases e3 : x.f9 = -1
                · have b3 : (x.f9 != -1) = false := by rw [e3]; rfl
                  have b3' : (x.f9 == -1) = true := by rw [e3]; rfl
                  have hr : Runs x day := ⟨by omega, .inl e3⟩
                  have E3 := hid e3
                  clear e3
                  have HR := hid hr
                  clear hr
                  by_cases e5 : x.f4 = x.f1
                  · have E5 := hid e5
                    rw [e5, E1.out] at a4
                    clear e5
                    go_wp2_with (fail)
                    go_quiet (fail)
                    go_wp2_with (fail)
                    go_roundg (l.length - (k + 1))
                    case rel => exact ⟨k + 1, by rw [HsC.out, if_pos ⟨HR.out, E1.out⟩], by rw [HsV.out, if_neg (fun e => e.2 E5.out)]; exact congrArg _ (by omega), by go_num, by omega, below_drewN (below_alloc hBi _) _⟩
                    case measure => omega
                  · have q1 : (x.f4.toList == name.toList) = false := by rw [beq_eq_false_iff_ne]; intro h; exact e5 (by rw [E1.out]; rw [Lib.toList_data, Lib.toList_data] at h; exact data_inj h)
                    have q2 : (x.f4.toList != name.toList) = true := by rw [bne, q1]; rfl
                    have E5 := hid e5
                    clear e5
                    go_wp2_with (fail)
                    go_quiet (fail)
                    go_wp2_with (fail)
                    go_roundg (l.length - (k + 1))
                    case rel => exact ⟨k + 1, by rw [HsC.out, if_pos ⟨HR.out, E1.out⟩], by rw [HsV.out, if_pos ⟨⟨HR.out, E1.out⟩, E5.out⟩], by go_num, by omega, below_drewN (below_alloc hBi _) _⟩
                    case measure => omega
                · have b3 : (x.f9 != -1) = true := by rw [bne, beq_eq_false_iff_ne.2 e3]; rfl
                  have b3' : (x.f9 == -1) = false := beq_eq_false_iff_ne.2 e3
                  by_cases e4 : x.f9 ≤ day
                  · have dd4 : decide (x.f9 ≤ day) = true := decide_eq_true e4
                    obtain ⟨u1, u2⟩ := Hno.out fun h => by rcases h.1.2 with h | h <;> omega
                    have U1 := hid u1
                    have U2 := hid u2
                    clear u1 u2
                    go_wp2_with (fail)
                    go_quiet (fail)
                    go_wp2_with (fail)
                    go_roundg (l.length - (k + 1))
                    case rel => exact ⟨k + 1, by rw [U1.out], by rw [U2.out], by go_num, by omega, below_drewN (below_alloc hBi _) _⟩
                    case measure => omega
                  · have dd4 : decide (x.f9 ≤ day) = false := decide_eq_false e4
                    have hr : Runs x day := ⟨by omega, .inr (by omega)⟩
                    have HR := hid hr
                    clear hr
                    by_cases e5 : x.f4 = x.f1
                    · have E5 := hid e5
                      rw [e5, E1.out] at a4
                      clear e5
                      go_wp2_with (fail)
                      go_quiet (fail)
                      go_wp2_with (fail)
                      go_roundg (l.length - (k + 1))
                      case rel => exact ⟨k + 1, by rw [HsC.out, if_pos ⟨HR.out, E1.out⟩], by rw [HsV.out, if_neg (fun e => e.2 E5.out)]; exact congrArg _ (by omega), by go_num, by omega, below_drewN (below_alloc hBi _) _⟩
                      case measure => omega
                    · have q1 : (x.f4.toList == name.toList) = false := by rw [beq_eq_false_iff_ne]; intro h; exact e5 (by rw [E1.out]; rw [Lib.toList_data, Lib.toList_data] at h; exact data_inj h)
                      have q2 : (x.f4.toList != name.toList) = true := by rw [bne, q1]; rfl
                      have E5 := hid e5
                      clear e5
                      go_wp2_with (fail)
                      go_quiet (fail)
                      go_wp2_with (fail)
                      go_roundg (l.length - (k + 1))
                      case rel => exact ⟨k + 1, by rw [HsC.out, if_pos ⟨HR.out, E1.out⟩], by rw [HsV.out, if_pos ⟨⟨HR.out, E1.out⟩, E5.out⟩], by go_num, by omega, below_drewN (below_alloc hBi _) _⟩
                      case measure => omega
            · have q1 : (x.f1.toList == name.toList) = false := by rw [beq_eq_false_iff_ne]; intro h; exact e1 (by rw [Lib.toList_data, Lib.toList_data] at h; exact data_inj h)
              have q2 : (x.f1.toList != name.toList) = true := by rw [bne, q1]; rfl
              obtain ⟨u1, u2⟩ := Hno.out fun h => e1 h.2
              have U1 := hid u1
              have U2 := hid u2
              clear u1 u2
              go_wp2_with (fail)
              go_quiet (fail)
              go_wp2_with (fail)
              go_roundg (l.length - (k + 1))
              case rel => exact ⟨k + 1, by rw [U1.out], by rw [U2.out], by go_num, by omega, below_drewN (below_alloc hBi _) _⟩
              case measure => omega
          · have hkl : k = l.length := by omega
            have ec : capT l day name k = capOn l day name := by unfold capT; rw [List.take_of_length_le (by omega)]
            have ev : votT l day name k = votS l day name := by unfold votT; rw [List.take_of_length_le (by omega)]
            rw [ec, ev]
            clear ec ev
            generalize capOn l day name = C at *
            generalize votS l day name = V at *
            go_wp2_with (first | (go_at_call 26; (with_reducible refine (HC1i.out _ _ _ (Kd.C_below P1C (bseq hg1 hBi)) hp1 (Ht.out.below hBWi)).mono ?_); rintro e w7 ⟨rfl, hb7⟩; have h7 := bseq hBWi hb7; have RB := RI.below hb7; have cB := RB.cell; have lB := RB.lt; have hg7 := bseq (bseq hg1 hBi) hb7) | (go_at_call 26; (with_reducible refine (HC2i.out _ _ _ (Kd.C_below P2C hg7) hp2 (Ht.out.below h7)).mono ?_); rintro e w8 ⟨rfl, hb8⟩; have h8 := bseq h7 hb8))
            go_roundg (ps.length - (i + 1))
            case rel => exact ⟨i + 1, by go_num, by omega, bseq hBr (bseq (bseq hBi hb7) hb8)⟩
            case measure => omega
      · go_wp2_with (fail)
        go_ret
        exact ⟨rfl, hBW⟩
end Go.Proofs.YthbcabnljcpaiaaGreatDoor.H
namespace Go.Proofs.YthbcabnljcpaiaaGreatDoor
open Go.RowKit Go.Shelf Go.Lib Go.ChangeShapes Go.WideShapes Go.ChangeAt Go.Deep Go.Proofs.YthbcabnljcpaiaaGreatDoorW.PrintWords Go.Proofs.YthbcabnljcpaiaaGreatDoor.Q Go.Proofs.YthbcabnljcpaiaaGreatDoor.H
set_option linter.unusedVariables false
set_option maxRecDepth 100000 in
theorem registerSums_contract (E : Type) (enc : TypeId × Value → E) (W : World) (base : Nat) (args : Array Value) (ds gs : List (DataW E)) (before : List MemPlace)
    (hval : ∀ (j : Nat) t v, Tryz.f9.params[j]? = some t → args[j]? = some v → Value.okWide Tryz.prog W .any base t v)
    (hW : DataW.Whole enc Tryz.prog Tryz.f9.params.toList Rows.registerSumsSpec.vars false W args.toList ds gs before) (hL : laidMetH Tryz.prog Rows.registerSumsRow.laid W) :
    Calls Tryz.prog 9 args W fun e W' => ∃ v, e = .returned v ∧ Rows.registerSumsSpec.post enc Tryz.prog Tryz.f9 false true false false W args v W' := by
  have hW' := hW
  obtain ⟨p, q, hA0, hV, rfl, hfz, hnd⟩ := hW
  have hA : DataW.TrodAll enc Tryz.prog W 0 (fun _ => true) true Tryz.f9.params.toList args.toList ds p := hA0
  rw [Tryz.params9] at hA hval
  obtain ⟨v0, vs0, d0, ds0, p0, q0, hargs, rfl, rfl, h0, r0⟩ := trodAll_cons hA
  obtain ⟨v1, vs1, d1, ds1, p1, q1, rfl, rfl, rfl, h1, r1⟩ := trodAll_cons r0
  obtain ⟨rfl, rfl, rfl⟩ := trodAll_nil r1
  obtain rfl : args = #[v0, v1] := by cases args; simp_all
  obtain ⟨rfl, rfl⟩ := trodVars_none hV
  obtain ⟨a0, len0, cap0, rfl⟩ := okWide_slice Tryz.underlying26 (hval 0 26 v0 rfl rfl)
  have k0 := h0
  have lt0 : ∀ x ∈ p0, x.block < W.heap.size := by obtain ⟨m, hm⟩ := k0; exact DataW.trod_lt m _ _ _ hm
  obtain ⟨l0, rfl, hc0, hC0, hI0⟩ : ∃ l : List S36, l.length = len0 ∧ len0 ≤ cap0 ∧ HC W a0 l ∧ ∀ y ∈ l, I64 y.f6 ∧ I64 y.f7 ∧ I64 y.f8 ∧ I64 y.f9 := by
    obtain ⟨fuel, hf⟩ := h0
    exact open_holdings hf
  obtain ⟨n1, rfl, rfl, rfl, w1⟩ := open_int Tryz.underlying3 (hval 1 3 v1 rfl rfl) h1
  clear hA0 hval
  have T : Tab W := table hL
  refine (sums_calls l0 a0 cap0 n1 W hC0 hc0 T).mono fun e W' ⟨he, bel⟩ => ?_
  subst he
  exact ⟨_, rfl, _, _, _, [], _, [], hW', trodAll_mk1 (shut_bool Tryz.underlying4 _), trodAll_cons_mk (Below.trod laidOut (by kernel_rfl) (of_decide_eq_true (by kernel_rfl)) k0 bel lt0) (trodAll_cons_mk (shut_int Tryz.underlying3 w1) trodAll_mk0), rfl, bel.frame _, fun h => by cases h⟩
end Go.Proofs.YthbcabnljcpaiaaGreatDoor
namespace Go.Proofs.YthbcabnljcpaiaaGreatDoor
open Go.RowKit Go.Shelf Go.Lib Go.ChangeShapes Go.WideShapes Go.ChangeAt Go.Deep Go.Proofs.YthbcabnljcpaiaaGreatDoorW.PrintWords Go.Proofs.YthbcabnljcpaiaaGreatDoor.Q Go.Proofs.YthbcabnljcpaiaaGreatDoor.H
set_option linter.unusedVariables false
theorem registerSums_reads (os : Os) {E : Type} (enc : TypeId × Value → E) : ∃ places, DataW.whole enc Tryz.prog ((laidWorld os).forCall (fun _ _ => 0) ⟨#[], #[.slice none 0 0, .int .i64 0], []⟩).memory Tryz.f9.params.toList Rows.registerSumsSpec.vars false #[Value.slice none 0 0, .int .i64 0].toList 8 = some ([.nil, .lit (.int .i64 0)], [], places) :=
  ⟨[], by kernel_rfl⟩
theorem registerSums_laid (os : Os) : laidMet Tryz.prog Rows.registerSumsRow.laid ((laidWorld os).forCall (fun _ _ => 0) ⟨#[], #[.slice none 0 0, .int .i64 0], []⟩).memory := laid_met os
set_option maxRecDepth 100000 in
theorem registerSums_lifted (os : Os) (started : os.Started) (E : Type) (enc : TypeId × Value → E) (F : Stop.Interp) :
    ReturnsInHanded {} Tryz.checked os 9 .any ((OpenSpec.ofChange Rows.registerSumsSpec).preRow enc Tryz.prog Tryz.f9 Rows.registerSumsRow.domain false Rows.registerSumsRow.laid) (((OpenSpec.ofChange Rows.registerSumsSpec).at F).post enc Tryz.prog Tryz.f9 false true false false) := by
  obtain ⟨places, hx⟩ := registerSums_reads os enc
  refine returnsInHanded_of_row (C := Tryz.checked) (s := OpenSpec.ofChange Rows.registerSumsSpec) own started (by kernel_rfl) Tryz.func9
    (witness_row_at (enc := enc) (C := Tryz.checked) false (laidWorld os) #[.slice none 0 0, .int .i64 0] rfl (by kernel_rfl) (by kernel_rfl) (by kernel_rfl)
      (OpenSpec.preRow_of_cond 8 hx (by kernel_rfl) (fun k hk => by cases hk) (by kernel_rfl) (registerSums_laid os))) ?_
  intro W base args ds gs before hval hW _ _ _ hL _ _
  exact registerSums_contract E enc W base args ds gs before hval hW hL
end Go.Proofs.YthbcabnljcpaiaaGreatDoor
namespace Go.Proofs.YthbcabnljcpaiaaGreatDoor
open Go.RowKit Go.Shelf Go.Lib Go.ChangeShapes Go.WideShapes Go.ChangeAt Go.Deep Go.Proofs.YthbcabnljcpaiaaGreatDoorW.PrintWords Go.Proofs.YthbcabnljcpaiaaGreatDoor.Q Go.Proofs.YthbcabnljcpaiaaGreatDoor.H
set_option linter.unusedVariables false
theorem registerSums_said : Rows.RegisterSumsSaid :=
  OpenClaim.holds_of_cond 9 Tryz.f9 rfl rfl rfl rfl rfl rfl rfl ⟨rfl, rfl, rfl, rfl, rfl⟩ rfl rfl rfl rfl rfl (by kernel_rfl) Tryz.func9 (by kernel_rfl)
    (of_decide_eq_true (by kernel_rfl)) (by unfold Func.isWrapper; first | (rw [if_pos (by decide +kernel)]; kernel_rfl) | (rw [if_neg (by decide +kernel)]; exact ⟨rfl, rfl⟩))
    (fun os started E enc _ F => by rw [OpenClaim.pre_eq_preRow]; exact registerSums_lifted os started E enc F)
end Go.Proofs.YthbcabnljcpaiaaGreatDoor
namespace Go.Proofs.YthbcabnljcpaiaaGreatDoor
open Go.RowKit Go.Shelf Go.Lib Go.ChangeShapes Go.WideShapes Go.ChangeAt Go.Deep Go.Proofs.YthbcabnljcpaiaaGreatDoorW.PrintWords Go.Proofs.YthbcabnljcpaiaaGreatDoor.Q Go.Proofs.YthbcabnljcpaiaaGreatDoor.H
set_option linter.unusedVariables false
theorem registerSums_plain (f : FuncId) (fn : Func) (hf : Tryz.pinned.checked.prog.funcNamed "customhouse/customhouselaw17.RegisterSums" = some f) (hfn : Tryz.pinned.checked.prog.funcs[f]? = some fn) :
    true = Tryz.pinned.checked.prog.looks [] ∧ ∀ (j : Nat) t, fn.params[j]? = some t → Tryz.pinned.checked.prog.wantsStandIn t = false := by
  obtain rfl : f = 9 := Option.some.inj ((show Tryz.prog.funcNamed "customhouse/customhouselaw17.RegisterSums" = some 9 by kernel_rfl).symm.trans hf) |>.symm
  obtain rfl : fn = Tryz.f9 := (Option.some.inj (Tryz.func9.symm.trans hfn)).symm
  refine ⟨by kernel_rfl, fun j t ht => ?_⟩
  rw [Tryz.params9] at ht
  have hm : t = 26 ∨ t = 3 := by simpa using Array.mem_of_getElem? ht
  rcases hm with rfl | rfl
  · exact (show Tryz.prog.wantsStandIn 26 = false by kernel_rfl)
  · exact (show Tryz.prog.wantsStandIn 3 = false by kernel_rfl)
theorem registerSums_holds : Rows.RegisterSumsCardSaid :=
  Claim7.holds_tied_plain_at .later [] _ _ _ _ registerSums_said (fun _ h => by cases h) (by kernel_rfl) (fun _ h => by cases h) registerSums_row_tie rfl ⟨rfl, rfl⟩ (by kernel_rfl) rfl registerSums_plain (by kernel_rfl)
#print axioms registerSums_holds
end Go.Proofs.YthbcabnljcpaiaaGreatDoor
