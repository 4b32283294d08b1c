/- A part of the proof that the register's laws hold; no condition of its own. -/
import Derived.Test.YthbcabnljcpaiaaGreatDoorZB20
import Derived.Test.YthbcabnljcpaiaaGreatDoorZB16
set_option linter.all false
namespace Go.Proofs.YthbcabnljcpaiaaGreatDoor.H
open Go.RowKit Go.Shelf Go.Lib Go.Maps Go.Proofs.YthbcabnljcpaiaaGreatDoor.Q
set_option linter.unusedVariables false
abbrev PMap := List ((Int × Int) × Int)
def whoC (h : S36) : List ByteArray := if h.f3.size = 0 then h.f2 :: h.f5 else [h.f3]
def whoV (h : S36) : List ByteArray := if h.f4.size = 0 then whoC h else [h.f4]
def ctr (who : S36 → List ByteArray) (pc : S36 → Int) (day : Int) (h : S36) : List ((ByteArray × ByteArray) × Int) :=
  if Runs h day ∧ 0 < pc h then ((who h).filter fun s => decide (s ≠ h.f1)).map fun s => ((h.f1, s), pc h * 60 / ((who h).length : Int)) else []
def ctrs (who : S36 → List ByteArray) (pc : S36 → Int) (day : Int) (l : List S36) : List ((ByteArray × ByteArray) × Int) := l.flatMap (ctr who pc day)
def pos (ps : List ByteArray) (k : ByteArray × ByteArray) : Int × Int := ((plc ps k.1 : Int), (plc ps k.2 : Int))
def addC (ps : List ByteArray) : List ((ByteArray × ByteArray) × Int) → PMap → PMap
  | [], m => m
  | c :: cs, m => addC ps cs (asPut m (pos ps c.1) (asGet m (pos ps c.1) 0 + c.2))
theorem addC_append (ps : List ByteArray) (a b : List ((ByteArray × ByteArray) × Int)) (m : PMap) : addC ps (a ++ b) m = addC ps b (addC ps a m) := by
  induction a generalizing m with
  | nil => rfl
  | cons c a ih => rw [List.cons_append, addC, addC, ih]
theorem addS_addC (ps : List ByteArray) (co : ByteArray) (pc : Int) (n : Nat) (l : List ByteArray) (m : PMap) :
    addS m ps co pc n l = if 0 < pc then addC ps ((l.filter fun s => decide (s ≠ co)).map fun s => ((co, s), pc * 60 / (n : Int))) m else m := by
  induction l generalizing m with
  | nil => simp [addS, addC]
  | cons s l ih =>
    rw [addS, ih]
    by_cases h0 : 0 < pc
    · by_cases hs : s ≠ co
      · simp only [if_pos h0, if_pos (And.intro h0 hs), List.filter_cons, decide_eq_true hs, if_true, List.map_cons, addC, pos]
      · have hs' : s = co := Classical.not_not.1 hs
        simp [h0, hs']
    · simp [h0]
def mapL (who : S36 → List ByteArray) (pc : S36 → Int) (ps : List ByteArray) (day : Int) : List S36 → PMap → PMap
  | [], m => m
  | h :: l, m => mapL who pc ps day l (if Runs h day then addS m ps h.f1 (pc h) (who h).length (who h) else m)
theorem mapL_append (who : S36 → List ByteArray) (pc : S36 → Int) (ps : List ByteArray) (day : Int) (a b : List S36) (m : PMap) : mapL who pc ps day (a ++ b) m = mapL who pc ps day b (mapL who pc ps day a m) := by
  induction a generalizing m with
  | nil => rfl
  | cons c a ih => rw [List.cons_append, mapL, mapL, ih]
theorem mapL_addC (who : S36 → List ByteArray) (pc : S36 → Int) (ps : List ByteArray) (day : Int) (l : List S36) (m : PMap) : mapL who pc ps day l m = addC ps (ctrs who pc day l) m := by
  induction l generalizing m with
  | nil => rfl
  | cons h l ih =>
    rw [mapL, ih, show ctrs who pc day (h :: l) = ctr who pc day h ++ ctrs who pc day l from List.flatMap_cons, addC_append]
    congr 1
    unfold ctr
    by_cases h1 : Runs h day
    · rw [if_pos h1, addS_addC]
      by_cases h2 : 0 < pc h
      · rw [if_pos h2, if_pos ⟨h1, h2⟩]
      · rw [if_neg h2, if_neg (fun e => h2 e.2)]; rfl
    · rw [if_neg h1, if_neg (fun e => h1 e.1)]; rfl
theorem sum_perm {a b : List Int} (h : a.Perm b) : a.sum = b.sum := by
  induction h with
  | nil => rfl
  | cons x _ ih => simp [ih]
  | swap x y l => simp; omega
  | trans _ _ h1 h2 => exact h1.trans h2
def tot {κ : Type} [DecidableEq κ] (cs : List (κ × Int)) (k : κ) : Int := (cs.map fun c => if c.1 = k then c.2 else 0).sum
theorem tot_cons {κ : Type} [DecidableEq κ] (c : κ × Int) (cs : List (κ × Int)) (k : κ) : tot (c :: cs) k = (if c.1 = k then c.2 else 0) + tot cs k := by simp [tot]
theorem tot_perm {κ : Type} [DecidableEq κ] {a b : List (κ × Int)} (h : a.Perm b) (k : κ) : tot a k = tot b k := by
  unfold tot
  exact sum_perm (h.map _)
theorem addC_get (ps : List ByteArray) (cs : List ((ByteArray × ByteArray) × Int)) (m : PMap) (hd : m.Pairwise fun p q => p.1 ≠ q.1) :
    (addC ps cs m).Pairwise (fun p q => p.1 ≠ q.1) ∧ (∀ k, asGet (addC ps cs m) k 0 = asGet m k 0 + tot (cs.map fun c => (pos ps c.1, c.2)) k) ∧ ∀ k, (∃ p ∈ addC ps cs m, p.1 = k) ↔ ((∃ c ∈ cs, pos ps c.1 = k) ∨ ∃ p ∈ m, p.1 = k) := by
  induction cs generalizing m with
  | nil => exact ⟨hd, fun k => by simp [addC, tot], fun k => by simp [addC]⟩
  | cons c cs ih =>
    obtain ⟨h1, h2, h3⟩ := ih _ (asPut_apart hd (pos ps c.1) (asGet m (pos ps c.1) 0 + c.2))
    refine ⟨h1, fun k => ?_, fun k => ?_⟩
    · rw [addC, h2, asGet_put m hd, List.map_cons, tot_cons]
      by_cases e : k = pos ps c.1
      · simp [e]; omega
      · have e' : ¬ pos ps c.1 = k := fun x => e x.symm
        simp [e, e']
    · rw [addC, h3, asPut_keys]
      simp only [List.mem_cons, exists_eq_or_imp]
      constructor
      · rintro (h | h | h)
        · exact .inl (.inr h)
        · exact .inl (.inl h.symm)
        · exact .inr h
      · rintro ((h | h) | h)
        · exact .inr (.inl h.symm)
        · exact .inl h
        · exact .inr (.inr h)
theorem plc_inj {ps : List ByteArray} {a b : ByteArray} (ha : a ∈ ps) (hb : b ∈ ps) (h : plc ps a = plc ps b) : a = b := by
  obtain ⟨h1, e1⟩ := plc_spec ha
  obtain ⟨h2, e2⟩ := plc_spec hb
  rw [← e1, ← e2]
  congr 1
theorem pos_inj {ps : List ByteArray} {k q : ByteArray × ByteArray} (ha : k.1 ∈ ps ∧ k.2 ∈ ps) (hb : q.1 ∈ ps ∧ q.2 ∈ ps) (h : pos ps k = pos ps q) : k = q := by
  simp only [pos, Prod.mk.injEq] at h
  exact Prod.ext (plc_inj ha.1 hb.1 (by omega)) (plc_inj ha.2 hb.2 (by omega))
theorem tot_pos {ps : List ByteArray} {cs : List ((ByteArray × ByteArray) × Int)} (h : ∀ c ∈ cs, c.1.1 ∈ ps ∧ c.1.2 ∈ ps) {k : ByteArray × ByteArray} (hk : k.1 ∈ ps ∧ k.2 ∈ ps) : tot (cs.map fun c => (pos ps c.1, c.2)) (pos ps k) = tot cs k := by
  induction cs with
  | nil => rfl
  | cons c cs ih =>
    rw [List.map_cons, tot_cons, tot_cons, ih (fun d hd => h d (List.mem_cons_of_mem _ hd))]
    have hc := h c List.mem_cons_self
    by_cases e : c.1 = k
    · simp [e]
    · have e' : pos ps c.1 ≠ pos ps k := fun x => e (pos_inj hc hk x)
      simp [e, e']
def lexP (p q : Int × Int) : Bool := decide (p.1 < q.1 ∨ (p.1 = q.1 ∧ p.2 ≤ q.2))
def ltP (p q : Int × Int) : Prop := p.1 < q.1 ∨ (p.1 = q.1 ∧ p.2 < q.2)
def keysL (m : PMap) : List (Int × Int) := (m.map (·.1)).mergeSort lexP
theorem lexP_iff (p q : Int × Int) : lexP p q = true ↔ (p.1 < q.1 ∨ (p.1 = q.1 ∧ p.2 ≤ q.2)) := by simp [lexP]
theorem lexP_trans (a b c : Int × Int) (h1 : lexP a b = true) (h2 : lexP b c = true) : lexP a c = true := by
  rw [lexP_iff] at *; omega
theorem lexP_total (a b : Int × Int) : (lexP a b || lexP b a) = true := by
  rw [Bool.or_eq_true, lexP_iff, lexP_iff]; omega
theorem keysL_mem (m : PMap) (k : Int × Int) : k ∈ keysL m ↔ ∃ p ∈ m, p.1 = k := by
  unfold keysL
  rw [List.mem_mergeSort, List.mem_map]
theorem keysL_length (m : PMap) : (keysL m).length = m.length := by unfold keysL; simp
theorem keysL_sorted {m : PMap} (hd : m.Pairwise fun p q => p.1 ≠ q.1) : (keysL m).Pairwise ltP := by
  have h1 : (keysL m).Pairwise fun a b => lexP a b = true := List.pairwise_mergeSort lexP_trans lexP_total _
  have h2 : (keysL m).Pairwise (· ≠ ·) := by
    have : (m.map (·.1)).Nodup := List.pairwise_map.2 hd
    exact (List.mergeSort_perm _ _).nodup_iff.2 this
  refine (h1.and h2).imp fun {a b} h => ?_
  have h3 := (lexP_iff a b).1 h.1
  have h4 := h.2
  unfold ltP
  rcases h3 with h3 | ⟨h3, h5⟩
  · exact .inl h3
  · refine .inr ⟨h3, ?_⟩
    rcases Int.lt_or_eq_of_le h5 with h6 | h6
    · exact h6
    · exact absurd (Prod.ext h3 h6) h4
theorem strict_unique {κ : Type} (r : κ → κ → Prop) (hr : ∀ a b, r a b → ¬ r b a) (hir : ∀ a, ¬ r a a) {a b : List κ} (ha : a.Pairwise r) (hb : b.Pairwise r) (h : ∀ x, x ∈ a ↔ x ∈ b) : a = b := by
  have hn : ∀ l : List κ, l.Pairwise r → l.Nodup := fun l hl => hl.imp fun {x y} h e => by subst e; exact hir x h
  have hp : a.Perm b := (List.perm_ext_iff_of_nodup (hn a ha) (hn b hb)).2 h
  exact List.Perm.eq_of_pairwise (le := r) (fun x y _ _ h1 h2 => absurd h2 (hr x y h1)) ha hb hp
theorem ltP_asymm (a b : Int × Int) (h : ltP a b) : ¬ ltP b a := by unfold ltP at *; omega
theorem ltP_irrefl (a : Int × Int) : ¬ ltP a a := by unfold ltP; omega
def linkL (m : PMap) : List ((Int × Int) × Int) := (keysL m).map fun k => (k, asGet m k 0)
theorem linkL_eq {m m' : PMap} (hd : m.Pairwise fun p q => p.1 ≠ q.1) (hd' : m'.Pairwise fun p q => p.1 ≠ q.1) (hk : ∀ k, (∃ p ∈ m, p.1 = k) ↔ ∃ p ∈ m', p.1 = k) (hg : ∀ k, asGet m k 0 = asGet m' k 0) : linkL m = linkL m' := by
  have e : keysL m = keysL m' := strict_unique ltP ltP_asymm ltP_irrefl (keysL_sorted hd) (keysL_sorted hd') fun k => by rw [keysL_mem, keysL_mem, hk]
  unfold linkL
  rw [e]
  exact List.map_congr_left fun k _ => by rw [hg]
def linksOf (who : S36 → List ByteArray) (pc : S36 → Int) (ps : List ByteArray) (day : Int) (l : List S36) : List ((Int × Int) × Int) := linkL (mapL who pc ps day l [])
theorem linksOf_perm {who : S36 → List ByteArray} {pc : S36 → Int} {ps : List ByteArray} {day : Int} {l l' : List S36} (h : l.Perm l') : linksOf who pc ps day l = linksOf who pc ps day l' := by
  unfold linksOf
  rw [mapL_addC, mapL_addC]
  have hp : (ctrs who pc day l).Perm (ctrs who pc day l') := h.flatMap_right _
  obtain ⟨a1, a2, a3⟩ := addC_get ps (ctrs who pc day l) [] List.Pairwise.nil
  obtain ⟨b1, b2, b3⟩ := addC_get ps (ctrs who pc day l') [] List.Pairwise.nil
  refine linkL_eq a1 b1 (fun k => ?_) (fun k => ?_)
  · rw [a3, b3]
    constructor
    · rintro (⟨c, hc, e⟩ | h)
      · exact .inl ⟨c, hp.mem_iff.1 hc, e⟩
      · exact .inr h
    · rintro (⟨c, hc, e⟩ | h)
      · exact .inl ⟨c, hp.mem_iff.2 hc, e⟩
      · exact .inr h
  · rw [a2, b2, tot_perm (hp.map _)]
theorem linksOf_ctrs {who : S36 → List ByteArray} {pc : S36 → Int} {ps : List ByteArray} {day day' : Int} {l l' : List S36} (h : ctrs who pc day l = ctrs who pc day' l') : linksOf who pc ps day l = linksOf who pc ps day' l' := by
  unfold linksOf
  rw [mapL_addC, mapL_addC, h]
end Go.Proofs.YthbcabnljcpaiaaGreatDoor.H
namespace Go.Proofs.YthbcabnljcpaiaaGreatDoor.H
open Go.RowKit Go.Shelf Go.Lib Go.Maps Go.Proofs.YthbcabnljcpaiaaGreatDoor.Q
set_option linter.unusedVariables false
theorem ddup_perm {a b : List (List UInt8)} (h : ∀ s, s ∈ a ↔ s ∈ b) : (ddup a).Perm (ddup b) :=
  (List.perm_ext_iff_of_nodup (nodup_ddup a) (nodup_ddup b)).2 fun s => by rw [mem_ddup, mem_ddup, h]
theorem sortB_perm {a b : List (List UInt8)} (h : a.Perm b) : sortB a = sortB b := by
  unfold sortB
  rw [mergeSort_of_perm h]
theorem partiesOf_congr {l l' : List S36} (h : ∀ s, s ∈ l.flatMap namesOf ↔ s ∈ l'.flatMap namesOf) : partiesOf l = partiesOf l' := by
  unfold partiesOf
  refine sortB_perm (ddup_perm fun s => ?_)
  simp only [List.mem_map]
  constructor
  · rintro ⟨a, ha, rfl⟩; exact ⟨a, (h a).1 ha, rfl⟩
  · rintro ⟨a, ha, rfl⟩; exact ⟨a, (h a).2 ha, rfl⟩
theorem partiesOf_perm {l l' : List S36} (h : l.Perm l') : partiesOf l = partiesOf l' :=
  partiesOf_congr fun s => (h.flatMap_right namesOf).mem_iff
theorem mem_sortB {a : List (List UInt8)} {s : ByteArray} : s ∈ sortB a ↔ s.data.toList ∈ a := by
  unfold sortB
  rw [List.mem_map]
  constructor
  · rintro ⟨b, hb, rfl⟩
    simpa using List.mem_mergeSort.1 hb
  · intro h
    exact ⟨_, List.mem_mergeSort.2 h, by cases s; rfl⟩
theorem mem_partiesOf {l : List S36} {s : ByteArray} : s ∈ partiesOf l ↔ s ∈ l.flatMap namesOf := by
  unfold partiesOf
  rw [mem_sortB, mem_ddup, List.mem_map]
  constructor
  · rintro ⟨a, ha, e⟩; rw [← data_inj e]; exact ha
  · intro h; exact ⟨s, h, rfl⟩
theorem inc_sortB {a : List (List UInt8)} (h : a.Nodup) : Inc (sortB a) := by
  unfold Inc sortB
  rw [List.pairwise_map]
  have tr : ∀ a b c : List UInt8, decide (a ≤ b) = true → decide (b ≤ c) = true → decide (a ≤ c) = true := fun a b c h1 h2 => by simp only [decide_eq_true_eq] at *; exact List.le_trans h1 h2
  have tl : ∀ a b : List UInt8, (decide (a ≤ b) || decide (b ≤ a)) = true := fun a b => by simp only [Bool.or_eq_true, decide_eq_true_eq]; exact List.le_total a b
  have h1 := List.pairwise_mergeSort (le := fun x y => decide (x ≤ y)) tr tl a
  have h2 : (a.mergeSort (fun x y => decide (x ≤ y))).Pairwise (· ≠ ·) := (List.mergeSort_perm _ _).nodup_iff.2 h
  refine (h1.and h2).imp fun {x y} h => ?_
  have h3 : x ≤ y := of_decide_eq_true h.1
  show x < y
  rcases Classical.em (x < y) with h4 | h4
  · exact h4
  · exact absurd (List.le_antisymm h3 (List.not_lt.1 h4)) h.2
theorem inc_partiesOf (l : List S36) : Inc (partiesOf l) := inc_sortB (nodup_ddup _)
theorem capOn_perm {l l' : List S36} (h : l.Perm l') (day : Int) (c : ByteArray) : capOn l day c = capOn l' day c := sum_perm (h.map _)
theorem votOn_perm {l l' : List S36} (h : l.Perm l') (day : Int) (c : ByteArray) : votOn l day c = votOn l' day c := sum_perm (h.map _)
theorem bear_perm {l l' : List S36} (h : l.Perm l') (hb : Bear l) : Bear l' := fun x hx y hy => by
  have := hb x (h.mem_iff.2 hx) y (h.mem_iff.2 hy)
  rw [capOn_perm h, votOn_perm h] at this
  exact this
theorem valid_perm {l l' : List S36} (h : l.Perm l') (hv : Valid l) : Valid l' := by
  obtain ⟨⟨h1, h2⟩, h3, h4, h5⟩ := hv
  refine ⟨⟨fun x hx => h1 x (h.mem_iff.2 hx), (h.map _).nodup_iff.1 h2⟩, by rw [← h.length_eq]; exact h3, by rw [← partiesOf_perm h]; exact h4, bear_perm h h5⟩
theorem plc_lt {ps : List ByteArray} (hI : Inc ps) {a b : ByteArray} (ha : a ∈ ps) (hb : b ∈ ps) : plc ps a < plc ps b ↔ a.data.toList < b.data.toList := by
  obtain ⟨h1, e1⟩ := plc_spec ha
  obtain ⟨h2, e2⟩ := plc_spec hb
  constructor
  · intro h
    have := List.pairwise_iff_getElem.1 hI _ _ h1 h2 h
    rwa [e1, e2] at this
  · intro h
    rcases Nat.lt_trichotomy (plc ps a) (plc ps b) with h3 | h3 | h3
    · exact h3
    · rw [plc_inj ha hb h3] at h; exact absurd h (List.lt_irrefl _)
    · have := List.pairwise_iff_getElem.1 hI _ _ h2 h1 h3
      rw [e1, e2] at this
      exact absurd (List.lt_trans h this) (List.lt_irrefl _)
def ltN (p q : ByteArray × ByteArray) : Prop := p.1.data.toList < q.1.data.toList ∨ (p.1 = q.1 ∧ p.2.data.toList < q.2.data.toList)
theorem ltN_irrefl (a : ByteArray × ByteArray) : ¬ ltN a a := fun h => by
  rcases h with h | ⟨_, h⟩
  · exact List.lt_irrefl _ h
  · exact List.lt_irrefl _ h
theorem ltN_asymm (a b : ByteArray × ByteArray) (h : ltN a b) : ¬ ltN b a := fun h' => by
  rcases h with h | ⟨e, h⟩ <;> rcases h' with h' | ⟨e', h'⟩
  · exact List.lt_irrefl _ (List.lt_trans h h')
  · rw [e'] at h; exact List.lt_irrefl _ h
  · rw [e] at h'; exact List.lt_irrefl _ h'
  · exact List.lt_irrefl _ (List.lt_trans h h')
theorem ltP_pos {ps : List ByteArray} (hI : Inc ps) {k q : ByteArray × ByteArray} (hk : k.1 ∈ ps ∧ k.2 ∈ ps) (hq : q.1 ∈ ps ∧ q.2 ∈ ps) : ltP (pos ps k) (pos ps q) → ltN k q := by
  have h1 := plc_lt hI hk.1 hq.1
  have h2 := plc_lt hI hk.2 hq.2
  rintro (h | ⟨e, h⟩)
  · exact .inl (h1.1 (by simpa [pos] using h))
  · exact .inr ⟨plc_inj hk.1 hq.1 (by simp [pos] at e; omega), h2.1 (by simpa [pos] using h)⟩
theorem linksOf_names {who who' : S36 → List ByteArray} {pc pc' : S36 → Int} {ps ps' : List ByteArray} {day day' : Int} {l l' : List S36} (hI : Inc ps) (hI' : Inc ps')
    (hc : ctrs who pc day l = ctrs who' pc' day' l') (hm : ∀ c ∈ ctrs who pc day l, c.1.1 ∈ ps ∧ c.1.2 ∈ ps) (hm' : ∀ c ∈ ctrs who pc day l, c.1.1 ∈ ps' ∧ c.1.2 ∈ ps') :
    ∃ N : List ((ByteArray × ByteArray) × Int), (∀ c ∈ N, (c.1.1 ∈ ps ∧ c.1.2 ∈ ps) ∧ (c.1.1 ∈ ps' ∧ c.1.2 ∈ ps')) ∧ linksOf who pc ps day l = N.map (fun c => (pos ps c.1, c.2)) ∧ linksOf who' pc' ps' day' l' = N.map fun c => (pos ps' c.1, c.2) := by
  have gen : ∀ (qs : List ByteArray) (hq : Inc qs) (cs : List ((ByteArray × ByteArray) × Int)) (hcs : ∀ c ∈ cs, c.1.1 ∈ qs ∧ c.1.2 ∈ qs),
      ∃ K : List (ByteArray × ByteArray), K.Pairwise ltN ∧ (∀ k, k ∈ K ↔ ∃ c ∈ cs, c.1 = k) ∧ linkL (addC qs cs []) = (K.map fun k => (k, tot cs k)).map fun c => (pos qs c.1, c.2) := by
    intro qs hq cs hcs
    obtain ⟨a1, a2, a3⟩ := addC_get qs cs [] List.Pairwise.nil
    have hs := keysL_sorted a1
    have hmem : ∀ k, k ∈ keysL (addC qs cs []) ↔ ∃ c ∈ cs, pos qs c.1 = k := fun k => by rw [keysL_mem, a3]; simp
    have hex : ∀ ks : List (Int × Int), (∀ k ∈ ks, ∃ c ∈ cs, pos qs c.1 = k) → ∃ K : List (ByteArray × ByteArray), K.map (pos qs) = ks ∧ ∀ k ∈ K, ∃ c ∈ cs, c.1 = k := by
      intro ks
      induction ks with
      | nil => exact fun _ => ⟨[], rfl, fun _ h => nomatch h⟩
      | cons k ks ih =>
        intro h
        obtain ⟨K, e, hK⟩ := ih fun q hq => h q (List.mem_cons_of_mem _ hq)
        obtain ⟨c, hc, e'⟩ := h k List.mem_cons_self
        exact ⟨c.1 :: K, by rw [List.map_cons, e, e'], fun q hq => by
          rcases List.mem_cons.1 hq with rfl | hq
          · exact ⟨c, hc, rfl⟩
          · exact hK q hq⟩
    obtain ⟨K, e, hK⟩ := hex _ fun k hk => (hmem k).1 hk
    have hin : ∀ k ∈ K, k.1 ∈ qs ∧ k.2 ∈ qs := fun k hk => by obtain ⟨c, hc, rfl⟩ := hK k hk; exact hcs c hc
    refine ⟨K, ?_, fun k => ⟨fun hk => hK k hk, ?_⟩, ?_⟩
    · rw [← e, List.pairwise_map] at hs
      exact hs.imp_of_mem fun {a b} ha hb h => ltP_pos hq (hin a ha) (hin b hb) h
    · rintro ⟨c, hc, rfl⟩
      have := (hmem (pos qs c.1)).2 ⟨c, hc, rfl⟩
      rw [← e] at this
      obtain ⟨k, hk, e'⟩ := List.mem_map.1 this
      rw [← pos_inj (hin k hk) (hcs c hc) e']
      exact hk
    · unfold linkL
      rw [← e, List.map_map, List.map_map]
      refine List.map_congr_left fun k hk => ?_
      show (pos qs k, asGet (addC qs cs []) (pos qs k) 0) = (pos qs k, tot cs k)
      rw [a2, tot_pos hcs (hin k hk), asGet_none (by simp)]
      simp
  obtain ⟨K, h1, h2, h3⟩ := gen ps hI _ hm
  obtain ⟨K', h1', h2', h3'⟩ := gen ps' hI' _ hm'
  have e : K = K' := strict_unique ltN ltN_asymm ltN_irrefl h1 h1' fun k => by rw [h2, h2']
  subst e
  refine ⟨K.map fun k => (k, tot (ctrs who pc day l) k), ?_, ?_, ?_⟩
  · intro c hc
    obtain ⟨k, hk, rfl⟩ := List.mem_map.1 hc
    obtain ⟨d, hd, rfl⟩ := (h2 k).1 hk
    exact ⟨hm d hd, hm' d hd⟩
  · unfold linksOf
    rw [mapL_addC, h3]
  · unfold linksOf
    rw [mapL_addC, ← hc, h3']
end Go.Proofs.YthbcabnljcpaiaaGreatDoor.H
namespace Go.Proofs.YthbcabnljcpaiaaGreatDoor.H
open Go.RowKit Go.Shelf Go.Lib Go.Maps Go.Proofs.YthbcabnljcpaiaaGreatDoor.Q
set_option linter.unusedVariables false
theorem nodup_len {κ : Type} [DecidableEq κ] {a b : List κ} (ha : a.Nodup) (h : ∀ x ∈ a, x ∈ b) : a.length ≤ b.length := by
  induction a generalizing b with
  | nil => simp
  | cons x a ih =>
    obtain ⟨h1, h2⟩ := List.nodup_cons.1 ha
    have hx := h x List.mem_cons_self
    have := ih (b := b.erase x) h2 fun y hy => (List.mem_erase_of_ne (fun e => h1 (by rw [← e]; exact hy))).2 (h y (List.mem_cons_of_mem _ hy))
    rw [List.length_erase_of_mem hx] at this
    have := List.length_pos_of_mem hx
    simp; omega
theorem inc_nodup {l : List ByteArray} (h : Inc l) : l.Nodup := h.imp fun {a b} h e => by rw [e] at h; exact List.lt_irrefl _ h
theorem parties_le {l l' : List S36} (h : ∀ s ∈ l'.flatMap namesOf, s ∈ l.flatMap namesOf) : (partiesOf l').length ≤ (partiesOf l).length :=
  nodup_len (inc_nodup (inc_partiesOf l')) fun s hs => mem_partiesOf.2 (h s (mem_partiesOf.1 hs))
theorem capOn_cons (x : S36) (t : List S36) (d : Int) (c : ByteArray) : capOn (x :: t) d c = (if Runs x d ∧ x.f1 = c then x.f6 else 0) + capOn t d c := rfl
theorem votOn_cons (x : S36) (t : List S36) (d : Int) (c : ByteArray) : votOn (x :: t) d c = (if Runs x d ∧ x.f1 = c then x.f7 else 0) + votOn t d c := rfl
theorem valid_repl {x x' : S36} {t : List S36} (hv : Valid (x :: t)) (hp : Proper x') (e0 : x'.f0 = x.f0) (e1 : x'.f1 = x.f1) (e6 : x'.f6 = x.f6) (e7 : x'.f7 = x.f7) (e8 : x'.f8 = x.f8)
    (hn : ∀ s ∈ namesOf x', s ∈ namesOf x) (hr : ∀ d, Runs x' d → Runs x d) : Valid (x' :: t) := by
  obtain ⟨⟨h1, h2⟩, h3, h4, h5⟩ := hv
  have hcap : ∀ d c, capOn (x' :: t) d c ≤ capOn (x :: t) d c := fun d c => by
    rw [capOn_cons, capOn_cons, e1, e6]
    have h0 : 0 ≤ x.f6 := (h1 x List.mem_cons_self).2.2.1.1
    by_cases hx : Runs x' d ∧ x.f1 = c
    · rw [if_pos hx, if_pos ⟨hr d hx.1, hx.2⟩]; exact Int.le_refl _
    · rw [if_neg hx]; split <;> omega
  have hvot : ∀ d c, votOn (x' :: t) d c ≤ votOn (x :: t) d c := fun d c => by
    rw [votOn_cons, votOn_cons, e1, e7]
    have h0 : 0 ≤ x.f7 := (h1 x List.mem_cons_self).2.2.2.1.1
    by_cases hx : Runs x' d ∧ x.f1 = c
    · rw [if_pos hx, if_pos ⟨hr d hx.1, hx.2⟩]; exact Int.le_refl _
    · rw [if_neg hx]; split <;> omega
  have hback : ∀ y ∈ x' :: t, ∃ z ∈ x :: t, z.f1 = y.f1 ∧ z.f8 = y.f8 := fun y hy => by
    rcases List.mem_cons.1 hy with rfl | hy
    · exact ⟨x, List.mem_cons_self, e1.symm, e8.symm⟩
    · exact ⟨y, List.mem_cons_of_mem _ hy, rfl, rfl⟩
  refine ⟨⟨fun y hy => ?_, by rw [List.map_cons] at h2 ⊢; rw [e0]; exact h2⟩, by simpa using h3, Nat.le_trans (parties_le fun s hs => ?_) h4, fun y hy z hz => ?_⟩
  · rcases List.mem_cons.1 hy with rfl | hy
    · exact hp
    · exact h1 y (List.mem_cons_of_mem _ hy)
  · rw [List.flatMap_cons, List.mem_append] at hs ⊢
    exact hs.imp (hn s) id
  · obtain ⟨y0, hy0, _, ey⟩ := hback y hy
    obtain ⟨z0, hz0, ez, _⟩ := hback z hz
    have := h5 y0 hy0 z0 hz0
    rw [ey, ez] at this
    exact ⟨Int.le_trans (hcap _ _) this.1, Int.le_trans (hvot _ _) this.2⟩
theorem set_split {l : List S36} {k : Nat} (hk : k < l.length) (x' : S36) : ∃ a b, l = a ++ l[k] :: b ∧ l.set k x' = a ++ x' :: b := by
  refine ⟨l.take k, l.drop (k + 1), ?_, ?_⟩
  · rw [List.getElem_cons_drop]; exact (List.take_append_drop k l).symm
  · rw [List.set_eq_take_append_cons_drop, if_pos hk]
theorem valid_set {l : List S36} {k : Nat} (hk : k < l.length) {x' : S36} (hv : Valid l) (hp : Proper x') (e0 : x'.f0 = l[k].f0) (e1 : x'.f1 = l[k].f1) (e6 : x'.f6 = l[k].f6) (e7 : x'.f7 = l[k].f7) (e8 : x'.f8 = l[k].f8)
    (hn : ∀ s ∈ namesOf x', s ∈ namesOf l[k]) (hr : ∀ d, Runs x' d → Runs l[k] d) : Valid (l.set k x') := by
  obtain ⟨a, b, ea, eb⟩ := set_split hk x'
  generalize l[k] = x at *
  rw [eb]
  rw [ea] at hv
  refine valid_perm List.perm_middle.symm (valid_repl (x := x) (valid_perm List.perm_middle hv) hp e0 e1 e6 e7 e8 hn hr)
theorem ctrs_set {who : S36 → List ByteArray} {pc : S36 → Int} {day : Int} {l : List S36} {k : Nat} (hk : k < l.length) {x' : S36} (h : ctr who pc day x' = ctr who pc day l[k]) : ctrs who pc day (l.set k x') = ctrs who pc day l := by
  obtain ⟨a, b, ea, eb⟩ := set_split hk x'
  generalize l[k] = x at *
  rw [eb, ea]
  unfold ctrs
  simp only [List.flatMap_append, List.flatMap_cons, h]
theorem ctrs_runs {who : S36 → List ByteArray} {pc : S36 → Int} {day day' : Int} {l : List S36} (h : ∀ x ∈ l, Runs x day ↔ Runs x day') : ctrs who pc day l = ctrs who pc day' l := by
  induction l with
  | nil => rfl
  | cons x l ih =>
    unfold ctrs at *
    rw [List.flatMap_cons, List.flatMap_cons, ih fun y hy => h y (List.mem_cons_of_mem _ hy)]
    congr 1
    unfold ctr
    have := h x List.mem_cons_self
    by_cases h1 : Runs x day
    · simp only [h1, this.1 h1]
    · have h2 : ¬ Runs x day' := fun e => h1 (this.2 e)
      rw [if_neg (fun e => h1 e.1), if_neg (fun e => h2 e.1)]
def atE (l : List S36) (day : Int) : Int := if Valid l ∧ (0 ≤ day ∧ day ≤ 100000) then 0 else 1
def atC (l : List S36) (day : Int) : List ((Int × Int) × Int) := linksOf whoC (·.f6) (partiesOf l) day l
def atV (l : List S36) (day : Int) : List ((Int × Int) × Int) := linksOf whoV (·.f7) (partiesOf l) day l
theorem atE_cases (l : List S36) (day : Int) : (atE l day = 0 ∧ Valid l ∧ 0 ≤ day ∧ day ≤ 100000) ∨ (atE l day = 1 ∧ ¬ (Valid l ∧ (0 ≤ day ∧ day ≤ 100000))) := by
  unfold atE
  split
  · rename_i h; exact .inl ⟨rfl, h⟩
  · rename_i h; exact .inr ⟨rfl, h⟩
theorem order_law (l : List S36) (day : Int) : atE l.reverse day = atE l day ∧ partiesOf l.reverse = partiesOf l ∧ atC l.reverse day = atC l day ∧ atV l.reverse day = atV l day := by
  have hp := List.reverse_perm l
  refine ⟨?_, partiesOf_perm hp, ?_, ?_⟩
  · unfold atE
    have : Valid l.reverse ↔ Valid l := ⟨valid_perm hp, valid_perm hp.symm⟩
    simp only [this]
  · unfold atC; rw [partiesOf_perm hp, linksOf_perm hp]
  · unfold atV; rw [partiesOf_perm hp, linksOf_perm hp]
theorem idx_split {p : S36 → Bool} {l : List S36} (h : 0 ≤ idxF p l 0) : ∃ k : Nat, ∃ hk : k < l.length, idxF p l 0 = k ∧ p l[k] = true := by
  have gen : ∀ (l : List S36) (o : Int), 0 ≤ o → 0 ≤ idxF p l o → ∃ k : Nat, ∃ hk : k < l.length, idxF p l o = o + k ∧ p l[k] = true := by
    intro l
    induction l with
    | nil => intro o ho h; unfold idxF at h; omega
    | cons x l ih =>
      intro o ho h
      unfold idxF at h ⊢
      by_cases hx : p x = true
      · exact ⟨0, by simp, by rw [if_pos hx]; omega, hx⟩
      · rw [if_neg hx] at h ⊢
        obtain ⟨k, hk, e, hp⟩ := ih (o + 1) (by omega) h
        exact ⟨k + 1, by simp; omega, by rw [e]; omega, hp⟩
  obtain ⟨k, hk, e, hp⟩ := gen l 0 (Int.le_refl _) h
  exact ⟨k, hk, by omega, hp⟩
theorem rd_nat {l : List S36} {k : Nat} (hk : k < l.length) : rd_T36 l (k : Int) = l[k] := by simp [rd_T36, hk]
theorem end_spec {l : List S36} {id : ByteArray} {day : Int} (h : endE l id day = 0) : Valid l ∧ (0 ≤ day ∧ day ≤ 100000) ∧ ∃ k : Nat, ∃ hk : k < l.length, l[k].f0 = id ∧ l[k].f9 = -1 ∧ l[k].f8 < day ∧ endL l id day = l.set k (ended l[k] day) := by
  unfold endE at h
  split at h
  · omega
  rename_i h1
  split at h
  · omega
  rename_i h2
  split at h
  · omega
  rename_i h3
  split at h
  · omega
  rename_i h4
  obtain ⟨h11, h12⟩ := Classical.not_not.1 h1
  obtain ⟨k, hk, e, hp⟩ := idx_split (Int.not_lt.1 h2)
  rw [e, rd_nat hk] at h3 h4
  refine ⟨h11, h12, k, hk, of_decide_eq_true hp, Classical.not_not.1 h3, by omega, ?_⟩
  unfold endL
  rw [e, rd_nat hk]
  rfl
theorem ended_proper {x : S36} {day : Int} (hp : Proper x) (h9 : x.f9 = -1) (h8 : x.f8 < day) (hd : 0 ≤ day ∧ day ≤ 100000) : Proper (ended x day) := by
  obtain ⟨h1, h2, h3, h4, h5, h6⟩ := hp
  exact ⟨h1, h2, h3, h4, h5, .inr ⟨hd, h8⟩⟩
theorem end_valid {l : List S36} {id : ByteArray} {day : Int} (h : endE l id day = 0) : Valid (endL l id day) := by
  obtain ⟨hv, hd, k, hk, e0, e9, e8, e⟩ := end_spec h
  rw [e]
  refine valid_set hk hv (ended_proper (hv.1.1 _ (List.getElem_mem hk)) e9 e8 hd) rfl rfl rfl rfl rfl (fun _ h => h) fun d hr => ?_
  exact ⟨hr.1, .inl e9⟩
theorem put_valid {l : List S36} {x : S36} (h : putE l x = 0) : Valid (l ++ [x]) := by
  unfold putE at h
  split at h
  · omega
  rename_i h1
  split at h
  · omega
  rename_i h2
  split at h
  · omega
  rename_i h3
  split at h
  · omega
  rename_i h4
  obtain ⟨⟨⟨h11, h12⟩, _⟩, hp⟩ := Classical.not_not.1 h1
  refine ⟨⟨fun y hy => ?_, ?_⟩, by omega, by omega, Classical.not_not.1 h4⟩
  · rcases List.mem_append.1 hy with hy | hy
    · exact h11 y hy
    · rw [List.mem_singleton.1 hy]; exact hp
  · rw [List.map_append, List.nodup_append]
    exact ⟨h12, by simp, fun a ha b hb e => h2 (by simp at hb; rw [← hb, ← e]; exact ha)⟩
theorem quiet_law {l : List S36} {day later : Int} (hd : 0 ≤ day) (hle : day ≤ later) (hq : ∀ x ∈ l, (x.f8 ≤ day ∨ later < x.f8) ∧ (x.f9 ≤ day ∨ later < x.f9)) : atC l day = atC l later ∧ atV l day = atV l later := by
  have hr : ∀ x ∈ l, Runs x day ↔ Runs x later := fun x hx => by
    obtain ⟨h1, h2⟩ := hq x hx
    unfold Runs
    omega
  exact ⟨linksOf_ctrs (ctrs_runs hr), linksOf_ctrs (ctrs_runs hr)⟩
theorem ended_law {l : List S36} {id : ByteArray} {day later : Int} (h : endE l id later = 0) (hlt : day < later) (hd : 0 ≤ day ∧ day ≤ 100000) :
    atE (endL l id later) day = 0 ∧ partiesOf (endL l id later) = partiesOf l ∧ atC (endL l id later) day = atC l day ∧ atV (endL l id later) day = atV l day := by
  have hv := end_valid h
  obtain ⟨_, _, k, hk, e0, e9, e8, e⟩ := end_spec h
  have hr : Runs (ended l[k] later) day ↔ Runs l[k] day := by unfold Runs ended; simp only; omega
  have hp : partiesOf (endL l id later) = partiesOf l := by
    rw [e]
    obtain ⟨a, b, ea, eb⟩ := set_split hk (ended l[k] later)
    rw [eb]
    conv => rhs; rw [ea]
    refine partiesOf_congr fun s => ?_
    simp only [List.flatMap_append, List.flatMap_cons]
    exact Iff.rfl
  have hc : ∀ who pc, (∀ x d, who (ended x d) = who x) → (∀ x d, pc (ended x d) = pc x) → ctrs who pc day (endL l id later) = ctrs who pc day l := fun who pc hw hpc => by
    rw [e]
    refine ctrs_set hk ?_
    unfold ctr
    rw [hw, hpc]
    simp only [hr]
    rfl
  refine ⟨by unfold atE; rw [if_pos ⟨hv, hd⟩], hp, ?_, ?_⟩
  · unfold atC; rw [hp]; exact linksOf_ctrs (hc _ _ (fun _ _ => rfl) fun _ _ => rfl)
  · unfold atV; rw [hp]; exact linksOf_ctrs (hc _ _ (fun _ _ => rfl) fun _ _ => rfl)
theorem ctrs_mem {who : S36 → List ByteArray} {pc : S36 → Int} {day : Int} {l : List S36} {c : (ByteArray × ByteArray) × Int} (h : c ∈ ctrs who pc day l) : ∃ x ∈ l, c.1.1 = x.f1 ∧ c.1.2 ∈ who x := by
  obtain ⟨x, hx, hc⟩ := List.mem_flatMap.1 h
  unfold ctr at hc
  split at hc
  · obtain ⟨s, hs, rfl⟩ := List.mem_map.1 hc
    exact ⟨x, hx, rfl, (List.mem_filter.1 hs).1⟩
  · simp at hc
theorem whoC_names {x : S36} {s : ByteArray} (h : s ∈ whoC x) : s ∈ namesOf x ∨ s.size = 0 := by
  unfold whoC at h
  by_cases h0 : s.size = 0
  · exact .inr h0
  refine .inl ?_
  unfold namesOf
  split at h
  · rcases List.mem_cons.1 h with rfl | h
    · simp
    · exact List.mem_cons_of_mem _ (List.mem_cons_of_mem _ (List.mem_filter.2 ⟨List.mem_cons_of_mem _ (List.mem_cons_of_mem _ h), decide_eq_true h0⟩))
  · rw [List.mem_singleton.1 h] at h0 ⊢
    exact List.mem_cons_of_mem _ (List.mem_cons_of_mem _ (List.mem_filter.2 ⟨List.mem_cons_self, decide_eq_true h0⟩))
theorem whoV_names {x : S36} {s : ByteArray} (h : s ∈ whoV x) : s ∈ namesOf x ∨ s.size = 0 := by
  unfold whoV at h
  split at h
  · exact whoC_names h
  · rename_i h0
    rw [List.mem_singleton.1 h]
    exact .inl (List.mem_cons_of_mem _ (List.mem_cons_of_mem _ (List.mem_filter.2 ⟨List.mem_cons_of_mem _ List.mem_cons_self, decide_eq_true h0⟩)))
end Go.Proofs.YthbcabnljcpaiaaGreatDoor.H
namespace Go.Proofs.YthbcabnljcpaiaaGreatDoor.H
open Go.RowKit Go.Shelf Go.Lib Go.Maps Go.Proofs.YthbcabnljcpaiaaGreatDoor.Q
set_option linter.unusedVariables false
theorem size_empty {s : ByteArray} (h : s.size = 0) : s = ByteArray.empty := data_inj (by
  have h1 : s.data.toList.length = 0 := by simpa using h
  exact List.eq_nil_of_length_eq_zero h1)
theorem whoC_ids {x : S36} (hp : Proper x) {s : ByteArray} (h : s ∈ whoC x) : IsId s := by
  obtain ⟨⟨p0, p1, p2, p3, p4, p5, p6⟩, ⟨j1, j2, j3, j4⟩, _⟩ := hp
  unfold whoC at h
  split at h
  · rcases List.mem_cons.1 h with rfl | h
    · exact p2
    · exact j1 s h
  · rename_i h0
    rw [List.mem_singleton.1 h]
    exact p3.resolve_left h0
theorem whoV_ids {x : S36} (hp : Proper x) {s : ByteArray} (h : s ∈ whoV x) : IsId s := by
  unfold whoV at h
  split at h
  · exact whoC_ids hp h
  · rename_i h0
    rw [List.mem_singleton.1 h]
    exact hp.1.2.2.2.2.1.resolve_left h0
theorem ctrs_in {who : S36 → List ByteArray} {pc : S36 → Int} {day : Int} {l : List S36} (hv : ∀ x ∈ l, ∀ s ∈ who x, s ∈ namesOf x) : ∀ c ∈ ctrs who pc day l, c.1.1 ∈ partiesOf l ∧ c.1.2 ∈ partiesOf l := by
  intro c hc
  obtain ⟨x, hx, e1, h2⟩ := ctrs_mem hc
  refine ⟨mem_partiesOf.2 (List.mem_flatMap.2 ⟨x, hx, ?_⟩), mem_partiesOf.2 (List.mem_flatMap.2 ⟨x, hx, hv x hx _ h2⟩)⟩
  rw [e1]
  exact List.mem_cons_self
theorem whoC_in {l : List S36} (hv : Valid l) : ∀ x ∈ l, ∀ s ∈ whoC x, s ∈ namesOf x := fun x hx s hs =>
  (whoC_names hs).resolve_right fun e => by have := (whoC_ids (hv.1.1 x hx) hs).1; omega
theorem whoV_in {l : List S36} (hv : Valid l) : ∀ x ∈ l, ∀ s ∈ whoV x, s ∈ namesOf x := fun x hx s hs =>
  (whoV_names hs).resolve_right fun e => by have := (whoV_ids (hv.1.1 x hx) hs).1; omega
def nomin (x : S36) : S36 := if x.f3.size = 0 then { x with f4 := ByteArray.empty } else { x with f2 := x.f3, f3 := ByteArray.empty, f4 := ByteArray.empty }
theorem nomin_proper {x : S36} (hp : Proper x) : Proper (nomin x) := by
  obtain ⟨⟨p0, p1, p2, p3, p4, p5, p6⟩, ⟨j1, j2, j3, j4⟩, hn⟩ := hp
  unfold nomin
  split
  · exact ⟨⟨p0, p1, p2, p3, .inl rfl, p5, p6⟩, ⟨j1, j2, j3, j4⟩, hn⟩
  · rename_i h0
    have h5 : x.f5 = [] := List.eq_nil_of_length_eq_zero (p6.resolve_left h0)
    refine ⟨⟨p0, p1, p3.resolve_left h0, .inl rfl, .inl rfl, p5, .inl rfl⟩, ⟨j1, ?_, ?_, ?_⟩, hn⟩
    · show (x.f3 :: x.f5).Nodup
      rw [h5]; simp
    · show x.f1 ∉ x.f3 :: x.f5
      rw [h5]; simpa using j4
    · show x.f1 ≠ ByteArray.empty
      intro e
      have := p1.1
      rw [e] at this
      exact absurd this (by decide)
theorem nomin_names {x : S36} : ∀ s ∈ namesOf (nomin x), s ∈ namesOf x := by
  intro s hs
  have he : ¬ (ByteArray.empty.size ≠ 0) := by decide
  unfold nomin at hs
  split at hs
  · unfold namesOf at hs ⊢
    simp only [List.mem_cons, List.mem_filter] at hs ⊢
    rcases hs with h | h | ⟨h, h'⟩
    · exact .inl h
    · exact .inr (.inl h)
    · refine .inr (.inr ⟨?_, h'⟩)
      rcases h with h | h | h
      · exact .inl h
      · rw [h] at h'; exact absurd (of_decide_eq_true h') he
      · exact .inr (.inr h)
  · rename_i h0
    unfold namesOf at hs ⊢
    simp only [List.mem_cons, List.mem_filter] at hs ⊢
    rcases hs with h | h | ⟨h, h'⟩
    · exact .inl h
    · exact .inr (.inr ⟨.inl h, by rw [h]; exact decide_eq_true h0⟩)
    · refine .inr (.inr ⟨?_, h'⟩)
      rcases h with h | h | h
      · rw [h] at h'; exact absurd (of_decide_eq_true h') he
      · rw [h] at h'; exact absurd (of_decide_eq_true h') he
      · exact .inr (.inr h)
theorem nomin_ctr {x : S36} (hp : Proper x) (day : Int) : ctr whoC (·.f6) day (nomin x) = ctr whoC (·.f6) day x := by
  have hw : whoC (nomin x) = whoC x := by
    unfold nomin
    split
    · rfl
    · rename_i h0
      have h5 : x.f5 = [] := List.eq_nil_of_length_eq_zero (hp.1.2.2.2.2.2.2.resolve_left h0)
      unfold whoC
      simp [h5, h0]
  have h6 : (nomin x).f6 = x.f6 := by unfold nomin; split <;> rfl
  have h1 : (nomin x).f1 = x.f1 := by unfold nomin; split <;> rfl
  have hr : Runs (nomin x) day ↔ Runs x day := by unfold nomin; split <;> exact Iff.rfl
  unfold ctr
  rw [hw]
  simp only [h6, h1, hr]
theorem nomin_valid {l : List S36} {k : Nat} (hk : k < l.length) (hv : Valid l) : Valid (l.set k (nomin l[k])) := by
  have e : ∀ x : S36, (nomin x).f0 = x.f0 ∧ (nomin x).f1 = x.f1 ∧ (nomin x).f6 = x.f6 ∧ (nomin x).f7 = x.f7 ∧ (nomin x).f8 = x.f8 ∧ ∀ d, Runs (nomin x) d → Runs x d := fun x => by
    unfold nomin; split <;> exact ⟨rfl, rfl, rfl, rfl, rfl, fun _ h => h⟩
  obtain ⟨e0, e1, e6, e7, e8, er⟩ := e l[k]
  exact valid_set hk hv (nomin_proper (hv.1.1 _ (List.getElem_mem hk))) e0 e1 e6 e7 e8 nomin_names er
theorem nomin_law {l : List S36} {k : Nat} (hk : k < l.length) {day : Int} (h : atE l day = 0) :
    atE (l.set k (nomin l[k])) day = 0 ∧ ∃ N : List ((ByteArray × ByteArray) × Int), (∀ c ∈ N, (c.1.1 ∈ partiesOf l ∧ c.1.2 ∈ partiesOf l) ∧ (c.1.1 ∈ partiesOf (l.set k (nomin l[k])) ∧ c.1.2 ∈ partiesOf (l.set k (nomin l[k])))) ∧
      atC l day = N.map (fun c => (pos (partiesOf l) c.1, c.2)) ∧ atC (l.set k (nomin l[k])) day = N.map fun c => (pos (partiesOf (l.set k (nomin l[k]))) c.1, c.2) := by
  rcases atE_cases l day with ⟨_, hv, hd⟩ | ⟨h1, _⟩
  · have hv' := nomin_valid hk hv
    have hc : ctrs whoC (·.f6) day (l.set k (nomin l[k])) = ctrs whoC (·.f6) day l := ctrs_set hk (nomin_ctr (hv.1.1 _ (List.getElem_mem hk)) day)
    refine ⟨by unfold atE; rw [if_pos ⟨hv', hd⟩], ?_⟩
    exact linksOf_names (inc_partiesOf _) (inc_partiesOf _) hc.symm (ctrs_in (whoC_in hv)) (fun c hx => ctrs_in (whoC_in hv') c (by rw [hc]; exact hx))
  · omega
end Go.Proofs.YthbcabnljcpaiaaGreatDoor.H
namespace Go.Proofs.YthbcabnljcpaiaaGreatDoor.H
open Go.RowKit Go.Shelf Go.Lib Go.Maps Go.Proofs.YthbcabnljcpaiaaGreatDoor.Q
set_option linter.unusedVariables false
def hH : S36 := ⟨⟨#[104, 49]⟩, ⟨#[97]⟩, ⟨#[112]⟩, ⟨#[]⟩, ⟨#[]⟩, [], 60, 60, 0, -1⟩
def hG : S36 := ⟨⟨#[104, 50]⟩, ⟨#[97]⟩, ⟨#[113]⟩, ⟨#[]⟩, ⟨#[]⟩, [⟨#[114]⟩], 30, 0, 0, -1⟩
def hN : S36 := ⟨⟨#[104, 49]⟩, ⟨#[97]⟩, ⟨#[112]⟩, ⟨#[113]⟩, ⟨#[114]⟩, [], 60, 60, 0, -1⟩
def hL : S36 := ⟨⟨#[104, 49]⟩, ⟨#[97]⟩, ⟨#[112]⟩, ⟨#[]⟩, ⟨#[]⟩, [], 60, 60, 6, -1⟩
def hP : S36 := ⟨⟨#[104, 51]⟩, ⟨#[97]⟩, ⟨#[122]⟩, ⟨#[]⟩, ⟨#[]⟩, [], 50, 0, 0, -1⟩
theorem partiesOf_eq {l : List S36} {L : List ByteArray} (hI : Inc L) (h : ∀ s, s ∈ L ↔ s ∈ l.flatMap namesOf) : partiesOf l = L :=
  strict_unique (fun a b : ByteArray => a.data.toList < b.data.toList) (fun a b h1 h2 => List.lt_irrefl _ (List.lt_trans h1 h2)) (fun a h => List.lt_irrefl _ h) (inc_partiesOf l) hI fun s => by rw [mem_partiesOf, h]
theorem linkL_is {m : PMap} {L : List ((Int × Int) × Int)} (hd : m.Pairwise fun p q => p.1 ≠ q.1) (hs : (L.map (·.1)).Pairwise ltP) (h : ∀ p, p ∈ L ↔ p ∈ m) : linkL m = L := by
  have e : keysL m = L.map (·.1) := strict_unique ltP ltP_asymm ltP_irrefl (keysL_sorted hd) hs fun k => by
    rw [keysL_mem, List.mem_map]
    constructor
    · rintro ⟨p, hp, e⟩; exact ⟨p, (h p).2 hp, e⟩
    · rintro ⟨p, hp, e⟩; exact ⟨p, (h p).1 hp, e⟩
  unfold linkL
  rw [e, List.map_map]
  refine (List.map_congr_left (g := id) fun p hp => ?_).trans (List.map_id _)
  show (p.1, asGet m p.1 0) = p
  rw [asGet_mem hd (v := p.2) ((h p).1 hp)]
theorem ppH : Proper hH := by decide +kernel
theorem ppG : Proper hG := by decide +kernel
theorem ppN : Proper hN := by decide +kernel
theorem ppL : Proper hL := by decide +kernel
theorem ppP : Proper hP := by decide +kernel
theorem pa1 : partiesOf [hH, hG] = [⟨#[97]⟩, ⟨#[112]⟩, ⟨#[113]⟩, ⟨#[114]⟩] := by
  refine partiesOf_eq (by unfold Inc; decide +kernel) fun s => ?_
  have e : [hH, hG].flatMap namesOf = [⟨#[97]⟩, ⟨#[112]⟩, ⟨#[97]⟩, ⟨#[113]⟩, ⟨#[114]⟩] := by decide +kernel
  rw [e]
  simp only [List.mem_cons, List.not_mem_nil, or_false]
  constructor
  · rintro (h | h | h | h) <;> simp [h]
  · rintro (h | h | h | h | h) <;> simp [h]
theorem pa2 : partiesOf [hN] = [⟨#[97]⟩, ⟨#[112]⟩, ⟨#[113]⟩, ⟨#[114]⟩] := by
  refine partiesOf_eq (by unfold Inc; decide +kernel) fun s => ?_
  have e : [hN].flatMap namesOf = [⟨#[97]⟩, ⟨#[112]⟩, ⟨#[113]⟩, ⟨#[114]⟩] := by decide +kernel
  rw [e]
theorem pa3 : partiesOf [hL] = [⟨#[97]⟩, ⟨#[112]⟩] := by
  refine partiesOf_eq (by unfold Inc; decide +kernel) fun s => ?_
  have e : [hL].flatMap namesOf = [⟨#[97]⟩, ⟨#[112]⟩] := by decide +kernel
  rw [e]
theorem pa4 : partiesOf [hH] = [⟨#[97]⟩, ⟨#[112]⟩] := by
  refine partiesOf_eq (by unfold Inc; decide +kernel) fun s => ?_
  have e : [hH].flatMap namesOf = [⟨#[97]⟩, ⟨#[112]⟩] := by decide +kernel
  rw [e]
theorem pa5 : partiesOf ([hH] ++ [hP]) = [⟨#[97]⟩, ⟨#[112]⟩, ⟨#[122]⟩] := by
  refine partiesOf_eq (by unfold Inc; decide +kernel) fun s => ?_
  have e : ([hH] ++ [hP]).flatMap namesOf = [⟨#[97]⟩, ⟨#[112]⟩, ⟨#[97]⟩, ⟨#[122]⟩] := by decide +kernel
  rw [e]
  simp only [List.mem_cons, List.not_mem_nil, or_false]
  constructor
  · rintro (h | h | h) <;> simp [h]
  · rintro (h | h | h | h) <;> simp [h]
theorem va1 : Valid [hH, hG] := ⟨⟨fun x hx => by simp at hx; rcases hx with rfl | rfl; exact ppH; exact ppG, by decide +kernel⟩, by decide, by rw [pa1]; decide, by decide +kernel⟩
theorem va2 : Valid [hN] := ⟨⟨fun x hx => by simp at hx; subst hx; exact ppN, by decide +kernel⟩, by decide, by rw [pa2]; decide, by decide +kernel⟩
theorem va3 : Valid [hL] := ⟨⟨fun x hx => by simp at hx; subst hx; exact ppL, by decide +kernel⟩, by decide, by rw [pa3]; decide, by decide +kernel⟩
theorem va4 : Valid [hH] := ⟨⟨fun x hx => by simp at hx; subst hx; exact ppH, by decide +kernel⟩, by decide, by rw [pa4]; decide, by decide +kernel⟩
theorem pe : putE [hH] hP = 10 := by
  unfold putE
  rw [if_neg (fun h => h ⟨va4, ppP⟩), if_neg (by decide +kernel), pa5, if_neg (by decide), if_pos (by decide +kernel)]
theorem ae1 : atE [hH, hG] 5 = 0 := by unfold atE; rw [if_pos ⟨va1, by decide⟩]
theorem ae2 : atE [hN] 5 = 0 := by unfold atE; rw [if_pos ⟨va2, by decide⟩]
theorem ae3 : atE [hL] 5 = 0 := by unfold atE; rw [if_pos ⟨va3, by decide⟩]
theorem lc1 : atC [hH, hG] 5 = [((0, 1), 3600), ((0, 2), 900), ((0, 3), 900)] := by
  unfold atC linksOf
  rw [pa1]
  have e : mapL whoC (·.f6) [⟨#[97]⟩, ⟨#[112]⟩, ⟨#[113]⟩, ⟨#[114]⟩] 5 [hH, hG] [] = [((0, 1), 3600), ((0, 2), 900), ((0, 3), 900)] := by decide +kernel
  rw [e]
  exact linkL_is (by decide) (by unfold ltP; decide) fun p => Iff.rfl
theorem lv1 : atV [hH, hG] 5 = [((0, 1), 3600)] := by
  unfold atV linksOf
  rw [pa1]
  have e : mapL whoV (·.f7) [⟨#[97]⟩, ⟨#[112]⟩, ⟨#[113]⟩, ⟨#[114]⟩] 5 [hH, hG] [] = [((0, 1), 3600)] := by decide +kernel
  rw [e]
  exact linkL_is (by decide) (by simp) fun p => Iff.rfl
theorem lc2 : atC [hN] 5 = [((0, 2), 3600)] := by
  unfold atC linksOf
  rw [pa2]
  have e : mapL whoC (·.f6) [⟨#[97]⟩, ⟨#[112]⟩, ⟨#[113]⟩, ⟨#[114]⟩] 5 [hN] [] = [((0, 2), 3600)] := by decide +kernel
  rw [e]
  exact linkL_is (by decide) (by simp) fun p => Iff.rfl
theorem lv2 : atV [hN] 5 = [((0, 3), 3600)] := by
  unfold atV linksOf
  rw [pa2]
  have e : mapL whoV (·.f7) [⟨#[97]⟩, ⟨#[112]⟩, ⟨#[113]⟩, ⟨#[114]⟩] 5 [hN] [] = [((0, 3), 3600)] := by decide +kernel
  rw [e]
  exact linkL_is (by decide) (by simp) fun p => Iff.rfl
theorem lc3 : atC [hL] 5 = [] := by
  unfold atC linksOf
  rw [pa3]
  have e : mapL whoC (·.f6) [⟨#[97]⟩, ⟨#[112]⟩] 5 [hL] [] = [] := by decide +kernel
  rw [e]
  exact linkL_is (by simp) (by simp) fun p => Iff.rfl
theorem lv3 : atV [hL] 5 = [] := by
  unfold atV linksOf
  rw [pa3]
  have e : mapL whoV (·.f7) [⟨#[97]⟩, ⟨#[112]⟩] 5 [hL] [] = [] := by decide +kernel
  rw [e]
  exact linkL_is (by simp) (by simp) fun p => Iff.rfl
end Go.Proofs.YthbcabnljcpaiaaGreatDoor.H
namespace Go.Proofs.YthbcabnljcpaiaaGreatDoor.Q
open Go.RowKit Go.Proofs.YthbcabnljcpaiaaGreatDoorW.PrintWords Go.Proofs.YthbcabnljcpaiaaGreatDoorW.PrintLast Go.Proofs.YthbcabnljcpaiaaGreatDoorW.PrintMore
attribute [local go_sem] max2_int min2_int max_two min_two max_three min_three max_four min_four
set_option linter.unusedVariables false
set_option linter.unusedSimpArgs false
theorem eqA40 (d : Nat) (w : World) (x0 y0 : Bool) (x1 y1 : ByteArray) (x2 y2 : ByteArray) :
    (Op.equalIn (d + 2) 40 (.agg #[.bool x0, .string x1, .string x2]) (.agg #[.bool y0, .string y1, .string y2])).run Tryz.prog w = .ok (x0 == y0 && (x1.toList == y1.toList && (x2.toList == y2.toList))) w := by
  refine eqA_of Tryz.underlying40 (by kernel_rfl) ?_
  refine eqf_cons (by rfl) (by go_simp; rfl) (by go_simp; rfl) (by go_simp) ?_
  refine eqf_cons (by rfl) (by go_simp; rfl) (by go_simp; rfl) (by go_simp) ?_
  exact eqf_last (by rfl) (by go_simp; rfl) (by go_simp; rfl) (by go_simp)
theorem eqA42 (d : Nat) (w : World) (x0 y0 : Int) (x1 y1 : Int) (x2 y2 : Bool) (x3 y3 : ByteArray) (x4 y4 : ByteArray) :
    (Op.equalIn (d + 3) 42 (.agg #[.int .i64 x0, .int .i64 x1, .bool x2, .string x3, .string x4]) (.agg #[.int .i64 y0, .int .i64 y1, .bool y2, .string y3, .string y4])).run Tryz.prog w = .ok (x0 == y0 && (x1 == y1 && ((x2 == y2 && (x3.toList == y3.toList && (x4.toList == y4.toList)))))) w := by
  refine eqA_of Tryz.underlying42 (by kernel_rfl) ?_
  refine eqf_cons (by rfl) (by go_simp; rfl) (by go_simp; rfl) (by go_simp) ?_
  refine eqf_cons (by rfl) (by go_simp; rfl) (by go_simp; rfl) (by go_simp) ?_
  exact eqf_last (by rfl) (by go_simp) (by go_simp) (eqA40 (d + 0) w _ _ _ _ _ _)
end Go.Proofs.YthbcabnljcpaiaaGreatDoor.Q
