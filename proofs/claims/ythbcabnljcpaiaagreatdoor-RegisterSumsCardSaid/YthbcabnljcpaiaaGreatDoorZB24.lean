/- A part of the proof that the register's laws hold; no condition of its own. -/
import Derived.Test.YthbcabnljcpaiaaGreatDoorZB21
import Derived.Test.YthbcabnljcpaiaaGreatDoorZB23
import Derived.Test.YthbcabnljcpaiaaGreatDoorZB20
import Derived.Shelf.AbstractIn
import Derived.RangeFuncGives
import Derived.Shelf.SlIter.Collect
set_option linter.all false
namespace Go.Proofs.YthbcabnljcpaiaaGreatDoor.H
open Go.RowKit Go.Shelf Go.Lib Go.Proofs.YthbcabnljcpaiaaGreatDoorW.PrintWords Go.Proofs.YthbcabnljcpaiaaGreatDoor.Q
set_option linter.unusedVariables false
theorem texts_refl (ps : List ByteArray) (hl : ps.length ≤ 1000000000) : Ev (fun k => customhouseref17_Texts.f k ps ps) true := by
  have h : ∀ d i, ps.length - i = d → i ≤ ps.length → Ev (fun k => customhouseref17_Texts.l0 k ps ps (i : Int)) true := by
    intro d
    induction d with
    | zero =>
      intro i hd hi
      refine Ev.step (f := fun _ => some true) (fun k => ?_) (Ev.now _)
      rw [customhouseref17_Texts.l0, if_neg (by omega)]
    | succ d ih =>
      intro i hd hi
      have hw : wrap64 ((i : Int) + 1) = ((i + 1 : Nat) : Int) := by unfold wrap64; omega
      refine Ev.step (f := fun k => customhouseref17_Texts.l0 k ps ps ((i + 1 : Nat) : Int)) (fun k => ?_) (ih (i + 1) (by omega) (by omega))
      rw [customhouseref17_Texts.l0, if_pos (by omega), if_pos (by omega), if_pos (by omega), if_pos rfl, hw]
  have := h ps.length 0 (by omega) (by omega)
  unfold customhouseref17_Texts.f
  exact Ev_ite_pos rfl this
theorem links_refl (ps : List S42) (hl : ps.length ≤ 1000000000) : Ev (fun k => customhouseref17_SameLinks.f k ps ps) true := by
  have h : ∀ d i, ps.length - i = d → i ≤ ps.length → Ev (fun k => customhouseref17_SameLinks.l0 k ps ps (i : Int)) true := by
    intro d
    induction d with
    | zero =>
      intro i hd hi
      refine Ev.step (f := fun _ => some true) (fun k => ?_) (Ev.now _)
      rw [customhouseref17_SameLinks.l0, if_neg (by omega)]
    | succ d ih =>
      intro i hd hi
      have hw : wrap64 ((i : Int) + 1) = ((i + 1 : Nat) : Int) := by unfold wrap64; omega
      refine Ev.step (f := fun k => customhouseref17_SameLinks.l0 k ps ps ((i + 1 : Nat) : Int)) (fun k => ?_) (ih (i + 1) (by omega) (by omega))
      rw [customhouseref17_SameLinks.l0, if_pos (by omega), if_pos (by omega), if_pos (by omega), if_neg (by simp), hw]
  have := h ps.length 0 (by omega) (by omega)
  unfold customhouseref17_SameLinks.f
  exact Ev_ite_pos rfl this
theorem same_refl (ps : List ByteArray) (lc lv : List S42) (h0 : ps.length ≤ 1000000000) (h1 : lc.length ≤ 1000000000) (h2 : lv.length ≤ 1000000000) : Ev (fun k => customhouseref17_Same.f k ps lc lv ps lc lv) true := by
  unfold customhouseref17_Same.f
  refine Ev.bind (f := fun k t125 => (if t125 = true then ((customhouseref17_SameLinks.f k lc lc).bind fun t126 => (if t126 = true then ((customhouseref17_SameLinks.f k lv lv).bind fun t127 => (some t127)) else (some false))) else (some false))) (texts_refl ps h0) ?_
  refine Ev_ite_pos rfl ?_
  refine Ev.bind (f := fun k t126 => (if t126 = true then ((customhouseref17_SameLinks.f k lv lv).bind fun t127 => (some t127)) else (some false))) (links_refl lc h1) ?_
  refine Ev_ite_pos rfl ?_
  exact Ev.bind (f := fun k t127 => some t127) (links_refl lv h2) (Ev.now _)
def FewX (x : S36) : Prop := x.f0.size ≤ 60 ∧ x.f1.size ≤ 60 ∧ x.f2.size ≤ 60 ∧ x.f3.size ≤ 60 ∧ x.f4.size ≤ 60 ∧ x.f5.length ≤ 10 ∧ ∀ s ∈ x.f5, s.size ≤ 60
theorem few_l1 (l : List S36) (i : Nat) (f0 f1 f2 f3 f4 : ByteArray) (f5 : List ByteArray) (f6 f7 f8 f9 : Int) (b : Bool) (hi : i ≤ 1000) (h5 : f5.length ≤ 10) (hb : Ev (fun k => customhouseref17_Few.l0 k l ((i + 1 : Nat) : Int)) b) :
    ∀ e j, f5.length - j = e → j ≤ f5.length → (∀ s ∈ f5.take j, s.size ≤ 60) → ∃ b' : Bool, Ev (fun k => customhouseref17_Few.l1 k l (i : Int) (j : Int) f0 f1 f2 f3 f4 f5 f6 f7 f8 f9) b' ∧ (b' = true → b = true ∧ ∀ s ∈ f5, s.size ≤ 60) := by
  have hw : wrap64 ((i : Int) + 1) = ((i + 1 : Nat) : Int) := by unfold wrap64; omega
  intro e
  induction e with
  | zero =>
    intro j he hj2 ht
    have c1 : ¬ (j : Int) < (f5.length : Int) := by omega
    refine ⟨b, Ev.step (f := fun k => customhouseref17_Few.l0 k l ((i + 1 : Nat) : Int)) (fun k => ?_) hb, fun h => ⟨h, fun s hs => ht s ?_⟩⟩
    · rw [customhouseref17_Few.l1, if_neg c1, hw]
    · rw [List.take_of_length_le (by omega)]; exact hs
  | succ e ih2 =>
    intro j he hj2 ht
    have hjl : j < f5.length := by omega
    have c1 : (j : Int) < (f5.length : Int) := by omega
    have c2 : (0 : Int) ≤ (j : Int) := by omega
    have hw2 : wrap64 ((j : Int) + 1) = ((j + 1 : Nat) : Int) := by unfold wrap64; omega
    by_cases cs : ((rdOf ByteArray.empty f5 (j : Int)).size : Int) > 60
    · refine ⟨false, Ev.step (f := fun _ => some false) (fun k => ?_) (Ev.now _), fun h => by cases h⟩
      rw [customhouseref17_Few.l1, if_pos c1, if_pos c2, if_pos cs]
    · obtain ⟨b', h1, h2⟩ := ih2 (j + 1) (by omega) (by omega) (fun s hs => by
        rw [List.take_succ_eq_append_getElem hjl] at hs
        rcases List.mem_append.1 hs with h | h
        · exact ht s h
        · rw [List.mem_singleton.1 h]
          have e1 : rdOf ByteArray.empty f5 (j : Int) = f5[j] := by simp [rdOf, List.getD, hjl]
          rw [e1] at cs
          omega)
      refine ⟨b', Ev.step (f := fun k => customhouseref17_Few.l1 k l (i : Int) ((j + 1 : Nat) : Int) f0 f1 f2 f3 f4 f5 f6 f7 f8 f9) (fun k => ?_) h1, h2⟩
      rw [customhouseref17_Few.l1, if_pos c1, if_pos c2, if_neg cs, hw2]
def tooL (x : S36) : Bool := decide ((x.f0.size : Int) > 60) || (decide ((x.f1.size : Int) > 60) || (decide ((x.f2.size : Int) > 60) || (decide ((x.f3.size : Int) > 60) || (decide ((x.f4.size : Int) > 60) || decide ((x.f5.length : Int) > 10)))))
theorem few_l0 (l : List S36) (i : Nat) (hi : i < l.length) (k : Nat) : customhouseref17_Few.l0 (k + 1) l (i : Int) = (fun x : S36 => customhouseref17_Few.j1 k l (i : Int) (tooL x) x.f0 x.f1 x.f2 x.f3 x.f4 x.f5 x.f6 x.f7 x.f8 x.f9) (rd_T36 l (i : Int)) := by
  have c1 : (i : Int) < (l.length : Int) := by omega
  have c2 : (0 : Int) ≤ (i : Int) := by omega
  rw [customhouseref17_Few.l0, if_pos c1, if_pos c2]
  generalize rd_T36 l (i : Int) = x
  simp only
  unfold tooL
  by_cases d0 : (x.f0.size : Int) > 60
  · rw [if_pos d0, decide_eq_true d0]; rfl
  rw [if_neg d0, decide_eq_false d0]
  by_cases d1 : (x.f1.size : Int) > 60
  · rw [if_pos d1, decide_eq_true d1]; rfl
  rw [if_neg d1, decide_eq_false d1]
  by_cases d2 : (x.f2.size : Int) > 60
  · rw [if_pos d2, decide_eq_true d2]; rfl
  rw [if_neg d2, decide_eq_false d2]
  by_cases d3 : (x.f3.size : Int) > 60
  · rw [if_pos d3, decide_eq_true d3]; rfl
  rw [if_neg d3, decide_eq_false d3]
  by_cases d4 : (x.f4.size : Int) > 60
  · rw [if_pos d4, decide_eq_true d4]; rfl
  rw [if_neg d4, decide_eq_false d4]
  rfl
theorem tooL_false {x : S36} (h : tooL x = false) : x.f0.size ≤ 60 ∧ x.f1.size ≤ 60 ∧ x.f2.size ≤ 60 ∧ x.f3.size ≤ 60 ∧ x.f4.size ≤ 60 ∧ x.f5.length ≤ 10 := by
  unfold tooL at h
  simp only [Bool.or_eq_false_iff, decide_eq_false_iff_not] at h
  omega
theorem few_main (l : List S36) (h20 : l.length ≤ 20) : ∀ d i, l.length - i = d → i ≤ l.length → ∃ b : Bool, Ev (fun k => customhouseref17_Few.l0 k l (i : Int)) b ∧ (b = true → ∀ x ∈ l.drop i, FewX x) := by
  intro d
  induction d with
  | zero =>
    intro i hd hi
    have c1 : ¬ (i : Int) < (l.length : Int) := by omega
    refine ⟨true, Ev.step (f := fun _ => some true) (fun k => ?_) (Ev.now _), fun _ x hx => ?_⟩
    · rw [customhouseref17_Few.l0, if_neg c1]
    · rw [List.drop_eq_nil_of_le (by omega)] at hx; cases hx
  | succ d ih =>
    intro i hd hi
    obtain ⟨b, hb, hbx⟩ := ih (i + 1) (by omega) (by omega)
    have hil : i < l.length := by omega
    have hdk : l.drop i = rd_T36 l (i : Int) :: l.drop (i + 1) := by
      rw [List.drop_eq_getElem_cons hil]; simp [rd_T36, hil]
    have hstep := few_l0 l i hil
    rw [hdk]
    generalize rd_T36 l (i : Int) = x at *
    simp only at hstep
    cases ht : tooL x with
    | true =>
      rw [ht] at hstep
      have hj : Ev (fun k => customhouseref17_Few.j1 k l (i : Int) true x.f0 x.f1 x.f2 x.f3 x.f4 x.f5 x.f6 x.f7 x.f8 x.f9) false := Ev.step (f := fun _ => some false) (fun k => by rw [customhouseref17_Few.j1, if_pos rfl]) (Ev.now _)
      exact ⟨false, Ev.step (f := _) hstep hj, fun h => by cases h⟩
    | false =>
      rw [ht] at hstep
      have hx := tooL_false ht
      obtain ⟨b', h1, h2⟩ := few_l1 l i x.f0 x.f1 x.f2 x.f3 x.f4 x.f5 x.f6 x.f7 x.f8 x.f9 b (by omega) hx.2.2.2.2.2 hb x.f5.length 0 (by omega) (by omega) (by simp)
      have hj0 : Ev (fun k => customhouseref17_Few.j1 k l (i : Int) false x.f0 x.f1 x.f2 x.f3 x.f4 x.f5 x.f6 x.f7 x.f8 x.f9) b' :=
        Ev.step (f := fun k => customhouseref17_Few.l1 k l (i : Int) ((0 : Nat) : Int) x.f0 x.f1 x.f2 x.f3 x.f4 x.f5 x.f6 x.f7 x.f8 x.f9) (fun k => by rw [customhouseref17_Few.j1, if_neg (by simp)]; rfl) h1
      refine ⟨b', Ev.step (f := _) hstep hj0, fun h y hy => ?_⟩
      obtain ⟨hb', hs⟩ := h2 h
      rcases List.mem_cons.1 hy with rfl | hy
      · exact ⟨hx.1, hx.2.1, hx.2.2.1, hx.2.2.2.1, hx.2.2.2.2.1, hx.2.2.2.2.2, hs⟩
      · exact hbx hb' y hy
theorem few_ev (l : List S36) : ∃ b : Bool, Ev (fun k => customhouselaw17_few.f k l) b ∧ (b = true → l.length ≤ 20 ∧ ∀ x ∈ l, FewX x) := by
  by_cases h20 : (l.length : Int) > 20
  · refine ⟨false, ?_, fun h => by cases h⟩
    unfold customhouselaw17_few.f customhouseref17_Few.f
    exact Ev.bind (f := fun _ t => some t) (Ev_ite_pos h20 (Ev.now _)) (Ev.now _)
  · obtain ⟨b, hb, hx⟩ := few_main l (by omega) l.length 0 (by omega) (by omega)
    refine ⟨b, ?_, fun h => ⟨by omega, by simpa using hx h⟩⟩
    unfold customhouselaw17_few.f customhouseref17_Few.f
    exact Ev.bind (f := fun _ t => some t) (Ev_ite_neg h20 hb) (Ev.now _)
theorem FewX.mod {x : S36} (h : FewX x) : Mod x := by
  obtain ⟨h0, h1, h2, h3, h4, h5, h6⟩ := h
  exact ⟨by omega, by omega, by omega, by omega, by omega, by omega, fun s hs => by have := h6 s hs; omega⟩
end Go.Proofs.YthbcabnljcpaiaaGreatDoor.H
namespace Go.Proofs.YthbcabnljcpaiaaGreatDoor.H
open Go.RowKit Go.Shelf Go.Lib Go.Maps Go.WideElems Go.MapKept Go.Sort Go.Proofs.YthbcabnljcpaiaaGreatDoorW.PrintWords Go.Proofs.YthbcabnljcpaiaaGreatDoor.Q
set_option linter.unusedVariables false
def kb (p : Int × Int) : List UInt8 := keyBytes [.int .i64 p.1, .int .i64 p.2]
theorem key63b {p : Int × Int} (h1 : I64 p.1) (h2 : I64 p.2) : keyOf Tryz.prog 63 (keyV p) = some (.string (kb p)) := by
  have hkt : Tryz.prog.keyType 63 = true := by kernel_rfl
  have hc : Tryz.prog.cellsOf 63 = 2 := by kernel_rfl
  have hc3 : Tryz.prog.cellsOf 3 = 1 := by kernel_rfl
  have h0 : (Tryz.prog.types.size == 0) = false := by kernel_rfl
  obtain ⟨m, hm⟩ : ∃ m, Tryz.prog.types.size = m + 1 := Nat.exists_eq_succ_of_ne_zero (by simpa using h0)
  have w1 := wf64 h1
  have w2 := wf64 h2
  have hu := Tryz.underlying63
  have hu3 := Tryz.underlying3
  unfold keyOf kb
  simp only [hu, hm]
  rw [if_pos (by simp [hkt, Value.formed, hu, hc])]
  unfold Program.keyLits
  simp only [hu, Value.cells]
  rw [if_pos ⟨by rw [hc]; rfl, by simp⟩, List.mapM_cons, List.mapM_cons, List.mapM_nil]
  simp [hc3, Program.keyLits, hu3, w1, w2]
theorem kb_inj {p q : Int × Int} (h1 : I64 p.1) (h2 : I64 p.2) (h3 : I64 q.1) (h4 : I64 q.2) (h : kb p = kb q) : p = q :=
  keyV_inj _ _ (keyed63.inj (key63b h1 h2) (by rw [h]; exact key63b h3 h4))
def KeysI (m : List ((Int × Int) × Int)) : Prop := ∀ p ∈ m, I64 p.1.1 ∧ I64 p.1.2 ∧ I64 p.2
def keyB : Value → List UInt8
  | .agg #[.int .i64 a, .int .i64 b] => kb (a, b)
  | _ => []
set_option maxRecDepth 100000 in
theorem MapK.owns {w : World} {b : Nat} {m : List ((Int × Int) × Int)} (h : MapK w b m) (hm : m.length ≤ 10000000) (hs : KeysI m) :
    ∃ D : DataW Unit, w.ownsMap Tryz.prog 63 (plainElem Tryz.prog 3) b m.length D ∧ (strKeys D).Perm (m.map fun p => kb p.1) ∧ Maps.size D = m.length := by
  obtain ⟨arr, cl, hb, hst, he, hk⟩ := h
  have hlen : arr.size = m.length := by have := congrArg List.length he; simpa using this
  have hrd : ∀ x ∈ arr.toList, ∃ d, rd Tryz.prog 63 (plainElem (H := Unit) Tryz.prog 3) x = some (.string (keyB x.key), d) := fun x hx => by
    obtain ⟨p, hp, e1, e2⟩ := MapA.entry he hx
    obtain ⟨k, v, bo⟩ := x
    simp only at e1 e2
    subst e1 e2
    obtain ⟨i1, i2, i3⟩ := hs p hp
    exact ⟨_, rd_mk (key63b i1 i2) (plainElem_int Tryz.underlying3 (wf64 i3))⟩
  refine ⟨_, ⟨arr, cl, hb, ⟨by rw [hlen]; unfold maxLen; omega, hst, fun x hx => by obtain ⟨d, h⟩ := hrd x hx; exact ⟨_, h⟩⟩, by omega, rfl⟩, ?_, ?_⟩
  · unfold strKeys
    refine ((WideShapes.sorted_perm _).map _).trans ?_
    rw [List.map_map]
    have e : arr.toList.map ((fun p : Lit × DataW Unit => strOf p.1) ∘ rg Tryz.prog 63 (plainElem (H := Unit) Tryz.prog 3)) = (arr.toList.map fun e => (e.key, e.val)).map (fun q => keyB q.1) := by
      rw [List.map_map]
      refine List.map_congr_left fun x hx => ?_
      obtain ⟨d, h⟩ := hrd x hx
      simp only [Function.comp, rg_of h]
      rfl
    rw [e, he, List.map_map]
    exact List.Perm.refl _
  · simp [Maps.size, hlen, length_sorted]
end Go.Proofs.YthbcabnljcpaiaaGreatDoor.H
namespace Go.Proofs.YthbcabnljcpaiaaGreatDoor.H
open Go.RowKit Go.Shelf Go.Lib Go.Maps Go.WideElems Go.MapKept Go.Sort Go.Proofs.YthbcabnljcpaiaaGreatDoorW.PrintWords Go.Proofs.YthbcabnljcpaiaaGreatDoor.Q
set_option linter.unusedVariables false
theorem keyLits3 {d : Nat} {v : Value} {ls : List Lit} (h : Program.keyLits Tryz.prog (d + 1) 3 [v] = some ls) : ∃ n : Int, v = .int .i64 n ∧ I64 n ∧ ls = [.int .i64 n] := by
  unfold Program.keyLits at h
  simp only [Tryz.underlying3] at h
  cases v <;> simp at h
  rename_i q n
  obtain ⟨⟨rfl, hw⟩, rfl⟩ := h
  refine ⟨n, rfl, ?_, rfl⟩
  have hm : IntKind.i64.min = -9223372036854775808 := by decide
  simp [Lit.wf, hm] at hw
  exact hw
set_option maxRecDepth 100000 in
theorem keyV_of {key : Value} {kl : Lit} (h : keyOf Tryz.prog 63 key = some kl) : ∃ p : Int × Int, key = keyV p ∧ I64 p.1 ∧ I64 p.2 ∧ kl = .string (kb p) := by
  have hkt : Tryz.prog.keyType 63 = true := by kernel_rfl
  have hc : Tryz.prog.cellsOf 63 = 2 := by kernel_rfl
  have hc3 : Tryz.prog.cellsOf 3 = 1 := by kernel_rfl
  have h0 : (Tryz.prog.types.size == 0) = false := by kernel_rfl
  obtain ⟨m, hm⟩ : ∃ m, Tryz.prog.types.size = m + 1 := Nat.exists_eq_succ_of_ne_zero (by simpa using h0)
  have hu := Tryz.underlying63
  have hh := h
  unfold keyOf at h
  simp only [hu, hm] at h
  split at h
  case isFalse => cases h
  case isTrue hcond =>
    cases key <;> simp [hkt, Value.formed, hu, hc] at hcond
    rename_i cs
    obtain ⟨l⟩ := cs
    match l, hcond with
    | [a, b], _ =>
      unfold Program.keyLits at h
      simp only [hu, Value.cells] at h
      rw [if_pos ⟨by rw [hc]; rfl, by simp⟩, List.mapM_cons, List.mapM_cons, List.mapM_nil] at h
      simp only [hc3] at h
      rcases e1 : Program.keyLits Tryz.prog (m + 1) 3 [a] with _ | l1
      · simp [e1] at h
      rcases e2 : Program.keyLits Tryz.prog (m + 1) 3 [b] with _ | l2
      · simp [e1, e2] at h
      obtain ⟨x, rfl, hx, rfl⟩ := keyLits3 e1
      obtain ⟨y, rfl, hy, rfl⟩ := keyLits3 e2
      exact ⟨(x, y), rfl, hx, hy, Option.some.inj (hh.symm.trans (key63b (p := (x, y)) hx hy))⟩
variable {H : Type}
theorem collectedPerm {D0 : DataW H} {left : Lit → Bool} {ss : List (List UInt8)} {R : Value → Option (DataW H × List MemPlace)} {w : World} {b n : Nat}
    (h : Collected D0 left ss) (hown : w.ownsMap Tryz.prog 63 R b n D0) (hl : ∀ kl, left kl = false) : ss.Perm (strKeys D0) := by
  obtain ⟨es, hD, hpw, _⟩ := hown.entries keyed63
  obtain ⟨es', hD', hko⟩ := hown.keysOf
  obtain rfl : es = es' := by rw [hD] at hD'; simpa using hD'
  subst hD
  exact perm_strKeys hpw (fun p hp => by obtain ⟨v, hv⟩ := hko p hp; obtain ⟨x, _, _, _, hx⟩ := keyV_of hv; exact ⟨_, hx⟩) h.1 (fun x => by rw [h.2 x, hl]; simp)
def IP (ss : List (Int × Int)) : Prop := ∀ p ∈ ss, I64 p.1 ∧ I64 p.2
set_option maxRecDepth 100000 in
set_option maxHeartbeats 4000000 in
theorem keysK1_in (F : Fence) (n : Nat) (h95 : F.fn 95) (hro : F.round = none) (hn : 1 ≤ n) (l Bm b nn : Nat) (D0 : DataW Unit) (J : List (Int × Int) → World → Prop)
    (hY : ∀ pre x W, J pre W → pre.length < Maps.size D0 → YieldAt F (n - 1) Tryz.prog l #[keyV x] W fun e W' => e = .returned (.bool true) ∧ J (pre ++ [x]) W' ∧ KeepsWalks W W')
    (W : World) (hJ : AbidesFrom W.heap.size J) (hm : W.cell? ⟨Bm, 0, none⟩ = some (.map (some b))) (hown : W.ownsMap Tryz.prog 63 (plainElem Tryz.prog 3) b nn D0) (h0 : J [] W) :
    CallsIn F n Tryz.prog 95 #[.func (.yield l) #[] #[], .pointer (some ⟨Bm, 0, none⟩)] W fun e W' => (∃ v, e = .returned v) ∧ ∃ ss : List (Int × Int), ((ss.map kb).Perm (strKeys D0) ∧ IP ss) ∧ J ss W' := by
  refine callsIn_of_wp Tryz.func95 rfl h95 ?_ hro
  simp only [Tryz.ntmps95, List.size_toArray, List.length_cons, List.length_nil, Nat.reduceAdd, Nat.reduceSub, Array.replicate_succ, Array.replicate_zero, List.push_toArray, List.append_toArray, List.nil_append, List.cons_append]
  gi_wp2_with (first
    | (gi_at_range; refine wpListIn_range_own _ rfl _ 58 rfl 63 3 keyed63 Tryz.underlying58 _ b nn _ rfl hown ?_; intro w0 hrg0 hg0 hs0)
    | gi_in)
  go_frame
  gi_loopw [3] (fun _ wr => ∃ (left : Lit → Bool) (cnt : Nat) (ss : List (Int × Int)), wr.ranges Tryz.prog 63 (plainElem (H := Unit) Tryz.prog 3) b W.heap.size nn D0 left cnt ∧ ss.length + cnt ≤ Maps.size D0 ∧ Collected D0 left (ss.map kb) ∧ IP ss ∧ J ss wr)
    (fun _ wr => wr.rangeLeft b W.heap.size)
  case atStart =>
    exact ⟨_, _, [], hrg0, by simp, Collected.start D0, (by intro _ h; cases h), hJ [] W w0 none h0 hg0 (fun r e => by cases e)⟩
  case round =>
    obtain ⟨left, cnt, ss, hrg, hcs, hC, hI, hJs⟩ := hrel
    gi_wp2_with (first
      | (gi_at_next; refine wpListIn_next_ranges _ rfl _ rfl 63 keyed63 (plainElem (H := Unit) Tryz.prog 3) keyV id (fun key kl hk => by obtain ⟨x, hx, _⟩ := keyV_of hk; exact ⟨x, hx⟩) (fun v _ _ => ⟨v, rfl⟩) b W.heap.size nn _ _ _ rfl hrg ?_ ?_)
      | gi_in)
    · intro hc0 hl0
      gi_wp2
      go_end0
      exact ⟨⟨_, rfl⟩, ss, ⟨collectedPerm hC hown hl0, hI⟩, hJs⟩
    · intro x1 x2 c kl yd yp w2 cnt2 hkey hlk hv hat hrg2 hlt hg2 hs2 hen
      obtain ⟨x', ex, hx1, hx2, rfl⟩ := keyV_of hkey
      obtain rfl : (x1, x2) = x' := keyV_inj _ _ ex
      have hJ2 : J ss w2 := hJ ss wr w2 (some W.heap.size) hJs hg2 (fun r e => by cases e; exact ⟨Nat.le_refl _, hrg.iter_walk⟩)
      clear hs2
      have hJ3 := hJ ss w2 (w2.alloc (.cells #[.int .i64 x1, .int .i64 x2] 63)) none hJ2 (World.grownBy_alloc _ _ _) (fun r e => by cases e)
      have hrg2' := hrg2.alloc (.cells #[.int .i64 x1, .int .i64 x2] 63)
      obtain ⟨fn, tmps, assign, body, hy, hR⟩ := hY ss (x1, x2) _ hJ3 (by omega)
      gi_wp2
      refine hR.mono ?_
      rintro e W3 ⟨rfl, hJ4, hk3⟩
      gi_wp2
      have hrg3 := hrg2'.of_walks hk3
      go_roundw
      case rel => exact ⟨_, cnt2, ss ++ [(x1, x2)], hrg3, by simp; omega, by rw [List.map_append]; exact hC.step hlk hat, (fun p hp => by rcases List.mem_append.1 hp with h | h; exact hI p h; rw [List.mem_singleton.1 h]; exact ⟨hx1, hx2⟩), hJ4⟩
      case measure => rw [hrg3.left_eq, hrg.left_eq]; exact hlt
set_option maxHeartbeats 1000000 in
theorem keysK_in (F : Fence) (n : Nat) (h65 : F.fn 65) (hro : F.round = none) (mb : Option Nat) (w : World) :
    CallsIn F n Tryz.prog 65 #[.map mb] w fun e w' => e = .returned (.func (.func 95) #[] #[.pointer (some ⟨w.heap.size, 0, none⟩)]) ∧ w' = w.alloc (.cells #[.map mb] 58) := by
  refine callsIn_of_wp Tryz.func65 rfl h65 ?_ hro
  simp only [Tryz.ntmps65, List.size_toArray, List.length_cons, List.length_nil, Nat.reduceAdd, Nat.reduceSub, Array.replicate_succ, Array.replicate_zero, List.push_toArray, List.append_toArray, List.nil_append, List.cons_append]
  gi_wp2
  go_ret
  exact ⟨rfl, rfl⟩
theorem keysK_gives (F : Fence) (n : Nat) (h95 : F.fn 95) (hro : F.round = none) (hn : 1 ≤ n) (Bm b nn : Nat) (D0 : DataW Unit) (w : World) (hBm : Bm < w.heap.size)
    (hm : w.cell? ⟨Bm, 0, none⟩ = some (.map (some b))) (hown : w.ownsMap Tryz.prog 63 (plainElem Tryz.prog 3) b nn D0) :
    SeqGives F n Tryz.prog 95 #[.pointer (some ⟨Bm, 0, none⟩)] keyV (fun ss => (ss.map kb).Perm (strKeys D0) ∧ IP ss) (Maps.size D0) w := fun l J W hW hJ hY h0 => by
  have hown' : W.ownsMap Tryz.prog 63 (plainElem Tryz.prog 3) b nn D0 := by
    have hbl := hown.lt
    obtain ⟨es, clock, hb, Ft, hs, hD⟩ := hown
    exact ⟨es, clock, (hW.block b hbl).trans hb, Ft, hs, hD⟩
  exact keysK1_in F n h95 hro hn l Bm b nn D0 J hY W hJ ((hW.cell (p := ⟨Bm, 0, none⟩) hBm).trans hm) hown' h0
end Go.Proofs.YthbcabnljcpaiaaGreatDoor.H
namespace Go.Proofs.YthbcabnljcpaiaaGreatDoor.H
open Go.RowKit Go.Shelf Go.Lib Go.Maps Go.WideElems Go.MapKept Go.Sort Go.Proofs.YthbcabnljcpaiaaGreatDoorW.PrintWords Go.Proofs.YthbcabnljcpaiaaGreatDoor.Q
set_option linter.unusedVariables false
theorem wpListIn_append_eq {F : Fence} {n : Nat} {P : Program} {w : World} {ops : Array Oper} {rest : List Oper} {o : Oper} {a : Act} {Q : Exit → Act → World → Prop} (hg : o.guard = none) (s x : Operand) (t : TypeId)
    (hop : o.op = Op.call { callee := Callee.builtin Builtin.append, args := #[s, x], argTypes := #[t, t] }) (v u v1 : Value) (w1 : World) (hs : a.eval s = v) (hx : a.eval x = u) (hrun : (Builtin.append_ #[t, t] o.type #[v, u]).run P w = .ok v1 w1)
    (hK : wpListIn F n P ops Q rest (a.put o.dst v1) w1) : wpListIn F n P ops Q (o :: rest) a w := by
  refine wpListIn_plain hg fun K' hK' => ?_
  unfold Oper.wpIn
  refine ⟨?_, ?_⟩
  · simp [Oper.about, hop, resolve, Target.leads, Sem.run_pure]
  · rw [Oper.semAt_plain F _ _ (by rw [hop]; intro c hc'; cases hc')]
    unfold execOp
    simp only [hop, resolve, invoke, builtin, Sem.run_bind, Sem.run_pure, Result.andThen_ok, List.map_toArray, List.map_cons, List.map_nil, hs, hx, hrun]
    exact hK' _ _ hK
abbrev enc2 (p : Int × Int) : List Value := [.int .i64 p.1, .int .i64 p.2]
abbrev encs2 (ss : List (Int × Int)) : List Value := ss.flatMap enc2
def apAssign : Code := (Code.region 2 #[{ dst := some 5, op := Op.alloc 63, type := 0, pos := "iter.go:51", after := #[], guard := none }, { dst := none, op := Op.store 63 (Operand.tmp 5) (Operand.tmp 7), type := 0, pos := "iter.go:51", after := #[{ on := 0, ground := Ground.data }, { on := 0, ground := Ground.phase }], guard := none }] false)
def apBody : Code := (Code.block 1 (Code.region 3 #[{ dst := some 8, op := Op.load 86 (Operand.tmp 2), type := 86, pos := "iter.go:52", after := #[], guard := none }, { dst := some 9, op := Op.load 63 (Operand.tmp 5), type := 63, pos := "iter.go:52", after := #[], guard := none }, { dst := some 10, op := Op.buildSlice 86 1 #[(0, Operand.tmp 9)], type := 86, pos := "iter.go:52", after := #[{ on := 1, ground := Ground.data }], guard := none }, { dst := some 11, op := Op.call { callee := Callee.builtin Builtin.append, args := #[Operand.tmp 8, Operand.tmp 10], argTypes := #[86, 86] }, type := 86, pos := "iter.go:52", after := #[{ on := 0, ground := Ground.data }, { on := 2, ground := Ground.data }], guard := none }, { dst := none, op := Op.store 86 (Operand.tmp 2) (Operand.tmp 11), type := 0, pos := "iter.go:52", after := #[{ on := 3, ground := Ground.data }, { on := 3, ground := Ground.chain }, { on := 0, ground := Ground.phase }, { on := 1, ground := Ground.phase }, { on := 2, ground := Ground.phase }, { on := 3, ground := Ground.phase }], guard := none }] false))
def apRec (fn : FuncId) (sv : Value) (Bs D : Nat) (st : LoopState) (pend : Option Code) : Loop :=
  { state := st, pending := pend, fn, tmps := #[.slice none 0 0, sv, .pointer (some ⟨Bs, 0, none⟩), undef, .slice none 0 0, undef, sv, undef, undef, undef, undef, undef, undef], params := #[7], assign := apAssign, body := apBody, defers := D }
structure ApAt (w0 : World) (fn : FuncId) (sv : Value) (Bs l D : Nat) (ss : List (Int × Int)) (W : World) : Prop where
  box : ∃ v, W.heap[Bs]? = some (.cells #[v] 86 (0, 0)) ∧ W.ownsRow w0.heap.size 63 2 v ss.length (encs2 ss) ∧ (v = .slice none 0 0 ↔ ss = [])
  L : W.heap[l]? = some (.loop (apRec fn sv Bs D .ready none))
  K : W.heap[D]? = some (.deferred (some []))
  below : Below w0.heap.size w0 W
theorem ap_abides (w0 : World) (fn : FuncId) (sv : Value) (Bs l D B : Nat) (hB : w0.heap.size ≤ B) : AbidesFrom B (ApAt w0 fn sv Bs l D) := fun s W W' row h hg hrow => by
  have hrow' : ∀ r, row = some r → ∃ o : Obj, W.heap[r]? = some o ∧ o.isWalk = true := fun r e => (hrow r e).2
  obtain ⟨v, hv, hr, hn⟩ := h.box
  exact ⟨⟨v, (grownBy_keeps hg hrow' hv rfl).trans hv, ownsRow_abides_a hr hg hrow', hn⟩, (grownBy_keeps hg hrow' h.L rfl).trans h.L, (grownBy_keeps hg hrow' h.K rfl).trans h.K,
    h.below.grown hg h.below.size (fun k e => Nat.le_trans hB (hrow k e).1)⟩
theorem info63 : (Tryz.prog.info? 63).map (fun i => (i.zero, i.size, i.bytes)) = some (some (.agg #[.int .i64 0, .int .i64 0]), 2, 16) := by kernel_rfl
set_option maxRecDepth 100000 in
set_option maxHeartbeats 4000000 in
theorem apYield (F : Fence) (m : Nat) (w0 : World) (fn : FuncId) (hfn : F.fn fn) (sv : Value) (Bs l D : Nat) (hBl : Bs ≠ l) (hDl : D ≠ l) (hDB : D ≠ Bs) (h0B : w0.heap.size ≤ Bs) (h0l : w0.heap.size ≤ l)
    (N : Nat) (hN : N ≤ 10000000) (ss : List (Int × Int)) (x : Int × Int) (W : World) (h : ApAt w0 fn sv Bs l D ss W) (hlen : ss.length < N) :
    YieldAt F m Tryz.prog l #[keyV x] W fun e W' => e = .returned (.bool true) ∧ ApAt w0 fn sv Bs l D (ss ++ [x]) W' ∧ KeepsWalks W W' := by
  have hmx : maxLen = 9223372036854775807 := rfl
  have t86 := Tryz.underlying86
  obtain ⟨i0, hi, hzz⟩ := Option.map_eq_some_iff.1 info63
  simp only [Prod.mk.injEq] at hzz
  obtain ⟨hz0, hz1, hz2⟩ := hzz
  refine ⟨fn, #[.slice none 0 0, sv, .pointer (some ⟨Bs, 0, none⟩), undef, .slice none 0 0, undef, sv, keyV x, undef, undef, undef, undef, undef], apAssign, apBody, by simpa [apRec] using run_yield (P := Tryz.prog) (args := #[keyV x]) h.L rfl, roundIn_of_wpIn hfn ?_⟩
  have hgA := World.grownBy_alloc W (.cells #[.int .i64 x.1, .int .i64 x.2] 63) none
  have hkA : KeepsWalks W (W.alloc (.cells #[.int .i64 x.1, .int .i64 x.2] 63)) := KeepsWalks.alloc _ _
  have hA : ApAt w0 fn sv Bs l D ss (W.alloc (.cells #[.int .i64 x.1, .int .i64 x.2] 63)) := ap_abides w0 fn sv Bs l D _ (Nat.le_refl _) ss W _ none h hgA (fun r e => by cases e)
  have hx5 : (W.alloc (.cells #[.int .i64 x.1, .int .i64 x.2] 63)).heap[W.heap.size]? = some (.cells #[.int .i64 x.1, .int .i64 x.2] 63 (0, 0)) := World.alloc_heap_new W _
  have hWs : W.heap.size < (W.alloc (.cells #[.int .i64 x.1, .int .i64 x.2] 63)).heap.size := by simp
  have hlW : l < W.heap.size := (Array.getElem?_eq_some_iff.1 h.L).1
  have h0W : w0.heap.size ≤ W.heap.size := h.below.size
  unfold apAssign
  gi_wp2_with gi_round_op_a
  clear hgA
  obtain ⟨WA, hWA⟩ : ∃ WA, W.alloc (.cells #[.int .i64 x.1, .int .i64 x.2] 63) = WA := ⟨_, rfl⟩
  rw [hWA] at hkA hA hx5 hWs ⊢
  clear hWA
  obtain ⟨v, hv, hrow, _⟩ := hA.box
  have hl : l < WA.heap.size := (Array.getElem?_eq_some_iff.1 hA.L).1
  have hbr := run_beginRound (P := Tryz.prog) hA.L rfl
  obtain ⟨W2, hW2⟩ : ∃ W2, WA.putObj l (.loop { apRec fn sv Bs D .ready none with state := .busy }) = W2 := ⟨_, rfl⟩
  rw [hW2] at hbr
  have hg2 : WA.grownBy W2 (some l) := by rw [← hW2]; exact grownBy_putObj_a _ _ _
  have hk2 : KeepsWalks WA W2 := by rw [← hW2]; exact KeepsWalks.putObj _ hA.L rfl
  have hv2 : W2.heap[Bs]? = some (.cells #[v] 86 (0, 0)) := by rw [← hW2]; exact (World.putObj_heap_other hBl).trans hv
  have hK2 : W2.heap[D]? = some (.deferred (some [])) := by rw [← hW2]; exact (World.putObj_heap_other hDl).trans hA.K
  have hL2 : W2.heap[l]? = some (.loop { apRec fn sv Bs D .ready none with state := .busy }) := by rw [← hW2]; exact World.putObj_heap_same hl
  have hrow2 : W2.ownsRow w0.heap.size 63 2 v ss.length (encs2 ss) := hrow.kept hg2 (ownsRow_ne_a hrow hA.L (fun cur e => by cases e))
  have hb2 : Below w0.heap.size w0 W2 := hA.below.grown hg2 hA.below.size (fun k e => by cases e; exact h0l)
  have hx2 : W2.heap[W.heap.size]? = some (.cells #[.int .i64 x.1, .int .i64 x.2] 63 (0, 0)) := by rw [← hW2]; exact (World.putObj_heap_other (by omega)).trans hx5
  obtain ⟨hc2, hf2⟩ := cell_of_box_a hv2
  have hBlt : Bs < W2.heap.size := (Array.getElem?_eq_some_iff.1 hv2).1
  have hl2 : l < W2.heap.size := (Array.getElem?_eq_some_iff.1 hL2).1
  have hDlt : D < W2.heap.size := (Array.getElem?_eq_some_iff.1 hK2).1
  have R2 : Bx W2 W.heap.size 63 #[.int .i64 x.1, .int .i64 x.2] := hx2
  have hxc0 : W2.cell? ⟨W.heap.size, 0, none⟩ = some (.int .i64 x.1) := R2.cell 0
  have hxc1 : W2.cell? ⟨W.heap.size, 1, none⟩ = some (.int .i64 x.2) := R2.cell 1
  have ne_of : ∀ {j : Nat} {o : Obj}, W2.heap[j]? = some o → (∀ cur, o ≠ .cells cur 63 (0, 0)) → some j ≠ v.ownBlock := fun hj hno => by
    rcases ownsRow_ne_a hrow2 hj hno with e | e
    · rw [e]; simp
    · exact fun e' => e e'.symm
  clear hW2
  refine ⟨W2, hbr, ?_⟩
  have hsl := hb2.size
  have Rn : Bx (W2.alloc (.cells #[.int .i64 x.1, .int .i64 x.2] 63)) W2.heap.size 63 #[.int .i64 x.1, .int .i64 x.2] := Bx.new W2 63 _
  have hnews : ∀ j u, (enc2 x)[j]? = some u → (W2.alloc (.cells #[.int .i64 x.1, .int .i64 x.2] 63)).cell? ((⟨W2.heap.size, 0, none⟩ : Addr).add j) = some u := fun j u hu => by
    match j, hu with
    | 0, hu => cases hu; exact Rn.cell 0
    | 1, hu => cases hu; exact Rn.cell 1
  obtain ⟨v', w3, hrun, hown', hg3, hnil3⟩ := run_append_own (P := Tryz.prog) (W2.alloc (.cells #[.int .i64 x.1, .int .i64 x.2] 63)) w0.heap.size 86 86 63 i0 (.agg #[.int .i64 0, .int .i64 0]) 2 16 t86 hi hz0 hz1 hz2 rfl (by decide) v ss.length (encs2 ss) (hrow2.alloc _) ⟨W2.heap.size, 0, none⟩ 1 1 (enc2 x) rfl hnews
    (by intro u hu; simp [enc2] at hu; rcases hu with rfl | rfl <;> rfl) (by omega) (by omega) (by simp; omega)
  have hv3 : w3.heap[Bs]? = some (.cells #[v] 86 (0, 0)) := (hg3.block Bs (by simp; omega) (ne_of hv2 (fun cur e => by cases e))).trans ((Below.heap_alloc _ _ Bs hBlt).trans hv2)
  obtain ⟨hc3, hf3⟩ := cell_of_box_a hv3
  obtain ⟨g', cap', cur', rfl, hbase', hgb', hr1, hr2, hr3, hr4⟩ : ∃ g' cap' cur', v' = .slice (some ⟨g', 0, none⟩) (ss.length + 1) cap' ∧ w0.heap.size ≤ g' ∧ w3.heap[g']? = some (.cells cur' 63 (0, 0)) ∧ ss.length + 1 ≤ cap' ∧ cap' ≤ maxLen ∧ cur'.size = cap' * 2 ∧ cur'.toList.take ((ss.length + 1) * 2) = encs2 ss ++ enc2 x := by
    rcases hown'.2 with ⟨_, h0⟩ | h'
    · exact absurd h0 (by omega)
    · exact h'
  have hL3 : w3.heap[l]? = some (.loop { apRec fn sv Bs D .ready none with state := .busy }) := (hg3.block l (by simp; omega) (ne_of hL2 (fun cur e => by cases e))).trans ((Below.heap_alloc _ _ l hl2).trans hL2)
  have hK3 : w3.heap[D]? = some (.deferred (some [])) := (hg3.block D (by simp; omega) (ne_of hK2 (fun cur e => by cases e))).trans ((Below.heap_alloc _ _ D hDlt).trans hK2)
  have hb3 : Below w0.heap.size w0 w3 := (hb2.alloc hb2.size _).grown hg3 (by simp; omega) (fun k e => (hrow2.lt k e).1)
  have hk3 : KeepsWalks W w3 := ((hkA.trans hk2).trans (KeepsWalks.alloc _ _)).trans (KeepsWalks.of_grownBy hg3 (ownsRow_not_walk_a (hrow2.alloc _)))
  have Hrun := hid hrun
  clear hrun
  have H3 := hid (And.intro hv3 (And.intro hL3 (And.intro hK3 (And.intro hb3 (And.intro hk3 hown')))))
  clear hg3 hnil3 hgb' hr1 hr2 hr3 hr4 hv3 hL3 hK3 hb3 hk3 hown' hnews Rn R2 hx2 hg2 hk2 hL2 hK2 hrow2 hb2 hrow ne_of hbr hbase'
  unfold apBody
  gi_wp2_with (first | (gi_at_builtin; refine wpListIn_append_eq rfl _ _ 86 rfl _ _ _ _ rfl rfl Hrun.out ?_) | gi_round_op_a)
  obtain ⟨hv3, hL3, hK3, hb3, hk3, hown'⟩ := H3.out
  obtain ⟨w4, hw4⟩ : ∃ w4, w3.setCell ⟨Bs, 0, none⟩ (.slice (some ⟨g', 0, none⟩) (ss.length + 1) cap') = w4 := ⟨_, rfl⟩
  rw [hw4]
  have hg4 : w3.grownBy w4 (some Bs) := by rw [← hw4]; exact grownBy_setCell0_a _ _ _
  have hv4 : w4.heap[Bs]? = some (.cells #[.slice (some ⟨g', 0, none⟩) (ss.length + 1) cap'] 86 (0, 0)) := by rw [← hw4]; exact heap_setCell_box_a _ hv3
  have hL4 : w4.heap[l]? = some (.loop { apRec fn sv Bs D .ready none with state := .busy }) := (hg4.block l (Array.getElem?_eq_some_iff.1 hL3).1 (fun e => hBl (by cases e; rfl))).trans hL3
  have hK4 : w4.heap[D]? = some (.deferred (some [])) := (hg4.block D (Array.getElem?_eq_some_iff.1 hK3).1 (fun e => hDB (by cases e; rfl))).trans hK3
  have hrow4 := hown'.kept hg4 (ownsRow_ne_a hown' hv3 (fun cur e => by cases e))
  have hl4 : l < w4.heap.size := (Array.getElem?_eq_some_iff.1 hL4).1
  have hb4 : Below w0.heap.size w0 w4 := hb3.grown hg4 hb3.size (fun k e => by cases e; exact h0B)
  have hk4 : KeepsWalks W w4 := hk3.trans (by rw [← hw4]; exact KeepsWalks.setCell _ _ _)
  clear hw4
  refine ⟨_, _, run_endRound none hL4, rfl, ⟨⟨_, (World.putObj_heap_other hBl).trans hv4, ?_, by simp⟩, World.putObj_heap_same hl4, (World.putObj_heap_other hDl).trans hK4, hb4.grown (grownBy_putObj_a _ _ _) hb4.size (fun k e => by cases e; exact h0l)⟩, hk4.trans (KeepsWalks.putObj _ hL4 rfl)⟩
  have := hrow4.kept (grownBy_putObj_a w4 l (.loop { { apRec fn sv Bs D .ready none with state := .busy } with state := if (none : Option Code).isNone then .ready else .done, pending := none })) (ownsRow_ne_a hrow4 hL4 (fun cur e => by cases e))
  have e1 : encs2 (ss ++ [x]) = encs2 ss ++ enc2 x := by simp [encs2]
  rw [e1, List.length_append]
  exact this
set_option maxRecDepth 100000 in
set_option maxHeartbeats 4000000 in
theorem appendSeqK_in (F : Fence) (n : Nat) (h11 : F.fn 121) (hro : F.round = none) (hn : 2 ≤ n) (g : Nat) (lb : Array Value) (hFg : F.fn g) (eg : ∀ args w, (callFunc g args).run Tryz.prog w = .ok (.enter g args) w)
    (S : List (Int × Int) → Prop) (N : Nat) (hN : N ≤ 10000000) (w : World) (hseq : SeqGives F (n - 1) Tryz.prog g lb keyV S N w) :
    CallsIn F n Tryz.prog 121 #[.slice none 0 0, .func (.func g) #[] lb] w fun e w' => ∃ (v : Value) (ss : List (Int × Int)), e = .returned v ∧ S ss ∧ w'.ownsRow w.heap.size 63 2 v ss.length (encs2 ss) ∧ (v = .slice none 0 0 ↔ ss = []) ∧ Below w.heap.size w w' := by
  have h1 : 1 ≤ n := by omega
  refine callsIn_of_wp_marks Tryz.func121 rfl h11 ?_ hro
  simp only [Tryz.ntmps121, List.size_toArray, List.length_cons, List.length_nil, Nat.reduceAdd, Nat.reduceSub, Array.replicate_succ, Array.replicate_zero, List.push_toArray, List.append_toArray, List.nil_append, List.cons_append]
  gi_wp2
  refine wpIn_rangeFunc ?_
  intro fn hfn
  rw [hro]
  obtain ⟨W0, hW0⟩ : ∃ W0, w.alloc (.cells #[.slice none 0 0] 86) = W0 := ⟨_, rfl⟩
  have hs0 : W0.heap.size = w.heap.size + 1 := by rw [← hW0]; simp
  have hv0 : W0.heap[w.heap.size]? = some (.cells #[.slice none 0 0] 86 (0, 0)) := by rw [← hW0]; exact World.alloc_heap_new w _
  have hb0 : Below w.heap.size w W0 := by rw [← hW0]; exact (Below.refl _ w).alloc (Nat.le_refl _) _
  rw [hW0]
  obtain ⟨W1, hW1⟩ : ∃ W1, (W0.alloc (.deferred (some []))).alloc (.loop (apRec fn (.func (.func g) #[] lb) w.heap.size W0.heap.size .ready none)) = W1 := ⟨_, rfl⟩
  have hold : ∀ k, k < W0.heap.size → W1.heap[k]? = W0.heap[k]? := fun k hk => by
    rw [← hW1]; exact (Below.heap_alloc _ _ k (by simp; omega)).trans (Below.heap_alloc _ _ k hk)
  have hb1 : Below w.heap.size w W1 := by rw [← hW1]; exact (hb0.alloc hb0.size _).alloc (by have := hb0.size; simp; omega) _
  have hs1 : W1.heap.size = W0.heap.size + 2 := by rw [← hW1]; simp
  have hM : ApAt w fn (.func (.func g) #[] lb) w.heap.size (W0.heap.size + 1) W0.heap.size [] W1 :=
    ⟨⟨_, (hold w.heap.size (by omega)).trans hv0, ⟨rfl, .inl ⟨rfl, rfl⟩⟩, by simp⟩,
     by rw [← hW1]; have := World.alloc_heap_new (W0.alloc (.deferred (some []))) (.loop (apRec fn (.func (.func g) #[] lb) w.heap.size W0.heap.size .ready none)); rwa [World.size_alloc] at this,
     by rw [← hW1]; exact (Below.heap_alloc _ _ _ (by simp)).trans (World.alloc_heap_new W0 _), hb1⟩
  refine ⟨W0.heap.size + 1, [{ target := .collected W0.heap.size, args := #[] }], W1, { target := .fn (.func g) lb, args := #[.func (.yield (W0.heap.size + 1)) #[] #[]] }, W1, g,
    #[.func (.yield (W0.heap.size + 1)) #[] #[]] ++ lb, W1, ?_, ?_, ?_, ?_, fun _ => h1, ?_⟩
  · rw [← hW1]; exact run_enterLoop_outer _ _ _ _ _
  · simp [resolve, go_sem]
  · intro f' hf'; simp [Target.leads] at hf'; subst hf'; exact hFg
  · simp [invoke, go_sem, eg]
  · refine (hseq (W0.heap.size + 1) (ApAt w fn (.func (.func g) #[] lb) w.heap.size (W0.heap.size + 1) W0.heap.size) W1 hb1 (ap_abides _ _ _ _ _ _ _ hb1.size)
      (fun pre x W hJ hl => apYield F (n - 1 - 1) w fn hfn _ w.heap.size (W0.heap.size + 1) W0.heap.size (by omega) (by omega) (by omega) (Nat.le_refl _) (by omega) N hN pre x W hJ hl) hM).mono ?_
    rintro e W2 ⟨⟨v0, rfl⟩, ss, hS, h2⟩
    obtain ⟨v, hv, hrow, hnil⟩ := h2.box
    have hend := run_endLoop (P := Tryz.prog) h2.L (by simp [apRec])
    obtain ⟨W3, hW3⟩ : ∃ W3, W2.putObj (W0.heap.size + 1) (.loop { apRec fn (.func (.func g) #[] lb) w.heap.size W0.heap.size .ready none with state := .exhausted }) = W3 := ⟨_, rfl⟩
    rw [hW3] at hend
    have hg3 : W2.grownBy W3 (some (W0.heap.size + 1)) := by rw [← hW3]; exact grownBy_putObj_a _ _ _
    have hv3 : W3.heap[w.heap.size]? = some (.cells #[v] 86 (0, 0)) := by rw [← hW3]; exact (World.putObj_heap_other (by omega)).trans hv
    have hK3 : W3.heap[W0.heap.size]? = some (.deferred (some [])) := by rw [← hW3]; exact (World.putObj_heap_other (by omega)).trans h2.K
    have hrow3 := hrow.kept hg3 (ownsRow_ne_a hrow h2.L (fun cur e => by cases e))
    have hb3 : Below w.heap.size w W3 := h2.below.grown hg3 h2.below.size (fun k e => by cases e; omega)
    obtain ⟨hc3, hf3⟩ := cell_of_box_a hv3
    clear hW3
    refine ⟨none, W3, hend, ?_⟩
    gi_wp2
    rw [← hs0]
    refine ⟨by simp, .inl ⟨_, _, rfl, run_takeDeferred hK3, ?_⟩⟩
    exact ⟨_, results_tmp rfl _ _ _, v, ss, rfl, hS, hrow3.kept (grownBy_putObj_a _ _ _) (ownsRow_ne_a hrow3 hK3 (fun cur e => by cases e)), hnil, hb3.grown (grownBy_putObj_a _ _ _) hb3.size (fun k e => by cases e; omega)⟩
set_option maxHeartbeats 1000000 in
theorem collectK_in (F : Fence) (n : Nat) (h8 : F.fn 93) (h11 : F.fn 121) (hro : F.round = none) (hn : 3 ≤ n) (g : Nat) (lb : Array Value) (hFg : F.fn g) (eg : ∀ args w, (callFunc g args).run Tryz.prog w = .ok (.enter g args) w)
    (S : List (Int × Int) → Prop) (N : Nat) (hN : N ≤ 10000000) (w : World) (hseq : SeqGives F (n - 1 - 1) Tryz.prog g lb keyV S N w) :
    CallsIn F n Tryz.prog 93 #[.func (.func g) #[] lb] w fun e w' => ∃ (v : Value) (ss : List (Int × Int)), e = .returned v ∧ S ss ∧ w'.ownsRow w.heap.size 63 2 v ss.length (encs2 ss) ∧ (v = .slice none 0 0 ↔ ss = []) ∧ Below w.heap.size w w' := by
  have h1 : 1 ≤ n := by omega
  refine callsIn_of_wp Tryz.func93 rfl h8 ?_ hro
  simp only [Tryz.ntmps93, List.size_toArray, List.length_cons, List.length_nil, Nat.reduceAdd, Nat.reduceSub, Array.replicate_succ, Array.replicate_zero, List.push_toArray, List.append_toArray, List.nil_append, List.cons_append]
  gi_wp2_with (first | (gi_at_call 121; refine (appendSeqK_in F (n - 1) h11 hro (by omega) g lb hFg eg S N hN _ hseq).mono ?_; rintro e w' ⟨v, ss, rfl, hS, hrow, hnil, hb⟩))
  go_ret
  exact ⟨v, ss, rfl, hS, hrow, hnil, hb⟩
end Go.Proofs.YthbcabnljcpaiaaGreatDoor.H
