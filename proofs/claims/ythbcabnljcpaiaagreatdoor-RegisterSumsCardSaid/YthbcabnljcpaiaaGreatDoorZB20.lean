/- A part of the proof that the register's laws hold; no condition of its own. -/
import Derived.Test.YthbcabnljcpaiaaGreatDoorZB19
set_option linter.all false
namespace Go.Proofs.YthbcabnljcpaiaaGreatDoor.H
open Go.RowKit Go.Shelf Go.Lib Go.Maps Go.Proofs.YthbcabnljcpaiaaGreatDoorW.PrintWords Go.Proofs.YthbcabnljcpaiaaGreatDoor.Q
set_option linter.unusedVariables false
attribute [local go_sem] heap_drew
set_option maxRecDepth 100000 in
set_option maxHeartbeats 4000000 in
theorem place_calls (ps : List ByteArray) (A : Option Addr) (c sb : Nat) (x1 x2 : Value) (s : ByteArray) (t : Nat) (hI : Inc ps) (hl : ps.length ≤ 1000000) (ht : t < ps.length) (hs : ps[t] = s) (W : World) (hC : Kd.C Kd.string W A ps.length ps) (hc : ps.length ≤ c)
    (hB : Bx W sb 25 #[.slice A ps.length c, x1, x2]) :
    Calls Tryz.prog 34 #[.string s, .pointer (some ⟨sb, 0, none⟩)] W fun e w' => e = .returned (.int .i64 (t : Int)) ∧ Drawn0 W w' := by
  have hbc := hB.cell 0
  have h0 : W.cell? ⟨sb, 0, none⟩ = some (.slice A ps.length c) := hbc
  have hb := bin_calls ps A c s t hI hl ht hs W hC hc
  have Hb := hid hb
  clear hb hbc
  go_enter Tryz.func34, Tryz.ntmps34
  go_wp2_with (first | (go_at_call 35; refine Hb.out.mono ?_; rintro e w1 ⟨rfl, hd⟩))
  go_ret
  exact ⟨rfl, hd⟩
theorem SC_same {W W' : World} {A : Option Addr} {n : Nat} {xs : List ByteArray} (h : Kd.C Kd.string W A n xs) (e : ∀ (k : Nat) c t f, W.heap[k]? = some (Obj.cells c t f) → W'.heap[k]? = W.heap[k]?) : Kd.C Kd.string W' A n xs := by
  have hr := Kd.reads_of_C (enc := Value.string) (d := ByteArray.empty) (h1 := fun _ => rfl) h
  refine Kd.C_of_reads (d := ByteArray.empty) (h1 := fun _ => rfl) ⟨hr.1, hr.2.1, fun hn => ?_⟩
  obtain ⟨ad, ea, hc⟩ := hr.2.2 hn
  refine ⟨ad, ea, fun j hj => ?_⟩
  have h1 := hc j hj
  obtain ⟨c, t, f, hb⟩ := cell_block h1
  exact (cell_same (e _ c t f hb)).trans h1
theorem MapE.isMap {α β : Type} [DecidableEq α] {P : Program} {k : TypeId} {ek : α → Value} {ev : β → Value} {w : World} {b : Nat} {m : List (α × β)} {a : α} {s : Nat} (h : MapE P k ek ev w b m a s) : MapA P k ek ev w b m := by
  obtain ⟨arr, cl, h1, h2, h3, h4, _⟩ := h
  exact ⟨arr, cl, h1, h2, h3, h4⟩
def plc (ps : List ByteArray) (s : ByteArray) : Nat := ps.findIdx fun t => decide (t = s)
theorem plc_spec {ps : List ByteArray} {s : ByteArray} (h : s ∈ ps) : ∃ ht : plc ps s < ps.length, ps[plc ps s] = s := by
  have h1 : ps.findIdx (fun t => decide (t = s)) < ps.length := List.findIdx_lt_length_of_exists ⟨s, h, by simp⟩
  refine ⟨h1, ?_⟩
  have := List.findIdx_getElem (p := fun t => decide (t = s)) (xs := ps) (w := h1)
  show ps[ps.findIdx fun t => decide (t = s)] = s
  exact of_decide_eq_true this
def addS (m : List ((Int × Int) × Int)) (ps : List ByteArray) (co : ByteArray) (pc : Int) (n : Nat) : List ByteArray → List ((Int × Int) × Int)
  | [] => m
  | s :: l => addS (if 0 < pc ∧ s ≠ co then asPut m ((plc ps co : Int), (plc ps s : Int)) (asGet m ((plc ps co : Int), (plc ps s : Int)) 0 + pc * 60 / n) else m) ps co pc n l
theorem addS_append (ps : List ByteArray) (co : ByteArray) (pc : Int) (n : Nat) (l r : List ByteArray) (m : List ((Int × Int) × Int)) : addS m ps co pc n (l ++ r) = addS (addS m ps co pc n l) ps co pc n r := by
  induction l generalizing m with
  | nil => rfl
  | cons a l ih => rw [List.cons_append, addS, addS, ih]
theorem asPut_twice {α β : Type} [DecidableEq α] (m : List (α × β)) (a : α) (v u : β) : asPut (asPut m a v) a u = asPut m a u := by
  by_cases h : ∀ p ∈ m, p.1 ≠ a
  · have e1 : asPut m a v = m ++ [(a, v)] := by unfold asPut; rw [if_pos h]
    have e2 : asPut m a u = m ++ [(a, u)] := by unfold asPut; rw [if_pos h]
    rw [e1, e2]
    unfold asPut
    rw [if_neg (fun hx => hx (a, v) (by simp) rfl), List.map_append]
    congr 1
    · refine (List.map_congr_left (g := id) (fun q hq => ?_)).trans (List.map_id _)
      rw [if_neg (h q hq)]; rfl
    · simp
  · have e1 : asPut m a v = m.map fun p => if p.1 = a then (a, v) else p := by unfold asPut; rw [if_neg h]
    have e2 : asPut m a u = m.map fun p => if p.1 = a then (a, u) else p := by unfold asPut; rw [if_neg h]
    have hn : ¬ ∀ p ∈ asPut m a v, p.1 ≠ a := fun hx => by
      obtain ⟨p, hp, e⟩ := (asPut_keys m a v a).2 (.inl rfl)
      exact hx p hp e
    have pm : ∀ m' : List (α × β), (¬ ∀ p ∈ m', p.1 ≠ a) → asPut m' a u = m'.map fun p => if p.1 = a then (a, u) else p := fun m' h => by unfold asPut; rw [if_neg h]
    rw [e2, pm _ hn, e1, List.map_map]
    refine List.map_congr_left fun q hq => ?_
    simp only [Function.comp]
    by_cases e : q.1 = a
    · simp [e]
    · simp [e]
theorem addS_bound {ps : List ByteArray} {co : ByteArray} {pc : Int} {n : Nat} (hpc : 0 ≤ pc ∧ pc ≤ 100) (hn : 0 < n) {lo hi : Int} : ∀ (l : List ByteArray) (m : List ((Int × Int) × Int)) (K : Nat), m.Pairwise (fun p q => p.1 ≠ q.1) → (∀ p, lo ≤ asGet m p 0 ∧ asGet m p 0 ≤ hi + 6000 * K) →
    (addS m ps co pc n l).Pairwise (fun p q => p.1 ≠ q.1) ∧ ∀ p, lo ≤ asGet (addS m ps co pc n l) p 0 ∧ asGet (addS m ps co pc n l) p 0 ≤ hi + 6000 * (K + l.length : Nat)
  | [], m, K, hd, h => ⟨hd, fun p => by simpa [addS] using h p⟩
  | s :: l, m, K, hd, h => by
    have hq0 : 0 ≤ pc * 60 / (n : Int) := Int.ediv_nonneg (by omega) (by omega)
    have hq1 : pc * 60 / (n : Int) ≤ 6000 := Int.le_trans (Int.ediv_le_self _ (by omega)) (by omega)
    have step : ∀ m' : List ((Int × Int) × Int), m'.Pairwise (fun p q => p.1 ≠ q.1) → (∀ p, lo ≤ asGet m' p 0 ∧ asGet m' p 0 ≤ hi + 6000 * (K + 1 : Nat)) → (addS m' ps co pc n l).Pairwise (fun p q => p.1 ≠ q.1) ∧ ∀ p, lo ≤ asGet (addS m' ps co pc n l) p 0 ∧ asGet (addS m' ps co pc n l) p 0 ≤ hi + 6000 * (K + (s :: l).length : Nat) := fun m' hd' h' => by
      have := addS_bound (ps := ps) (co := co) hpc hn l m' (K + 1) hd' h'
      rw [show K + (s :: l).length = K + 1 + l.length by simp; omega]
      exact this
    rw [addS]
    split
    · refine step _ (asPut_apart hd _ _) fun p => ?_
      rw [asGet_put m hd]
      have hp := h p
      split
      · rename_i e
        subst e
        constructor <;> push_cast <;> omega
      · constructor <;> push_cast <;> omega
    · exact step m hd fun p => by have := h p; constructor <;> push_cast <;> omega
set_option maxRecDepth 100000 in
set_option maxHeartbeats 8000000 in
theorem share_calls (ps : List ByteArray) (A : Option Addr) (c sb q mb : Nat) (x1 x2 : Value) (m : List ((Int × Int) × Int)) (co : ByteArray) (pc : Int) (who : List ByteArray) (A2 : Option Addr) (c2 : Nat) (hI : Inc ps) (hl : ps.length ≤ 1000000) (hco : co ∈ ps) (hwho : ∀ s ∈ who, s ∈ ps)
    (hpc : 0 ≤ pc ∧ pc ≤ 100) (hn : who.length ≤ 1000) (hm : ∀ p, 0 ≤ asGet m p 0 ∧ asGet m p 0 ≤ 1000000000000) (w : World) (W : World) (hW : Below w.heap.size w W) (hC : Kd.C Kd.string w A ps.length ps) (hc : ps.length ≤ c)
    (hB : Bx W sb 25 #[.slice A ps.length c, x1, x2]) (hq : Boxed W q 61 (.func (.func 34) #[] #[.pointer (some ⟨sb, 0, none⟩)])) (hM : MapK W mb m) (hsb : sb < mb) (hqb : q ≠ mb) (hmw : w.heap.size ≤ mb) (h2 : Kd.C Kd.string W A2 who.length who) (hc2 : who.length ≤ c2) :
    Calls Tryz.prog 36 #[.map (some mb), .string co, .int .i64 pc, .slice A2 who.length c2, .pointer (some ⟨q, 0, none⟩)] W fun e w' => e = .returned (.tuple #[]) ∧ MapK w' mb (addS m ps co pc who.length who) ∧ W.grownBy w' (some mb) := by
  have hnn : ∀ k, k < who.length → who.take (k + 1) = who.take k ++ [rdOf ByteArray.empty who (k : Int)] := fun k hk => by
    rw [List.take_succ_eq_append_getElem hk]
    simp [rdOf, List.getD, hk]
  have hmem : ∀ k, k < who.length → rdOf ByteArray.empty who (k : Int) ∈ who := fun k hk => by simp [rdOf, List.getD, hk]
  have Hnn := hid hnn
  have Hmem := hid hmem
  clear hnn hmem
  go_enter Tryz.func36, Tryz.ntmps36
  go_wp2
  go_loopg [13] who.length (fun g v13 wr => ∃ k : Nat, v13 = .int .i64 k ∧ g + k = who.length ∧ MapK wr mb (addS m ps co pc who.length (who.take k)) ∧ W.grownBy wr (some mb))
  case atStart => exact ⟨0, rfl, by omega, hM, World.grownBy.refl _ _⟩
  case round =>
    obtain ⟨k, rfl, hgk, hMk, hG⟩ := hrel
    by_cases hk : k < who.length
    · have hkt := Hnn.out k hk
      have hsm := Hmem.out k hk
      have hmap : ∀ (j : Nat) (c : Array Value) (t : TypeId) (f : Nat × Nat), W.heap[j]? = some (Obj.cells c t f) → wr.heap[j]? = W.heap[j]? := fun j c t f hj => hG.block j (blk_lt hj) (fun e => by cases e; obtain ⟨arr, cl, hb, _⟩ := hM; rw [hb] at hj; cases hj)
      have h2' : Kd.C Kd.string wr A2 who.length who := SC_same h2 hmap
      obtain ⟨ad, rfl, hcell⟩ := Kd.at_string h2' (k : Int) (by omega) (by omega)
      simp only [Int.toNat_natCast] at hcell
      generalize hs : rdOf ByteArray.empty who (k : Int) = s at *
      have Hkt := hid hkt
      clear hkt hs
      by_cases hp : 0 < pc
      · by_cases hsc : s = co
        · have e1 : (s.toList == co.toList) = true := by rw [hsc]; exact beq_self_eq_true _
          have e2 : s.toList = co.toList := by rw [hsc]
          have Hsc := hid hsc
          clear hsc
          go_wp2_with (fail)
          go_roundg (who.length - (k + 1))
          case rel =>
            refine ⟨k + 1, by go_num, by omega, ?_, hG⟩
            rw [Hkt.out, addS_append, addS, addS, if_neg (fun h => h.2 Hsc.out)]
            exact hMk
          case measure => omega
        · have e1 : (s.toList == co.toList) = false := by rw [beq_eq_false_iff_ne]; exact fun e => hsc (data_inj (by rw [Lib.toList_data, Lib.toList_data] at e; exact e))
          have e2 : ¬ s.toList = co.toList := fun e => hsc (data_inj (by rw [Lib.toList_data, Lib.toList_data] at e; exact e))
          have d1 : decide (0 < pc) = true := decide_eq_true hp
          have hqr : Boxed wr q 61 (.func (.func 34) #[] #[.pointer (some ⟨sb, 0, none⟩)]) := (hG.block q hq.lt (fun e => hqb (Option.some.inj e))).trans hq
          have hqc := hqr.cell
          have hql := hqr.lt
          have hl2 : who.length ≠ 0 := by omega
          obtain ⟨hct, hcs⟩ := plc_spec hco
          obtain ⟨hst, hss⟩ := plc_spec (hwho s hsm)
          have hCr : ∀ W', W'.heap = wr.heap → Kd.C Kd.string W' A ps.length ps := fun W' e => SC_same (SC_same (Kd.C_below hC hW) hmap) (fun j c t f _ => by rw [e])
          have hBr : ∀ W', W'.heap = wr.heap → Bx W' sb 25 #[.slice A ps.length c, x1, x2] := fun W' e => by unfold Bx; rw [e]; exact (hmap sb _ _ _ hB).trans hB
          have hpl1 := fun W' (h : W'.heap = wr.heap) => place_calls ps A c sb x1 x2 co _ hI hl hct hcs W' (hCr W' h) hc (hBr W' h)
          have hpl2 := fun W' (h : W'.heap = wr.heap) => place_calls ps A c sb x1 x2 s _ hI hl hst hss W' (hCr W' h) hc (hBr W' h)
          have Hpl1 := hid hpl1
          have Hpl2 := hid hpl2
          have hen := enters_of Tryz.func34 (by kernel_rfl) rfl
          generalize hic : plc ps co = ic at *
          generalize his : plc ps s = is at *
          have Hic := hid hic
          have His := hid his
          clear hic his
          have hMn : ∀ n, MapK (wr.drewN n) mb (addS m ps co pc who.length (who.take k)) := fun n => hMk.same rfl
          obtain ⟨M, hMM⟩ : ∃ M, M = addS m ps co pc who.length (who.take k) := ⟨_, rfl⟩
          rw [← hMM] at hMn hMk
          have hi1 : I64 (ic : Int) := by unfold I64; omega
          have hi2 : I64 (is : Int) := by unfold I64; omega
          obtain ⟨g, hg⟩ : ∃ g, g = asGet M ((ic : Int), (is : Int)) 0 := ⟨_, rfl⟩
          have hlk : ∀ n, (Instr.lookup 58 (.map (some mb)) (.agg #[.int .i64 (ic : Int), .int .i64 (is : Int)]) false).run Tryz.prog (wr.drewN n) = .ok (.int .i64 g) (wr.drewN n) := fun n => by
            have := MapK.get (hMn n) (p := ((ic : Int), (is : Int))) hi1 hi2
            rw [← hg] at this
            exact this
          have hme : ∀ n, ∃ s w', (Instr.mapEntry 58 (.map (some mb)) (.agg #[.int .i64 (ic : Int), .int .i64 (is : Int)])).run Tryz.prog (wr.drewN n) = .ok (.tuple #[.int .i64 g, .int .i64 (s : Nat)]) w' ∧ MapE Tryz.prog 63 keyV (Value.int .i64) w' mb (asPut M ((ic : Int), (is : Int)) g) ((ic : Int), (is : Int)) s ∧ (wr.drewN n).grownBy w' (some mb) := fun n => by
            have := MapK.entryAt (hMn n) (p := ((ic : Int), (is : Int))) hi1 hi2
            rw [← hg] at this
            exact this
          obtain ⟨S, hS⟩ := Classical.skolem.1 hme
          obtain ⟨F, hF⟩ := Classical.skolem.1 hS
          have hme1 := fun n => (hF n).1
          have hMb := (addS_bound (ps := ps) (co := co) (n := who.length) hpc (by omega) (lo := 0) (hi := 1000000000000) (who.take k) m 0 (MapA.apart keyV_inj hM) (fun p => by have := hm p; omega)).2 ((ic : Int), (is : Int))
          rw [← hMM, ← hg, List.length_take] at hMb
          have hwp : IntKind.i64.wrap (pc * 60) = pc * 60 := IntWalk.i64_in _ (by omega)
          obtain ⟨Qn, hQ⟩ : ∃ Qn, Qn = (pc * 60).tdiv (who.length : Int) := ⟨_, rfl⟩
          have hQ2 : Qn = pc * 60 / (who.length : Int) := by rw [hQ, Int.tdiv_eq_ediv_of_nonneg (by omega)]
          have hq0 : 0 ≤ Qn := by rw [hQ2]; exact Int.ediv_nonneg (by omega) (by omega)
          have hq1 : Qn ≤ 6000 := by rw [hQ2]; exact Int.le_trans (Int.ediv_le_self _ (by omega)) (by omega)
          have hwq : IntKind.i64.wrap Qn = Qn := IntWalk.i64_in _ (by omega)
          have hwg : IntKind.i64.wrap (g + Qn) = g + Qn := IntWalk.i64_in _ (by omega)
          have hQr := hQ.symm
          have Hg := hid hg
          have HQ2 := hid hQ2
          have HMM := hid hMM
          have hst2 : ∀ n, ∃ w', (Instr.entryStore 58 (.map (some mb)) (.int .i64 (S n : Int)) (.int .i64 (g + Qn))).run Tryz.prog (F n) = .ok () w' ∧ MapK w' mb (asPut (asPut M ((ic : Int), (is : Int)) g) ((ic : Int), (is : Int)) (g + Qn)) ∧ (F n).grownBy w' (some mb) := fun n =>
            MapE.store (hF n).2.1 keyV_inj ((asPut_keys M _ g _).2 (.inl rfl)) (g + Qn)
          obtain ⟨G, hG2⟩ := Classical.skolem.1 hst2
          have hst3 := fun n => (hG2 n).1
          have HG3 := hid (fun n => by
            have h9 := (hG2 n).2.1
            rw [asPut_twice, hg, hQ2] at h9
            exact h9 : ∀ n, MapK (G n) mb (asPut M ((ic : Int), (is : Int)) (asGet M ((ic : Int), (is : Int)) 0 + pc * 60 / (who.length : Int))))
          have HG4 := hid (fun n => (hG.andThen (row' := some mb) (show wr.grownBy (F n) (some mb) from ⟨(hF n).2.2.os, (hF n).2.2.tape, (hF n).2.2.output, (hF n).2.2.size, (hF n).2.2.block⟩) (fun j e => .inr e)).andThen (hG2 n).2.2 (fun j e => .inr e) : ∀ n, W.grownBy (G n) (some mb))
          clear hg hQ hQ2 hMM hst2 hG2 hMb
          have hlk2 : ∀ n j, (Instr.lookup 58 (.map (some mb)) (.agg #[.int .i64 (ic : Int), .int .i64 (is : Int)]) false).run Tryz.prog ((F n).drewN j) = .ok (.int .i64 g) ((F n).drewN j) := fun n j => by
            have := MapK.get (MapA.same (w' := (F n).drewN j) (MapE.isMap (hF n).2.1) rfl) (p := ((ic : Int), (is : Int))) hi1 hi2
            rw [asGet_put M (MapA.apart keyV_inj hMk), if_pos rfl] at this
            exact this
          have hlk3 : ∀ n, (Instr.lookup 58 (.map (some mb)) (.agg #[.int .i64 (ic : Int), .int .i64 (is : Int)]) false).run Tryz.prog (F n) = .ok (.int .i64 g) (F n) := fun n => by
            have := MapK.get (MapE.isMap (hF n).2.1) (p := ((ic : Int), (is : Int))) hi1 hi2
            rw [asGet_put M (MapA.apart keyV_inj hMk), if_pos rfl] at this
            exact this
          clear hme hS hMn
          have hF2 := hid hF
          clear hF
          clear hpl1 hpl2 hCr hBr
          go_wp2_with (fail)
          go_region_with (first | (go_at_call 34; with_reducible refine (Hpl1.out _ (by simp only [World.heap_drewN, heap_drew])).mono ?_; rintro e w1 ⟨rfl, ⟨⟨n1, rfl⟩⟩⟩) | (go_at_call 34; with_reducible refine (Hpl2.out _ (by simp only [World.heap_drewN, heap_drew])).mono ?_; rintro e w1 ⟨rfl, ⟨⟨n1, rfl⟩⟩⟩))
          all_goals
            go_wp2_with (fail)
            go_roundg (who.length - (k + 1))
            case rel =>
              refine ⟨k + 1, by go_num, by omega, ?_, ?_⟩
              · rw [Hkt.out, addS_append, ← HMM.out, addS, addS, if_pos ⟨hp, hsc⟩, Hic.out, His.out]
                exact HG3.out _
              · exact HG4.out _
            case measure => omega
      · have e1 : decide (0 < pc) = false := decide_eq_false hp
        go_wp2_with (fail)
        go_roundg (who.length - (k + 1))
        case rel =>
          refine ⟨k + 1, by go_num, by omega, ?_, hG⟩
          rw [Hkt.out, addS_append, addS, addS, if_neg (fun h => by have := h.1; omega)]
          exact hMk
        case measure => omega
    · obtain rfl : k = who.length := by omega
      rw [List.take_length] at hMk
      go_wp2_with (fail)
      go_end0
      exact ⟨rfl, hMk, hG⟩
end Go.Proofs.YthbcabnljcpaiaaGreatDoor.H
