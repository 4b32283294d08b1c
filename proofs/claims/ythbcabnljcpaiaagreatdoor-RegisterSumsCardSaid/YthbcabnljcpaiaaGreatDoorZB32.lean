/- A part of the proof that the register's laws hold; no condition of its own. -/
import Derived.Test.YthbcabnljcpaiaaGreatDoorZB31
import Derived.Test.YthbcabnljcpaiaaGreatDoorRows
import Derived.WalkKit
import Derived.ProofKit
import Derived.OpenShut
import Derived.Deep.DeepHandedRow
import Derived.Deep.Strs
import Derived.Lib.LaidTab
import Derived.ChangeOld
import Derived.Carry
set_option linter.all false
namespace Go.Proofs.YthbcabnljcpaiaaGreatDoor.H
open Go.RowKit Go.Shelf Go.Lib Go.Maps Go.Proofs.YthbcabnljcpaiaaGreatDoorW.PrintWords Go.Proofs.YthbcabnljcpaiaaGreatDoorW.PrintLast Go.Proofs.YthbcabnljcpaiaaGreatDoorW.PrintMore Go.Proofs.YthbcabnljcpaiaaGreatDoor.Q
set_option linter.unusedVariables false
theorem few_calls17 (l : List S36) : ∃ b : Bool, (b = true → l.length ≤ 20 ∧ ∀ x ∈ l, FewX x) ∧ ∀ (A : Option Addr) (c : Nat) (w : World), HC w A l → l.length ≤ c → Calls Tryz.prog 12 #[.slice A l.length c] w fun e w' => e = .returned (.bool b) ∧ Below w.heap.size w w' := by
  obtain ⟨b, hb, hx⟩ := few_ev l
  obtain ⟨k, hk⟩ := Ev.rounds hb
  refine ⟨b, hx, fun A c w hC hc => (customhouselaw17_few.calls k A c l b w hC hc hk).mono ?_⟩
  rintro e w' ⟨rfl, hd⟩
  exact ⟨rfl, hd⟩
theorem few_modL {l : List S36} (h : l.length ≤ 20 ∧ ∀ x ∈ l, FewX x) : ModL l := ⟨by omega, fun x hx => (h.2 x hx).mod⟩
theorem rP_len (l : List S36) (day : Int) : (rP l day).length ≤ 60 := by
  unfold rP
  split
  · rename_i h
    rcases atE_cases l day with ⟨_, hv, _⟩ | ⟨h1, _⟩
    · exact hv.2.2.1
    · omega
  · simp
theorem linksOf_len {who : S36 → List ByteArray} {pc : S36 → Int} {ps : List ByteArray} {day : Int} {l : List S36} (hx : ∀ x ∈ l, (0 ≤ pc x ∧ pc x ≤ 100) ∧ 0 < (who x).length ∧ (who x).length ≤ 5) (hl : l.length ≤ 500) (hps : ps.length ≤ 1000000) : (linksOf who pc ps day l).length ≤ 1000000 := by
  unfold linksOf linkL
  rw [List.length_map, keysL_length]
  exact (mapL_ok hx hl hps).2.1
theorem rC_len (l : List S36) (day : Int) (hl : l.length ≤ 500) : (rC l day).length ≤ 1000000 := by
  unfold rC
  split
  · rename_i h
    rcases atE_cases l day with ⟨_, hv, _⟩ | ⟨h1, _⟩
    · rw [List.length_map]
      exact linksOf_len (fun x hx => ⟨(hv.1.1 x hx).2.2.1, (who_len (hv.1.1 x hx)).1⟩) hl (by have := hv.2.2.1; omega)
    · omega
  · simp
theorem rV_len (l : List S36) (day : Int) (hl : l.length ≤ 500) : (rV l day).length ≤ 1000000 := by
  unfold rV
  split
  · rename_i h
    rcases atE_cases l day with ⟨_, hv, _⟩ | ⟨h1, _⟩
    · rw [List.length_map]
      exact linksOf_len (fun x hx => ⟨(hv.1.1 x hx).2.2.2.1, (who_len (hv.1.1 x hx)).2⟩) hl (by have := hv.2.2.1; omega)
    · omega
  · simp
set_option maxRecDepth 100000 in
set_option maxHeartbeats 8000000 in
theorem order_calls (l : List S36) (A : Option Addr) (c : Nat) (day : Int) (w : World) (hC : HC w A l) (hc : l.length ≤ c) (ht : Tab w) :
    Calls Tryz.prog 4 #[.slice A l.length c, .int .i64 day] w fun e w' => e = .returned (.bool true) ∧ Below w.heap.size w w' := by
  have hhd := head_calls w ht
  obtain ⟨b, hb, hfew⟩ := few_calls17 l
  have hfe := fun W (h : Below w.heap.size w W) => hfew A c W (Kd.C_below hC h) hc
  have Hhd := hid hhd
  have Hfe := hid hfe
  have Ht := hid ht
  clear hhd hfe hfew ht
  rcases b with _ | _
  · go_enter Tryz.func4, Tryz.ntmps4
    go_wp2_with (first | (go_at_call 10; refine Hhd.out.mono ?_; rintro e w1 ⟨rfl, hb1⟩) | (go_at_call 12; refine (Hfe.out _ hb1).mono ?_; rintro e w2 ⟨rfl, hb2⟩; have hw2 := bseq hb1 hb2))
    go_ret
    exact ⟨rfl, hw2⟩
  · obtain ⟨h20, hfx⟩ := hb rfl
    have hM := few_modL ⟨h20, hfx⟩
    clear hb
    go_enter Tryz.func4, Tryz.ntmps4
    go_wp2_with (first | (go_at_call 10; refine Hhd.out.mono ?_; rintro e w1 ⟨rfl, hb1⟩) | (go_at_call 12; refine (Hfe.out _ hb1).mono ?_; rintro e w2 ⟨rfl, hb2⟩; have hw2 := bseq hb1 hb2))
    go_loopg [6, 7] l.length (fun g v6 v7 wr => ∃ k : Nat, v7 = .int .i64 ((k : Int) - 1) ∧ g = k ∧ k ≤ l.length ∧ HN wr w2.heap.size v6 (l.drop k).reverse ∧ Below w2.heap.size w2 wr)
    case atStart => exact ⟨l.length, by go_num, rfl, Nat.le_refl _, by rw [List.drop_length]; exact Kd.N_nil _ _ _ _ _, Below.refl _ _⟩
    case round =>
      obtain ⟨k, rfl, rfl, hkl, hN, hBw⟩ := hrel
      have hBW : Below w.heap.size w wr := hw2.trans (hBw.mono hw2.size)
      obtain ⟨A6, n6, hv6, hl6, hC6⟩ := hN.shape
      subst hv6
      by_cases hk : 0 < gk
      · obtain ⟨ad, A5, c5, rfl, a0, a1, a2, a3, a4, a5, a6, a7, a8, a9, j5, J5⟩ := at36 hC hBW (gk - 1) (by omega)
        have hx : (l.drop (gk - 1)).reverse = (l.drop gk).reverse ++ [rd_T36 l ((gk - 1 : Nat) : Int)] := by
          have h1 : gk - 1 < l.length := by omega
          have h2 : gk - 1 + 1 = gk := by omega
          rw [List.drop_eq_getElem_cons h1, h2, List.reverse_cons]
          simp [rd_T36, h1]
        generalize rd_T36 l ((gk - 1 : Nat) : Int) = x at *
        have k1 : (0 : Int) ≤ (gk : Int) - 1 := by omega
        have et : ((gk : Int) - 1).toNat = gk - 1 := by omega
        have hnn := own_ne_new hN
        have B1 := Bx.new wr 36 (hcells x A5 c5)
        have g1 := below_alloc (Below.refl wr.heap.size wr) (.cells (hcells x A5 c5) 36)
        obtain ⟨v7, w7, hrun, hN7, hb7⟩ := appH_lit w2.heap.size A6 n6 wr.heap.size (l.drop gk).reverse x A5 c5 (hN.below g1) B1 hnn (Kd.F_below (Kd.C_F Kd.heap_string J5) (hBW.trans (g1.mono hBW.size))) (fun k hk => Nat.lt_of_lt_of_le hk hw2.size) j5 (Nat.le_trans hBw.size g1.size) (by rw [List.length_reverse, List.length_drop]; omega)
        have Hx := hid hx
        have Hrun := hid hrun
        have HN7 := hid (And.intro hN7 (hBw.trans ((g1.mono hBw.size).trans hb7)))
        clear hx hrun hN7 hN hC6 hl6 hnn B1 g1
        go_wp2_with (first | (at_builtin; refine wpList_append_eq rfl _ _ 26 rfl _ _ _ _ rfl rfl Hrun.out ?_))
        go_roundg (gk - 1)
        case rel => exact ⟨gk - 1, by go_num, rfl, by omega, by rw [Hx.out]; exact HN7.out.1, HN7.out.2⟩
        case measure => omega
      · obtain rfl : gk = 0 := by omega
        rw [List.drop_zero] at *
        have hM2 : ModL l.reverse := ⟨by rw [List.length_reverse]; exact hM.1, fun x hx => hM.2 x (List.mem_reverse.1 hx)⟩
        obtain ⟨o1, o2, o3, o4⟩ := order_law l day
        have e0 : rP l.reverse day = rP l day := by unfold rP; rw [o1, o2]
        have e1 : rC l.reverse day = rC l day := by unfold rC; rw [o1, o3]
        have e2 : rV l.reverse day = rV l day := by unfold rV; rw [o1, o4]
        have h1 := at_calls l A c day hM wr (Kd.C_below hC hBW) hc (Ht.out.below hBW)
        have h2 := fun W (h : Below wr.heap.size wr W) => at_calls l.reverse A6 n6 day hM2 W (Kd.C_below hC6 h) hl6 ((Ht.out.below hBW).below h)
        simp only [e0, e1, e2, o1, List.length_reverse] at h2
        obtain ⟨k0, hk0⟩ := Ev.rounds (same_refl (rP l day) (rC l day) (rV l day) (by have := rP_len l day; omega) (by have := rC_len l day (by omega); omega) (by have := rV_len l day (by omega); omega))
        generalize rP l day = ps at *
        generalize rC l day = lc at *
        generalize rV l day = lv at *
        generalize atE l day = err at *
        have H1 := hid h1
        have H2 := hid h2
        have HK := hid hk0
        clear h1 h2 hk0 e0 e1 e2 o1 o2 o3 o4 hC6 hl6
        go_wp2_with (first
          | (go_at_call 13; (with_reducible refine H1.out.mono ?_); rintro e w3 ⟨s0, s1, s2, rfl, hP, hCc, hVv, hb3⟩; obtain ⟨P0, p0, rfl, hp0, P0C⟩ := hP; obtain ⟨P1, p1, rfl, hp1, P1C⟩ := hCc; obtain ⟨P2, p2, rfl, hp2, P2C⟩ := hVv; have R3 := Bx.new w3 25 #[.slice P0 ps.length p0, .slice P1 lc.length p1, .slice P2 lv.length p2]; have g3 := below_alloc (Below.refl w3.heap.size w3) (.cells #[.slice P0 ps.length p0, .slice P1 lc.length p1, .slice P2 lv.length p2] 25))
          | (go_at_call 13; (with_reducible refine (H2.out _ (bseq hb3 g3)).mono ?_); rintro e w4 ⟨s3, s4, s5, rfl, hP, hCc, hVv, hb4⟩; obtain ⟨P3, p3, rfl, hp3, P3C⟩ := hP; obtain ⟨P4, p4, rfl, hp4, P4C⟩ := hCc; obtain ⟨P5, p5, rfl, hp5, P5C⟩ := hVv; have R4 := R3.below hb4; have c4 := R4.cell; have l4 := R4.lt; have g4 := below_alloc (Below.refl w4.heap.size w4) (.cells #[.slice P3 ps.length p3, .slice P4 lc.length p4, .slice P5 lv.length p5] 25); have g34 := bseq (bseq g3 hb4) g4)
          | (go_at_call 16; refine (customhouseref17_Same.calls k0 P0 p0 ps P1 p1 lc P2 p2 lv P3 p3 ps P4 p4 lc P5 p5 lv true _ (Kd.C_below P0C g34) hp0 (Kd.C_below P1C g34) hp1 (Kd.C_below P2C g34) hp2 (Kd.C_below P3C g4) hp3 (Kd.C_below P4C g4) hp4 (Kd.C_below P5C g4) hp5 HK.out).mono ?_; rintro e w5 ⟨rfl, hb5⟩; have hb9 := hBW.trans (((bseq hb3 (bseq g34 hb5))).mono hBW.size)))
        go_ret
        exact ⟨rfl, hb9⟩
end Go.Proofs.YthbcabnljcpaiaaGreatDoor.H
namespace Go.Proofs.YthbcabnljcpaiaaGreatDoor.H
open Go.RowKit Go.Shelf Go.Lib Go.ChangeShapes Go.WideShapes Go.ChangeAt Go.Deep Go.Proofs.YthbcabnljcpaiaaGreatDoorW.PrintWords Go.Proofs.YthbcabnljcpaiaaGreatDoor.Q
set_option linter.unusedVariables false
instance : Inhabited S36 := ⟨hH⟩
section
variable {H : Type} {enc : TypeId × Value → H} {W : World} {base : Nat} {spare : Nat → Bool} {held : Bool}
theorem cells9 : Tryz.prog.cellsOf 9 = 1 := by kernel_rfl
theorem cells22 : Tryz.prog.cellsOf 22 = 1 := by kernel_rfl
theorem cells3 : Tryz.prog.cellsOf 3 = 1 := by kernel_rfl
theorem cells36 : Tryz.prog.cellsOf 36 = 10 := by kernel_rfl
theorem open_texts {fuel : Nat} {cs : List Value} {x : DataW H × List MemPlace} (h : DataW.trod enc Tryz.prog W base spare held fuel 22 cs = some x) :
    ∃ (A : Option Addr) (c : Nat) (l : List ByteArray), cs = [.slice A l.length c] ∧ l.length ≤ c ∧ Kd.C Kd.string W A l.length l := by
  rcases open_strs Tryz.underlying22 Tryz.underlying9 cells9 h with ⟨rfl, _⟩ | ⟨a, len, cap, m, Sx, rfl, hb, hl, hm, hmm, _, hx⟩
  · obtain ⟨A, c, e, hl, hC⟩ := SV.nil W
    injection e with e1 e2 e3
    subst e1 e3
    exact ⟨none, 0, [], rfl, Nat.le_refl _, hC⟩
  · have hle : len ≤ m := by rw [hmm]; split <;> omega
    have hlen : ((List.range len).map Sx).length = len := by simp
    refine ⟨some a, cap, (List.range len).map Sx, by rw [hlen], by rw [hlen]; exact hl, ?_⟩
    rw [hlen]
    refine Kd.C_of_reads (d := ByteArray.empty) (h1 := fun _ => rfl) ⟨by simp, Nat.le_trans hl hm, fun hn => ⟨a, rfl, fun j hj => ?_⟩⟩
    rw [(hx j (by omega)).1]
    simp [hj]
set_option maxRecDepth 100000 in
theorem trod36 {n : Nat} {cs : List Value} {x : DataW H × List MemPlace} (h : DataW.trod enc Tryz.prog W base spare held n 36 cs = some x) :
    ∃ y : S36, k36.K W y cs ∧ cs.length = 10 ∧ (I64 y.f6 ∧ I64 y.f7 ∧ I64 y.f8 ∧ I64 y.f9) := by
  obtain ⟨xs, m, _, _, hl, hlen, hf⟩ := DataW.trod_struct Tryz.underlying36 h
  rw [cells36] at hl
  have hlen' : xs.length = 10 := hlen
  match cs, hl, xs, hlen' with
  | [c0, c1, c2, c3, c4, c5, c6, c7, c8, c9], _, [y0, y1, y2, y3, y4, y5, y6, y7, y8, y9], _ =>
    have h0 := hf 0 _ rfl
    have h1 := hf 1 _ rfl
    have h2 := hf 2 _ rfl
    have h3 := hf 3 _ rfl
    have h4 := hf 4 _ rfl
    have h5 := hf 5 _ rfl
    have h6 := hf 6 _ rfl
    have h7 := hf 7 _ rfl
    have h8 := hf 8 _ rfl
    have h9 := hf 9 _ rfl
    simp only [cells9, cells22, cells3, List.drop_zero, List.drop_succ_cons, List.take_succ_cons, List.take_zero, List.getElem?_cons_zero, List.getElem?_cons_succ] at h0 h1 h2 h3 h4 h5 h6 h7 h8 h9
    obtain ⟨s0, e0, _⟩ := DataW.trod_string Tryz.underlying9 h0
    obtain ⟨s1, e1, _⟩ := DataW.trod_string Tryz.underlying9 h1
    obtain ⟨s2, e2, _⟩ := DataW.trod_string Tryz.underlying9 h2
    obtain ⟨s3, e3, _⟩ := DataW.trod_string Tryz.underlying9 h3
    obtain ⟨s4, e4, _⟩ := DataW.trod_string Tryz.underlying9 h4
    obtain ⟨A5, n5, l5, e5, hl5, hC5⟩ := open_texts h5
    obtain ⟨z6, e6, _, w6⟩ := DataW.trod_int Tryz.underlying3 h6
    obtain ⟨z7, e7, _, w7⟩ := DataW.trod_int Tryz.underlying3 h7
    obtain ⟨z8, e8, _, w8⟩ := DataW.trod_int Tryz.underlying3 h8
    obtain ⟨z9, e9, _, w9⟩ := DataW.trod_int Tryz.underlying3 h9
    have hw : ∀ z : Int, (Lit.int .i64 z).wf = true → I64 z := fun z h => by
      have hm : IntKind.i64.min = -9223372036854775808 := by decide
      simp [Lit.wf, hm] at h
      exact h
    injection e0 with e0; injection e1 with e1; injection e2 with e2; injection e3 with e3; injection e4 with e4; injection e5 with e5; injection e6 with e6; injection e7 with e7; injection e8 with e8; injection e9 with e9
    subst e0 e1 e2 e3 e4 e5 e6 e7 e8 e9
    exact ⟨⟨s0, s1, s2, s3, s4, l5, z6, z7, z8, z9⟩, k36_mk W ⟨s0, s1, s2, s3, s4, l5, z6, z7, z8, z9⟩ hl5 hC5, rfl, hw _ w6, hw _ w7, hw _ w8, hw _ w9⟩
theorem open_holdings {fuel len cap : Nat} {a : Option Addr} {x : DataW H × List MemPlace} (h : DataW.trod enc Tryz.prog W base spare held fuel 26 [.slice a len cap] = some x) :
    ∃ l : List S36, l.length = len ∧ len ≤ cap ∧ HC W a l ∧ ∀ y ∈ l, I64 y.f6 ∧ I64 y.f7 ∧ I64 y.f8 ∧ I64 y.f9 := by
  rcases open_slice Tryz.underlying26 h with ⟨e, _⟩ | ⟨ad, len', cap', m, n, D, Pl, e, hb, hl, hm, hmm, _, hx⟩
  · injection e with e
    injection e with e1 e2 e3
    subst e1 e2 e3
    obtain ⟨A, c, e, hl, hC⟩ := HN.shape (w := W) (base := 0) (v := .slice none 0 0) (l := []) (Kd.N_nil _ _ _ _ _)
    injection e with e1 e2 e3
    subst e1
    exact ⟨[], rfl, Nat.le_refl _, hC, fun y hy => by cases hy⟩
  · injection e with e
    injection e with e1 e2 e3
    subst e1 e2 e3
    have hle : len ≤ m := by rw [hmm]; split <;> omega
    have each : ∀ i, i < len → ∃ y : S36, (∃ cs, k36.K W y cs ∧ cs.length = 10 ∧ W.cells? base (ad.add (i * 10)) 10 = some cs) ∧ (I64 y.f6 ∧ I64 y.f7 ∧ I64 y.f8 ∧ I64 y.f9) := fun i hi => by
      obtain ⟨cs, hc, ht⟩ := hx i (by omega)
      rw [cells36] at hc
      obtain ⟨y, h1, h2, h3⟩ := trod36 ht
      exact ⟨y, ⟨cs, h1, h2, hc⟩, h3⟩
    obtain ⟨f, hf⟩ := choose_lt each
    have hlen : ((List.range len).map f).length = len := by simp
    refine ⟨(List.range len).map f, hlen, hl, ?_, fun y hy => ?_⟩
    · show Kd.C k36 W (some ad) ((List.range len).map f).length _
      rw [hlen]
      refine ⟨by simp, Nat.le_trans hl hm, fun hn => ⟨ad, rfl, fun j p hj => ?_⟩⟩
      have hjl : j < len := by
        rcases Nat.lt_or_ge j len with h | h
        · exact h
        · rw [List.getElem?_eq_none (by simpa using h)] at hj; cases hj
      have hp : p = f j := by
        rw [List.getElem?_map, List.getElem?_range hjl] at hj
        simpa using hj.symm
      obtain ⟨⟨cs, h1, h2, h3⟩, _⟩ := hf j hjl
      refine ⟨cs, h2, by rw [hp]; exact h1, fun i u hu => ?_⟩
      have hil : i < 10 := by
        rw [← h2]
        rcases Nat.lt_or_ge i cs.length with h | h
        · exact h
        · rw [List.getElem?_eq_none h] at hu; cases hu
      unfold World.cells? at h3
      split at h3
      · obtain ⟨b, hb1, hb2⟩ := Lib.mapM_at h3 i i (List.getElem?_range hil)
        rw [hu] at hb1
        rw [Deep.add_add] at hb2
        rw [Option.some.inj hb1]
        exact hb2
      · cases h3
    · obtain ⟨i, hi, rfl⟩ := List.mem_map.1 hy
      exact (hf i (List.mem_range.1 hi)).2
end
end Go.Proofs.YthbcabnljcpaiaaGreatDoor.H
