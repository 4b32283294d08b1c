/- A part of the proof that the register's laws hold; no condition of its own. -/
import Derived.Test.YthbcabnljcpaiaaGreatDoorZB32
import Derived.Test.YthbcabnljcpaiaaGreatDoorZB21
set_option linter.all false
namespace Go.Proofs.YthbcabnljcpaiaaGreatDoor.H
open Go.RowKit Go.Shelf Go.Lib Go.Maps Go.Proofs.YthbcabnljcpaiaaGreatDoorW.PrintWords Go.Proofs.YthbcabnljcpaiaaGreatDoorW.PrintLast Go.Proofs.YthbcabnljcpaiaaGreatDoorW.PrintMore Go.Proofs.YthbcabnljcpaiaaGreatDoor.Q
set_option linter.unusedVariables false
theorem HN.look {W : World} {base g m n : Nat} {l : List S36} (h : HN W base (.slice (some ⟨g, 0, none⟩) m n) l) (k : Nat) (hk : k < m) :
    W.cell? ⟨g, k * 10 + 2, none⟩ = some (.string (rd_T36 l (k : Int)).f2) ∧ W.cell? ⟨g, k * 10 + 3, none⟩ = some (.string (rd_T36 l (k : Int)).f3) ∧ W.cell? ⟨g, k * 10 + 4, none⟩ = some (.string (rd_T36 l (k : Int)).f4) ∧ ∀ j, W.frozen? ⟨g, k * 10 + j, none⟩ = false := by
  obtain ⟨cx, hcx, hFK, hcc, hfr⟩ := Kd.N_elem h z36 (k : Int) (by omega) (by omega)
  obtain ⟨A5, c5, rfl, hl, hF⟩ := k36_openF hFK
  simp only [Int.toNat_natCast] at hcc hfr
  exact ⟨hcc 2 _ rfl, hcc 3 _ rfl, hcc 4 _ rfl, hfr⟩
theorem HN.store {W : World} {base g m n : Nat} {l : List S36} (h : HN W base (.slice (some ⟨g, 0, none⟩) m n) l) (k : Nat) (hk : k < m) (j : Nat) (hj : j + 1 ≤ 10) (u : Value) (x' : S36)
    (hx : ∀ (ok : Nat → Prop) (c : List Value), Kd.FK k36 W ok (rd_T36 l (k : Int)) c → Kd.FK k36 W ok x' (c.take j ++ [u] ++ c.drop (j + 1))) : HN (W.setCell ⟨g, k * 10 + j, none⟩ u) base (.slice (some ⟨g, 0, none⟩) m n) (l.set k x') := by
  obtain ⟨cx, hcx, hFK, hcc, hfr⟩ := Kd.N_elem h z36 (k : Int) (by omega) (by omega)
  have := (Kd.N_seg h (k : Int) (by omega) (by omega) (seg := [u]) (j := j) hcx hcc (show j + 1 ≤ 10 from hj) (x' := x') (hx _ _ hFK) (fun _ hk => hk)).1
  rw [Int.toNat_natCast] at this
  exact this
theorem setf2 {W : World} {ok : Nat → Prop} {x : S36} {c : List Value} (h : Kd.FK k36 W ok x c) (s : ByteArray) : Kd.FK k36 W ok { x with f2 := s } (c.take 2 ++ [.string s] ++ c.drop 3) := by
  obtain ⟨A5, c5, rfl, hl, hF⟩ := k36_openF h
  exact k36_mkF W ok { x with f2 := s } hl hF
theorem setf3 {W : World} {ok : Nat → Prop} {x : S36} {c : List Value} (h : Kd.FK k36 W ok x c) (s : ByteArray) : Kd.FK k36 W ok { x with f3 := s } (c.take 3 ++ [.string s] ++ c.drop 4) := by
  obtain ⟨A5, c5, rfl, hl, hF⟩ := k36_openF h
  exact k36_mkF W ok { x with f3 := s } hl hF
theorem setf4 {W : World} {ok : Nat → Prop} {x : S36} {c : List Value} (h : Kd.FK k36 W ok x c) (s : ByteArray) : Kd.FK k36 W ok { x with f4 := s } (c.take 4 ++ [.string s] ++ c.drop 5) := by
  obtain ⟨A5, c5, rfl, hl, hF⟩ := k36_openF h
  exact k36_mkF W ok { x with f4 := s } hl hF
theorem str_at {w : World} {A : Option Addr} {xs : List ByteArray} (h : Kd.C Kd.string w A xs.length xs) {i : Nat} {s : ByteArray} (hi : xs[i]? = some s) : ∃ ad, A = some ad ∧ i < xs.length ∧ w.cell? (ad.add i) = some (.string s) := by
  have hr := Kd.reads_of_C (enc := Value.string) (d := ByteArray.empty) (h1 := fun _ => rfl) h
  have hl : i < xs.length := by
    rcases Nat.lt_or_ge i xs.length with h | h
    · exact h
    · rw [List.getElem?_eq_none h] at hi; cases hi
  obtain ⟨ad, e, hc⟩ := hr.2.2 (by omega)
  refine ⟨ad, e, hl, ?_⟩
  rw [hc i hl]
  simp [hi]
theorem rd_set {l : List S36} {k : Nat} (hk : k < l.length) (y : S36) : rd_T36 (l.set k y) (k : Int) = y := by simp [rd_T36, hk]
theorem nomin_mod {x : S36} (h : Mod x) : Mod (nomin x) := by
  obtain ⟨m0, m1, m2, m3, m4, m5, m6⟩ := h
  unfold nomin
  split
  · exact ⟨m0, m1, m2, m3, by show (0 : Nat) ≤ _; omega, m5, m6⟩
  · exact ⟨m0, m1, m3, by show (0 : Nat) ≤ _; omega, by show (0 : Nat) ≤ _; omega, m5, m6⟩
theorem nomin_modL {l : List S36} (hM : ModL l) {k : Nat} (hk : k < l.length) : ModL (l.set k (nomin l[k])) := by
  refine ⟨by rw [List.length_set]; exact hM.1, fun y hy => ?_⟩
  rcases List.mem_or_eq_of_mem_set hy with h | h
  · exact hM.2 y h
  · rw [h]; exact nomin_mod (hM.2 _ (List.getElem_mem hk))
def Fit (ps ps2 : List ByteArray) (x y : S42) : Prop := ∃ (i1 i2 j1 j2 : Nat) (s t : ByteArray) (r : S40), x = ⟨i1, i2, r⟩ ∧ y = ⟨j1, j2, r⟩ ∧ ps[i1]? = some s ∧ ps[i2]? = some t ∧ ps2[j1]? = some s ∧ ps2[j2]? = some t
theorem fit_of {ps ps2 : List ByteArray} {c : (ByteArray × ByteArray) × Int} (h1 : c.1.1 ∈ ps ∧ c.1.2 ∈ ps) (h2 : c.1.1 ∈ ps2 ∧ c.1.2 ∈ ps2) : Fit ps ps2 (linkS (pos ps c.1, c.2)) (linkS (pos ps2 c.1, c.2)) := by
  have e : ∀ {qs : List ByteArray} {s : ByteArray}, s ∈ qs → qs[plc qs s]? = some s := fun {qs s} h => by
    obtain ⟨h1, e1⟩ := plc_spec h
    rw [List.getElem?_eq_getElem h1, e1]
  exact ⟨plc ps c.1.1, plc ps c.1.2, plc ps2 c.1.1, plc ps2 c.1.2, c.1.1, c.1.2, ratS c.2 6000, rfl, rfl, e h1.1, e h1.2, e h2.1, e h2.2⟩
theorem nomin_fit {l : List S36} {k : Nat} (hk : k < l.length) {day : Int} (h : atE l day = 0) : atE (l.set k (nomin l[k])) day = 0 ∧ (rC (l.set k (nomin l[k])) day).length = (rC l day).length ∧
    ∀ j : Nat, j < (rC l day).length → Fit (rP l day) (rP (l.set k (nomin l[k])) day) (rd_T42 (rC l day) (j : Int)) (rd_T42 (rC (l.set k (nomin l[k])) day) (j : Int)) := by
  obtain ⟨h2, N, hN, e1, e2⟩ := nomin_law hk h
  unfold rP rC
  rw [if_pos h, if_pos h2, if_pos h, if_pos h2, e1, e2]
  refine ⟨h2, by simp, fun j hj => ?_⟩
  have hj' : j < N.length := by simpa using hj
  simp only [rd_T42, Int.toNat_natCast, List.map_map, List.getD_eq_getElem?_getD, List.getElem?_map, List.getElem?_eq_getElem hj', Option.map_some, Option.getD_some]
  obtain ⟨a, b⟩ := hN N[j] (List.getElem_mem hj')
  exact fit_of a b
set_option maxRecDepth 100000 in
set_option maxHeartbeats 16000000 in
theorem nominees_a (l : List S36) (A : Option Addr) (c : Nat) (day raw : Int) (hr0 : 0 ≤ raw) (hr1 : raw ≤ 255) (w : World) (hC : HC w A l) (hc : l.length ≤ c) (ht : Tab w) (z0 : atE l day = 0) (hf : (rd_T36 l (raw % (l.length : Int))).f3.size = 0) :
    Calls Tryz.prog 5 #[.slice A l.length c, .int .i64 day, .int .u8 raw] w fun e w' => e = .returned (.bool true) ∧ Below w.heap.size w w' := by
  have hhd := head_calls w ht
  obtain ⟨b, hb, hfew⟩ := few_calls17 l
  have hfe := fun W (h : Below w.heap.size w W) => hfew A c W (Kd.C_below hC h) hc
  have Hhd := hid hhd
  have Hfe := hid hfe
  have Ht := hid ht
  clear hhd hfe hfew ht
  rcases b with _ | _
  · go_enter Tryz.func5, Tryz.ntmps5
    go_wp2_with (first | (go_at_call 10; refine Hhd.out.mono ?_; rintro e w1 ⟨rfl, hb1⟩) | (go_at_call 12; refine (Hfe.out _ hb1).mono ?_; rintro e w2 ⟨rfl, hb2⟩; have hw2 := bseq hb1 hb2))
    go_ret
    exact ⟨rfl, hw2⟩
  obtain ⟨h20, hfx⟩ := hb rfl
  have hM := few_modL ⟨h20, hfx⟩
  clear hb
  rcases Nat.eq_zero_or_pos l.length with hn0 | hn0
  · have hq : ((l.length : Int) == 0) = true := by simp [hn0]
    clear hn0
    go_enter Tryz.func5, Tryz.ntmps5
    go_wp2_with (first | (go_at_call 10; refine Hhd.out.mono ?_; rintro e w1 ⟨rfl, hb1⟩) | (go_at_call 12; refine (Hfe.out _ hb1).mono ?_; rintro e w2 ⟨rfl, hb2⟩; have hw2 := bseq hb1 hb2))
    go_ret
    exact ⟨rfl, hw2⟩
  obtain ⟨k, hk⟩ := Int.eq_ofNat_of_zero_le (Int.emod_nonneg raw (show (l.length : Int) ≠ 0 by omega))
  have hkl : k < l.length := by have := Int.emod_lt_of_pos raw (show (0 : Int) < l.length by omega); omega
  obtain ⟨x, hx⟩ : ∃ x, rd_T36 l (k : Int) = x := ⟨_, rfl⟩
  have hap : ∀ W, Below w.heap.size w W → ∃ v1 w1, (Builtin.append_ #[26, 26] 26 #[.slice (some ⟨W.heap.size, 0, none⟩) 0 0, .slice A l.length c]).run Tryz.prog (W.alloc (.cells #[] 36)) = .ok v1 w1 ∧ HN w1 W.heap.size v1 l ∧ Below W.heap.size W w1 := fun W hW => by
    have hw := below_alloc (Below.refl W.heap.size W) (.cells #[] 36)
    have hN0 : HN (W.alloc (.cells #[] 36)) W.heap.size (.slice (some ⟨W.heap.size, 0, none⟩) 0 0) [] := Kd.R_N ⟨fun _ _ => trivial, [], by
      have h := World.ownsRow_lit (base := W.heap.size) (e := 36) (size := 10) W #[] 0 (Nat.le_refl _) (by unfold maxLen; omega) (by simp)
      exact h, Reps.none _ _⟩
    obtain ⟨v1, w1, hrun, hN1, hb1, hg1⟩ := appH_rows W.heap.size _ [] l A l.length c (fun _ => True) (fun k => k < W.heap.size) hN0 (Kd.F_below (Kd.C_F k36_heap (Kd.C_below hC hW)) hw) (fun k hk => ⟨trivial, by simp [Value.ownBlock]; omega⟩) (fun _ _ => trivial) (by simp) (by simp; omega)
    exact ⟨v1, w1, hrun, hN1, hw.trans hb1⟩
  have hlk : rd_T36 l (k : Int) = l[k] := rd_nat hkl
  have hft := nomin_fit hkl (day := day)
  have hMm := nomin_modL hM hkl
  rw [← hlk, hx] at hft hMm
  obtain ⟨m, hm⟩ : ∃ m, l.set k (nomin x) = m := ⟨_, rfl⟩
  rw [hm] at hft hMm
  have hml : m.length = l.length := by rw [← hm, List.length_set]
  have h1 := fun W (h : Below w.heap.size w W) => at_calls l A c day hM W (Kd.C_below hC h) hc (Ht.out.below h)
  have h2 := fun W B n (hB : HC W B m) (hn : l.length ≤ n) (h : Below w.heap.size w W) => at_calls m B n day hMm W hB (by rw [hml]; exact hn) (Ht.out.below h)
  simp only [hml] at h2
  have hnm : nomin x = if x.f3.size = 0 then { x with f4 := (⟨#[]⟩ : ByteArray) } else { x with f2 := x.f3, f3 := (⟨#[]⟩ : ByteArray), f4 := (⟨#[]⟩ : ByteArray) } := rfl
  have Hx := hid hx
  have Hap := hid hap
  have Hml := hid hml
  have Hm := hid hm
  have Hft := hid hft
  clear hx hap hml hm hlk hft
  have hf3 : x.f3.size = 0 := by rw [hk, Hx.out] at hf; exact hf
  obtain ⟨z1, z2, z3⟩ := Hft.out z0
  have hlc := rC_len l day (by omega)
  rw [z0] at h1
  rw [z1] at h2
  generalize rP l day = ps at *
  generalize rC l day = lc at *
  generalize rV l day = lv at *
  generalize rP m day = ps2 at *
  generalize rC m day = lc2 at *
  generalize rV m day = lv2 at *
  have H1 := hid h1
  have H2 := hid h2
  have HZ := hid (And.intro z2 z3)
  clear h1 h2 z0 z1 z2 z3 Hft
  rw [if_pos hf3] at hnm
  have Hnm := hid hnm
  have hf3' : x.f3 = (⟨#[]⟩ : ByteArray) := size_empty hf3
  clear hnm hf3
  go_enter Tryz.func5, Tryz.ntmps5
  go_wp2_with (first | (go_at_call 10; refine Hhd.out.mono ?_; rintro e w1 ⟨rfl, hb1⟩) | (go_at_call 12; refine (Hfe.out _ hb1).mono ?_; rintro e w2 ⟨rfl, hb2⟩; have hw2 := bseq hb1 hb2; obtain ⟨v3, w3, hrun3, hN3, hb3⟩ := Hap.out w2 hw2; have Hrun3 := hid hrun3; clear hrun3) | (at_builtin; refine wpList_append_eq rfl _ _ 26 rfl _ _ _ _ rfl rfl Hrun3.out ?_; obtain ⟨A4, n4, rfl, hl4, hC4⟩ := hN3.shape; obtain ⟨ad4, rfl⟩ : ∃ ad4, A4 = some ad4 := (by obtain ⟨ad4, h, _⟩ := hC4.2.2 (by omega); exact ⟨ad4, h⟩); obtain ⟨g, rfl⟩ : ∃ g, ad4 = ⟨g, 0, none⟩ := (by obtain ⟨_, rows, _, hR, _⟩ := hN3; exact Kd.R_head hR); have hw3 := bseq hw2 hb3; have hge : w.heap.size ≤ g := Nat.le_trans hw2.size (hN3.ge (b := g) rfl); obtain ⟨i2, i3, i4, fr⟩ := hN3.look k hkl; rw [Hx.out] at i2 i3 i4; have f2 := fr 2; have f3 := fr 3; have f4 := fr 4; have hm1 := hN3.store k hkl 4 (by omega) (.string (⟨#[]⟩ : ByteArray)) { x with f4 := (⟨#[]⟩ : ByteArray) } (fun ok cs h => setf4 (Hx.out ▸ h) _); have hwm := hw3.setCell (p := ⟨g, k * 10 + 4, none⟩) hge (.string (⟨#[]⟩ : ByteArray)); rw [show ({ x with f4 := (⟨#[]⟩ : ByteArray) } : S36) = nomin x from Hnm.out.symm] at hm1; rw [Hm.out] at hm1; have HNm := hid hm1; clear hm1; clear fr hC4) | (go_at_call 13; (with_reducible refine (H1.out _ hwm).mono ?_); rintro e w4 ⟨s0, s1, s2, rfl, hP, hCc, hVv, hb4⟩; obtain ⟨P0, p0, rfl, hp0, P0C⟩ := hP; obtain ⟨P1, p1, rfl, hp1, P1C⟩ := hCc; obtain ⟨P2, p2, rfl, hp2, P2C⟩ := hVv; have hw4 := bseq hwm hb4; have R3 := Bx.new w4 25 #[.slice P0 ps.length p0, .slice P1 lc.length p1, .slice P2 lv.length p2]; have g3 := below_alloc (Below.refl w4.heap.size w4) (.cells #[.slice P0 ps.length p0, .slice P1 lc.length p1, .slice P2 lv.length p2] 25); have hw4' := bseq hw4 g3; obtain ⟨A6, n6, hv6, hl6, hC6⟩ := HNm.out.shape; rw [Hml.out] at hv6 hl6; injection hv6 with hv7 hv8 hv9; subst hv7 hv9; have hCm := Kd.C_below hC6 (bseq hb4 g3); clear hC6 i2 i3 i4 f2 f3 f4) | (go_at_call 13; have h13 := H2.out _ _ _ hCm hl6 hw4'; (with_reducible refine h13.mono ?_); rintro e w5 ⟨s3, s4, s5, rfl, hP2, hC2, hV2, hb5⟩; obtain ⟨P3, p3, rfl, hp3, P3C⟩ := hP2; obtain ⟨P4, p4, rfl, hp4, P4C⟩ := hC2; obtain ⟨P5, p5, rfl, hp5, P5C⟩ := hV2; have R4 := R3.below hb5; have c4 := R4.cell; have l4 := R4.lt; have hw5 := bseq hw4' hb5; rw [HZ.out.1] at hp4; rw [HZ.out.1]; have R5 := Bx.new w5 25 #[.slice P3 ps2.length p3, .slice P4 lc.length p4, .slice P5 lv2.length p5]; have g4 := below_alloc (Below.refl w5.heap.size w5) (.cells #[.slice P3 ps2.length p3, .slice P4 lc.length p4, .slice P5 lv2.length p5] 25); have hw6 := bseq hw5 g4; have g34 := bseq (bseq g3 hb5) g4))
  go_loopg [14] lc.length (fun g v14 wr => ∃ j : Nat, v14 = .int .i64 j ∧ g + j = lc.length ∧ Below (w5.alloc (.cells #[.slice P3 ps2.length p3, .slice P4 lc.length p4, .slice P5 lv2.length p5] 25)).heap.size (w5.alloc (.cells #[.slice P3 ps2.length p3, .slice P4 lc.length p4, .slice P5 lv2.length p5] 25)) wr)
  case atStart => exact ⟨0, rfl, by omega, Below.refl _ _⟩
  case round =>
    obtain ⟨j, rfl, hgj, hBr⟩ := hrel
    have hBW : Below w.heap.size w wr := bseq hw6 hBr
    have RA := (R4.below g4).below hBr
    have RB := R5.below hBr
    have cA := RA.cell
    have lA := RA.lt
    have cB := RB.cell
    have lB := RB.lt
    by_cases hj : j < lc.length
    · obtain ⟨i1, i2, j1, j2, s, t, r, ex, ey, q1, q2, q3, q4⟩ := HZ.out.2 j hj
      have gA := bseq g34 hBr
      have gB := bseq g4 hBr
      obtain ⟨ad1, rfl, a0, a1, a2, a3, a4⟩ := at_T42 (Kd.C_below P1C gA) (j : Int) (by omega) (by omega)
      obtain ⟨ad4, rfl, b0, b1, b2, b3, b4⟩ := at_T42 (Kd.C_below P4C gB) (j : Int) (by omega) (by rw [HZ.out.1]; omega)
      obtain ⟨ad0, rfl, y1, d1⟩ := str_at (Kd.C_below P0C gA) q1
      obtain ⟨ad0', e0, y2, d2⟩ := str_at (Kd.C_below P0C gA) q2
      injection e0 with e0
      subst e0
      obtain ⟨ad3, rfl, y3, d3⟩ := str_at (Kd.C_below P3C gB) q3
      obtain ⟨ad3', e3, y4, d4⟩ := str_at (Kd.C_below P3C gB) q4
      injection e3 with e3
      subst e3
      rw [ex] at a0 a1 a2 a3 a4
      rw [ey] at b0 b1 b2 b3 b4
      obtain ⟨r0, r1, r2⟩ := r
      simp only [Int.toNat_natCast] at a0 a1 a2 a3 a4 b0 b1 b2 b3 b4
      clear ex ey q1 q2 q3 q4
      have n1 := World.block_lt_of_cell? _ _ a0
      have n4' := World.block_lt_of_cell? _ _ b0
      have n0 := World.block_lt_of_cell? _ _ d1
      have n3 := World.block_lt_of_cell? _ _ d3
      have n5 := World.block_lt_of_cell? _ _ d2
      have n6 := World.block_lt_of_cell? _ _ d4
      go_wp2_with (fail)
      have hS : ∀ W, Below wr.heap.size wr W → (Below wr.heap.size wr W ∧ W.cell? ⟨w4.heap.size, 1, none⟩ = some (.slice (some ad1) lc.length p1) ∧ W.cell? ⟨w5.heap.size, 1, none⟩ = some (.slice (some ad4) lc.length p4) ∧
        W.cell? (ad1.add (j * 5)) = some (.int .i64 i1) ∧ W.cell? ⟨(ad1.add (j * 5)).block, (ad1.add (j * 5)).off + 1, none⟩ = some (.int .i64 i2) ∧ W.cell? ⟨(ad1.add (j * 5)).block, (ad1.add (j * 5)).off + 2, none⟩ = some (.bool r0) ∧ W.cell? ⟨(ad1.add (j * 5)).block, (ad1.add (j * 5)).off + 3, none⟩ = some (.string r1) ∧ W.cell? ⟨(ad1.add (j * 5)).block, (ad1.add (j * 5)).off + 4, none⟩ = some (.string r2) ∧
        W.cell? (ad4.add (j * 5)) = some (.int .i64 j1) ∧ W.cell? ⟨(ad4.add (j * 5)).block, (ad4.add (j * 5)).off + 1, none⟩ = some (.int .i64 j2) ∧ W.cell? ⟨(ad4.add (j * 5)).block, (ad4.add (j * 5)).off + 2, none⟩ = some (.bool r0) ∧ W.cell? ⟨(ad4.add (j * 5)).block, (ad4.add (j * 5)).off + 3, none⟩ = some (.string r1) ∧ W.cell? ⟨(ad4.add (j * 5)).block, (ad4.add (j * 5)).off + 4, none⟩ = some (.string r2)) :=
        fun W h => ⟨h, cellB h (cA 1), cellB h (cB 1), cellB h a0, cellB h a1, cellB h a2, cellB h a3, cellB h a4, cellB h b0, cellB h b1, cellB h b2, cellB h b3, cellB h b4⟩
      have HS := hid hS
      clear hS
      go_region_held3 (fun W => Below wr.heap.size wr W ∧ W.cell? ⟨w4.heap.size, 1, none⟩ = some (.slice (some ad1) lc.length p1) ∧ W.cell? ⟨w5.heap.size, 1, none⟩ = some (.slice (some ad4) lc.length p4) ∧
        W.cell? (ad1.add (j * 5)) = some (.int .i64 i1) ∧ W.cell? ⟨(ad1.add (j * 5)).block, (ad1.add (j * 5)).off + 1, none⟩ = some (.int .i64 i2) ∧ W.cell? ⟨(ad1.add (j * 5)).block, (ad1.add (j * 5)).off + 2, none⟩ = some (.bool r0) ∧ W.cell? ⟨(ad1.add (j * 5)).block, (ad1.add (j * 5)).off + 3, none⟩ = some (.string r1) ∧ W.cell? ⟨(ad1.add (j * 5)).block, (ad1.add (j * 5)).off + 4, none⟩ = some (.string r2) ∧
        W.cell? (ad4.add (j * 5)) = some (.int .i64 j1) ∧ W.cell? ⟨(ad4.add (j * 5)).block, (ad4.add (j * 5)).off + 1, none⟩ = some (.int .i64 j2) ∧ W.cell? ⟨(ad4.add (j * 5)).block, (ad4.add (j * 5)).off + 2, none⟩ = some (.bool r0) ∧ W.cell? ⟨(ad4.add (j * 5)).block, (ad4.add (j * 5)).off + 3, none⟩ = some (.string r1) ∧ W.cell? ⟨(ad4.add (j * 5)).block, (ad4.add (j * 5)).off + 4, none⟩ = some (.string r2))
        (exact HS.out _ (by repeat (first | exact Below.refl _ _ | refine below_alloc ?_ _ | refine below_drew ?_ | refine bseq ?_ (by assumption)))) (first | fail)
      all_goals go_wp2_with (fail)
      all_goals go_quiet (fail)
      all_goals go_wp2_with (fail)
      all_goals
        go_roundg (lc.length - (j + 1))
        case rel => exact ⟨j + 1, by go_num, by omega, bseq hBr (by repeat (first | exact Below.refl _ _ | refine below_alloc ?_ _ | refine below_drew ?_ | refine below_drewN ?_ _))⟩
        case measure => omega
    · go_wp2_with (fail)
      go_ret
      exact ⟨rfl, hBW⟩
set_option maxRecDepth 100000 in
set_option maxHeartbeats 16000000 in
theorem nominees_b (l : List S36) (A : Option Addr) (c : Nat) (day raw : Int) (hr0 : 0 ≤ raw) (hr1 : raw ≤ 255) (w : World) (hC : HC w A l) (hc : l.length ≤ c) (ht : Tab w) (z0 : atE l day = 0) (hf : ¬ (rd_T36 l (raw % (l.length : Int))).f3.size = 0) :
    Calls Tryz.prog 5 #[.slice A l.length c, .int .i64 day, .int .u8 raw] w fun e w' => e = .returned (.bool true) ∧ Below w.heap.size w w' := by
  have hhd := head_calls w ht
  obtain ⟨b, hb, hfew⟩ := few_calls17 l
  have hfe := fun W (h : Below w.heap.size w W) => hfew A c W (Kd.C_below hC h) hc
  have Hhd := hid hhd
  have Hfe := hid hfe
  have Ht := hid ht
  clear hhd hfe hfew ht
  rcases b with _ | _
  · go_enter Tryz.func5, Tryz.ntmps5
    go_wp2_with (first | (go_at_call 10; refine Hhd.out.mono ?_; rintro e w1 ⟨rfl, hb1⟩) | (go_at_call 12; refine (Hfe.out _ hb1).mono ?_; rintro e w2 ⟨rfl, hb2⟩; have hw2 := bseq hb1 hb2))
    go_ret
    exact ⟨rfl, hw2⟩
  obtain ⟨h20, hfx⟩ := hb rfl
  have hM := few_modL ⟨h20, hfx⟩
  clear hb
  rcases Nat.eq_zero_or_pos l.length with hn0 | hn0
  · have hq : ((l.length : Int) == 0) = true := by simp [hn0]
    clear hn0
    go_enter Tryz.func5, Tryz.ntmps5
    go_wp2_with (first | (go_at_call 10; refine Hhd.out.mono ?_; rintro e w1 ⟨rfl, hb1⟩) | (go_at_call 12; refine (Hfe.out _ hb1).mono ?_; rintro e w2 ⟨rfl, hb2⟩; have hw2 := bseq hb1 hb2))
    go_ret
    exact ⟨rfl, hw2⟩
  obtain ⟨k, hk⟩ := Int.eq_ofNat_of_zero_le (Int.emod_nonneg raw (show (l.length : Int) ≠ 0 by omega))
  have hkl : k < l.length := by have := Int.emod_lt_of_pos raw (show (0 : Int) < l.length by omega); omega
  obtain ⟨x, hx⟩ : ∃ x, rd_T36 l (k : Int) = x := ⟨_, rfl⟩
  have hap : ∀ W, Below w.heap.size w W → ∃ v1 w1, (Builtin.append_ #[26, 26] 26 #[.slice (some ⟨W.heap.size, 0, none⟩) 0 0, .slice A l.length c]).run Tryz.prog (W.alloc (.cells #[] 36)) = .ok v1 w1 ∧ HN w1 W.heap.size v1 l ∧ Below W.heap.size W w1 := fun W hW => by
    have hw := below_alloc (Below.refl W.heap.size W) (.cells #[] 36)
    have hN0 : HN (W.alloc (.cells #[] 36)) W.heap.size (.slice (some ⟨W.heap.size, 0, none⟩) 0 0) [] := Kd.R_N ⟨fun _ _ => trivial, [], by
      have h := World.ownsRow_lit (base := W.heap.size) (e := 36) (size := 10) W #[] 0 (Nat.le_refl _) (by unfold maxLen; omega) (by simp)
      exact h, Reps.none _ _⟩
    obtain ⟨v1, w1, hrun, hN1, hb1, hg1⟩ := appH_rows W.heap.size _ [] l A l.length c (fun _ => True) (fun k => k < W.heap.size) hN0 (Kd.F_below (Kd.C_F k36_heap (Kd.C_below hC hW)) hw) (fun k hk => ⟨trivial, by simp [Value.ownBlock]; omega⟩) (fun _ _ => trivial) (by simp) (by simp; omega)
    exact ⟨v1, w1, hrun, hN1, hw.trans hb1⟩
  have hlk : rd_T36 l (k : Int) = l[k] := rd_nat hkl
  have hft := nomin_fit hkl (day := day)
  have hMm := nomin_modL hM hkl
  rw [← hlk, hx] at hft hMm
  obtain ⟨m, hm⟩ : ∃ m, l.set k (nomin x) = m := ⟨_, rfl⟩
  rw [hm] at hft hMm
  have hml : m.length = l.length := by rw [← hm, List.length_set]
  have h1 := fun W (h : Below w.heap.size w W) => at_calls l A c day hM W (Kd.C_below hC h) hc (Ht.out.below h)
  have h2 := fun W B n (hB : HC W B m) (hn : l.length ≤ n) (h : Below w.heap.size w W) => at_calls m B n day hMm W hB (by rw [hml]; exact hn) (Ht.out.below h)
  simp only [hml] at h2
  have hnm : nomin x = if x.f3.size = 0 then { x with f4 := (⟨#[]⟩ : ByteArray) } else { x with f2 := x.f3, f3 := (⟨#[]⟩ : ByteArray), f4 := (⟨#[]⟩ : ByteArray) } := rfl
  have Hx := hid hx
  have Hap := hid hap
  have Hml := hid hml
  have Hm := hid hm
  have Hft := hid hft
  clear hx hap hml hm hlk hft
  have hf3 : ¬ x.f3.size = 0 := by rw [hk, Hx.out] at hf; exact hf
  obtain ⟨z1, z2, z3⟩ := Hft.out z0
  have hlc := rC_len l day (by omega)
  rw [z0] at h1
  rw [z1] at h2
  generalize rP l day = ps at *
  generalize rC l day = lc at *
  generalize rV l day = lv at *
  generalize rP m day = ps2 at *
  generalize rC m day = lc2 at *
  generalize rV m day = lv2 at *
  have H1 := hid h1
  have H2 := hid h2
  have HZ := hid (And.intro z2 z3)
  clear h1 h2 z0 z1 z2 z3 Hft
  rw [if_neg hf3] at hnm
  have Hnm := hid hnm
  have hf3' : x.f3.toList.isEmpty = false := by cases h : x.f3.toList with | nil => exact absurd (toList_nil.1 h) hf3 | cons a b => rfl
  clear hnm hf3
  go_enter Tryz.func5, Tryz.ntmps5
  go_wp2_with (first | (go_at_call 10; refine Hhd.out.mono ?_; rintro e w1 ⟨rfl, hb1⟩) | (go_at_call 12; refine (Hfe.out _ hb1).mono ?_; rintro e w2 ⟨rfl, hb2⟩; have hw2 := bseq hb1 hb2; obtain ⟨v3, w3, hrun3, hN3, hb3⟩ := Hap.out w2 hw2; have Hrun3 := hid hrun3; clear hrun3) | (at_builtin; refine wpList_append_eq rfl _ _ 26 rfl _ _ _ _ rfl rfl Hrun3.out ?_; obtain ⟨A4, n4, rfl, hl4, hC4⟩ := hN3.shape; obtain ⟨ad4, rfl⟩ : ∃ ad4, A4 = some ad4 := (by obtain ⟨ad4, h, _⟩ := hC4.2.2 (by omega); exact ⟨ad4, h⟩); obtain ⟨g, rfl⟩ : ∃ g, ad4 = ⟨g, 0, none⟩ := (by obtain ⟨_, rows, _, hR, _⟩ := hN3; exact Kd.R_head hR); have hw3 := bseq hw2 hb3; have hge : w.heap.size ≤ g := Nat.le_trans hw2.size (hN3.ge (b := g) rfl); obtain ⟨i2, i3, i4, fr⟩ := hN3.look k hkl; rw [Hx.out] at i2 i3 i4; have f2 := fr 2; have f3 := fr 3; have f4 := fr 4; have hm1 := hN3.store k hkl 2 (by omega) (.string x.f3) { x with f2 := x.f3 } (fun ok cs h => setf2 (Hx.out ▸ h) _); have hw4 := hw3.setCell (p := ⟨g, k * 10 + 2, none⟩) hge (.string x.f3); have hm2 := hm1.store k hkl 3 (by omega) (.string (⟨#[]⟩ : ByteArray)) { x with f2 := x.f3, f3 := (⟨#[]⟩ : ByteArray) } (fun ok cs h => setf3 ((rd_set hkl _) ▸ h) _); have hw5 := hw4.setCell (p := ⟨g, k * 10 + 3, none⟩) hge (.string (⟨#[]⟩ : ByteArray)); rw [List.set_set] at hm2; have hm3 := hm2.store k hkl 4 (by omega) (.string (⟨#[]⟩ : ByteArray)) { x with f2 := x.f3, f3 := (⟨#[]⟩ : ByteArray), f4 := (⟨#[]⟩ : ByteArray) } (fun ok cs h => setf4 ((rd_set hkl _) ▸ h) _); have hwm := hw5.setCell (p := ⟨g, k * 10 + 4, none⟩) hge (.string (⟨#[]⟩ : ByteArray)); rw [List.set_set] at hm3; rw [show ({ x with f2 := x.f3, f3 := (⟨#[]⟩ : ByteArray), f4 := (⟨#[]⟩ : ByteArray) } : S36) = nomin x from Hnm.out.symm] at hm3; rw [Hm.out] at hm3; have HNm := hid hm3; clear hm1 hm2 hm3 hw4 hw5; clear fr hC4) | (go_at_call 13; (with_reducible refine (H1.out _ hwm).mono ?_); rintro e w4 ⟨s0, s1, s2, rfl, hP, hCc, hVv, hb4⟩; obtain ⟨P0, p0, rfl, hp0, P0C⟩ := hP; obtain ⟨P1, p1, rfl, hp1, P1C⟩ := hCc; obtain ⟨P2, p2, rfl, hp2, P2C⟩ := hVv; have hw4 := bseq hwm hb4; have R3 := Bx.new w4 25 #[.slice P0 ps.length p0, .slice P1 lc.length p1, .slice P2 lv.length p2]; have g3 := below_alloc (Below.refl w4.heap.size w4) (.cells #[.slice P0 ps.length p0, .slice P1 lc.length p1, .slice P2 lv.length p2] 25); have hw4' := bseq hw4 g3; obtain ⟨A6, n6, hv6, hl6, hC6⟩ := HNm.out.shape; rw [Hml.out] at hv6 hl6; injection hv6 with hv7 hv8 hv9; subst hv7 hv9; have hCm := Kd.C_below hC6 (bseq hb4 g3); clear hC6 i2 i3 i4 f2 f3 f4) | (go_at_call 13; have h13 := H2.out _ _ _ hCm hl6 hw4'; (with_reducible refine h13.mono ?_); rintro e w5 ⟨s3, s4, s5, rfl, hP2, hC2, hV2, hb5⟩; obtain ⟨P3, p3, rfl, hp3, P3C⟩ := hP2; obtain ⟨P4, p4, rfl, hp4, P4C⟩ := hC2; obtain ⟨P5, p5, rfl, hp5, P5C⟩ := hV2; have R4 := R3.below hb5; have c4 := R4.cell; have l4 := R4.lt; have hw5 := bseq hw4' hb5; rw [HZ.out.1] at hp4; rw [HZ.out.1]; have R5 := Bx.new w5 25 #[.slice P3 ps2.length p3, .slice P4 lc.length p4, .slice P5 lv2.length p5]; have g4 := below_alloc (Below.refl w5.heap.size w5) (.cells #[.slice P3 ps2.length p3, .slice P4 lc.length p4, .slice P5 lv2.length p5] 25); have hw6 := bseq hw5 g4; have g34 := bseq (bseq g3 hb5) g4))
  go_loopg [14] lc.length (fun g v14 wr => ∃ j : Nat, v14 = .int .i64 j ∧ g + j = lc.length ∧ Below (w5.alloc (.cells #[.slice P3 ps2.length p3, .slice P4 lc.length p4, .slice P5 lv2.length p5] 25)).heap.size (w5.alloc (.cells #[.slice P3 ps2.length p3, .slice P4 lc.length p4, .slice P5 lv2.length p5] 25)) wr)
  case atStart => exact ⟨0, rfl, by omega, Below.refl _ _⟩
  case round =>
    obtain ⟨j, rfl, hgj, hBr⟩ := hrel
    have hBW : Below w.heap.size w wr := bseq hw6 hBr
    have RA := (R4.below g4).below hBr
    have RB := R5.below hBr
    have cA := RA.cell
    have lA := RA.lt
    have cB := RB.cell
    have lB := RB.lt
    by_cases hj : j < lc.length
    · obtain ⟨i1, i2, j1, j2, s, t, r, ex, ey, q1, q2, q3, q4⟩ := HZ.out.2 j hj
      have gA := bseq g34 hBr
      have gB := bseq g4 hBr
      obtain ⟨ad1, rfl, a0, a1, a2, a3, a4⟩ := at_T42 (Kd.C_below P1C gA) (j : Int) (by omega) (by omega)
      obtain ⟨ad4, rfl, b0, b1, b2, b3, b4⟩ := at_T42 (Kd.C_below P4C gB) (j : Int) (by omega) (by rw [HZ.out.1]; omega)
      obtain ⟨ad0, rfl, y1, d1⟩ := str_at (Kd.C_below P0C gA) q1
      obtain ⟨ad0', e0, y2, d2⟩ := str_at (Kd.C_below P0C gA) q2
      injection e0 with e0
      subst e0
      obtain ⟨ad3, rfl, y3, d3⟩ := str_at (Kd.C_below P3C gB) q3
      obtain ⟨ad3', e3, y4, d4⟩ := str_at (Kd.C_below P3C gB) q4
      injection e3 with e3
      subst e3
      rw [ex] at a0 a1 a2 a3 a4
      rw [ey] at b0 b1 b2 b3 b4
      obtain ⟨r0, r1, r2⟩ := r
      simp only [Int.toNat_natCast] at a0 a1 a2 a3 a4 b0 b1 b2 b3 b4
      clear ex ey q1 q2 q3 q4
      have n1 := World.block_lt_of_cell? _ _ a0
      have n4' := World.block_lt_of_cell? _ _ b0
      have n0 := World.block_lt_of_cell? _ _ d1
      have n3 := World.block_lt_of_cell? _ _ d3
      have n5 := World.block_lt_of_cell? _ _ d2
      have n6 := World.block_lt_of_cell? _ _ d4
      go_wp2_with (fail)
      have hS : ∀ W, Below wr.heap.size wr W → (Below wr.heap.size wr W ∧ W.cell? ⟨w4.heap.size, 1, none⟩ = some (.slice (some ad1) lc.length p1) ∧ W.cell? ⟨w5.heap.size, 1, none⟩ = some (.slice (some ad4) lc.length p4) ∧
        W.cell? (ad1.add (j * 5)) = some (.int .i64 i1) ∧ W.cell? ⟨(ad1.add (j * 5)).block, (ad1.add (j * 5)).off + 1, none⟩ = some (.int .i64 i2) ∧ W.cell? ⟨(ad1.add (j * 5)).block, (ad1.add (j * 5)).off + 2, none⟩ = some (.bool r0) ∧ W.cell? ⟨(ad1.add (j * 5)).block, (ad1.add (j * 5)).off + 3, none⟩ = some (.string r1) ∧ W.cell? ⟨(ad1.add (j * 5)).block, (ad1.add (j * 5)).off + 4, none⟩ = some (.string r2) ∧
        W.cell? (ad4.add (j * 5)) = some (.int .i64 j1) ∧ W.cell? ⟨(ad4.add (j * 5)).block, (ad4.add (j * 5)).off + 1, none⟩ = some (.int .i64 j2) ∧ W.cell? ⟨(ad4.add (j * 5)).block, (ad4.add (j * 5)).off + 2, none⟩ = some (.bool r0) ∧ W.cell? ⟨(ad4.add (j * 5)).block, (ad4.add (j * 5)).off + 3, none⟩ = some (.string r1) ∧ W.cell? ⟨(ad4.add (j * 5)).block, (ad4.add (j * 5)).off + 4, none⟩ = some (.string r2)) :=
        fun W h => ⟨h, cellB h (cA 1), cellB h (cB 1), cellB h a0, cellB h a1, cellB h a2, cellB h a3, cellB h a4, cellB h b0, cellB h b1, cellB h b2, cellB h b3, cellB h b4⟩
      have HS := hid hS
      clear hS
      go_region_held3 (fun W => Below wr.heap.size wr W ∧ W.cell? ⟨w4.heap.size, 1, none⟩ = some (.slice (some ad1) lc.length p1) ∧ W.cell? ⟨w5.heap.size, 1, none⟩ = some (.slice (some ad4) lc.length p4) ∧
        W.cell? (ad1.add (j * 5)) = some (.int .i64 i1) ∧ W.cell? ⟨(ad1.add (j * 5)).block, (ad1.add (j * 5)).off + 1, none⟩ = some (.int .i64 i2) ∧ W.cell? ⟨(ad1.add (j * 5)).block, (ad1.add (j * 5)).off + 2, none⟩ = some (.bool r0) ∧ W.cell? ⟨(ad1.add (j * 5)).block, (ad1.add (j * 5)).off + 3, none⟩ = some (.string r1) ∧ W.cell? ⟨(ad1.add (j * 5)).block, (ad1.add (j * 5)).off + 4, none⟩ = some (.string r2) ∧
        W.cell? (ad4.add (j * 5)) = some (.int .i64 j1) ∧ W.cell? ⟨(ad4.add (j * 5)).block, (ad4.add (j * 5)).off + 1, none⟩ = some (.int .i64 j2) ∧ W.cell? ⟨(ad4.add (j * 5)).block, (ad4.add (j * 5)).off + 2, none⟩ = some (.bool r0) ∧ W.cell? ⟨(ad4.add (j * 5)).block, (ad4.add (j * 5)).off + 3, none⟩ = some (.string r1) ∧ W.cell? ⟨(ad4.add (j * 5)).block, (ad4.add (j * 5)).off + 4, none⟩ = some (.string r2))
        (exact HS.out _ (by repeat (first | exact Below.refl _ _ | refine below_alloc ?_ _ | refine below_drew ?_ | refine bseq ?_ (by assumption)))) (first | fail)
      all_goals go_wp2_with (fail)
      all_goals go_quiet (fail)
      all_goals go_wp2_with (fail)
      all_goals
        go_roundg (lc.length - (j + 1))
        case rel => exact ⟨j + 1, by go_num, by omega, bseq hBr (by repeat (first | exact Below.refl _ _ | refine below_alloc ?_ _ | refine below_drew ?_ | refine below_drewN ?_ _))⟩
        case measure => omega
    · go_wp2_with (fail)
      go_ret
      exact ⟨rfl, hBW⟩
set_option maxRecDepth 100000 in
set_option maxHeartbeats 16000000 in
theorem nominees_c (l : List S36) (A : Option Addr) (c : Nat) (day raw : Int) (hr0 : 0 ≤ raw) (hr1 : raw ≤ 255) (w : World) (hC : HC w A l) (hc : l.length ≤ c) (ht : Tab w) (z0 : ¬ atE l day = 0) :
    Calls Tryz.prog 5 #[.slice A l.length c, .int .i64 day, .int .u8 raw] w fun e w' => e = .returned (.bool true) ∧ Below w.heap.size w w' := by
  have hhd := head_calls w ht
  obtain ⟨b, hb, hfew⟩ := few_calls17 l
  have hfe := fun W (h : Below w.heap.size w W) => hfew A c W (Kd.C_below hC h) hc
  have Hhd := hid hhd
  have Hfe := hid hfe
  have Ht := hid ht
  clear hhd hfe hfew ht
  rcases b with _ | _
  · go_enter Tryz.func5, Tryz.ntmps5
    go_wp2_with (first | (go_at_call 10; refine Hhd.out.mono ?_; rintro e w1 ⟨rfl, hb1⟩) | (go_at_call 12; refine (Hfe.out _ hb1).mono ?_; rintro e w2 ⟨rfl, hb2⟩; have hw2 := bseq hb1 hb2))
    go_ret
    exact ⟨rfl, hw2⟩
  obtain ⟨h20, hfx⟩ := hb rfl
  have hM := few_modL ⟨h20, hfx⟩
  clear hb
  rcases Nat.eq_zero_or_pos l.length with hn0 | hn0
  · have hq : ((l.length : Int) == 0) = true := by simp [hn0]
    clear hn0
    go_enter Tryz.func5, Tryz.ntmps5
    go_wp2_with (first | (go_at_call 10; refine Hhd.out.mono ?_; rintro e w1 ⟨rfl, hb1⟩) | (go_at_call 12; refine (Hfe.out _ hb1).mono ?_; rintro e w2 ⟨rfl, hb2⟩; have hw2 := bseq hb1 hb2))
    go_ret
    exact ⟨rfl, hw2⟩
  obtain ⟨k, hk⟩ := Int.eq_ofNat_of_zero_le (Int.emod_nonneg raw (show (l.length : Int) ≠ 0 by omega))
  have hkl : k < l.length := by have := Int.emod_lt_of_pos raw (show (0 : Int) < l.length by omega); omega
  obtain ⟨x, hx⟩ : ∃ x, rd_T36 l (k : Int) = x := ⟨_, rfl⟩
  have hap : ∀ W, Below w.heap.size w W → ∃ v1 w1, (Builtin.append_ #[26, 26] 26 #[.slice (some ⟨W.heap.size, 0, none⟩) 0 0, .slice A l.length c]).run Tryz.prog (W.alloc (.cells #[] 36)) = .ok v1 w1 ∧ HN w1 W.heap.size v1 l ∧ Below W.heap.size W w1 := fun W hW => by
    have hw := below_alloc (Below.refl W.heap.size W) (.cells #[] 36)
    have hN0 : HN (W.alloc (.cells #[] 36)) W.heap.size (.slice (some ⟨W.heap.size, 0, none⟩) 0 0) [] := Kd.R_N ⟨fun _ _ => trivial, [], by
      have h := World.ownsRow_lit (base := W.heap.size) (e := 36) (size := 10) W #[] 0 (Nat.le_refl _) (by unfold maxLen; omega) (by simp)
      exact h, Reps.none _ _⟩
    obtain ⟨v1, w1, hrun, hN1, hb1, hg1⟩ := appH_rows W.heap.size _ [] l A l.length c (fun _ => True) (fun k => k < W.heap.size) hN0 (Kd.F_below (Kd.C_F k36_heap (Kd.C_below hC hW)) hw) (fun k hk => ⟨trivial, by simp [Value.ownBlock]; omega⟩) (fun _ _ => trivial) (by simp) (by simp; omega)
    exact ⟨v1, w1, hrun, hN1, hw.trans hb1⟩
  have hlk : rd_T36 l (k : Int) = l[k] := rd_nat hkl
  have hft := nomin_fit hkl (day := day)
  have hMm := nomin_modL hM hkl
  rw [← hlk, hx] at hft hMm
  obtain ⟨m, hm⟩ : ∃ m, l.set k (nomin x) = m := ⟨_, rfl⟩
  rw [hm] at hft hMm
  have hml : m.length = l.length := by rw [← hm, List.length_set]
  have h1 := fun W (h : Below w.heap.size w W) => at_calls l A c day hM W (Kd.C_below hC h) hc (Ht.out.below h)
  have h2 := fun W B n (hB : HC W B m) (hn : l.length ≤ n) (h : Below w.heap.size w W) => at_calls m B n day hMm W hB (by rw [hml]; exact hn) (Ht.out.below h)
  simp only [hml] at h2
  have hnm : nomin x = if x.f3.size = 0 then { x with f4 := (⟨#[]⟩ : ByteArray) } else { x with f2 := x.f3, f3 := (⟨#[]⟩ : ByteArray), f4 := (⟨#[]⟩ : ByteArray) } := rfl
  have Hx := hid hx
  have Hap := hid hap
  have Hml := hid hml
  have Hm := hid hm
  have Hft := hid hft
  clear hx hap hml hm hlk hft
  generalize rP l day = ps at *
  generalize rC l day = lc at *
  generalize rV l day = lv at *
  generalize rP m day = ps2 at *
  generalize rC m day = lc2 at *
  generalize rV m day = lv2 at *
  generalize atE l day = er at *
  generalize atE m day = er2 at *
  have H1 := hid h1
  have H2 := hid h2
  clear h1 h2 Hft
  by_cases hf3 : x.f3.size = 0
  · rw [if_pos hf3] at hnm
    have Hnm := hid hnm
    have hf3' : x.f3 = (⟨#[]⟩ : ByteArray) := size_empty hf3
    clear hnm hf3
    go_enter Tryz.func5, Tryz.ntmps5
    go_wp2_with (first | (go_at_call 10; refine Hhd.out.mono ?_; rintro e w1 ⟨rfl, hb1⟩) | (go_at_call 12; refine (Hfe.out _ hb1).mono ?_; rintro e w2 ⟨rfl, hb2⟩; have hw2 := bseq hb1 hb2; obtain ⟨v3, w3, hrun3, hN3, hb3⟩ := Hap.out w2 hw2; have Hrun3 := hid hrun3; clear hrun3) | (at_builtin; refine wpList_append_eq rfl _ _ 26 rfl _ _ _ _ rfl rfl Hrun3.out ?_; obtain ⟨A4, n4, rfl, hl4, hC4⟩ := hN3.shape; obtain ⟨ad4, rfl⟩ : ∃ ad4, A4 = some ad4 := (by obtain ⟨ad4, h, _⟩ := hC4.2.2 (by omega); exact ⟨ad4, h⟩); obtain ⟨g, rfl⟩ : ∃ g, ad4 = ⟨g, 0, none⟩ := (by obtain ⟨_, rows, _, hR, _⟩ := hN3; exact Kd.R_head hR); have hw3 := bseq hw2 hb3; have hge : w.heap.size ≤ g := Nat.le_trans hw2.size (hN3.ge (b := g) rfl); obtain ⟨i2, i3, i4, fr⟩ := hN3.look k hkl; rw [Hx.out] at i2 i3 i4; have f2 := fr 2; have f3 := fr 3; have f4 := fr 4; have hm1 := hN3.store k hkl 4 (by omega) (.string (⟨#[]⟩ : ByteArray)) { x with f4 := (⟨#[]⟩ : ByteArray) } (fun ok cs h => setf4 (Hx.out ▸ h) _); have hwm := hw3.setCell (p := ⟨g, k * 10 + 4, none⟩) hge (.string (⟨#[]⟩ : ByteArray)); rw [show ({ x with f4 := (⟨#[]⟩ : ByteArray) } : S36) = nomin x from Hnm.out.symm] at hm1; rw [Hm.out] at hm1; have HNm := hid hm1; clear hm1; clear fr hC4) | (go_at_call 13; (with_reducible refine (H1.out _ hwm).mono ?_); rintro e w4 ⟨s0, s1, s2, rfl, hP, hCc, hVv, hb4⟩; obtain ⟨P0, p0, rfl, hp0, P0C⟩ := hP; obtain ⟨P1, p1, rfl, hp1, P1C⟩ := hCc; obtain ⟨P2, p2, rfl, hp2, P2C⟩ := hVv; have hw4 := bseq hwm hb4; have R3 := Bx.new w4 25 #[.slice P0 ps.length p0, .slice P1 lc.length p1, .slice P2 lv.length p2]; have g3 := below_alloc (Below.refl w4.heap.size w4) (.cells #[.slice P0 ps.length p0, .slice P1 lc.length p1, .slice P2 lv.length p2] 25); have hw4' := bseq hw4 g3; obtain ⟨A6, n6, hv6, hl6, hC6⟩ := HNm.out.shape; rw [Hml.out] at hv6 hl6; injection hv6 with hv7 hv8 hv9; subst hv7 hv9; have hCm := Kd.C_below hC6 (bseq hb4 g3); clear hC6 i2 i3 i4 f2 f3 f4) | (go_at_call 13; have h13 := H2.out _ _ _ hCm hl6 hw4'; (with_reducible refine h13.mono ?_); rintro e w5 ⟨s3, s4, s5, rfl, hP2, hC2, hV2, hb5⟩; obtain ⟨P3, p3, rfl, hp3, P3C⟩ := hP2; obtain ⟨P4, p4, rfl, hp4, P4C⟩ := hC2; obtain ⟨P5, p5, rfl, hp5, P5C⟩ := hV2; have R4 := R3.below hb5; have c4 := R4.cell; have l4 := R4.lt; have hw5 := bseq hw4' hb5; have R5 := Bx.new w5 25 #[.slice P3 ps2.length p3, .slice P4 lc2.length p4, .slice P5 lv2.length p5]; have g4 := below_alloc (Below.refl w5.heap.size w5) (.cells #[.slice P3 ps2.length p3, .slice P4 lc2.length p4, .slice P5 lv2.length p5] 25); have hw6 := bseq hw5 g4; have g34 := bseq (bseq g3 hb5) g4))
    go_ret
    exact ⟨rfl, hw6⟩
  · rw [if_neg hf3] at hnm
    have Hnm := hid hnm
    have hf3' : x.f3.toList.isEmpty = false := by cases h : x.f3.toList with | nil => exact absurd (toList_nil.1 h) hf3 | cons a b => rfl
    clear hnm hf3
    go_enter Tryz.func5, Tryz.ntmps5
    go_wp2_with (first | (go_at_call 10; refine Hhd.out.mono ?_; rintro e w1 ⟨rfl, hb1⟩) | (go_at_call 12; refine (Hfe.out _ hb1).mono ?_; rintro e w2 ⟨rfl, hb2⟩; have hw2 := bseq hb1 hb2; obtain ⟨v3, w3, hrun3, hN3, hb3⟩ := Hap.out w2 hw2; have Hrun3 := hid hrun3; clear hrun3) | (at_builtin; refine wpList_append_eq rfl _ _ 26 rfl _ _ _ _ rfl rfl Hrun3.out ?_; obtain ⟨A4, n4, rfl, hl4, hC4⟩ := hN3.shape; obtain ⟨ad4, rfl⟩ : ∃ ad4, A4 = some ad4 := (by obtain ⟨ad4, h, _⟩ := hC4.2.2 (by omega); exact ⟨ad4, h⟩); obtain ⟨g, rfl⟩ : ∃ g, ad4 = ⟨g, 0, none⟩ := (by obtain ⟨_, rows, _, hR, _⟩ := hN3; exact Kd.R_head hR); have hw3 := bseq hw2 hb3; have hge : w.heap.size ≤ g := Nat.le_trans hw2.size (hN3.ge (b := g) rfl); obtain ⟨i2, i3, i4, fr⟩ := hN3.look k hkl; rw [Hx.out] at i2 i3 i4; have f2 := fr 2; have f3 := fr 3; have f4 := fr 4; have hm1 := hN3.store k hkl 2 (by omega) (.string x.f3) { x with f2 := x.f3 } (fun ok cs h => setf2 (Hx.out ▸ h) _); have hw4 := hw3.setCell (p := ⟨g, k * 10 + 2, none⟩) hge (.string x.f3); have hm2 := hm1.store k hkl 3 (by omega) (.string (⟨#[]⟩ : ByteArray)) { x with f2 := x.f3, f3 := (⟨#[]⟩ : ByteArray) } (fun ok cs h => setf3 ((rd_set hkl _) ▸ h) _); have hw5 := hw4.setCell (p := ⟨g, k * 10 + 3, none⟩) hge (.string (⟨#[]⟩ : ByteArray)); rw [List.set_set] at hm2; have hm3 := hm2.store k hkl 4 (by omega) (.string (⟨#[]⟩ : ByteArray)) { x with f2 := x.f3, f3 := (⟨#[]⟩ : ByteArray), f4 := (⟨#[]⟩ : ByteArray) } (fun ok cs h => setf4 ((rd_set hkl _) ▸ h) _); have hwm := hw5.setCell (p := ⟨g, k * 10 + 4, none⟩) hge (.string (⟨#[]⟩ : ByteArray)); rw [List.set_set] at hm3; rw [show ({ x with f2 := x.f3, f3 := (⟨#[]⟩ : ByteArray), f4 := (⟨#[]⟩ : ByteArray) } : S36) = nomin x from Hnm.out.symm] at hm3; rw [Hm.out] at hm3; have HNm := hid hm3; clear hm1 hm2 hm3 hw4 hw5; clear fr hC4) | (go_at_call 13; (with_reducible refine (H1.out _ hwm).mono ?_); rintro e w4 ⟨s0, s1, s2, rfl, hP, hCc, hVv, hb4⟩; obtain ⟨P0, p0, rfl, hp0, P0C⟩ := hP; obtain ⟨P1, p1, rfl, hp1, P1C⟩ := hCc; obtain ⟨P2, p2, rfl, hp2, P2C⟩ := hVv; have hw4 := bseq hwm hb4; have R3 := Bx.new w4 25 #[.slice P0 ps.length p0, .slice P1 lc.length p1, .slice P2 lv.length p2]; have g3 := below_alloc (Below.refl w4.heap.size w4) (.cells #[.slice P0 ps.length p0, .slice P1 lc.length p1, .slice P2 lv.length p2] 25); have hw4' := bseq hw4 g3; obtain ⟨A6, n6, hv6, hl6, hC6⟩ := HNm.out.shape; rw [Hml.out] at hv6 hl6; injection hv6 with hv7 hv8 hv9; subst hv7 hv9; have hCm := Kd.C_below hC6 (bseq hb4 g3); clear hC6 i2 i3 i4 f2 f3 f4) | (go_at_call 13; have h13 := H2.out _ _ _ hCm hl6 hw4'; (with_reducible refine h13.mono ?_); rintro e w5 ⟨s3, s4, s5, rfl, hP2, hC2, hV2, hb5⟩; obtain ⟨P3, p3, rfl, hp3, P3C⟩ := hP2; obtain ⟨P4, p4, rfl, hp4, P4C⟩ := hC2; obtain ⟨P5, p5, rfl, hp5, P5C⟩ := hV2; have R4 := R3.below hb5; have c4 := R4.cell; have l4 := R4.lt; have hw5 := bseq hw4' hb5; have R5 := Bx.new w5 25 #[.slice P3 ps2.length p3, .slice P4 lc2.length p4, .slice P5 lv2.length p5]; have g4 := below_alloc (Below.refl w5.heap.size w5) (.cells #[.slice P3 ps2.length p3, .slice P4 lc2.length p4, .slice P5 lv2.length p5] 25); have hw6 := bseq hw5 g4; have g34 := bseq (bseq g3 hb5) g4))
    go_ret
    exact ⟨rfl, hw6⟩
theorem nominees_calls (l : List S36) (A : Option Addr) (c : Nat) (day raw : Int) (hr0 : 0 ≤ raw) (hr1 : raw ≤ 255) (w : World) (hC : HC w A l) (hc : l.length ≤ c) (ht : Tab w) :
    Calls Tryz.prog 5 #[.slice A l.length c, .int .i64 day, .int .u8 raw] w fun e w' => e = .returned (.bool true) ∧ Below w.heap.size w w' := by
  by_cases z0 : atE l day = 0
  · by_cases hf : (rd_T36 l (raw % (l.length : Int))).f3.size = 0
    · exact nominees_a l A c day raw hr0 hr1 w hC hc ht z0 hf
    · exact nominees_b l A c day raw hr0 hr1 w hC hc ht z0 hf
  · exact nominees_c l A c day raw hr0 hr1 w hC hc ht z0
end Go.Proofs.YthbcabnljcpaiaaGreatDoor.H
