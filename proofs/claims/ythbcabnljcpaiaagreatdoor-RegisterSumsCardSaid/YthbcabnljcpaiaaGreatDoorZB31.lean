/- A part of the proof that the register's laws hold; no condition of its own. -/
import Derived.Test.YthbcabnljcpaiaaGreatDoorZB24
import Derived.Test.YthbcabnljcpaiaaGreatDoorZB27
import Derived.Test.YthbcabnljcpaiaaGreatDoorZB30
import Derived.Test.YthbcabnljcpaiaaGreatDoorZB19
import Derived.Deep.RegionHeld3
set_option linter.all false
namespace Go.Proofs.YthbcabnljcpaiaaGreatDoor.H
open Go.RowKit Go.Shelf Go.Lib Go.Maps Go.Proofs.YthbcabnljcpaiaaGreatDoorW.PrintWords Go.Proofs.YthbcabnljcpaiaaGreatDoor.Q
set_option linter.unusedVariables false
theorem flat_get {sz : Nat} : ∀ (css : List (List Value)) (j i : Nat) (c : List Value), (∀ c ∈ css, c.length = sz) → css[j]? = some c → i < sz → css.flatten[j * sz + i]? = c[i]?
  | [], j, i, c, _, h, _ => by simp at h
  | c0 :: css, 0, i, c, hl, h, hi => by
    simp at h; subst h
    have := hl c0 List.mem_cons_self
    rw [List.flatten_cons, Nat.zero_mul, Nat.zero_add, List.getElem?_append_left (by omega)]
  | c0 :: css, j + 1, i, c, hl, h, hi => by
    have h0 := hl c0 List.mem_cons_self
    have e : (j + 1) * sz + i = c0.length + (j * sz + i) := by rw [h0, Nat.add_mul]; omega
    rw [List.flatten_cons, e, List.getElem?_append_right (by omega), Nat.add_sub_cancel_left]
    exact flat_get css j i c (fun c hc => hl c (List.mem_cons_of_mem _ hc)) (by simpa using h) hi
theorem C_lit {α : Type} (d : Kd α) {w : World} {b t : Nat} {cells : Array Value} (hB : Bx w b t cells) (xs : List α) (css : List (List Value)) (hc : cells.toList = css.flatten) (hl : css.length = xs.length)
    (hlen : xs.length ≤ 1000000) (hk : ∀ (j : Nat) x c, xs[j]? = some x → css[j]? = some c → d.K w x c) (hs : ∀ c ∈ css, c.length = d.sz) : Kd.C d w (some ⟨b, 0, none⟩) xs.length xs := by
  refine ⟨rfl, by have : maxLen = 9223372036854775807 := rfl; omega, fun _ => ⟨⟨b, 0, none⟩, rfl, fun j p hj => ?_⟩⟩
  have hjl : j < css.length := by
    rw [hl]
    rcases Nat.lt_or_ge j xs.length with h | h
    · exact h
    · simp [List.getElem?_eq_none h] at hj
  have hcj : css[j]? = some css[j] := List.getElem?_eq_getElem hjl
  have hsz := hs css[j] (List.getElem_mem hjl)
  refine ⟨css[j], hsz, hk j p _ hj hcj, fun i u hu => ?_⟩
  have hi : i < d.sz := by
    rw [← hsz]
    rcases Nat.lt_or_ge i css[j].length with h | h
    · exact h
    · rw [List.getElem?_eq_none h] at hu; cases hu
  have hcell := hB.cell (j * d.sz + i)
  have e : (⟨b, 0, none⟩ : Addr).add (j * d.sz + i) = ⟨b, j * d.sz + i, none⟩ := add0 b _
  rw [e, hcell, ← Array.getElem?_toList, hc, flat_get css j i _ hs hcj hi]
  exact hu
theorem strs_lit (W : World) (b : Nat) (xs : List ByteArray) {cs : Array Value} (hB : Bx W b 9 cs) (hl : xs.length ≤ 1000000) (hcs : cs = (xs.map Value.string).toArray := by rfl) : Kd.C Kd.string W (some ⟨b, 0, none⟩) xs.length xs := by
  subst hcs
  refine C_lit Kd.string hB xs (xs.map fun s => [Value.string s]) ?_ (by simp) hl ?_ ?_
  · show (xs.map Value.string) = (xs.map fun s => [Value.string s]).flatten
    clear hB hl
    induction xs with
    | nil => rfl
    | cons a l ih => rw [List.map_cons, List.map_cons, List.flatten_cons, ← ih]; rfl
  · intro j x c hx hc
    rw [List.getElem?_map, hx] at hc
    cases hc
    exact rfl
  · intro c hc
    obtain ⟨x, _, rfl⟩ := List.mem_map.1 hc
    rfl
theorem links_lit (W : World) (b : Nat) (xs : List S42) {cs : Array Value} (hB : Bx W b 42 cs) (hl : xs.length ≤ 1000000) (hcs : cs = (xs.flatMap fun x => (lcells x).toList).toArray := by rfl) : Kd.C k42 W (some ⟨b, 0, none⟩) xs.length xs := by
  subst hcs
  refine C_lit k42 hB xs (xs.map fun x => (lcells x).toList) (by simp [List.flatMap_def]) (by simp) hl ?_ ?_
  · intro j x c hx hc
    rw [List.getElem?_map, hx] at hc
    cases hc
    exact k42_mk W x
  · intro c hc
    obtain ⟨x, _, rfl⟩ := List.mem_map.1 hc
    rfl
set_option maxRecDepth 100000 in
set_option maxHeartbeats 4000000 in
theorem of27_calls (num den : Int) (h0 : -9223372036854775808 ≤ num) (h1 : num ≤ 9223372036854775807) (h2 : -9223372036854775808 ≤ den) (h3 : den ≤ 9223372036854775807) (hd : den ≠ 0) (w : World) (ht : Tab w) :
    Calls Tryz.prog 27 #[.int .i64 num, .int .i64 den] w fun e w' => e = .returned (rat (ratS num den).f0 (ratS num den).f1 (ratS num den).f2) ∧ Below w.heap.size w w' := by
  have R0 := Row3.new w 40 (.bool false) (.string ⟨#[]⟩) (.string ⟨#[]⟩)
  have g0 := below_alloc (Below.refl w.heap.size w) (.cells #[.bool false, .string ⟨#[]⟩, .string ⟨#[]⟩] 40)
  have hof := of_calls num den h0 h1 h2 h3 hd _ (ht.below g0)
  rw [ratOf_S] at hof
  generalize ratS num den = r at *
  have Hof := hid hof
  clear hof ht h0 h1 h2 h3 hd
  go_enter Tryz.func27, Tryz.ntmps27
  go_wp2_with (first | (go_at_call 60; refine Hof.out.mono ?_; rintro e w1 ⟨rfl, hb1⟩; have R1 := R0.below hb1; have g1 := bseq g0 hb1; have c0 := R1.c0; have c1 := R1.c1; have c2 := R1.c2; have fz := R1.fz; have l1 := R1.lt))
  have rf := (((R1.set0 (.bool r.f0)).set1 (.string r.f1)).set2 (.string r.f2)).below (below_alloc (Below.refl _ _) (.cells #[.bool r.f0, .string r.f1, .string r.f2] 40))
  refine bodyPost_ret (results_cell_row rfl _ _ w.heap.size 40 _ (0, 0) _ rfl rf.at_ Tryz.underlying40 rfl (by kernel_rfl)) rfl ⟨rfl, ?_⟩
  exact below_alloc (((g1.setCell (p := ⟨w.heap.size, 0, none⟩) (Nat.le_refl _) _).setCell (p := ⟨w.heap.size, 1, none⟩) (Nat.le_refl _) _).setCell (p := ⟨w.heap.size, 2, none⟩) (Nat.le_refl _) _) _
theorem modHG : ModL [hH, hG] := ⟨by decide, fun x hx => by simp at hx; rcases hx with rfl | rfl <;> exact FewX.mod (by unfold FewX; decide +kernel)⟩
theorem modN : ModL [hN] := ⟨by decide, fun x hx => by simp at hx; subst hx; exact FewX.mod (by unfold FewX; decide +kernel)⟩
theorem modL : ModL [hL] := ⟨by decide, fun x hx => by simp at hx; subst hx; exact FewX.mod (by unfold FewX; decide +kernel)⟩
theorem modH : ModL [hH] := ⟨by decide, fun x hx => by simp at hx; subst hx; exact FewX.mod (by unfold FewX; decide +kernel)⟩
theorem modP : Mod hP := FewX.mod (by unfold FewX; decide +kernel)
theorem rd1 : rP [hH, hG] 5 = [⟨#[97]⟩, ⟨#[112]⟩, ⟨#[113]⟩, ⟨#[114]⟩] ∧ rC [hH, hG] 5 = [⟨0, 1, ratS 3 5⟩, ⟨0, 2, ratS 3 20⟩, ⟨0, 3, ratS 3 20⟩] ∧ rV [hH, hG] 5 = [⟨0, 1, ratS 3 5⟩] := by
  refine ⟨?_, ?_, ?_⟩
  · unfold rP; rw [if_pos ae1, pa1]
  · unfold rC; rw [if_pos ae1, lc1]; rfl
  · unfold rV; rw [if_pos ae1, lv1]; rfl
theorem rd2 : rP [hN] 5 = [⟨#[97]⟩, ⟨#[112]⟩, ⟨#[113]⟩, ⟨#[114]⟩] ∧ rC [hN] 5 = [⟨0, 2, ratS 3 5⟩] ∧ rV [hN] 5 = [⟨0, 3, ratS 3 5⟩] := by
  refine ⟨?_, ?_, ?_⟩
  · unfold rP; rw [if_pos ae2, pa2]
  · unfold rC; rw [if_pos ae2, lc2]; rfl
  · unfold rV; rw [if_pos ae2, lv2]; rfl
theorem rd3 : rP [hL] 5 = [⟨#[97]⟩, ⟨#[112]⟩] ∧ rC [hL] 5 = [] ∧ rV [hL] 5 = [] := by
  refine ⟨?_, ?_, ?_⟩
  · unfold rP; rw [if_pos ae3, pa3]
  · unfold rC; rw [if_pos ae3, lc3]; rfl
  · unfold rV; rw [if_pos ae3, lv3]; rfl
theorem so1 : soundE [⟨#[97]⟩, ⟨#[112]⟩, ⟨#[113]⟩, ⟨#[114]⟩] [⟨0, 1, ratS 3 5⟩, ⟨0, 2, ratS 3 20⟩, ⟨0, 3, ratS 3 20⟩] [⟨0, 1, ratS 3 5⟩] := by decide +kernel
theorem mk1 : ModK [⟨0, 1, ratS 3 5⟩, ⟨0, 2, ratS 3 20⟩, ⟨0, 3, ratS 3 20⟩] := by unfold ModK I64; decide +kernel
theorem mk2 : ModK [⟨0, 1, ratS 3 5⟩] := by unfold ModK I64; decide +kernel
theorem hold_lit {W : World} {b : Nat} {x : S36} (h5 : x.f5 = []) (B : Bx W b 36 (hcells x none 0)) : HC W (some ⟨b, 0, none⟩) [x] := by
  refine C_lit k36 B [x] [(hcells x none 0).toList] (by simp) rfl (by simp) ?_ ?_
  · intro j y c hx hc
    match j, hx, hc with
    | 0, hx, hc =>
      cases hx; cases hc
      obtain ⟨A, cc, e, hl, hC⟩ := SV.nil W
      injection e with e1 e2 e3
      subst e1
      exact k36_mk W x (A5 := none) (c5 := 0) (by rw [h5]; exact Nat.le_refl _) (by rw [h5]; exact hC)
  · intro c hc
    simp at hc
    subst hc
    rfl
theorem at_one (x : S36) (h5 : x.f5 = []) (hM : ModL [x]) (W : World) (b : Nat) (B : Bx W b 36 (hcells x none 0)) (ht : Tab W) :
    Calls Tryz.prog 13 #[.slice (some ⟨b, 0, none⟩) 1 1, .int .i64 5] W fun e w' => ∃ s0 s1 s2, e = .returned (.tuple #[.agg #[s0, s1, s2], .int .i64 (atE [x] 5)]) ∧ SV w' s0 (rP [x] 5) ∧ LV w' s1 (rC [x] 5) ∧ LV w' s2 (rV [x] 5) ∧ Below W.heap.size W w' :=
  at_calls [x] (some ⟨b, 0, none⟩) 1 5 hM W (hold_lit h5 B) (Nat.le_refl _) ht
theorem Bx.newE {X : World} {b t : Nat} {cs : Array Value} (h : b = X.heap.size) : Bx (X.alloc (.cells cs t)) b t cs := by
  subst h; exact Bx.new X t cs
theorem Bx.more {X : World} {b t : Nat} {cs : Array Value} {o : Obj} (h : Bx X b t cs) : Bx (X.alloc o) b t cs := h.below (below_alloc (Below.refl _ _) o)
theorem Bx.drawn {X : World} {b t : Nat} {cs : Array Value} (h : Bx X b t cs) : Bx X.drew b t cs := h
set_option maxRecDepth 100000 in
set_option maxHeartbeats 60000000 in
theorem head_calls (w : World) (ht : Tab w) : Calls Tryz.prog 10 #[] w fun e w' => e = .returned (.bool true) ∧ Below w.heap.size w w' := by
  have Ht := hid ht
  clear ht
  go_enter Tryz.func10, Tryz.ntmps10
  go_wp2_with (fail)
  have g1 := below_alloc (Below.refl w.heap.size w) (.cells #[.string ⟨#[104, 49]⟩, .string ⟨#[97]⟩, .string ⟨#[112]⟩, .string ⟨#[]⟩, .string ⟨#[]⟩, .slice none 0 0, .int .i64 60, .int .i64 60, .int .i64 0, .int .i64 (-1)] 36)
  have B1 := Bx.new w 36 #[.string ⟨#[104, 49]⟩, .string ⟨#[97]⟩, .string ⟨#[112]⟩, .string ⟨#[]⟩, .string ⟨#[]⟩, .slice none 0 0, .int .i64 60, .int .i64 60, .int .i64 0, .int .i64 (-1)]
  generalize hX1 : w.alloc (.cells #[.string ⟨#[104, 49]⟩, .string ⟨#[97]⟩, .string ⟨#[112]⟩, .string ⟨#[]⟩, .string ⟨#[]⟩, .slice none 0 0, .int .i64 60, .int .i64 60, .int .i64 0, .int .i64 (-1)] 36) = X1 at *
  have z1 : X1.heap.size = w.heap.size + 1 := by rw [← hX1, World.size_alloc]
  have g2 := below_alloc (Below.refl X1.heap.size X1) (.cells #[.string ⟨#[114]⟩] 9)
  have B2 := Bx.new X1 9 #[.string ⟨#[114]⟩]
  generalize hX2 : X1.alloc (.cells #[.string ⟨#[114]⟩] 9) = X2 at *
  have z2 : X2.heap.size = w.heap.size + 1 + 1 := by rw [← hX2, World.size_alloc, z1]
  rw [z1] at B2
  have g3 := below_alloc (Below.refl X2.heap.size X2) (.cells #[.string ⟨#[104, 50]⟩, .string ⟨#[97]⟩, .string ⟨#[113]⟩, .string ⟨#[]⟩, .string ⟨#[]⟩, .slice (some ⟨w.heap.size + 1, 0, none⟩) 1 1, .int .i64 30, .int .i64 0, .int .i64 0, .int .i64 (-1)] 36)
  generalize hX3 : X2.alloc (.cells #[.string ⟨#[104, 50]⟩, .string ⟨#[97]⟩, .string ⟨#[113]⟩, .string ⟨#[]⟩, .string ⟨#[]⟩, .slice (some ⟨w.heap.size + 1, 0, none⟩) 1 1, .int .i64 30, .int .i64 0, .int .i64 0, .int .i64 (-1)] 36) = X3 at *
  have z3 : X3.heap.size = w.heap.size + 1 + 1 + 1 := by rw [← hX3, World.size_alloc, z2]
  have B4 := Bx.new X3 36 #[.string ⟨#[104, 49]⟩, .string ⟨#[97]⟩, .string ⟨#[112]⟩, .string ⟨#[]⟩, .string ⟨#[]⟩, .slice none 0 0, .int .i64 60, .int .i64 60, .int .i64 0, .int .i64 (-1), .string ⟨#[104, 50]⟩, .string ⟨#[97]⟩, .string ⟨#[113]⟩, .string ⟨#[]⟩, .string ⟨#[]⟩, .slice (some ⟨w.heap.size + 1, 0, none⟩) 1 1, .int .i64 30, .int .i64 0, .int .i64 0, .int .i64 (-1)]
  have g4 := below_alloc (Below.refl X3.heap.size X3) (.cells #[.string ⟨#[104, 49]⟩, .string ⟨#[97]⟩, .string ⟨#[112]⟩, .string ⟨#[]⟩, .string ⟨#[]⟩, .slice none 0 0, .int .i64 60, .int .i64 60, .int .i64 0, .int .i64 (-1), .string ⟨#[104, 50]⟩, .string ⟨#[97]⟩, .string ⟨#[113]⟩, .string ⟨#[]⟩, .string ⟨#[]⟩, .slice (some ⟨w.heap.size + 1, 0, none⟩) 1 1, .int .i64 30, .int .i64 0, .int .i64 0, .int .i64 (-1)] 36)
  rw [z3] at B4
  generalize hX4 : X3.alloc (.cells #[.string ⟨#[104, 49]⟩, .string ⟨#[97]⟩, .string ⟨#[112]⟩, .string ⟨#[]⟩, .string ⟨#[]⟩, .slice none 0 0, .int .i64 60, .int .i64 60, .int .i64 0, .int .i64 (-1), .string ⟨#[104, 50]⟩, .string ⟨#[97]⟩, .string ⟨#[113]⟩, .string ⟨#[]⟩, .string ⟨#[]⟩, .slice (some ⟨w.heap.size + 1, 0, none⟩) 1 1, .int .i64 30, .int .i64 0, .int .i64 0, .int .i64 (-1)] 36) = X4 at *
  clear hX1 hX2 hX3 hX4
  have hb4 : Below w.heap.size w X4 := bseq (bseq (bseq g1 g2) g3) g4
  have B14 := ((B1.below g2).below g3).below g4
  have B24 := (B2.below g3).below g4
  have hC1 : HC X4 (some ⟨w.heap.size + 1 + 1 + 1, 0, none⟩) [hH, hG] := by
    refine C_lit k36 B4 [hH, hG] [[.string ⟨#[104, 49]⟩, .string ⟨#[97]⟩, .string ⟨#[112]⟩, .string ⟨#[]⟩, .string ⟨#[]⟩, .slice none 0 0, .int .i64 60, .int .i64 60, .int .i64 0, .int .i64 (-1)], [.string ⟨#[104, 50]⟩, .string ⟨#[97]⟩, .string ⟨#[113]⟩, .string ⟨#[]⟩, .string ⟨#[]⟩, .slice (some ⟨w.heap.size + 1, 0, none⟩) 1 1, .int .i64 30, .int .i64 0, .int .i64 0, .int .i64 (-1)]] rfl rfl (by decide) ?_ ?_
    · intro j x c hx hc
      match j, hx, hc with
      | 0, hx, hc =>
        cases hx; cases hc
        obtain ⟨A, cc, e, hl, hC⟩ := SV.nil X4
        injection e with e1 e2 e3
        subst e1
        exact k36_mk X4 hH (Nat.zero_le _) hC
      | 1, hx, hc =>
        cases hx; cases hc
        exact k36_mk X4 hG (A5 := some ⟨w.heap.size + 1, 0, none⟩) (c5 := 1) (Nat.le_refl _) (C_lit Kd.string B24 [⟨#[114]⟩] [[.string ⟨#[114]⟩]] rfl rfl (by decide) (fun j x c hx hc => by
          match j, hx, hc with
          | 0, hx, hc => cases hx; cases hc; exact rfl) (by intro c hc; simp at hc; subst hc; rfl))
    · intro c hc
      simp at hc
      rcases hc with rfl | rfl <;> rfl
  have hat := at_calls [hH, hG] (some ⟨w.heap.size + 1 + 1 + 1, 0, none⟩) 2 5 modHG X4 hC1 (Nat.le_refl _) (Ht.out.below hb4)
  rw [rd1.1, rd1.2.1, rd1.2.2, ae1] at hat
  refine hat.mono ?_
  rintro e wA ⟨s0, s1, s2, rfl, hP, hCc, hVv, hbA⟩
  obtain ⟨P0, p0, rfl, hp0, P0C⟩ := hP
  obtain ⟨P1, p1, rfl, hp1, P1C⟩ := hCc
  obtain ⟨P2, p2, rfl, hp2, P2C⟩ := hVv
  have hbwA := bseq hb4 hbA
  have B1A := B14.below hbA
  have k1 := B1A.cell
  have m1 := B1A.lt
  go_wp2_with (fail)
  go_upto_region 4 with (fail)
  have R3 := Bx.new wA 25 #[.slice P0 4 p0, .slice P1 3 p1, .slice P2 1 p2]
  have g5 := below_alloc (Below.refl wA.heap.size wA) (.cells #[.slice P0 4 p0, .slice P1 3 p1, .slice P2 1 p2] 25)
  have hsA : wA.heap.size < (wA.alloc (.cells #[.slice P0 4 p0, .slice P1 3 p1, .slice P2 1 p2] 25)).heap.size := R3.lt
  generalize hW5 : wA.alloc (.cells #[.slice P0 4 p0, .slice P1 3 p1, .slice P2 1 p2] 25) = W5 at *
  clear hW5
  have c3 := R3.cell
  have l3 := R3.lt
  have hS : ∀ W, Below W5.heap.size W5 W → (Below W5.heap.size W5 W ∧ W.cell? ⟨wA.heap.size, 0, none⟩ = some (.slice P0 4 p0) ∧ W.cell? ⟨wA.heap.size, 1, none⟩ = some (.slice P1 3 p1) ∧ W.cell? ⟨wA.heap.size, 2, none⟩ = some (.slice P2 1 p2)) := fun W h => ⟨h, cellB h (R3.cell 0), cellB h (R3.cell 1), cellB h (R3.cell 2)⟩
  have htab : ∀ W, Below W5.heap.size W5 W → Tab W := fun W h => (Ht.out.below (bseq hbwA g5)).below h
  have h35 := fun W h => of27_calls 3 5 (by omega) (by omega) (by omega) (by omega) (by omega) W (htab W h)
  have h320 := fun W h => of27_calls 3 20 (by omega) (by omega) (by omega) (by omega) (by omega) W (htab W h)
  have HS := hid hS
  have H35 := hid h35
  have H320 := hid h320
  clear hS htab h35 h320
  obtain ⟨k0, hk0⟩ := Ev.rounds (same_refl [⟨#[97]⟩, ⟨#[112]⟩, ⟨#[113]⟩, ⟨#[114]⟩] [⟨0, 1, ratS 3 5⟩, ⟨0, 2, ratS 3 20⟩, ⟨0, 3, ratS 3 20⟩] [⟨0, 1, ratS 3 5⟩] (by decide) (by decide) (by decide))
  have hsame : ∀ (W : World) (b0 b1 b2 : Nat), Below W5.heap.size W5 W → Bx W b0 9 #[.string ⟨#[97]⟩, .string ⟨#[112]⟩, .string ⟨#[113]⟩, .string ⟨#[114]⟩] → Bx W b1 42 #[.int .i64 0, .int .i64 1, .bool (ratS 3 5).f0, .string (ratS 3 5).f1, .string (ratS 3 5).f2, .int .i64 0, .int .i64 2, .bool (ratS 3 20).f0, .string (ratS 3 20).f1, .string (ratS 3 20).f2, .int .i64 0, .int .i64 3, .bool (ratS 3 20).f0, .string (ratS 3 20).f1, .string (ratS 3 20).f2] → Bx W b2 42 #[.int .i64 0, .int .i64 1, .bool (ratS 3 5).f0, .string (ratS 3 5).f1, .string (ratS 3 5).f2] →
      Calls Tryz.prog 16 #[.agg #[.slice P0 4 p0, .slice P1 3 p1, .slice P2 1 p2], .agg #[.slice (some ⟨b0, 0, none⟩) 4 4, .slice (some ⟨b1, 0, none⟩) 3 3, .slice (some ⟨b2, 0, none⟩) 1 1]] W fun e w' => e = .returned (.bool true) ∧ Below W.heap.size W w' := fun W b0 b1 b2 h B0 B1 B2 => by
    have hw := bseq g5 h
    exact customhouseref17_Same.calls k0 P0 p0 [⟨#[97]⟩, ⟨#[112]⟩, ⟨#[113]⟩, ⟨#[114]⟩] P1 p1 [⟨0, 1, ratS 3 5⟩, ⟨0, 2, ratS 3 20⟩, ⟨0, 3, ratS 3 20⟩] P2 p2 [⟨0, 1, ratS 3 5⟩] (some ⟨b0, 0, none⟩) 4 [⟨#[97]⟩, ⟨#[112]⟩, ⟨#[113]⟩, ⟨#[114]⟩] (some ⟨b1, 0, none⟩) 3 [⟨0, 1, ratS 3 5⟩, ⟨0, 2, ratS 3 20⟩, ⟨0, 3, ratS 3 20⟩] (some ⟨b2, 0, none⟩) 1 [⟨0, 1, ratS 3 5⟩] true W
      (Kd.C_below P0C hw) hp0 (Kd.C_below P1C hw) hp1 (Kd.C_below P2C hw) hp2 (strs_lit W b0 [⟨#[97]⟩, ⟨#[112]⟩, ⟨#[113]⟩, ⟨#[114]⟩] B0 (by decide)) (Nat.le_refl _) (links_lit W b1 [⟨0, 1, ratS 3 5⟩, ⟨0, 2, ratS 3 20⟩, ⟨0, 3, ratS 3 20⟩] B1 (by decide)) (Nat.le_refl _) (links_lit W b2 [⟨0, 1, ratS 3 5⟩] B2 (by decide)) (Nat.le_refl _) hk0
  have HSame := hid hsame
  clear hsame hk0
  generalize hr35 : ratS 3 5 = r35 at *
  generalize hr320 : ratS 3 20 = r320 at *
  have HR35 := hid hr35
  have HR320 := hid hr320
  clear hr35 hr320
  go_cut [5] from 25 to 42 (fun v5 wx => v5 = .bool true ∧ Below W5.heap.size W5 wx)
  case first =>
    go_region_held3 (fun w' => Below W5.heap.size W5 w' ∧ w'.cell? ⟨wA.heap.size, 0, none⟩ = some (.slice P0 4 p0) ∧ w'.cell? ⟨wA.heap.size, 1, none⟩ = some (.slice P1 3 p1) ∧ w'.cell? ⟨wA.heap.size, 2, none⟩ = some (.slice P2 1 p2))
      (exact HS.out _ (by repeat (first | exact Below.refl _ _ | refine below_alloc ?_ _ | refine below_drew ?_ | refine bseq ?_ (by assumption))))
      (first
        | (go_at_call 27; (with_reducible refine (H35.out _ (by repeat (first | exact Below.refl _ _ | refine below_alloc ?_ _ | refine below_drew ?_ | refine bseq ?_ (by assumption)))).mono ?_); rintro e w2 ⟨rfl, hb2⟩)
        | (go_at_call 27; (with_reducible refine (H320.out _ (by repeat (first | exact Below.refl _ _ | refine below_alloc ?_ _ | refine below_drew ?_ | refine bseq ?_ (by assumption)))).mono ?_); rintro e w2 ⟨rfl, hb2⟩)
        | (go_at_call 16; (with_reducible refine (HSame.out _ _ _ _ (by repeat (first | exact Below.refl _ _ | refine below_alloc ?_ _ | refine below_drew ?_ | refine bseq ?_ (by assumption))) (by repeat (first | exact Bx.newE (by simp) | refine Bx.more ?_ | refine Bx.drawn ?_ | refine Bx.below ?_ (by assumption))) (by repeat (first | exact Bx.newE (by simp) | refine Bx.more ?_ | refine Bx.drawn ?_ | refine Bx.below ?_ (by assumption))) (by repeat (first | exact Bx.newE (by simp) | refine Bx.more ?_ | refine Bx.drawn ?_ | refine Bx.below ?_ (by assumption)))).mono ?_); rintro e w2 ⟨rfl, hb2⟩))
    all_goals go_wp2_with (fail)
    all_goals go_meet
    all_goals exact ⟨rfl, (by repeat (first | exact Below.refl _ _ | refine below_alloc ?_ _ | refine below_drew ?_ | refine bseq ?_ (by assumption)))⟩
  case rest =>
    obtain ⟨rfl, hbC⟩ := hcut
    have hb5 := bseq hbwA g5
    have hbc := bseq hb5 hbC
    have R3c := R3.below hbC
    have B1c := (B1A.below g5).below hbC
    have kc := B1c.cell
    have mc := B1c.lt
    clear k1 m1 c3 l3
    go_wp2_with (fail)
    have g6 := below_alloc (Below.refl wc.heap.size wc) (.cells #[.string ⟨#[104, 49]⟩, .string ⟨#[97]⟩, .string ⟨#[112]⟩, .string ⟨#[113]⟩, .string ⟨#[114]⟩, .slice none 0 0, .int .i64 60, .int .i64 60, .int .i64 0, .int .i64 (-1)] 36)
    generalize hX6 : wc.alloc (.cells #[.string ⟨#[104, 49]⟩, .string ⟨#[97]⟩, .string ⟨#[112]⟩, .string ⟨#[113]⟩, .string ⟨#[114]⟩, .slice none 0 0, .int .i64 60, .int .i64 60, .int .i64 0, .int .i64 (-1)] 36) = X6 at *
    have z6 : X6.heap.size = wc.heap.size + 1 := by rw [← hX6, World.size_alloc]
    have g7 := below_alloc (Below.refl X6.heap.size X6) (.cells #[.string ⟨#[104, 49]⟩, .string ⟨#[97]⟩, .string ⟨#[112]⟩, .string ⟨#[113]⟩, .string ⟨#[114]⟩, .slice none 0 0, .int .i64 60, .int .i64 60, .int .i64 0, .int .i64 (-1)] 36)
    have B7 := Bx.new X6 36 #[.string ⟨#[104, 49]⟩, .string ⟨#[97]⟩, .string ⟨#[112]⟩, .string ⟨#[113]⟩, .string ⟨#[114]⟩, .slice none 0 0, .int .i64 60, .int .i64 60, .int .i64 0, .int .i64 (-1)]
    generalize hX7 : X6.alloc (.cells #[.string ⟨#[104, 49]⟩, .string ⟨#[97]⟩, .string ⟨#[112]⟩, .string ⟨#[113]⟩, .string ⟨#[114]⟩, .slice none 0 0, .int .i64 60, .int .i64 60, .int .i64 0, .int .i64 (-1)] 36) = X7 at *
    rw [z6] at B7
    clear hX6 hX7
    have hb7 := bseq (bseq hbc g6) g7
    have hat2 := at_one hN rfl modN X7 (wc.heap.size + 1) B7 (Ht.out.below hb7)
    rw [rd2.1, rd2.2.1, rd2.2.2, ae2] at hat2
    refine hat2.mono ?_
    rintro e wB ⟨s3, s4, s5, rfl, hP', hCc', hVv'⟩
    obtain ⟨P3, p3, rfl, hp3, P3C⟩ := hP'
    obtain ⟨P4, p4, rfl, hp4, P4C⟩ := hCc'
    obtain ⟨⟨P5, p5, rfl, hp5, P5C⟩, hbB⟩ := hVv'
    have hbwB := bseq hb7 hbB
    have R3B := ((R3c.below g6).below g7).below hbB
    have B1B := ((B1c.below g6).below g7).below hbB
    have kB := B1B.cell
    have mB := B1B.lt
    clear kc mc
    go_upto_region 8 with (fail)
    have R8 := Bx.new wB 25 #[.slice P3 4 p3, .slice P4 1 p4, .slice P5 1 p5]
    have g8 := below_alloc (Below.refl wB.heap.size wB) (.cells #[.slice P3 4 p3, .slice P4 1 p4, .slice P5 1 p5] 25)
    have B18 := B1B.below g8
    have R38 := R3B.below g8
    generalize hW9 : wB.alloc (.cells #[.slice P3 4 p3, .slice P4 1 p4, .slice P5 1 p5] 25) = W9 at *
    clear hW9
    have hb9 := bseq hbwB g8
    have hS9 : ∀ W, Below W9.heap.size W9 W → (Below W9.heap.size W9 W ∧ W.cell? ⟨wB.heap.size, 1, none⟩ = some (.slice P4 1 p4) ∧ W.cell? ⟨wB.heap.size, 2, none⟩ = some (.slice P5 1 p5)) := fun W h => ⟨h, cellB h (R8.cell 1), cellB h (R8.cell 2)⟩
    obtain ⟨r35', hr35⟩ : ∃ r, r = ratS 3 5 := ⟨_, rfl⟩
    have h35' := fun W (h : Below W9.heap.size W9 W) => of27_calls 3 5 (by omega) (by omega) (by omega) (by omega) (by omega) W ((Ht.out.below hb9).below h)
    obtain ⟨k4, hk4⟩ := Ev.rounds (links_refl [⟨0, 2, ratS 3 5⟩] (by decide))
    obtain ⟨k5, hk5⟩ := Ev.rounds (links_refl [⟨0, 3, ratS 3 5⟩] (by decide))
    have hs4 : ∀ (W : World) (b : Nat), Below W9.heap.size W9 W → Bx W b 42 #[.int .i64 0, .int .i64 2, .bool (ratS 3 5).f0, .string (ratS 3 5).f1, .string (ratS 3 5).f2] → Calls Tryz.prog 28 #[.slice P4 1 p4, .slice (some ⟨b, 0, none⟩) 1 1] W fun e w' => e = .returned (.bool true) ∧ Below W.heap.size W w' := fun W b h B =>
      (customhouseref17_SameLinks.calls k4 P4 p4 [⟨0, 2, ratS 3 5⟩] (some ⟨b, 0, none⟩) 1 [⟨0, 2, ratS 3 5⟩] true W (Kd.C_below P4C (bseq g8 h)) hp4 (links_lit W b [⟨0, 2, ratS 3 5⟩] B (by decide)) (Nat.le_refl _) hk4).mono (fun e w' h => ⟨h.1, h.2.below⟩)
    have hs5 : ∀ (W : World) (b : Nat), Below W9.heap.size W9 W → Bx W b 42 #[.int .i64 0, .int .i64 3, .bool (ratS 3 5).f0, .string (ratS 3 5).f1, .string (ratS 3 5).f2] → Calls Tryz.prog 28 #[.slice P5 1 p5, .slice (some ⟨b, 0, none⟩) 1 1] W fun e w' => e = .returned (.bool true) ∧ Below W.heap.size W w' := fun W b h B =>
      (customhouseref17_SameLinks.calls k5 P5 p5 [⟨0, 3, ratS 3 5⟩] (some ⟨b, 0, none⟩) 1 [⟨0, 3, ratS 3 5⟩] true W (Kd.C_below P5C (bseq g8 h)) hp5 (links_lit W b [⟨0, 3, ratS 3 5⟩] B (by decide)) (Nat.le_refl _) hk5).mono (fun e w' h => ⟨h.1, h.2.below⟩)
    rw [← hr35] at h35' hs4 hs5
    have HS9 := hid hS9
    have H35' := hid h35'
    have Hs4 := hid hs4
    have Hs5 := hid hs5
    clear hS9 h35' hs4 hs5 hr35 hk4 hk5
    go_cut [9] from 52 to 69 (fun v9 wx => v9 = .bool true ∧ Below W9.heap.size W9 wx)
    case first =>
      go_region_held3 (fun w' => Below W9.heap.size W9 w' ∧ w'.cell? ⟨wB.heap.size, 1, none⟩ = some (.slice P4 1 p4) ∧ w'.cell? ⟨wB.heap.size, 2, none⟩ = some (.slice P5 1 p5))
        (exact HS9.out _ (by repeat (first | exact Below.refl _ _ | refine below_alloc ?_ _ | refine below_drew ?_ | refine bseq ?_ (by assumption))))
        (first
          | (go_at_call 27; (with_reducible refine (H35'.out _ (by repeat (first | exact Below.refl _ _ | refine below_alloc ?_ _ | refine below_drew ?_ | refine bseq ?_ (by assumption)))).mono ?_); rintro e w2 ⟨rfl, hb2⟩)
          | (go_at_call 28; (with_reducible refine (Hs4.out _ _ (by repeat (first | exact Below.refl _ _ | refine below_alloc ?_ _ | refine below_drew ?_ | refine bseq ?_ (by assumption))) (by repeat (first | exact Bx.newE (by simp) | refine Bx.more ?_ | refine Bx.drawn ?_ | refine Bx.below ?_ (by assumption)))).mono ?_); rintro e w2 ⟨rfl, hb2⟩)
          | (go_at_call 28; (with_reducible refine (Hs5.out _ _ (by repeat (first | exact Below.refl _ _ | refine below_alloc ?_ _ | refine below_drew ?_ | refine bseq ?_ (by assumption))) (by repeat (first | exact Bx.newE (by simp) | refine Bx.more ?_ | refine Bx.drawn ?_ | refine Bx.below ?_ (by assumption)))).mono ?_); rintro e w2 ⟨rfl, hb2⟩))
      all_goals go_wp2_with (fail)
      all_goals go_meet
      all_goals exact ⟨rfl, (by repeat (first | exact Below.refl _ _ | refine below_alloc ?_ _ | refine below_drew ?_ | refine bseq ?_ (by assumption)))⟩
    case rest =>
      obtain ⟨rfl, hbD⟩ := hcut
      have hbd := bseq hb9 hbD
      have R3d := R38.below hbD
      have B1d := B18.below hbD
      have kd := B1d.cell
      have md := B1d.lt
      clear kB mB
      go_wp2_with (fail)
      have g10 := below_alloc (Below.refl wc.heap.size wc) (.cells #[.string ⟨#[104, 49]⟩, .string ⟨#[97]⟩, .string ⟨#[112]⟩, .string ⟨#[]⟩, .string ⟨#[]⟩, .slice none 0 0, .int .i64 60, .int .i64 60, .int .i64 6, .int .i64 (-1)] 36)
      generalize hX10 : wc.alloc (.cells #[.string ⟨#[104, 49]⟩, .string ⟨#[97]⟩, .string ⟨#[112]⟩, .string ⟨#[]⟩, .string ⟨#[]⟩, .slice none 0 0, .int .i64 60, .int .i64 60, .int .i64 6, .int .i64 (-1)] 36) = X10 at *
      have z10 : X10.heap.size = wc.heap.size + 1 := by rw [← hX10, World.size_alloc]
      have g11 := below_alloc (Below.refl X10.heap.size X10) (.cells #[.string ⟨#[104, 49]⟩, .string ⟨#[97]⟩, .string ⟨#[112]⟩, .string ⟨#[]⟩, .string ⟨#[]⟩, .slice none 0 0, .int .i64 60, .int .i64 60, .int .i64 6, .int .i64 (-1)] 36)
      have B11 := Bx.new X10 36 #[.string ⟨#[104, 49]⟩, .string ⟨#[97]⟩, .string ⟨#[112]⟩, .string ⟨#[]⟩, .string ⟨#[]⟩, .slice none 0 0, .int .i64 60, .int .i64 60, .int .i64 6, .int .i64 (-1)]
      generalize hX11 : X10.alloc (.cells #[.string ⟨#[104, 49]⟩, .string ⟨#[97]⟩, .string ⟨#[112]⟩, .string ⟨#[]⟩, .string ⟨#[]⟩, .slice none 0 0, .int .i64 60, .int .i64 60, .int .i64 6, .int .i64 (-1)] 36) = X11 at *
      rw [z10] at B11
      clear hX10 hX11
      have hb11 := bseq (bseq hbd g10) g11
      have hat3 := at_one hL rfl modL X11 (wc.heap.size + 1) B11 (Ht.out.below hb11)
      rw [rd3.1, rd3.2.1, rd3.2.2, ae3] at hat3
      refine hat3.mono ?_
      rintro e wD ⟨s6, s7, s8, rfl, hP6, hC6, hV6, hbE⟩
      obtain ⟨P6, p6, rfl, hp6, P6C⟩ := hP6
      obtain ⟨P7, p7, rfl, hp7, P7C⟩ := hC6
      obtain ⟨P8, p8, rfl, hp8, P8C⟩ := hV6
      have hbwD := bseq hb11 hbE
      have R3D := ((R3d.below g10).below g11).below hbE
      have B1D := ((B1d.below g10).below g11).below hbE
      have kD := B1D.cell
      have mD := B1D.lt
      clear kd md
      go_wp2_with (fail)
      have R12 := Bx.new wD 25 #[.slice P6 2 p6, .slice P7 0 p7, .slice P8 0 p8]
      have g12 := below_alloc (Below.refl wD.heap.size wD) (.cells #[.slice P6 2 p6, .slice P7 0 p7, .slice P8 0 p8] 25)
      generalize hX12 : wD.alloc (.cells #[.slice P6 2 p6, .slice P7 0 p7, .slice P8 0 p8] 25) = X12 at *
      have z12 : X12.heap.size = wD.heap.size + 1 := by rw [← hX12, World.size_alloc]
      have g13 := below_alloc (Below.refl X12.heap.size X12) (.cells #[.string ⟨#[104, 49]⟩, .string ⟨#[97]⟩, .string ⟨#[112]⟩, .string ⟨#[]⟩, .string ⟨#[]⟩, .slice none 0 0, .int .i64 60, .int .i64 60, .int .i64 0, .int .i64 (-1)] 36)
      have B13 := Bx.new X12 36 #[.string ⟨#[104, 49]⟩, .string ⟨#[97]⟩, .string ⟨#[112]⟩, .string ⟨#[]⟩, .string ⟨#[]⟩, .slice none 0 0, .int .i64 60, .int .i64 60, .int .i64 0, .int .i64 (-1)]
      generalize hX13 : X12.alloc (.cells #[.string ⟨#[104, 49]⟩, .string ⟨#[97]⟩, .string ⟨#[112]⟩, .string ⟨#[]⟩, .string ⟨#[]⟩, .slice none 0 0, .int .i64 60, .int .i64 60, .int .i64 0, .int .i64 (-1)] 36) = X13 at *
      rw [z12] at B13
      clear hX12 hX13
      have hb13 := bseq (bseq hbwD g12) g13
      have hJ0 : Kd.C Kd.string X13 none hP.f5.length hP.f5 := by
        obtain ⟨A, cc, e, hl, hC⟩ := SV.nil X13
        injection e with e1 e2 e3
        subst e1
        exact hC
      have hput := put_calls [hH] (some ⟨wD.heap.size + 1, 0, none⟩) 1 hP none 0 modH (by decide) modP X13 (hold_lit (x := hH) rfl B13) (Nat.le_refl _) hJ0 (Nat.le_refl _)
      rw [pe] at hput
      refine hput.mono ?_
      rintro e wF ⟨v9, rfl, hn9, hbF⟩
      obtain ⟨A9, n9, hv9, hl9, hC9⟩ := hn9.shape
      subst hv9
      clear hn9 hl9 hC9
      have hbwF := bseq hb13 hbF
      have R3F := ((R3D.below g12).below g13).below hbF
      have R12F := (R12.below g13).below hbF
      have kF := R3F.cell
      have mF := R3F.lt
      have jF := R12F.cell
      have iF := R12F.lt
      clear kD mD
      obtain ⟨k6, hk6⟩ := Ev.rounds (texts_refl [⟨#[97]⟩, ⟨#[112]⟩] (by decide))
      have htx : Calls Tryz.prog 29 #[.slice P6 2 p6, .slice (some ⟨wF.heap.size, 0, none⟩) 2 2] (wF.alloc (.cells #[.string ⟨#[97]⟩, .string ⟨#[112]⟩] 9)) fun e w' => e = .returned (.bool true) ∧ Below (wF.alloc (.cells #[.string ⟨#[97]⟩, .string ⟨#[112]⟩] 9)).heap.size (wF.alloc (.cells #[.string ⟨#[97]⟩, .string ⟨#[112]⟩] 9)) w' :=
        (customhouseref17_Texts.calls k6 P6 p6 [⟨#[97]⟩, ⟨#[112]⟩] (some ⟨wF.heap.size, 0, none⟩) 2 [⟨#[97]⟩, ⟨#[112]⟩] true _ (Kd.C_below P6C (below_alloc (bseq (bseq g12 g13) hbF) _)) hp6 (strs_lit _ wF.heap.size [⟨#[97]⟩, ⟨#[112]⟩] (Bx.new wF 9 _) (by decide)) (Nat.le_refl _) hk6).mono (fun e w' h => ⟨h.1, h.2.below⟩)
      have hAF : Below wA.heap.size wA wF := bseq (bseq (bseq (bseq (bseq (bseq (bseq (bseq (bseq (bseq (bseq (bseq (g5) hbC) g6) g7) hbB) g8) hbD) g10) g11) hbE) g12) g13) hbF
      have so1' := so1
      have mk1' := mk1
      have mk2' := mk2
      rw [HR35.out, HR320.out] at so1' mk1'
      rw [HR35.out] at mk2'
      have hso := fun (W : World) (h : Below wF.heap.size wF W) => sound_calls [⟨#[97]⟩, ⟨#[112]⟩, ⟨#[113]⟩, ⟨#[114]⟩] [⟨0, 1, r35⟩, ⟨0, 2, r320⟩, ⟨0, 3, r320⟩] [⟨0, 1, r35⟩] P0 P1 P2 p0 p1 p2 mk1' mk2' (by decide) (by simp) (by simp) (by simp) W (Kd.C_below P0C (bseq hAF h)) hp0 (Kd.C_below P1C (bseq hAF h)) hp1 (Kd.C_below P2C (bseq hAF h)) hp2 (Ht.out.below (bseq hbwF h))
      simp only [decide_eq_true so1'] at hso
      have gF := below_alloc (Below.refl wF.heap.size wF) (.cells #[.string ⟨#[97]⟩, .string ⟨#[112]⟩] 9)
      have R3G := R3F.below gF
      have R12G := R12F.below gF
      have HTx := hid htx
      have HSo := hid hso
      clear htx hso hk6 so1' mk1' mk2'
      go_wp2_with (first
        | (go_at_call 29; refine HTx.out.mono ?_; rintro e w2 ⟨rfl, hb2⟩; have hF2 := bseq gF hb2; have R3H := R3F.below hF2; have R12H := R12F.below hF2; have c1 := R3H.cell; have c2 := R12H.cell; have l1 := R3H.lt; have l2 := R12H.lt)
        | (go_at_call 14; refine (HSo.out w2 hF2).mono ?_; rintro e w3 ⟨rfl, hb3⟩; have hF3 := bseq hbwF (bseq hF2 hb3)))
      go_ret
      exact ⟨rfl, hF3⟩
end Go.Proofs.YthbcabnljcpaiaaGreatDoor.H
