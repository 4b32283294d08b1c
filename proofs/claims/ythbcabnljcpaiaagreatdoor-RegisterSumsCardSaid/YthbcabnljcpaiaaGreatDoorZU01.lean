/- A part of the proof that the register's laws hold; no condition of its own. -/
import Derived.Test.YthbcabnljcpaiaaGreatDoorZU00
import Derived.Test.YthbcabnljcpaiaaGreatDoorZB12
import Derived.Laws.MakeOwn
import Derived.Test.YthbcabnljcpaiaaGreatDoorZB13
import Derived.Test.YthbcabnljcpaiaaGreatDoorZB18
import Derived.Test.YthbcabnljcpaiaaGreatDoorZB26
import Derived.Test.YthbcabnljcpaiaaGreatDoorZB32
set_option linter.all false
namespace Go.Proofs.YthbcabnljcpaiaaGreatDoor.H
open Go.RowKit Go.Shelf Go.Lib Go.Proofs.YthbcabnljcpaiaaGreatDoorW.PrintWords
set_option linter.unusedVariables false
theorem num_at {w : World} {A : Option Addr} {xs : List Int} (h : NC w A xs.length xs) {k : Nat} (hk : k < xs.length) : ∃ ad, A = some ad ∧ w.cell? (ad.add k) = some (.int .u64 xs[k]) := by
  have hr := Kd.reads_of_C (enc := Value.int .u64) (d := 0) (h1 := fun _ => rfl) h
  obtain ⟨ad, e, hc⟩ := hr.2.2 (by omega)
  refine ⟨ad, e, ?_⟩
  rw [hc k hk]
  simp [hk]
theorem new1 (w : World) (v : Value) (t : TypeId) : ∀ (j : Nat) (u : Value), [v][j]? = some u → (w.alloc (.cells #[v] t)).cell? ((⟨w.heap.size, 0, none⟩ : Addr).add j) = some u := fun j u hu => by
  cases j with
  | zero => obtain rfl := Option.some.inj hu; exact cell_new_o w _ _
  | succ j => simp at hu
theorem val_take_succ {xs : List Int} {k : Nat} (hk : k < xs.length) : val (xs.take (k + 1)) = val (xs.take k) + pw k * xs[k] := by
  rw [List.take_succ_eq_append_getElem hk, val_snoc, List.length_take, Nat.min_eq_left (by omega)]
theorem OKL.snoc {xs : List Int} {x : Int} (h : OKL xs) (h0 : 0 ≤ x ∧ x < 1000000000) : OKL (xs ++ [x]) := fun y hy => by
  rcases List.mem_append.1 hy with hy | hy
  · exact h y hy
  · rw [List.mem_singleton.1 hy]; exact h0
theorem add_step {zs : List Int} {k : Nat} {c x y A B : Int} (hl : zs.length = k) (hz : OKL zs) (hc : 0 ≤ c ∧ c ≤ 1) (hx : 0 ≤ x ∧ x < 1000000000) (hy : 0 ≤ y ∧ y < 1000000000) (hv : val zs + pw k * c = A + B) :
    OKL (zs ++ [(x + c + y) % 1000000000]) ∧ (0 ≤ (x + c + y) / 1000000000 ∧ (x + c + y) / 1000000000 ≤ 1) ∧ val (zs ++ [(x + c + y) % 1000000000]) + pw (k + 1) * ((x + c + y) / 1000000000) = (A + pw k * x) + (B + pw k * y) := by
  refine ⟨hz.snoc (by omega), by omega, ?_⟩
  rw [val_snoc, hl, pw_succ]
  have h1 : x + c + y = 1000000000 * ((x + c + y) / 1000000000) + (x + c + y) % 1000000000 := (Int.mul_ediv_add_emod _ _).symm
  have h2 : pw k * (x + c + y) = 1000000000 * pw k * ((x + c + y) / 1000000000) + pw k * ((x + c + y) % 1000000000) := by
    conv => lhs; rw [h1]
    rw [Int.mul_add, Int.mul_comm 1000000000 (pw k), Int.mul_assoc]
  have h3 : pw k * (x + c + y) = pw k * x + pw k * c + pw k * y := by rw [Int.mul_add, Int.mul_add]
  omega
set_option maxRecDepth 100000 in
set_option maxHeartbeats 4000000 in
theorem add_calls (xs ys : List Int) (A B : Option Addr) (ca cb : Nat) (hx : OKL xs) (hy : OKL ys) (hlx : xs.length ≤ 1000000) (hly : ys.length ≤ 1000000) (w : World) (hA : NC w A xs.length xs) (hca : xs.length ≤ ca) (hB : NC w B ys.length ys) (hcb : ys.length ≤ cb) :
    Calls Tryz.prog 142 #[.slice A xs.length ca, .slice B ys.length cb] w fun e w' => ∃ r, e = .returned r ∧ Num w' r (limbs (val xs + val ys).toNat) ∧ Below w.heap.size w w' := by
  by_cases hle : ys.length ≤ xs.length
  · have hd : decide ((xs.length : Int) < (ys.length : Int)) = false := decide_eq_false (by omega)
    go_enter Tryz.func142, Tryz.ntmps142
    obtain ⟨i0, hi, hz0, hz1, hz2⟩ := info_parts info167
    go_wp2_with (first | (at_make; refine wpList_make_own _ rfl _ _ 136 rfl w.heap.size 167 i0 (.int .u64 0) 1 Tryz.underlying136 hi hz0 hz1 .i64 .i64 _ (xs.length + 1) rfl rfl (by omega) (by rw [hz2]; omega) (by unfold maxLen; omega) (Nat.le_refl _) ?_; intro w0 hown0 hgrow0))
    have hb0 : Below w.heap.size w w0 := (Below.refl _ _).grown hgrow0 (Nat.le_refl _) (fun k e => by cases e)
    go_loopg [5, 6, 22] xs.length (fun g v5 v6 v22 wr => ∃ (k : Nat) (zs : List Int) (c : Int), v6 = .int .u64 c ∧ v22 = .int .i64 k ∧ g + k = xs.length ∧ zs.length = k ∧ OKL zs ∧ (0 ≤ c ∧ c ≤ 1) ∧ val zs + pw k * c = val (xs.take k) + val (ys.take k) ∧ wr.ownsRow w.heap.size 167 1 v5 zs.length (nums .u64 zs) ∧ Below w.heap.size w wr)
    case atStart => exact ⟨0, [], 0, rfl, rfl, by omega, rfl, OKL.nil, by omega, by simp [val], hown0, hb0⟩
    case round =>
      obtain ⟨k, zs, c, rfl, rfl, hgk, hzl, hzo, hc, hv, hown, hBw⟩ := hrel
      obtain ⟨A5, n5, c5, rfl⟩ : ∃ A n c, u5 = Value.slice A n c := by
        rcases hown.2 with ⟨h, _⟩ | ⟨g, cap, cur, h, _⟩
        · exact ⟨_, _, _, h⟩
        · exact ⟨_, _, _, h⟩
      by_cases hk : k < xs.length
      · obtain ⟨ad, rfl, ax⟩ := num_at (Kd.C_below hA hBw) hk
        have hxk := hx _ (List.getElem_mem hk)
        have hts := val_take_succ hk
        have hyy : ∃ y : Int, (0 ≤ y ∧ y < 1000000000) ∧ val (ys.take (k + 1)) = val (ys.take k) + pw k * y ∧ (∀ hk2 : k < ys.length, y = ys[k]) ∧ (¬ k < ys.length → y = 0) := by
          by_cases hk2 : k < ys.length
          · exact ⟨_, hy _ (List.getElem_mem hk2), val_take_succ hk2, fun _ => rfl, fun h => absurd hk2 h⟩
          · refine ⟨0, by omega, ?_, fun h => absurd h hk2, fun _ => rfl⟩
            rw [List.take_of_length_le (by omega), List.take_of_length_le (by omega)]; omega
        obtain ⟨y, hyb, hty, hy1, hy2⟩ := hyy
        have hst := add_step hzl hzo hc hxk hyb hv
        generalize xs[k] = x at *
        rw [← hts, ← hty] at hst
        obtain ⟨d, hd2⟩ : ∃ d, d = (x + c + y) % 1000000000 := ⟨_, rfl⟩
        have ho2 := hown.alloc (.cells #[.int .u64 d] 167)
        have w1 : IntKind.u64.wrap (x + c) = x + c := IntWalk.u64_in _ (by omega)
        have w2 : IntKind.u64.wrap (x + c + y) = x + c + y := IntWalk.u64_in _ (by omega)
        have s1 : 0 ≤ x + c + y := by omega
        have s2 : 0 ≤ x + c := by omega
        rw [← hd2] at hst
        have Hst := hid hst
        have Hd2 := hid hd2
        have hd2' := hd2.symm
        clear hts hty hst hv hd2
        by_cases hk2 : k < ys.length
        · obtain ⟨bd, rfl, bx⟩ := num_at (Kd.C_below hB hBw) hk2
          rw [← hy1 hk2] at bx
          clear hy1 hy2
          go_wp2_with (first | (at_builtin; refine wpList_append_own _ rfl _ _ 136 rfl w.heap.size 167 i0 (.int .u64 0) 1 8 Tryz.underlying136 hi hz0 hz1 hz2 rfl (by omega) _ _ _ rfl ho2 ⟨wr.heap.size, 0, none⟩ 1 1 [.int .u64 d] rfl rfl (new1 wr (.int .u64 d) 167) (by intro u hu; rw [List.mem_singleton.1 hu]; rfl) (by unfold maxLen; omega) (by omega) (by simp; have := hBw.size; omega) ?_; intro v2 w2 ho3 hg3 _))
          go_roundg (xs.length - (k + 1))
          case rel =>
            have hl2 : (zs ++ [d]).length = zs.length + 1 := by rw [List.length_append, List.length_singleton]
            refine ⟨k + 1, zs ++ [d], (x + c + y) / 1000000000, by rfl, by go_num, by omega, by rw [hl2, hzl], Hst.out.1, Hst.out.2.1, Hst.out.2.2, ?_, ?_⟩
            · rw [hl2, nums_append]
              exact ho3
            · refine (hBw.alloc (by have := hBw.size; omega) _).grown hg3 (by simp; have := hBw.size; omega) (fun k e => ?_)
              exact (ho2.lt k e).1
          case measure => omega
        · have hy0 := hy2 hk2
          subst hy0
          have e0 : x + c + 0 = x + c := Int.add_zero _
          rw [e0] at hd2' w2 s1 Hst
          clear hy1 hy2 e0
          go_wp2_with (first | (at_builtin; refine wpList_append_own _ rfl _ _ 136 rfl w.heap.size 167 i0 (.int .u64 0) 1 8 Tryz.underlying136 hi hz0 hz1 hz2 rfl (by omega) _ _ _ rfl ho2 ⟨wr.heap.size, 0, none⟩ 1 1 [.int .u64 d] rfl rfl (new1 wr (.int .u64 d) 167) (by intro u hu; rw [List.mem_singleton.1 hu]; rfl) (by unfold maxLen; omega) (by omega) (by simp; have := hBw.size; omega) ?_; intro v2 w2 ho3 hg3 _))
          go_roundg (xs.length - (k + 1))
          case rel =>
            have hl2 : (zs ++ [d]).length = zs.length + 1 := by rw [List.length_append, List.length_singleton]
            refine ⟨k + 1, zs ++ [d], (x + c) / 1000000000, by rfl, by go_num, by omega, by rw [hl2, hzl], Hst.out.1, Hst.out.2.1, Hst.out.2.2, ?_, ?_⟩
            · rw [hl2, nums_append]
              exact ho3
            · refine (hBw.alloc (by have := hBw.size; omega) _).grown hg3 (by simp; have := hBw.size; omega) (fun k e => ?_)
              exact (ho2.lt k e).1
          case measure => omega
      · have hkl : k = xs.length := by omega
        have ht1 : xs.take k = xs := List.take_of_length_le (by omega)
        have ht2 : ys.take k = ys := List.take_of_length_le (by omega)
        rw [ht1, ht2] at hv
        have hvs : val (zs ++ [c]) = val xs + val ys := by rw [val_snoc, hzl]; exact hv
        have htr : trimL (zs ++ [c]) = limbs (val xs + val ys).toNat := by rw [trimL_limbs (hzo.snoc (by omega)), hvs]
        have ho2 := hown.alloc (.cells #[.int .u64 c] 167)
        have Htr := hid htr
        clear ht1 ht2 hvs htr hv
        subst hkl
        go_wp2_with (first | (at_builtin; refine wpList_append_own _ rfl _ _ 136 rfl w.heap.size 167 i0 (.int .u64 0) 1 8 Tryz.underlying136 hi hz0 hz1 hz2 rfl (by omega) _ _ _ rfl ho2 ⟨wr.heap.size, 0, none⟩ 1 1 [.int .u64 c] rfl rfl (new1 wr (.int .u64 c) 167) (by intro u hu; rw [List.mem_singleton.1 hu]; rfl) (by unfold maxLen; omega) (by omega) (by simp; have := hBw.size; omega) ?_; intro v2 w2 ho3 hg3 _) | (go_at_call 179; refine (trim_calls (zs ++ [c]) _ _ (Num.of_own (by have hl2 : (zs ++ [c]).length = zs.length + 1 := (by rw [List.length_append, List.length_singleton]); rw [hl2, nums_append]; exact ho3))).mono ?_; rintro e w3 ⟨u, rfl, hu, hb3⟩))
        go_ret
        refine ⟨_, rfl, ?_, ((hBw.alloc (by have := hBw.size; omega) _).grown hg3 (by simp; have := hBw.size; omega) (fun k e => (ho2.lt k e).1)).trans (hb3.mono (((hBw.alloc (by have := hBw.size; omega) _).grown hg3 (by simp; have := hBw.size; omega) (fun k e => (ho2.lt k e).1)).size))⟩
        rw [Htr.out] at hu
        exact hu
  · have hd : decide ((xs.length : Int) < (ys.length : Int)) = true := decide_eq_true (by omega)
    go_enter Tryz.func142, Tryz.ntmps142
    obtain ⟨i0, hi, hz0, hz1, hz2⟩ := info_parts info167
    go_wp2_with (first | (at_make; refine wpList_make_own _ rfl _ _ 136 rfl w.heap.size 167 i0 (.int .u64 0) 1 Tryz.underlying136 hi hz0 hz1 .i64 .i64 _ (ys.length + 1) rfl rfl (by omega) (by rw [hz2]; omega) (by unfold maxLen; omega) (Nat.le_refl _) ?_; intro w0 hown0 hgrow0))
    have hb0 : Below w.heap.size w w0 := (Below.refl _ _).grown hgrow0 (Nat.le_refl _) (fun k e => by cases e)
    go_loopg [5, 6, 22] ys.length (fun g v5 v6 v22 wr => ∃ (k : Nat) (zs : List Int) (c : Int), v6 = .int .u64 c ∧ v22 = .int .i64 k ∧ g + k = ys.length ∧ zs.length = k ∧ OKL zs ∧ (0 ≤ c ∧ c ≤ 1) ∧ val zs + pw k * c = val (ys.take k) + val (xs.take k) ∧ wr.ownsRow w.heap.size 167 1 v5 zs.length (nums .u64 zs) ∧ Below w.heap.size w wr)
    case atStart => exact ⟨0, [], 0, rfl, rfl, by omega, rfl, OKL.nil, by omega, by simp [val], hown0, hb0⟩
    case round =>
      obtain ⟨k, zs, c, rfl, rfl, hgk, hzl, hzo, hc, hv, hown, hBw⟩ := hrel
      obtain ⟨A5, n5, c5, rfl⟩ : ∃ A n c, u5 = Value.slice A n c := by
        rcases hown.2 with ⟨h, _⟩ | ⟨g, cap, cur, h, _⟩
        · exact ⟨_, _, _, h⟩
        · exact ⟨_, _, _, h⟩
      by_cases hk : k < ys.length
      · obtain ⟨ad, rfl, ax⟩ := num_at (Kd.C_below hB hBw) hk
        have hxk := hy _ (List.getElem_mem hk)
        have hts := val_take_succ hk
        have hyy : ∃ y : Int, (0 ≤ y ∧ y < 1000000000) ∧ val (xs.take (k + 1)) = val (xs.take k) + pw k * y ∧ (∀ hk2 : k < xs.length, y = xs[k]) ∧ (¬ k < xs.length → y = 0) := by
          by_cases hk2 : k < xs.length
          · exact ⟨_, hx _ (List.getElem_mem hk2), val_take_succ hk2, fun _ => rfl, fun h => absurd hk2 h⟩
          · refine ⟨0, by omega, ?_, fun h => absurd h hk2, fun _ => rfl⟩
            rw [List.take_of_length_le (by omega), List.take_of_length_le (by omega)]; omega
        obtain ⟨y, hyb, hty, hy1, hy2⟩ := hyy
        have hst := add_step hzl hzo hc hxk hyb hv
        generalize ys[k] = x at *
        rw [← hts, ← hty] at hst
        obtain ⟨d, hd2⟩ : ∃ d, d = (x + c + y) % 1000000000 := ⟨_, rfl⟩
        have ho2 := hown.alloc (.cells #[.int .u64 d] 167)
        have w1 : IntKind.u64.wrap (x + c) = x + c := IntWalk.u64_in _ (by omega)
        have w2 : IntKind.u64.wrap (x + c + y) = x + c + y := IntWalk.u64_in _ (by omega)
        have s1 : 0 ≤ x + c + y := by omega
        have s2 : 0 ≤ x + c := by omega
        rw [← hd2] at hst
        have Hst := hid hst
        have Hd2 := hid hd2
        have hd2' := hd2.symm
        clear hts hty hst hv hd2
        by_cases hk2 : k < xs.length
        · obtain ⟨bd, rfl, bx⟩ := num_at (Kd.C_below hA hBw) hk2
          rw [← hy1 hk2] at bx
          clear hy1 hy2
          go_wp2_with (first | (at_builtin; refine wpList_append_own _ rfl _ _ 136 rfl w.heap.size 167 i0 (.int .u64 0) 1 8 Tryz.underlying136 hi hz0 hz1 hz2 rfl (by omega) _ _ _ rfl ho2 ⟨wr.heap.size, 0, none⟩ 1 1 [.int .u64 d] rfl rfl (new1 wr (.int .u64 d) 167) (by intro u hu; rw [List.mem_singleton.1 hu]; rfl) (by unfold maxLen; omega) (by omega) (by simp; have := hBw.size; omega) ?_; intro v2 w2 ho3 hg3 _))
          go_roundg (ys.length - (k + 1))
          case rel =>
            have hl2 : (zs ++ [d]).length = zs.length + 1 := by rw [List.length_append, List.length_singleton]
            refine ⟨k + 1, zs ++ [d], (x + c + y) / 1000000000, by rfl, by go_num, by omega, by rw [hl2, hzl], Hst.out.1, Hst.out.2.1, Hst.out.2.2, ?_, ?_⟩
            · rw [hl2, nums_append]
              exact ho3
            · refine (hBw.alloc (by have := hBw.size; omega) _).grown hg3 (by simp; have := hBw.size; omega) (fun k e => ?_)
              exact (ho2.lt k e).1
          case measure => omega
        · have hy0 := hy2 hk2
          subst hy0
          have e0 : x + c + 0 = x + c := Int.add_zero _
          rw [e0] at hd2' w2 s1 Hst
          clear hy1 hy2 e0
          go_wp2_with (first | (at_builtin; refine wpList_append_own _ rfl _ _ 136 rfl w.heap.size 167 i0 (.int .u64 0) 1 8 Tryz.underlying136 hi hz0 hz1 hz2 rfl (by omega) _ _ _ rfl ho2 ⟨wr.heap.size, 0, none⟩ 1 1 [.int .u64 d] rfl rfl (new1 wr (.int .u64 d) 167) (by intro u hu; rw [List.mem_singleton.1 hu]; rfl) (by unfold maxLen; omega) (by omega) (by simp; have := hBw.size; omega) ?_; intro v2 w2 ho3 hg3 _))
          go_roundg (ys.length - (k + 1))
          case rel =>
            have hl2 : (zs ++ [d]).length = zs.length + 1 := by rw [List.length_append, List.length_singleton]
            refine ⟨k + 1, zs ++ [d], (x + c) / 1000000000, by rfl, by go_num, by omega, by rw [hl2, hzl], Hst.out.1, Hst.out.2.1, Hst.out.2.2, ?_, ?_⟩
            · rw [hl2, nums_append]
              exact ho3
            · refine (hBw.alloc (by have := hBw.size; omega) _).grown hg3 (by simp; have := hBw.size; omega) (fun k e => ?_)
              exact (ho2.lt k e).1
          case measure => omega
      · have hkl : k = ys.length := by omega
        have ht1 : ys.take k = ys := List.take_of_length_le (by omega)
        have ht2 : xs.take k = xs := List.take_of_length_le (by omega)
        rw [ht1, ht2] at hv
        have hvs : val (zs ++ [c]) = val ys + val xs := by rw [val_snoc, hzl]; exact hv
        have htr : trimL (zs ++ [c]) = limbs (val ys + val xs).toNat := by rw [trimL_limbs (hzo.snoc (by omega)), hvs]
        have ho2 := hown.alloc (.cells #[.int .u64 c] 167)
        have Htr := hid htr
        clear ht1 ht2 hvs htr hv
        subst hkl
        go_wp2_with (first | (at_builtin; refine wpList_append_own _ rfl _ _ 136 rfl w.heap.size 167 i0 (.int .u64 0) 1 8 Tryz.underlying136 hi hz0 hz1 hz2 rfl (by omega) _ _ _ rfl ho2 ⟨wr.heap.size, 0, none⟩ 1 1 [.int .u64 c] rfl rfl (new1 wr (.int .u64 c) 167) (by intro u hu; rw [List.mem_singleton.1 hu]; rfl) (by unfold maxLen; omega) (by omega) (by simp; have := hBw.size; omega) ?_; intro v2 w2 ho3 hg3 _) | (go_at_call 179; refine (trim_calls (zs ++ [c]) _ _ (Num.of_own (by have hl2 : (zs ++ [c]).length = zs.length + 1 := (by rw [List.length_append, List.length_singleton]); rw [hl2, nums_append]; exact ho3))).mono ?_; rintro e w3 ⟨u, rfl, hu, hb3⟩))
        go_ret
        refine ⟨_, rfl, ?_, ((hBw.alloc (by have := hBw.size; omega) _).grown hg3 (by simp; have := hBw.size; omega) (fun k e => (ho2.lt k e).1)).trans (hb3.mono (((hBw.alloc (by have := hBw.size; omega) _).grown hg3 (by simp; have := hBw.size; omega) (fun k e => (ho2.lt k e).1)).size))⟩
        rw [Htr.out] at hu
        rw [show val xs + val ys = val ys + val xs from Int.add_comm _ _]; exact hu
end Go.Proofs.YthbcabnljcpaiaaGreatDoor.H
namespace Go.Proofs.YthbcabnljcpaiaaGreatDoor.H
open Go.RowKit Go.Shelf Go.Lib Go.Proofs.YthbcabnljcpaiaaGreatDoorW.PrintWords
set_option linter.unusedVariables false
set_option maxRecDepth 100000 in
set_option maxHeartbeats 4000000 in
theorem apply_mul (l m : List UInt8) (w : World) (ht : Tab w) (hl : isNat l) (hm : isNat m) (hlg : (limbs (dv l * dv m)).length ≤ 1000000) :
    Calls Tryz.prog 125 #[.string (bs l), .string (bs m), .func (.func 178) #[] #[]] w fun e w' => e = .returned (textV (dv l * dv m)) ∧ Below w.heap.size w w' := by
  have hg : ∀ (v u : Value) (W : World), Num W v (limbs (dv l)) → Num W u (limbs (dv m)) → Calls Tryz.prog 178 #[v, u] W fun e w' => ∃ r, e = .returned r ∧ Num w' r (limbs (dv l * dv m)) ∧ Below W.heap.size W w' := mul_calls (dv l) (dv m) (by have := limbs_len_digs hl.1.1 hl.2; have := limbs_len_digs hm.1.1 hm.2; omega)
  have ha := is_calls l (by have := hl.2; omega)
  have hb := is_calls m (by have := hm.2; omega)
  rw [decide_eq_true hl] at ha
  rw [decide_eq_true hm] at hb
  have hpa := parse_calls (bs l) hl.1.1 (by have := hl.2; simp [ByteArray.size]; omega)
  have hpb := parse_calls (bs m) hm.1.1 (by have := hm.2; simp [ByteArray.size]; omega)
  have htx := text_calls (dv l * dv m) hlg
  simp only at hpa hpb
  have Ha := hid ha
  have Hb := hid hb
  have Hpa := hid hpa
  have Hpb := hid hpb
  have Hg := hid hg
  have Htx := hid htx
  generalize hga : dv l * dv m = g at *
  clear hga
  generalize dv l = a at *
  generalize dv m = b at *
  obtain ⟨r, hr⟩ : ∃ r, textV g = .tuple #[(r : Value × Value).1, r.2] := by
    unfold textV
    split
    · exact ⟨(_, _), rfl⟩
    · exact ⟨(_, _), rfl⟩
  obtain ⟨r1, r2⟩ := r
  rw [hr] at Htx ⊢
  clear ha hb hl hm hlg hpa hpb hg htx hr
  go_enter Tryz.func125, Tryz.ntmps125
  go_wp2_with (first | (go_at_call 97; with_reducible refine (Ha.out _).mono ?_; rintro e w1 ⟨rfl, hb1⟩) | (go_at_call 97; with_reducible refine (Hb.out _).mono ?_; rintro e w2 ⟨rfl, hb2⟩) | (go_at_call 143; with_reducible refine (Hpa.out _).mono ?_; rintro e w3 ⟨v3, rfl, hn3, hb3⟩) | (go_at_call 143; with_reducible refine (Hpb.out _).mono ?_; rintro e w4 ⟨v4, rfl, hn4, hb4⟩))
  refine (Hg.out v3 v4 w4 (hn3.below hb4) hn4).mono ?_
  rintro e w5 ⟨r, rfl, hr5, hb5⟩
  have hb15 : Below w.heap.size w w5 := bseq (bseq (bseq (bseq hb1 hb2) hb3) hb4) hb5
  go_wp2_with (go_at_call 149; refine (Htx.out _ _ (ht.below hb15) hr5).mono ?_; rintro e w6 ⟨rfl, hb6⟩)
  go_ret2
  exact ⟨rfl, bseq hb15 hb6⟩
set_option maxRecDepth 100000 in
set_option maxHeartbeats 4000000 in
theorem apply_add (l m : List UInt8) (w : World) (ht : Tab w) (hl : isNat l) (hm : isNat m) (hlg : (limbs (dv l + dv m)).length ≤ 1000000) :
    Calls Tryz.prog 125 #[.string (bs l), .string (bs m), .func (.func 142) #[] #[]] w fun e w' => e = .returned (textV (dv l + dv m)) ∧ Below w.heap.size w w' := by
  have hg : ∀ (v u : Value) (W : World), Num W v (limbs (dv l)) → Num W u (limbs (dv m)) → Calls Tryz.prog 142 #[v, u] W fun e w' => ∃ r, e = .returned r ∧ Num w' r (limbs (dv l + dv m)) ∧ Below W.heap.size W w' := fun v u W h h' => by
    obtain ⟨A, c, rfl, hc, hC⟩ := h
    obtain ⟨B, d, rfl, hd, hD⟩ := h'
    have := add_calls (limbs (dv l)) (limbs (dv m)) A B c d (limbs_OKL _) (limbs_OKL _) (limbs_len_digs hl.1.1 hl.2) (limbs_len_digs hm.1.1 hm.2) W hC hc hD hd
    rw [limbs_val, limbs_val] at this
    exact this
  have ha := is_calls l (by have := hl.2; omega)
  have hb := is_calls m (by have := hm.2; omega)
  rw [decide_eq_true hl] at ha
  rw [decide_eq_true hm] at hb
  have hpa := parse_calls (bs l) hl.1.1 (by have := hl.2; simp [ByteArray.size]; omega)
  have hpb := parse_calls (bs m) hm.1.1 (by have := hm.2; simp [ByteArray.size]; omega)
  have htx := text_calls (dv l + dv m) hlg
  simp only at hpa hpb
  have Ha := hid ha
  have Hb := hid hb
  have Hpa := hid hpa
  have Hpb := hid hpb
  have Hg := hid hg
  have Htx := hid htx
  generalize hga : dv l + dv m = g at *
  clear hga
  generalize dv l = a at *
  generalize dv m = b at *
  obtain ⟨r, hr⟩ : ∃ r, textV g = .tuple #[(r : Value × Value).1, r.2] := by
    unfold textV
    split
    · exact ⟨(_, _), rfl⟩
    · exact ⟨(_, _), rfl⟩
  obtain ⟨r1, r2⟩ := r
  rw [hr] at Htx ⊢
  clear ha hb hl hm hlg hpa hpb hg htx hr
  go_enter Tryz.func125, Tryz.ntmps125
  go_wp2_with (first | (go_at_call 97; with_reducible refine (Ha.out _).mono ?_; rintro e w1 ⟨rfl, hb1⟩) | (go_at_call 97; with_reducible refine (Hb.out _).mono ?_; rintro e w2 ⟨rfl, hb2⟩) | (go_at_call 143; with_reducible refine (Hpa.out _).mono ?_; rintro e w3 ⟨v3, rfl, hn3, hb3⟩) | (go_at_call 143; with_reducible refine (Hpb.out _).mono ?_; rintro e w4 ⟨v4, rfl, hn4, hb4⟩))
  refine (Hg.out v3 v4 w4 (hn3.below hb4) hn4).mono ?_
  rintro e w5 ⟨r, rfl, hr5, hb5⟩
  have hb15 : Below w.heap.size w w5 := bseq (bseq (bseq (bseq hb1 hb2) hb3) hb4) hb5
  go_wp2_with (go_at_call 149; refine (Htx.out _ _ (ht.below hb15) hr5).mono ?_; rintro e w6 ⟨rfl, hb6⟩)
  go_ret2
  exact ⟨rfl, bseq hb15 hb6⟩
set_option maxRecDepth 100000 in
set_option maxHeartbeats 4000000 in
theorem addT_calls (a b : Nat) (ha : S3 a) (hb : S3 b) (hs : S3 (a + b)) (w : World) (ht : Tab w) :
    Calls Tryz.prog 112 #[.string (dg a), .string (dg b)] w fun e w' => e = .returned (.tuple #[.string (dg (a + b)), .int .i64 0]) ∧ Below w.heap.size w w' := by
  have h := apply_add (decDigits a) (decDigits b) w ht ha.isNat hb.isNat (by rw [decDigits_dv, decDigits_dv]; exact hs.limbs)
  rw [decDigits_dv, decDigits_dv, hs.textV] at h
  have H := hid h
  clear h
  go_enter Tryz.func112, Tryz.ntmps112
  go_wp2_with (go_at_call 125; (with_reducible refine H.out.mono ?_); rintro e w1 ⟨rfl, hb1⟩)
  go_ret2
  exact ⟨rfl, hb1⟩
set_option maxRecDepth 100000 in
set_option maxHeartbeats 4000000 in
theorem mulT_calls (a b : Nat) (ha : S3 a) (hb : S3 b) (hs : S3 (a * b)) (w : World) (ht : Tab w) :
    Calls Tryz.prog 141 #[.string (dg a), .string (dg b)] w fun e w' => e = .returned (.tuple #[.string (dg (a * b)), .int .i64 0]) ∧ Below w.heap.size w w' := by
  have h := apply_mul (decDigits a) (decDigits b) w ht ha.isNat hb.isNat (by rw [decDigits_dv, decDigits_dv]; exact hs.limbs)
  rw [decDigits_dv, decDigits_dv, hs.textV] at h
  have H := hid h
  clear h
  go_enter Tryz.func141, Tryz.ntmps141
  go_wp2_with (go_at_call 125; (with_reducible refine H.out.mono ?_); rintro e w1 ⟨rfl, hb1⟩)
  go_ret2
  exact ⟨rfl, hb1⟩
end Go.Proofs.YthbcabnljcpaiaaGreatDoor.H
namespace Go.Proofs.YthbcabnljcpaiaaGreatDoor.H
open Go.RowKit Go.Shelf Go.Lib Go.Proofs.YthbcabnljcpaiaaGreatDoorW.PrintWords Go.Proofs.YthbcabnljcpaiaaGreatDoorW.PrintLast Go.Proofs.YthbcabnljcpaiaaGreatDoorW.PrintMore
set_option linter.unusedVariables false
theorem SV_one (W : World) (s : ByteArray) : SV (W.alloc (.cells #[.string s] 9)) (.slice (some ⟨W.heap.size, 0, none⟩) 1 1) [s] :=
  SV.of_own (xs := [s]) (own_lit_of (enc := Value.string) W W.heap.size 9 [s] (Nat.le_refl _) (by simp))
def Pairs (w : World) (b : Nat) (ps : List (Nat × Nat)) : Prop := ∀ (j : Nat) (p : Nat × Nat), ps[j]? = some p → w.cell? ⟨b, j * 2, none⟩ = some (.string (dg p.1)) ∧ w.cell? ⟨b, j * 2 + 1, none⟩ = some (.string (dg p.2))
theorem Pairs.below {w w' : World} {b : Nat} {ps : List (Nat × Nat)} (h : Pairs w b ps) (hb : Below w.heap.size w w') : Pairs w' b ps := fun j p hj => ⟨cellB hb (h j p hj).1, cellB hb (h j p hj).2⟩
def prods (ps : List (Nat × Nat)) : List ByteArray := ps.map fun p => dg (p.1 * p.2)
theorem prods_snoc {ps : List (Nat × Nat)} {k : Nat} (hk : k < ps.length) : prods (ps.take (k + 1)) = prods (ps.take k) ++ [dg (ps[k].1 * ps[k].2)] := by
  unfold prods
  rw [List.take_succ_eq_append_getElem hk, List.map_append]
  rfl
set_option maxRecDepth 100000 in
set_option maxHeartbeats 8000000 in
theorem products_calls (ps : List (Nat × Nat)) (b : Nat) (hn : ps.length ≤ 1000) (hS : ∀ p ∈ ps, S3 p.1 ∧ S3 p.2 ∧ S3 (p.1 * p.2)) (w : World) (hP : Pairs w b ps) (ht : Tab w) :
    Calls Tryz.prog 111 #[.slice (some ⟨b, 0, none⟩) ps.length ps.length] w fun e w' => ∃ v, e = .returned v ∧ SV w' v (prods ps) ∧ Below w.heap.size w w' := by
  have HP := hid hP
  have Ht := hid ht
  clear hP ht
  go_enter Tryz.func111, Tryz.ntmps111
  go_wp2
  go_loopg [3, 10] ps.length (fun g v3 v10 wr => ∃ k : Nat, v10 = .int .i64 k ∧ g + k = ps.length ∧ wr.ownsRow w.heap.size 9 1 v3 (prods (ps.take k)).length ((prods (ps.take k)).map Value.string) ∧ Below w.heap.size w wr)
  case atStart => exact ⟨0, rfl, by omega, by simpa [prods] using World.ownsRow_nil _ _ _ _, Below.refl _ _⟩
  case round =>
    obtain ⟨k, rfl, hgk, hown, hBw⟩ := hrel
    obtain ⟨A3, n3, c3, rfl⟩ : ∃ A n c, u3 = Value.slice A n c := by
      rcases hown.2 with ⟨h, _⟩ | ⟨g, cap, cur, h, _⟩
      · exact ⟨_, _, _, h⟩
      · exact ⟨_, _, _, h⟩
    by_cases hk : k < ps.length
    · obtain ⟨a0, a1⟩ := (HP.out.below hBw) k ps[k] (List.getElem?_eq_getElem hk)
      obtain ⟨s1, s2, s3⟩ := hS ps[k] (List.getElem_mem hk)
      have hsn := prods_snoc hk
      generalize ps[k] = p at *
      obtain ⟨x, y⟩ := p
      have g1 := below_alloc (Below.refl wr.heap.size wr) (.cells #[.string (dg x), .string (dg y)] 127)
      have R1 := Bx.new wr 127 #[.string (dg x), .string (dg y)]
      have hm := mulT_calls x y s1 s2 s3 (wr.alloc (.cells #[.string (dg x), .string (dg y)] 127)) (Ht.out.below (bseq hBw g1))
      simp only at a0 a1 hsn
      generalize dg (x * y) = z at *
      generalize dg x = dx at *
      generalize dg y = dy at *
      have Hm := hid hm
      have Hsn := hid hsn
      have hpl : (prods (ps.take k)).length ≤ 1000 := by unfold prods; simp; omega
      clear hm hsn s1 s2 s3
      go_wp2_with (first | (go_at_call 141; (with_reducible refine Hm.out.mono ?_); rintro e w2 ⟨rfl, hb2⟩; have hw2 := bseq g1 hb2; have ho2 := (pw_own_below hown hw2).alloc (.cells #[.string z] 9); have hap := appS_run (ty := 22) _ _ [z] _ ho2 (SV_one w2 z) (by simp; have := hBw.size; have := hw2.size; omega) (by simp; omega); obtain ⟨v5, w5, e5, ho5, hg5⟩ := hap; have E5 := hid e5; clear e5) | (at_builtin; refine wpList_append_eq rfl _ _ 22 rfl _ _ _ _ rfl rfl E5.out ?_))
      go_roundg (ps.length - (k + 1))
      case rel =>
        refine ⟨k + 1, by go_num, by omega, by rw [Hsn.out]; exact ho5, ?_⟩
        refine ((bseq hBw hw2).alloc (by have := hBw.size; have := hw2.size; omega) _).grown hg5 (by simp; have := hBw.size; have := hw2.size; omega) (fun k e => (ho2.lt k e).1)
      case measure => omega
    · have hkl : ps.take k = ps := List.take_of_length_le (by omega)
      rw [hkl] at hown
      clear hkl
      go_wp2_with (fail)
      go_ret
      exact ⟨_, rfl, SV.of_own hown, hBw⟩
end Go.Proofs.YthbcabnljcpaiaaGreatDoor.H
namespace Go.Proofs.YthbcabnljcpaiaaGreatDoor.H
open Go.RowKit Go.Shelf Go.Lib Go.Proofs.YthbcabnljcpaiaaGreatDoorW.PrintWords Go.Proofs.YthbcabnljcpaiaaGreatDoorW.PrintLast Go.Proofs.YthbcabnljcpaiaaGreatDoorW.PrintMore
set_option linter.unusedVariables false
abbrev ratN (n m : Nat) : Value := rat false (dg (n / Nat.gcd n m)) (dg (m / Nat.gcd n m))
theorem sv_at {w : World} {A : Option Addr} {xs : List ByteArray} (h : Kd.C Kd.string w A xs.length xs) {i : Nat} {s : ByteArray} (hi : xs[i]? = some s) : ∃ ad, A = some ad ∧ i < xs.length ∧ w.cell? (ad.add i) = some (.string s) := by
  have hr := Kd.reads_of_C (enc := Value.string) (d := ByteArray.empty) (h1 := fun _ => rfl) h
  have hl : i < xs.length := by
    rcases Nat.lt_or_ge i xs.length with h | h
    · exact h
    · rw [List.getElem?_eq_none h] at hi; cases hi
  obtain ⟨ad, e, hc⟩ := hr.2.2 (by omega)
  refine ⟨ad, e, hl, ?_⟩
  rw [hc i hl]
  simp [hi]
theorem pairs3 {w : World} {b t : Nat} {a1 b1 a2 b2 a3 b3 : Nat} (h : Bx w b t #[.string (dg a1), .string (dg b1), .string (dg a2), .string (dg b2), .string (dg a3), .string (dg b3)]) : Pairs w b [(a1, b1), (a2, b2), (a3, b3)] := fun j p hj => by
  rcases j with _ | _ | _ | j
  · simp at hj; subst hj; exact ⟨h.cell 0, h.cell 1⟩
  · simp at hj; subst hj; exact ⟨h.cell 2, h.cell 3⟩
  · simp at hj; subst hj; exact ⟨h.cell 4, h.cell 5⟩
  · simp at hj
theorem bx_after {w w' : World} {b t n : Nat} {cs : Array Value} (h : Bx w b t cs) (hb : Below (w.drewN n).heap.size (w.drewN n) w') : Bx w' b t cs := Bx.below (w := w.drewN n) (by unfold Bx; rw [World.heap_drewN]; exact h) hb
set_option maxRecDepth 100000 in
set_option maxHeartbeats 8000000 in
theorem sum_calls (a b c d : Nat) (ha : S3 a) (hb : S3 b) (hc : S3 c) (hd : S3 d) (had : S3 (a * d)) (hcb : S3 (c * b)) (hbd : S3 (b * d)) (hs : S3 (a * d + c * b)) (hp : 0 < b * d) (w : World) (ht : Tab w) :
    Calls Tryz.prog 84 #[rat false (dg a) (dg b), rat false (dg c) (dg d)] w fun e w' => e = .returned (.tuple #[ratN (a * d + c * b) (b * d), .int .i64 0]) ∧ Below w.heap.size w w' := by
  unfold ratN
  have h1 := fun W bl (hP : Pairs W bl [(a, d), (c, b), (b, d)]) (hT : Tab W) => products_calls [(a, d), (c, b), (b, d)] bl (by simp) (fun p hp => by
    rcases List.mem_cons.1 hp with rfl | hp
    · exact ⟨ha, hd, had⟩
    rcases List.mem_cons.1 hp with rfl | hp
    · exact ⟨hc, hb, hcb⟩
    rw [List.mem_singleton.1 hp]
    exact ⟨hb, hd, hbd⟩) W hP hT
  have h2 := fun W (hT : Tab W) => addT_calls (a * d) (c * b) had hcb hs W hT
  have h3 := fun W (hT : Tab W) => lowest_calls false (a * d + c * b) (b * d) hs hbd hp W hT
  simp only [Bool.false_and] at h3
  have hpr : prods [(a, d), (c, b), (b, d)] = [dg (a * d), dg (c * b), dg (b * d)] := rfl
  have hpp := fun W bl t (hB : Bx W bl t #[.string (dg a), .string (dg d), .string (dg c), .string (dg b), .string (dg b), .string (dg d)]) => pairs3 hB
  simp only [hpr, List.length_cons, List.length_nil] at h1
  generalize dg ((a * d + c * b) / Nat.gcd (a * d + c * b) (b * d)) = rn at *
  generalize dg (b * d / Nat.gcd (a * d + c * b) (b * d)) = rd at *
  generalize dg (a * d + c * b) = sm at *
  generalize dg (a * d) = p1 at *
  generalize dg (c * b) = p2 at *
  generalize dg (b * d) = p3 at *
  have H1 := hid h1
  have H2 := hid h2
  have H3 := hid h3
  have HPP := hid hpp
  clear h1 h2 h3 hpr hpp ha hb hc hd had hcb hbd hs hp
  go_enter Tryz.func84, Tryz.ntmps84
  go_wp2_with (fail)
  have q1 := Bx.new w 40 #[.bool false, .string (dg a), .string (dg b)]
  have g1 := below_alloc (Below.refl w.heap.size w) (.cells #[.bool false, .string (dg a), .string (dg b)] 40)
  generalize hX1 : w.alloc (.cells #[.bool false, .string (dg a), .string (dg b)] 40) = X1 at *
  have z1 : X1.heap.size = w.heap.size + 1 := by rw [← hX1, World.size_alloc]
  have q2 := Bx.new X1 40 #[.bool false, .string (dg c), .string (dg d)]
  have g2 := below_alloc (Below.refl X1.heap.size X1) (.cells #[.bool false, .string (dg c), .string (dg d)] 40)
  generalize hX2 : X1.alloc (.cells #[.bool false, .string (dg c), .string (dg d)] 40) = X2 at *
  have z2 : X2.heap.size = w.heap.size + 1 + 1 := by rw [← hX2, World.size_alloc, z1]
  have q3 := Bx.new X2 40 #[.bool false, .string ⟨#[]⟩, .string ⟨#[]⟩]
  have g3 := below_alloc (Below.refl X2.heap.size X2) (.cells #[.bool false, .string ⟨#[]⟩, .string ⟨#[]⟩] 40)
  generalize hX3 : X2.alloc (.cells #[.bool false, .string ⟨#[]⟩, .string ⟨#[]⟩] 40) = X3 at *
  have z3 : X3.heap.size = w.heap.size + 1 + 1 + 1 := by rw [← hX3, World.size_alloc, z2]
  have q4 := Bx.new X3 127 #[.string (dg a), .string (dg d), .string (dg c), .string (dg b), .string (dg b), .string (dg d)]
  have g4 := below_alloc (Below.refl X3.heap.size X3) (.cells #[.string (dg a), .string (dg d), .string (dg c), .string (dg b), .string (dg b), .string (dg d)] 127)
  generalize X3.alloc (.cells #[.string (dg a), .string (dg d), .string (dg c), .string (dg b), .string (dg b), .string (dg d)] 127) = X4 at *
  rw [z3] at q4
  rw [z2] at q3
  rw [z1] at q2
  have G4 := bseq (bseq (bseq g1 g2) g3) g4
  have r1 := ((q1.below g2).below g3).below g4
  have r2 := (q2.below g3).below g4
  have r3 := q3.below g4
  clear hX1 hX2 hX3 z1 z2 z3 g1 g2 g3 g4 q1 q2 q3
  (with_reducible refine (H1.out X4 _ (HPP.out X4 _ 127 q4) (ht.below G4)).mono ?_)
  rintro e w5 ⟨v5, rfl, hsv, hb5⟩
  obtain ⟨A5, c5, rfl, hc5, hC5⟩ := hsv
  have G5 := bseq G4 hb5
  have r1 := r1.below hb5
  have r2 := r2.below hb5
  have r3 := r3.below hb5
  obtain ⟨ad, rfl, _, e0⟩ := sv_at hC5 (i := 0) rfl
  obtain ⟨ad', h0, _, e1⟩ := sv_at hC5 (i := 1) rfl
  injection h0 with h0
  subst h0
  obtain ⟨ad', h0, _, e2⟩ := sv_at hC5 (i := 2) rfl
  injection h0 with h0
  subst h0
  have e0s : w5.cell? ad = some (.string p1) := by have := e0; simpa [Addr.add] using this
  have e1s : w5.cell? ⟨ad.block, ad.off + 1, none⟩ = some (.string p2) := by have := e1; simpa [Addr.add] using this
  have e2s : w5.cell? ⟨ad.block, ad.off + 2, none⟩ = some (.string p3) := by have := e2; simpa [Addr.add] using this
  have k1 := r1.cell
  have k2 := r2.cell
  clear q4 hC5
  go_wp2_with (fail)
  go_quiet (fail)
  go_wp2_with (first | (go_at_call 112; (with_reducible refine (H2.out _ (ht.below (below_drewN G5 _))).mono ?_); rintro e w6 ⟨rfl, hb6⟩; have G6 := bseq (below_drewN G5 _) hb6; have s1 := bx_after r1 hb6; have s3 := bx_after r3 hb6; have m1 := s1.cell) | (go_at_call 89; (with_reducible refine (H3.out _ (ht.below G6)).mono ?_); rintro e w7 ⟨rfl, hb7⟩; have G7 := bseq G6 hb7; have u3 := s3.below hb7; have m3 := u3.cell; have f3 := u3.fz; have l3 := u3.lt))
  have rf := (((Row3.mk u3).set0 (.bool false)).set1 (.string rn)).set2 (.string rd)
  refine bodyPost_ret (results_ct rfl _ _ (w.heap.size + 1 + 1) 40 _ (0, 0) _ rfl rf.at_ Tryz.underlying40 rfl (by kernel_rfl)) rfl ⟨rfl, ?_⟩
  exact ((G7.setCell (p := ⟨w.heap.size + 1 + 1, 0, none⟩) (by simp; omega) _).setCell (p := ⟨w.heap.size + 1 + 1, 1, none⟩) (by simp; omega) _).setCell (p := ⟨w.heap.size + 1 + 1, 2, none⟩) (by simp; omega) _
end Go.Proofs.YthbcabnljcpaiaaGreatDoor.H
namespace Go.Proofs.YthbcabnljcpaiaaGreatDoor.H
open Go.RowKit Go.Shelf Go.Lib Go.Proofs.YthbcabnljcpaiaaGreatDoorW.PrintWords Go.Proofs.YthbcabnljcpaiaaGreatDoorW.PrintLast Go.Proofs.YthbcabnljcpaiaaGreatDoorW.PrintMore
set_option linter.unusedVariables false
theorem dg_size (a : Nat) : (dg a).size = (decDigits a).length := by simp [ByteArray.size]
set_option maxRecDepth 100000 in
set_option maxHeartbeats 8000000 in
theorem run_calls (sa sb sc sd rn rd : ByteArray) (h1 : ∀ W, Tab W → Calls Tryz.prog 69 #[rat false sa sb] W fun e w' => e = .returned (.bool true) ∧ Below W.heap.size W w') (h2 : ∀ W, Tab W → Calls Tryz.prog 69 #[rat false sc sd] W fun e w' => e = .returned (.bool true) ∧ Below W.heap.size W w')
    (h3 : ∀ W, Tab W → Calls Tryz.prog 84 #[rat false sa sb, rat false sc sd] W fun e w' => e = .returned (.tuple #[rat false rn rd, .int .i64 0]) ∧ Below W.heap.size W w')
    (la : sa.size ≤ 140) (lb : sb.size ≤ 140) (lc : sc.size ≤ 140) (ld : sd.size ≤ 140) (w : World) (ht : Tab w) :
    Calls Tryz.prog 85 #[.agg #[.bool false, .func (.func 84) #[] #[]], rat false sa sb, rat false sc sd] w fun e w' => e = .returned (.tuple #[rat false rn rd, .int .i64 0]) ∧ Below w.heap.size w w' := by
  have H1 := hid h1
  have H2 := hid h2
  have H3 := hid h3
  have q1 := Bx.new w 110 #[.bool false, .func (.func 84) #[] #[]]
  have g1 := below_alloc (Below.refl w.heap.size w) (.cells #[.bool false, .func (.func 84) #[] #[]] 110)
  obtain ⟨X1, hX1⟩ : ∃ X1, X1 = w.alloc (.cells #[.bool false, .func (.func 84) #[] #[]] 110) := ⟨_, rfl⟩
  rw [← hX1] at q1 g1
  have z1 : X1.heap.size = w.heap.size + 1 := by rw [hX1, World.size_alloc]
  have q2 := Bx.new X1 40 #[.bool false, .string sa, .string sb]
  have g2 := below_alloc (Below.refl X1.heap.size X1) (.cells #[.bool false, .string sa, .string sb] 40)
  obtain ⟨X2, hX2⟩ : ∃ X2, X2 = X1.alloc (.cells #[.bool false, .string sa, .string sb] 40) := ⟨_, rfl⟩
  rw [← hX2] at q2 g2
  have z2 : X2.heap.size = w.heap.size + 1 + 1 := by rw [hX2, World.size_alloc, z1]
  have q3 := Bx.new X2 40 #[.bool false, .string sc, .string sd]
  have g3 := below_alloc (Below.refl X2.heap.size X2) (.cells #[.bool false, .string sc, .string sd] 40)
  obtain ⟨X3, hX3⟩ : ∃ X3, X3 = X2.alloc (.cells #[.bool false, .string sc, .string sd] 40) := ⟨_, rfl⟩
  rw [← hX3] at q3 g3
  have z3 : X3.heap.size = w.heap.size + 1 + 1 + 1 := by rw [hX3, World.size_alloc, z2]
  have q4 := Bx.new X3 40 #[.bool false, .string ⟨#[]⟩, .string ⟨#[]⟩]
  have g4 := below_alloc (Below.refl X3.heap.size X3) (.cells #[.bool false, .string ⟨#[]⟩, .string ⟨#[]⟩] 40)
  obtain ⟨X4, hX4⟩ : ∃ X4, X4 = X3.alloc (.cells #[.bool false, .string ⟨#[]⟩, .string ⟨#[]⟩] 40) := ⟨_, rfl⟩
  rw [← hX4] at q4 g4
  rw [z3] at q4
  rw [z2] at q3
  rw [z1] at q2
  have G4 := bseq (bseq (bseq g1 g2) g3) g4
  have r1 := ((q1.below g2).below g3).below g4
  have r2 := (q2.below g3).below g4
  have r3 := q3.below g4
  have HX := hid (And.intro hX1 (And.intro hX2 (And.intro hX3 hX4)))
  clear h1 h2 h3 z1 z2 z3 g1 g2 g3 g4 q1 q2 q3 hX1 hX2 hX3 hX4
  go_enter Tryz.func85, Tryz.ntmps85
  have hw4 : (((w.alloc (.cells #[.bool false, .func (.func 84) #[] #[]] 110)).alloc (.cells #[.bool false, .string sa, .string sb] 40)).alloc (.cells #[.bool false, .string sc, .string sd] 40)).alloc (.cells #[.bool false, .string ⟨#[]⟩, .string ⟨#[]⟩] 40) = X4 := by
    rw [HX.out.2.2.2, HX.out.2.2.1, HX.out.2.1, HX.out.1]
  have HW4 := hid hw4
  clear hw4
  go_upto_region 1 with (fail)
  rw [HW4.out]
  have k1 := r1.cell
  have k2 := r2.cell
  have k3 := r3.cell
  go_wp2_with (first | (go_at_call 69; (with_reducible refine (H1.out _ (ht.below G4)).mono ?_); rintro e w5 ⟨rfl, hb5⟩; have G5 := bseq G4 hb5; have s1 := r1.below hb5; have s2 := r2.below hb5; have s3 := r3.below hb5; have s4 := q4.below hb5; clear k1 k2 k3; have k1 := s1.cell; have k2 := s2.cell; have k3 := s3.cell) | (go_at_call 69; (with_reducible refine (H2.out _ (ht.below G5)).mono ?_); rintro e w6 ⟨rfl, hb6⟩; have G6 := bseq G5 hb6; have t1 := s1.below hb6; have t2 := s2.below hb6; have t3 := s3.below hb6; have t4 := s4.below hb6; clear k1 k2 k3; have k1 := t1.cell; have k2 := t2.cell; have k3 := t3.cell) | (go_at_call 84; (with_reducible refine (H3.out _ (ht.below G6)).mono ?_); rintro e w7 ⟨rfl, hb7⟩; have G7 := bseq G6 hb7; have u4 := t4.below hb7; have m4 := u4.cell; have f4 := u4.fz; have l4 := u4.lt))
  have rf := (((Row3.mk u4).set0 (.bool false)).set1 (.string rn)).set2 (.string rd)
  refine bodyPost_ret (results_ct rfl _ _ (w.heap.size + 1 + 1 + 1) 40 _ (0, 0) _ rfl rf.at_ Tryz.underlying40 rfl (by kernel_rfl)) rfl ⟨rfl, ?_⟩
  exact ((G7.setCell (p := ⟨w.heap.size + 1 + 1 + 1, 0, none⟩) (by simp; omega) _).setCell (p := ⟨w.heap.size + 1 + 1 + 1, 1, none⟩) (by simp; omega) _).setCell (p := ⟨w.heap.size + 1 + 1 + 1, 2, none⟩) (by simp; omega) _
set_option maxRecDepth 100000 in
set_option maxHeartbeats 8000000 in
theorem add2_calls (sa sb sc sd rn rd : ByteArray) (h : ∀ W, Tab W → Calls Tryz.prog 85 #[.agg #[.bool false, .func (.func 84) #[] #[]], rat false sa sb, rat false sc sd] W fun e w' => e = .returned (.tuple #[rat false rn rd, .int .i64 0]) ∧ Below W.heap.size W w') (w : World) (ht : Tab w) :
    Calls Tryz.prog 59 #[rat false sa sb, rat false sc sd] w fun e w' => e = .returned (.tuple #[rat false rn rd, .int .i64 0]) ∧ Below w.heap.size w w' := by
  have H := hid h
  have q2 := Bx.new w 40 #[.bool false, .string sa, .string sb]
  have g2 := below_alloc (Below.refl w.heap.size w) (.cells #[.bool false, .string sa, .string sb] 40)
  obtain ⟨X2, hX2⟩ : ∃ X2, X2 = w.alloc (.cells #[.bool false, .string sa, .string sb] 40) := ⟨_, rfl⟩
  rw [← hX2] at q2 g2
  have z2 : X2.heap.size = w.heap.size + 1 := by rw [hX2, World.size_alloc]
  have q3 := Bx.new X2 40 #[.bool false, .string sc, .string sd]
  have g3 := below_alloc (Below.refl X2.heap.size X2) (.cells #[.bool false, .string sc, .string sd] 40)
  obtain ⟨X3, hX3⟩ : ∃ X3, X3 = X2.alloc (.cells #[.bool false, .string sc, .string sd] 40) := ⟨_, rfl⟩
  rw [← hX3] at q3 g3
  have z3 : X3.heap.size = w.heap.size + 1 + 1 := by rw [hX3, World.size_alloc, z2]
  have q4 := Bx.new X3 40 #[.bool false, .string ⟨#[]⟩, .string ⟨#[]⟩]
  have g4 := below_alloc (Below.refl X3.heap.size X3) (.cells #[.bool false, .string ⟨#[]⟩, .string ⟨#[]⟩] 40)
  obtain ⟨X4, hX4⟩ : ∃ X4, X4 = X3.alloc (.cells #[.bool false, .string ⟨#[]⟩, .string ⟨#[]⟩] 40) := ⟨_, rfl⟩
  rw [← hX4] at q4 g4
  rw [z3] at q4
  rw [z2] at q3
  have G4 := bseq (bseq g2 g3) g4
  have r2 := (q2.below g3).below g4
  have r3 := q3.below g4
  have HX := hid (And.intro hX2 (And.intro hX3 hX4))
  clear h z2 z3 g2 g3 g4 q2 q3 hX2 hX3 hX4
  go_enter Tryz.func59, Tryz.ntmps59
  have hw4 : ((w.alloc (.cells #[.bool false, .string sa, .string sb] 40)).alloc (.cells #[.bool false, .string sc, .string sd] 40)).alloc (.cells #[.bool false, .string ⟨#[]⟩, .string ⟨#[]⟩] 40) = X4 := by
    rw [HX.out.2.2, HX.out.2.1, HX.out.1]
  have HW4 := hid hw4
  clear hw4
  go_upto_region 1 with (fail)
  rw [HW4.out]
  have k2 := r2.cell
  have k3 := r3.cell
  go_wp2_with (first | (go_at_call 85; (with_reducible refine (H.out _ (ht.below G4)).mono ?_); rintro e w5 ⟨rfl, hb5⟩; have G5 := bseq G4 hb5; have u4 := q4.below hb5; have m4 := u4.cell; have f4 := u4.fz; have l4 := u4.lt))
  have rf := (((Row3.mk u4).set0 (.bool false)).set1 (.string rn)).set2 (.string rd)
  refine bodyPost_ret (results_ct rfl _ _ (w.heap.size + 1 + 1) 40 _ (0, 0) _ rfl rf.at_ Tryz.underlying40 rfl (by kernel_rfl)) rfl ⟨rfl, ?_⟩
  exact ((G5.setCell (p := ⟨w.heap.size + 1 + 1, 0, none⟩) (by simp; omega) _).setCell (p := ⟨w.heap.size + 1 + 1, 1, none⟩) (by simp; omega) _).setCell (p := ⟨w.heap.size + 1 + 1, 2, none⟩) (by simp; omega) _
theorem ratAdd_calls (a b c d : Nat) (hv1 : validR false (decDigits a) (decDigits b)) (hv2 : validR false (decDigits c) (decDigits d)) (la : (decDigits a).length ≤ 140) (lb : (decDigits b).length ≤ 140) (lc : (decDigits c).length ≤ 140) (ld : (decDigits d).length ≤ 140)
    (had : S3 (a * d)) (hcb : S3 (c * b)) (hbd : S3 (b * d)) (hs : S3 (a * d + c * b)) (hp : 0 < b * d) (w : World) (ht : Tab w) :
    Calls Tryz.prog 59 #[rat false (dg a) (dg b), rat false (dg c) (dg d)] w fun e w' => e = .returned (.tuple #[ratN (a * d + c * b) (b * d), .int .i64 0]) ∧ Below w.heap.size w w' := by
  have h1 := fun W hT => valid_calls false (decDigits a) (decDigits b) (by omega) (by omega) W hT
  have h2 := fun W hT => valid_calls false (decDigits c) (decDigits d) (by omega) (by omega) W hT
  rw [decide_eq_true hv1] at h1
  rw [decide_eq_true hv2] at h2
  refine add2_calls _ _ _ _ _ _ (fun W hT => run_calls _ _ _ _ _ _ h1 h2 (fun W hT => sum_calls a b c d (Nat.le_trans la (by omega)) (Nat.le_trans lb (by omega)) (Nat.le_trans lc (by omega)) (Nat.le_trans ld (by omega)) had hcb hbd hs hp W hT) ?_ ?_ ?_ ?_ W hT) w ht
  all_goals rw [dg_size]; assumption
end Go.Proofs.YthbcabnljcpaiaaGreatDoor.H
namespace Go.Proofs.YthbcabnljcpaiaaGreatDoor.H
open Go.RowKit Go.Shelf Go.Lib Go.Proofs.YthbcabnljcpaiaaGreatDoorW.PrintWords Go.Proofs.YthbcabnljcpaiaaGreatDoor.Q
set_option linter.unusedVariables false
theorem lowest_unique {n m N M : Nat} (hm : 0 < m) (hM : 0 < M) (h : n * M = N * m) : n / Nat.gcd n m = N / Nat.gcd N M ∧ m / Nat.gcd n m = M / Nat.gcd N M := by
  have hg : 0 < Nat.gcd n m := Nat.gcd_pos_of_pos_right _ hm
  have hG : 0 < Nat.gcd N M := Nat.gcd_pos_of_pos_right _ hM
  have c1 : Nat.Coprime (n / Nat.gcd n m) (m / Nat.gcd n m) := Nat.coprime_div_gcd_div_gcd hg
  have c2 : Nat.Coprime (N / Nat.gcd N M) (M / Nat.gcd N M) := Nat.coprime_div_gcd_div_gcd hG
  have e1 : n = Nat.gcd n m * (n / Nat.gcd n m) := (Nat.mul_div_cancel' (Nat.gcd_dvd_left n m)).symm
  have e2 : m = Nat.gcd n m * (m / Nat.gcd n m) := (Nat.mul_div_cancel' (Nat.gcd_dvd_right n m)).symm
  have e3 : N = Nat.gcd N M * (N / Nat.gcd N M) := (Nat.mul_div_cancel' (Nat.gcd_dvd_left N M)).symm
  have e4 : M = Nat.gcd N M * (M / Nat.gcd N M) := (Nat.mul_div_cancel' (Nat.gcd_dvd_right N M)).symm
  generalize Nat.gcd n m = g at *
  generalize Nat.gcd N M = G at *
  generalize n / g = n' at *
  generalize m / g = m' at *
  generalize N / G = N' at *
  generalize M / G = M' at *
  subst e1 e2 e3 e4
  have h' : n' * M' = N' * m' := by
    have : (g * G) * (n' * M') = (g * G) * (N' * m') := by
      calc (g * G) * (n' * M') = g * n' * (G * M') := by ac_rfl
        _ = G * N' * (g * m') := h
        _ = (g * G) * (N' * m') := by ac_rfl
    exact Nat.eq_of_mul_eq_mul_left (Nat.mul_pos hg hG) this
  have d1 : n' ∣ N' := c1.dvd_of_dvd_mul_right (by rw [← h']; exact Nat.dvd_mul_right _ _)
  have d2 : N' ∣ n' := c2.dvd_of_dvd_mul_right (by rw [h']; exact Nat.dvd_mul_right _ _)
  have d3 : m' ∣ M' := c1.symm.dvd_of_dvd_mul_left (by rw [h']; exact Nat.dvd_mul_left _ _)
  have d4 : M' ∣ m' := c2.symm.dvd_of_dvd_mul_left (by rw [← h']; exact Nat.dvd_mul_left _ _)
  exact ⟨Nat.dvd_antisymm d1 d2, Nat.dvd_antisymm d3 d4⟩
theorem ratS_nat (a b : Nat) : ratS (a : Int) (b : Int) = ⟨false, dg (a / Nat.gcd a b), dg (b / Nat.gcd a b)⟩ := by
  unfold ratS
  simp only [Int.natAbs_natCast]
  have h1 : decide ((a : Int) < 0) = false := decide_eq_false (by omega)
  have h2 : decide ((b : Int) < 0) = false := decide_eq_false (by omega)
  rw [h1, h2]
  rfl
theorem ratS_eq {a b c d : Nat} (hb : 0 < b) (hd : 0 < d) (h : a * d = c * b) : ratS (a : Int) (b : Int) = ratS (c : Int) (d : Int) := by
  rw [ratS_nat, ratS_nat]
  obtain ⟨e1, e2⟩ := lowest_unique hb hd h
  rw [e1, e2]
theorem S3_of {n : Nat} (h : n ≤ 9223372036854775808) : S3 n := S3.small h
theorem dec140 {n : Nat} (h : n ≤ 1000000) : (decDigits n).length ≤ 140 := by
  have : n < 10 ^ 10 := by omega
  exact Nat.le_trans (decDigits_len_lt (by omega) this) (by omega)
theorem valid_low {a b : Nat} (hb : 0 < b) (hb6 : b ≤ 1000000) (ha6 : a ≤ 1000000) : validR false (decDigits (a / Nat.gcd a b)) (decDigits (b / Nat.gcd a b)) := by
  have hg : 0 < Nat.gcd a b := Nat.gcd_pos_of_pos_right _ hb
  have ha' : a / Nat.gcd a b ≤ 1000000 := Nat.le_trans (Nat.div_le_self _ _) ha6
  have hb' : b / Nat.gcd a b ≤ 1000000 := Nat.le_trans (Nat.div_le_self _ _) hb6
  have hbp : 0 < b / Nat.gcd a b := Nat.div_pos (Nat.le_of_dvd hb (Nat.gcd_dvd_right a b)) hg
  have hc : Nat.Coprime (a / Nat.gcd a b) (b / Nat.gcd a b) := Nat.coprime_div_gcd_div_gcd hg
  generalize a / Nat.gcd a b = x at *
  generalize b / Nat.gcd a b = y at *
  refine ⟨(S3_of (by omega)).isNat, (S3_of (by omega)).isNat, fun h => ?_, ?_⟩
  · rw [← dec0] at h
    have := dec_inj h
    omega
  · split
    · rename_i h
      rw [← dec0] at h
      have h0 := dec_inj h
      subst h0
      refine ⟨rfl, ?_⟩
      have : y = 1 := by have := hc; unfold Nat.Coprime at this; rwa [Nat.gcd_zero_left] at this
      rw [this, dec1]
    · rw [decDigits_dv, decDigits_dv]; exact hc
theorem part_add (U u : Nat) (hU : U ≤ 100000) (hu : u ≤ 100000) (w : World) (ht : Tab w) :
    Calls Tryz.prog 59 #[rat (ratS U 6000).f0 (ratS U 6000).f1 (ratS U 6000).f2, rat (ratS u 6000).f0 (ratS u 6000).f1 (ratS u 6000).f2] w fun e w' =>
      e = .returned (.tuple #[rat (ratS (U + u : Nat) 6000).f0 (ratS (U + u : Nat) 6000).f1 (ratS (U + u : Nat) 6000).f2, .int .i64 0]) ∧ Below w.heap.size w w' := by
  have k6 : (6000 : Int) = ((6000 : Nat) : Int) := rfl
  have g1 : 0 < Nat.gcd U 6000 := Nat.gcd_pos_of_pos_right _ (by omega)
  have g2 : 0 < Nat.gcd u 6000 := Nat.gcd_pos_of_pos_right _ (by omega)
  have b1 : 0 < 6000 / Nat.gcd U 6000 := Nat.div_pos (Nat.le_of_dvd (by omega) (Nat.gcd_dvd_right U 6000)) g1
  have b2 : 0 < 6000 / Nat.gcd u 6000 := Nat.div_pos (Nat.le_of_dvd (by omega) (Nat.gcd_dvd_right u 6000)) g2
  have l1 : U / Nat.gcd U 6000 ≤ 100000 := Nat.le_trans (Nat.div_le_self _ _) hU
  have l2 : 6000 / Nat.gcd U 6000 ≤ 6000 := Nat.div_le_self _ _
  have l3 : u / Nat.gcd u 6000 ≤ 100000 := Nat.le_trans (Nat.div_le_self _ _) hu
  have l4 : 6000 / Nat.gcd u 6000 ≤ 6000 := Nat.div_le_self _ _
  have hv1 := valid_low (a := U) (b := 6000) (by omega) (by omega) (by omega)
  have hv2 := valid_low (a := u) (b := 6000) (by omega) (by omega) (by omega)
  have x1 : U / Nat.gcd U 6000 * Nat.gcd U 6000 = U := Nat.div_mul_cancel (Nat.gcd_dvd_left U 6000)
  have x2 : 6000 / Nat.gcd U 6000 * Nat.gcd U 6000 = 6000 := Nat.div_mul_cancel (Nat.gcd_dvd_right U 6000)
  have x3 : u / Nat.gcd u 6000 * Nat.gcd u 6000 = u := Nat.div_mul_cancel (Nat.gcd_dvd_left u 6000)
  have x4 : 6000 / Nat.gcd u 6000 * Nat.gcd u 6000 = 6000 := Nat.div_mul_cancel (Nat.gcd_dvd_right u 6000)
  have hres : ratS ((U + u : Nat) : Int) 6000 = ⟨false, dg ((U / Nat.gcd U 6000 * (6000 / Nat.gcd u 6000) + u / Nat.gcd u 6000 * (6000 / Nat.gcd U 6000)) / Nat.gcd (U / Nat.gcd U 6000 * (6000 / Nat.gcd u 6000) + u / Nat.gcd u 6000 * (6000 / Nat.gcd U 6000)) (6000 / Nat.gcd U 6000 * (6000 / Nat.gcd u 6000))), dg (6000 / Nat.gcd U 6000 * (6000 / Nat.gcd u 6000) / Nat.gcd (U / Nat.gcd U 6000 * (6000 / Nat.gcd u 6000) + u / Nat.gcd u 6000 * (6000 / Nat.gcd U 6000)) (6000 / Nat.gcd U 6000 * (6000 / Nat.gcd u 6000)))⟩ := by
    rw [← ratS_nat, k6]
    refine ratS_eq (by omega) (Nat.mul_pos b1 b2) ?_
    generalize U / Nat.gcd U 6000 = a at *
    generalize 6000 / Nat.gcd U 6000 = b at *
    generalize u / Nat.gcd u 6000 = c at *
    generalize 6000 / Nat.gcd u 6000 = d at *
    generalize Nat.gcd U 6000 = g at *
    generalize Nat.gcd u 6000 = h at *
    subst x1 x3
    have e1 : a * g * (b * d) = a * d * 6000 := by rw [← x2]; ac_rfl
    have e2 : c * h * (b * d) = c * b * 6000 := by rw [← x4]; ac_rfl
    rw [Nat.add_mul, Nat.add_mul, e1, e2]
  rw [hres, k6, ratS_nat U 6000, ratS_nat u 6000]
  have m1 : ∀ x y : Nat, x ≤ 100000 → y ≤ 100000 → x * y ≤ 10000000000 := fun x y hx hy => Nat.mul_le_mul hx hy
  have p1 := m1 _ _ l1 (Nat.le_trans l4 (by omega))
  have p2 := m1 _ _ l3 (Nat.le_trans l2 (by omega))
  have p3 := m1 _ _ (Nat.le_trans l2 (by omega)) (Nat.le_trans l4 (by omega))
  exact ratAdd_calls _ _ _ _ hv1 hv2 (dec140 (by omega)) (dec140 (by omega)) (dec140 (by omega)) (dec140 (by omega)) (S3_of (by omega)) (S3_of (by omega)) (S3_of (by omega)) (S3_of (by omega)) (Nat.mul_pos b1 b2) w ht
end Go.Proofs.YthbcabnljcpaiaaGreatDoor.H
namespace Go.Proofs.YthbcabnljcpaiaaGreatDoor.H
open Go.RowKit Go.Shelf Go.Lib Go.Maps Go.Proofs.YthbcabnljcpaiaaGreatDoorW.PrintWords Go.Proofs.YthbcabnljcpaiaaGreatDoorW.PrintLast Go.Proofs.YthbcabnljcpaiaaGreatDoorW.PrintMore Go.Proofs.YthbcabnljcpaiaaGreatDoor.Q
set_option linter.unusedVariables false
def sumC (co : Int) (L : List ((Int × Int) × Int)) : Int := (L.map fun x => if x.1.1 = co then x.2 else 0).sum
theorem sumC_snoc (co : Int) (L : List ((Int × Int) × Int)) (x : (Int × Int) × Int) : sumC co (L ++ [x]) = sumC co L + if x.1.1 = co then x.2 else 0 := by
  unfold sumC
  rw [List.map_append, List.sum_append]
  simp
theorem sumC_nonneg {co : Int} {L : List ((Int × Int) × Int)} (h : ∀ x ∈ L, 0 ≤ x.2) : 0 ≤ sumC co L := by
  induction L with
  | nil => simp [sumC]
  | cons x L ih =>
    have := ih fun y hy => h y (List.mem_cons_of_mem _ hy)
    have h0 := h x List.mem_cons_self
    unfold sumC at *
    rw [List.map_cons, List.sum_cons]
    split <;> omega
theorem sumC_take_le {co : Int} {L : List ((Int × Int) × Int)} (h : ∀ x ∈ L, 0 ≤ x.2) (k : Nat) : 0 ≤ sumC co (L.take k) ∧ sumC co (L.take k) ≤ sumC co L := by
  have e : sumC co L = sumC co (L.take k) + sumC co (L.drop k) := by
    conv => lhs; rw [← List.take_append_drop k L]
    unfold sumC
    rw [List.map_append, List.sum_append]
  have h1 := sumC_nonneg (co := co) (L := L.take k) fun x hx => h x (List.mem_of_mem_take hx)
  have h2 := sumC_nonneg (co := co) (L := L.drop k) fun x hx => h x (List.mem_of_mem_drop hx)
  omega
set_option maxRecDepth 100000 in
set_option maxHeartbeats 8000000 in
theorem adds_calls (L : List ((Int × Int) × Int)) (A : Option Addr) (c : Nat) (co pct : Int) (hp : 0 ≤ pct ∧ pct ≤ 100) (hL : ∀ x ∈ L, 0 ≤ x.2) (hs : sumC co L = 60 * pct) (hlen : L.length ≤ 1000000) (w : World) (hC : Kd.C k42 w A (L.map linkS).length (L.map linkS)) (hc : L.length ≤ c) (ht : Tab w) :
    Calls Tryz.prog 26 #[.slice A L.length c, .int .i64 co, .int .i64 pct] w fun e w' => e = .returned (.bool true) ∧ Below w.heap.size w w' := by
  have e0 : ratS 0 1 = ratS ((0 : Nat) : Int) 6000 := ratS_eq (a := 0) (b := 1) (c := 0) (d := 6000) (by omega) (by omega) rfl
  have e1 : ratS pct 100 = ratS (((60 * pct).toNat : Nat) : Int) 6000 := by
    obtain ⟨p, rfl⟩ := Int.eq_ofNat_of_zero_le hp.1
    rw [show ((60 * (p : Int)).toNat : Nat) = 60 * p by omega]
    exact ratS_eq (a := p) (b := 100) (c := 60 * p) (d := 6000) (by omega) (by omega) (by omega)
  have h1 := fun W (h : Below w.heap.size w W) => of27_calls 0 1 (by omega) (by omega) (by omega) (by omega) (by omega) W (ht.below h)
  have h2 := fun W (h : Below w.heap.size w W) => of27_calls pct 100 (by omega) (by omega) (by omega) (by omega) (by omega) W (ht.below h)
  rw [e0] at h1
  rw [e1, ← hs] at h2
  have hll : (L.map linkS).length = L.length := List.length_map _
  have H1 := hid h1
  have H2 := hid h2
  have Hll := hid hll
  have Hs := hid hs
  have Ht := hid ht
  clear h1 h2 e0 e1 hll hs ht
  go_enter Tryz.func26, Tryz.ntmps26
  go_wp2_with (first | (go_at_call 27; (with_reducible refine (H1.out _ (Below.refl _ _)).mono ?_); rintro e w1 ⟨rfl, hb1⟩))
  have R1 := Bx.new w1 40 (rcells (ratS ((0 : Nat) : Int) 6000))
  have g1 := below_alloc (Below.refl w1.heap.size w1) (.cells (rcells (ratS ((0 : Nat) : Int) 6000)) 40)
  go_loopg [8] L.length (fun g v8 wr => ∃ (k U : Nat), v8 = .int .i64 k ∧ g + k = L.length ∧ (U : Int) = sumC co (L.take k) ∧ Bx wr w1.heap.size 40 (rcells (ratS (U : Int) 6000)) ∧ Below w.heap.size w wr)
  case atStart => exact ⟨0, 0, rfl, by omega, by simp [sumC], R1, bseq hb1 g1⟩
  case round =>
    obtain ⟨k, U, rfl, hgk, hU, hB, hBw⟩ := hrel
    have cB := hB.cell
    have lB := hB.lt
    have fB := hB.fz
    by_cases hk : k < L.length
    · obtain ⟨ad, rfl, a0, a1, a2, a3, a4⟩ := at_T42 (Kd.C_below hC hBw) (k : Int) (by omega) (by rw [Hll.out]; omega)
      have hx : rd_T42 (L.map linkS) (k : Int) = linkS L[k] := by simp [rd_T42, hk]
      have hx0 := hL L[k] (List.getElem_mem hk)
      have htk : L.take (k + 1) = L.take k ++ [L[k]] := List.take_succ_eq_append_getElem hk
      have hb2 := (sumC_take_le (co := co) hL (k + 1)).2
      have hb0 := (sumC_take_le (co := co) hL k).2
      rw [htk, sumC_snoc] at hb2
      rw [hx] at a0 a1 a2 a3 a4
      generalize L[k] = x at *
      obtain ⟨⟨xc, xh⟩, xu⟩ := x
      obtain ⟨u, rfl⟩ := Int.eq_ofNat_of_zero_le hx0
      simp only [linkS, Int.toNat_natCast] at a0 a1 a2 a3 a4
      simp only at hb2
      by_cases hco : xc = co
      · rw [if_pos hco] at hb2
        have hsum : ((U + u : Nat) : Int) = sumC co (L.take (k + 1)) := by rw [htk, sumC_snoc, if_pos hco]; show ((U + u : Nat) : Int) = sumC co (L.take k) + (u : Int); omega
        have hpa := fun W (h : Below w.heap.size w W) => part_add U u (by rw [Hs.out] at hb0; omega) (by rw [Hs.out] at hb2; omega) W (Ht.out.below h)
        generalize ratS (U : Int) 6000 = r at *
        generalize ratS (u : Int) 6000 = r2 at *
        generalize hr3 : ratS ((U + u : Nat) : Int) 6000 = r3 at *
        obtain ⟨r0, r1, r2'⟩ := r
        simp only [rcells] at cB hB hpa
        have Hpa := hid hpa
        have Hsum := hid hsum
        have Hr3 := hid hr3
        clear hpa hsum hb2 hb0 hU htk hx hx0 hr3
        subst hco
        go_wp2_with (fail)
        go_region_with (first | (go_at_call 59; (with_reducible refine (Hpa.out _ (below_drew hBw)).mono ?_); rintro e w2 ⟨rfl, hb2⟩; have B2 := Bx.below (w := wr.drew) hB hb2; have c2 := B2.cell; have f2 := B2.fz; have l2 := B2.lt; have hw2 := bseq (below_drew hBw) hb2))
        all_goals go_wp2_with (fail)
        all_goals
          go_roundg (L.length - (k + 1))
          case rel => exact ⟨k + 1, U + u, by go_num, by omega, Hsum.out, by rw [Hr3.out]; exact ((((Row3.mk B2).set0 (.bool r3.f0)).set1 (.string r3.f1)).set2 (.string r3.f2)).at_, ((hw2.setCell (p := ⟨w1.heap.size, 0, none⟩) hb1.size _).setCell (p := ⟨w1.heap.size, 1, none⟩) hb1.size _).setCell (p := ⟨w1.heap.size, 2, none⟩) hb1.size _⟩
          case measure => omega
      · go_wp2_with (fail)
        go_roundg (L.length - (k + 1))
        case rel => exact ⟨k + 1, U, by go_num, by omega, by rw [htk, sumC_snoc, if_neg hco]; show (U : Int) = sumC co (L.take k) + 0; omega, hB, hBw⟩
        case measure => omega
    · have hkl : L.take k = L := List.take_of_length_le (by omega)
      rw [hkl] at hU
      have hUt : U = (sumC co L).toNat := by omega
      subst hUt
      clear hU hkl
      have hus := H2.out
      generalize ratS (((sumC co L).toNat : Nat) : Int) 6000 = r at *
      simp only [rcells] at cB hB
      have H3 := hid hus
      clear hus H2
      go_wp2_with (fail)
      go_region_with (first | (go_at_call 27; (with_reducible refine (H3.out _ (below_drew hBw)).mono ?_); rintro e w2 ⟨rfl, hb2⟩; have hw2 := bseq (below_drew hBw) hb2; have B2 := Bx.below (w := wr.drew) hB hb2; have c2 := B2.cell) | (go_at_call 27; (with_reducible refine (H3.out _ hBw).mono ?_); rintro e w2 ⟨rfl, hb2⟩; have hw2 := bseq hBw hb2; have B2 := Bx.below hB hb2; have c2 := B2.cell))
      all_goals go_wp2_with (fail)
      all_goals go_ret
      all_goals exact ⟨rfl, hw2⟩
end Go.Proofs.YthbcabnljcpaiaaGreatDoor.H
