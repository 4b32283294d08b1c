/- A part of the proof that the register's laws hold; no condition of its own. -/
import Derived.Test.YthbcabnljcpaiaaGreatDoorZB08
set_option linter.all false
namespace Go.Proofs.YthbcabnljcpaiaaGreatDoor.H
open Go.RowKit Go.Shelf Go.Proofs.YthbcabnljcpaiaaGreatDoorW.PrintWords
set_option linter.unusedVariables false
attribute [local go_sem] Oper.semAt_some
def top (xs : List Int) (k : Nat) : Int := val (xs.drop (xs.length - k))
theorem top_zero (xs : List Int) : top xs 0 = 0 := by simp [top, val]
theorem top_succ {xs : List Int} {k : Nat} (h : k < xs.length) : top xs (k + 1) = rd xs ((xs.length - 1 - k : Nat) : Int) + 1000000000 * top xs k := by
  unfold top
  rw [show xs.length - (k + 1) = xs.length - 1 - k from by omega, rd_drop_cons (by omega), val, show xs.length - 1 - k + 1 = xs.length - k from by omega]
theorem top_all (xs : List Int) : top xs xs.length = val xs := by simp [top]
def QOk (xs : List Int) (m r : Nat) (pre : List (Fin xs.length)) (Q : List Int) : Prop :=
  pre = (bkl xs.length).take pre.length → ∃ ds : List Int, Q = List.replicate (xs.length - pre.length) 0 ++ ds ∧ ds.length = pre.length ∧ OKL ds ∧ val ds * m + r = top xs pre.length
theorem QOk_step {xs : List Int} {m r : Nat} {pre : List (Fin xs.length)} {Q : List Int} (h : QOk xs m r pre Q) (x : Fin xs.length) (hp : pre.length < xs.length) (D : Int) (r2 : Nat) (hD0 : 0 ≤ D) (hD : D < 1000000000)
    (he : D * m + r2 = rd xs (x.1 : Int) + 1000000000 * r) (Q' : List Int) (hq : ∀ ds, Q = List.replicate (xs.length - pre.length) 0 ++ ds → x.1 = xs.length - 1 - pre.length → Q' = List.replicate (xs.length - pre.length - 1) 0 ++ D :: ds) : QOk xs m r2 (pre ++ [x]) Q' := by
  intro hpre
  rw [List.length_append, List.length_singleton, bkl_succ hp] at hpre
  obtain ⟨h1, h2⟩ := List.append_inj' hpre rfl
  have hx : x.1 = xs.length - 1 - pre.length := congrArg Fin.val (List.cons.inj h2).1
  obtain ⟨ds, e1, e2, e3, e4⟩ := h h1
  refine ⟨D :: ds, ?_, by simp [e2], OKL.cons hD0 hD e3, ?_⟩
  · rw [List.length_append, List.length_singleton, hq ds e1 hx]
    congr 2
  · rw [List.length_append, List.length_singleton, top_succ hp, val, Int.add_mul, Int.mul_assoc]
    rw [hx] at he
    omega
theorem replicate_set {n : Nat} (h : 0 < n) (D : Int) (ds : List Int) : (List.replicate n 0 ++ ds).set (n - 1) D = List.replicate (n - 1) 0 ++ D :: ds := by
  obtain ⟨k, rfl⟩ : ∃ k, n = k + 1 := ⟨n - 1, by omega⟩
  have h := set_mid (P := List.replicate k 0) (z := 0) (v := D) (Q := ds) (i := k) (by simp)
  rw [List.replicate_succ', Nat.add_sub_cancel, List.append_assoc]
  simp only [List.append_assoc, List.singleton_append] at h ⊢
  exact h
structure DivI (xs : List Int) (m : Nat) (N : Nat) (vm vn : Value) (pre : List (Fin xs.length)) (W : World) (Q : List Int) (r : Nat) (vr : Value) : Prop where
  len : Q.length = xs.length
  lt : r < m
  own : W.ownsRow N 167 1 (.slice (some ⟨N + 1, 0, none⟩) xs.length xs.length) xs.length (nums .u64 Q)
  bm : Boxed W N 136 vm
  bq : Boxed W (N + 1 + 1) 136 (.slice (some ⟨N + 1, 0, none⟩) xs.length xs.length)
  br : Boxed W (N + 1 + 1 + 1) 136 vr
  bi : Boxed W (N + 1 + 1 + 1 + 1) 136 vn
  num : NumF (fun k => N + 4 < k) W vr (limbs r)
  ok : QOk xs m r pre Q
set_option maxRecDepth 100000 in
set_option maxHeartbeats 8000000 in
theorem div_calls (a m : Nat) (hm0 : 0 < m) (hla : (limbs a).length ≤ 1000000) (hlm : (limbs m).length ≤ 1000000) (v vm0 : Value) (w : World) (hv : Num w v (limbs a)) (hm : Num w vm0 (limbs m)) :
    Calls Tryz.prog 148 #[v, vm0] w fun e w' => ∃ q r, e = .returned (.tuple #[q, r]) ∧ Num w' q (limbs (a / m)) ∧ Num w' r (limbs (a % m)) ∧ Below w.heap.size w w' := by
  obtain ⟨A, c, rfl, hlc, hA⟩ := hv
  obtain ⟨Am, lm, cm, rfl⟩ : ∃ Am lm cm, vm0 = .slice Am lm cm := by obtain ⟨Am, cm, e, _⟩ := hm; exact ⟨Am, _, cm, e⟩
  generalize hxs : limbs a = xs at *
  have hox : OKL xs := hxs ▸ limbs_OKL a
  have hvx : val xs = a := hxs ▸ limbs_val a
  have HX := Lib.hid hxs
  have HVX := Lib.hid hvx
  clear hxs hvx
  have hmk := print_make 136 167 .u64 8 Tryz.underlying136 info167 (by omega) xs.length (by omega)
  refine (callsIn_wide (n := 3)).1 ?_
  generalize hF : Fence.wide = F
  have hfn : ∀ g, F.fn g := by subst hF; intro g; trivial
  have hro : F.round = none := by subst hF; rfl
  have hwide : ∀ {n : Nat} {f : FuncId} {args : Array Value} {W : World} {R : Ending → World → Prop}, Calls Tryz.prog f args W R → CallsIn F n Tryz.prog f args W R := by subst hF; exact fun h => callsIn_wide.2 h
  refine callsIn_of_wp_marks Tryz.func148 rfl (hfn _) ?_ hro
  simp only [Tryz.ntmps148, List.size_toArray, List.length_cons, List.length_nil, Nat.reduceAdd, Nat.reduceSub, Array.replicate_succ, Array.replicate_zero, List.push_toArray, List.append_toArray, List.nil_append, List.cons_append]
  gi_wp2_with (first | (gi_at_call 181; refine (bk_in F _ (hfn _) hro _ _ _ _).mono ?_; rintro e w' ⟨rfl, rfl⟩))
  have hB0 : Below w.heap.size w (((((w.alloc (Obj.cells #[Value.slice Am lm cm] 136)).alloc (Obj.cells (madeCells #[Value.int IntKind.u64 0] xs.length) 167)).alloc (Obj.cells #[Value.slice (some { block := w.heap.size + 1, off := 0 }) xs.length xs.length] 136)).alloc (Obj.cells #[Value.slice none 0 0] 136)).alloc (Obj.cells #[Value.slice A xs.length c] 136)) :=
    (((((Below.refl _ w).alloc (Nat.le_refl _) _).alloc (by simp) _).alloc (by simp; omega) _).alloc (by simp; omega) _).alloc (by simp; omega) _
  have bM := Boxed.new w 136 (.slice Am lm cm)
  have oQ := own_made (w.alloc (Obj.cells #[Value.slice Am lm cm] 136)) w.heap.size 167 .u64 xs.length (by simp) (by omega)
  have bQ := Boxed.new ((w.alloc (Obj.cells #[Value.slice Am lm cm] 136)).alloc (Obj.cells (madeCells #[Value.int IntKind.u64 0] xs.length) 167)) 136 (.slice (some { block := w.heap.size + 1, off := 0 }) xs.length xs.length)
  have bR := Boxed.new (((w.alloc (Obj.cells #[Value.slice Am lm cm] 136)).alloc (Obj.cells (madeCells #[Value.int IntKind.u64 0] xs.length) 167)).alloc (Obj.cells #[Value.slice (some { block := w.heap.size + 1, off := 0 }) xs.length xs.length] 136)) 136 (.slice none 0 0)
  have bN := Boxed.new ((((w.alloc (Obj.cells #[Value.slice Am lm cm] 136)).alloc (Obj.cells (madeCells #[Value.int IntKind.u64 0] xs.length) 167)).alloc (Obj.cells #[Value.slice (some { block := w.heap.size + 1, off := 0 }) xs.length xs.length] 136)).alloc (Obj.cells #[Value.slice none 0 0] 136)) 136 (.slice A xs.length c)
  simp only [World.size_alloc] at bQ bR bN oQ
  have bM := (((bM.alloc (Obj.cells (madeCells #[Value.int IntKind.u64 0] xs.length) 167)).alloc (Obj.cells #[Value.slice (some { block := w.heap.size + 1, off := 0 }) xs.length xs.length] 136)).alloc (Obj.cells #[Value.slice none 0 0] 136)).alloc (Obj.cells #[Value.slice A xs.length c] 136)
  have oQ := ((oQ.alloc (Obj.cells #[Value.slice (some { block := w.heap.size + 1, off := 0 }) xs.length xs.length] 136)).alloc (Obj.cells #[Value.slice none 0 0] 136)).alloc (Obj.cells #[Value.slice A xs.length c] 136)
  have bQ := (bQ.alloc (Obj.cells #[Value.slice none 0 0] 136)).alloc (Obj.cells #[Value.slice A xs.length c] 136)
  have bR := bR.alloc (Obj.cells #[Value.slice A xs.length c] 136)
  have hsz : (((((w.alloc (Obj.cells #[Value.slice Am lm cm] 136)).alloc (Obj.cells (madeCells #[Value.int IntKind.u64 0] xs.length) 167)).alloc (Obj.cells #[Value.slice (some { block := w.heap.size + 1, off := 0 }) xs.length xs.length] 136)).alloc (Obj.cells #[Value.slice none 0 0] 136)).alloc (Obj.cells #[Value.slice A xs.length c] 136)).heap.size = w.heap.size + 5 := by simp
  generalize hW1 : (((((w.alloc (Obj.cells #[Value.slice Am lm cm] 136)).alloc (Obj.cells (madeCells #[Value.int IntKind.u64 0] xs.length) 167)).alloc (Obj.cells #[Value.slice (some { block := w.heap.size + 1, off := 0 }) xs.length xs.length] 136)).alloc (Obj.cells #[Value.slice none 0 0] 136)).alloc (Obj.cells #[Value.slice A xs.length c] 136)) = W1 at *
  clear hW1 hmk
  refine wpIn_rangeFunc_ownG hro (by omega) (gf := 213) (lb := #[.pointer (some ⟨w.heap.size + 1 + 1 + 1 + 1, 0, none⟩)]) rfl (hfn _) (enters_of Tryz.func213 (by kernel_rfl) rfl)
      (bk_stops F _ (hfn _) hro (by omega) (w.heap.size + 1 + 1 + 1 + 1) A c xs w W1 hB0 hA bN) (fun h k => KpB.t h k) (KpB.b (by omega) (by omega)) (Below.refl _ _) (fun _ => rfl)
      (fun pre W => (∃ Q r vr, DivI xs m w.heap.size (.slice Am lm cm) (.slice A xs.length c) pre W Q r vr) ∧ Below w.heap.size w W)
      (fun cc pre W => False)
      ?hI ?hIx ⟨⟨_, 0, _, by simp, hm0, oQ, bM, bQ, bR, bN, by rw [limbs_zero]; exact NumF.nil _ _, fun _ => ⟨[], by simp, rfl, OKL.nil, by simp [val, top_zero]⟩⟩, hB0⟩
      (fun x => { tmps := #[.slice A xs.length c, .slice Am lm cm, undef, .pointer (some ⟨w.heap.size, 0, none⟩), .slice none 0 0, .slice none 0 0, .pointer (some ⟨w.heap.size + 1 + 1, 0, none⟩), .pointer (some ⟨w.heap.size + 1 + 1 + 1, 0, none⟩), .int .i64 (x.1 : Int), .int .u64 (rd xs (x.1 : Int)), undef, .slice A xs.length c, .int .i64 xs.length, .slice (some ⟨w.heap.size + 1, 0, none⟩) xs.length xs.length, .slice A xs.length c, .func (.func 213) #[] #[.pointer (some ⟨w.heap.size + 1 + 1 + 1 + 1, 0, none⟩)], .int .i64 (x.1 : Int), .int .u64 (rd xs (x.1 : Int)),
        undef, undef, undef, undef, undef, undef, undef, undef, undef, undef, undef, undef, undef, undef, undef, undef, undef, undef, undef, undef, undef, undef, undef, undef, undef, undef], defers := [] }) ?assign ?body ?done ?stop
  case hI =>
    refine OwnFrom.and (fun s X Y row hs hg hr => ?_) (ownFrom_below (Nat.le_refl _) (by omega))
    obtain ⟨Q, r, vr, h⟩ := hs
    have hr2 := fun r e => (hr r e).2
    exact ⟨Q, r, vr, h.len, h.lt, own_notcells h.own hg hr2, boxKept h.bm hg hr2, boxKept h.bq hg hr2, boxKept h.br hg hr2, boxKept h.bi hg hr2, h.num.notcells hg hr2, h.ok⟩
  case hIx => exact fun cc s X Y row hs hg hr => hs
  case assign =>
    intro l x W K hK
    gi_wp2
    exact hK
  case body =>
    rintro l pre x W ⟨⟨Q, r, vr, hI⟩, hBW⟩ hpl
    obtain ⟨Ar, nr, cr, rfl⟩ : ∃ Ar nr cr, vr = .slice Ar nr cr := by obtain ⟨A, c, e, _⟩ := hI.num; exact ⟨A, _, c, e⟩
    have hx := x.2
    have hrx := rd_OKL hox hx
    obtain ⟨d0, hd0⟩ := Int.eq_ofNat_of_zero_le hrx.1
    have hlt := hI.lt
    have hlr : (limbs r).length ≤ 1000000 := Nat.le_trans (limbs_len_le (by omega)) hlm
    have hown1 : (W.alloc (.cells #[.int .u64 (rd xs (x.1 : Int))] 167)).ownsRow W.heap.size 167 1 (.slice (some ⟨W.heap.size, 0, none⟩) 1 1) 1 (nums .u64 [rd xs (x.1 : Int)]) := own_lit W W.heap.size 167 .u64 [rd xs (x.1 : Int)] (Nat.le_refl _) (by simp)
    obtain ⟨v1, w1, hrun1, hn1, hg1⟩ := app_run (ty := 136) _ [rd xs (x.1 : Int)] (limbs r) _ hown1 (hI.num.num.below (below_alloc (Below.refl _ _) _)) (by simp) (by simp; omega)
    obtain ⟨R1, hR1⟩ : ∃ R1, R1 = d0 + 1000000000 * r := ⟨_, rfl⟩
    have htr : trimL ([rd xs (x.1 : Int)] ++ limbs r) = limbs R1 := by
      rw [List.singleton_append, trimL_limbs (OKL.cons hrx.1 hrx.2 (limbs_OKL r)), val, limbs_val, hd0, hR1]
      congr 1
    have hR1m : R1 < m * 1000000000 := by
      have : d0 < 1000000000 := by omega
      have h2 : (r + 1) * 1000000000 ≤ m * 1000000000 := Nat.mul_le_mul_right _ (by omega)
      omega
    have hlR : (limbs R1).length ≤ 1000001 := by
      have h1 := trimL_length ([rd xs (x.1 : Int)] ++ limbs r)
      rw [htr] at h1
      simp at h1
      omega
    have hrc := hI.br.cell
    have hbl := hI.br.lt
    have hil := hI.bi.lt
    have Hd0 := Lib.hid hd0
    have Htr := Lib.hid htr
    have HR1 := Lib.hid hR1
    clear hd0 htr hR1
    have kA : KeepsOthers W (W.alloc (.cells #[.int .u64 (rd xs (x.1 : Int))] 167)) := KeepsOthers.alloc W _
    have k1 : KeepsOthers W w1 := kA.trans (KeepsOthers.of_grownBy hg1 (fun j o e ho => by simp [Value.ownBlock] at e; subst e; rw [blk_new] at ho; cases ho; rfl))
    have bm1 : Boxed w1 w.heap.size 136 (.slice Am lm cm) := blk_grown (blk_alloc hI.bm _) hg1 (by simp [Value.ownBlock]; omega)
    have bq1 : Boxed w1 (w.heap.size + 1 + 1) 136 (.slice (some ⟨w.heap.size + 1, 0, none⟩) xs.length xs.length) := blk_grown (blk_alloc hI.bq _) hg1 (by simp [Value.ownBlock]; omega)
    have br1 : Boxed w1 (w.heap.size + 1 + 1 + 1) 136 (.slice Ar nr cr) := blk_grown (blk_alloc hI.br _) hg1 (by simp [Value.ownBlock]; omega)
    have bi1 : Boxed w1 (w.heap.size + 1 + 1 + 1 + 1) 136 (.slice A xs.length c) := blk_grown (blk_alloc hI.bi _) hg1 (by simp [Value.ownBlock]; omega)
    have o1 := own_other (hI.own.alloc (.cells #[.int .u64 (rd xs (x.1 : Int))] 167)) hg1 (.inr (by simp [Value.ownBlock]; omega))
    have B1 : Below w.heap.size W w1 := ((Below.refl _ W).alloc hBW.size _).grown hg1 (by simp; have := hBW.size; omega) (fun k e => by simp [Value.ownBlock] at e; omega)
    have hw1 : W.heap.size + 1 ≤ w1.heap.size := by have := hg1.size; simpa using this
    have Hrun1 := Lib.hid hrun1
    clear hrun1 hg1 hown1 kA
    gi_wp2_with (first | (gi_at_builtin; refine in_append rfl _ _ 136 rfl _ _ v1 w1 rfl rfl Hrun1.out ?_) | (gi_at_call 179; refine (CallsIn.inRound l (hwide (trim_callsF _ _ _ _ hn1))).mono ?_; rintro e w2 ⟨u, rfl, hu0, hb2⟩; have hu := NumF.mono (ok' := fun k => w.heap.size + 4 < k) hu0 (fun k hk => by rcases hk with hk | hk <;> omega); rw [Htr.out] at hu; clear hu0; obtain ⟨Au, nu, cu, rfl⟩ : ∃ A n c, u = Value.slice A n c := (by obtain ⟨A, c, e, _⟩ := hu; exact ⟨A, _, c, e⟩); have br2 : Boxed w2 (w.heap.size + 1 + 1 + 1) 136 (.slice Ar nr cr) := blk_below br1 hb2; have bm2 : Boxed w2 w.heap.size 136 (.slice Am lm cm) := blk_below bm1 hb2; have hc2 := br2.cell; have hf2 := br2.frozen; have hm2 := bm2.cell))
    obtain ⟨w3, hw3⟩ : ∃ w3, w3 = w2.setCell ⟨w.heap.size + 1 + 1 + 1, 0, none⟩ (.slice Au nu cu) := ⟨_, rfl⟩
    have k3 : KeepsOthers W w3 := by rw [hw3]; exact (k1.trans (KO_below hb2)).trans (KeepsOthers.setCell _ _ _)
    have B3 : Below w.heap.size W w3 := by rw [hw3]; exact (B1.trans (hb2.mono (by have := hBW.size; omega))).setCell (p := ⟨w.heap.size + 1 + 1 + 1, 0, none⟩) (by simp; omega) _
    have bm3 : Boxed w3 w.heap.size 136 (.slice Am lm cm) := by rw [hw3]; exact blk_far bm2 (by simp <;> omega) _
    have bq3 : Boxed w3 (w.heap.size + 1 + 1) 136 (.slice (some ⟨w.heap.size + 1, 0, none⟩) xs.length xs.length) := by rw [hw3]; exact blk_far (blk_below bq1 hb2) (by simp <;> omega) _
    have br3 : Boxed w3 (w.heap.size + 1 + 1 + 1) 136 (.slice Au nu cu) := by rw [hw3]; exact boxSet br2 _
    have bi3 : Boxed w3 (w.heap.size + 1 + 1 + 1 + 1) 136 (.slice A xs.length c) := by rw [hw3]; exact blk_far (blk_below bi1 hb2) (by simp <;> omega) _
    have o3 : w3.ownsRow w.heap.size 167 1 (.slice (some ⟨w.heap.size + 1, 0, none⟩) xs.length xs.length) xs.length (nums .u64 Q) := by rw [hw3]; exact own_setCell (pw_own_below o1 hb2) (by simp [Value.ownBlock] <;> omega) _
    have n3 : NumF (fun k => w.heap.size + 4 < k) w3 (.slice Au nu cu) (limbs R1) := by rw [hw3]; exact hu.far (fun k hk => by omega) _
    have m3 : Num w3 (.slice Am lm cm) (limbs m) := hm.below (hBW.trans B3)
    rw [← hw3]
    have Hw3 := Lib.hid hw3
    clear hw3 hc2 hf2 hm2 br2 bm2 hu o1 B1 bm1 bq1 br1 bi1 k1 hb2 hrc hbl hil
    by_cases hc : R1 < m
    · have hsg : sg (R1 : Int) (m : Int) = -1 := sg_lt (by omega)
      have h3 := cmp_calls R1 m _ _ w3 n3.num m3
      rw [hsg] at h3
      have Hsg := Lib.hid hsg
      clear hsg
      refine (CallsIn.inRound l (hwide h3)).mono ?_
      rintro e w4 ⟨rfl, hb4⟩
      gi_wp2
      refine ⟨(k3.trans (KO_below hb4)).from _, ⟨B3.trans (hb4.mono (by have := (hBW.trans B3).size; omega)), (blk_below bi3 hb4).trans hI.bi.symm⟩, ⟨Q, R1, _, hI.len, hc, pw_own_below o3 hb4, blk_below bm3 hb4, blk_below bq3 hb4, blk_below br3 hb4, blk_below bi3 hb4, n3.below hb4, ?_⟩, (hBW.trans B3).trans (hb4.mono (by have := (hBW.trans B3).size; omega))⟩
      exact QOk_step hI.ok x hpl 0 R1 (by omega) (by omega) (by rw [Hd0.out]; have := HR1.out; omega) Q (fun ds e1 _ => by
        rw [e1]
        obtain ⟨k, hk⟩ : ∃ k, xs.length - pre.length = k + 1 := ⟨xs.length - pre.length - 1, by omega⟩
        rw [hk, List.replicate_succ', Nat.add_sub_cancel, List.append_assoc]
        rfl)
    · have hge := sg_range (R1 : Int) (m : Int)
      have hsg : 0 ≤ sg (R1 : Int) (m : Int) := by
        rcases Nat.lt_or_ge m R1 with h | h
        · rw [sg_gt (by omega)]; omega
        · rw [sg_eq (by omega)]; omega
      have h3 := cmp_calls R1 m _ _ w3 n3.num m3
      generalize sg (R1 : Int) (m : Int) = s0 at *
      refine (CallsIn.inRound l (hwide h3)).mono ?_
      rintro e w4 ⟨rfl, hb4⟩
      have k4 := k3.trans (KO_below hb4)
      have B4 := B3.trans (hb4.mono (by have := (hBW.trans B3).size; omega))
      have bm4 : Boxed w4 w.heap.size 136 (.slice Am lm cm) := blk_below bm3 hb4
      have bq4 : Boxed w4 (w.heap.size + 1 + 1) 136 (.slice (some ⟨w.heap.size + 1, 0, none⟩) xs.length xs.length) := blk_below bq3 hb4
      have br4 : Boxed w4 (w.heap.size + 1 + 1 + 1) 136 (.slice Au nu cu) := blk_below br3 hb4
      have bi4 : Boxed w4 (w.heap.size + 1 + 1 + 1 + 1) 136 (.slice A xs.length c) := blk_below bi3 hb4
      have o4 := pw_own_below o3 hb4
      have n4 := n3.below hb4
      have m4 : Num w4 (.slice Am lm cm) (limbs m) := hm.below (hBW.trans B4)
      clear h3 k3 B3 bm3 bq3 br3 bi3 o3 n3 m3 hb4 hge Hw3
      have hse := search_calls 999999999 (by omega) #[.pointer (some ⟨w.heap.size, 0, none⟩), .pointer (some ⟨w.heap.size + 1 + 1 + 1, 0, none⟩)] (fun k => decide (0 < sg ((m * (k + 1) : Nat) : Int) R1)) w4
        (fun k hk W5 hb5 => div1_calls m R1 k hk (by omega) w.heap.size (w.heap.size + 1 + 1 + 1) (.slice Am lm cm) (.slice Au nu cu) W5 (blk_below bm4 hb5) (blk_below br4 hb5) (m4.below hb5) (n4.num.below hb5))
      have Hse : Hid (Calls Tryz.prog 187 #[.int .i64 999999999, .func (.func 188) #[] #[.pointer (some ⟨w.heap.size, 0, none⟩), .pointer (some ⟨w.heap.size + 1 + 1 + 1, 0, none⟩)]] w4 _) := Lib.hid hse
      clear hse
      gi_wp2_with (fail)
      refine (CallsIn.inRound l (hwide Hse.out)).mono ?_
      rintro e w5 ⟨d, hdn, rfl, hd1, hd2, hb5⟩
      have hmd : m * d ≤ R1 := by
        rcases Nat.eq_zero_or_pos d with h | h
        · subst h; omega
        · have h1 := hd1 h
          rw [Nat.sub_add_cancel h, decide_eq_false_iff_not] at h1
          rcases Nat.lt_or_ge R1 (m * d) with h2 | h2
          · exact absurd (by rw [sg_gt (by omega)]; omega) h1
          · exact h2
      have hmd2 : R1 < m * (d + 1) := by
        rcases Nat.lt_or_ge d 999999999 with h | h
        · have h1 := of_decide_eq_true (hd2 h)
          rcases Nat.lt_or_ge R1 (m * (d + 1)) with h2 | h2
          · exact h2
          · rcases Nat.lt_or_ge (m * (d + 1)) R1 with h3 | h3
            · rw [sg_lt (by omega)] at h1; omega
            · rw [sg_eq (by omega)] at h1; omega
        · obtain rfl : d = 999999999 := by omega
          exact hR1m
      have hd0 : 0 < d := by
        rcases Nat.eq_zero_or_pos d with h | h
        · subst h; omega
        · exact h
      have k5 := k4.trans (KO_below hb5)
      have B5 := B4.trans (hb5.mono (by have := (hBW.trans B4).size; omega))
      have bm5 : Boxed w5 w.heap.size 136 (.slice Am lm cm) := blk_below bm4 hb5
      have bq5 : Boxed w5 (w.heap.size + 1 + 1) 136 (.slice (some ⟨w.heap.size + 1, 0, none⟩) xs.length xs.length) := blk_below bq4 hb5
      have br5 : Boxed w5 (w.heap.size + 1 + 1 + 1) 136 (.slice Au nu cu) := blk_below br4 hb5
      have bi5 : Boxed w5 (w.heap.size + 1 + 1 + 1 + 1) 136 (.slice A xs.length c) := blk_below bi4 hb5
      have o5 := pw_own_below o4 hb5
      have n5 := n4.below hb5
      clear k4 B4 bm4 bq4 br4 bi4 o4 n4 m4 hb5 hd1 hd2 Hse
      have hqc := bq5.cell
      obtain ⟨hqx, hqf⟩ := own_at o5 (x.1 : Int) (by omega) (by omega)
      simp only [Int.toNat_natCast] at hqx hqf
      have hst := own_store o5 (x.1 : Int) (d : Int)
      simp only [Int.toNat_natCast] at hst
      have hu64 : IntKind.u64.wrap (d : Int) = (d : Int) := u64_of (by omega) (by omega)
      obtain ⟨w6, hw6⟩ : ∃ w6, w6 = w5.setCell ⟨w.heap.size + 1, x.1, none⟩ (.int .u64 (d : Int)) := ⟨_, rfl⟩
      rw [← hw6] at hst
      have k6 : KeepsOthers W w6 := by rw [hw6]; exact k5.trans (KeepsOthers.setCell _ _ _)
      have B6 : Below w.heap.size W w6 := by rw [hw6]; exact B5.setCell (p := ⟨w.heap.size + 1, x.1, none⟩) (by simp) _
      have bm6 : Boxed w6 w.heap.size 136 (.slice Am lm cm) := by rw [hw6]; exact blk_far bm5 (by simp) _
      have bq6 : Boxed w6 (w.heap.size + 1 + 1) 136 (.slice (some ⟨w.heap.size + 1, 0, none⟩) xs.length xs.length) := by rw [hw6]; exact blk_far bq5 (by simp <;> omega) _
      have br6 : Boxed w6 (w.heap.size + 1 + 1 + 1) 136 (.slice Au nu cu) := by rw [hw6]; exact blk_far br5 (by simp <;> omega) _
      have bi6 : Boxed w6 (w.heap.size + 1 + 1 + 1 + 1) 136 (.slice A xs.length c) := by rw [hw6]; exact blk_far bi5 (by simp <;> omega) _
      have n6 : NumF (fun k => w.heap.size + 4 < k) w6 (.slice Au nu cu) (limbs R1) := by rw [hw6]; exact n5.far (fun k hk => by omega) _
      have m6 : Num w6 (.slice Am lm cm) (limbs m) := hm.below (hBW.trans B6)
      have Hw6 := Lib.hid hw6
      clear hw6 k5 B5 bm5 bq5 br5 bi5 o5 n5
      gi_wp2_with (fail)
      rw [← Hw6.out]
      have hrc6 := br6.cell
      have hrf6 := br6.frozen
      have hmc6 := bm6.cell
      have hbr6 := br6.lt
      have hbm6 := bm6.lt
      have n1 := fun W => Num.one W d hd0 (by omega)
      have hlm2 := limbs_len_le (a := m * d) (b := R1) hmd
      have HM : Hid ((limbs m).length + (limbs d).length ≤ 35184372088832) := by rw [limbs_small (n := d) hd0 (by omega)]; show _ ≤ _; simp; omega
      have HR : Hid ((limbs R1).length ≤ 35184372088832) := by show _ ≤ _; omega
      clear hqc hqx hqf
      gi_region_with (first | (gi_at_call 178; refine (CallsIn.inRound l (hwide (mul_calls m d HM _ _ _ (m6.below (by repeat (first | exact Below.refl _ _ | apply below_drew | apply below_alloc))) ((n1 _).below (by repeat (first | exact Below.refl _ _ | apply below_drew | apply below_alloc)))))).mono ?_; rintro e w7 ⟨p, rfl, hp, hb7⟩; have hbw7 := below_then (w := w6) (B := w6.heap.size) (by repeat (first | exact Below.refl _ _ | apply below_drew | apply below_alloc)) (by simp) hb7; have br7 : Boxed w7 (w.heap.size + 1 + 1 + 1) 136 (.slice Au nu cu) := blk_below br6 hbw7; have hc7 := br7.cell; have hf7 := br7.frozen; have hl7 := br7.lt; clear hb7) | (gi_at_call 145; refine (CallsIn.inRound l (hwide (sub_callsF R1 (m * d) hmd HR _ _ _ (n6.num.below (by repeat (first | exact hbw7 | apply below_drew | apply below_alloc))) (hp.below (by repeat (first | exact Below.refl _ _ | apply below_drew | apply below_alloc)))))).mono ?_; rintro e w8 ⟨q, rfl, hq, hb8⟩; obtain ⟨Aq, nq, cq, rfl⟩ : ∃ A n c, q = Value.slice A n c := (by obtain ⟨A, c, e, _⟩ := hq; exact ⟨A, _, c, e⟩); have hbw8 := below_then (w := w6) (B := w6.heap.size) (by repeat (first | exact hbw7 | apply below_drew | apply below_alloc)) (by have := hbw7.size; simpa using this) hb8; have br8 : Boxed w8 (w.heap.size + 1 + 1 + 1) 136 (.slice Au nu cu) := blk_below br6 hbw8; have hc8 := br8.cell; have hf8 := br8.frozen))
      all_goals
        have hlm8 := hbw8.size
        have q8 : NumF (fun k => w.heap.size + 4 < k) w8 (.slice Aq nq cq) (limbs (R1 - m * d)) := hq.mono (fun k hk => by
          have h1 := bi6.lt
          have h2 := hbw7.size
          have hk2 : w7.heap.size ≤ k := by first | exact hk | (have hk3 := hk; simp at hk3; omega)
          omega)
        have k8 := (k6.trans (KO_below hbw8)).trans (KeepsOthers.setCell w8 ⟨w.heap.size + 1 + 1 + 1, 0, none⟩ (.slice Aq nq cq))
        have hN6 := (hBW.trans B6).size
        have B8 := (B6.trans (hbw8.mono hN6)).setCell (p := ⟨w.heap.size + 1 + 1 + 1, 0, none⟩) (by simp; omega) (.slice Aq nq cq)
        have bm8 : Boxed (w8.setCell ⟨w.heap.size + 1 + 1 + 1, 0, none⟩ (.slice Aq nq cq)) w.heap.size 136 (.slice Am lm cm) := blk_far (blk_below bm6 hbw8) (by simp <;> omega) _
        have bq8 : Boxed (w8.setCell ⟨w.heap.size + 1 + 1 + 1, 0, none⟩ (.slice Aq nq cq)) (w.heap.size + 1 + 1) 136 (.slice (some ⟨w.heap.size + 1, 0, none⟩) xs.length xs.length) := blk_far (blk_below bq6 hbw8) (by simp <;> omega) _
        have bx8 : Boxed (w8.setCell ⟨w.heap.size + 1 + 1 + 1, 0, none⟩ (.slice Aq nq cq)) (w.heap.size + 1 + 1 + 1) 136 (.slice Aq nq cq) := boxSet br8 _
        have bi8 : Boxed (w8.setCell ⟨w.heap.size + 1 + 1 + 1, 0, none⟩ (.slice Aq nq cq)) (w.heap.size + 1 + 1 + 1 + 1) 136 (.slice A xs.length c) := blk_far (blk_below bi6 hbw8) (by simp <;> omega) _
        have o8 := own_setCell (p := ⟨w.heap.size + 1 + 1 + 1, 0, none⟩) (pw_own_below hst.1 hbw8) (by simp [Value.ownBlock] <;> omega) (.slice Aq nq cq)
        have q9 := q8.far (b := w.heap.size + 1 + 1 + 1) (j := 0) (fun k hk => by omega) (.slice Aq nq cq)
        have hlt8 : R1 - m * d < m := by rw [Nat.mul_add, Nat.mul_one] at hmd2; omega
        have hok8 : QOk xs m (R1 - m * d) (pre ++ [x]) (Q.set x.1 (d : Int)) := QOk_step hI.ok x hpl (d : Int) (R1 - m * d) (by omega) (by omega) (by
            have h1 := HR1.out
            rw [Hd0.out]
            have h2 : ((R1 - m * d : Nat) : Int) = (R1 : Int) - (m : Int) * (d : Int) := by rw [Int.ofNat_sub hmd]; push_cast; rfl
            rw [h2, Int.mul_comm (d : Int)]
            omega) _ (fun ds e1 e2 => by
              rw [e1, e2, show xs.length - 1 - pre.length = xs.length - pre.length - 1 from by omega]
              exact replicate_set (by omega) _ _)
        clear hq hbw8 hbw7 br8 hc8 hf8 hb8 hmd hmd2 hc n1
        gi_wp2
        exact ⟨k8.from _, ⟨B8, bi8.trans hI.bi.symm⟩, ⟨_, _, _, by rw [List.length_set]; exact hI.len, hlt8, o8, bm8, bq8, bx8, bi8, q9, hok8⟩, hBW.trans B8⟩
  case done =>
    rintro D zs W hD rfl ⟨⟨Q, r, vr, hI⟩, hBW⟩ hK
    obtain ⟨Ar, nr, cr, rfl⟩ : ∃ Ar nr cr, vr = .slice Ar nr cr := by obtain ⟨A, c, e, _⟩ := hI.num; exact ⟨A, _, c, e⟩
    obtain ⟨ds, e1, e2, e3, e4⟩ := hI.ok (by rw [bkl_length, List.take_of_length_le (by rw [bkl_length]; exact Nat.le_refl _)])
    rw [bkl_length, Nat.sub_self, List.replicate_zero, List.nil_append] at e1
    subst e1
    rw [bkl_length, top_all, HVX.out] at e4
    have hvr := val_range e3
    obtain ⟨q, hq⟩ := Int.eq_ofNat_of_zero_le hvr.1
    have hlt := hI.lt
    have haq : a = q * m + r := by
      rw [hq] at e4
      exact_mod_cast e4.symm
    have hdiv : a / m = q := by rw [haq, Nat.add_comm, Nat.add_mul_div_right _ _ hm0, Nat.div_eq_of_lt hlt, Nat.zero_add]
    have hmod : a % m = r := by rw [haq, Nat.add_comm, Nat.add_mul_mod_self_right, Nat.mod_eq_of_lt hlt]
    have htr : trimL Q = limbs (a / m) := by rw [trimL_limbs e3, hq, hdiv]; rfl
    have hqc := hI.bq.cell
    have hrc := hI.br.cell
    have hbl := hI.br.lt
    have hbr := hI.br
    have nQ : NumF (fun k => w.heap.size ≤ k) W (.slice (some ⟨w.heap.size + 1, 0, none⟩) xs.length xs.length) Q := NumF.of_own (by rw [hI.len]; exact hI.own)
    have hnum := hI.num
    have Hmod := Lib.hid hmod
    have Htr := Lib.hid htr
    clear e2 e3 e4 hvr hq haq hdiv hmod htr hI
    gi_wp2
    gi_region_with (first | (gi_at_call 179; refine (hwide (trim_callsF _ Q _ _ (nQ.below (by repeat (first | exact Below.refl _ _ | apply below_drew | apply below_alloc))))).mono ?_; rintro e w2 ⟨u, rfl, hu, hb2⟩; obtain ⟨Au, nu, cu, rfl⟩ : ∃ A n c, u = Value.slice A n c := (by obtain ⟨A, c, e, _⟩ := hu; exact ⟨A, _, c, e⟩); have hbw2 := below_then (w := W) (B := W.heap.size) (by repeat (first | exact Below.refl _ _ | apply below_drew | apply below_alloc)) (by simp) hb2; have br2 : Boxed w2 (w.heap.size + 1 + 1 + 1) 136 (.slice Ar nr cr) := blk_below hbr hbw2; have hc2 := br2.cell; clear hb2))
    all_goals
      have hK2 : w2.heap[D]? = some (.deferred (some [])) := (hbw2.block D (Array.getElem?_eq_some_iff.1 hK).1).trans hK
      have hrow : ∀ r, some D = some r → ∃ o : Obj, w2.heap[r]? = some o ∧ o.isCells = false := fun r e => by cases e; exact ⟨_, hK2, rfl⟩
      have u3 := hu.notcells (grownBy_putObj' w2 D (.deferred none)) hrow
      have r3 := (hnum.below hbw2).notcells (grownBy_putObj' w2 D (.deferred none)) hrow
      rw [Htr.out] at u3
      rw [← Hmod.out] at r3
      clear hc2
      gi_wp2
      refine ⟨by simp, .inl ⟨_, _, rfl, run_takeDeferred hK2, ?_⟩⟩
      refine ⟨.tuple #[.slice Au nu cu, .slice Ar nr cr], by simp [results, Tryz.f148, go_sem], _, _, rfl, u3.num, r3.num, ((hBW.trans (hbw2.mono hBW.size))).trans (belowK_b (w := w) (Nat.le_refl _) w2 D _ _ (by omega) hK2 rfl rfl)⟩
  case stop =>
    rintro D cc pre W hD _ hf hK
    exact hf.elim
end Go.Proofs.YthbcabnljcpaiaaGreatDoor.H
