/- A part of the proof that the register's laws hold; no condition of its own. -/
import Derived.Test.YthbcabnljcpaiaaGreatDoorZB12
import Derived.Test.YthbcabnljcpaiaaGreatDoorZB03
set_option linter.all false
namespace Go.Proofs.YthbcabnljcpaiaaGreatDoor.H
open Go.RowKit Go.Shelf Go.Lib Go.Proofs.YthbcabnljcpaiaaGreatDoorW.PrintWords
set_option linter.unusedVariables false
theorem bseq {w w1 w2 : World} (h : Below w.heap.size w w1) (h2 : Below w1.heap.size w1 w2) : Below w.heap.size w w2 := h.trans (h2.mono h.size)
theorem dec_lt (b : Nat) : b < 10 ^ (decDigits b).length := by
  have := dv_lt (decDigits_digs b)
  rwa [decDigits_dv] at this
theorem dec_le {a b : Nat} (h : a ≤ b) : (decDigits a).length ≤ (decDigits b).length :=
  decDigits_len_lt (List.length_pos_iff.2 (decDigits_ne b)) (Nat.lt_of_le_of_lt h (dec_lt b))
def S3 (a : Nat) : Prop := (decDigits a).length ≤ 300
theorem S3.le {a b : Nat} (h : S3 b) (hab : a ≤ b) : S3 a := Nat.le_trans (dec_le hab) h
theorem S3.isNat {a : Nat} (h : S3 a) : isNat (decDigits a) := ⟨decDigits_numeral a, h⟩
theorem S3.textV {a : Nat} (h : S3 a) : textV a = .tuple #[.string (dg a), .int .i64 0] := by unfold H.textV; exact if_pos h
theorem S3.limbs {a : Nat} (h : S3 a) : (limbs a).length ≤ 1000000 := by
  have h1 := limbs_len_pow (decDigits a).length a (dec_lt a)
  have : (decDigits a).length ≤ 300 := h
  omega
theorem S3.gcd {a b : Nat} (ha : S3 a) (hb : S3 b) : S3 (Nat.gcd a b) := by
  rcases Nat.eq_zero_or_pos a with h | h
  · rw [h, Nat.gcd_zero_left]; exact hb
  · exact ha.le (Nat.gcd_le_left _ h)
theorem dec_inj {a b : Nat} (h : decDigits a = decDigits b) : a = b := by rw [← decDigits_dv a, ← decDigits_dv b, h]
theorem dg_inj {a b : Nat} (h : dg a = dg b) : a = b := dec_inj (by simpa [dg] using h)
theorem dec0 : decDigits 0 = [48] := decDigits_one (by omega)
theorem dec1 : decDigits 1 = [49] := decDigits_one (by omega)
theorem dg_zero {a : Nat} : dg a = ⟨#[48]⟩ ↔ a = 0 := by
  rw [show (⟨#[48]⟩ : ByteArray) = dg 0 by unfold dg; rw [dec0]]
  exact ⟨dg_inj, fun h => by rw [h]⟩
theorem dg_one {a : Nat} : dg a = ⟨#[49]⟩ ↔ a = 1 := by
  rw [show (⟨#[49]⟩ : ByteArray) = dg 1 by unfold dg; rw [dec1]]
  exact ⟨dg_inj, fun h => by rw [h]⟩
theorem toList_ne {s : ByteArray} {l : List UInt8} (h : s ≠ ⟨l.toArray⟩) : (s.toList == l) = false := by
  rw [beq_eq_false_iff_ne, Lib.toList_data]
  intro e
  exact h (by cases s with | mk d => simp at e; subst e; simp)
theorem toList_eq {s : ByteArray} {l : List UInt8} : (s.toList == l) = true ↔ s = ⟨l.toArray⟩ := by
  rw [beq_iff_eq, Lib.toList_data]
  exact ⟨fun e => by cases s with | mk d => simp at e; subst e; simp, fun e => by rw [e]⟩
set_option maxRecDepth 100000 in
set_option maxHeartbeats 4000000 in
theorem divT_calls (a b : Nat) (ha : S3 a) (hb : S3 b) (hb0 : 0 < b) (w : World) (ht : Tab w) :
    Calls Tryz.prog 117 #[.string (dg a), .string (dg b)] w fun e w' => e = .returned (.tuple #[.string (dg (a / b)), .string (dg (a % b)), .int .i64 0]) ∧ Below w.heap.size w w' := by
  have h1 : ∀ w, Calls Tryz.prog 97 #[.string (dg a)] w _ := is_calls (decDigits a) (by have : (decDigits a).length ≤ 300 := ha; omega)
  have h2 : ∀ w, Calls Tryz.prog 97 #[.string (dg b)] w _ := is_calls (decDigits b) (by have : (decDigits b).length ≤ 300 := hb; omega)
  rw [decide_eq_true ha.isNat] at h1
  rw [decide_eq_true hb.isNat] at h2
  have h3 := parse_calls (dg a) (decDigits_digs a) (by have : (decDigits a).length ≤ 300 := ha; simp [ByteArray.size]; omega)
  have h4 := parse_calls (dg b) (decDigits_digs b) (by have : (decDigits b).length ≤ 300 := hb; simp [ByteArray.size]; omega)
  simp only [decDigits_dv] at h3 h4
  have h5 := div_calls a b hb0 ha.limbs hb.limbs
  have h6 := text_calls (a / b) (ha.le (Nat.div_le_self _ _)).limbs
  have h7 := text_calls (a % b) (hb.le (Nat.le_of_lt (Nat.mod_lt _ hb0))).limbs
  rw [(ha.le (Nat.div_le_self _ _)).textV] at h6
  rw [(hb.le (Nat.le_of_lt (Nat.mod_lt _ hb0))).textV] at h7
  have hne : dg b ≠ ⟨#[48]⟩ := fun e => by have := dg_zero.1 e; omega
  have hne := toList_ne (l := [48]) hne
  have H1 := hid h1
  have H2 := hid h2
  have H3 := hid h3
  have H4 := hid h4
  have H5 := hid h5
  have H6 := hid h6
  have H7 := hid h7
  clear h1 h2 h3 h4 h5 h6 h7 ha hb
  generalize dg (a / b) = qs at *
  generalize dg (a % b) = rs at *
  generalize dg a = sa at *
  generalize dg b = sb at *
  go_enter Tryz.func117, Tryz.ntmps117
  go_wp2_with (first | (go_at_call 97; with_reducible refine (H1.out _).mono ?_; rintro e w1 ⟨rfl, hb1⟩) | (go_at_call 97; with_reducible refine (H2.out _).mono ?_; rintro e w2 ⟨rfl, hb2⟩) | (go_at_call 143; with_reducible refine (H3.out _).mono ?_; rintro e w3 ⟨v3, rfl, hn3, hb3⟩) | (go_at_call 143; with_reducible refine (H4.out _).mono ?_; rintro e w4 ⟨v4, rfl, hn4, hb4⟩) | (go_at_call 148; refine (H5.out v3 v4 w4 (hn3.below hb4) hn4).mono ?_; rintro e w5 ⟨q, r, rfl, hq, hr, hb5⟩; have hw5 := bseq (bseq (bseq (bseq hb1 hb2) hb3) hb4) hb5) | (go_at_call 149; with_reducible refine (H6.out q _ (ht.below hw5) hq).mono ?_; rintro e w6 ⟨rfl, hb6⟩; have hw6 := bseq hw5 hb6; have hr6 := hr.below hb6) | (go_at_call 149; with_reducible refine (H7.out r _ (ht.below hw6) hr6).mono ?_; rintro e w7 ⟨rfl, hb7⟩; have hw7 := bseq hw6 hb7))
  go_ret3
  exact ⟨rfl, hw7⟩
end Go.Proofs.YthbcabnljcpaiaaGreatDoor.H
namespace Go.Proofs.YthbcabnljcpaiaaGreatDoor.H
open Go.RowKit Go.Shelf Go.Lib Go.Proofs.YthbcabnljcpaiaaGreatDoorW.PrintWords
set_option linter.unusedVariables false
abbrev rat (neg : Bool) (num den : ByteArray) : Value := .agg #[.bool neg, .string num, .string den]
theorem gcdV_dec {a b : Nat} (ha : S3 a) (hb : S3 b) : gcdV (decDigits a) (decDigits b) = .tuple #[.string (dg (Nat.gcd a b)), .int .i64 0] := by
  unfold gcdV
  rw [if_pos ⟨ha.isNat, hb.isNat⟩, decDigits_dv, decDigits_dv, (ha.gcd hb).textV]
structure Row3 (w : World) (b : Nat) (t : TypeId) (x y z : Value) : Prop where
  at_ : w.heap[b]? = some (.cells #[x, y, z] t (0, 0))
theorem Row3.c0 {w : World} {b t} {x y z} (h : Row3 w b t x y z) : w.cell? ⟨b, 0, none⟩ = some x := by rw [Lib.cell_of_heap h.at_]; rfl
theorem Row3.c1 {w : World} {b t} {x y z} (h : Row3 w b t x y z) : w.cell? ⟨b, 1, none⟩ = some y := by rw [Lib.cell_of_heap h.at_]; rfl
theorem Row3.c2 {w : World} {b t} {x y z} (h : Row3 w b t x y z) : w.cell? ⟨b, 2, none⟩ = some z := by rw [Lib.cell_of_heap h.at_]; rfl
theorem Row3.fz {w : World} {b t} {x y z} (h : Row3 w b t x y z) (j : Nat) : w.frozen? ⟨b, j, none⟩ = false := Lib.frozen_of_heap h.at_ j
theorem Row3.lt {w : World} {b t} {x y z} (h : Row3 w b t x y z) : b < w.heap.size := blk_lt h.at_
theorem Row3.new (w : World) (t : TypeId) (x y z : Value) : Row3 (w.alloc (.cells #[x, y, z] t)) w.heap.size t x y z := ⟨heap_alloc_new w _⟩
theorem Row3.below {w w' : World} {b t} {x y z} (h : Row3 w b t x y z) (hb : Below w.heap.size w w') : Row3 w' b t x y z := ⟨(hb.block b h.lt).trans h.at_⟩
theorem Row3.set0 {w : World} {b t} {x y z} (h : Row3 w b t x y z) (v : Value) : Row3 (w.setCell ⟨b, 0, none⟩ v) b t v y z := ⟨by simp [World.setCell, Array.getElem?_modify, h.at_]⟩
theorem Row3.set1 {w : World} {b t} {x y z} (h : Row3 w b t x y z) (v : Value) : Row3 (w.setCell ⟨b, 1, none⟩ v) b t x v z := ⟨by simp [World.setCell, Array.getElem?_modify, h.at_]⟩
theorem Row3.set2 {w : World} {b t} {x y z} (h : Row3 w b t x y z) (v : Value) : Row3 (w.setCell ⟨b, 2, none⟩ v) b t x y v := ⟨by simp [World.setCell, Array.getElem?_modify, h.at_]⟩
theorem Row3.far {w : World} {b t} {x y z} (h : Row3 w b t x y z) {p : Addr} (hp : b ≠ p.block) (v : Value) : Row3 (w.setCell p v) b t x y z := ⟨(Below.heap_setCell _ _ _ _ hp).trans h.at_⟩
set_option maxRecDepth 100000 in
set_option maxHeartbeats 4000000 in
theorem lowest_calls (neg : Bool) (a b : Nat) (ha : S3 a) (hb : S3 b) (hb0 : 0 < b) (w : World) (ht : Tab w) :
    Calls Tryz.prog 89 #[.bool neg, .string (dg a), .string (dg b)] w fun e w' =>
      e = .returned (.tuple #[rat (neg && decide (a / Nat.gcd a b ≠ 0)) (dg (a / Nat.gcd a b)) (dg (b / Nat.gcd a b)), .int .i64 0]) ∧ Below w.heap.size w w' := by
  have hg0 : 0 < Nat.gcd a b := Nat.gcd_pos_of_pos_right _ hb0
  have hS := ha.gcd hb
  have h1 : ∀ w, Tab w → Calls Tryz.prog 98 #[.string (dg a), .string (dg b)] w _ := gcdT_calls (decDigits a) (decDigits b) (by have : (decDigits a).length ≤ 300 := ha; omega) (by have : (decDigits b).length ≤ 300 := hb; omega)
  rw [gcdV_dec ha hb] at h1
  have h2 := divT_calls a _ ha hS hg0
  have h3 := divT_calls b _ hb hS hg0
  have hz : ((dg (a / Nat.gcd a b)).toList != [48]) = decide (a / Nat.gcd a b ≠ 0) := by
    by_cases h : a / Nat.gcd a b = 0
    · rw [decide_eq_false (fun e => e h), bne_eq_false_iff_eq, h]
      exact eq_of_beq (toList_eq.2 (dg_zero.2 rfl))
    · rw [decide_eq_true h, bne, toList_ne (fun e => h (dg_zero.1 e))]; rfl
  have H1 := hid h1
  have H2 := hid h2
  have H3 := hid h3
  generalize a / Nat.gcd a b = qa at *
  generalize dg (b / Nat.gcd a b) = sb at *
  generalize hk : decide (qa ≠ 0) = k at *
  generalize dg qa = sa at *
  clear h1 h2 h3 hk
  go_enter Tryz.func89, Tryz.ntmps89
  go_wp2_with (first | (go_at_call 98; refine (H1.out _ (ht.below (below_alloc (Below.refl _ _) _))).mono ?_; rintro e w1 ⟨rfl, hb1⟩; have hw1 := bseq (below_alloc (Below.refl _ _) _) hb1; have r1 := (Row3.new w 40 (.bool false) (.string ⟨#[]⟩) (.string ⟨#[]⟩)).below hb1) | (go_at_call 117; with_reducible refine (H2.out _ (ht.below (bseq hw1 (below_alloc (Below.refl _ _) _)))).mono ?_; rintro e w2 ⟨rfl, hb2⟩; have r2 := (Row3.new w1 40 (.bool neg) (.string ⟨#[]⟩) (.string ⟨#[]⟩)).below hb2; have q2 := (r1.below (below_alloc (Below.refl _ _) _)).below hb2; have c20 := r2.c0; have c21 := r2.c1; have c22 := r2.c2; have f21 := r2.fz 1; have l2 := r2.lt))
  have l1 := hw1.size
  have l2' := r1.lt
  obtain ⟨w3, hw3⟩ : ∃ w3, w3 = w2.setCell ⟨w1.heap.size, 1, none⟩ (.string sa) := ⟨_, rfl⟩
  rw [← hw3]
  have r3 : Row3 w3 w1.heap.size 40 (.bool neg) (.string sa) (.string ⟨#[]⟩) := by rw [hw3]; exact r2.set1 _
  have q3 : Row3 w3 w.heap.size 40 (.bool false) (.string ⟨#[]⟩) (.string ⟨#[]⟩) := by rw [hw3]; exact q2.far (by simp; omega) _
  have b3 : Below w.heap.size w w3 := by rw [hw3]; exact (bseq (bseq hw1 (below_alloc (Below.refl _ _) _)) hb2).setCell (p := ⟨w1.heap.size, 1, none⟩) (by simp; omega) _
  clear hw3 r2 q2 c20 c21 c22 f21 l2 hb2
  refine (H3.out w3 (ht.below b3)).mono ?_
  rintro e w4 ⟨rfl, hb4⟩
  have r4 := r3.below hb4
  have q4 := q3.below hb4
  have b4 := bseq b3 hb4
  have c0 := r4.c0
  have c1 := r4.c1
  have c2 := r4.c2
  have f2 := r4.fz 2
  have f0 := r4.fz 0
  have q0 := q4.c0
  have q1 := q4.c1
  have q2 := q4.c2
  have g0 := q4.fz 0
  have g1 := q4.fz 1
  have g2 := q4.fz 2
  have hne : w1.heap.size ≠ w.heap.size := by omega
  have hne' : w.heap.size ≠ w1.heap.size := by omega
  clear r3 q3 b3 hb4
  go_wp2
  · have rf := (((((q4.far (p := ⟨w1.heap.size, 2, none⟩) (by simp; omega) (.string sb)).far (p := ⟨w1.heap.size, 0, none⟩) (by simp; omega) (.bool (!sa.toList == [48]))).set0 (.bool (!sa.toList == [48]))).set1 (.string sa)).set2 (.string sb))
    refine bodyPost_ret (results_ct rfl _ _ w.heap.size 40 _ (0, 0) _ rfl rf.at_ Tryz.underlying40 rfl (by kernel_rfl)) rfl ⟨?_, ?_⟩
    · have : (!sa.toList == [48]) = k := hz
      have hn : neg = true := by assumption
      rw [this, hn]; rfl
    · exact ((((b4.setCell (p := ⟨w1.heap.size, 2, none⟩) (by simp; omega) _).setCell (p := ⟨w1.heap.size, 0, none⟩) (by simp; omega) _).setCell (p := ⟨w.heap.size, 0, none⟩) (by simp) _).setCell (p := ⟨w.heap.size, 1, none⟩) (by simp) _).setCell (p := ⟨w.heap.size, 2, none⟩) (by simp) _
  · have rf := (((((q4.far (p := ⟨w1.heap.size, 2, none⟩) (by simp; omega) (.string sb)).far (p := ⟨w1.heap.size, 0, none⟩) (by simp; omega) (.bool false)).set0 (.bool false)).set1 (.string sa)).set2 (.string sb))
    refine bodyPost_ret (results_ct rfl _ _ w.heap.size 40 _ (0, 0) _ rfl rf.at_ Tryz.underlying40 rfl (by kernel_rfl)) rfl ⟨?_, ?_⟩
    · have hn : neg = false := by first | assumption | exact Bool.eq_false_iff.2 (by assumption)
      rw [hn]; rfl
    exact ((((b4.setCell (p := ⟨w1.heap.size, 2, none⟩) (by simp; omega) _).setCell (p := ⟨w1.heap.size, 0, none⟩) (by simp; omega) _).setCell (p := ⟨w.heap.size, 0, none⟩) (by simp) _).setCell (p := ⟨w.heap.size, 1, none⟩) (by simp) _).setCell (p := ⟨w.heap.size, 2, none⟩) (by simp) _
theorem trimP_dec (n : Nat) : trimPrefix (decDigits n) [45] = decDigits n := by
  have h := decDigits_digs n
  cases e : decDigits n with
  | nil => rfl
  | cons c r =>
    have hc : Dig c := h c (by rw [e]; exact List.mem_cons_self)
    have hne : c ≠ 45 := fun e => by rw [e] at hc; unfold Dig at hc; simp at hc
    unfold trimPrefix hasPrefix
    simp [List.isPrefixOf]
    intro e
    exact absurd e.symm hne
theorem trimP_itoa (n : Int) : trimPrefix (itoa n) [45] = decDigits n.natAbs := by
  unfold itoa
  split
  · unfold trimPrefix hasPrefix
    simp [List.isPrefixOf]
  · rw [trimP_dec]
    congr 1
    omega
set_option maxRecDepth 100000 in
set_option maxHeartbeats 4000000 in
theorem size_calls (n : Int) (h0 : -9223372036854775808 ≤ n) (h1 : n ≤ 9223372036854775807) (w : World) (ht : Tab w) :
    Calls Tryz.prog 86 #[.int .i64 n] w fun e w' => e = .returned (.string (dg n.natAbs)) ∧ Below w.heap.size w w' := by
  have hi := Tryz.strconv_Itoa n h0 h1
  have htp := trimP_itoa n
  generalize itoa n = l at *
  go_enter Tryz.func86, Tryz.ntmps86
  go_wp2_with (first | (go_at_call 88; refine (hi w ht).mono ?_; rintro e w1 ⟨rfl, k, os, rfl⟩) | (go_at_call 87; refine (Tryz.strings_TrimPrefix _ _ _).mono ?_; rintro e w2 ⟨rfl, rfl⟩))
  go_ret
  exact ⟨rfl, below_grow w k os⟩
def ratOf (num den : Int) : Value := rat ((!(decide (num < 0) == decide (den < 0))) && decide (num.natAbs / Nat.gcd num.natAbs den.natAbs ≠ 0)) (dg (num.natAbs / Nat.gcd num.natAbs den.natAbs)) (dg (den.natAbs / Nat.gcd num.natAbs den.natAbs))
theorem S3.small {n : Nat} (h : n ≤ 9223372036854775808) : S3 n := by
  have : n < 10 ^ 19 := by omega
  exact Nat.le_trans (decDigits_len_lt (by omega) this) (by omega)
set_option maxRecDepth 100000 in
set_option maxHeartbeats 4000000 in
theorem of_calls (num den : Int) (h0 : -9223372036854775808 ≤ num) (h1 : num ≤ 9223372036854775807) (h2 : -9223372036854775808 ≤ den) (h3 : den ≤ 9223372036854775807) (hd : den ≠ 0) (w : World) (ht : Tab w) :
    Calls Tryz.prog 60 #[.int .i64 num, .int .i64 den] w fun e w' => e = .returned (.tuple #[ratOf num den, .int .i64 0]) ∧ Below w.heap.size w w' := by
  have ha := size_calls num h0 h1
  have hb := size_calls den h2 h3
  have hl := lowest_calls (!(decide (num < 0) == decide (den < 0))) num.natAbs den.natAbs (S3.small (by omega)) (S3.small (by omega)) (by omega)
  have Ha := hid ha
  have Hb := hid hb
  have Hl := hid hl
  have hd0 : (den == 0) = false := by rw [beq_eq_false_iff_ne]; exact hd
  unfold ratOf
  generalize hneg : ((!(decide (num < 0) == decide (den < 0))) && decide (num.natAbs / Nat.gcd num.natAbs den.natAbs ≠ 0)) = neg at *
  clear hneg
  generalize dg (num.natAbs / Nat.gcd num.natAbs den.natAbs) = sa at *
  generalize dg (den.natAbs / Nat.gcd num.natAbs den.natAbs) = sb at *
  generalize dg num.natAbs = na at *
  generalize dg den.natAbs = nb at *
  clear ha hb hl h0 h1 h2 h3
  go_enter Tryz.func60, Tryz.ntmps60
  go_wp2_with (first | (go_at_call 86; with_reducible refine (Ha.out _ (ht.below (below_alloc (Below.refl _ _) _))).mono ?_; rintro e w1 ⟨rfl, hb1⟩; have hw1 := bseq (below_alloc (Below.refl _ _) _) hb1; have r1 := (Row3.new w 40 (.bool false) (.string ⟨#[]⟩) (.string ⟨#[]⟩)).below hb1) | (go_at_call 86; with_reducible refine (Hb.out _ (ht.below hw1)).mono ?_; rintro e w2 ⟨rfl, hb2⟩; have hw2 := bseq hw1 hb2; have r2 := r1.below hb2) | (go_at_call 89; with_reducible refine (Hl.out _ (ht.below hw2)).mono ?_; rintro e w3 ⟨rfl, hb3⟩; have hw3 := bseq hw2 hb3; have r3 := r2.below hb3; have q0 := r3.c0; have q1 := r3.c1; have q2 := r3.c2; have g0 := r3.fz 0; have g1 := r3.fz 1; have g2 := r3.fz 2))
  have rf := ((r3.set0 (.bool neg)).set1 (.string sa)).set2 (.string sb)
  refine bodyPost_ret (results_ct rfl _ _ w.heap.size 40 _ (0, 0) _ rfl rf.at_ Tryz.underlying40 rfl (by kernel_rfl)) rfl ⟨rfl, ?_⟩
  exact ((hw3.setCell (p := ⟨w.heap.size, 0, none⟩) (by simp) _).setCell (p := ⟨w.heap.size, 1, none⟩) (by simp) _).setCell (p := ⟨w.heap.size, 2, none⟩) (by simp) _
end Go.Proofs.YthbcabnljcpaiaaGreatDoor.H
namespace Go.Proofs.YthbcabnljcpaiaaGreatDoor.H
open Go.RowKit Go.Shelf Go.Lib Go.Proofs.YthbcabnljcpaiaaGreatDoorW.PrintWords
set_option linter.unusedVariables false
def validR (neg : Bool) (l m : List UInt8) : Prop := isNat l ∧ isNat m ∧ m ≠ [48] ∧ (if l = [48] then neg = false ∧ m = [49] else Nat.gcd (dv l) (dv m) = 1)
instance (neg : Bool) (l m : List UInt8) : Decidable (validR neg l m) := by unfold validR; infer_instance
theorem isNat_dec {l : List UInt8} (h : isNat l) : ∃ a, S3 a ∧ l = decDigits a := ⟨dv l, by unfold S3; rw [numeral_eq h.1]; exact h.2, (numeral_eq h.1).symm⟩
set_option maxRecDepth 100000 in
set_option maxHeartbeats 4000000 in
theorem valid_calls (neg : Bool) (l m : List UInt8) (hl : l.length ≤ 9223372036854775807) (hm : m.length ≤ 9223372036854775807) (w : World) (ht : Tab w) :
    Calls Tryz.prog 69 #[rat neg (bs l) (bs m)] w fun e w' => e = .returned (.bool (decide (validR neg l m))) ∧ Below w.heap.size w w' := by
  have h1 := is_calls l hl
  have h2 := is_calls m hm
  have H1 := hid h1
  have H2 := hid h2
  clear h1 h2
  have R := Row3.new w 40 (.bool neg) (.string (bs l)) (.string (bs m))
  have hbw := below_alloc (Below.refl w.heap.size w) (.cells #[.bool neg, .string (bs l), .string (bs m)] 40)
  by_cases hL : isNat l
  · by_cases hM : isNat m
    · by_cases h48 : m = [48]
      · subst h48
        rw [decide_eq_false (fun h => h.2.2.1 rfl)]
        rw [decide_eq_true hL] at H1
        rw [decide_eq_true hM] at H2
        clear hL hM
        go_enter Tryz.func69, Tryz.ntmps69
        go_wp2_with (first | (go_at_call 97; with_reducible refine (H1.out _).mono ?_; rintro e w1 ⟨rfl, hb1⟩; have hw1 := bseq hbw hb1; have r1 := R.below hb1; have c1 := r1.c1; have c2 := r1.c2; have lt := r1.lt) | (go_at_call 97; with_reducible refine (H2.out _).mono ?_; rintro e w2 ⟨rfl, hb2⟩; have hw2 := bseq hw1 hb2; have r2 := r1.below hb2; have d0 := r2.c0; have d1 := r2.c1; have d2 := r2.c2; have lt2 := r2.lt))
        go_ret
        exact ⟨rfl, hw2⟩
      · obtain ⟨a, ha, rfl⟩ := isNat_dec hL
        obtain ⟨b, hb, rfl⟩ := isNat_dec hM
        have hb48 : ((bs (decDigits b)).toList == [48]) = false := toList_ne (fun e => h48 (by simpa using e))
        have hb48' : (decDigits b == [48]) = false := by rw [beq_eq_false_iff_ne]; exact h48
        rw [decide_eq_true hL] at H1
        rw [decide_eq_true hM] at H2
        by_cases ha0 : a = 0
        · subst ha0
          have e1 : (bs (decDigits 0)).toList = [48] := eq_of_beq (toList_eq.2 (dg_zero.2 rfl))
          have hres : decide (validR neg (decDigits 0) (decDigits b)) = (!neg && ((bs (decDigits b)).toList == [49])) := by
            have : validR neg (decDigits 0) (decDigits b) ↔ neg = false ∧ b = 1 := by
              unfold validR
              rw [if_pos dec0]
              exact ⟨fun h => ⟨h.2.2.2.1, dec_inj (h.2.2.2.2.trans dec1.symm)⟩, fun h => ⟨hL, hM, h48, h.1, by rw [h.2, dec1]⟩⟩
            cases neg
            · by_cases h1 : b = 1
              · rw [decide_eq_true (this.2 ⟨rfl, h1⟩), toList_eq.2 (dg_one.2 h1)]; rfl
              · rw [decide_eq_false (fun e => h1 (this.1 e).2), toList_ne (fun e => h1 (dg_one.1 e))]; rfl
            · rw [decide_eq_false (fun e => by have := (this.1 e).1; cases this)]; rfl
          clear hL hM
          go_enter Tryz.func69, Tryz.ntmps69
          go_wp2_with (first | (go_at_call 97; with_reducible refine (H1.out _).mono ?_; rintro e w1 ⟨rfl, hb1⟩; have hw1 := bseq hbw hb1; have r1 := R.below hb1; have c1 := r1.c1; have c2 := r1.c2; have lt := r1.lt) | (go_at_call 97; with_reducible refine (H2.out _).mono ?_; rintro e w2 ⟨rfl, hb2⟩; have hw2 := bseq hw1 hb2; have r2 := r1.below hb2; have d0 := r2.c0; have d1 := r2.c1; have d2 := r2.c2; have lt2 := r2.lt))
          all_goals go_ret
          all_goals refine ⟨?_, hw2⟩
          all_goals rw [hres]
          all_goals first | (simp [*]; done) | (simp_all; done)
        · have ha48 : ((bs (decDigits a)).toList == [48]) = false := toList_ne (fun e => ha0 (dg_zero.1 e))
          have ha48' : (decDigits a == [48]) = false := by rw [beq_eq_false_iff_ne]; exact fun e => ha0 (dec_inj (e.trans dec0.symm))
          have hg : ∀ w, Tab w → Calls Tryz.prog 98 #[.string (dg a), .string (dg b)] w _ := gcdT_calls (decDigits a) (decDigits b) hl hm
          rw [gcdV_dec ha hb] at hg
          have hres : decide (validR neg (decDigits a) (decDigits b)) = ((dg (Nat.gcd a b)).toList == [49]) := by
            have : validR neg (decDigits a) (decDigits b) ↔ Nat.gcd a b = 1 := by
              unfold validR
              rw [if_neg (fun e => ha0 (by rw [← dec0] at e; exact dec_inj e)), decDigits_dv, decDigits_dv]
              exact ⟨fun h => h.2.2.2, fun h => ⟨hL, hM, h48, h⟩⟩
            by_cases h1 : Nat.gcd a b = 1
            · rw [decide_eq_true (this.2 h1), toList_eq.2 (dg_one.2 h1)]
            · rw [decide_eq_false (fun e => h1 (this.1 e)), toList_ne (fun e => h1 (dg_one.1 e))]
          rw [hres]
          have Hg := hid hg
          clear hL hM hg hres
          generalize dg (Nat.gcd a b) = sg at *
          go_enter Tryz.func69, Tryz.ntmps69
          go_wp2_with (first | (go_at_call 97; with_reducible refine (H1.out _).mono ?_; rintro e w1 ⟨rfl, hb1⟩; have hw1 := bseq hbw hb1; have r1 := R.below hb1; have c1 := r1.c1; have c2 := r1.c2; have lt := r1.lt) | (go_at_call 97; with_reducible refine (H2.out _).mono ?_; rintro e w2 ⟨rfl, hb2⟩; have hw2 := bseq hw1 hb2; have r2 := r1.below hb2; have d0 := r2.c0; have d1 := r2.c1; have d2 := r2.c2; have lt2 := r2.lt) | (go_at_call 98; refine (Hg.out _ (ht.below hw2)).mono ?_; rintro e w3 ⟨rfl, hb3⟩; have hw3 := bseq hw2 hb3))
          go_ret
          exact ⟨rfl, hw3⟩
    · rw [decide_eq_false (fun h => hM h.2.1)]
      rw [decide_eq_true hL] at H1
      rw [decide_eq_false hM] at H2
      clear hL hM
      go_enter Tryz.func69, Tryz.ntmps69
      go_wp2_with (first | (go_at_call 97; with_reducible refine (H1.out _).mono ?_; rintro e w1 ⟨rfl, hb1⟩; have hw1 := bseq hbw hb1; have r1 := R.below hb1; have c1 := r1.c1; have c2 := r1.c2; have lt := r1.lt) | (go_at_call 97; with_reducible refine (H2.out _).mono ?_; rintro e w2 ⟨rfl, hb2⟩; have hw2 := bseq hw1 hb2))
      go_ret
      exact ⟨rfl, hw2⟩
  · rw [decide_eq_false (fun h => hL h.1)]
    rw [decide_eq_false hL] at H1
    clear hL
    go_enter Tryz.func69, Tryz.ntmps69
    go_wp2_with (first | (go_at_call 97; with_reducible refine (H1.out _).mono ?_; rintro e w1 ⟨rfl, hb1⟩; have hw1 := bseq hbw hb1))
    go_ret
    exact ⟨rfl, hw1⟩
end Go.Proofs.YthbcabnljcpaiaaGreatDoor.H
