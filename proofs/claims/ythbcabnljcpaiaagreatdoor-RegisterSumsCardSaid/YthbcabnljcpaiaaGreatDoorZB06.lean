/- A part of the proof that the register's laws hold; no condition of its own. -/
import Derived.Test.YthbcabnljcpaiaaGreatDoorZB04
import Derived.Test.YthbcabnljcpaiaaGreatDoorZB05
set_option linter.all false
namespace Go.Proofs.YthbcabnljcpaiaaGreatDoor.H
open Go.RowKit Go.Proofs.YthbcabnljcpaiaaGreatDoorW.PrintWords Go.Proofs.YthbcabnljcpaiaaGreatDoor.M
set_option linter.unusedVariables false
def val : List Int → Int
  | [] => 0
  | x :: xs => x + 1000000000 * val xs
def OKL (xs : List Int) : Prop := ∀ x ∈ xs, 0 ≤ x ∧ x < 1000000000
def pw (n : Nat) : Int := 1000000000 ^ n
theorem pw_zero : pw 0 = 1 := rfl
theorem pw_succ (n : Nat) : pw (n + 1) = 1000000000 * pw n := by unfold pw; rw [Int.pow_succ, Int.mul_comm]
theorem OKL.nil : OKL [] := fun x h => by simp at h
theorem OKL.cons {x : Int} {xs : List Int} (h0 : 0 ≤ x) (h1 : x < 1000000000) (h : OKL xs) : OKL (x :: xs) := fun y hy => by
  rcases List.mem_cons.1 hy with rfl | hy
  · exact ⟨h0, h1⟩
  · exact h y hy
theorem OKL.head {x : Int} {xs : List Int} (h : OKL (x :: xs)) : 0 ≤ x ∧ x < 1000000000 := h x List.mem_cons_self
theorem OKL.tail {x : Int} {xs : List Int} (h : OKL (x :: xs)) : OKL xs := fun y hy => h y (List.mem_cons_of_mem _ hy)
theorem val_range {xs : List Int} (h : OKL xs) : 0 ≤ val xs ∧ val xs < pw xs.length := by
  induction xs with
  | nil => simp [val, pw]
  | cons x xs ih =>
    have h1 := h.head
    have h2 := ih h.tail
    rw [val, List.length_cons, pw_succ]
    omega
theorem val_append (xs ys : List Int) : val (xs ++ ys) = val xs + pw xs.length * val ys := by
  induction xs with
  | nil => simp [val, pw]
  | cons x xs ih =>
    rw [List.cons_append, val, val, ih, List.length_cons, pw_succ, Int.mul_add, Int.mul_assoc]
    omega
theorem val_zeros (n : Nat) : val (List.replicate n 0) = 0 := by
  induction n with
  | zero => rfl
  | succ n ih => rw [List.replicate_succ, val, ih]; rfl
def trimL (xs : List Int) : List Int := (xs.reverse.dropWhile (· == 0)).reverse
theorem trimL_nil : trimL [] = [] := rfl
theorem trimL_snoc_zero (xs : List Int) : trimL (xs ++ [0]) = trimL xs := by simp [trimL]
theorem trimL_snoc {x : Int} (xs : List Int) (h : x ≠ 0) : trimL (xs ++ [x]) = xs ++ [x] := by simp [trimL, h]
def Canon (xs : List Int) : Prop := OKL xs ∧ trimL xs = xs
theorem snoc_induction {P : List Int → Prop} (h0 : P []) (h : ∀ xs x, P xs → P (xs ++ [x])) (xs : List Int) : P xs := by
  have : ∀ n, ∀ xs : List Int, xs.length = n → P xs := by
    intro n
    induction n with
    | zero => intro xs hx; rw [List.length_eq_zero_iff.1 hx]; exact h0
    | succ n ih =>
      intro xs hx
      have hne : xs ≠ [] := by intro e; subst e; simp at hx
      rw [← List.dropLast_concat_getLast hne]
      exact h _ _ (ih _ (by simp [hx]))
  exact this _ xs rfl
theorem trimL_val (xs : List Int) : val (trimL xs) = val xs := by
  refine snoc_induction (P := fun xs => val (trimL xs) = val xs) rfl (fun xs x ih => ?_) xs
  by_cases h : x = 0
  · subst h
    rw [trimL_snoc_zero, ih, val_append]
    simp [val]
  · rw [trimL_snoc _ h]
theorem trimL_idem (xs : List Int) : trimL (trimL xs) = trimL xs := by
  refine snoc_induction (P := fun xs => trimL (trimL xs) = trimL xs) rfl (fun xs x ih => ?_) xs
  by_cases h : x = 0
  · subst h
    rw [trimL_snoc_zero, ih]
  · rw [trimL_snoc _ h, trimL_snoc _ h]
theorem trimL_OKL {xs : List Int} (h : OKL xs) : OKL (trimL xs) := fun x hx => h x (by
  unfold trimL at hx
  have := (List.dropWhile_sublist (· == 0) (l := xs.reverse)).subset (List.mem_reverse.1 hx)
  exact List.mem_reverse.1 this)
theorem trimL_canon {xs : List Int} (h : OKL xs) : Canon (trimL xs) := ⟨trimL_OKL h, trimL_idem xs⟩
theorem trimL_length (xs : List Int) : (trimL xs).length ≤ xs.length := by
  unfold trimL
  rw [List.length_reverse]
  have := (List.dropWhile_sublist (· == 0) (l := xs.reverse)).length_le
  simpa using this
def limbs (n : Nat) : List Int := if h : n = 0 then [] else ((n % 1000000000 : Nat) : Int) :: limbs (n / 1000000000)
termination_by n
decreasing_by exact Nat.div_lt_self (by omega) (by omega)
theorem limbs_zero : limbs 0 = [] := by rw [limbs]; rfl
theorem limbs_pos {n : Nat} (h : n ≠ 0) : limbs n = ((n % 1000000000 : Nat) : Int) :: limbs (n / 1000000000) := by rw [limbs]; simp [h]
theorem limbs_val (n : Nat) : val (limbs n) = n := by
  induction n using Nat.strongRecOn with
  | _ n ih =>
    by_cases h : n = 0
    · subst h; rw [limbs_zero]; rfl
    · rw [limbs_pos h, val, ih _ (Nat.div_lt_self (by omega) (by omega))]
      omega
theorem limbs_OKL (n : Nat) : OKL (limbs n) := by
  induction n using Nat.strongRecOn with
  | _ n ih =>
    by_cases h : n = 0
    · subst h; rw [limbs_zero]; exact OKL.nil
    · rw [limbs_pos h]
      exact OKL.cons (by omega) (by omega) (ih _ (Nat.div_lt_self (by omega) (by omega)))
theorem trimL_cons (x : Int) (xs : List Int) : trimL (x :: xs) = if trimL xs = [] ∧ x = 0 then [] else x :: trimL xs := by
  refine snoc_induction (P := fun xs => trimL (x :: xs) = if trimL xs = [] ∧ x = 0 then [] else x :: trimL xs) ?_ (fun xs y ih => ?_) xs
  · by_cases h : x = 0
    · subst h; rfl
    · have := trimL_snoc [] h
      simp only [List.nil_append] at this
      simp [this, h, trimL_nil]
  · by_cases h : y = 0
    · subst h
      rw [← List.cons_append, trimL_snoc_zero, ih, trimL_snoc_zero]
    · rw [← List.cons_append, trimL_snoc _ h, trimL_snoc _ h]
      simp
theorem canon_unique : ∀ {xs ys : List Int}, Canon xs → Canon ys → val xs = val ys → xs = ys := by
  have zero : ∀ {xs : List Int}, OKL xs → val xs = 0 → trimL xs = [] := by
    intro xs
    induction xs with
    | nil => intros; rfl
    | cons x xs ih =>
      intro h hv
      have h1 := h.head
      have h2 := val_range h.tail
      rw [val] at hv
      have hx : x = 0 := by omega
      have hv2 : val xs = 0 := by omega
      rw [trimL_cons, if_pos ⟨ih h.tail hv2, hx⟩]
  intro xs
  induction xs with
  | nil =>
    intro ys h1 h2 hv
    have := zero h2.1 (by rw [← hv]; rfl)
    rw [h2.2] at this
    exact this.symm
  | cons x xs ih =>
    intro ys h1 h2 hv
    cases ys with
    | nil =>
      have := zero h1.1 (by rw [hv]; rfl)
      rw [h1.2] at this
      exact this
    | cons y ys =>
      have a1 := h1.1.head
      have a2 := h2.1.head
      rw [val, val] at hv
      have c : ∀ {z : Int} {zs : List Int}, Canon (z :: zs) → Canon zs := fun {z zs} h => by
        refine ⟨h.1.tail, ?_⟩
        have := h.2
        rw [trimL_cons] at this
        split at this
        · simp at this
        · simpa using this
      have hxy : x = y := by omega
      have hvv : val xs = val ys := by omega
      rw [hxy, ih (c h1) (c h2) hvv]
theorem limbs_canon (n : Nat) : Canon (limbs n) := by
  refine ⟨limbs_OKL n, ?_⟩
  induction n using Nat.strongRecOn with
  | _ n ih =>
    by_cases h : n = 0
    · subst h; rw [limbs_zero]; rfl
    · rw [limbs_pos h, trimL_cons, ih _ (Nat.div_lt_self (by omega) (by omega))]
      rw [if_neg]
      rintro ⟨h1, h2⟩
      have h3 := limbs_val (n / 1000000000)
      rw [h1] at h3
      simp only [val] at h3
      omega
theorem canon_limbs {xs : List Int} (h : Canon xs) : xs = limbs (val xs).toNat :=
  canon_unique h (limbs_canon _) (by rw [limbs_val]; have := (val_range h.1).1; omega)
theorem trimL_limbs {xs : List Int} (h : OKL xs) : trimL xs = limbs (val xs).toNat := by
  have := canon_limbs (trimL_canon h)
  rw [trimL_val] at this
  exact this
theorem Ev_ite_pos {α : Type} {c : Prop} [Decidable c] {a b : Nat → Option α} {r : α} (h : c) (k : Ev a r) : Ev (fun n => if c then a n else b n) r := by
  obtain ⟨K, hK⟩ := k
  exact ⟨K, fun n hn => (if_pos h).trans (hK n hn)⟩
theorem Ev_ite_neg {α : Type} {c : Prop} [Decidable c] {a b : Nat → Option α} {r : α} (h : ¬ c) (k : Ev b r) : Ev (fun n => if c then a n else b n) r := by
  obtain ⟨K, hK⟩ := k
  exact ⟨K, fun n hn => (if_neg h).trans (hK n hn)⟩
theorem u64_of {x : Int} (h0 : 0 ≤ x) (h1 : x < 18446744073709551616) : IntKind.u64.wrap x = x := IntWalk.u64_in x ⟨h0, by omega⟩
theorem trim_ev (xs : List Int) (hm : xs.length ≤ 9223372036854775807) : Ev (fun k => natural_number_trim.f k xs) (trimL xs) := by
  show Ev (fun k => natural_number_trim.l0 k xs) (trimL xs)
  revert hm
  refine snoc_induction (P := fun xs => xs.length ≤ 9223372036854775807 → Ev (fun k => natural_number_trim.l0 k xs) (trimL xs)) ?_ (fun xs x ih => ?_) xs
  · intro _
    exact Ev.step (f := fun _ => some []) (fun k => by simp [natural_number_trim.l0]) (Ev.now _)
  · intro hm
    have hl : (xs ++ [x]).length = xs.length + 1 := by simp
    have hw : wrap64 (((xs ++ [x]).length : Int) - 1) = (xs.length : Int) := by rw [hl]; unfold wrap64; omega
    have hr : rd (xs ++ [x]) (xs.length : Int) = x := by simp [rd]
    by_cases h : x = 0
    · subst h
      refine Ev.step (f := fun k => natural_number_trim.l0 k xs) (fun k => ?_) (by rw [trimL_snoc_zero]; exact ih (by omega))
      simp only [natural_number_trim.l0, hw, hr]
      rw [if_pos (by omega), if_pos (by omega), if_pos (by omega), if_pos trivial, if_pos (by omega)]
      simp
    · refine Ev.step (f := fun _ => some (xs ++ [x])) (fun k => ?_) (by rw [trimL_snoc _ h]; exact Ev.now _)
      simp only [natural_number_trim.l0, hw, hr]
      rw [if_pos (by omega), if_pos (by omega), if_pos (by omega), if_neg h]
def subP : List Int → List Int → Int → List Int
  | [], _, _ => []
  | x :: xs, [], b => if x < b then (x + 1000000000 - b) :: subP xs [] 1 else (x - b) :: subP xs [] 0
  | x :: xs, y :: ys, b => if x < b + y then (x + 1000000000 - (b + y)) :: subP xs ys 1 else (x - (b + y)) :: subP xs ys 0
theorem subP_length : ∀ (xs ys : List Int) (b : Int), (subP xs ys b).length = xs.length
  | [], _, _ => rfl
  | x :: xs, [], b => by rw [subP]; split <;> simp [subP_length xs]
  | x :: xs, y :: ys, b => by rw [subP]; split <;> simp [subP_length xs]
theorem subP_val : ∀ (xs ys : List Int) (b : Int), OKL xs → OKL ys → 0 ≤ b → b ≤ 1 → ys.length ≤ xs.length →
    ∃ c : Int, 0 ≤ c ∧ c ≤ 1 ∧ val (subP xs ys b) = val xs - val ys - b + c * pw xs.length ∧ OKL (subP xs ys b)
  | [], [], b, _, _, h0, h1, _ => ⟨b, h0, h1, by simp [subP, val, pw]; omega, OKL.nil⟩
  | [], y :: ys, b, _, _, h0, h1, h => by simp at h
  | x :: xs, [], b, hx, hy, h0, h1, h => by
    have a := hx.head
    rw [subP]
    split
    · obtain ⟨c, c0, c1, hv, ho⟩ := subP_val xs [] 1 hx.tail hy (by omega) (by omega) (by simp)
      refine ⟨c, c0, c1, ?_, OKL.cons (by omega) (by omega) ho⟩
      show (x + 1000000000 - b) + 1000000000 * val (subP xs [] 1) = (x + 1000000000 * val xs) - 0 - b + c * pw (xs.length + 1)
      rw [hv, pw_succ, Int.mul_left_comm, show val [] = 0 from rfl]
      omega
    · obtain ⟨c, c0, c1, hv, ho⟩ := subP_val xs [] 0 hx.tail hy (by omega) (by omega) (by simp)
      refine ⟨c, c0, c1, ?_, OKL.cons (by omega) (by omega) ho⟩
      show (x - b) + 1000000000 * val (subP xs [] 0) = (x + 1000000000 * val xs) - 0 - b + c * pw (xs.length + 1)
      rw [hv, pw_succ, Int.mul_left_comm, show val [] = 0 from rfl]
      omega
  | x :: xs, y :: ys, b, hx, hy, h0, h1, h => by
    have a := hx.head
    have a' := hy.head
    rw [subP]
    split
    · obtain ⟨c, c0, c1, hv, ho⟩ := subP_val xs ys 1 hx.tail hy.tail (by omega) (by omega) (by simpa using h)
      refine ⟨c, c0, c1, ?_, OKL.cons (by omega) (by omega) ho⟩
      rw [val, hv, val, val, List.length_cons, pw_succ, Int.mul_left_comm]
      omega
    · obtain ⟨c, c0, c1, hv, ho⟩ := subP_val xs ys 0 hx.tail hy.tail (by omega) (by omega) (by simpa using h)
      refine ⟨c, c0, c1, ?_, OKL.cons (by omega) (by omega) ho⟩
      rw [val, hv, val, val, List.length_cons, pw_succ, Int.mul_left_comm]
      omega
theorem sub_limbs {a b : Nat} (h : b ≤ a) : trimL (subP (limbs a) (limbs b) 0) = limbs (a - b) := by
  have hl : (limbs b).length ≤ (limbs a).length := by
    have : ∀ (b a : Nat), b ≤ a → (limbs b).length ≤ (limbs a).length := by
      intro b
      induction b using Nat.strongRecOn with
      | _ b ih =>
        intro a h
        by_cases hb : b = 0
        · subst hb; rw [limbs_zero]; simp
        · rw [limbs_pos hb, limbs_pos (n := a) (by omega)]
          have := ih (b / 1000000000) (Nat.div_lt_self (by omega) (by omega)) (a / 1000000000) (Nat.div_le_div_right h)
          simpa using this
    exact this b a h
  obtain ⟨c, c0, c1, hv, ho⟩ := subP_val (limbs a) (limbs b) 0 (limbs_OKL a) (limbs_OKL b) (by omega) (by omega) hl
  have hr := val_range ho
  rw [subP_length] at hr
  rw [limbs_val, limbs_val] at hv
  have ha := val_range (limbs_OKL a)
  rw [limbs_val] at ha
  have hc : c = 0 := by
    by_cases hc : c = 0
    · exact hc
    · obtain rfl : c = 1 := by omega
      omega
  subst hc
  rw [trimL_limbs ho]
  congr 1
  omega
theorem rd_drop_cons {xs : List Int} {i : Nat} (h : i < xs.length) : xs.drop i = rd xs (i : Int) :: xs.drop (i + 1) := by
  rw [List.drop_eq_getElem_cons h]
  simp [rd, h]
theorem rd_OKL {xs : List Int} (h : OKL xs) {i : Nat} (hi : i < xs.length) : 0 ≤ rd xs (i : Int) ∧ rd xs (i : Int) < 1000000000 :=
  h _ (by simp [rd, hi])
theorem set_mid {P : List Int} {z v : Int} {Q : List Int} {i : Nat} (h : P.length = i) : (P ++ z :: Q).set i v = (P ++ [v]) ++ Q := by
  subst h
  simp
theorem sub_loop (xs ys : List Int) (hx : OKL xs) (hy : OKL ys) (hm : xs.length ≤ 35184372088832) : ∀ (d i : Nat) (P : List Int) (b : Int), i + d = xs.length → P.length = i → 0 ≤ b → b ≤ 1 →
    Ev (fun k => natural_number_sub.l0 k ys (P ++ List.replicate d 0) b xs (xs.length : Int) (i : Int)) (trimL (P ++ subP (xs.drop i) (ys.drop i) b)) := by
  intro d
  induction d with
  | zero =>
    intro i P b hi hP h0 h1
    refine Ev.step (f := fun k => (natural_number_trim.f k P).bind fun t => some t) (fun k => ?_) ?_
    · simp only [natural_number_sub.l0]
      rw [if_neg (by omega)]
      simp
    · rw [List.drop_eq_nil_of_le (by omega : xs.length ≤ i)]
      simp only [subP, List.append_nil]
      exact Ev.bind (f := fun _ t => some t) (trim_ev P (by omega)) (Ev.now _)
  | succ d ih =>
    intro i P b hi hP h0 h1
    have hil : i < xs.length := by omega
    have hrx := rd_OKL hx hil
    have hw : wrap64 ((i : Int) + 1) = ((i + 1 : Nat) : Int) := by unfold wrap64; omega
    have hset : ∀ v, (P ++ List.replicate (d + 1) 0).set i v = (P ++ [v]) ++ List.replicate d 0 := fun v => by rw [List.replicate_succ, set_mid hP]
    have hlen : ((P ++ List.replicate (d + 1) 0).length : Int) = xs.length := by simp; omega
    rw [rd_drop_cons hil]
    by_cases hyl : i < ys.length
    · have hry := rd_OKL hy hyl
      rw [rd_drop_cons hyl, subP]
      have hu1 : IntKind.u64.wrap (b + rd ys (i : Int)) = b + rd ys (i : Int) := u64_of (by omega) (by omega)
      have hu2 : IntKind.u64.wrap (rd xs (i : Int) + 1000000000) = rd xs (i : Int) + 1000000000 := u64_of (by omega) (by omega)
      by_cases hc : rd xs (i : Int) < b + rd ys (i : Int)
      · have hu3 : IntKind.u64.wrap (rd xs (i : Int) + 1000000000 - (b + rd ys (i : Int))) = rd xs (i : Int) + 1000000000 - (b + rd ys (i : Int)) := u64_of (by omega) (by omega)
        rw [if_pos hc]
        have := ih (i + 1) (P ++ [rd xs (i : Int) + 1000000000 - (b + rd ys (i : Int))]) 1 (by omega) (by simp [hP]) (by omega) (by omega)
        simp only [List.append_assoc, List.singleton_append] at this
        refine Ev.step (fun k => ?_) this
        simp only [natural_number_sub.l0, hu1, hu2, hu3, hw, Int.toNat_natCast]
        rw [if_pos (by omega), if_pos (by omega), if_pos (by omega), if_pos (by omega), if_pos hc, if_pos (by omega), hset]
        simp only [List.append_assoc, List.singleton_append]
      · have hu3 : IntKind.u64.wrap (rd xs (i : Int) - (b + rd ys (i : Int))) = rd xs (i : Int) - (b + rd ys (i : Int)) := u64_of (by omega) (by omega)
        rw [if_neg hc]
        have := ih (i + 1) (P ++ [rd xs (i : Int) - (b + rd ys (i : Int))]) 0 (by omega) (by simp [hP]) (by omega) (by omega)
        simp only [List.append_assoc, List.singleton_append] at this
        refine Ev.step (fun k => ?_) this
        simp only [natural_number_sub.l0, hu1, hu3, hw, Int.toNat_natCast]
        rw [if_pos (by omega), if_pos (by omega), if_pos (by omega), if_pos (by omega), if_neg hc, if_pos (by omega), hset]
        simp only [List.append_assoc, List.singleton_append]
    · rw [List.drop_eq_nil_of_le (by omega : ys.length ≤ i), subP]
      have e0 : ys.drop (i + 1) = [] := List.drop_eq_nil_of_le (by omega)
      have hu2 : IntKind.u64.wrap (rd xs (i : Int) + 1000000000) = rd xs (i : Int) + 1000000000 := u64_of (by omega) (by omega)
      by_cases hc : rd xs (i : Int) < b
      · have hu3 : IntKind.u64.wrap (rd xs (i : Int) + 1000000000 - b) = rd xs (i : Int) + 1000000000 - b := u64_of (by omega) (by omega)
        rw [if_pos hc]
        have := ih (i + 1) (P ++ [rd xs (i : Int) + 1000000000 - b]) 1 (by omega) (by simp [hP]) (by omega) (by omega)
        simp only [List.append_assoc, List.singleton_append, e0] at this
        refine Ev.step (fun k => ?_) this
        simp only [natural_number_sub.l0, hu2, hu3, hw, Int.toNat_natCast]
        rw [if_pos (by omega), if_pos (by omega), if_pos (by omega), if_neg (by omega), if_pos hc, if_pos (by omega), hset]
        simp only [List.append_assoc, List.singleton_append]
      · have hu3 : IntKind.u64.wrap (rd xs (i : Int) - b) = rd xs (i : Int) - b := u64_of (by omega) (by omega)
        rw [if_neg hc]
        have := ih (i + 1) (P ++ [rd xs (i : Int) - b]) 0 (by omega) (by simp [hP]) (by omega) (by omega)
        simp only [List.append_assoc, List.singleton_append, e0] at this
        refine Ev.step (fun k => ?_) this
        simp only [natural_number_sub.l0, hu3, hw, Int.toNat_natCast]
        rw [if_pos (by omega), if_pos (by omega), if_pos (by omega), if_neg (by omega), if_neg hc, if_pos (by omega), hset]
        simp only [List.append_assoc, List.singleton_append]
theorem sub_ev {a b : Nat} (h : b ≤ a) (hm : (limbs a).length ≤ 35184372088832) : ∃ k, natural_number_sub.f k (limbs a) (limbs b) = some (limbs (a - b)) := by
  have := sub_loop (limbs a) (limbs b) (limbs_OKL a) (limbs_OKL b) hm (limbs a).length 0 [] 0 (by omega) rfl (by omega) (by omega)
  simp only [List.nil_append, List.drop_zero, sub_limbs h] at this
  obtain ⟨k, hk⟩ := Ev.rounds this
  refine ⟨k, ?_⟩
  unfold natural_number_sub.f
  rw [if_pos (by omega), if_pos (by omega)]
  simpa using hk
theorem wrapAdd (i j : Nat) (h : i + j ≤ 9223372036854775807) : wrap64 ((i : Int) + (j : Int)) = ((i + j : Nat) : Int) := by unfold wrap64; omega
theorem wrapSucc (i : Nat) (h : i + 1 ≤ 9223372036854775807) : wrap64 ((i : Int) + 1) = ((i + 1 : Nat) : Int) := by unfold wrap64; omega
theorem step_u64 {z a y c : Int} (z0 : 0 ≤ z) (z1 : z < 1000000000) (c0 : 0 ≤ c) (c1 : c < 1000000000) (p0 : 0 ≤ a * y) (p1 : a * y ≤ 999999998000000001) :
    IntKind.u64.wrap (IntKind.u64.wrap (z + IntKind.u64.wrap (a * y)) + c) = z + a * y + c ∧ Int.tmod (z + a * y + c) 1000000000 = (z + a * y + c) % 1000000000 ∧ IntKind.u64.wrap (Int.tdiv (z + a * y + c) 1000000000) = (z + a * y + c) / 1000000000 ∧
    0 ≤ (z + a * y + c) / 1000000000 ∧ (z + a * y + c) / 1000000000 < 1000000000 := by
  generalize a * y = p at *
  have u1 : IntKind.u64.wrap p = p := u64_of (by omega) (by omega)
  have u2 : IntKind.u64.wrap (z + p) = z + p := u64_of (by omega) (by omega)
  have u3 : IntKind.u64.wrap (z + p + c) = z + p + c := u64_of (by omega) (by omega)
  have t1 : Int.tdiv (z + p + c) 1000000000 = (z + p + c) / 1000000000 := Int.tdiv_eq_ediv_of_nonneg (by omega)
  refine ⟨by rw [u1, u2, u3], Int.tmod_eq_emod_of_nonneg (by omega), ?_, by omega, by omega⟩
  rw [t1]
  exact u64_of (by omega) (by omega)
def mulRow : List Int → Int → List Int → Int → List Int
  | o, a, [], c => c :: o.tail
  | o0 :: os, a, y :: ys, c => ((o0 + a * y + c) % 1000000000) :: mulRow os a ys ((o0 + a * y + c) / 1000000000)
  | [], _, _ :: _, _ => []
theorem prod_le {a y : Int} (a0 : 0 ≤ a) (a1 : a < 1000000000) (y0 : 0 ≤ y) (y1 : y < 1000000000) : 0 ≤ a * y ∧ a * y ≤ 999999998000000001 := by
  refine ⟨Int.mul_nonneg a0 y0, ?_⟩
  have h1 : a * y ≤ 999999999 * y := Int.mul_le_mul_of_nonneg_right (by omega) y0
  omega
theorem mulRow_val : ∀ (p ys q : List Int) (a c : Int), p.length = ys.length → OKL p → OKL ys → 0 ≤ a → a < 1000000000 → 0 ≤ c → c < 1000000000 →
    ∃ r, mulRow (p ++ 0 :: q) a ys c = r ++ q ∧ r.length = p.length + 1 ∧ OKL r ∧ val r = val p + a * val ys + c
  | [], [], q, a, c, _, _, _, _, _, c0, c1 => ⟨[c], by simp [mulRow], rfl, OKL.cons c0 c1 OKL.nil, by simp [val]⟩
  | [], y :: ys, q, a, c, h, _, _, _, _, _, _ => by simp at h
  | o :: p, [], q, a, c, h, _, _, _, _, _, _ => by simp at h
  | o :: p, y :: ys, q, a, c, h, hp, hy, a0, a1, c0, c1 => by
    have b1 := hp.head
    have b2 := hy.head
    have b3 := prod_le a0 a1 b2.1 b2.2
    obtain ⟨r, h1, h2, h3, h4⟩ := mulRow_val p ys q a ((o + a * y + c) / 1000000000) (by simpa using h) hp.tail hy.tail a0 a1 (by omega) (by omega)
    refine ⟨((o + a * y + c) % 1000000000) :: r, by rw [List.cons_append, mulRow, h1, List.cons_append], by simp [h2], OKL.cons (by omega) (by omega) h3, ?_⟩
    rw [val, h4, val, val, Int.mul_add a, Int.mul_left_comm a 1000000000]
    omega
theorem row_loop (xs ys : List Int) (hy : OKL ys) (hm : xs.length + ys.length ≤ 35184372088832) (i : Nat) (hi : i < xs.length) (a : Int) (a0 : 0 ≤ a) (a1 : a < 1000000000) (R : List Int) :
    ∀ (d j : Nat) (P o : List Int) (c : Int), j + d = ys.length → P.length = i + j → d < o.length → (P ++ o).length = xs.length + ys.length → OKL o → 0 ≤ c → c < 1000000000 →
      Ev (fun k => natural_number_mul.l0 k ys (P ++ mulRow o a (ys.drop j) c) xs (xs.length : Int) ((i + 1 : Nat) : Int)) R →
      Ev (fun k => natural_number_mul.l1 k ys (P ++ o) (i : Int) a c xs (xs.length : Int) (i : Int) ys (ys.length : Int) (j : Int)) R := by
  intro d
  induction d with
  | zero =>
    intro j P o c hj hP hd hl ho c0 c1 hE
    obtain ⟨z, q, rfl⟩ : ∃ z q, o = z :: q := by cases o with | nil => simp at hd | cons z q => exact ⟨z, q, rfl⟩
    rw [List.drop_eq_nil_of_le (by omega : ys.length ≤ j)] at hE
    simp only [mulRow, List.tail_cons] at hE
    refine Ev.step (fun k => ?_) hE
    have hw := wrapAdd i ys.length (by omega)
    have hw2 := wrapSucc i (by omega)
    have hll : ((P ++ z :: q).length : Int) = ((xs.length + ys.length : Nat) : Int) := by rw [hl]
    simp only [natural_number_mul.l1, hw, hw2, Int.toNat_natCast]
    rw [if_neg (by omega), if_pos (by omega), if_pos (by omega), set_mid (by omega)]
    simp only [List.append_assoc, List.singleton_append]
  | succ d ih =>
    intro j P o c hj hP hd hl ho c0 c1 hE
    obtain ⟨z, q, rfl⟩ : ∃ z q, o = z :: q := by cases o with | nil => simp at hd | cons z q => exact ⟨z, q, rfl⟩
    have hjl : j < ys.length := by omega
    have b1 := ho.head
    have b2 := rd_OKL hy hjl
    have b3 := prod_le a0 a1 b2.1 b2.2
    obtain ⟨s1, s2, s3, s4, s5⟩ := step_u64 b1.1 b1.2 c0 c1 b3.1 b3.2
    rw [rd_drop_cons hjl, mulRow] at hE
    clear b3 b2
    generalize hs : z + a * rd ys (j : Int) + c = s at *
    have := ih (j + 1) (P ++ [s % 1000000000]) q (s / 1000000000) (by omega) (by simp [hP]; omega) (by simpa using hd) (by simp at hl ⊢; omega) ho.tail s4 s5 (by simpa using hE)
    clear ih hE
    simp only [List.append_assoc, List.singleton_append] at this
    refine Ev.step (fun k => ?_) this
    clear this
    have hw := wrapAdd i j (by omega)
    have hw2 := wrapSucc j (by omega)
    have hll : ((P ++ z :: q).length : Int) = ((xs.length + ys.length : Nat) : Int) := by rw [hl]
    have hr : rd (P ++ z :: q) ((i + j : Nat) : Int) = z := by simp [rd, ← hP]
    simp only [natural_number_mul.l1, hw, hw2, hr, s1, s2, s3, Int.toNat_natCast]
    clear s1 s2 s3 s4 s5 hs hw hw2 hr
    rw [if_pos (by omega), if_pos (by omega), if_pos (by omega), if_pos (by omega), if_pos (by omega), set_mid hP]
    simp only [List.append_assoc, List.singleton_append]
theorem mul_loop (xs ys : List Int) (hx : OKL xs) (hy : OKL ys) (hm : xs.length + ys.length ≤ 35184372088832) : ∀ (d i : Nat) (P p : List Int), i + d = xs.length → P.length = i → p.length = ys.length → OKL P → OKL p →
    ∃ R, OKL R ∧ val R = val P + pw i * (val p + val (xs.drop i) * val ys) ∧ Ev (fun k => natural_number_mul.l0 k ys (P ++ (p ++ List.replicate d 0)) xs (xs.length : Int) (i : Int)) (trimL R) := by
  intro d
  induction d with
  | zero =>
    intro i P p hi hP hp oP op
    refine ⟨P ++ p, fun x h => (List.mem_append.1 h).elim (oP x) (op x), ?_, ?_⟩
    · rw [val_append, hP, List.drop_eq_nil_of_le (by omega : xs.length ≤ i)]
      simp [val]
    · refine Ev.step (f := fun k => (natural_number_trim.f k (P ++ p)).bind fun t => some t) (fun k => ?_) (Ev.bind (f := fun _ t => some t) (trim_ev _ (by simp; omega)) (Ev.now _))
      simp only [natural_number_mul.l0]
      rw [if_neg (by omega)]
      simp
  | succ d ih =>
    intro i P p hi hP hp oP op
    have hil : i < xs.length := by omega
    have b1 := rd_OKL hx hil
    obtain ⟨r, h1, h2, h3, h4⟩ := mulRow_val p ys (List.replicate d 0) (rd xs (i : Int)) 0 hp op hy b1.1 b1.2 (by omega) (by omega)
    obtain ⟨r0, p', rfl⟩ : ∃ r0 p', r = r0 :: p' := by cases r with | nil => simp at h2 | cons r0 p' => exact ⟨r0, p', rfl⟩
    have oR : OKL (P ++ [r0]) := fun x h => (List.mem_append.1 h).elim (oP x) (fun e => by rw [List.mem_singleton.1 e]; exact h3.head)
    obtain ⟨R, g1, g2, g3⟩ := ih (i + 1) (P ++ [r0]) p' (by omega) (by simp [hP]) (by simp at h2; omega) oR h3.tail
    refine ⟨R, g1, ?_, ?_⟩
    · rw [g2, val_append, hP, pw_succ, rd_drop_cons hil]
      simp only [val] at h4 ⊢
      have : val p + (rd xs (i : Int) + 1000000000 * val (xs.drop (i + 1))) * val ys = (r0 + 1000000000 * val p') + 1000000000 * (val (xs.drop (i + 1)) * val ys) := by
        rw [h4, Int.add_mul, Int.mul_assoc]
        omega
      rw [this, Int.mul_assoc, Int.mul_left_comm 1000000000 (pw i), Int.add_assoc, ← Int.mul_add (pw i)]
      congr 2
      omega
    · have hE := row_loop xs ys hy hm i hil (rd xs (i : Int)) b1.1 b1.2 (trimL R) ys.length 0 P (p ++ List.replicate (d + 1) 0) 0 (by omega) (by omega) (by simp; omega) (by simp; omega) (fun x h => (List.mem_append.1 h).elim (op x) (fun e => by rw [(List.mem_replicate.1 e).2]; omega)) (by omega) (by omega)
        (by rw [List.drop_zero, List.replicate_succ, h1]; simp only [List.append_assoc, List.cons_append] at g3 ⊢; exact g3)
      refine Ev.step (fun k => ?_) hE
      simp only [natural_number_mul.l0]
      rw [if_pos (by omega), if_pos (by omega), if_pos (by omega)]
      rfl
theorem mul_ev {a b : Nat} (hm : (limbs a).length + (limbs b).length ≤ 35184372088832) : ∃ k, natural_number_mul.f k (limbs a) (limbs b) = some (limbs (a * b)) := by
  obtain ⟨R, g1, g2, g3⟩ := mul_loop (limbs a) (limbs b) (limbs_OKL a) (limbs_OKL b) hm (limbs a).length 0 [] (List.replicate (limbs b).length 0) (by omega) rfl (by simp) OKL.nil (fun x h => by rw [(List.mem_replicate.1 h).2]; omega)
  obtain ⟨k, hk⟩ := Ev.rounds g3
  refine ⟨k, ?_⟩
  have hw : wrap64 (((limbs a).length : Int) + ((limbs b).length : Int)) = (((limbs b).length + (limbs a).length : Nat) : Int) := by rw [wrapAdd _ _ (by omega), Nat.add_comm]
  have hv : val R = ((a * b : Nat) : Int) := by
    rw [g2, List.drop_zero, limbs_val, limbs_val, val_zeros]
    simp [val, pw]
  unfold natural_number_mul.f
  rw [hw, if_pos (by omega), if_pos (by omega), Int.toNat_natCast, ← List.replicate_append_replicate]
  rw [trimL_limbs g1, hv, Int.toNat_natCast] at hk
  simpa using hk
end Go.Proofs.YthbcabnljcpaiaaGreatDoor.H
namespace Go.Proofs.YthbcabnljcpaiaaGreatDoor.H
open Go.RowKit Go.Proofs.YthbcabnljcpaiaaGreatDoorW.PrintWords Go.Proofs.YthbcabnljcpaiaaGreatDoor.M
set_option linter.unusedVariables false
def Num (W : World) (v : Value) (xs : List Int) : Prop := ∃ A c, v = .slice A xs.length c ∧ xs.length ≤ c ∧ NC W A xs.length xs
theorem Num.below {W W' : World} {v : Value} {xs : List Int} (h : Num W v xs) (hb : Below W.heap.size W W') : Num W' v xs := by
  obtain ⟨A, c, e, hl, hC⟩ := h
  exact ⟨A, c, e, hl, Kd.C_below hC hb⟩
theorem Num.of_V {W : World} {e base : Nat} {ok : Nat → Prop} {v : Value} {xs : List Int} (h : Kd.V (Kd.int .u64) e W base ok v xs) : Num W v xs := by
  obtain ⟨A, c, he, hl, hf⟩ := h
  exact ⟨A, c, he, hl, Kd.F_now hf⟩
theorem Num.nil (W : World) : Num W (.slice none 0 0) [] := ⟨none, 0, rfl, Nat.le_refl _, Kd.C_nil _ _⟩
theorem Num.len {W : World} {A : Option Addr} {n c : Nat} {xs : List Int} (h : Num W (.slice A n c) xs) : n = xs.length ∧ n ≤ c ∧ NC W A xs.length xs := by
  obtain ⟨A', c', e, hl, hC⟩ := h
  injection e with e1 e2 e3
  subst e1; subst e2; subst e3
  exact ⟨rfl, hl, hC⟩
theorem trim_calls (xs : List Int) (v : Value) (w : World) (h : Num w v xs) : Calls Tryz.prog 179 #[v] w fun e w' => ∃ u, e = .returned u ∧ Num w' u (trimL xs) ∧ Below w.heap.size w w' := by
  obtain ⟨A, c, rfl, hl, hC⟩ := h
  obtain ⟨k, hk⟩ := Ev.rounds (trim_ev xs (NC.max hC))
  refine (natural_number_trim.calls k (fun k => k < w.heap.size) A c xs (trimL xs) w (Kd.V_mk hl (Kd.C_F (Kd.heap_int _) hC)) hk).mono ?_
  rintro e w' ⟨u, rfl, hV, hb⟩
  exact ⟨u, rfl, Num.of_V hV, hb⟩
theorem mul_calls (a b : Nat) (hm : (limbs a).length + (limbs b).length ≤ 35184372088832) (v u : Value) (w : World) (h : Num w v (limbs a)) (h' : Num w u (limbs b)) : Calls Tryz.prog 178 #[v, u] w fun e w' => ∃ r, e = .returned r ∧ Num w' r (limbs (a * b)) ∧ Below w.heap.size w w' := by
  obtain ⟨A, c, rfl, hl, hC⟩ := h
  obtain ⟨A', c', rfl, hl', hC'⟩ := h'
  obtain ⟨k, hk⟩ := mul_ev hm
  refine (natural_number_mul.calls k A c _ A' c' _ _ w hC hl hC' hl' hk).mono ?_
  rintro e w' ⟨r, rfl, hV, hb⟩
  exact ⟨r, rfl, Num.of_V hV, hb⟩
theorem limbs_len_le {a b : Nat} (h : a ≤ b) : (limbs a).length ≤ (limbs b).length := by
  induction a using Nat.strongRecOn generalizing b with
  | _ a ih =>
    by_cases ha : a = 0
    · subst ha; rw [limbs_zero]; simp
    · rw [limbs_pos ha, limbs_pos (n := b) (by omega)]
      have := ih (a / 1000000000) (Nat.div_lt_self (by omega) (by omega)) (Nat.div_le_div_right (c := 1000000000) h)
      simpa using this
theorem cmpR_append : ∀ (xs ys : List Int) (x y : Int), xs.length = ys.length → cmpR (xs ++ [x]) (ys ++ [y]) = if cmpR xs ys = 0 then sg x y else cmpR xs ys
  | [], [], x, y, _ => by simp [cmpR]; intro h; exact h.symm
  | [], _ :: _, _, _, h => by simp at h
  | _ :: _, [], _, _, h => by simp at h
  | a :: xs, b :: ys, x, y, h => by
    rw [List.cons_append, List.cons_append, cmpR, cmpR]
    by_cases hs : sg a b = 0
    · rw [if_pos hs, if_pos hs]
      exact cmpR_append xs ys x y (by simpa using h)
    · rw [if_neg hs, if_neg hs, if_neg hs]
theorem cmpR_val : ∀ (xs ys : List Int), OKL xs → OKL ys → xs.length = ys.length → cmpR xs.reverse ys.reverse = sg (val xs) (val ys)
  | [], [], _, _, _ => by simp [cmpR, sg, val]
  | [], _ :: _, _, _, h => by simp at h
  | _ :: _, [], _, _, h => by simp at h
  | x :: xs, y :: ys, hx, hy, h => by
    have h1 := hx.head
    have h2 := hy.head
    rw [List.reverse_cons, List.reverse_cons, cmpR_append _ _ _ _ (by simpa using h), cmpR_val xs ys hx.tail hy.tail (by simpa using h), val, val]
    rcases Int.lt_trichotomy (val xs) (val ys) with k | k | k
    · rw [sg_lt k, if_neg (by omega), sg_lt (by omega)]
    · rw [sg_eq k, if_pos rfl, k]
      rcases Int.lt_trichotomy x y with m | m | m
      · rw [sg_lt m, sg_lt (by omega)]
      · rw [sg_eq m, sg_eq (by omega)]
      · rw [sg_gt m, sg_gt (by omega)]
    · rw [sg_gt k, if_neg (by omega), sg_gt (by omega)]
theorem cmpN_limbs (a b : Nat) : cmpN (limbs a) (limbs b) = sg a b := by
  unfold cmpN
  by_cases h : sg (limbs a).length (limbs b).length = 0
  · rw [if_pos h, cmpR_val _ _ (limbs_OKL a) (limbs_OKL b) (by have := sg_zero.1 h; omega), limbs_val, limbs_val]
  · rw [if_neg h]
    have hne : (limbs a).length ≠ (limbs b).length := fun e => h (sg_eq (by rw [e]))
    rcases Nat.lt_or_gt_of_ne hne with k | k
    · have : a < b := by
        apply Classical.byContradiction
        intro hc
        have := limbs_len_le (a := b) (b := a) (by omega)
        omega
      rw [sg_lt (by omega), sg_lt (by omega)]
    · have : b < a := by
        apply Classical.byContradiction
        intro hc
        have := limbs_len_le (a := a) (b := b) (by omega)
        omega
      rw [sg_gt (by omega), sg_gt (by omega)]
theorem cmp_calls (a b : Nat) (v u : Value) (w : World) (h : Num w v (limbs a)) (h' : Num w u (limbs b)) : Calls Tryz.prog 144 #[v, u] w fun e w' => e = .returned (.int .i64 (sg a b)) ∧ Below w.heap.size w w' := by
  obtain ⟨A, c, rfl, hl, hC⟩ := h
  obtain ⟨A', c', rfl, hl', hC'⟩ := h'
  have := compare_calls A A' c c' _ _ w hC hC' hl hl'
  rw [cmpN_limbs] at this
  exact this
end Go.Proofs.YthbcabnljcpaiaaGreatDoor.H
