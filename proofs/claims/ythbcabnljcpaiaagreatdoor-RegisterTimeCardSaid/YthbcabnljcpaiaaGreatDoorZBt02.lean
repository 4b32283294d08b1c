/- Two days between which no holding begins or ends lead to the same structure, and a holding that is ended later makes no difference: for every list of holdings, two days and identifier the law returns true; the listed package-level variables are tied to the text of the program. -/
import Derived.Test.YthbcabnljcpaiaaGreatDoorZB33
import Derived.Test.YthbcabnljcpaiaaGreatDoorZBt01
import Derived.SevenTiedAt
set_option linter.all false
namespace Go.Proofs.YthbcabnljcpaiaaGreatDoor
open Go.RowKit Go.Shelf Go.Lib Go.ChangeShapes Go.WideShapes Go.ChangeAt Go.Deep Go.Proofs.YthbcabnljcpaiaaGreatDoor.Q Go.Proofs.YthbcabnljcpaiaaGreatDoor.H
set_option linter.unusedVariables false
set_option maxRecDepth 100000 in
theorem registerTime_contract (E : Type) (enc : TypeId × Value → E) (W : World) (base : Nat) (args : Array Value) (ds gs : List (DataW E)) (before : List MemPlace)
    (hval : ∀ (j : Nat) t v, Tryz.f8.params[j]? = some t → args[j]? = some v → Value.okWide Tryz.prog W .any base t v)
    (hW : DataW.Whole enc Tryz.prog Tryz.f8.params.toList Rows.registerTimeSpec.vars false W args.toList ds gs before) (hL : laidMetH Tryz.prog Rows.registerTimeRow.laid W) :
    Calls Tryz.prog 8 args W fun e W' => ∃ v, e = .returned v ∧ Rows.registerTimeSpec.post enc Tryz.prog Tryz.f8 false true false false W args v W' := by
  have hW' := hW
  obtain ⟨p, q, hA0, hV, rfl, hfz, hnd⟩ := hW
  have hA : DataW.TrodAll enc Tryz.prog W 0 (fun _ => true) true Tryz.f8.params.toList args.toList ds p := hA0
  rw [Tryz.params8] at hA hval
  obtain ⟨v0, vs0, d0, ds0, p0, q0, hargs, rfl, rfl, h0, r0⟩ := trodAll_cons hA
  obtain ⟨v1, vs1, d1, ds1, p1, q1, rfl, rfl, rfl, h1, r1⟩ := trodAll_cons r0
  obtain ⟨v2, vs2, d2, ds2, p2, q2, rfl, rfl, rfl, h2, r2⟩ := trodAll_cons r1
  obtain ⟨v3, vs3, d3, ds3, p3, q3, rfl, rfl, rfl, h3, r3⟩ := trodAll_cons r2
  obtain ⟨rfl, rfl, rfl⟩ := trodAll_nil r3
  obtain rfl : args = #[v0, v1, v2, v3] := by cases args; simp_all
  obtain ⟨rfl, rfl⟩ := trodVars_none hV
  obtain ⟨a0, len0, cap0, rfl⟩ := okWide_slice Tryz.underlying26 (hval 0 26 v0 rfl rfl)
  have k0 := h0
  have lt0 : ∀ x ∈ p0, x.block < W.heap.size := by obtain ⟨m, hm⟩ := k0; exact DataW.trod_lt m _ _ _ hm
  obtain ⟨l0, rfl, hc0, hC0, hI0⟩ : ∃ l : List S36, l.length = len0 ∧ len0 ≤ cap0 ∧ HC W a0 l ∧ ∀ y ∈ l, I64 y.f6 ∧ I64 y.f7 ∧ I64 y.f8 ∧ I64 y.f9 := by
    obtain ⟨fuel, hf⟩ := h0
    exact open_holdings hf
  obtain ⟨n1, rfl, rfl, rfl, w1⟩ := open_int Tryz.underlying3 (hval 1 3 v1 rfl rfl) h1
  obtain ⟨n2, rfl, rfl, rfl, w2⟩ := open_int Tryz.underlying3 (hval 2 3 v2 rfl rfl) h2
  obtain ⟨s3, rfl⟩ := okWide_string Tryz.underlying9 (hval 3 9 v3 rfl rfl)
  have k3 := h3
  have lt3 : ∀ x ∈ p3, x.block < W.heap.size := by obtain ⟨m, hm⟩ := k3; exact DataW.trod_lt m _ _ _ hm
  clear hA0 hval
  have T : Tab W := table hL
  refine (time_calls l0 a0 cap0 n1 n2 s3 W hC0 hc0 T).mono fun e W' ⟨he, bel⟩ => ?_
  subst he
  exact ⟨_, rfl, _, _, _, [], _, [], hW', trodAll_mk1 (shut_bool Tryz.underlying4 _), trodAll_cons_mk (Below.trod laidOut (by kernel_rfl) (of_decide_eq_true (by kernel_rfl)) k0 bel lt0) (trodAll_cons_mk (shut_int Tryz.underlying3 w1) (trodAll_cons_mk (shut_int Tryz.underlying3 w2) (trodAll_cons_mk (Below.trod laidOut (by kernel_rfl) (of_decide_eq_true (by kernel_rfl)) k3 bel lt3) trodAll_mk0))), rfl, bel.frame _, fun h => by cases h⟩
end Go.Proofs.YthbcabnljcpaiaaGreatDoor
namespace Go.Proofs.YthbcabnljcpaiaaGreatDoor
open Go.RowKit Go.Shelf Go.Lib Go.ChangeShapes Go.WideShapes Go.ChangeAt Go.Deep Go.Proofs.YthbcabnljcpaiaaGreatDoor.Q Go.Proofs.YthbcabnljcpaiaaGreatDoor.H
set_option linter.unusedVariables false
theorem registerTime_reads (os : Os) {E : Type} (enc : TypeId × Value → E) : ∃ places, DataW.whole enc Tryz.prog ((laidWorld os).forCall (fun _ _ => 0) ⟨#[], #[.slice none 0 0, .int .i64 0, .int .i64 0, .string ⟨#[]⟩], []⟩).memory Tryz.f8.params.toList Rows.registerTimeSpec.vars false #[Value.slice none 0 0, .int .i64 0, .int .i64 0, .string ⟨#[]⟩].toList 8 = some ([.nil, .lit (.int .i64 0), .lit (.int .i64 0), .lit (.string [])], [], places) :=
  ⟨[], by kernel_rfl⟩
theorem registerTime_laid (os : Os) : laidMet Tryz.prog Rows.registerTimeRow.laid ((laidWorld os).forCall (fun _ _ => 0) ⟨#[], #[.slice none 0 0, .int .i64 0, .int .i64 0, .string ⟨#[]⟩], []⟩).memory := laid_met os
set_option maxRecDepth 100000 in
theorem registerTime_lifted (os : Os) (started : os.Started) (E : Type) (enc : TypeId × Value → E) (F : Stop.Interp) :
    ReturnsInHanded {} Tryz.checked os 8 .any ((OpenSpec.ofChange Rows.registerTimeSpec).preRow enc Tryz.prog Tryz.f8 Rows.registerTimeRow.domain false Rows.registerTimeRow.laid) (((OpenSpec.ofChange Rows.registerTimeSpec).at F).post enc Tryz.prog Tryz.f8 false true false false) := by
  obtain ⟨places, hx⟩ := registerTime_reads os enc
  refine returnsInHanded_of_row (C := Tryz.checked) (s := OpenSpec.ofChange Rows.registerTimeSpec) own started (by kernel_rfl) Tryz.func8
    (witness_row_at (enc := enc) (C := Tryz.checked) false (laidWorld os) #[.slice none 0 0, .int .i64 0, .int .i64 0, .string ⟨#[]⟩] rfl (by kernel_rfl) (by kernel_rfl) (by kernel_rfl)
      (OpenSpec.preRow_of_cond 8 hx (by kernel_rfl) (fun k hk => by cases hk) (by kernel_rfl) (registerTime_laid os))) ?_
  intro W base args ds gs before hval hW _ _ _ hL _ _
  exact registerTime_contract E enc W base args ds gs before hval hW hL
end Go.Proofs.YthbcabnljcpaiaaGreatDoor
namespace Go.Proofs.YthbcabnljcpaiaaGreatDoor
open Go.RowKit Go.Shelf Go.Lib Go.ChangeShapes Go.WideShapes Go.ChangeAt Go.Deep Go.Proofs.YthbcabnljcpaiaaGreatDoor.Q Go.Proofs.YthbcabnljcpaiaaGreatDoor.H
set_option linter.unusedVariables false
theorem registerTime_said : Rows.RegisterTimeSaid :=
  OpenClaim.holds_of_cond 8 Tryz.f8 rfl rfl rfl rfl rfl rfl rfl ⟨rfl, rfl, rfl, rfl, rfl⟩ rfl rfl rfl rfl rfl (by kernel_rfl) Tryz.func8 (by kernel_rfl)
    (of_decide_eq_true (by kernel_rfl)) (by unfold Func.isWrapper; first | (rw [if_pos (by decide +kernel)]; kernel_rfl) | (rw [if_neg (by decide +kernel)]; exact ⟨rfl, rfl⟩))
    (fun os started E enc _ F => by rw [OpenClaim.pre_eq_preRow]; exact registerTime_lifted os started E enc F)
end Go.Proofs.YthbcabnljcpaiaaGreatDoor
namespace Go.Proofs.YthbcabnljcpaiaaGreatDoor
open Go.RowKit Go.Shelf Go.Lib Go.ChangeShapes Go.WideShapes Go.ChangeAt Go.Deep Go.Proofs.YthbcabnljcpaiaaGreatDoor.Q Go.Proofs.YthbcabnljcpaiaaGreatDoor.H
set_option linter.unusedVariables false
theorem registerTime_plain (f : FuncId) (fn : Func) (hf : Tryz.pinned.checked.prog.funcNamed "customhouse/customhouselaw17.RegisterTime" = some f) (hfn : Tryz.pinned.checked.prog.funcs[f]? = some fn) :
    true = Tryz.pinned.checked.prog.looks [] ∧ ∀ (j : Nat) t, fn.params[j]? = some t → Tryz.pinned.checked.prog.wantsStandIn t = false := by
  obtain rfl : f = 8 := Option.some.inj ((show Tryz.prog.funcNamed "customhouse/customhouselaw17.RegisterTime" = some 8 by kernel_rfl).symm.trans hf) |>.symm
  obtain rfl : fn = Tryz.f8 := (Option.some.inj (Tryz.func8.symm.trans hfn)).symm
  refine ⟨by kernel_rfl, fun j t ht => ?_⟩
  rw [Tryz.params8] at ht
  have hm : t = 26 ∨ t = 3 ∨ t = 3 ∨ t = 9 := by simpa using Array.mem_of_getElem? ht
  rcases hm with rfl | rfl | rfl | rfl
  · exact (show Tryz.prog.wantsStandIn 26 = false by kernel_rfl)
  · exact (show Tryz.prog.wantsStandIn 3 = false by kernel_rfl)
  · exact (show Tryz.prog.wantsStandIn 3 = false by kernel_rfl)
  · exact (show Tryz.prog.wantsStandIn 9 = false by kernel_rfl)
theorem registerTime_holds : Rows.RegisterTimeCardSaid :=
  Claim7.holds_tied_plain_at .later [] _ _ _ _ registerTime_said (fun _ h => by cases h) (by kernel_rfl) (fun _ h => by cases h) registerTime_row_tie rfl ⟨rfl, rfl⟩ (by kernel_rfl) rfl registerTime_plain (by kernel_rfl)
#print axioms registerTime_holds
end Go.Proofs.YthbcabnljcpaiaaGreatDoor
