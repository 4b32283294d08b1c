/- A holding with a nominee, replaced by one of the party for whom it is held, leads to the same capital: for every list of holdings, day and number the law returns true; the listed package-level variables are tied to the text of the program. -/
import Derived.Test.YthbcabnljcpaiaaGreatDoorZB34
import Derived.Test.YthbcabnljcpaiaaGreatDoorZBn01
import Derived.SevenTiedAt
set_option linter.all false
namespace Go.Proofs.YthbcabnljcpaiaaGreatDoor
open Go.RowKit Go.Shelf Go.Lib Go.ChangeShapes Go.WideShapes Go.ChangeAt Go.Deep Go.Proofs.YthbcabnljcpaiaaGreatDoor.Q Go.Proofs.YthbcabnljcpaiaaGreatDoor.H
set_option linter.unusedVariables false
set_option maxRecDepth 100000 in
theorem registerNominees_contract (E : Type) (enc : TypeId × Value → E) (W : World) (base : Nat) (args : Array Value) (ds gs : List (DataW E)) (before : List MemPlace)
    (hval : ∀ (j : Nat) t v, Tryz.f5.params[j]? = some t → args[j]? = some v → Value.okWide Tryz.prog W .any base t v)
    (hW : DataW.Whole enc Tryz.prog Tryz.f5.params.toList Rows.registerNomineesSpec.vars false W args.toList ds gs before) (hL : laidMetH Tryz.prog Rows.registerNomineesRow.laid W) :
    Calls Tryz.prog 5 args W fun e W' => ∃ v, e = .returned v ∧ Rows.registerNomineesSpec.post enc Tryz.prog Tryz.f5 false true false false W args v W' := by
  have hW' := hW
  obtain ⟨p, q, hA0, hV, rfl, hfz, hnd⟩ := hW
  have hA : DataW.TrodAll enc Tryz.prog W 0 (fun _ => true) true Tryz.f5.params.toList args.toList ds p := hA0
  rw [Tryz.params5] at hA hval
  obtain ⟨v0, vs0, d0, ds0, p0, q0, hargs, rfl, rfl, h0, r0⟩ := trodAll_cons hA
  obtain ⟨v1, vs1, d1, ds1, p1, q1, rfl, rfl, rfl, h1, r1⟩ := trodAll_cons r0
  obtain ⟨v2, vs2, d2, ds2, p2, q2, rfl, rfl, rfl, h2, r2⟩ := trodAll_cons r1
  obtain ⟨rfl, rfl, rfl⟩ := trodAll_nil r2
  obtain rfl : args = #[v0, v1, v2] := by cases args; simp_all
  obtain ⟨rfl, rfl⟩ := trodVars_none hV
  obtain ⟨a0, len0, cap0, rfl⟩ := okWide_slice Tryz.underlying26 (hval 0 26 v0 rfl rfl)
  have k0 := h0
  have lt0 : ∀ x ∈ p0, x.block < W.heap.size := by obtain ⟨m, hm⟩ := k0; exact DataW.trod_lt m _ _ _ hm
  obtain ⟨l0, rfl, hc0, hC0, hI0⟩ : ∃ l : List S36, l.length = len0 ∧ len0 ≤ cap0 ∧ HC W a0 l ∧ ∀ y ∈ l, I64 y.f6 ∧ I64 y.f7 ∧ I64 y.f8 ∧ I64 y.f9 := by
    obtain ⟨fuel, hf⟩ := h0
    exact open_holdings hf
  obtain ⟨n1, rfl, rfl, rfl, w1⟩ := open_int Tryz.underlying3 (hval 1 3 v1 rfl rfl) h1
  obtain ⟨n2, rfl, rfl, rfl, w2⟩ := open_int Tryz.underlying5 (hval 2 5 v2 rfl rfl) h2
  clear hA0 hval
  have T : Tab W := table hL
  refine (nominees_calls l0 a0 cap0 n1 n2 (u8_b w2).1 (u8_b w2).2 W hC0 hc0 T).mono fun e W' ⟨he, bel⟩ => ?_
  subst he
  exact ⟨_, rfl, _, _, _, [], _, [], hW', trodAll_mk1 (shut_bool Tryz.underlying4 _), trodAll_cons_mk (Below.trod laidOut (by kernel_rfl) (of_decide_eq_true (by kernel_rfl)) k0 bel lt0) (trodAll_cons_mk (shut_int Tryz.underlying3 w1) (trodAll_cons_mk (shut_int Tryz.underlying5 w2) trodAll_mk0)), rfl, bel.frame _, fun h => by cases h⟩
end Go.Proofs.YthbcabnljcpaiaaGreatDoor
namespace Go.Proofs.YthbcabnljcpaiaaGreatDoor
open Go.RowKit Go.Shelf Go.Lib Go.ChangeShapes Go.WideShapes Go.ChangeAt Go.Deep Go.Proofs.YthbcabnljcpaiaaGreatDoor.Q Go.Proofs.YthbcabnljcpaiaaGreatDoor.H
set_option linter.unusedVariables false
theorem registerNominees_reads (os : Os) {E : Type} (enc : TypeId × Value → E) : ∃ places, DataW.whole enc Tryz.prog ((laidWorld os).forCall (fun _ _ => 0) ⟨#[], #[.slice none 0 0, .int .i64 0, .int .u8 0], []⟩).memory Tryz.f5.params.toList Rows.registerNomineesSpec.vars false #[Value.slice none 0 0, .int .i64 0, .int .u8 0].toList 8 = some ([.nil, .lit (.int .i64 0), .lit (.int .u8 0)], [], places) :=
  ⟨[], by kernel_rfl⟩
theorem registerNominees_laid (os : Os) : laidMet Tryz.prog Rows.registerNomineesRow.laid ((laidWorld os).forCall (fun _ _ => 0) ⟨#[], #[.slice none 0 0, .int .i64 0, .int .u8 0], []⟩).memory := laid_met os
set_option maxRecDepth 100000 in
theorem registerNominees_lifted (os : Os) (started : os.Started) (E : Type) (enc : TypeId × Value → E) (F : Stop.Interp) :
    ReturnsInHanded {} Tryz.checked os 5 .any ((OpenSpec.ofChange Rows.registerNomineesSpec).preRow enc Tryz.prog Tryz.f5 Rows.registerNomineesRow.domain false Rows.registerNomineesRow.laid) (((OpenSpec.ofChange Rows.registerNomineesSpec).at F).post enc Tryz.prog Tryz.f5 false true false false) := by
  obtain ⟨places, hx⟩ := registerNominees_reads os enc
  refine returnsInHanded_of_row (C := Tryz.checked) (s := OpenSpec.ofChange Rows.registerNomineesSpec) own started (by kernel_rfl) Tryz.func5
    (witness_row_at (enc := enc) (C := Tryz.checked) false (laidWorld os) #[.slice none 0 0, .int .i64 0, .int .u8 0] rfl (by kernel_rfl) (by kernel_rfl) (by kernel_rfl)
      (OpenSpec.preRow_of_cond 8 hx (by kernel_rfl) (fun k hk => by cases hk) (by kernel_rfl) (registerNominees_laid os))) ?_
  intro W base args ds gs before hval hW _ _ _ hL _ _
  exact registerNominees_contract E enc W base args ds gs before hval hW hL
end Go.Proofs.YthbcabnljcpaiaaGreatDoor
namespace Go.Proofs.YthbcabnljcpaiaaGreatDoor
open Go.RowKit Go.Shelf Go.Lib Go.ChangeShapes Go.WideShapes Go.ChangeAt Go.Deep Go.Proofs.YthbcabnljcpaiaaGreatDoor.Q Go.Proofs.YthbcabnljcpaiaaGreatDoor.H
set_option linter.unusedVariables false
theorem registerNominees_said : Rows.RegisterNomineesSaid :=
  OpenClaim.holds_of_cond 5 Tryz.f5 rfl rfl rfl rfl rfl rfl rfl ⟨rfl, rfl, rfl, rfl, rfl⟩ rfl rfl rfl rfl rfl (by kernel_rfl) Tryz.func5 (by kernel_rfl)
    (of_decide_eq_true (by kernel_rfl)) (by unfold Func.isWrapper; first | (rw [if_pos (by decide +kernel)]; kernel_rfl) | (rw [if_neg (by decide +kernel)]; exact ⟨rfl, rfl⟩))
    (fun os started E enc _ F => by rw [OpenClaim.pre_eq_preRow]; exact registerNominees_lifted os started E enc F)
end Go.Proofs.YthbcabnljcpaiaaGreatDoor
namespace Go.Proofs.YthbcabnljcpaiaaGreatDoor
open Go.RowKit Go.Shelf Go.Lib Go.ChangeShapes Go.WideShapes Go.ChangeAt Go.Deep Go.Proofs.YthbcabnljcpaiaaGreatDoor.Q Go.Proofs.YthbcabnljcpaiaaGreatDoor.H
set_option linter.unusedVariables false
theorem registerNominees_plain (f : FuncId) (fn : Func) (hf : Tryz.pinned.checked.prog.funcNamed "customhouse/customhouselaw17.RegisterNominees" = some f) (hfn : Tryz.pinned.checked.prog.funcs[f]? = some fn) :
    true = Tryz.pinned.checked.prog.looks [] ∧ ∀ (j : Nat) t, fn.params[j]? = some t → Tryz.pinned.checked.prog.wantsStandIn t = false := by
  obtain rfl : f = 5 := Option.some.inj ((show Tryz.prog.funcNamed "customhouse/customhouselaw17.RegisterNominees" = some 5 by kernel_rfl).symm.trans hf) |>.symm
  obtain rfl : fn = Tryz.f5 := (Option.some.inj (Tryz.func5.symm.trans hfn)).symm
  refine ⟨by kernel_rfl, fun j t ht => ?_⟩
  rw [Tryz.params5] at ht
  have hm : t = 26 ∨ t = 3 ∨ t = 5 := by simpa using Array.mem_of_getElem? ht
  rcases hm with rfl | rfl | rfl
  · exact (show Tryz.prog.wantsStandIn 26 = false by kernel_rfl)
  · exact (show Tryz.prog.wantsStandIn 3 = false by kernel_rfl)
  · exact (show Tryz.prog.wantsStandIn 5 = false by kernel_rfl)
theorem registerNominees_holds : Rows.RegisterNomineesCardSaid :=
  Claim7.holds_tied_plain_at .later [] _ _ _ _ registerNominees_said (fun _ h => by cases h) (by kernel_rfl) (fun _ h => by cases h) registerNominees_row_tie rfl ⟨rfl, rfl⟩ (by kernel_rfl) rfl registerNominees_plain (by kernel_rfl)
#print axioms registerNominees_holds
end Go.Proofs.YthbcabnljcpaiaaGreatDoor
