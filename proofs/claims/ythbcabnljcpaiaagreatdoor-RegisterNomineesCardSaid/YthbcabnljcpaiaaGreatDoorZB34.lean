/- A part of the proof that the register's laws hold; no condition of its own. -/
import Derived.Test.YthbcabnljcpaiaaGreatDoorZB33
set_option linter.all false
namespace Go.Proofs.YthbcabnljcpaiaaGreatDoor.H
open Go.RowKit Go.Shelf Go.Lib Go.ChangeShapes Go.WideShapes Go.ChangeAt Go.Deep Go.Proofs.YthbcabnljcpaiaaGreatDoorW.PrintWords Go.Proofs.YthbcabnljcpaiaaGreatDoor.Q
set_option linter.unusedVariables false
theorem open_holding {H : Type} {enc : TypeId × Value → H} {W : World} {base : Nat} {spare : Nat → Bool} {held : Bool} {fuel : Nat} {cs : Array Value} {x : DataW H × List MemPlace} (h : DataW.trod enc Tryz.prog W base spare held fuel 36 cs.toList = some x) :
    ∃ (y : S36) (A : Option Addr) (c : Nat), cs = hcells y A c ∧ y.f5.length ≤ c ∧ Kd.C Kd.string W A y.f5.length y.f5 ∧ I64 y.f6 ∧ I64 y.f7 ∧ I64 y.f8 ∧ I64 y.f9 := by
  obtain ⟨y, h1, _, h3⟩ := trod36 h
  obtain ⟨A, c, e, h4, h5⟩ := k36_open h1
  refine ⟨y, A, c, ?_, h4, h5, h3⟩
  cases cs
  simp at e
  subst e
  rfl
theorem u8_b {z : Int} (h : (Lit.int .u8 z).wf = true) : 0 ≤ z ∧ z ≤ 255 := by
  have h1 : IntKind.u8.min = 0 := by decide
  have h2 : IntKind.u8.max = 255 := by decide
  simp [Lit.wf, h1, h2] at h
  exact h
end Go.Proofs.YthbcabnljcpaiaaGreatDoor.H
