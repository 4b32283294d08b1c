/- A part of the proof that the register's laws hold; no condition of its own. -/
import Derived.Test.YthbcabnljcpaiaaGreatDoorZB21
set_option linter.all false
namespace Go.Proofs.YthbcabnljcpaiaaGreatDoor.H
open Go.RowKit Go.Shelf Go.Lib Go.Maps Go.Proofs.YthbcabnljcpaiaaGreatDoor.Q
set_option linter.unusedVariables false
theorem plc_get {ps : List ByteArray} (hI : Inc ps) {i : Nat} (hi : i < ps.length) : plc ps ps[i] = i := by
  obtain ⟨h1, e1⟩ := plc_spec (List.getElem_mem hi)
  rcases Nat.lt_trichotomy (plc ps ps[i]) i with h3 | h3 | h3
  · have := List.pairwise_iff_getElem.1 hI _ _ h1 hi h3
    rw [e1] at this; exact absurd this (List.lt_irrefl _)
  · exact h3
  · have := List.pairwise_iff_getElem.1 hI _ _ hi h1 h3
    rw [e1] at this; exact absurd this (List.lt_irrefl _)
end Go.Proofs.YthbcabnljcpaiaaGreatDoor.H
