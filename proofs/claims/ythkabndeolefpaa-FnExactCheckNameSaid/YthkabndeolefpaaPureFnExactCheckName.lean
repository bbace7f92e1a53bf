/- The statement of the law FnExactCheckName over plain numbers and texts holds for every number of 64 bits. -/
import Derived.Test.YthkabndeolefpaaPFnExactCheckNamex1
namespace Go.Proofs.Ythkabndeolefpaa.Pure
open Go.RowKit Go.Proofs.Ythkabndeolefpaa.PFnExactCheckName Go.Proofs.YthkabndeolefpaaW.PrintWords Go.Proofs.YthkabndeolefpaaW.PrintLast

theorem in_same (a b c : Int) : impl_in.f a b c = spec_l1In.f a b c := rfl
theorem name_same (l : List ByteArray) (c : Int) : impl_nameOf.f l c = spec_l20Name.f l c := rfl
theorem name_some (l : List ByteArray) (c : Int) (hl : l.length < 100) : ∃ r, spec_l20Name.f l c = some r := by
  have e : wrap64 ((l.length : Int) - 1) = (l.length : Int) - 1 := by unfold wrap64; omega
  unfold spec_l20Name.f spec_l1In.f
  rw [e]
  by_cases h : c ≥ 0
  · rw [if_pos h, Option.bind_some]
    by_cases h2 : c ≤ (l.length : Int) - 1
    · rw [if_pos (by simpa using h2), if_pos (by omega), if_pos (by omega)]; exact ⟨_, rfl⟩
    · rw [if_neg (by simpa using h2)]; exact ⟨_, rfl⟩
  · rw [if_neg h, Option.bind_some, if_neg (by decide)]; exact ⟨_, rfl⟩

theorem close (o : Option ByteArray) (h : ∃ r, o = some r) : ((o.bind fun t => some t).bind fun t113 => ((o.bind fun t => some t).bind fun t114 => (if t114.toList = t113.toList then some true else some false))) = some true := by
  obtain ⟨r, rfl⟩ := h
  simp

theorem FnExactCheckName : laws_FnExactCheckName.Pure := by
  intro a _
  unfold laws_FnExactCheckName.f spec_CheckName.f impl_CheckName.f
  rw [name_same]
  exact close _ (name_some _ a (by simp))

end Go.Proofs.Ythkabndeolefpaa.Pure
