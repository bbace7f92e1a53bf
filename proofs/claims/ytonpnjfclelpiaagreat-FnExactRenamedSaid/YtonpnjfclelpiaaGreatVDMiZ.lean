import Derived.Test.YtonpnjfclelpiaaGreatVDMiQ
import Derived.Test.YtonpnjfclelpiaaGreatVDMiH
import Derived.IntWalk
namespace Go.Proofs.YtonpnjfclelpiaaGreatM
open Go
set_option linter.unusedVariables false
set_option linter.unusedSimpArgs false
section
variable {Γ : TypeId → Option TI} {E : TypeId → Nat} {C : Rel} {am : List Nat} {base : Nat}
variable {D : DrawR} {Q : Ex → S → Prop} {k : List Fr} {s : S}
section
variable {D : DrawR} {Q : Ex → S → Prop} {k : List Fr} {s : S} {i : Nat} {l : List POp} {d : Option Nat}
def minO : Value → Value → Option Value
 | .int kk a, .int _ b => some (.int kk (if b < a then b else a))
 | _, _ => none
def maxO : Value → Value → Option Value
 | .int kk a, .int _ b => some (.int kk (if b > a then b else a))
 | _, _ => none
def cvB (nm : Nat) : Value → Option (Value × Blk)
 | .string b => some (.slice (some ⟨nm, 0, none⟩) b.size (U 1), { cells := b.data.toList.map fun x => .int .u8 x.toNat, rw := true })
 | _ => none
theorem op_cvB {t u e : TypeId} {x : Operand} {a b a' b' : Nat} {z z' z2 : List Value} (ht : Γ t = some ⟨.str, a, b, z⟩) (hu : Γ u = some ⟨.slice e, a', b', z'⟩) (he : Γ e = some ⟨.int .u8, 1, 1, z2⟩) :
  OpG Γ E C D Q base i (⟨d, none, .convert t u x⟩ :: l) k s = OpK Γ E C D Q base (i + 1) l k s d (base + i) (cvB (base + i) (s.ev x)) := by
 rw [op_cons rfl]
 unfold opV
 simp only [pureV, ht, hu, makeV, effV, textV, he]
 cases hx : s.ev x <;> first | rfl | (simp only [he, cvB]; rfl)
end
def Ext (h h' : Hp) : Prop := h.next ≤ h'.next ∧ ∀ m, m < h.next → h'.blk m = h.blk m
theorem wrapI {n : Int} (h0 : -9223372036854775808 ≤ n) (h1 : n ≤ 9223372036854775807) : IntKind.wrap .i64 n = n := IntWalk.i64_in n ⟨h0, h1⟩
end
end Go.Proofs.YtonpnjfclelpiaaGreatM
