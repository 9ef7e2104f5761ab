/- Chapter 24: the frame of the statements. -/
import Derived.Test.YtmiahmpobpokmaaR12
import Derived.Test.YtmiahmpobpokmaaVx
import Derived.Test.YtmiahmpobpokmaaRows
set_option maxRecDepth 100000
set_option linter.unusedSimpArgs false
namespace Go.Proofs.Ytmiahmpobpokmaa
open Go.Vai Go Go.Proofs

theorem own : ownKnob Try.checked.prog.godebug = none := by kernel_rfl
theorem laidOut : laidOutB Try.checked.prog = true := by kernel_rfl
section
variable {H : Type} {enc : TypeId × Value → H} {w : World}
def OI (a : AV) : Prop := ∃ n, R64 n ∧ a = I n
def OS (a : AV) : Prop := ∃ l : List Int, l.length ≤ 9223372036854775807 ∧ (∀ x ∈ l, R64 x) ∧ a = SL l
theorem wf64 {n : Int} : (Lit.int .i64 n).wf = true ↔ R64 n := by
  have h1 : IntKind.i64.min = -9223372036854775808 := by decide
  have h2 : IntKind.i64.max = 9223372036854775807 := by decide
  simp [Lit.wf, R64, h1, h2]
theorem o_int {t : TypeId} (ht : Try.prog.underlying t = some (.int .i64)) : Opens Try.prog enc w t OI :=
  (opens_int ht).mono (fun a ⟨n, h, e⟩ => ⟨n, wf64.1 h, e⟩) fun a ⟨n, h, e⟩ => ⟨n, wf64.2 h, e⟩
theorem o_ints : Opens Try.prog enc w 22 OS :=
  (opens_slice (T := Int) (q := R64) (f := I) (e := 3) (sz := 1) (by kernel_rfl) (by kernel_rfl) (by decide) (o_int (by kernel_rfl))).mono
    (fun a ⟨l, h, h1, e⟩ => ⟨l, h, h1, e⟩) fun a ⟨l, h, h1, e⟩ => ⟨l, h, h1, e⟩
end
end Go.Proofs.Ytmiahmpobpokmaa
