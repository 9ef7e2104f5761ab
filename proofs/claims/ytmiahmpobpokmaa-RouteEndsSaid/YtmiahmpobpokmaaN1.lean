/- Chapter 24, RouteEnds: for every input the law returns true, and each argument reads afterwards as it read before. -/
import Derived.Test.YtmiahmpobpokmaaKF
/- Chapter 24, RouteEnds: for every input the law returns true, and each argument reads afterwards as it read before. -/
set_option maxRecDepth 100000
namespace Go.Proofs.Ytmiahmpobpokmaa
open Go.Vai Go Go.Proofs

theorem ends_lifted (os : Os) (started : os.Started) (H : Type) (enc : TypeId × Value → H) :
    ReturnsInHanded {} Try.checked os 4 .any (Rows.routeEndsSpec.pre6 enc Try.prog Try.f4 [] false) (Rows.routeEndsSpec.post enc Try.prog Try.f4 false true false false) :=
  lifted (C := Try.checked) (tb := 4) (ps := [OS, OS, OI, OI]) own started (by kernel_rfl) Try.func4
    (ChangeSpec.witness6 (enc := enc) (C := Try.checked) false ⟨#[], #[.slice none 0 0, .slice none 0 0, .int .i64 0, .int .i64 0], []⟩ 8 (by kernel_rfl) (by kernel_rfl) (by kernel_rfl) (by kernel_rfl))
    laidOut (by kernel_rfl) (by kernel_rfl) (by kernel_rfl) rfl (len_4 fun _ _ _ _ => rfl)
    (fun w => ⟨o_ints, o_ints, o_int (by kernel_rfl), o_int (by kernel_rfl), trivial⟩)
    (allP_4 fun a b c d h1 h2 h3 h4 => by
      obtain ⟨x, hx, hxr, rfl⟩ := h1
      obtain ⟨y, hy, hyr, rfl⟩ := h2
      obtain ⟨lag, hl, rfl⟩ := h3
      obtain ⟨c, hc, rfl⟩ := h4
      exact ends_ev x y lag c hx hy hxr hyr hl hc)
theorem routeEnds_holds : Rows.RouteEndsSaid :=
  OpenClaim.holds_of_wide 4 Try.f4 rfl rfl rfl rfl rfl rfl rfl ⟨rfl, rfl, rfl, rfl, rfl⟩ rfl rfl rfl rfl rfl (by kernel_rfl) Try.func4 (by kernel_rfl)
    (of_decide_eq_true (by kernel_rfl)) (by unfold Func.isWrapper; first | (rw [if_pos (by decide +kernel)]; kernel_rfl) | (rw [if_neg (by decide +kernel)]; exact ⟨rfl, rfl⟩))
    (fun os started H enc _ => ends_lifted os started H enc)
#print axioms routeEnds_holds
end Go.Proofs.Ytmiahmpobpokmaa
