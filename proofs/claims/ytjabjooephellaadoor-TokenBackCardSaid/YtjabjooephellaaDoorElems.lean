/- The elements of the slices that come in: what one element's cells, read as a datum, are. No law is stated here. -/
import Derived.Test.YtjabjooephellaaDoorOpen
import Derived.Test.YtjabjooephellaaDoorXBx0
namespace Go.Proofs.YtjabjooephellaaDoor.Op
set_option linter.unusedVariables false
set_option linter.unusedSimpArgs false
open Go.RowKit Go.ChangeShapes Go.WideShapes Go.Deep Go.Proofs.YtjabjooephellaaDoor.XB Go.Proofs.YtjabjooephellaaDoorW.PrintWords Go.Proofs.YtjabjooephellaaDoorW.PrintLast Go.Proofs.YtjabjooephellaaDoorW.PrintMore

section
variable {H : Type} {enc : TypeId × Value → H} {w : World} {base : Nat} {held : Bool}
theorem el_int {P : Program} {e : TypeId} {ik : IntKind} (he : P.underlying e = some (.int ik)) : ∀ (n : Nat) (cs : List Value) (y : DataW H × List MemPlace), DataW.trod enc P w base (fun _ => true) held n e cs = some y → ∃ z : Int, (Kd.int ik).K w z cs ∧ (Lit.int ik z).wf = true := by
  intro n cs y h
  obtain ⟨b, rfl, _, hw⟩ := DataW.trod_int he h
  exact ⟨b, rfl, hw⟩
/-- A token that came in: its numbers are Go's own, its text is not too long. -/
def q37 (z : S37) : Prop := (Lit.int .i64 z.f0).wf = true ∧ (Lit.int .i64 z.f1).wf = true ∧ z.f2.size ≤ maxLen ∧ (Lit.int .i64 z.f3).wf = true
theorem el_37 : ∀ (n : Nat) (cs : List Value) (y : DataW H × List MemPlace), DataW.trod enc Tryd.prog w base (fun _ => true) held n 37 cs = some y → ∃ z : S37, k37.K w z cs ∧ q37 z := by
  intro n cs y h
  obtain ⟨hlen, n', hf⟩ := field_of Tryd.underlying37 h
  have hl : cs.length = 4 := hlen.trans (by kernel_rfl)
  match cs, hl with
  | [c0, c1, c2, c3], _ =>
    obtain ⟨v0, y0, hv0, ht0⟩ := hf 0 _ rfl (by kernel_rfl) (by show 0 < 4; decide)
    obtain ⟨v1, y1, hv1, ht1⟩ := hf 1 _ rfl (by kernel_rfl) (by show 1 < 4; decide)
    obtain ⟨v2, y2, hv2, ht2⟩ := hf 2 _ rfl (by kernel_rfl) (by show 2 < 4; decide)
    obtain ⟨v3, y3, hv3, ht3⟩ := hf 3 _ rfl (by kernel_rfl) (by show 3 < 4; decide)
    obtain ⟨b0, e0, _, w0⟩ := DataW.trod_int Tryd.underlying3 ht0
    obtain ⟨b1, e1, _, w1⟩ := DataW.trod_int Tryd.underlying3 ht1
    obtain ⟨b2, e2, _, w2⟩ := DataW.trod_string Tryd.underlying9 ht2
    obtain ⟨b3, e3, _, w3⟩ := DataW.trod_int Tryd.underlying3 ht3
    injection e0 with e0; injection e1 with e1; injection e2 with e2; injection e3 with e3
    subst e0; subst e1; subst e2; subst e3
    injection hv0 with hv0; injection hv1 with hv1; injection hv2 with hv2; injection hv3 with hv3
    subst hv0; subst hv1; subst hv2; subst hv3
    exact ⟨⟨b0, b1, b2, b3⟩, k37_mk w ⟨b0, b1, b2, b3⟩, w0, w1, w2, w3⟩
end
end Go.Proofs.YtjabjooephellaaDoor.Op
