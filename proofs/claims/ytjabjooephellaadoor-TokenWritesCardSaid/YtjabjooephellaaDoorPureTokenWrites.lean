/-
The line of any tokens, or just the error, is told as the document says: for at most 200 tokens, texts of at most 1,100 bytes; no other condition.
-/
import Derived.Test.YtjabjooephellaaDoorJoin
import Derived.Test.YtjabjooephellaaDoorElems
import Derived.Test.YtjabjooephellaaDoorXx14
namespace Go.Proofs.YtjabjooephellaaDoor.Pure
set_option linter.unusedVariables false
set_option linter.unusedSimpArgs false
open Go.RowKit Go.Proofs.YtjabjooephellaaDoor.X Go.Proofs.YtjabjooephellaaDoorW.PrintWords Go.Proofs.YtjabjooephellaaDoorW.PrintLast Go.Proofs.YtjabjooephellaaDoorW.PrintMore Go.Proofs.YtjabjooephellaaDoor.Lx

theorem awake22 : Ev (fun k => linotypelaw22_awake.f k) true :=
  Ev.of (fun k => linotypelaw22_awake.mono k) (k := 120) (by decide +kernel)
theorem TokenWrites (l0 : List Tk) (hm : l0.length ≤ maxLen) (hQ : ∀ z ∈ l0, Op.q37 z) : ∃ k, linotypelaw22_TokenWrites.f k l0 = some true := by
  obtain ⟨b, h1, h2⟩ := long_f l0 hm
  obtain ⟨Ka, ha⟩ := awake22
  refine ⟨Ka + 10000, ?_⟩
  unfold linotypelaw22_TokenWrites.f
  rw [h1 _ (by omega), Option.bind_some]
  cases b with
  | true => rfl
  | false =>
    obtain ⟨hl, hz⟩ := h2 rfl
    have hz2 : ∀ t ∈ l0, t.f2.size ≤ 1100 ∧ (Lit.int .i64 t.f1).wf = true := fun t ht => ⟨hz t ht, (hQ t ht).2.1⟩
    rw [if_neg (by decide)]
    have hc : linotypekit_CopyTokens.f l0 = some l0 := by
      unfold linotypekit_CopyTokens.f
      rw [Option.bind_some, if_pos (by simp; omega)]
      rfl
    rw [hc, Option.bind_some, join_f l0 (by omega) hz _ (by omega), Option.bind_some, refJoin_f l0 (by omega) hz2 _ (by omega), Option.bind_some, if_pos rfl, if_pos rfl, same_f l0 (by omega) _ (by omega), Option.bind_some, if_pos rfl]
    have z : linotypelaw22_awake.f (Ka + 10000) = some true := ha (Ka + 10000) (by omega)
    rw [z, Option.bind_some]
end Go.Proofs.YtjabjooephellaaDoor.Pure
