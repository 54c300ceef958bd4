/- What is known of a token and of a line's tokens: kinds, texts, where they stand. No program in sight. -/
import Derived.Test.YtjabjooephellaaDoorLexC
namespace Go.Proofs.YtjabjooephellaaDoor.Lx
set_option linter.unusedVariables false
set_option linter.unusedSimpArgs false
open Go.RowKit Go.Proofs.YtjabjooephellaaDoor.XB Go.Proofs.YtjabjooephellaaDoorW.PrintWords Go.Proofs.YtjabjooephellaaDoorW.PrintLast

theorem drop_tw (p : UInt8 → Bool) : ∀ r : List UInt8, r.drop (r.takeWhile p).length = r.dropWhile p
  | [] => rfl
  | c :: r => by
    rw [List.takeWhile_cons, List.dropWhile_cons]
    cases p c with
    | true => simpa using drop_tw p r
    | false => simp
theorem textL_ok {c : UInt8} {r : List UInt8} {kd n : Int} {t : List UInt8} {m : Nat} (h : textL (c :: r) = .ok kd n t m) :
    kd = 3 ∧ n = 0 ∧ t.length + 2 = m ∧ t = r.takeWhile textB ∧ r = t ++ 34 :: r.drop (t.length + 1) := by
  have hl := takeWhile_le textB r
  replace h : (if 1 + (r.takeWhile textB).length = r.length + 1 then Nx.bad 4 ((1 + (r.takeWhile textB).length : Nat) : Int)
    else if (c :: r).getD (1 + (r.takeWhile textB).length) 0 = 34 then Nx.ok 3 0 (((c :: r).take (1 + (r.takeWhile textB).length)).drop 1) (1 + (r.takeWhile textB).length + 1)
    else Nx.bad 4 ((1 + (r.takeWhile textB).length : Nat) : Int)) = .ok kd n t m := h
  by_cases h1 : 1 + (r.takeWhile textB).length = r.length + 1
  · rw [if_pos h1] at h; cases h
  · rw [if_neg h1] at h
    by_cases h2 : (c :: r).getD (1 + (r.takeWhile textB).length) 0 = 34
    · rw [if_pos h2] at h
      injection h with e1 e2 e3 e4
      have e5 : t = r.takeWhile textB := by
        rw [← e3, Nat.add_comm 1, List.take_succ_cons, List.drop_succ_cons, List.drop_zero]
        conv => lhs; arg 2; rw [← List.takeWhile_append_dropWhile (p := textB) (l := r)]
        rw [List.take_left]
      refine ⟨e1.symm, e2.symm, ?_, e5, ?_⟩
      · rw [e5, ← e4]; omega
      · have hlt : (r.takeWhile textB).length < r.length := by omega
        have hg : r[(r.takeWhile textB).length] = 34 := by
          rw [Nat.add_comm 1, List.getD_cons_succ] at h2
          simpa [List.getD, List.getElem?_eq_getElem hlt] using h2
        have hd : r.drop (r.takeWhile textB).length = 34 :: r.drop ((r.takeWhile textB).length + 1) := by
          rw [List.drop_eq_getElem_cons hlt, hg]
        rw [e5, ← hd, drop_tw, List.takeWhile_append_dropWhile]
    · rw [if_neg h2] at h; cases h
theorem nextL_ok {c : UInt8} {r : List UInt8} {kd n : Int} {t : List UInt8} {m : Nat} (h : nextL (c :: r) = .ok kd n t m) :
    1 ≤ m ∧ m ≤ r.length + 1 ∧ t.length ≤ m ∧ ((kd = 1 ∨ kd = 4) → t = (c :: r).take m ∧ t.length = m) := by
  have hg := nextL_good c r
  rw [h] at hg
  obtain ⟨g1, g2⟩ := hg
  refine ⟨g1, g2, ?_⟩
  unfold nextL at h
  simp only at h
  split at h
  · split at h
    · cases h
    · injection h with e1 e2 e3 e4
      have hl : ((c :: r).take m).length = m := by rw [List.length_take, List.length_cons]; omega
      rw [e4] at e3
      refine ⟨by rw [← e3, hl]; exact Nat.le_refl _, fun _ => ⟨e3.symm, by rw [← e3, hl]⟩⟩
  · split at h
    · obtain ⟨e1, e2, e3, e4, e5⟩ := textL_ok h
      exact ⟨by omega, fun hk => by omega⟩
    · split at h
      · obtain ⟨e1, e2⟩ := scanL_ok h
        subst e2
        exact ⟨by simp, fun hk => by omega⟩
      · split at h
        · cases h
        · injection h with e1 e2 e3 e4
          obtain ⟨q, hq⟩ := signL_pre (c :: r)
          rw [e3] at hq e4
          refine ⟨by omega, fun _ => ⟨?_, e4⟩⟩
          rw [hq, ← e4, List.take_left]
end Go.Proofs.YtjabjooephellaaDoor.Lx
