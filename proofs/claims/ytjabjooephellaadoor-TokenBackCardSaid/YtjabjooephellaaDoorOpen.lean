/- An argument that is a slice, of whatever elements, as the printed contracts want it: its list, and what its cells hold. No law is stated here. -/
import Derived.Test.YtjabjooephellaaDoorWMore
import Derived.Deep.Slices
import Derived.DataReads
import Derived.ChangeArms
import Derived.ChangeSame
namespace Go.Proofs.YtjabjooephellaaDoor.Op
set_option linter.unusedVariables false
set_option linter.unusedSimpArgs false
open Go.RowKit Go.ChangeShapes Go.WideShapes Go.Deep Go.Proofs.YtjabjooephellaaDoorW.PrintWords Go.Proofs.YtjabjooephellaaDoorW.PrintLast Go.Proofs.YtjabjooephellaaDoorW.PrintMore

section
variable {H : Type} {enc : TypeId × Value → H} {P : Program} {w : World} {base : Nat} {held : Bool}
theorem add_add' (a : Addr) (i j : Nat) : (a.add i).add j = a.add (i + j) := by
  unfold Addr.add
  by_cases hi : i = 0 <;> by_cases hj : j = 0 <;> simp [hi, hj, Nat.add_assoc]
theorem list_choose {α : Type} {p : Nat → α → Prop} : ∀ n : Nat, (∀ i, i < n → ∃ x, p i x) → ∃ l : List α, l.length = n ∧ ∀ i x, l[i]? = some x → p i x
  | 0, _ => ⟨[], rfl, fun i x h => by simp at h⟩
  | n + 1, h => by
    obtain ⟨l, hl, hp⟩ := list_choose n (fun i hi => h i (by omega))
    obtain ⟨x, hx⟩ := h n (by omega)
    refine ⟨l ++ [x], by simp [hl], fun i y hy => ?_⟩
    rcases Nat.lt_or_ge i l.length with q | q
    · rw [List.getElem?_append_left q] at hy; exact hp i y hy
    · rw [List.getElem?_append_right q] at hy
      rcases Nat.eq_zero_or_pos (i - l.length) with q2 | q2
      · rw [q2] at hy
        injection hy with hy
        subst hy
        have : i = n := by omega
        subst this; exact hx
      · rw [List.getElem?_eq_none (by simp; omega)] at hy; cases hy
/-- A slice that came in. el: what one element's cells, read as a datum, are. -/
theorem slice_C {α : Type} (d : Kd α) (Q : α → Prop) {t e : TypeId} {fuel : Nat} {A : Option Addr} {len cap : Nat} {x : DataW H × List MemPlace} (ht : P.underlying t = some (.slice e)) (hsz : P.cellsOf e = d.sz)
    (el : ∀ (n : Nat) (cs : List Value) (y : DataW H × List MemPlace), DataW.trod enc P w base (fun _ => true) held n e cs = some y → ∃ z : α, d.K w z cs ∧ Q z)
    (h : DataW.trod enc P w base (fun _ => true) held fuel t [.slice A len cap] = some x) :
    ∃ l : List α, l.length = len ∧ len ≤ cap ∧ len ≤ maxLen ∧ d.C w A len l ∧ ∀ z ∈ l, Q z := by
  rcases open_slice ht h with ⟨hcs, _⟩ | ⟨a, len', cap', m, n, D, Pl, hcs, _, hl, hm, hmm, _, hx⟩
  · injection hcs with hcs _
    injection hcs with h1 h2 h3
    subst h1; subst h2; subst h3
    exact ⟨[], rfl, Nat.le_refl _, Nat.zero_le _, ⟨rfl, by decide, fun h => absurd h (by decide)⟩, fun z hz => by simp at hz⟩
  · injection hcs with hcs _
    injection hcs with h1 h2 h3
    subst h1; subst h2; subst h3
    simp only [if_true] at hmm
    subst hmm
    obtain ⟨l, hll, hp⟩ := list_choose (p := fun i (z : α) => Q z ∧ ∃ c : List Value, c.length = d.sz ∧ d.K w z c ∧ ∀ j u, c[j]? = some u → w.cell? (a.add (i * d.sz + j)) = some u) len (fun i hi => by
      obtain ⟨cs', h1, h2⟩ := hx i (by omega)
      obtain ⟨z, hK, hQ⟩ := el _ _ _ h2
      obtain ⟨_, hcl, hat⟩ := World.cells?_some h1
      refine ⟨z, hQ, cs', d.K_len hK, hK, fun j u hu => ?_⟩
      have hj : j < cs'.length := (List.getElem?_eq_some_iff.1 hu).1
      have := hat j (by omega)
      rw [add_add', hsz] at this
      rw [this, hu])
    have hmx : maxLen = 9223372036854775807 := rfl
    refine ⟨l, hll, hl, by omega, ⟨hll, by omega, fun _ => ⟨a, rfl, fun j p hj => (hp j p hj).2⟩⟩, fun z hz => ?_⟩
    obtain ⟨i, hi, rfl⟩ := List.getElem_of_mem hz
    exact (hp i _ (List.getElem?_eq_getElem hi)).1
theorem el_bool {e : TypeId} (he : P.underlying e = some .bool) : ∀ (n : Nat) (cs : List Value) (y : DataW H × List MemPlace), DataW.trod enc P w base (fun _ => true) held n e cs = some y → ∃ z : Bool, Kd.bool.K w z cs ∧ True := by
  intro n cs y h
  obtain ⟨b, rfl, _⟩ := DataW.trod_bool he h
  exact ⟨b, rfl, trivial⟩
/-- A struct's field of one cell, out of the struct's reading. -/
theorem field_of {e : TypeId} {fs : Array Field} {n : Nat} {cs : List Value} {y : DataW H × List MemPlace} (he : P.underlying e = some (.struct fs)) (h : DataW.trod enc P w base (fun _ => true) held n e cs = some y) :
    cs.length = P.cellsOf e ∧ ∃ n' : Nat, ∀ (i : Nat) (f : Field), fs[i]? = some f → P.cellsOf f.type = 1 → f.offset < cs.length → ∃ v yy, cs[f.offset]? = some v ∧ DataW.trod enc P w base (fun _ => true) held n' f.type [v] = some yy := by
  obtain ⟨ys, n', _, _, hlen, hyl, hf⟩ := DataW.trod_struct he h
  refine ⟨hlen, n', fun i f hi h1 ho => ?_⟩
  have z := hf i f hi
  rw [h1] at z
  have hone : (cs.drop f.offset).take 1 = [cs[f.offset]] := by
    rw [List.drop_eq_getElem_cons ho]; rfl
  rw [hone] at z
  have hil : i < fs.size := (Array.getElem?_eq_some_iff.1 hi).1
  have hys : ys[i]? = some (ys[i]'(by omega)) := List.getElem?_eq_getElem (by omega)
  exact ⟨_, _, List.getElem?_eq_getElem ho, z.trans hys⟩
end
end Go.Proofs.YtjabjooephellaaDoor.Op
