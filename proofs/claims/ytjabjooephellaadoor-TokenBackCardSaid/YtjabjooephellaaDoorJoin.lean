/- What tokens are joined to, by the program and by the document. No program in sight. -/
import Derived.Test.YtjabjooephellaaDoorMay
import Derived.Test.YtjabjooephellaaDoorHex
import Derived.Test.YtjabjooephellaaDoorXBx4
import Derived.Test.YtjabjooephellaaDoorXBx2
namespace Go.Proofs.YtjabjooephellaaDoor.Lx
set_option linter.unusedVariables false
set_option linter.unusedSimpArgs false
open Go.RowKit Go.Proofs.YtjabjooephellaaDoor.XB Go.Proofs.YtjabjooephellaaDoorW.PrintWords Go.Proofs.YtjabjooephellaaDoorW.PrintLast Go.Proofs.YtjabjooephellaaDoorW.PrintMore

abbrev Tk := S37
theorem rd_tk (l : List Tk) (i : Nat) {t : Tk} {r : List Tk} (h : l.drop i = t :: r) : rd_T37 l (i : Int) = t ∧ i < l.length := by
  have hlt : i < l.length := by
    rcases Nat.lt_or_ge i l.length with q | q
    · exact q
    · rw [List.drop_eq_nil_of_le q] at h; simp at h
  rw [List.drop_eq_getElem_cons hlt] at h
  injection h with h1 h2
  refine ⟨?_, hlt⟩
  simp [rd_T37, hlt, h1]
theorem drop_tk {l : List Tk} {i : Nat} {t : Tk} {r : List Tk} (h : l.drop i = t :: r) : l.drop (i + 1) = r := by
  rw [← List.drop_drop, h]; rfl
def mayT (t : Tk) : Bool := mayB t.f0 t.f1 (L t.f2)
/-- What a token is written as. -/
def wordT (t : Tk) : ByteArray := if t.f0 = 2 then (⟨#[48, 120]⟩ : ByteArray) ++ hexU (IntKind.u64.wrap t.f1) else if t.f0 = 3 then (⟨#[34]⟩ : ByteArray) ++ t.f2 ++ (⟨#[34]⟩ : ByteArray) else t.f2
theorem wordT_size (t : Tk) : (wordT t).size ≤ t.f2.size + 18 := by
  have h := hexU_size (IntKind.u64.wrap t.f1)
  have e0 : (⟨#[48, 120]⟩ : ByteArray).size = 2 := rfl
  have e1 : (⟨#[34]⟩ : ByteArray).size = 1 := rfl
  unfold wordT
  split
  · rw [ByteArray.size_append]; omega
  · split
    · rw [ByteArray.size_append, ByteArray.size_append]; omega
    · omega
/-- The bytes laid so far, and the tokens still to come. -/
def joinT : Bool → List UInt8 → List Tk → ByteArray × Int
  | _, acc, [] => (B acc, 0)
  | b, acc, t :: r => if 1000 < ((if b = true then acc ++ [32] else acc) ++ L (wordT t)).length then (⟨#[]⟩, 3) else joinT true ((if b = true then acc ++ [32] else acc) ++ L (wordT t)) r
def joinOf (l : List Tk) : ByteArray × Int := if l.all mayT = true then joinT false [] l else (⟨#[]⟩, 2)
theorem joinM_l (l : List Tk) (hl : l.length ≤ 1000000) (hz : ∀ t ∈ l, t.f2.size ≤ 1100) (k : Nat) (hk : 1100 < k) : ∀ (r : List Tk) (i : Nat), l.drop i = r → ∀ q, r.length < q → joinM k l q (i : Int) = some (r.all mayT) := by
  intro r
  induction r with
  | nil =>
    intro i hi q hq
    obtain ⟨q, rfl⟩ : ∃ m, q = m + 1 := ⟨q - 1, by omega⟩
    have hge : l.length ≤ i := by rw [List.drop_eq_nil_iff] at hi; exact hi
    rw [joinM, if_neg (by omega)]; rfl
  | cons t r ih =>
    intro i hi q hq
    rw [List.length_cons] at hq
    obtain ⟨q, rfl⟩ : ∃ m, q = m + 1 := ⟨q - 1, by omega⟩
    obtain ⟨h1, h2⟩ := rd_tk l i hi
    have hm : t ∈ l := List.mem_of_mem_drop (by rw [hi]; exact List.mem_cons_self)
    have hs := hz t hm
    have z := ih (i + 1) (drop_tk hi) q (by omega)
    rw [Int.natCast_succ] at z
    rw [joinM, if_pos (by omega), h1, may_f _ _ _ _ (by omega) k (by omega), Option.bind_some, z, List.all_cons]
    show (if mayT t = true then _ else _) = some (mayT t && _)
    cases mayT t <;> simp
theorem word_f (t : Tk) (hs : t.f2.size ≤ 1100) : token_word.f t.f0 t.f1 t.f2 t.f3 = some (wordT t) := by
  unfold token_word.f
  rw [if_pos (by omega)]
  rfl
theorem joinW_l (l : List Tk) (hl : l.length ≤ 1000000) (hz : ∀ t ∈ l, t.f2.size ≤ 1100) : ∀ (r : List Tk) (i : Nat) (bs : List UInt8), l.drop i = r → ∀ q, r.length < q → joinW l q (i : Int) bs = some (joinT (decide (0 < i)) bs r) := by
  intro r
  induction r with
  | nil =>
    intro i bs hi q hq
    obtain ⟨q, rfl⟩ : ∃ m, q = m + 1 := ⟨q - 1, by omega⟩
    have hge : l.length ≤ i := by rw [List.drop_eq_nil_iff] at hi; exact hi
    rw [joinW, if_neg (by omega)]; rfl
  | cons t r ih =>
    intro i bs hi q hq
    rw [List.length_cons] at hq
    obtain ⟨q, rfl⟩ : ∃ m, q = m + 1 := ⟨q - 1, by omega⟩
    obtain ⟨h1, h2⟩ := rd_tk l i hi
    have hm : t ∈ l := List.mem_of_mem_drop (by rw [hi]; exact List.mem_cons_self)
    have hs := hz t hm
    have ej : joinB (i : Int) bs = (if decide (0 < i) = true then bs ++ [32] else bs) := by
      unfold joinB
      by_cases q : 0 < i
      · rw [if_pos (by omega), if_pos (by simpa using q)]
      · rw [if_neg (by omega), if_neg (by simpa using q)]
    rw [joinW, if_pos (by omega), h1, word_f t hs, Option.bind_some, ej, joinT]
    generalize (if decide (0 < i) = true then bs ++ [32] else bs) = b2
    have z := ih (i + 1) (b2 ++ L (wordT t)) (drop_tk hi) q (by omega)
    rw [Int.natCast_succ, decide_eq_true (by omega : 0 < i + 1)] at z
    by_cases c : 1000 < (b2 ++ L (wordT t)).length
    · rw [if_pos c, if_pos c]
    · rw [if_neg c, if_neg c, z]
theorem join_f (l : List Tk) (hl : l.length ≤ 1000000) (hz : ∀ t ∈ l, t.f2.size ≤ 1100) (k : Nat) (hk : 1100 < k) : token_Join.f k l = some (joinOf l) := by
  unfold token_Join.f joinOf
  have z := joinM_l l hl hz k hk l 0 rfl (l.length + 1) (by omega)
  have z2 := joinW_l l hl hz l 0 [] rfl (l.length + 1) (by omega)
  rw [show ((0 : Nat) : Int) = 0 from rfl] at z z2
  rw [if_pos (by omega), z, Option.bind_some, z2]
  split <;> rfl
-- the document's
-- which tokens are too many, or too long
theorem long_l (l : List Tk) (hm : l.length ≤ maxLen) : ∀ (d i : Nat), i + d = 201 → (∀ t ∈ l.take i, t.f2.size ≤ 1100) →
    ∃ b, (∀ k, 2 * d + 4 ≤ k → linotypekit_LongTokens.l0 k l 200 (i : Int) = some b) ∧ (b = false → l.length ≤ 200 ∧ ∀ t ∈ l, t.f2.size ≤ 1100) := by
  intro d
  have hm2 : l.length ≤ 9223372036854775807 := by unfold maxLen at hm; omega
  have stop : ∀ i : Nat, (∀ t ∈ l.take i, t.f2.size ≤ 1100) → (l.length ≤ i ∨ 200 < i) → ∃ b, (∀ k, 4 ≤ k → linotypekit_LongTokens.l0 k l 200 (i : Int) = some b) ∧ (b = false → l.length ≤ 200 ∧ ∀ t ∈ l, t.f2.size ≤ 1100) := by
    intro i ht hc
    refine ⟨decide ((l.length : Int) > 200), fun k hk => ?_, fun hb => ?_⟩
    · obtain ⟨k, rfl⟩ : ∃ m, k = m + 2 := ⟨k - 2, by omega⟩
      simp only [linotypekit_LongTokens.l0, linotypekit_LongTokens.j1]
      by_cases q : (i : Int) < (l.length : Int)
      · rw [if_pos q, decide_eq_false (by omega), if_neg (by decide)]
      · rw [if_neg q, if_neg (by decide)]
    · have hb := of_decide_eq_false hb
      refine ⟨by omega, fun t hmt => ht t ?_⟩
      rw [List.take_of_length_le (by omega)]
      exact hmt
  induction d with
  | zero =>
    intro i hi ht
    obtain ⟨b, h1, h2⟩ := stop i ht (.inr (by omega))
    exact ⟨b, fun k hk => h1 k (by omega), h2⟩
  | succ d ih =>
    intro i hi ht
    rcases Nat.lt_or_ge i l.length with hlt | hge
    · have hd := List.drop_eq_getElem_cons hlt
      obtain ⟨h1, h2⟩ := rd_tk l i hd
      by_cases c : l[i].f2.size > 1100
      · refine ⟨true, fun k hk => ?_, fun hb => by cases hb⟩
        obtain ⟨k, rfl⟩ : ∃ m, k = m + 2 := ⟨k - 2, by omega⟩
        simp only [linotypekit_LongTokens.l0, linotypekit_LongTokens.j1]
        rw [if_pos (by omega), decide_eq_true (by omega), if_pos rfl, if_pos (by omega), if_pos (by omega), h1, if_pos (by omega)]
      · obtain ⟨b, g1, g2⟩ := ih (i + 1) (by omega) (by
          intro t hmt
          rw [List.take_add_one, List.getElem?_eq_getElem hlt] at hmt
          rcases List.mem_append.1 hmt with q | q
          · exact ht t q
          · simp at q; rw [q]; omega)
        refine ⟨b, fun k hk => ?_, g2⟩
        obtain ⟨k, rfl⟩ : ∃ m, k = m + 2 := ⟨k - 2, by omega⟩
        have z := g1 k (by omega)
        rw [Int.natCast_succ] at z
        simp only [linotypekit_LongTokens.l0, linotypekit_LongTokens.j1]
        rw [if_pos (by omega), decide_eq_true (by omega), if_pos rfl, if_pos (by omega), if_pos (by omega), h1, if_neg (by omega), wrap64_s (by omega) (by omega), z]
    · obtain ⟨b, h1, h2⟩ := stop i ht (.inl hge)
      exact ⟨b, fun k hk => h1 k (by omega), h2⟩
theorem long_f (l : List Tk) (hm : l.length ≤ maxLen) : ∃ b, (∀ k, 500 ≤ k → linotypekit_LongTokens.f k l 200 = some b) ∧ (b = false → l.length ≤ 200 ∧ ∀ t ∈ l, t.f2.size ≤ 1100) := by
  obtain ⟨b, h1, h2⟩ := long_l l hm 201 0 rfl (by simp)
  exact ⟨b, fun k hk => h1 k (by omega), h2⟩
end Go.Proofs.YtjabjooephellaaDoor.Lx
