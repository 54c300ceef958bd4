/- What stands behind a line changes no token of it, if a blank, a tab or a remark begins it; blanks ahead move it. No program in sight. -/
import Derived.Test.YtjabjooephellaaDoorLexD
namespace Go.Proofs.YtjabjooephellaaDoor.Lx
set_option linter.unusedVariables false
set_option linter.unusedSimpArgs false
open Go.RowKit Go.Proofs.YtjabjooephellaaDoor.XB Go.Proofs.YtjabjooephellaaDoorW.PrintWords Go.Proofs.YtjabjooephellaaDoorW.PrintLast

/-- A text that is none, or begins with a blank, a tab or a remark. -/
def Stop (x : List UInt8) : Prop := ∀ d q, x = d :: q → d = 32 ∨ d = 9 ∨ d = 59
theorem tw_append (p : UInt8 → Bool) (x : List UInt8) (hx : ∀ d q, x = d :: q → p d = false) : ∀ l : List UInt8, (l ++ x).takeWhile p = l.takeWhile p
  | [] => by
    rcases x with _ | ⟨d, q⟩
    · rfl
    · rw [List.nil_append, List.takeWhile_cons, hx d q rfl]; rfl
  | c :: l => by
    rw [List.cons_append, List.takeWhile_cons, List.takeWhile_cons, tw_append p x hx l]
theorem tw_inside (p : UInt8 → Bool) (x : List UInt8) : ∀ l : List UInt8, (l.takeWhile p).length < l.length → (l ++ x).takeWhile p = l.takeWhile p
  | [], h => by simp at h
  | c :: l, h => by
    rw [List.cons_append, List.takeWhile_cons, List.takeWhile_cons]
    cases hc : p c with
    | false => rfl
    | true =>
      rw [List.takeWhile_cons, hc] at h
      simp only [if_true, List.length_cons] at h
      simp only [if_true]
      rw [tw_inside p x l (by omega)]
theorem stop_more {x : List UInt8} (hx : Stop x) : ∀ d q, x = d :: q → moreB d = false := by
  intro d q h
  rcases hx d q h with rfl | rfl | rfl <;> decide +kernel
theorem stop_letter {x : List UInt8} (hx : Stop x) : ∀ d q, x = d :: q → letterB d = false := by
  intro d q h
  rcases hx d q h with rfl | rfl | rfl <;> decide +kernel
theorem hasPre_iff (s p : ByteArray) (b : Bool) (h : (∃ r, L s = L p ++ r) ↔ b = true) : hasPre s p = b := by
  rw [Bool.eq_iff_iff, hasPre_L, h]
theorem signFrom_congr (a b : ByteArray) : ∀ l : List ByteArray, (∀ s ∈ l, hasPre a s = hasPre b s) → tokSignFrom l a = tokSignFrom l b
  | [], _ => rfl
  | x :: l, h => by
    unfold tokSignFrom
    rw [h x (List.mem_cons_self ..), signFrom_congr a b l (fun s hs => h s (List.mem_cons_of_mem _ hs))]
theorem pre_one (c a : UInt8) (r : List UInt8) (s : ByteArray) (hs : L s = [a]) : hasPre (B (c :: r)) s = (c == a) := by
  apply hasPre_iff
  rw [L_B, hs, beq_iff_eq]
  constructor
  · rintro ⟨q, h⟩; injection h
  · rintro rfl; exact ⟨r, rfl⟩
theorem pre_two (c a b : UInt8) (r : List UInt8) (s : ByteArray) (hs : L s = [a, b]) : hasPre (B (c :: r)) s = (c == a && r.head? == some b) := by
  apply hasPre_iff
  rw [L_B, hs, Bool.and_eq_true, beq_iff_eq, beq_iff_eq]
  constructor
  · rintro ⟨q, h⟩
    injection h with h1 h2
    rw [h2]; exact ⟨h1, rfl⟩
  · rintro ⟨rfl, h⟩
    rcases r with _ | ⟨d, r⟩
    · cases h
    · injection h with h; subst h; exact ⟨r, rfl⟩
/-- Each sign is one byte, or two of which the second one begins no text behind a line. -/
theorem signs_two : ∀ s ∈ tokSigns, (∃ a, L s = [a]) ∨ ∃ a b, L s = [a, b] ∧ b ≠ 32 ∧ b ≠ 9 ∧ b ≠ 59 := by
  intro s hs
  simp only [tokSigns, List.mem_cons, List.not_mem_nil, or_false] at hs
  rcases hs with rfl | rfl | rfl | rfl | rfl | rfl | rfl | rfl | rfl | rfl | rfl | rfl | rfl | rfl | rfl | rfl | rfl | rfl | rfl
  · exact .inr ⟨36, 36, rfl, by decide, by decide, by decide⟩
  · exact .inr ⟨60, 60, rfl, by decide, by decide, by decide⟩
  · exact .inr ⟨62, 62, rfl, by decide, by decide, by decide⟩
  all_goals exact .inl ⟨_, rfl⟩
theorem signL_append (c : UInt8) (r x : List UInt8) (hx : Stop x) : signL (c :: r ++ x) = signL (c :: r) := by
  unfold signL tokSign
  congr 1
  apply signFrom_congr
  intro s hs
  rw [List.cons_append]
  rcases signs_two s hs with ⟨a, ha⟩ | ⟨a, b, hab, b1, b2, b3⟩
  · rw [pre_one _ a _ s ha, pre_one _ a _ s ha]
  · rw [pre_two _ a b _ s hab, pre_two _ a b _ s hab]
    congr 1
    rcases r with _ | ⟨d, r⟩
    · rcases x with _ | ⟨d, q⟩
      · rfl
      · have : d ≠ b := by rcases hx d q rfl with rfl | rfl | rfl <;> exact fun h => by simp_all
        simp [this]
    · rfl
theorem charL_append (x : List UInt8) : ∀ (r : List UInt8) (k : Nat) (n : Int) (kd n' : Int) (t : List UInt8) (m : Nat), charL r k n = .ok kd n' t m → charL (r ++ x) k n = .ok kd n' t m
  | [], k, n, _, _, _, _, h => by simp [charL] at h
  | c :: r, k, n, kd, n', t, m, h => by
    rw [List.cons_append]
    unfold charL at h ⊢
    split
    · rename_i h1; rw [if_pos h1] at h; exact h
    · rename_i h1
      rw [if_neg h1] at h
      split
      · rename_i h2; rw [if_pos h2] at h; exact h
      · rename_i h2
        rw [if_neg h2] at h
        split
        · rename_i h3; rw [if_pos h3] at h; exact h
        · rename_i h3
          rw [if_neg h3] at h
          exact charL_append x r _ _ _ _ _ _ h
theorem scanL_append {c : UInt8} {r x : List UInt8} (hx : Stop x) {kd n : Int} {t : List UInt8} {m : Nat} (h : scanL (c :: r) = .ok kd n t m) : scanL (c :: r ++ x) = .ok kd n t m := by
  rw [List.cons_append]
  unfold scanL at h ⊢
  simp only at h ⊢
  have e : ((c :: (r ++ x)).takeWhile letterB) = ((c :: r).takeWhile letterB) := by rw [← List.cons_append]; exact tw_append letterB x (stop_letter hx) (c :: r)
  have hl := takeWhile_le letterB (c :: r)
  have e2 : (c :: (r ++ x)).take ((c :: r).takeWhile letterB).length = (c :: r).take ((c :: r).takeWhile letterB).length := by
    rw [← List.cons_append, List.take_append_of_le_length hl]
  by_cases h1 : c.toNat = 39
  · rw [if_pos h1] at h ⊢; exact charL_append x r _ _ _ _ _ _ h
  · rw [if_neg h1] at h ⊢
    by_cases h2 : ldigitB c = true
    · rw [if_pos h2] at h ⊢
      rw [e, e2]; exact h
    · rw [if_neg h2] at h; cases h
theorem textL_append {c : UInt8} {r x : List UInt8} {kd n : Int} {t : List UInt8} {m : Nat} (h : textL (c :: r) = .ok kd n t m) : textL (c :: r ++ x) = .ok kd n t m := by
  obtain ⟨_, _, h3, h4, h5⟩ := textL_ok h
  have hlt : (r.takeWhile textB).length < r.length := by
    rw [← h4]
    have := congrArg List.length h5
    rw [List.length_append, List.length_cons] at this
    omega
  rw [List.cons_append]
  have e : ((r ++ x).takeWhile textB) = r.takeWhile textB := tw_inside textB x r hlt
  replace h : (if 1 + (r.takeWhile textB).length = r.length + 1 then Nx.bad 4 ((1 + (r.takeWhile textB).length : Nat) : Int)
    else if (c :: r).getD (1 + (r.takeWhile textB).length) 0 = 34 then Nx.ok 3 0 (((c :: r).take (1 + (r.takeWhile textB).length)).drop 1) (1 + (r.takeWhile textB).length + 1)
    else Nx.bad 4 ((1 + (r.takeWhile textB).length : Nat) : Int)) = .ok kd n t m := h
  show (if 1 + ((r ++ x).takeWhile textB).length = (r ++ x).length + 1 then Nx.bad 4 ((1 + ((r ++ x).takeWhile textB).length : Nat) : Int)
    else if (c :: (r ++ x)).getD (1 + ((r ++ x).takeWhile textB).length) 0 = 34 then Nx.ok 3 0 (((c :: (r ++ x)).take (1 + ((r ++ x).takeWhile textB).length)).drop 1) (1 + ((r ++ x).takeWhile textB).length + 1)
    else Nx.bad 4 ((1 + ((r ++ x).takeWhile textB).length : Nat) : Int)) = .ok kd n t m
  rw [e]
  rw [if_neg (by omega)] at h
  rw [if_neg (by rw [List.length_append]; omega)]
  have e3 : (c :: (r ++ x)).getD (1 + (r.takeWhile textB).length) 0 = (c :: r).getD (1 + (r.takeWhile textB).length) 0 := by
    rw [← List.cons_append, List.getD_eq_getElem?_getD, List.getD_eq_getElem?_getD, List.getElem?_append_left (by rw [List.length_cons]; omega)]
  have e4 : (c :: (r ++ x)).take (1 + (r.takeWhile textB).length) = (c :: r).take (1 + (r.takeWhile textB).length) := by
    rw [← List.cons_append, List.take_append_of_le_length (by rw [List.length_cons]; omega)]
  rw [e3, e4]
  exact h
/-- A token that is read is read as well where more stands behind. -/
theorem nextL_append {c : UInt8} {r x : List UInt8} (hx : Stop x) {kd n : Int} {t : List UInt8} {m : Nat} (h : nextL (c :: r) = .ok kd n t m) : nextL (c :: r ++ x) = .ok kd n t m := by
  have hs := signL_append c r x hx
  have ht : textL (c :: r) = .ok kd n t m → textL (c :: r ++ x) = .ok kd n t m := textL_append
  have hc : scanL (c :: r) = .ok kd n t m → scanL (c :: r ++ x) = .ok kd n t m := scanL_append hx
  have e : ((c :: r ++ x).takeWhile moreB) = ((c :: r).takeWhile moreB) := tw_append moreB x (stop_more hx) (c :: r)
  have hl := takeWhile_le moreB (c :: r)
  have e2 : (c :: r ++ x).take ((c :: r).takeWhile moreB).length = (c :: r).take ((c :: r).takeWhile moreB).length := List.take_append_of_le_length hl
  rw [List.cons_append] at hs ht hc e e2 ⊢
  unfold nextL at h ⊢
  simp only at h ⊢
  by_cases h1 : firstB c = true
  · rw [if_pos h1] at h ⊢
    rw [e, e2]; exact h
  · rw [if_neg h1] at h ⊢
    by_cases h2 : c.toNat = 34
    · rw [if_pos h2] at h ⊢; exact ht h
    · rw [if_neg h2] at h ⊢
      by_cases h3 : digitB c = true ∨ c.toNat = 39
      · rw [if_pos h3] at h ⊢; exact hc h
      · rw [if_neg h3] at h ⊢
        rw [hs]; exact h

/-- A token so much further on. -/
def shift (d : Int) (t : S37) : S37 := ⟨t.f0, t.f1, t.f2, t.f3 + d⟩
def blankB (c : UInt8) : Bool := c == 32 || c == 9
theorem lexL_blanks : ∀ (b : List UInt8), (∀ c ∈ b, blankB c = true) → ∀ (f : Nat) (y : List UInt8) (at_ : Int), lexL (f + b.length) (b ++ y) at_ = lexL f y (at_ + b.length)
  | [], _, f, y, at_ => by simp
  | c :: b, h, f, y, at_ => by
    have hc := h c (List.mem_cons_self ..)
    simp only [blankB, Bool.or_eq_true, beq_iff_eq] at hc
    rw [List.length_cons, ← Nat.add_assoc, List.cons_append, lexL_cons]
    unfold lexStep
    rw [if_neg (by rcases hc with rfl | rfl <;> decide), if_pos (by rcases hc with rfl | rfl <;> decide), lexL_blanks b (fun c hc => h c (List.mem_cons_of_mem _ hc))]
    congr 1
    rw [Int.natCast_add]; omega
theorem lexL_nothing : ∀ (b : List UInt8), (∀ c ∈ b, blankB c = true) → ∀ (f : Nat) (y : List UInt8) (at_ : Int), lexL f (b ++ 59 :: y) at_ = ([], 0, 0)
  | b, _, 0, y, at_ => by rcases b <;> rfl
  | [], _, f + 1, y, at_ => by rw [List.nil_append, lexL_cons]; rfl
  | c :: b, h, f + 1, y, at_ => by
    have hc := h c (List.mem_cons_self ..)
    simp only [blankB, Bool.or_eq_true, beq_iff_eq] at hc
    rw [List.cons_append, lexL_cons]
    unfold lexStep
    rw [if_neg (by rcases hc with rfl | rfl <;> decide), if_pos (by rcases hc with rfl | rfl <;> decide)]
    exact lexL_nothing b (fun c hc => h c (List.mem_cons_of_mem _ hc)) f y _
/-- What is read is read as well behind and ahead of nothing, so much further on. -/
theorem lex_shift (x : List UInt8) (hx : Stop x) (hx0 : ∀ (f : Nat) (at_ : Int), lexL f x at_ = ([], 0, 0)) (d : Int) : ∀ (f f' : Nat) (l : List UInt8) (at_ : Int), l.length < f → l.length < f' → (lexL f l at_).2.1 = 0 →
    lexL f' (l ++ x) (at_ + d) = ((lexL f l at_).1.map (shift d), 0, 0) := by
  intro f
  induction f with
  | zero => intro f' l at_ h; omega
  | succ f ih =>
    intro f' l at_ h1 h2 h
    obtain ⟨f', rfl⟩ : ∃ m, f' = m + 1 := ⟨f' - 1, by omega⟩
    rcases l with _ | ⟨c, r⟩
    · rw [List.nil_append, hx0]; rfl
    · rw [List.length_cons] at h1 h2
      rw [List.cons_append, lexL_cons, lexL_cons]
      rw [lexL_cons] at h
      unfold lexStep at h ⊢
      by_cases c1 : c.toNat = 59
      · rw [if_pos c1, if_pos c1]; rfl
      · rw [if_neg c1] at h ⊢
        rw [if_neg c1]
        by_cases c2 : c.toNat = 32 ∨ c.toNat = 9
        · rw [if_pos c2] at h ⊢
          rw [if_pos c2]
          have z := ih f' r (at_ + 1) (by omega) (by omega) h
          rw [← z]
          congr 1
          omega
        · rw [if_neg c2] at h ⊢
          rw [if_neg c2]
          cases hn : nextL (c :: r) with
          | bad e o =>
            have hg := nextL_good c r
            rw [hn] at hg h
            exact absurd h hg.1
          | ok kd n t m =>
            have hn2 := nextL_append hx hn
            rw [List.cons_append] at hn2
            rw [hn2]
            rw [hn] at h
            obtain ⟨g1, g2, _, _⟩ := nextL_ok hn
            unfold lexTok at h ⊢
            simp only at h ⊢
            by_cases c3 : (lexL f ((c :: r).drop m) (at_ + m)).2.1 = 0
            · have z := ih f' ((c :: r).drop m) (at_ + m) (by rw [List.length_drop, List.length_cons]; omega) (by rw [List.length_drop, List.length_cons]; omega) c3
              have e : (c :: (r ++ x)).drop m = (c :: r).drop m ++ x := by rw [← List.cons_append, List.drop_append_of_le_length (by rw [List.length_cons]; omega)]
              have e2 : at_ + d + (m : Int) = at_ + m + d := by omega
              rw [e, e2, z, if_pos rfl, if_pos c3]
              rfl
            · rw [if_neg c3] at h; exact absurd h c3
end Go.Proofs.YtjabjooephellaaDoor.Lx
