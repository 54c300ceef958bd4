/- Which tokens may be, by the program and by the document, over lists of bytes. No program in sight. -/
import Derived.Test.YtjabjooephellaaDoorLexE
import Derived.Test.YtjabjooephellaaDoorXBx3
namespace Go.Proofs.YtjabjooephellaaDoor.Lx
set_option linter.unusedVariables false
set_option linter.unusedSimpArgs false
open Go.RowKit Go.Proofs.YtjabjooephellaaDoor.XB Go.Proofs.YtjabjooephellaaDoorW.PrintWords Go.Proofs.YtjabjooephellaaDoorW.PrintLast

theorem textB_eq (c : UInt8) : textB c = (plainB c && (c != 34)) := by
  have h := text_f c
  unfold token_text_1.f at h
  rw [plain_f] at h
  simp only [Option.bind_some] at h
  cases hp : plainB c with
  | true =>
    rw [hp, if_pos rfl] at h
    have h := Option.some.inj h
    rw [← h, Bool.true_and]
    by_cases q : c = 34
    · subst q; decide
    · have q2 : ¬ ((c.toNat : Int) = 34) := fun z => q ((u8_34 c).1 z)
      have e1 : ((c.toNat : Int) != 34) = true := bne_iff_ne.2 q2
      have e2 : (c != 34) = true := bne_iff_ne.2 q
      exact e1.trans e2.symm
  | false =>
    rw [hp, if_neg (by decide)] at h
    rw [← Option.some.inj h, Bool.false_and]
theorem tw_all (p : UInt8 → Bool) : ∀ l : List UInt8, decide ((l.takeWhile p).length = l.length) = l.all p
  | [] => rfl
  | a :: r => by
    rw [List.takeWhile_cons, List.all_cons]
    cases h : p a with
    | true => have z := tw_all p r; simp only [if_true, List.length_cons, Bool.true_and, Nat.add_right_cancel_iff]; exact z
    | false => simp
/-- May a text be a name? -/
def nameB (l : List UInt8) : Bool := decide (1 ≤ l.length) && (decide (l.length ≤ 60) && (firstB (l.getD 0 0) && l.all moreB))
theorem name_f (s : ByteArray) (hs : s.size ≤ 1073741824) (k : Nat) (hk : s.size < k) : token_Name.f k s = some (nameB (L s)) := by
  unfold token_Name.f nameB
  rw [toList_L]
  by_cases h0 : L s = []
  · rw [if_pos h0]; simp [h0]
  · rw [if_neg h0]
    have hp : 0 < s.size := by
      rcases Nat.eq_zero_or_pos s.size with q | q
      · exact absurd (List.length_eq_zero_iff.1 ((L_length s).trans q)) h0
      · exact q
    have hb := bt_L s 0
    rw [← L_length] at hp ⊢
    have e1 : decide (1 ≤ (L s).length) = true := decide_eq_true (by omega)
    rw [e1, Bool.true_and]
    by_cases h1 : (L s).length ≤ 60
    · rw [if_pos (by omega), if_pos (by omega), show (0 : Int) = ((0 : Nat) : Int) from rfl, hb, first_f, decide_eq_true h1, Bool.true_and]
      simp only [Option.bind_some]
      cases hf : firstB ((L s).getD 0 0) with
      | false => simp
      | true =>
        rw [if_pos rfl, run_more_f s hs k hk, Option.bind_some, Bool.true_and, ← tw_all]
        congr 1
        by_cases q : ((L s).takeWhile moreB).length = (L s).length
        · rw [q]; simp
        · rw [decide_eq_false q]; simp only [beq_eq_false_iff_ne, ne_eq]; omega
    · rw [if_neg (by omega), decide_eq_false h1, Bool.false_and]
theorem run_plain_l (s : ByteArray) (hs : s.size ≤ 1073741824) : ∀ (d i : Nat), i + d = s.size → ∀ k, d < k →
    token_run_plain.l0 k s (s.size : Int) (i : Int) = some ((i + (((L s).drop i).takeWhile plainB).length : Nat) : Int) := by
  intro d
  induction d with
  | zero =>
    intro i hi k hk
    obtain ⟨k, rfl⟩ : ∃ m, k = m + 1 := ⟨k - 1, by omega⟩
    simp only [token_run_plain.l0]
    rw [if_neg (by omega), List.drop_eq_nil_of_le (by rw [L_length]; omega)]
    simp; omega
  | succ d ih =>
    intro i hi k hk
    obtain ⟨k, rfl⟩ : ∃ m, k = m + 1 := ⟨k - 1, by omega⟩
    have hlt : i < (L s).length := by rw [L_length]; omega
    have hd := List.drop_eq_getElem_cons hlt
    have hb := (bt_drop hd).1
    simp only [token_run_plain.l0]
    rw [if_pos (by omega), if_pos (by omega), if_pos (by omega), hb, plain_f]
    simp only [Option.bind_some]
    rw [hd, List.takeWhile_cons]
    cases hm : plainB (L s)[i] with
    | true =>
      rw [if_pos rfl, wrap64_s (by omega) (by omega)]
      have := ih (i + 1) (by omega) k (by omega)
      rw [Int.natCast_succ] at this
      rw [this]
      simp; omega
    | false =>
      rw [if_neg (by decide)]
      simp
theorem run_plain_f (s : ByteArray) (hs : s.size ≤ 1073741824) (k : Nat) (hk : s.size < k) : token_run_plain.f k s = some (((L s).takeWhile plainB).length : Int) := by
  have := run_plain_l s hs s.size 0 (by omega) k hk
  simpa [token_run_plain.f] using this
theorem index_34 : ∀ l : List UInt8, decide (0 ≤ Lib.indexByte l 34) = !(l.all fun c => c != 34) := by
  have hge : ∀ l : List UInt8, -1 ≤ Lib.indexByte l 34 := by
    intro l
    induction l with
    | nil => simp [Lib.indexByte]
    | cons a r ih =>
      simp only [Lib.indexByte]
      split
      · omega
      · split <;> omega
  intro l
  induction l with
  | nil => simp [Lib.indexByte]
  | cons a r ih =>
    have hg := hge r
    have e : Lib.indexByte (a :: r) 34 = if (a == 34) = true then 0 else if (Lib.indexByte r 34 == -1) = true then -1 else Lib.indexByte r 34 + 1 := rfl
    by_cases q : a = 34
    · have e2 : Lib.indexByte (a :: r) 34 = 0 := by rw [e, if_pos (by simpa using q)]
      rw [e2, List.all_cons, q]
      rfl
    · have qn : (a != 34) = true := bne_iff_ne.2 q
      by_cases q2 : Lib.indexByte r 34 = -1
      · have e3 : Lib.indexByte (a :: r) 34 = -1 := by rw [e, if_neg (by simpa using q), if_pos (by simpa using q2)]
        rw [e3, List.all_cons, qn, Bool.true_and, ← ih, q2]
      · have e3 : Lib.indexByte (a :: r) 34 = Lib.indexByte r 34 + 1 := by rw [e, if_neg (by simpa using q), if_neg (by simpa using q2)]
        rw [e3, List.all_cons, qn, Bool.true_and, ← ih, decide_eq_true (by omega), decide_eq_true (by omega)]
theorem all_text (l : List UInt8) : l.all textB = (l.all plainB && l.all fun c => c != 34) := by
  induction l with
  | nil => rfl
  | cons a r ih => simp only [List.all_cons, ih, textB_eq]; cases plainB a <;> cases (a != 34) <;> simp
/-- May a token be? -/
def mayB (f0 f1 : Int) (l : List UInt8) : Bool :=
  if f0 = 1 then (if f1 = 0 then nameB l else false) else if f0 = 2 then l == [] else if f0 = 3 then (if f1 = 0 then l.all textB else false) else if f0 = 4 then (if f1 = 0 then (if l = [] then false else L (tokSign (B l)) == l) else false) else false
theorem may_f (f0 f1 : Int) (s : ByteArray) (f3 : Int) (hs : s.size ≤ 1073741824) (k : Nat) (hk : s.size < k) : token_may.f k f0 f1 s f3 = some (mayB f0 f1 (L s)) := by
  unfold token_may.f mayB
  rw [toList_L, name_f s hs k hk, run_plain_f s hs k hk]
  simp only [Option.bind_some, toList_L]
  split
  · split <;> rfl
  · split
    · rfl
    · split
      · split
        · have ha := tw_all plainB (L s)
          have hl := L_length s
          rw [all_text, ← ha]
          by_cases q : ((L s).takeWhile plainB).length = (L s).length
          · rw [if_pos (by omega), decide_eq_true q, Bool.true_and]
            simp only [strings_Contains.f, if_true, Option.bind_some]
            have hi := index_34 (L s)
            rw [hi, Bool.not_not]
          · rw [if_neg (by omega), decide_eq_false q, Bool.false_and]
        · rfl
      · split
        · split
          · split
            · rfl
            · simp only [token_sign.f, Option.bind_some, B_L]
          · rfl
        · rfl
end Go.Proofs.YtjabjooephellaaDoor.Lx
