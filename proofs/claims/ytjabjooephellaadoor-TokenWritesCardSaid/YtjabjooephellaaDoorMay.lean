/- Which tokens may be, by the program and by the document, over lists of bytes. No program in sight. -/
import Derived.Test.YtjabjooephellaaDoorLexE
import Derived.Test.YtjabjooephellaaDoorXx4
import Derived.Test.YtjabjooephellaaDoorXx7
import Derived.Test.YtjabjooephellaaDoorXx6
namespace Go.Proofs.YtjabjooephellaaDoor.Lx
set_option linter.unusedVariables false
set_option linter.unusedSimpArgs false
open Go.RowKit Go.Proofs.YtjabjooephellaaDoor.X Go.Proofs.YtjabjooephellaaDoorW.PrintWords Go.Proofs.YtjabjooephellaaDoorW.PrintLast

theorem refFirst_all : ∀ n : Nat, n < 256 → linotyperef22_first.f (n : Int) = token_first.f (n : Int) := by decide +kernel
theorem refMore_all : ∀ n : Nat, n < 256 → linotyperef22_more.f (n : Int) = token_more.f (n : Int) := by decide +kernel
theorem refText_all : ∀ n : Nat, n < 256 → (if (n : Int) < 32 then false else if (n : Int) > 126 then false else if (n : Int) = 34 then false else true) = (token_text_1.f (n : Int)).getD false := by decide +kernel
theorem refFirst (c : UInt8) : linotyperef22_first.f (c.toNat : Int) = some (firstB c) := (refFirst_all c.toNat c.toNat_lt).trans (first_f c)
theorem refMore (c : UInt8) : linotyperef22_more.f (c.toNat : Int) = some (moreB c) := (refMore_all c.toNat c.toNat_lt).trans (more_f c)
theorem textB_eq (c : UInt8) : textB c = (plainB c && (c != 34)) := by
  have h := text_f c
  unfold token_text_1.f at h
  rw [plain_f] at h
  simp only [Option.bind_some] at h
  cases hp : plainB c with
  | true =>
    rw [hp, if_pos rfl] at h
    have h := Option.some.inj h
    rw [← h, Bool.true_and]
    by_cases q : c = 34
    · subst q; decide
    · have q2 : ¬ ((c.toNat : Int) = 34) := fun z => q ((u8_34 c).1 z)
      have e1 : ((c.toNat : Int) != 34) = true := bne_iff_ne.2 q2
      have e2 : (c != 34) = true := bne_iff_ne.2 q
      exact e1.trans e2.symm
  | false =>
    rw [hp, if_neg (by decide)] at h
    rw [← Option.some.inj h, Bool.false_and]
theorem tw_all (p : UInt8 → Bool) : ∀ l : List UInt8, decide ((l.takeWhile p).length = l.length) = l.all p
  | [] => rfl
  | a :: r => by
    rw [List.takeWhile_cons, List.all_cons]
    cases h : p a with
    | true => have z := tw_all p r; simp only [if_true, List.length_cons, Bool.true_and, Nat.add_right_cancel_iff]; exact z
    | false => simp
/-- May a text be a name? -/
def nameB (l : List UInt8) : Bool := decide (1 ≤ l.length) && (decide (l.length ≤ 60) && (firstB (l.getD 0 0) && l.all moreB))
theorem name_f (s : ByteArray) (hs : s.size ≤ 1073741824) (k : Nat) (hk : s.size < k) : token_Name.f k s = some (nameB (L s)) := by
  unfold token_Name.f nameB
  rw [toList_L]
  by_cases h0 : L s = []
  · rw [if_pos h0]; simp [h0]
  · rw [if_neg h0]
    have hp : 0 < s.size := by
      rcases Nat.eq_zero_or_pos s.size with q | q
      · exact absurd (List.length_eq_zero_iff.1 ((L_length s).trans q)) h0
      · exact q
    have hb := bt_L s 0
    rw [← L_length] at hp ⊢
    have e1 : decide (1 ≤ (L s).length) = true := decide_eq_true (by omega)
    rw [e1, Bool.true_and]
    by_cases h1 : (L s).length ≤ 60
    · rw [if_pos (by omega), if_pos (by omega), show (0 : Int) = ((0 : Nat) : Int) from rfl, hb, first_f, decide_eq_true h1, Bool.true_and]
      simp only [Option.bind_some]
      cases hf : firstB ((L s).getD 0 0) with
      | false => simp
      | true =>
        rw [if_pos rfl, run_more_f s hs k hk, Option.bind_some, Bool.true_and, ← tw_all]
        congr 1
        by_cases q : ((L s).takeWhile moreB).length = (L s).length
        · rw [q]; simp
        · rw [decide_eq_false q]; simp only [beq_eq_false_iff_ne, ne_eq]; omega
    · rw [if_neg (by omega), decide_eq_false h1, Bool.false_and]
theorem refName_l (s : ByteArray) (hs : s.size ≤ 1073741824) : ∀ (d i : Nat), i + d = s.size → ∀ k, d < k →
    linotyperef22_Name.l0 k s (i : Int) = some (((L s).drop i).all moreB) := by
  intro d
  induction d with
  | zero =>
    intro i hi k hk
    obtain ⟨k, rfl⟩ : ∃ m, k = m + 1 := ⟨k - 1, by omega⟩
    simp only [linotyperef22_Name.l0]
    rw [if_neg (by omega), List.drop_eq_nil_of_le (by rw [L_length]; omega)]
    rfl
  | succ d ih =>
    intro i hi k hk
    obtain ⟨k, rfl⟩ : ∃ m, k = m + 1 := ⟨k - 1, by omega⟩
    have hlt : i < (L s).length := by rw [L_length]; omega
    have hd := List.drop_eq_getElem_cons hlt
    have hb := (bt_drop hd).1
    simp only [linotyperef22_Name.l0]
    rw [if_pos (by omega), if_pos (by omega), hb, refMore]
    simp only [Option.bind_some]
    rw [hd, List.all_cons]
    cases hm : moreB (L s)[i] with
    | true =>
      rw [if_pos rfl, wrap64_s (by omega) (by omega)]
      have := ih (i + 1) (by omega) k (by omega)
      rw [Int.natCast_succ] at this
      rw [this, Bool.true_and]
    | false => rw [if_neg (by decide), Bool.false_and]
theorem refName_f (s : ByteArray) (hs : s.size ≤ 1073741824) (k : Nat) (hk : s.size + 2 < k) : linotyperef22_Name.f k s = some (nameB (L s)) := by
  obtain ⟨k, rfl⟩ : ∃ m, k = m + 1 := ⟨k - 1, by omega⟩
  unfold linotyperef22_Name.f nameB
  have hl := L_length s
  have hb := bt_L s 0
  by_cases h0 : (s.size : Int) < 1
  · rw [if_pos h0]
    simp only [linotyperef22_Name.j0]
    rw [if_pos trivial, decide_eq_false (by omega), Bool.false_and]
  · rw [if_neg h0, decide_eq_true (by omega : 1 ≤ (L s).length), Bool.true_and]
    by_cases h1 : (s.size : Int) > 60
    · rw [if_pos h1]
      simp only [linotyperef22_Name.j0]
      rw [if_pos trivial, decide_eq_false (by omega), Bool.false_and]
    · rw [if_neg h1, if_pos (by omega), decide_eq_true (by omega : (L s).length ≤ 60), Bool.true_and, show (0 : Int) = ((0 : Nat) : Int) from rfl, hb, refFirst, Option.bind_some]
      simp only [linotyperef22_Name.j0]
      cases hf : firstB ((L s).getD 0 0) with
      | false => simp
      | true =>
        have z := refName_l s hs (s.size - 1) 1 (by omega) k (by omega)
        rw [if_neg (by decide), show (1 : Int) = ((1 : Nat) : Int) from rfl, z, Bool.true_and]
        congr 1
        match hL : L s, hl, hf with
        | [], hl, _ => simp at hl; omega
        | a :: r, _, hf =>
          simp only [List.getD_cons_zero] at hf
          simp [moreB_eq, hf]
theorem refSign_l (s : ByteArray) (hs : s.size ≤ 1073741824) (ls : List ByteArray) (hl : ls.length ≤ 1000) : ∀ (d i : Nat), i + d = ls.length → ∀ k, d < k →
    linotyperef22_Sign.l0 k s ls (i : Int) = some (tokSignFrom (ls.drop i) s) := by
  intro d
  induction d with
  | zero =>
    intro i hi k hk
    obtain ⟨k, rfl⟩ : ∃ m, k = m + 1 := ⟨k - 1, by omega⟩
    simp only [linotyperef22_Sign.l0]
    rw [if_neg (by omega), List.drop_eq_nil_of_le (by omega)]
    rfl
  | succ d ih =>
    intro i hi k hk
    obtain ⟨k, rfl⟩ : ∃ m, k = m + 1 := ⟨k - 1, by omega⟩
    have hlt : i < ls.length := by omega
    have hd := List.drop_eq_getElem_cons hlt
    have hr : rdOf ByteArray.empty ls (i : Int) = ls[i] := by simp [rdOf, hlt]
    have z := ih (i + 1) (by omega) k (by omega)
    rw [Int.natCast_succ] at z
    simp only [linotyperef22_Sign.l0]
    rw [if_pos (by omega), if_pos (by omega), hr, hd, wrap64_s (by omega) (by omega), z]
    rw [tokSignFrom]
    by_cases q : ls[i].size ≤ s.size
    · rw [if_pos (by omega), if_pos (by omega), if_pos (by omega), Int.toNat_natCast]
      by_cases q2 : (s.extract 0 ls[i].size).toList = ls[i].toList
      · have hp : hasPre s ls[i] = true := by unfold hasPre; rw [decide_eq_true q, Bool.true_and]; exact beq_iff_eq.2 q2
        rw [if_pos q2, if_pos hp]
      · have hp : ¬ hasPre s ls[i] = true := by unfold hasPre; rw [decide_eq_true q, Bool.true_and]; simpa using q2
        rw [if_neg q2, if_neg hp]
    · have hp : ¬ hasPre s ls[i] = true := by unfold hasPre; rw [decide_eq_false q, Bool.false_and]; decide
      rw [if_neg (by omega), if_neg hp]
theorem refSign_f (s : ByteArray) (hs : s.size ≤ 1073741824) (k : Nat) (hk : 20 ≤ k) : linotyperef22_Sign.f k s = some (tokSign s) := by
  unfold linotyperef22_Sign.f
  exact refSign_l s hs tokSigns (by decide) 19 0 (by decide) k (by omega)
theorem run_plain_l (s : ByteArray) (hs : s.size ≤ 1073741824) : ∀ (d i : Nat), i + d = s.size → ∀ k, d < k →
    token_run_plain.l0 k s (s.size : Int) (i : Int) = some ((i + (((L s).drop i).takeWhile plainB).length : Nat) : Int) := by
  intro d
  induction d with
  | zero =>
    intro i hi k hk
    obtain ⟨k, rfl⟩ : ∃ m, k = m + 1 := ⟨k - 1, by omega⟩
    simp only [token_run_plain.l0]
    rw [if_neg (by omega), List.drop_eq_nil_of_le (by rw [L_length]; omega)]
    simp; omega
  | succ d ih =>
    intro i hi k hk
    obtain ⟨k, rfl⟩ : ∃ m, k = m + 1 := ⟨k - 1, by omega⟩
    have hlt : i < (L s).length := by rw [L_length]; omega
    have hd := List.drop_eq_getElem_cons hlt
    have hb := (bt_drop hd).1
    simp only [token_run_plain.l0]
    rw [if_pos (by omega), if_pos (by omega), if_pos (by omega), hb, plain_f]
    simp only [Option.bind_some]
    rw [hd, List.takeWhile_cons]
    cases hm : plainB (L s)[i] with
    | true =>
      rw [if_pos rfl, wrap64_s (by omega) (by omega)]
      have := ih (i + 1) (by omega) k (by omega)
      rw [Int.natCast_succ] at this
      rw [this]
      simp; omega
    | false =>
      rw [if_neg (by decide)]
      simp
theorem run_plain_f (s : ByteArray) (hs : s.size ≤ 1073741824) (k : Nat) (hk : s.size < k) : token_run_plain.f k s = some (((L s).takeWhile plainB).length : Int) := by
  have := run_plain_l s hs s.size 0 (by omega) k hk
  simpa [token_run_plain.f] using this
theorem index_34 : ∀ l : List UInt8, decide (0 ≤ Lib.indexByte l 34) = !(l.all fun c => c != 34) := by
  have hge : ∀ l : List UInt8, -1 ≤ Lib.indexByte l 34 := by
    intro l
    induction l with
    | nil => simp [Lib.indexByte]
    | cons a r ih =>
      simp only [Lib.indexByte]
      split
      · omega
      · split <;> omega
  intro l
  induction l with
  | nil => simp [Lib.indexByte]
  | cons a r ih =>
    have hg := hge r
    have e : Lib.indexByte (a :: r) 34 = if (a == 34) = true then 0 else if (Lib.indexByte r 34 == -1) = true then -1 else Lib.indexByte r 34 + 1 := rfl
    by_cases q : a = 34
    · have e2 : Lib.indexByte (a :: r) 34 = 0 := by rw [e, if_pos (by simpa using q)]
      rw [e2, List.all_cons, q]
      rfl
    · have qn : (a != 34) = true := bne_iff_ne.2 q
      by_cases q2 : Lib.indexByte r 34 = -1
      · have e3 : Lib.indexByte (a :: r) 34 = -1 := by rw [e, if_neg (by simpa using q), if_pos (by simpa using q2)]
        rw [e3, List.all_cons, qn, Bool.true_and, ← ih, q2]
      · have e3 : Lib.indexByte (a :: r) 34 = Lib.indexByte r 34 + 1 := by rw [e, if_neg (by simpa using q), if_neg (by simpa using q2)]
        rw [e3, List.all_cons, qn, Bool.true_and, ← ih, decide_eq_true (by omega), decide_eq_true (by omega)]
theorem all_text (l : List UInt8) : l.all textB = (l.all plainB && l.all fun c => c != 34) := by
  induction l with
  | nil => rfl
  | cons a r ih => simp only [List.all_cons, ih, textB_eq]; cases plainB a <;> cases (a != 34) <;> simp
/-- May a token be? -/
def mayB (f0 f1 : Int) (l : List UInt8) : Bool :=
  if f0 = 1 then (if f1 = 0 then nameB l else false) else if f0 = 2 then l == [] else if f0 = 3 then (if f1 = 0 then l.all textB else false) else if f0 = 4 then (if f1 = 0 then (if l = [] then false else L (tokSign (B l)) == l) else false) else false
theorem may_f (f0 f1 : Int) (s : ByteArray) (f3 : Int) (hs : s.size ≤ 1073741824) (k : Nat) (hk : s.size < k) : token_may.f k f0 f1 s f3 = some (mayB f0 f1 (L s)) := by
  unfold token_may.f mayB
  rw [toList_L, name_f s hs k hk, run_plain_f s hs k hk]
  simp only [Option.bind_some, toList_L]
  split
  · split <;> rfl
  · split
    · rfl
    · split
      · split
        · have ha := tw_all plainB (L s)
          have hl := L_length s
          rw [all_text, ← ha]
          by_cases q : ((L s).takeWhile plainB).length = (L s).length
          · rw [if_pos (by omega), decide_eq_true q, Bool.true_and]
            simp only [strings_Contains.f, if_true, Option.bind_some]
            have hi := index_34 (L s)
            rw [hi, Bool.not_not]
          · rw [if_neg (by omega), decide_eq_false q, Bool.false_and]
        · rfl
      · split
        · split
          · split
            · rfl
            · simp only [token_sign.f, Option.bind_some, B_L]
          · rfl
        · rfl
theorem refMay_l (s : ByteArray) (hs : s.size ≤ 1073741824) (f0 f1 f3 : Int) : ∀ (d i : Nat), i + d = s.size → ∀ k, d < k →
    linotyperef22_may.l0 k (i : Int) f0 f1 s f3 = some (((L s).drop i).all textB) := by
  intro d
  induction d with
  | zero =>
    intro i hi k hk
    obtain ⟨k, rfl⟩ : ∃ m, k = m + 1 := ⟨k - 1, by omega⟩
    simp only [linotyperef22_may.l0]
    rw [if_neg (by omega), List.drop_eq_nil_of_le (by rw [L_length]; omega)]
    rfl
  | succ d ih =>
    intro i hi k hk
    obtain ⟨k, rfl⟩ : ∃ m, k = m + 1 := ⟨k - 1, by omega⟩
    have hlt : i < (L s).length := by rw [L_length]; omega
    have hd := List.drop_eq_getElem_cons hlt
    have hb := (bt_drop hd).1
    have ht : _ = textB (L s)[i] := refText_all (L s)[i].toNat (L s)[i].toNat_lt
    simp only [linotyperef22_may.l0]
    rw [if_pos (by omega), if_pos (by omega), hb, hd, List.all_cons, ← ht]
    have := ih (i + 1) (by omega) k (by omega)
    rw [Int.natCast_succ] at this
    rw [wrap64_s (by omega) (by omega), this]
    split
    · rfl
    · split
      · rfl
      · split
        · rfl
        · simp
theorem refMay_f (f0 f1 : Int) (s : ByteArray) (f3 : Int) (hs : s.size ≤ 1073741824) (k : Nat) (hk : s.size + 22 < k) : linotyperef22_may.f k f0 f1 s f3 = some (mayB f0 f1 (L s)) := by
  obtain ⟨k, rfl⟩ : ∃ m, k = m + 1 := ⟨k - 1, by omega⟩
  unfold linotyperef22_may.f mayB
  rw [toList_L, refName_f s hs (k + 1) (by omega), refSign_f s hs (k + 1) (by omega)]
  simp only [Option.bind_some, toList_L, B_L, linotyperef22_may.j0]
  have z := refMay_l s hs f0 f1 f3 s.size 0 (by omega) k (by omega)
  rw [show (0 : Int) = ((0 : Nat) : Int) from rfl] at *
  rw [z, List.drop_zero]
  by_cases h1 : f0 = 1
  · rw [if_pos h1, if_pos h1]; split <;> rfl
  · rw [if_neg h1, if_neg h1]
    by_cases h2 : f0 = 2
    · rw [if_pos h2, if_pos h2]
    · rw [if_neg h2, if_neg h2]
      by_cases h3 : f0 = 3
      · subst h3
        rw [if_neg (by decide), if_pos rfl, if_pos rfl]
        by_cases h4 : f1 = ((0 : Nat) : Int)
        · rw [if_pos h4, if_neg (by simp [h4])]
        · rw [if_neg h4, if_pos (by simpa using h4)]
      · rw [if_neg h3, if_neg h3]
        by_cases h4 : f0 = 4
        · rw [if_pos h4, if_pos h4]
          split
          · split <;> rfl
          · rfl
        · rw [if_neg h4, if_neg h4]; rfl
end Go.Proofs.YtjabjooephellaaDoor.Lx
