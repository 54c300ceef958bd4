/- The printed functions of a line's tokens, over lists of bytes: runs of bytes of a kind, texts in quotes, literals, signs. No program in sight. -/

import Derived.Test.YtjabjooephellaaDoorXBx2
import Derived.Test.YtjabjooephellaaDoorXBx7
import Derived.Test.YtjabjooephellaaDoorXBx5
import Derived.Test.YtjabjooephellaaDoorXBx6
import Derived.Lib.Strings
import Derived.Lib.IndexBytes
namespace Go.Proofs.YtjabjooephellaaDoor.Lx
set_option linter.unusedVariables false
set_option linter.unusedSimpArgs false
open Go.RowKit Go.Proofs.YtjabjooephellaaDoor.XB Go.Proofs.YtjabjooephellaaDoorW.PrintWords Go.Proofs.YtjabjooephellaaDoorW.PrintLast

/-- A text's bytes. -/
abbrev L (s : ByteArray) : List UInt8 := s.data.toList
/-- A text of bytes. -/
abbrev B (l : List UInt8) : ByteArray := ⟨l.toArray⟩
theorem L_B (l : List UInt8) : L (B l) = l := by simp [L, B]
theorem B_L (s : ByteArray) : B (L s) = s := by cases s; simp [L, B]
theorem L_length (s : ByteArray) : (L s).length = s.size := data_length s
theorem B_size (l : List UInt8) : (B l).size = l.length := by rw [← L_length, L_B]
theorem L_inj {s t : ByteArray} (h : L s = L t) : s = t := by rw [← B_L s, ← B_L t, h]
theorem toList_L (s : ByteArray) : s.toList = L s := ByteArray.toList_eq s
theorem L_extract (s : ByteArray) (a b : Nat) : L (s.extract a b) = ((L s).drop a).take (b - a) := Lib.extract_data s a b
theorem L_from (s : ByteArray) (a : Nat) : L (s.extract a s.size) = (L s).drop a := Lib.extract_to_end s a
theorem extract_B (s : ByteArray) (a b : Nat) : s.extract a b = B (((L s).drop a).take (b - a)) := L_inj (by rw [L_extract, L_B])
theorem from_B (s : ByteArray) (a : Nat) : s.extract a s.size = B ((L s).drop a) := L_inj (by rw [L_from, L_B])
theorem L_append (s t : ByteArray) : L (s ++ t) = L s ++ L t := by simp [L]
theorem bt_L (s : ByteArray) (i : Nat) : bt s (i : Int) = (((L s).getD i 0).toNat : Int) := by
  unfold bt
  by_cases h : i < s.size
  · rw [dif_pos (by simpa using h)]
    have h' : i < (L s).length := by rw [L_length]; exact h
    simp only [List.getD, List.getElem?_eq_getElem h', Option.getD_some]
    rfl
  · rw [dif_neg (by simpa using h)]
    have h' : (L s).length ≤ i := by rw [L_length]; omega
    simp [List.getD, List.getElem?_eq_none h']
theorem bt_drop {s : ByteArray} {i : Nat} {c : UInt8} {r : List UInt8} (h : (L s).drop i = c :: r) : bt s (i : Int) = (c.toNat : Int) ∧ i < s.size := by
  have hl : i < (L s).length := by
    rcases Nat.lt_or_ge i (L s).length with q | q
    · exact q
    · rw [List.drop_eq_nil_of_le q] at h; cases h
  rw [List.drop_eq_getElem_cons hl] at h
  injection h with h1 h2
  refine ⟨?_, by rw [← L_length]; exact hl⟩
  rw [bt_L]
  simp [List.getD, List.getElem?_eq_getElem hl, h1]
theorem drop_succ {l : List UInt8} {i : Nat} {c : UInt8} {r : List UInt8} (h : l.drop i = c :: r) : l.drop (i + 1) = r := by
  rw [← List.drop_drop, h]; rfl
theorem drop_nil_size {s : ByteArray} {i : Nat} (h : (L s).drop i = []) : s.size ≤ i := by
  have := List.drop_eq_nil_iff.1 h
  rw [L_length] at this
  exact this
theorem wrap64_s {x : Int} (h0 : -9223372036854775808 ≤ x) (h1 : x ≤ 9223372036854775807) : wrap64 x = x := by unfold wrap64; omega

-- bytes of a kind
def firstB (c : UInt8) : Bool := (token_first.f (c.toNat : Int)).getD false
def digitB (c : UInt8) : Bool := (token_digit.f (c.toNat : Int)).getD false
def moreB (c : UInt8) : Bool := (token_more.f (c.toNat : Int)).getD false
def plainB (c : UInt8) : Bool := (token_plain.f (c.toNat : Int)).getD false
def textB (c : UInt8) : Bool := (token_text_1.f (c.toNat : Int)).getD false
def ldigitB (c : UInt8) : Bool := (literal_digit.f (c.toNat : Int)).getD false
def letterB (c : UInt8) : Bool := (literal_letter.f (c.toNat : Int)).getD false
theorem getD_of {α : Type} {x : Option α} {d : α} (h : ∃ b, x = some b) : x = some (x.getD d) := by obtain ⟨b, rfl⟩ := h; rfl
theorem first_ex (a : Int) : ∃ b, token_first.f a = some b := by unfold token_first.f; (repeat' split) <;> exact ⟨_, rfl⟩
theorem digit_ex (a : Int) : ∃ b, token_digit.f a = some b := by unfold token_digit.f; (repeat' split) <;> exact ⟨_, rfl⟩
theorem plain_ex (a : Int) : ∃ b, token_plain.f a = some b := by unfold token_plain.f; (repeat' split) <;> exact ⟨_, rfl⟩
theorem ldigit_ex (a : Int) : ∃ b, literal_digit.f a = some b := by unfold literal_digit.f; (repeat' split) <;> exact ⟨_, rfl⟩
theorem more_ex (a : Int) : ∃ b, token_more.f a = some b := by
  obtain ⟨x, hx⟩ := first_ex a
  obtain ⟨y, hy⟩ := digit_ex a
  unfold token_more.f
  rw [hx]; simp only [Option.bind_some]; rw [hy]
  split <;> exact ⟨_, rfl⟩
theorem text_ex (a : Int) : ∃ b, token_text_1.f a = some b := by
  obtain ⟨x, hx⟩ := plain_ex a
  unfold token_text_1.f
  rw [hx]; simp only [Option.bind_some]
  split <;> exact ⟨_, rfl⟩
theorem letter_ex (a : Int) : ∃ b, literal_letter.f a = some b := by
  obtain ⟨x, hx⟩ := ldigit_ex a
  unfold literal_letter.f
  rw [hx]; simp only [Option.bind_some]
  (repeat' split) <;> exact ⟨_, rfl⟩
theorem first_f (c : UInt8) : token_first.f (c.toNat : Int) = some (firstB c) := getD_of (first_ex _)
theorem digit_f (c : UInt8) : token_digit.f (c.toNat : Int) = some (digitB c) := getD_of (digit_ex _)
theorem more_f (c : UInt8) : token_more.f (c.toNat : Int) = some (moreB c) := getD_of (more_ex _)
theorem plain_f (c : UInt8) : token_plain.f (c.toNat : Int) = some (plainB c) := getD_of (plain_ex _)
theorem text_f (c : UInt8) : token_text_1.f (c.toNat : Int) = some (textB c) := getD_of (text_ex _)
theorem ldigit_f (c : UInt8) : literal_digit.f (c.toNat : Int) = some (ldigitB c) := getD_of (ldigit_ex _)
theorem letter_f (c : UInt8) : literal_letter.f (c.toNat : Int) = some (letterB c) := getD_of (letter_ex _)
theorem moreB_eq (c : UInt8) : moreB c = (firstB c || digitB c) := by
  have h := more_f c
  unfold token_more.f at h
  rw [first_f, digit_f] at h
  simp only [Option.bind_some] at h
  cases hf : firstB c <;> simp [hf] at h ⊢ <;> first | exact h | exact h.symm
theorem ldigitB_eq (c : UInt8) : ldigitB c = digitB c := rfl

-- the runs
theorem run_more_l (s : ByteArray) (hs : s.size ≤ 1073741824) : ∀ (d i : Nat), i + d = s.size → ∀ k, d < k →
    token_run_more.l0 k s (s.size : Int) (i : Int) = some ((i + (((L s).drop i).takeWhile moreB).length : Nat) : Int) := by
  intro d
  induction d with
  | zero =>
    intro i hi k hk
    obtain ⟨k, rfl⟩ : ∃ m, k = m + 1 := ⟨k - 1, by omega⟩
    simp only [token_run_more.l0]
    rw [if_neg (by omega), List.drop_eq_nil_of_le (by rw [L_length]; omega)]
    simp; omega
  | succ d ih =>
    intro i hi k hk
    obtain ⟨k, rfl⟩ : ∃ m, k = m + 1 := ⟨k - 1, by omega⟩
    have hlt : i < (L s).length := by rw [L_length]; omega
    have hd := List.drop_eq_getElem_cons hlt
    have hb := (bt_drop hd).1
    simp only [token_run_more.l0]
    rw [if_pos (by omega), if_pos (by omega), if_pos (by omega), hb, more_f]
    simp only [Option.bind_some]
    rw [hd, List.takeWhile_cons]
    cases hm : moreB (L s)[i] with
    | true =>
      rw [if_pos rfl, wrap64_s (by omega) (by omega)]
      have := ih (i + 1) (by omega) k (by omega)
      rw [Int.natCast_succ] at this
      rw [this]
      simp; omega
    | false =>
      rw [if_neg (by decide)]
      simp
theorem run_text_l (s : ByteArray) (hs : s.size ≤ 1073741824) : ∀ (d i : Nat), i + d = s.size → ∀ k, d < k →
    token_run_text.l0 k s (s.size : Int) (i : Int) = some ((i + (((L s).drop i).takeWhile textB).length : Nat) : Int) := by
  intro d
  induction d with
  | zero =>
    intro i hi k hk
    obtain ⟨k, rfl⟩ : ∃ m, k = m + 1 := ⟨k - 1, by omega⟩
    simp only [token_run_text.l0]
    rw [if_neg (by omega), List.drop_eq_nil_of_le (by rw [L_length]; omega)]
    simp; omega
  | succ d ih =>
    intro i hi k hk
    obtain ⟨k, rfl⟩ : ∃ m, k = m + 1 := ⟨k - 1, by omega⟩
    have hlt : i < (L s).length := by rw [L_length]; omega
    have hd := List.drop_eq_getElem_cons hlt
    have hb := (bt_drop hd).1
    simp only [token_run_text.l0]
    rw [if_pos (by omega), if_pos (by omega), if_pos (by omega), hb, text_f]
    simp only [Option.bind_some]
    rw [hd, List.takeWhile_cons]
    cases hm : textB (L s)[i] with
    | true =>
      rw [if_pos rfl, wrap64_s (by omega) (by omega)]
      have := ih (i + 1) (by omega) k (by omega)
      rw [Int.natCast_succ] at this
      rw [this]
      simp; omega
    | false =>
      rw [if_neg (by decide)]
      simp
theorem run_more_f (s : ByteArray) (hs : s.size ≤ 1073741824) (k : Nat) (hk : s.size < k) : token_run_more.f k s = some (((L s).takeWhile moreB).length : Int) := by
  have := run_more_l s hs s.size 0 (by omega) k hk
  simpa [token_run_more.f] using this
theorem run_text_f (s : ByteArray) (hs : s.size ≤ 1073741824) (k : Nat) (hk : s.size < k) : token_run_text.f k s = some (((L s).takeWhile textB).length : Int) := by
  have := run_text_l s hs s.size 0 (by omega) k hk
  simpa [token_run_text.f] using this

/-- What is told of one token, places from its begin on: its kind, its number, its text, how many bytes; or the fault. -/
inductive Nx where
  | ok (kind n : Int) (t : List UInt8) (m : Nat)
  | bad (e o : Int)

-- a text in quotes
def textL (l : List UInt8) : Nx :=
  let m := 1 + (l.tail.takeWhile textB).length
  if m = l.length then .bad 4 m
  else if l.getD m 0 = 34 then .ok 3 0 ((l.take m).drop 1) (m + 1) else .bad 4 m
def Nx.out (at_ : Int) : Nx → Int × Int × ByteArray × Int × Int × Int × Int
  | .ok k n t m => (k, n, B t, at_, (m : Int), 0, 0)
  | .bad e o => (0, 0, ⟨#[]⟩, 0, 0, e, at_ + o)
theorem takeWhile_le (p : UInt8 → Bool) (l : List UInt8) : (l.takeWhile p).length ≤ l.length := (List.takeWhile_sublist p).length_le
theorem u8_34 (c : UInt8) : ((c.toNat : Int) = 34) ↔ c = 34 := by
  constructor
  · intro h
    apply UInt8.toNat_inj.1
    have : (34 : UInt8).toNat = 34 := rfl
    omega
  · rintro rfl; rfl
theorem text_tok (s : ByteArray) (at_ : Int) (h0 : 0 ≤ at_) (h1 : at_ ≤ 1073741824) (hs : s.size ≤ 1073741824) (hp : 0 < s.size) (k : Nat) (hk : s.size < k) :
    token_text.f k s at_ = some ((textL (L s)).out at_) := by
  unfold token_text.f
  have e1 : (s.extract 1 s.size).size < k := by rw [from_B, B_size, List.length_drop, L_length]; omega
  have e2 : (s.extract 1 s.size).size ≤ 1073741824 := by rw [from_B, B_size, List.length_drop, L_length]; omega
  have hr := run_text_f _ e2 k e1
  rw [L_from, List.drop_one] at hr
  have hl := takeWhile_le textB (L s).tail
  rw [List.length_tail, L_length] at hl
  unfold textL
  generalize ((L s).tail.takeWhile textB).length = m at *
  rw [if_pos (by omega), hr, Option.bind_some, L_length]
  simp only
  rw [wrap64_s (by omega) (by omega)]
  by_cases c1 : 1 + m = s.size
  · rw [if_pos (by omega), if_pos c1]
    simp only [Nx.out]
    rw [wrap64_s (by omega) (by omega), Int.natCast_add]
    rfl
  · rw [if_neg (by omega), if_neg c1, if_pos (by omega), if_pos (by omega)]
    have e : (1 + (m : Int)) = ((1 + m : Nat) : Int) := by omega
    rw [e, bt_L]
    by_cases c2 : (L s).getD (1 + m) 0 = 34
    · rw [if_pos ((u8_34 _).2 c2), if_pos c2, if_pos (by omega), if_pos (by omega)]
      simp only [Nx.out]
      rw [wrap64_s (by omega) (by omega), extract_B, Int.toNat_natCast, List.drop_take, Int.natCast_add (1 + m) 1]
      rfl
    · rw [if_neg (fun h => c2 ((u8_34 _).1 h)), if_neg c2]
      simp only [Nx.out]
      rw [wrap64_s (by omega) (by omega)]
end Go.Proofs.YtjabjooephellaaDoor.Lx
