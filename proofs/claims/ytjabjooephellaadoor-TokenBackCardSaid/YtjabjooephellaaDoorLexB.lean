/- A literal, a sign, the next token, a line's tokens: the printed functions over lists of bytes. No program in sight. -/
import Derived.Test.YtjabjooephellaaDoorLexA
namespace Go.Proofs.YtjabjooephellaaDoor.Lx
set_option linter.unusedVariables false
set_option linter.unusedSimpArgs false
open Go.RowKit Go.Proofs.YtjabjooephellaaDoor.XB Go.Proofs.YtjabjooephellaaDoorW.PrintWords Go.Proofs.YtjabjooephellaaDoorW.PrintLast

-- a text's literal: what stands behind the quote
def charL : List UInt8 → Nat → Int → Nx
  | [], k, _ => .bad 4 ((1 + k : Nat) : Int)
  | c :: r, k, n =>
    if c.toNat = 39 then (if k = 0 then .bad 4 ((1 + k : Nat) : Int) else .ok 2 n [] (1 + k + 1))
    else if c.toNat < 32 ∨ 126 < c.toNat then .bad 4 ((1 + k : Nat) : Int)
    else if k = 8 then .bad 3 ((1 + k : Nat) : Int)
    else charL r (k + 1) (Go.bits .or .i64 n (shl .i64 (wrap64 (c.toNat : Int)) (wrap64 (8 * (k : Int)))))
def Nx.lit : Nx → Int × Int × Int × Int
  | .ok _ n _ m => (n, (m : Int), 0, 0)
  | .bad e o => (0, 0, e, o)
theorem u8_39 (c : UInt8) : ((c.toNat : Int) = 39) ↔ c.toNat = 39 := by omega
theorem litText_l (s : ByteArray) (hs : s.size ≤ 1073741824) : ∀ (r : List UInt8) (kk : Nat) (n : Int), kk ≤ 8 → 1 + kk ≤ s.size → (L s).drop (1 + kk) = r → ∀ k, 3 * r.length + 3 ≤ k →
    literal_text.l0 k s 0 n (kk : Int) = some ((charL r kk n).lit) := by
  intro r
  induction r with
  | nil =>
    intro kk n hkk hks hr k hk
    obtain ⟨k, rfl⟩ : ∃ m, k = m + 1 := ⟨k - 1, by omega⟩
    have hz := drop_nil_size hr
    have e : wrap64 (wrap64 (0 + 1) + (kk : Int)) = ((1 + kk : Nat) : Int) := by
      rw [wrap64_s (x := 0 + 1) (by decide) (by decide), wrap64_s (by omega) (by omega)]; omega
    simp only [literal_text.l0, e]
    rw [if_pos (by omega)]
    simp only [charL, Nx.lit]
    rw [show s.size = 1 + kk by omega]
  | cons c r ih =>
    intro kk n hkk hks hr k hk
    simp only [List.length_cons] at hk
    obtain ⟨k, rfl⟩ : ∃ m, k = m + 3 := ⟨k - 3, by omega⟩
    obtain ⟨hb, hlt⟩ := bt_drop hr
    have e : wrap64 (wrap64 (0 + 1) + (kk : Int)) = ((1 + kk : Nat) : Int) := by
      rw [wrap64_s (x := 0 + 1) (by decide) (by decide), wrap64_s (by omega) (by omega)]; omega
    have e8 : wrap64 (8 * (kk : Int)) = 8 * (kk : Int) := wrap64_s (by omega) (by omega)
    simp only [literal_text.l0, e]
    rw [if_neg (by omega), if_pos (by omega), if_pos (by omega), hb]
    unfold charL
    by_cases c1 : c.toNat = 39
    · rw [if_pos (by omega), if_pos c1]
      simp only [literal_text.j1]
      by_cases c0 : kk = 0
      · subst c0
        rfl
      · rw [if_neg (by simpa using c0), if_neg c0, if_pos (by omega), if_pos (by omega), hb, if_pos (by omega), wrap64_s (by omega) (by omega)]
        simp only [Nx.lit]
        rw [Int.natCast_add (1 + kk) 1]
        rfl
    · rw [if_neg (by omega), if_neg c1]
      simp only [literal_text.j1]
      rw [if_neg (by decide), if_pos (by omega), if_pos (by omega), hb, if_neg (by omega)]
      by_cases c2 : c.toNat < 32
      · rw [if_pos (by omega), if_pos (Or.inl c2)]
        simp only [literal_text.j2]
        rfl
      · rw [if_neg (by omega)]
        simp only [literal_text.j2]
        by_cases c3 : 126 < c.toNat
        · rw [if_pos (decide_eq_true (by omega)), if_pos (Or.inr c3)]
          rfl
        · rw [if_neg (by rw [decide_eq_false (by omega)]; decide), if_neg (show ¬ (c.toNat < 32 ∨ 126 < c.toNat) by omega)]
          by_cases c4 : kk = 8
          · rw [if_pos (by omega), if_pos c4]
            rfl
          · rw [if_neg (by omega), if_neg c4, if_pos (by omega), if_pos (by omega), if_pos (by rw [e8]; omega), hb]
            have hw : wrap64 ((kk : Int) + 1) = ((kk + 1 : Nat) : Int) := by rw [wrap64_s (by omega) (by omega)]; omega
            rw [hw]
            exact ih (kk + 1) _ (by omega) (by omega) (by rw [← drop_succ hr]; congr 1) k (by omega)
def scanL (l : List UInt8) : Nx :=
  match l with
  | [] => .bad 6 0
  | c :: r =>
    if c.toNat = 39 then charL r 0 0
    else if ldigitB c = true then
      let m := (l.takeWhile letterB).length
      if (wordOf (B (l.take m)) 0).2.1 = 0 then .ok 2 (wordOf (B (l.take m)) 0).1 [] m else .bad (wordOf (B (l.take m)) 0).2.1 (wordOf (B (l.take m)) 0).2.2
    else .bad 6 0
theorem letter_of_digit {c : UInt8} (h : ldigitB c = true) : letterB c = true := by
  have hl := letter_f c
  unfold literal_letter.f at hl
  rw [ldigit_f, h] at hl
  simp only [Option.bind_some, if_true] at hl
  exact (Option.some.inj hl).symm
theorem scanLetters (s : ByteArray) (hs : s.size ≤ 1073741824) : ∀ (d i : Nat), i + d = s.size → 0 < i + ((L s).drop i |>.takeWhile letterB).length → ∀ k, d < k →
    literal_Scan.l0 k s 0 (i : Int) = some (
      let m := i + (((L s).drop i).takeWhile letterB).length
      if (wordOf (B ((L s).take m)) 0).2.1 = 0 then ((wordOf (B ((L s).take m)) 0).1, (m : Int), 0, 0) else (0, 0, (wordOf (B ((L s).take m)) 0).2.1, (wordOf (B ((L s).take m)) 0).2.2)) := by
  have fin : ∀ i : Nat, 0 < i → i ≤ s.size → (literal_word.f (s.extract ((0 : Int).toNat) ((i : Int).toNat)) 0).bind (fun bt => if bt.2.1 = 0 then some (bt.1, (i : Int), (0 : Int), (0 : Int)) else some (0, 0, bt.2.1, bt.2.2)) =
      some (if (wordOf (B ((L s).take i)) 0).2.1 = 0 then ((wordOf (B ((L s).take i)) 0).1, (i : Int), 0, 0) else (0, 0, (wordOf (B ((L s).take i)) 0).2.1, (wordOf (B ((L s).take i)) 0).2.2)) := by
    intro i h0 h1
    rw [extract_B]
    simp only [Int.toNat_natCast, Int.toNat_zero, Nat.sub_zero, List.drop_zero]
    have hz : (B ((L s).take i)).size = i := by rw [B_size, List.length_take, L_length]; omega
    unfold literal_word.f
    rw [if_pos (by rw [hz]; omega)]
    simp only [Option.bind_some]
    split <;> rfl
  intro d
  induction d with
  | zero =>
    intro i hi hm k hk
    obtain ⟨k, rfl⟩ : ∃ m, k = m + 1 := ⟨k - 1, by omega⟩
    have hd : (L s).drop i = [] := List.drop_eq_nil_of_le (by rw [L_length]; omega)
    rw [hd] at hm ⊢
    simp only [List.takeWhile_nil, List.length_nil, Nat.add_zero] at hm ⊢
    simp only [literal_Scan.l0]
    rw [if_neg (by omega), if_pos (by omega), if_pos (by omega), if_pos (by omega)]
    exact fin i hm (by omega)
  | succ d ih =>
    intro i hi hm k hk
    obtain ⟨k, rfl⟩ : ∃ m, k = m + 1 := ⟨k - 1, by omega⟩
    have hlt : i < (L s).length := by rw [L_length]; omega
    have hd := List.drop_eq_getElem_cons hlt
    have hb := (bt_drop hd).1
    simp only [literal_Scan.l0]
    rw [if_pos (by omega), if_pos (by omega), hb, letter_f, Option.bind_some]
    cases hc : letterB (L s)[i] with
    | true =>
      have e : i + (((L s).drop i).takeWhile letterB).length = (i + 1) + (((L s).drop (i + 1)).takeWhile letterB).length := by
        rw [hd, List.takeWhile_cons, if_pos hc, List.length_cons]; omega
      rw [if_pos rfl, wrap64_s (by omega) (by omega), e]
      have z := ih (i + 1) (by omega) (by omega) k (by omega)
      rw [Int.natCast_succ] at z
      exact z
    | false =>
      have e : (((L s).drop i).takeWhile letterB).length = 0 := by
        rw [hd, List.takeWhile_cons, if_neg (by rw [hc]; decide)]; rfl
      rw [e] at hm ⊢
      rw [if_neg (by decide), if_pos (by omega), if_pos (by omega), if_pos (by omega)]
      exact fin i (by omega) (by omega)
theorem scan_f (s : ByteArray) (hs : s.size ≤ 1073741824) (hp : 0 < s.size) (k : Nat) (hk : 3 * s.size + 6 ≤ k) : literal_Scan.f k s 0 = some ((scanL (L s)).lit) := by
  have hlt : 0 < (L s).length := by rw [L_length]; omega
  have hd := List.drop_eq_getElem_cons hlt
  rw [List.drop_zero] at hd
  have hb := (bt_drop (s := s) (i := 0) (by rw [List.drop_zero]; exact hd)).1
  obtain ⟨k, rfl⟩ : ∃ m, k = m + 1 := ⟨k - 1, by omega⟩
  unfold literal_Scan.f
  rw [if_neg (by decide), if_pos (by omega), if_pos (by decide)]
  have hb' : bt s 0 = ((L s)[0].toNat : Int) := hb
  rw [hb']
  unfold scanL
  generalize (L s)[0] = c at *
  generalize hr : (L s).drop (0 + 1) = r at *
  rw [hd]
  simp only [literal_Scan.j0]
  by_cases c1 : c.toNat = 39
  · rw [if_pos (by simpa using (u8_39 c).2 c1), if_pos c1]
    unfold literal_text.f
    have hl : r.length + 1 = s.size := by rw [← L_length, hd, List.length_cons]
    have z := litText_l s hs r 0 0 (by omega) (by omega) hr k (by omega)
    have z' : literal_text.l0 k s 0 0 0 = some ((charL r 0 0).lit) := z
    rw [z', Option.bind_some]
  · rw [if_neg (by simpa using fun h => c1 ((u8_39 c).1 h)), if_neg c1, if_neg (by omega), if_pos (by decide), if_pos (by omega), hb', ldigit_f, Option.bind_some]
    cases hc : ldigitB c with
    | true =>
      rw [if_pos rfl, if_pos rfl]
      have hne : 0 < 0 + (((L s).drop 0).takeWhile letterB).length := by
        rw [List.drop_zero, hd, List.takeWhile_cons, if_pos (letter_of_digit hc), List.length_cons]; omega
      have z := scanLetters s hs s.size 0 (by omega) hne k (by omega)
      have z' : literal_Scan.l0 k s 0 0 = _ := z
      rw [z']
      simp only [Nat.zero_add, List.drop_zero, hd]
      split <;> rfl
    | false =>
      rw [if_neg (by decide), if_neg (by decide)]
      rfl
end Go.Proofs.YtjabjooephellaaDoor.Lx
