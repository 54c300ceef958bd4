/- The next token and a line's tokens over lists of bytes: what the printed functions come to. No program in sight. -/
import Derived.Test.YtjabjooephellaaDoorLexB
import Derived.Test.YtjabjooephellaaDoorXBx8
import Derived.Test.YtjabjooephellaaDoorXBx9
namespace Go.Proofs.YtjabjooephellaaDoor.Lx
set_option linter.unusedVariables false
set_option linter.unusedSimpArgs false
open Go.RowKit Go.Proofs.YtjabjooephellaaDoor.XB Go.Proofs.YtjabjooephellaaDoorW.PrintWords Go.Proofs.YtjabjooephellaaDoorW.PrintLast

def signL (l : List UInt8) : List UInt8 := L (tokSign (B l))
def nextL (l : List UInt8) : Nx :=
  match l with
  | [] => .bad 4 0
  | c :: r =>
    if firstB c = true then
      (if 60 < ((c :: r).takeWhile moreB).length then .bad 3 60 else .ok 1 0 ((c :: r).take ((c :: r).takeWhile moreB).length) ((c :: r).takeWhile moreB).length)
    else if c.toNat = 34 then textL (c :: r)
    else if digitB c = true ∨ c.toNat = 39 then scanL (c :: r)
    else if signL (c :: r) = [] then .bad 4 0 else .ok 4 0 (signL (c :: r)) (signL (c :: r)).length
/-- Of a text of n bytes: a token is of one byte at least, and of n at most; a fault lies in it, and is one. -/
def Nx.good (n : Nat) : Nx → Prop
  | .ok _ _ _ m => 1 ≤ m ∧ m ≤ n
  | .bad e o => e ≠ 0 ∧ 0 ≤ o ∧ o ≤ (n : Int)

theorem good_ite {n : Nat} {c : Prop} [Decidable c] {a b : Nx} (ha : c → a.good n) (hb : ¬ c → b.good n) : (if c then a else b).good n := by
  by_cases h : c
  · rw [if_pos h]; exact ha h
  · rw [if_neg h]; exact hb h
theorem wordL_bd (s : ByteArray) (base low : Int) : ∀ (d : Nat) (i : Int) (over : Bool) (n : Int), 0 ≤ i → 0 ≤ (wordL s 0 base low d i over n).2.2 ∧ (wordL s 0 base low d i over n).2.2 ≤ i + d := by
  intro d
  induction d with
  | zero =>
    intro i over n hi
    unfold wordL
    split <;> simp <;> omega
  | succ d ih =>
    intro i over n hi
    unfold wordL
    split
    · split
      · simp; omega
      · have := ih (i + 1) over n (by omega); omega
    · split
      · simp; omega
      · have := ih (i + 1) (over || (decide (0 < n * base / 18446744073709551616) || decide (0 < (n * base % 18446744073709551616 + litValue (bt s i)) / 18446744073709551616))) ((n * base % 18446744073709551616 + litValue (bt s i)) % 18446744073709551616) (by omega); omega
theorem wordOf_bd (s : ByteArray) (hs : 0 < s.size) : 0 ≤ (wordOf s 0).2.2 ∧ (wordOf s 0).2.2 ≤ s.size := by
  have h := shapeOf_bd s hs
  unfold wordOf
  split
  · simp; omega
  · have := wordL_bd s (shapeOf s).1 (shapeOf s).2.1 ((shapeOf s).2.2 - (shapeOf s).2.1).toNat (shapeOf s).2.1 false 0 (by omega); omega
theorem charL_good : ∀ (r : List UInt8) (k : Nat) (n : Int), (charL r k n).good (k + 1 + r.length) := by
  intro r
  induction r with
  | nil => intro k n; simp [charL, Nx.good]; omega
  | cons c r ih =>
    intro k n
    unfold charL
    split
    · split
      · simp [Nx.good]; omega
      · simp [Nx.good]
        omega
    · split
      · simp [Nx.good]; omega
      · split
        · simp [Nx.good]; omega
        · have z := ih (k + 1) (Go.bits .or .i64 n (shl .i64 (wrap64 (c.toNat : Int)) (wrap64 (8 * (k : Int)))))
          rw [List.length_cons, show k + 1 + (r.length + 1) = k + 1 + 1 + r.length by omega]
          exact z
theorem scanL_good (c : UInt8) (r : List UInt8) : (scanL (c :: r)).good (r.length + 1) := by
  unfold scanL
  simp only
  refine good_ite (fun h1 => ?_) (fun h1 => good_ite (fun h2 => ?_) (fun h2 => ?_))
  · have := charL_good r 0 0
    rw [show 0 + 1 + r.length = r.length + 1 by omega] at this
    exact this
  · have hl : 1 ≤ ((c :: r).takeWhile letterB).length := by rw [List.takeWhile_cons, if_pos (letter_of_digit h2), List.length_cons]; omega
    have hl2 := takeWhile_le letterB (c :: r)
    rw [List.length_cons] at hl2
    have hz : (B ((c :: r).take ((c :: r).takeWhile letterB).length)).size = ((c :: r).takeWhile letterB).length := by rw [B_size, List.length_take, List.length_cons]; omega
    have hw := wordOf_bd (B ((c :: r).take ((c :: r).takeWhile letterB).length)) (by rw [hz]; omega)
    rw [hz] at hw
    refine good_ite (fun h3 => ⟨hl, hl2⟩) (fun h3 => ⟨h3, hw.1, by have := hw.2; omega⟩)
  · simp [Nx.good]; omega
theorem textL_good (c : UInt8) (r : List UInt8) : (textL (c :: r)).good (r.length + 1) := by
  have hl := takeWhile_le textB r
  unfold textL
  simp only [List.tail_cons, List.length_cons]
  refine good_ite (fun h1 => ?_) (fun h1 => good_ite (fun h2 => ?_) (fun h2 => ?_))
  · simp [Nx.good]; omega
  · simp [Nx.good]; omega
  · simp [Nx.good]; omega
theorem hasPre_L (s p : ByteArray) : hasPre s p = true ↔ ∃ r, L s = L p ++ r := by
  unfold hasPre
  simp only [Bool.and_eq_true, decide_eq_true_eq, beq_iff_eq, toList_L, L_extract, Nat.sub_zero, List.drop_zero]
  constructor
  · rintro ⟨h1, h2⟩
    exact ⟨(L s).drop p.size, by rw [← h2, List.take_append_drop]⟩
  · rintro ⟨r, h⟩
    have hl : (L s).length = (L p).length + r.length := by rw [h, List.length_append]
    rw [L_length, L_length] at hl
    refine ⟨by omega, ?_⟩
    rw [h, List.take_append_of_le_length (by rw [L_length]; omega), List.take_of_length_le (by rw [L_length]; omega)]
theorem signFrom_pre : ∀ (l : List ByteArray) (s : ByteArray), ∃ r, L s = L (tokSignFrom l s) ++ r
  | [], s => ⟨L s, rfl⟩
  | x :: l, s => by
    unfold tokSignFrom
    split
    · rename_i h; exact (hasPre_L s x).1 h
    · exact signFrom_pre l s
theorem signL_pre (l : List UInt8) : ∃ r, l = signL l ++ r := by
  obtain ⟨r, h⟩ := signFrom_pre tokSigns (B l)
  rw [L_B] at h
  exact ⟨r, h⟩
theorem signL_le (l : List UInt8) : (signL l).length ≤ l.length := by
  obtain ⟨r, h⟩ := signL_pre l
  have := congrArg List.length h
  rw [List.length_append] at this
  omega
theorem nextL_good (c : UInt8) (r : List UInt8) : (nextL (c :: r)).good (r.length + 1) := by
  unfold nextL
  simp only
  refine good_ite (fun h1 => ?_) (fun h1 => good_ite (fun h2 => textL_good c r) (fun h2 => good_ite (fun h3 => scanL_good c r) (fun h3 => good_ite (fun h4 => ?_) (fun h4 => ?_))))
  · have hl := takeWhile_le moreB (c :: r)
    rw [List.length_cons] at hl
    refine good_ite (fun h2 => ?_) (fun h2 => ⟨?_, hl⟩)
    · simp [Nx.good]; omega
    · rw [List.takeWhile_cons, if_pos (by rw [moreB_eq, h1]; rfl), List.length_cons]; omega
  · simp [Nx.good]; omega
  · have hl := signL_le (c :: r)
    rw [List.length_cons] at hl
    refine ⟨?_, hl⟩
    rcases hs : signL (c :: r) with _ | ⟨a, b⟩
    · exact absurd hs h4
    · simp
theorem charL_ok : ∀ (r : List UInt8) (k : Nat) (n : Int) (kd n' : Int) (t : List UInt8) (m : Nat), charL r k n = .ok kd n' t m → kd = 2 ∧ t = [] := by
  intro r
  induction r with
  | nil => intro k n kd n' t m h; simp [charL] at h
  | cons c r ih =>
    intro k n kd n' t m h
    unfold charL at h
    split at h
    · split at h
      · cases h
      · cases h; exact ⟨rfl, rfl⟩
    · split at h
      · cases h
      · split at h
        · cases h
        · exact ih _ _ _ _ _ _ h
theorem scanL_ok {l : List UInt8} {kd n : Int} {t : List UInt8} {m : Nat} (h : scanL l = .ok kd n t m) : kd = 2 ∧ t = [] := by
  rcases l with _ | ⟨c, r⟩
  · cases h
  · unfold scanL at h
    simp only at h
    split at h
    · exact charL_ok _ _ _ _ _ _ _ h
    · split at h
      · split at h
        · cases h; exact ⟨rfl, rfl⟩
        · cases h
      · cases h
theorem scan_out (x : Nx) (at_ : Int) (n : Nat) (hn : n ≤ 1073741824) (h0 : 0 ≤ at_) (h1 : at_ ≤ 1073741824) (hg : x.good n) (hok : ∀ kd n t m, x = .ok kd n t m → kd = 2 ∧ t = []) :
    (some x.lit).bind (fun bt => if bt.2.2.1 = 0 then some ((2 : Int), bt.1, (⟨#[]⟩ : ByteArray), at_, bt.2.1, (0 : Int), (0 : Int)) else some (0, 0, (⟨#[]⟩ : ByteArray), 0, 0, bt.2.2.1, wrap64 (bt.2.2.2 + at_))) = some (x.out at_) := by
  cases x with
  | ok kd n' t m =>
    obtain ⟨rfl, rfl⟩ := hok _ _ _ _ rfl
    rfl
  | bad e o =>
    obtain ⟨g1, g2, g3⟩ := hg
    refine (if_neg g1).trans ?_
    show some _ = some _
    simp only [Nx.lit, Nx.out]
    rw [wrap64_s (by omega) (by omega), Int.add_comm]
theorem next_f (s : ByteArray) (at_ : Int) (h0 : 0 ≤ at_) (h1 : at_ ≤ 1073741824) (hs : s.size ≤ 1073741824) (hp : 0 < s.size) (k : Nat) (hk : 3 * s.size + 8 ≤ k) :
    token_next.f k s at_ = some ((nextL (L s)).out at_) := by
  obtain ⟨c, r, hd⟩ : ∃ c r, L s = c :: r := by
    rcases hL : L s with _ | ⟨c, r⟩
    · have := L_length s; rw [hL] at this; simp at this; omega
    · exact ⟨c, r, rfl⟩
  have hb : bt s 0 = (c.toNat : Int) := (bt_drop (s := s) (i := 0) (by rw [List.drop_zero]; exact hd)).1
  have hlen : s.size = r.length + 1 := by rw [← L_length, hd, List.length_cons]
  have hj : ∀ b : Bool, (b = true ↔ (digitB c = true ∨ c.toNat = 39)) → token_next.j0 k s at_ b = some ((if digitB c = true ∨ c.toNat = 39 then scanL (c :: r) else if signL (c :: r) = [] then Nx.bad 4 0 else Nx.ok 4 0 (signL (c :: r)) (signL (c :: r)).length).out at_) := by
    intro b hbb
    obtain ⟨k, rfl⟩ : ∃ m, k = m + 1 := ⟨k - 1, by omega⟩
    simp only [token_next.j0]
    by_cases c3 : digitB c = true ∨ c.toNat = 39
    · rw [if_pos (hbb.2 c3), if_pos c3, scan_f s hs hp k (by omega), hd]
      exact scan_out _ at_ (r.length + 1) (by omega) h0 h1 (scanL_good c r) (fun _ _ _ _ h => scanL_ok h)
    · rw [if_neg (fun h => c3 (hbb.1 h)), if_neg c3]
      unfold token_sign.f
      rw [Option.bind_some]
      have e : (tokSign s).toList = signL (c :: r) := by unfold signL; rw [toList_L, ← hd, B_L]
      have e2 : tokSign s = B (signL (c :: r)) := by unfold signL; rw [← hd, B_L, B_L]
      rw [e]
      by_cases c4 : signL (c :: r) = []
      · rw [if_pos c4, if_pos c4]
        simp only [Nx.out]
        rw [Int.add_zero]
      · rw [if_neg c4, if_neg c4, e2, B_size]
        rfl
  have htx := text_tok s at_ h0 h1 hs hp k (by omega)
  have hrm := run_more_f s hs k (by omega)
  rw [hd] at htx hrm
  have hm := takeWhile_le moreB (c :: r)
  rw [List.length_cons] at hm
  unfold token_next.f
  rw [if_pos (by omega), hb, first_f, Option.bind_some, hd]
  unfold nextL
  simp only
  cases c1 : firstB c with
  | true =>
    simp only [if_true]
    rw [hrm, Option.bind_some]
    by_cases c2 : 60 < ((c :: r).takeWhile moreB).length
    · rw [if_pos (by omega), if_pos c2, wrap64_s (by omega) (by omega)]
      rfl
    · rw [if_neg (by omega), if_neg c2, if_pos (by omega), if_pos (by omega), extract_B, hd]
      simp only [Int.toNat_natCast, Nat.sub_zero, List.drop_zero]
      rfl
  | false =>
    simp only [Bool.false_eq_true, if_false]
    by_cases c2 : c.toNat = 34
    · rw [if_pos (by omega), if_pos c2, htx, Option.bind_some]
    · rw [if_neg (by omega), if_neg c2, digit_f, Option.bind_some]
      cases c3 : digitB c with
      | true =>
        have z := hj true (by simp [c3])
        rw [c3] at z
        rw [if_pos rfl]
        exact z
      | false =>
        have z := hj ((c.toNat : Int) == 39) (by rw [c3]; simp; omega)
        rw [c3] at z
        rw [if_neg (by decide)]
        exact z

abbrev LexR := List S37 × Int × Int
def lexTok (g : List UInt8 → Int → LexR) (x : Nx) (l : List UInt8) (at_ : Int) : LexR :=
  match x with
  | .bad e o => ([], e, at_ + o)
  | .ok kd n t m => if (g (l.drop m) (at_ + m)).2.1 = 0 then (⟨kd, n, B t, at_⟩ :: (g (l.drop m) (at_ + m)).1, 0, 0) else ([], (g (l.drop m) (at_ + m)).2)
def lexStep (g : List UInt8 → Int → LexR) (c : UInt8) (r : List UInt8) (at_ : Int) : LexR :=
  if c.toNat = 59 then ([], 0, 0) else if c.toNat = 32 ∨ c.toNat = 9 then g r (at_ + 1) else lexTok g (nextL (c :: r)) (c :: r) at_
def lexL : Nat → List UInt8 → Int → LexR
  | 0, _, _ => ([], 0, 0)
  | _ + 1, [], _ => ([], 0, 0)
  | f + 1, c :: r, at_ => lexStep (lexL f) c r at_
theorem lexL_cons (f : Nat) (c : UInt8) (r : List UInt8) (at_ : Int) : lexL (f + 1) (c :: r) at_ = lexStep (lexL f) c r at_ := by simp only [lexL]
/-- What has been read, and what is read from here on. -/
def lexFin (acc : List S37) (z : LexR) : LexR := if z.2.1 = 0 then (acc ++ z.1, 0, 0) else ([], z.2)
theorem lexFin_zero (acc : List S37) : lexFin acc ([], 0, 0) = (acc, 0, 0) := by simp [lexFin]
theorem lexFin_bad (acc : List S37) {e : Int} (o : Int) (h : e ≠ 0) : lexFin acc ([], e, o) = ([], e, o) := by
  unfold lexFin; rw [if_neg h]
theorem lexFin_tok (g : List UInt8 → Int → LexR) (acc : List S37) (kd n : Int) (t : List UInt8) (m : Nat) (l : List UInt8) (at_ : Int) :
    lexFin acc (lexTok g (.ok kd n t m) l at_) = lexFin (acc ++ [⟨kd, n, B t, at_⟩]) (g (l.drop m) (at_ + m)) := by
  unfold lexTok lexFin
  by_cases h : (g (l.drop m) (at_ + m)).2.1 = 0
  · simp [h]
  · simp [h]
theorem bt_from (s : ByteArray) (at_ : Nat) {c : UInt8} {r : List UInt8} (h : (L s).drop at_ = c :: r) : bt (s.extract at_ s.size) 0 = (c.toNat : Int) ∧ (s.extract at_ s.size).size = r.length + 1 := by
  have e : L (s.extract at_ s.size) = c :: r := by rw [L_from, h]
  exact ⟨(bt_drop (s := s.extract at_ s.size) (i := 0) (by rw [List.drop_zero]; exact e)).1, by rw [← L_length, e, List.length_cons]⟩
theorem lex_l (s : ByteArray) (hs : s.size ≤ 1000) : ∀ (f at_ : Nat) (acc : List S37), at_ ≤ s.size → s.size - at_ ≤ f → acc.length ≤ at_ → ∀ k, 2 * f + 3 * s.size + 12 ≤ k →
    token_Lex.l0 k s acc (at_ : Int) = some (lexFin acc (lexL (f + 1) ((L s).drop at_) at_)) := by
  intro f
  induction f with
  | zero =>
    intro at_ acc ha hf hacc k hk
    obtain ⟨k, rfl⟩ : ∃ m, k = m + 1 := ⟨k - 1, by omega⟩
    have hd : (L s).drop at_ = [] := List.drop_eq_nil_of_le (by rw [L_length]; omega)
    rw [hd]
    simp only [token_Lex.l0]
    rw [if_neg (by omega)]
    simp only [lexL]
    rw [lexFin_zero]
  | succ f ih =>
    intro at_ acc ha hf hacc k hk
    obtain ⟨k, rfl⟩ : ∃ m, k = m + 2 := ⟨k - 2, by omega⟩
    rcases hd : (L s).drop at_ with _ | ⟨c, r⟩
    · have hz := drop_nil_size hd
      simp only [token_Lex.l0]
      rw [if_neg (by omega)]
      simp only [lexL]
      rw [lexFin_zero]
    · obtain ⟨hb, hlt⟩ := bt_drop hd
      have hlen : s.size - at_ = r.length + 1 := by rw [← L_length, ← List.length_drop, hd, List.length_cons]
      have hto : ((at_ : Int)).toNat = at_ := Int.toNat_natCast _
      have hr : (L s).drop (at_ + 1) = r := drop_succ hd
      have hw1 : Aside0 (wrap64 ((at_ : Int) + 1) = ((at_ + 1 : Nat) : Int)) := ⟨by rw [wrap64_s (by omega) (by omega)]; omega⟩
      have hg := nextL_good c r
      simp only [token_Lex.l0, hto]
      clear hto
      obtain ⟨hb0, hsz⟩ := bt_from s at_ hd
      have hL : L (s.extract at_ s.size) = c :: r := by rw [L_from, hd]
      generalize s.extract at_ s.size = left at *
      have hnx := next_f left (at_ : Int) (by omega) (by omega) (by omega) (by omega) k (by omega)
      rw [hL] at hnx
      rw [if_pos (by omega), if_pos (by omega), if_pos (by omega), if_pos (by omega), hb0]
      rw [lexL_cons]
      unfold lexStep
      by_cases c1 : c.toNat = 59
      · rw [if_pos (by omega), if_pos c1, lexFin_zero]
      · rw [if_neg (by omega), if_neg c1]
        have hj : ∀ b : Bool, (b = true ↔ (c.toNat = 32 ∨ c.toNat = 9)) → token_Lex.j1 (k + 1) s acc (at_ : Int) left b = some (lexFin acc (if c.toNat = 32 ∨ c.toNat = 9 then lexL (f + 1) r ((at_ : Int) + 1) else lexTok (lexL (f + 1)) (nextL (c :: r)) (c :: r) (at_ : Int))) := by
          intro b hbb
          simp only [token_Lex.j1]
          by_cases c2 : c.toNat = 32 ∨ c.toNat = 9
          · rw [if_pos (hbb.2 c2), hw1.out, if_pos c2]
            have z := ih (at_ + 1) acc (by omega) (by omega) (by omega) k (by omega)
            rw [hr] at z
            rw [z]
            rfl
          · rw [if_neg (fun h => c2 (hbb.1 h)), if_neg c2, hnx, Option.bind_some]
            generalize nextL (c :: r) = x at *
            cases x with
            | bad e o =>
              have g1 : e ≠ 0 := hg.1
              refine (if_neg g1).trans ?_
              unfold lexTok
              rw [lexFin_bad _ _ g1]
              rfl
            | ok kd n t m =>
              obtain ⟨g1, g2⟩ := hg
              have hw2 : Aside0 (wrap64 ((at_ : Int) + (m : Int)) = ((at_ + m : Nat) : Int)) := ⟨by rw [wrap64_s (by omega) (by omega)]; omega⟩
              refine (if_pos rfl).trans ?_
              refine (if_pos (by omega)).trans ?_
              rw [lexFin_tok]
              have z := ih (at_ + m) (acc ++ [⟨kd, n, B t, at_⟩]) (by omega) (by omega) (by rw [List.length_append, List.length_singleton]; omega) k (by omega)
              rw [← List.drop_drop, hd, Int.natCast_add] at z
              have hw3 := hw2.out
              rw [Int.natCast_add] at hw3
              rw [← z, ← hw3]
              rfl
        by_cases c2 : c.toNat = 32
        · rw [if_pos (by omega)]
          exact hj ((c.toNat : Int) == 32) (by simp; omega)
        · rw [if_neg (by omega)]
          exact hj ((c.toNat : Int) == 9) (by simp; omega)
/-- A line's tokens: what Lex comes to. -/
def lexOf (s : ByteArray) : LexR := if 1000 < s.size then ([], 3, 1000) else lexL (s.size + 1) (L s) 0
theorem lexTok_err {g : List UInt8 → Int → LexR} {x : Nx} {l : List UInt8} {at_ : Int} (h : (lexTok g x l at_).2.1 ≠ 0) : (lexTok g x l at_).1 = [] := by
  cases x with
  | bad e o => rfl
  | ok kd n t m =>
    unfold lexTok at h ⊢
    simp only at h ⊢
    split at h
    · exact absurd rfl h
    · rename_i h3; rw [if_neg h3]
theorem lexL_err : ∀ (f : Nat) (l : List UInt8) (at_ : Int), (lexL f l at_).2.1 ≠ 0 → (lexL f l at_).1 = []
  | 0, _, _, h => absurd rfl h
  | _ + 1, [], _, h => absurd rfl h
  | f + 1, c :: r, at_, h => by
    simp only [lexL, lexStep] at h ⊢
    split at h
    · exact absurd rfl h
    · rename_i h1
      rw [if_neg h1]
      split at h
      · rename_i h2
        rw [if_pos h2]
        exact lexL_err f r _ h
      · rename_i h2
        rw [if_neg h2]
        exact lexTok_err h
theorem lexTok_ok0 {g : List UInt8 → Int → LexR} {x : Nx} {n : Nat} {l : List UInt8} {at_ : Int} (hg : x.good n) (h : (lexTok g x l at_).2.1 = 0) : (lexTok g x l at_).2.2 = 0 := by
  cases x with
  | bad e o => exact absurd h hg.1
  | ok kd n t m =>
    unfold lexTok at h ⊢
    simp only at h ⊢
    split
    · rfl
    · rename_i h3; rw [if_neg h3] at h; exact absurd h h3
theorem lexL_ok0 : ∀ (f : Nat) (l : List UInt8) (at_ : Int), (lexL f l at_).2.1 = 0 → (lexL f l at_).2.2 = 0
  | 0, _, _, _ => rfl
  | _ + 1, [], _, _ => rfl
  | f + 1, c :: r, at_, h => by
    simp only [lexL, lexStep] at h ⊢
    split
    · rfl
    · rename_i h1
      rw [if_neg h1] at h
      split
      · rename_i h2
        rw [if_pos h2] at h
        exact lexL_ok0 f r _ h
      · rename_i h2
        rw [if_neg h2] at h
        exact lexTok_ok0 (nextL_good c r) h
theorem lex_f (s : ByteArray) : Ev (fun k => token_Lex.f k s) (lexOf s) := by
  refine ⟨5 * s.size + 20, fun k hk => ?_⟩
  simp only
  unfold token_Lex.f lexOf
  by_cases h : 1000 < s.size
  · rw [if_pos (by omega), if_pos h]
  · rw [if_neg (by omega), if_neg h]
    have z := lex_l s (by omega) s.size 0 [] (by omega) (by omega) (by simp) k (by omega)
    rw [List.drop_zero] at z
    refine Eq.trans z ?_
    show some (lexFin [] (lexL (s.size + 1) (L s) 0)) = _
    congr 1
    unfold lexFin
    by_cases h2 : (lexL (s.size + 1) (L s) 0).2.1 = 0
    · rw [if_pos h2, List.nil_append]
      exact Prod.ext rfl (Prod.ext h2.symm (lexL_ok0 _ _ _ h2).symm)
    · rw [if_neg h2]
      exact Prod.ext (lexL_err _ _ _ h2).symm rfl
end Go.Proofs.YtjabjooephellaaDoor.Lx
