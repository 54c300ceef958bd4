/-
Tokens stand in a line in order, none over another one; between two of them are blanks and tabs alone; a name's and a sign's bytes stand there: for a line of at most 1,000 bytes that is read; no other condition.
-/
import Derived.Test.YtjabjooephellaaLexD
import Derived.Test.YtjabjooephellaaTx7
import Derived.Test.YtjabjooephellaaTx6
namespace Go.Proofs.Ytjabjooephellaa.Pure
set_option linter.unusedVariables false
set_option linter.unusedSimpArgs false
open Go.RowKit Go.Proofs.Ytjabjooephellaa.T Go.Proofs.YtjabjooephellaaW.PrintWords Go.Proofs.YtjabjooephellaaW.PrintLast Go.Proofs.YtjabjooephellaaW.PrintMore Go.Proofs.Ytjabjooephellaa.Lx

theorem awake22 : Ev (fun k => linotypelaw22_awake.f k) true :=
  Ev.of (fun k => linotypelaw22_awake.mono k) (k := 120) (by decide +kernel)

/-- Tokens in order, from a place on: b: the first one of all is still to come. -/
def Chain (s : List UInt8) : Nat → Bool → List S32 → Prop
  | _, _, [] => True
  | e, b, t :: r => ∃ a : Nat, t.f3 = (a : Int) ∧ e ≤ a ∧ a < s.length ∧ (b = true → ∀ k, e ≤ k → k < a → (s.getD k 0).toNat = 32 ∨ (s.getD k 0).toNat = 9) ∧
      ((t.f0 = 1 ∨ t.f0 = 4) → (s.drop a).take t.f2.size = L t.f2 ∧ 0 < t.f2.size ∧ a + t.f2.size ≤ s.length) ∧ a + t.f2.size ≤ s.length ∧ Chain s (a + max t.f2.size 1) false r
theorem lex_chain (s : List UInt8) : ∀ (f : Nat) (l : List UInt8) (a e : Nat) (b : Bool), s.drop a = l → a ≤ s.length → e ≤ a → (b = true → ∀ k, e ≤ k → k < a → (s.getD k 0).toNat = 32 ∨ (s.getD k 0).toNat = 9) →
    (lexL f l (a : Int)).2.1 = 0 → Chain s e b (lexL f l (a : Int)).1 := by
  intro f
  induction f with
  | zero => intro l a e b _ _ _ _ _; exact trivial
  | succ f ih =>
    intro l a e b hl ha he hb h
    rcases l with _ | ⟨c, r⟩
    · exact trivial
    · have hlt : a < s.length := by
        rcases Nat.lt_or_ge a s.length with q | q
        · exact q
        · rw [List.drop_eq_nil_of_le q] at hl; cases hl
      have hc : s.getD a 0 = c := by
        rw [List.drop_eq_getElem_cons hlt] at hl
        injection hl with h1 _
        simp [List.getD, List.getElem?_eq_getElem hlt, h1]
      have hr : s.drop (a + 1) = r := drop_succ hl
      have hlen : s.length - a = r.length + 1 := by rw [← List.length_drop, hl, List.length_cons]
      rw [lexL_cons] at h ⊢
      unfold lexStep at h ⊢
      by_cases c1 : c.toNat = 59
      · rw [if_pos c1]; exact trivial
      · rw [if_neg c1] at h ⊢
        by_cases c2 : c.toNat = 32 ∨ c.toNat = 9
        · rw [if_pos c2] at h ⊢
          have z := ih r (a + 1) e b hr (by omega) (by omega) (fun q k h1 h2 => by
            rcases Nat.lt_or_ge k a with q1 | q1
            · exact hb q k h1 q1
            · have : k = a := by omega
              subst this
              rw [hc]; exact c2)
          rw [Int.natCast_succ] at z
          exact z h
        · rw [if_neg c2] at h ⊢
          cases hn : nextL (c :: r) with
          | bad e o =>
            have hg := nextL_good c r
            rw [hn] at hg h
            exact absurd h hg.1
          | ok kd n t m =>
            rw [hn] at h
            obtain ⟨g1, g2, g3, g4⟩ := nextL_ok hn
            unfold lexTok at h ⊢
            simp only at h ⊢
            have e1 : ((a + m : Nat) : Int) = (a : Int) + (m : Int) := Int.natCast_add a m
            by_cases c3 : (lexL f ((c :: r).drop m) ((a : Int) + m)).2.1 = 0
            · rw [if_pos c3]
              have z := ih ((c :: r).drop m) (a + m) (a + max t.length 1) false (by rw [← hl, List.drop_drop]) (by omega) (by omega) (fun q => by cases q)
              rw [e1] at z
              refine ⟨a, rfl, he, hlt, hb, fun q => ?_, by rw [B_size]; omega, ?_⟩
              · obtain ⟨q1, q2⟩ := g4 q
                rw [B_size, L_B]
                exact ⟨by rw [hl, q2]; exact q1.symm, by omega, by omega⟩
              · rw [B_size]
                exact z c3
            · rw [if_neg c3] at h
              exact absurd h c3
theorem rd_cons (t : S32) (l r : List S32) : rd_T32 (l ++ t :: r) (l.length : Int) = t := by
  simp [rd_T32]

theorem gap (s : ByteArray) (hs : s.size ≤ 1000) (ok : Bool) (toks : List S32) (i : Int) (kd n : Int) (t : ByteArray) (a : Nat) (ha : a ≤ s.size) (K : Nat)
    (r : Bool) (hj : ∀ k, K ≤ k → linotypelaw22_TokenParts.j4 k s ok toks i (decide (kd = 1 ∨ kd = 4)) kd n t (a : Int) = some r) :
    ∀ (d e : Nat), e + d = a → (i = 0 → ∀ k, e ≤ k → k < a → ((L s).getD k 0).toNat = 32 ∨ ((L s).getD k 0).toNat = 9) → ∀ k, K + d + 1 ≤ k → linotypelaw22_TokenParts.l1 k s ok toks i (e : Int) kd n t (a : Int) = some r := by
  intro d
  induction d with
  | zero =>
    intro e he hb k hk
    obtain ⟨k, rfl⟩ : ∃ m, k = m + 1 := ⟨k - 1, by omega⟩
    simp only [linotypelaw22_TokenParts.l1]
    rw [if_neg (by omega)]
    have z := hj k (by omega)
    by_cases c1 : kd = 1
    · rw [if_pos c1]; rw [decide_eq_true (Or.inl c1)] at z; exact z
    · rw [if_neg c1]
      by_cases c2 : kd = 4
      · rw [decide_eq_true (Or.inr c2)] at z
        rw [show (kd == 4) = true from by simp [c2]]; exact z
      · rw [decide_eq_false (by omega)] at z
        rw [show (kd == 4) = false from by simp [c2]]; exact z
  | succ d ih =>
    intro e he hb k hk
    obtain ⟨k, rfl⟩ : ∃ m, k = m + 1 := ⟨k - 1, by omega⟩
    have z := ih (e + 1) (by omega) (fun q k h1 h2 => hb q k (by omega) h2) k (by omega)
    have hw : wrap64 ((e : Int) + 1) = ((e + 1 : Nat) : Int) := by rw [wrap64_s (by omega) (by omega)]; omega
    simp only [linotypelaw22_TokenParts.l1]
    rw [if_pos (by omega), hw]
    by_cases c0 : i = 0
    · have q := hb c0 e (by omega) (by omega)
      have hbt := bt_L s e
      clear hw
      by_cases c1 : kd = 1
      · rw [if_pos c1, if_pos c0, if_pos (by omega), if_pos (by omega), hbt]
        rcases q with q | q
        · rw [if_pos (by omega)]; exact z
        · rw [if_neg (by omega), if_pos (by omega)]; exact z
      · rw [if_neg c1]
        by_cases c2 : kd = 4
        · rw [if_pos c2, if_pos c0, if_pos (by omega), if_pos (by omega), hbt]
          rcases q with q | q
          · rw [if_pos (by omega)]; exact z
          · rw [if_neg (by omega), if_pos (by omega)]; exact z
        · rw [if_neg c2]; exact z
    · by_cases c1 : kd = 1
      · rw [if_pos c1, if_neg c0]; exact z
      · rw [if_neg c1]
        by_cases c2 : kd = 4
        · rw [if_pos c2, if_neg c0]; exact z
        · rw [if_neg c2]; exact z
theorem parts_l (s : ByteArray) (hs : s.size ≤ 1000) (ok : Bool) : ∀ (r l : List S32) (e : Nat) (b : Bool), l.length + r.length ≤ 1000000 → e ≤ s.size + 1 → (l = [] → b = true) → Chain (L s) e b r → ∀ k, (r.length + 1) * (s.size + 6) ≤ k →
    linotypelaw22_TokenParts.l0 k s ok (l ++ r) (e : Int) (l.length : Int) = some ok := by
  intro r
  induction r with
  | nil =>
    intro l e b hl he hb hc k hk
    obtain ⟨k, rfl⟩ : ∃ m, k = m + 1 := ⟨k - 1, by simp at hk; omega⟩
    simp only [linotypelaw22_TokenParts.l0]
    rw [if_neg (by simp)]
  | cons t r ih =>
    intro l e b hl he hb hc k hk
    obtain ⟨a, ha, h1, h2, h3, h4, h5, h6⟩ := hc
    rw [L_length] at h2 h5
    rw [List.length_cons] at hl hk
    have hk2 : (r.length + 1) * (s.size + 6) + (s.size + 6) ≤ k := by rw [Nat.succ_mul] at hk; exact hk
    obtain ⟨k, rfl⟩ : ∃ m, k = m + 2 := ⟨k - 2, by omega⟩
    have hrd := rd_cons t l r
    simp only [linotypelaw22_TokenParts.l0]
    rw [if_pos (by simp; omega), if_pos (by omega), hrd]
    have hw : Aside0 (wrap64 ((l.length : Int) + 1) = ((l ++ [t]).length : Int)) := ⟨by rw [wrap64_s (by omega) (by omega)]; simp⟩
    have hmx : (mx (t.f2.size : Int) 1) = ((max t.f2.size 1 : Nat) : Int) := by unfold mx; split <;> omega
    have hw2 : Aside0 (wrap64 ((a : Int) + (mx (t.f2.size : Int) 1)) = ((a + max t.f2.size 1 : Nat) : Int)) := ⟨by rw [hmx, wrap64_s (by omega) (by omega)]; omega⟩
    have hw3 : Aside0 (wrap64 ((a : Int) + (t.f2.size : Int)) = ((a + t.f2.size : Nat) : Int)) := ⟨by rw [wrap64_s (by omega) (by omega)]; omega⟩
    have rest : ∀ k, (r.length + 1) * (s.size + 6) ≤ k → linotypelaw22_TokenParts.l0 k s ok (l ++ t :: r) (wrap64 ((a : Int) + (mx (t.f2.size : Int) 1))) (wrap64 ((l.length : Int) + 1)) = some ok := by
      intro k hk
      rw [hw.out, hw2.out]
      have z := ih (l ++ [t]) (a + max t.f2.size 1) false (by simp; omega) (by omega) (fun q => by simp at q) h6 k hk
      rw [List.append_assoc] at z
      exact z
    have j4 : ∀ k, (r.length + 1) * (s.size + 6) + 1 ≤ k → linotypelaw22_TokenParts.j4 k s ok (l ++ t :: r) (l.length : Int) (decide (t.f0 = 1 ∨ t.f0 = 4)) t.f0 t.f1 t.f2 (a : Int) = some ok := by
      intro k hk
      obtain ⟨k, rfl⟩ : ∃ m, k = m + 1 := ⟨k - 1, by omega⟩
      simp only [linotypelaw22_TokenParts.j4]
      by_cases c1 : t.f0 = 1 ∨ t.f0 = 4
      · obtain ⟨q1, q2, q3⟩ := h4 c1
        rw [L_length] at q3
        rw [if_pos (decide_eq_true c1), hw3.out, if_neg (by omega), if_pos (by omega), if_pos (by omega), if_pos (by omega)]
        have e1 : (s.extract ((a : Int)).toNat (((a + t.f2.size : Nat) : Int)).toNat).toList = t.f2.toList := by
          rw [toList_L, toList_L, L_extract, Int.toNat_natCast, Int.toNat_natCast, Nat.add_sub_cancel_left]
          exact q1
        rw [if_pos e1, if_neg (by rw [toList_L]; intro q; have := L_length t.f2; rw [q] at this; simp at this; omega)]
        exact rest k (by omega)
      · rw [if_neg (by rw [decide_eq_false c1]; decide)]
        exact rest k (by omega)
    have l1 := gap s hs ok (l ++ t :: r) (l.length : Int) t.f0 t.f1 t.f2 a (by omega) ((r.length + 1) * (s.size + 6) + 1) ok j4 (a - e) e (by omega) (fun q => h3 (hb (List.length_eq_zero_iff.1 (by omega)))) k (by omega)
    have j2 : linotypelaw22_TokenParts.j2 (k + 1) s ok (l ++ t :: r) (e : Int) (l.length : Int) false t.f0 t.f1 t.f2 (a : Int) = some ok := by
      simp only [linotypelaw22_TokenParts.j2]
      rw [if_neg (by decide)]
      exact l1
    rw [ha, if_neg (by omega), decide_eq_false (by omega)]
    exact j2
theorem lexOf_chain (s : ByteArray) (h : (lexOf s).2.1 = 0) : Chain (L s) 0 true (lexOf s).1 ∧ s.size ≤ 1000 := by
  unfold lexOf at h ⊢
  by_cases c : 1000 < s.size
  · rw [if_pos c] at h; simp at h
  · rw [if_neg c] at h ⊢
    exact ⟨lex_chain (L s) (s.size + 1) (L s) 0 0 true rfl (Nat.zero_le _) (Nat.le_refl _) (fun _ k _ q => by omega) h, by omega⟩
theorem chain_len (s : List UInt8) : ∀ (r : List S32) (e : Nat) (b : Bool), Chain s e b r → e + r.length ≤ max e (s.length + 1)
  | [], e, _, _ => by simp; omega
  | t :: r, e, b, h => by
    obtain ⟨a, _, h1, h2, _, _, h5, h6⟩ := h
    have z := chain_len s r _ _ h6
    rw [List.length_cons]
    omega
theorem TokenParts : linotypelaw22_TokenParts.Pure := by
  intro s hs
  refine Ev.rounds (?_ : Ev (fun k => linotypelaw22_TokenParts.f k s) true)
  unfold linotypelaw22_TokenParts.f
  refine Ev.bind awake22 ?_
  refine Ev.bind (lex_f s) ?_
  by_cases c : 1000 < s.size
  · refine ⟨1, fun k hk => ?_⟩
    obtain ⟨k, rfl⟩ : ∃ m, k = m + 1 := ⟨k - 1, by omega⟩
    simp only
    rw [if_pos (by omega)]
    simp only [linotypelaw22_TokenParts.j0]
    rfl
  · by_cases h : (lexOf s).2.1 = 0
    · obtain ⟨hc, _⟩ := lexOf_chain s h
      have hl := chain_len _ _ _ _ hc
      rw [L_length] at hl
      refine ⟨((lexOf s).1.length + 1) * (s.size + 6) + 1, fun k hk => ?_⟩
      obtain ⟨k, rfl⟩ : ∃ m, k = m + 1 := ⟨k - 1, by omega⟩
      simp only
      rw [if_neg (by omega), h]
      simp only [linotypelaw22_TokenParts.j0]
      exact (if_neg (by decide)).trans (parts_l s (by omega) true (lexOf s).1 [] 0 true (by simp; omega) (by omega) (fun _ => rfl) hc k (by omega))
    · refine ⟨1, fun k hk => ?_⟩
      obtain ⟨k, rfl⟩ : ∃ m, k = m + 1 := ⟨k - 1, by omega⟩
      simp only
      rw [if_neg (by omega), show ((lexOf s).2.1 != 0) = true from by simpa using h]
      simp only [linotypelaw22_TokenParts.j0]
      rfl

end Go.Proofs.Ytjabjooephellaa.Pure
