/-
What is joined is read as the same tokens, but for where they stand; what is read is joined, and read again, as the same: for at most 200 tokens, texts of at most 1,100 bytes, a line of at most 1,100 bytes; no other condition.
-/
import Derived.Test.YtjabjooephellaaDoorReads
import Derived.Test.YtjabjooephellaaDoorElems
import Derived.Test.YtjabjooephellaaDoorXBx10
import Derived.Test.YtjabjooephellaaDoorXBx9
namespace Go.Proofs.YtjabjooephellaaDoor.Pure
set_option linter.unusedVariables false
set_option linter.unusedSimpArgs false
open Go.RowKit Go.Proofs.YtjabjooephellaaDoor.XB Go.Proofs.YtjabjooephellaaDoorW.PrintWords Go.Proofs.YtjabjooephellaaDoorW.PrintLast Go.Proofs.YtjabjooephellaaDoorW.PrintMore Go.Proofs.YtjabjooephellaaDoor.Lx

theorem awake22 : Ev (fun k => linotypelaw22_awake.f k) true :=
  Ev.of (fun k => linotypelaw22_awake.mono k) (k := 120) (by decide +kernel)
theorem rd_at (l : List S37) (i : Nat) : rd_T37 l (i : Int) = l.getD i z37 := by simp [rd_T37]
theorem alike_l (a b : List Tk) (hm : a.length ≤ 1000000) (h : AlikeT a b) :
    ∀ (d i : Nat), i + d = a.length → Ev (fun k => linotypekit_AlikeTokens.l0 k a b (i : Int)) true := by
  intro d
  have hl := h.len
  induction d with
  | zero =>
    intro i hi
    refine Ev.step (f := fun _ => some true) (fun k => ?_) (Ev.now true)
    simp only [linotypekit_AlikeTokens.l0]
    rw [if_neg (by omega)]
  | succ d ih =>
    intro i hi
    refine Ev.step (f := fun k => linotypekit_AlikeTokens.l0 k a b ((i + 1 : Nat) : Int)) (fun k => ?_) (ih (i + 1) (by omega))
    obtain ⟨h0, h1, h2⟩ := h.at i (by omega)
    have hw : Aside0 (wrap64 ((i : Int) + 1) = ((i + 1 : Nat) : Int)) := ⟨by rw [wrap64_s (by omega) (by omega)]; omega⟩
    simp only [linotypekit_AlikeTokens.l0]
    rw [if_pos (by omega), if_pos (by omega), if_pos (by omega), rd_at, rd_at, if_pos h0, if_pos h1, if_pos (by rw [h2]), hw.out]
theorem alike_f (a b : List Tk) (hm : a.length ≤ 1000000) (h : AlikeT a b) : Ev (fun k => linotypekit_AlikeTokens.f k a b) true := by
  have hl := h.len
  refine Ev.congr (f := fun k => linotypekit_AlikeTokens.l0 k a b ((0 : Nat) : Int)) (fun k => ?_) (alike_l a b hm h a.length 0 (by omega))
  unfold linotypekit_AlikeTokens.f
  rw [if_pos (by omega)]
  rfl
theorem j1_ev (s : ByteArray) (hs : s.size ≤ 1100) : Ev (fun k => linotypelaw22_TokenBack.j1 k s true) true := by
  obtain ⟨K1, h1⟩ := lex_f s
  by_cases c : (lexOf s).2.1 = 0
  · have hsz : s.size ≤ 1000 := by
      rcases Nat.lt_or_ge 1000 s.size with q | q
      · unfold lexOf at c; rw [if_pos q] at c; simp at c
      · exact q
    have e : lexOf s = lexL (s.size + 1) (L s) 0 := by unfold lexOf; rw [if_neg (by omega)]
    obtain ⟨g1, g2⟩ := lexL_may (s.size + 1) (L s) 0 (by rw [← e]; exact c)
    rw [← e] at g1 g2
    have hL := L_length s
    have hj := fun k hk => join_f (lexOf s).1 (by omega) (fun t ht => by have := (g1 t ht).2.2; omega) k hk
    by_cases c2 : (joinOf (lexOf s).1).2 = 0
    · obtain ⟨m, hm, ha⟩ := join_read (lexOf s).1 (fun t ht => (g1 t ht).2.1) c2
      obtain ⟨K2, h2⟩ := lex_f (joinOf (lexOf s).1).1
      have hl := ha.len
      obtain ⟨K3, h3⟩ := alike_f m (lexOf s).1 (by omega) ha
      refine ⟨K1 + K2 + K3 + 1200, fun k hk => ?_⟩
      obtain ⟨k, rfl⟩ : ∃ j, k = j + 1 := ⟨k - 1, by omega⟩
      have z1 : token_Lex.f k s = some (lexOf s) := h1 k (by omega)
      have z2 : token_Lex.f k (joinOf (lexOf s).1).1 = some (lexOf (joinOf (lexOf s).1).1) := h2 k (by omega)
      have z3 : linotypekit_AlikeTokens.f k m (lexOf s).1 = some true := h3 k (by omega)
      simp only [linotypelaw22_TokenBack.j1]
      rw [z1, Option.bind_some, if_pos c, hj k (by omega), Option.bind_some, if_pos c2, z2, Option.bind_some, hm]
      simp only
      rw [if_pos trivial, if_pos trivial, z3, Option.bind_some]
    · refine ⟨K1 + 1200, fun k hk => ?_⟩
      obtain ⟨k, rfl⟩ : ∃ j, k = j + 1 := ⟨k - 1, by omega⟩
      have z1 : token_Lex.f k s = some (lexOf s) := h1 k (by omega)
      have e3 : (joinOf (lexOf s).1).2 = 3 := by
        unfold joinOf at c2 ⊢
        have hall : (lexOf s).1.all mayT = true := List.all_eq_true.2 fun t ht => (g1 t ht).1
        rw [if_pos hall] at c2 ⊢
        rcases joinT_err (lexOf s).1 false [] with q | q
        · exact absurd q c2
        · exact q
      simp only [linotypelaw22_TokenBack.j1]
      rw [z1, Option.bind_some, if_pos c, hj k (by omega), Option.bind_some, if_neg c2, if_pos trivial, e3]
      rfl
  · refine ⟨K1 + 1200, fun k hk => ?_⟩
    obtain ⟨k, rfl⟩ : ∃ j, k = j + 1 := ⟨k - 1, by omega⟩
    have z1 : token_Lex.f k s = some (lexOf s) := h1 k (by omega)
    have hb : (lexOf s).1.length = 0 ∧ 0 ≤ (lexOf s).2.2 ∧ (lexOf s).2.2 ≤ (s.size : Int) := by
      unfold lexOf at c ⊢
      by_cases q : 1000 < s.size
      · rw [if_pos q]; simp; omega
      · rw [if_neg q] at c ⊢
        have hz := lexL_at _ _ _ c
        rw [L_length] at hz
        rw [lexL_err _ _ _ c]
        simp
        omega
    simp only [linotypelaw22_TokenBack.j1]
    rw [z1, Option.bind_some, if_neg c, if_pos trivial, if_pos (by omega), if_pos (by omega), decide_eq_true hb.2.2]
theorem TokenBack (l0 : List Tk) (a1 : ByteArray) (hm : l0.length ≤ maxLen) (hQ : ∀ z ∈ l0, Op.q37 z) (ha1 : a1.size ≤ 140737488351232) : ∃ k, linotypelaw22_TokenBack.f k l0 a1 = some true := by
  obtain ⟨b, h1, h2⟩ := long_f l0 hm
  obtain ⟨Ka, ha⟩ := awake22
  have start : ∀ k, Ka ≤ k → 500 ≤ k → linotypelaw22_TokenBack.f k l0 a1 = (if b = true then linotypelaw22_TokenBack.j0 k l0 a1 true true else linotypelaw22_TokenBack.j0 k l0 a1 true (decide ((a1.size : Int) > 1100))) := by
    intro k q1 q2
    have z : linotypelaw22_awake.f k = some true := ha k q1
    unfold linotypelaw22_TokenBack.f
    rw [z, Option.bind_some, h1 k q2, Option.bind_some]
  have quit : ∀ k, 1 ≤ k → linotypelaw22_TokenBack.j0 k l0 a1 true true = some true := by
    intro k q
    obtain ⟨k, rfl⟩ : ∃ j, k = j + 1 := ⟨k - 1, by omega⟩
    simp only [linotypelaw22_TokenBack.j0]
    rw [if_pos trivial]
  cases b with
  | true =>
    refine ⟨Ka + 500, ?_⟩
    rw [start _ (by omega) (by omega), if_pos rfl, quit _ (by omega)]
  | false =>
    obtain ⟨hl, hz⟩ := h2 rfl
    by_cases c0 : (a1.size : Int) > 1100
    · refine ⟨Ka + 500, ?_⟩
      rw [start _ (by omega) (by omega), if_neg (by decide), decide_eq_true c0, quit _ (by omega)]
    · obtain ⟨K1, e1⟩ := j1_ev a1 (by omega)
      have hj := fun k hk => join_f l0 (by omega) hz k hk
      by_cases c2 : (joinOf l0).2 = 0
      · obtain ⟨m, hmm, hal⟩ := join_read l0 (fun t ht => in64_wf (hQ t ht).2.1) c2
        obtain ⟨K2, e2⟩ := lex_f (joinOf l0).1
        have hlen := hal.len
        obtain ⟨K3, e3⟩ := alike_f m l0 (by omega) hal
        refine ⟨Ka + K1 + K2 + K3 + 1200 + 1, ?_⟩
        rw [start _ (by omega) (by omega), if_neg (by decide), decide_eq_false c0]
        have z1 : linotypelaw22_TokenBack.j1 (Ka + K1 + K2 + K3 + 1200) a1 true = some true := e1 _ (by omega)
        have z2 : token_Lex.f (Ka + K1 + K2 + K3 + 1200) (joinOf l0).1 = some (lexOf (joinOf l0).1) := e2 _ (by omega)
        have z3 : linotypekit_AlikeTokens.f (Ka + K1 + K2 + K3 + 1200) m l0 = some true := e3 _ (by omega)
        simp only [linotypelaw22_TokenBack.j0]
        rw [if_neg (by decide), hj _ (by omega), Option.bind_some, if_pos c2, z2, Option.bind_some, hmm]
        simp only
        rw [if_pos trivial, z3, Option.bind_some, if_pos rfl, z1]
      · refine ⟨Ka + K1 + 1200 + 1, ?_⟩
        rw [start _ (by omega) (by omega), if_neg (by decide), decide_eq_false c0]
        have z1 : linotypelaw22_TokenBack.j1 (Ka + K1 + 1200) a1 true = some true := e1 _ (by omega)
        simp only [linotypelaw22_TokenBack.j0]
        rw [if_neg (by decide), hj _ (by omega), Option.bind_some, if_neg c2, z1]
end Go.Proofs.YtjabjooephellaaDoor.Pure
