/-
Blanks and tabs ahead and behind, and a remark behind, change nothing but where tokens stand: each so much further on: for a line that is read, of at most 500 bytes, at most 50 blanks, a remark of at most 100 bytes; no other condition.
-/
import Derived.Test.YtjabjooephellaaLexE
import Derived.Test.YtjabjooephellaaPureTokenParts
import Derived.Test.YtjabjooephellaaTx9
import Derived.Test.YtjabjooephellaaTx8
namespace Go.Proofs.Ytjabjooephellaa.Pure
set_option linter.unusedVariables false
set_option linter.unusedSimpArgs false
open Go.RowKit Go.Proofs.Ytjabjooephellaa.T Go.Proofs.YtjabjooephellaaW.PrintWords Go.Proofs.YtjabjooephellaaW.PrintLast Go.Proofs.YtjabjooephellaaW.PrintMore Go.Proofs.Ytjabjooephellaa.Lx

theorem rd_at (l : List S32) (i : Nat) : rd_T32 l (i : Int) = l.getD i z32 := by simp [rd_T32]
theorem alike_l (a b : List S32) (hl : a.length = b.length) (hm : a.length ≤ 1000000) (h : ∀ i, i < a.length → (a.getD i z32).f0 = (b.getD i z32).f0 ∧ (a.getD i z32).f1 = (b.getD i z32).f1 ∧ (a.getD i z32).f2 = (b.getD i z32).f2) :
    ∀ (d i : Nat), i + d = a.length → Ev (fun k => linotypekit_AlikeTokens.l0 k a b (i : Int)) true := by
  intro d
  induction d with
  | zero =>
    intro i hi
    refine Ev.step (f := fun _ => some true) (fun k => ?_) (Ev.now true)
    simp only [linotypekit_AlikeTokens.l0]
    rw [if_neg (by omega)]
  | succ d ih =>
    intro i hi
    refine Ev.step (f := fun k => linotypekit_AlikeTokens.l0 k a b ((i + 1 : Nat) : Int)) (fun k => ?_) (ih (i + 1) (by omega))
    obtain ⟨h0, h1, h2⟩ := h i (by omega)
    have hw : Aside0 (wrap64 ((i : Int) + 1) = ((i + 1 : Nat) : Int)) := ⟨by rw [wrap64_s (by omega) (by omega)]; omega⟩
    simp only [linotypekit_AlikeTokens.l0]
    rw [if_pos (by omega), if_pos (by omega), if_pos (by omega), rd_at, rd_at, if_pos h0, if_pos h1, if_pos (by rw [h2]), hw.out]
theorem alike_f (a b : List S32) (hl : a.length = b.length) (hm : a.length ≤ 1000000) (h : ∀ i, i < a.length → (a.getD i z32).f0 = (b.getD i z32).f0 ∧ (a.getD i z32).f1 = (b.getD i z32).f1 ∧ (a.getD i z32).f2 = (b.getD i z32).f2) :
    Ev (fun k => linotypekit_AlikeTokens.f k a b) true := by
  refine Ev.congr (f := fun k => linotypekit_AlikeTokens.l0 k a b ((0 : Nat) : Int)) (fun k => ?_) (alike_l a b hl hm h a.length 0 (by omega))
  unfold linotypekit_AlikeTokens.f
  rw [if_pos (by omega)]
  rfl
theorem shift_get (d : Int) (l : List S32) (i : Nat) (h : i < l.length) : (l.map (shift d)).getD i z32 = shift d (l.getD i z32) := by
  simp [List.getD, List.getElem?_eq_getElem h]
theorem chain_at (s : List UInt8) : ∀ (r : List S32) (e : Nat) (b : Bool), Chain s e b r → ∀ i, i < r.length → 0 ≤ (r.getD i z32).f3 ∧ (r.getD i z32).f3 ≤ s.length
  | [], _, _, _, i, hi => by simp at hi
  | t :: r, e, b, h, i, hi => by
    obtain ⟨a, ha, h1, h2, _, _, _, h6⟩ := h
    rcases i with _ | i
    · rw [List.getD_cons_zero, ha]; omega
    · rw [List.getD_cons_succ]
      exact chain_at s r _ _ h6 i (by simpa using hi)
theorem moved_l (ok : Bool) (toks : List S32) (x10 : ByteArray) (hx : x10.size ≤ 1000) (hm : toks.length ≤ 1000000) (hb : ∀ i, i < toks.length → 0 ≤ (toks.getD i z32).f3 ∧ (toks.getD i z32).f3 ≤ 1000) :
    ∀ (d i : Nat), i + d = toks.length → Ev (fun k => linotypelaw22_TokenBlanks.l1 k ok toks x10 (toks.map (shift (x10.size : Int))) (i : Int)) ok := by
  intro d
  induction d with
  | zero =>
    intro i hi
    refine Ev.step (f := fun _ => some ok) (fun k => ?_) (Ev.now ok)
    simp only [linotypelaw22_TokenBlanks.l1]
    rw [if_neg (by omega)]
  | succ d ih =>
    intro i hi
    refine Ev.step (f := fun k => linotypelaw22_TokenBlanks.l1 k ok toks x10 (toks.map (shift (x10.size : Int))) ((i + 1 : Nat) : Int)) (fun k => ?_) (ih (i + 1) (by omega))
    obtain ⟨h0, h1⟩ := hb i (by omega)
    have hw : Aside0 (wrap64 ((i : Int) + 1) = ((i + 1 : Nat) : Int)) := ⟨by rw [wrap64_s (by omega) (by omega)]; omega⟩
    have hw2 : Aside0 (wrap64 ((toks.getD i z32).f3 + (x10.size : Int)) = (toks.getD i z32).f3 + (x10.size : Int)) := ⟨wrap64_s (by omega) (by omega)⟩
    simp only [linotypelaw22_TokenBlanks.l1]
    rw [if_pos (by omega), if_pos (by omega), if_pos (by rw [List.length_map]; omega), rd_at, rd_at, shift_get _ _ _ (by omega), hw2.out, show (shift (x10.size : Int) (toks.getD i z32)).f3 = (toks.getD i z32).f3 + (x10.size : Int) from rfl, if_pos rfl, hw.out]
def tabB (b : Bool) : UInt8 := if b = true then 9 else 32
theorem TokenBlanks : ∀ (a0 : ByteArray) (l1 : List Bool) (a2 : ByteArray), a0.size ≤ 140737488351232 → l1.length ≤ maxLen → a2.size ≤ 140737488351232 → ∃ k, linotypelaw22_TokenBlanks.f k a0 l1 a2 = some true := by
  intro a0 l1 a2 _ _ _
  refine Ev.rounds (?_ : Ev (fun k => linotypelaw22_TokenBlanks.f k a0 l1 a2) true)
  unfold linotypelaw22_TokenBlanks.f
  refine Ev.bind awake22 ?_
  refine Ev.bind (lex_f a0) ?_
  have skip : ∀ x, Ev (fun k => linotypelaw22_TokenBlanks.j0 k a0 l1 a2 true x true) true := fun x =>
    Ev.step (f := fun _ => some true) (fun k => by simp only [linotypelaw22_TokenBlanks.j0]; rfl) (Ev.now true)
  by_cases c1 : 500 < a0.size
  · exact Ev.congr (fun k => by rw [if_pos (by omega)]) (skip _)
  · by_cases c2 : 50 < l1.length
    · exact Ev.congr (fun k => by rw [if_neg (by omega), if_pos (by omega)]) (skip _)
    · by_cases c3 : 100 < a2.size
      · exact Ev.congr (fun k => by rw [if_neg (by omega), if_neg (by omega), if_pos (by omega)]) (skip _)
      · by_cases c4 : (lexOf a0).2.1 = 0
        · refine Ev.congr (f := fun k => linotypelaw22_TokenBlanks.j0 k a0 l1 a2 true (lexOf a0).1 false) (fun k => by rw [if_neg (by omega), if_neg (by omega), if_neg (by omega), c4]; rfl) ?_
          refine Ev.step (f := fun k => linotypelaw22_TokenBlanks.l0 k a0 l1 a2 true (lexOf a0).1 (B []) ((0 : Nat) : Int)) (fun k => by simp only [linotypelaw22_TokenBlanks.j0]; rfl) ?_
          obtain ⟨hch, _⟩ := lexOf_chain a0 c4
          have hcl := chain_len _ _ _ _ hch
          rw [L_length] at hcl
          have hat := chain_at _ _ _ _ hch
          rw [L_length] at hat
          have hlex : lexOf a0 = lexL (a0.size + 1) (L a0) 0 := by unfold lexOf; rw [if_neg (by omega)]
          -- what stands ahead and behind
          have hend : Ev (fun k => linotypelaw22_TokenBlanks.l0 k a0 l1 a2 true (lexOf a0).1 (B (l1.map tabB)) ((l1.length : Nat) : Int)) true := by
            have hblank : ∀ c ∈ l1.map tabB, blankB c = true := by
              intro c hc
              obtain ⟨b, _, rfl⟩ := List.mem_map.1 hc
              cases b <;> decide
            generalize hx : l1.map tabB = x at *
            have hxl : x.length = l1.length := by rw [← hx, List.length_map]
            have hXs : (B x).size = x.length := B_size x
            have h59 : (⟨#[59]⟩ : ByteArray).size = 1 := rfl
            have hz1 : ((B x) ++ a0).size = x.length + a0.size := by rw [ByteArray.size_append, hXs]
            have hz2 : (((B x) ++ a0) ++ (B x)).size = x.length + a0.size + x.length := by rw [ByteArray.size_append, hz1, hXs]
            have hz3 : ((((B x) ++ a0) ++ (B x)) ++ (⟨#[59]⟩ : ByteArray)).size = x.length + a0.size + x.length + 1 := by rw [ByteArray.size_append, hz2, h59]
            have hz4 : (((((B x) ++ a0) ++ (B x)) ++ (⟨#[59]⟩ : ByteArray)) ++ a2).size = x.length + a0.size + x.length + 1 + a2.size := by rw [ByteArray.size_append, hz3]
            have hL : L (((((B x) ++ a0) ++ (B x)) ++ (⟨#[59]⟩ : ByteArray)) ++ a2) = x ++ (L a0 ++ (x ++ 59 :: L a2)) := by
              rw [L_append, L_append, L_append, L_append, L_B]
              simp only [List.append_assoc]
              rfl
            refine Ev.step (f := fun k => (token_Lex.f k (((((B x) ++ a0) ++ (B x)) ++ (⟨#[59]⟩ : ByteArray)) ++ a2)).bind fun bt => if bt.2.1 = 0 then ((linotypekit_AlikeTokens.f k bt.1 (lexOf a0).1).bind fun t => (linotypelaw22_TokenBlanks.j2 k true (lexOf a0).1 (B x) bt.1 (!t))) else (linotypelaw22_TokenBlanks.j2 k true (lexOf a0).1 (B x) bt.1 true)) (fun k => ?_) ?_
            · simp only [linotypelaw22_TokenBlanks.l0]
              rw [if_neg (by omega), if_pos (by omega), if_pos (by omega), if_pos (by omega), if_pos (by omega)]
            · refine Ev.bind (lex_f _) ?_
              have hres : lexOf (((((B x) ++ a0) ++ (B x)) ++ (⟨#[59]⟩ : ByteArray)) ++ a2) = ((lexOf a0).1.map (shift (x.length : Int)), 0, 0) := by
                unfold lexOf
                rw [hz4, if_neg (by omega), if_neg (by omega), hL]
                have e1 : x.length + a0.size + x.length + 1 + a2.size + 1 = (a0.size + x.length + 1 + a2.size + 1) + x.length := by omega
                rw [e1, lexL_blanks x hblank]
                have hstop : Stop (x ++ 59 :: L a2) := by
                  intro d q h
                  rcases x with _ | ⟨c, x⟩
                  · injection h with h _; exact .inr (.inr h.symm)
                  · injection h with h _
                    have := hblank c (List.mem_cons_self ..)
                    simp only [blankB, Bool.or_eq_true, beq_iff_eq] at this
                    subst h
                    rcases this with h | h
                    · exact .inl h
                    · exact .inr (.inl h)
                rw [hlex] at c4
                exact lex_shift (x ++ 59 :: L a2) hstop (fun f at_ => lexL_nothing x hblank f (L a2) at_) (x.length : Int) (a0.size + 1) _ (L a0) 0 (by rw [L_length]; omega) (by rw [L_length]; omega) c4
              rw [hres]
              refine Ev.congr (f := fun k => (linotypekit_AlikeTokens.f k ((lexOf a0).1.map (shift (x.length : Int))) (lexOf a0).1).bind fun t => (linotypelaw22_TokenBlanks.j2 k true (lexOf a0).1 (B x) ((lexOf a0).1.map (shift (x.length : Int))) (!t))) (fun k => rfl) ?_
              refine Ev.bind (alike_f _ _ (by rw [List.length_map]) (by rw [List.length_map]; omega) (fun i hi => ?_)) ?_
              · rw [List.length_map] at hi
                rw [shift_get _ _ _ hi]
                exact ⟨rfl, rfl, rfl⟩
              · refine Ev.step (f := fun k => linotypelaw22_TokenBlanks.l1 k true (lexOf a0).1 (B x) ((lexOf a0).1.map (shift (x.length : Int))) ((0 : Nat) : Int)) (fun k => by simp only [linotypelaw22_TokenBlanks.j2]; rfl) ?_
                have z := moved_l true (lexOf a0).1 (B x) (by rw [hXs]; omega) (by omega) (fun i hi => by have := hat i hi; omega) (lexOf a0).1.length 0 (by omega)
                rw [hXs] at z
                exact z
          have loop : ∀ (d i : Nat), i + d = l1.length → Ev (fun k => linotypelaw22_TokenBlanks.l0 k a0 l1 a2 true (lexOf a0).1 (B ((l1.take i).map tabB)) (i : Int)) true := by
            intro d
            induction d with
            | zero =>
              intro i hi
              have : i = l1.length := by omega
              subst this
              rw [List.take_length]
              exact hend
            | succ d ih =>
              intro i hi
              have hlt : i < l1.length := by omega
              refine Ev.step (fun k => ?_) (ih (i + 1) (by omega))
              have hw : Aside0 (wrap64 ((i : Int) + 1) = ((i + 1 : Nat) : Int)) := ⟨by rw [wrap64_s (by omega) (by omega)]; omega⟩
              have hsz : (B ((l1.take i).map tabB)).size = i := by rw [B_size, List.length_map, List.length_take]; omega
              have hrd : rdOf false l1 (i : Int) = l1[i] := by simp [rdOf, List.getD, List.getElem?_eq_getElem hlt]
              have htk : (l1.take (i + 1)).map tabB = (l1.take i).map tabB ++ [tabB l1[i]] := by
                rw [List.take_succ_eq_append_getElem hlt, List.map_append]; rfl
              have hcat : ∀ c : UInt8, B ((l1.take i).map tabB) ++ B [c] = B ((l1.take i).map tabB ++ [c]) := fun c => L_inj (by rw [L_append, L_B, L_B, L_B])
              simp only [linotypelaw22_TokenBlanks.l0]
              rw [if_pos (by omega), if_pos (by omega), hrd, htk, hw.out]
              cases hb : l1[i] with
              | true =>
                rw [if_pos rfl, if_pos (by rw [hsz]; omega)]
                rw [show tabB true = 9 from rfl, ← hcat]
              | false =>
                rw [if_neg (by decide), if_pos (by rw [hsz]; omega)]
                rw [show tabB false = 32 from rfl, ← hcat]
          exact loop l1.length 0 (by omega)
        · exact Ev.congr (fun k => by rw [if_neg (by omega), if_neg (by omega), if_neg (by omega), show ((lexOf a0).2.1 != 0) = true from by simpa using c4]) (skip _)

end Go.Proofs.Ytjabjooephellaa.Pure
