/-
The tokens of an expression are parsed as it, all of them; what is parsed may be, and its tokens are parsed as it, if it is not too deep: for any nodes, at most 220, names of at most 100 bytes, and any tokens, at most 450, texts of at most 1,100 bytes; no other condition.
-/
import Derived.Test.YtjabjooephellaaExprE
import Derived.Test.YtjabjooephellaaXBx12
import Derived.Test.YtjabjooephellaaXBx11
namespace Go.Proofs.Ytjabjooephellaa.Pure
set_option linter.unusedVariables false
set_option linter.unusedSimpArgs false
open Go.RowKit Go.Proofs.Ytjabjooephellaa.XB Go.Proofs.YtjabjooephellaaW.PrintWords Go.Proofs.YtjabjooephellaaW.PrintLast Go.Proofs.Ytjabjooephellaa.Ex

set_option maxRecDepth 100000 in
theorem awake23 : Ev (fun k => linotypelaw23_awake.f k) true := Ev.of (k := 60) (fun k => linotypelaw23_awake.mono k) (by decide +kernel)
theorem longN (x : List Nd) : ∃ b, Ev (fun k => linotypekit_LongNodes.f k x 220) b ∧ (b = false → x.length ≤ 220) := by
  have stop : ∀ i : Int, ∃ b, Ev (fun k => linotypekit_LongNodes.j1 k x 220 i false) b ∧ (b = false → x.length ≤ 220) := fun i =>
    ⟨_, Ev.step (fun k => by rw [linotypekit_LongNodes.j1, if_neg (by decide)]) (Ev.now _), fun h => by have := of_decide_eq_false h; omega⟩
  have loop : ∀ d i : Nat, i + d = 221 → ∃ b, Ev (fun k => linotypekit_LongNodes.l0 k x 220 (i : Int)) b ∧ (b = false → x.length ≤ 220) := by
    intro d
    induction d with
    | zero =>
      intro i hi
      by_cases c : (i : Int) < (x.length : Int)
      · obtain ⟨b, h1, h2⟩ := stop (i : Int)
        exact ⟨b, Ev.step (fun k => by rw [linotypekit_LongNodes.l0, if_pos c, decide_eq_false (by omega : ¬ (i : Int) ≤ 220)]) h1, h2⟩
      · obtain ⟨b, h1, h2⟩ := stop (i : Int)
        exact ⟨b, Ev.step (fun k => by rw [linotypekit_LongNodes.l0, if_neg c]) h1, h2⟩
    | succ d ih =>
      intro i hi
      by_cases c : (i : Int) < (x.length : Int)
      · have hw : wrap64 ((i : Int) + 1) = ((i + 1 : Nat) : Int) := by rw [w64 (by omega) (by omega)]; omega
        by_cases c2 : ((rd_T48 x (i : Int)).f2.size : Int) > 100
        · exact ⟨true, Ev.step (fun k => by rw [linotypekit_LongNodes.l0, if_pos c, decide_eq_true (by omega : (i : Int) ≤ 220)]) (Ev.step (fun k => by rw [linotypekit_LongNodes.j1, if_pos rfl, if_pos (by omega), if_pos c, if_pos c2]) (Ev.now _)), fun h => by simp at h⟩
        · obtain ⟨b, h1, h2⟩ := ih (i + 1) (by omega)
          exact ⟨b, Ev.step (fun k => by rw [linotypekit_LongNodes.l0, if_pos c, decide_eq_true (by omega : (i : Int) ≤ 220)]) (Ev.step (fun k => by rw [linotypekit_LongNodes.j1, if_pos rfl, if_pos (by omega), if_pos c, if_neg c2, hw]) h1), h2⟩
      · obtain ⟨b, h1, h2⟩ := stop (i : Int)
        exact ⟨b, Ev.step (fun k => by rw [linotypekit_LongNodes.l0, if_neg c]) h1, h2⟩
  exact loop 221 0 (by omega)
theorem longT (x : List Tk) : ∃ b, Ev (fun k => linotypekit_LongTokens.f k x 450) b ∧ (b = false → x.length ≤ 450) := by
  have stop : ∀ i : Int, ∃ b, Ev (fun k => linotypekit_LongTokens.j1 k x 450 i false) b ∧ (b = false → x.length ≤ 450) := fun i =>
    ⟨_, Ev.step (fun k => by rw [linotypekit_LongTokens.j1, if_neg (by decide)]) (Ev.now _), fun h => by have := of_decide_eq_false h; omega⟩
  have loop : ∀ d i : Nat, i + d = 451 → ∃ b, Ev (fun k => linotypekit_LongTokens.l0 k x 450 (i : Int)) b ∧ (b = false → x.length ≤ 450) := by
    intro d
    induction d with
    | zero =>
      intro i hi
      by_cases c : (i : Int) < (x.length : Int)
      · obtain ⟨b, h1, h2⟩ := stop (i : Int)
        exact ⟨b, Ev.step (fun k => by rw [linotypekit_LongTokens.l0, if_pos c, decide_eq_false (by omega : ¬ (i : Int) ≤ 450)]) h1, h2⟩
      · obtain ⟨b, h1, h2⟩ := stop (i : Int)
        exact ⟨b, Ev.step (fun k => by rw [linotypekit_LongTokens.l0, if_neg c]) h1, h2⟩
    | succ d ih =>
      intro i hi
      by_cases c : (i : Int) < (x.length : Int)
      · have hw : wrap64 ((i : Int) + 1) = ((i + 1 : Nat) : Int) := by rw [w64 (by omega) (by omega)]; omega
        by_cases c2 : ((rd_T32 x (i : Int)).f2.size : Int) > 1100
        · exact ⟨true, Ev.step (fun k => by rw [linotypekit_LongTokens.l0, if_pos c, decide_eq_true (by omega : (i : Int) ≤ 450)]) (Ev.step (fun k => by rw [linotypekit_LongTokens.j1, if_pos rfl, if_pos (by omega), if_pos c, if_pos c2]) (Ev.now _)), fun h => by simp at h⟩
        · obtain ⟨b, h1, h2⟩ := ih (i + 1) (by omega)
          exact ⟨b, Ev.step (fun k => by rw [linotypekit_LongTokens.l0, if_pos c, decide_eq_true (by omega : (i : Int) ≤ 450)]) (Ev.step (fun k => by rw [linotypekit_LongTokens.j1, if_pos rfl, if_pos (by omega), if_pos c, if_neg c2, hw]) h1), h2⟩
      · obtain ⟨b, h1, h2⟩ := stop (i : Int)
        exact ⟨b, Ev.step (fun k => by rw [linotypekit_LongTokens.l0, if_neg c]) h1, h2⟩
  exact loop 451 0 (by omega)

theorem okk_chkL (x : List Nd) : ∀ (d i : Nat) (st : List Int), i + d = x.length → Okk i st (x.drop i) → Ev (fun K => chkL K x (d + 1) (i : Int) st) 0 := by
  intro d
  induction d with
  | zero =>
    intro i st hi h
    rw [List.drop_eq_nil_of_le (by omega)] at h
    have h' : st.length = 1 := h
    refine Ev.congr (fun k => ?_) (Ev.now 0)
    rw [chkL, if_neg (by omega), if_pos h']
  | succ d ih =>
    intro i st hi h
    have hii : (i : Int) + 1 = ((i + 1 : Nat) : Int) := by omega
    rw [rd_drop x i (by omega)] at h
    obtain ⟨⟨h1, h2, h3, h4, h5⟩, h⟩ := h
    rw [hii] at h
    have z := ih (i + 1) _ (by omega) h
    rw [show (fun K => chkL K x (d + 1 + 1) (i : Int) st) = _ from funext fun K => by rw [chkL, if_pos (by omega), hii]]
    exact Ev.congr (fun k => if_neg (by omega)) (Ev.bind h2 (Ev.congr (fun k => by rw [if_pos rfl, if_neg (by omega), if_pos ⟨h4, h5⟩]; rfl) z))
theorem okk_chk (x : List Nd) (hx : x.length ≤ 200) (h : Okk 0 [] x) : Ev (fun K => expr_Check.f K x) 0 := by
  unfold expr_Check.f
  refine Ev.congr (fun k => if_neg (by omega)) ?_
  exact okk_chkL x x.length 0 [] (by omega) (by rw [List.drop_zero]; exact h)
theorem same_nodes (x : List Nd) (hx : x.length ≤ 1000) : Ev (fun k => linotypekit_SameNodes.f k x x) true := by
  have loop : ∀ d i : Nat, i + d = x.length → Ev (fun k => linotypekit_SameNodes.l0 k x x (i : Int)) true := by
    intro d
    induction d with
    | zero => intro i hi; exact Ev.step (fun k => by rw [linotypekit_SameNodes.l0, if_neg (by omega)]) (Ev.now _)
    | succ d ih =>
      intro i hi
      have hw : wrap64 ((i : Int) + 1) = ((i + 1 : Nat) : Int) := by rw [w64 (by omega) (by omega)]; omega
      refine Ev.step (fun k => ?_) (ih (i + 1) (by omega))
      rw [linotypekit_SameNodes.l0, if_pos (by omega), if_pos (by omega), if_pos (by omega), if_neg (by simp), hw]
  unfold linotypekit_SameNodes.f
  exact Ev.congr (fun k => if_pos rfl) (loop x.length 0 (by omega))
theorem go_ev {toks : List Tk} {m : RM} {s : RSt} {q : Int × RSt} (h : Go toks m s q) : Ev (fun k => rdR k toks k m s) q := by
  obtain ⟨k0, hk0⟩ := h
  exact ⟨k0, fun k hk => hk0 k k hk hk⟩
/-- What may be, is told and parsed as it was, or is too deep. -/
theorem again_ok (x : List Nd) : Ev (fun k => linotypelaw23_again.f k x) true := by
  unfold linotypelaw23_again.f expr_Text.f
  obtain ⟨e, he⟩ := chk_ex x
  by_cases c : e = 0
  · subst c
    obtain ⟨hx, hok⟩ := chk_okk x he
    obtain ⟨t, hv, hxt⟩ := tree_of_okk x hok
    have hlen : x.length = sz t := by rw [hxt, fl_len]
    have hpos := sz_pos t
    have hw : wrap64 ((x.length : Int) - 1) = rt 0 t := by rw [w64 (by omega) (by omega), hlen]; simp [rt]
    have htok : Ev (fun k => expr_tokens.f k x (wrap64 ((x.length : Int) - 1)) true) (toksE t true) := by
      rw [hw]
      exact ⟨sz t, fun k hk => tokR_fl x t 0 [] true k hv (by rw [List.drop_zero, List.append_nil]; exact hxt) hk (by omega)⟩
    refine Ev.bind (a := (toksE t true, (0 : Int))) (Ev.bind he (Ev.congr (fun k => if_pos rfl) (Ev.bind htok (Ev.now _)))) ?_
    refine Ev.congr (fun k => if_pos rfl) ?_
    obtain ⟨q, hq, hr⟩ := parse_tree t hv (by omega)
    have hq' := go_ev hq
    have hpar : ∀ k, expr_Parse.f k (toksE t true) 0 = (rdR k (toksE t true) k (.climb 0) ⟨0, 0, [], 0, 0⟩).bind fun q => if q.2.e = 0 then some (q.2.out, q.2.at_, 0, 0) else some ([], 0, q.2.e, q.2.ea) := fun k => by
      unfold expr_Parse.f
      rw [if_neg (by omega)]
    rcases hr with h3 | ⟨h0, h1, h2⟩
    · refine Ev.bind (a := (([] : List Nd), (0 : Int), (3 : Int), q.2.ea)) (Ev.congr hpar (Ev.bind hq' (Ev.congr (fun k => by rw [if_neg (by rw [h3]; decide), h3]) (Ev.now _)))) ?_
      refine Ev.congr (f := fun _ => some true) (fun k => ?_) (Ev.now true)
      rw [if_neg (show ¬ ((3 : Int) = 0) by decide)]
      rfl
    · refine Ev.bind (a := (fl 0 t, ((toksE t true).length : Int), (0 : Int), (0 : Int))) (Ev.congr hpar (Ev.bind hq' (Ev.congr (fun k => by rw [if_pos h0, h1, h2]) (Ev.now _)))) ?_
      refine Ev.congr (fun k => by rw [if_pos rfl, if_pos rfl]) (Ev.bind ?_ (Ev.now true))
      rw [← hxt]
      exact same_nodes x (by omega)
  · refine Ev.bind (a := (([] : List Tk), e)) (Ev.bind he (Ev.congr (fun k => if_neg c) (Ev.now _))) ?_
    refine Ev.congr (f := fun k => (expr_Check.f k x).bind fun t => some (e == t)) (fun k => by rw [if_neg c, if_pos (show ((((([] : List Tk), e).1).length : Nat) : Int) = 0 from rfl)]) (Ev.bind he (Ev.congr (fun k => by rw [beq_self_eq_true]) (Ev.now true)))
theorem ExprBack (l0 : List Nd) (l1 : List Tk) (a2 : Int) (hm0 : l0.length ≤ maxLen) {P : Nd → Prop} (_ : ∀ z ∈ l0, P z) (hm1 : l1.length ≤ maxLen) {Q : Tk → Prop} (_ : ∀ z ∈ l1, Q z) (_ : (Lit.int .i64 a2).wf = true) : ∃ k, linotypelaw23_ExprBack.f k l0 l1 a2 = some true := by
  refine Ev.rounds (?_ : Ev (fun k => linotypelaw23_ExprBack.f k l0 l1 a2) true)
  unfold linotypelaw23_ExprBack.f
  have skip : Ev (fun k => linotypelaw23_ExprBack.j0 k l0 l1 a2 true true) true := Ev.step (f := fun _ => some true) (fun k => by rw [linotypelaw23_ExprBack.j0, if_pos rfl]) (Ev.now _)
  refine Ev.bind awake23 ?_
  obtain ⟨b0, hb0, hb0'⟩ := longN l0
  refine Ev.bind hb0 ?_
  cases b0 with
  | true => exact Ev.congr (fun k => if_pos rfl) skip
  | false =>
    refine Ev.congr (fun k => if_neg (by decide)) ?_
    obtain ⟨b1, hb1, hb1'⟩ := longT l1
    refine Ev.bind hb1 ?_
    cases b1 with
    | true => exact skip
    | false =>
      have hl := hb1' rfl
      refine Ev.step (fun k => by rw [linotypelaw23_ExprBack.j0, if_neg (by decide)]) (Ev.bind (again_ok l0) (Ev.congr (fun k => if_pos rfl) ?_))
      by_cases c1 : a2 < 0 ∨ (l1.length : Int) < a2
      · refine Ev.bind (a := (([] : List Nd), (0 : Int), (2 : Int), (0 : Int))) (Ev.congr (fun k => by unfold expr_Parse.f; rw [if_pos c1]) (Ev.now _)) ?_
        refine Ev.congr (f := fun _ => some true) (fun k => ?_) (Ev.now true)
        rw [if_neg (show ¬ ((2 : Int) = 0) by decide), if_pos rfl]
        rfl
      · have hpar : ∀ k, expr_Parse.f k l1 a2 = (rdR k l1 k (.climb 0) ⟨a2, 0, [], 0, 0⟩).bind fun q => if q.2.e = 0 then some (q.2.out, q.2.at_, 0, 0) else some ([], 0, q.2.e, q.2.ea) := fun k => by
          unfold expr_Parse.f
          rw [if_neg c1]
        obtain ⟨q, hq, hr⟩ := parse_any l1 (by omega) a2 (by omega) (by omega)
        have hq' := go_ev hq
        by_cases c2 : q.2.e = 0
        · obtain ⟨h1, h2, h3, t, h4, h5⟩ := hr c2
          refine Ev.bind (a := (q.2.out, q.2.at_, (0 : Int), (0 : Int))) (Ev.congr hpar (Ev.bind hq' (Ev.congr (fun k => if_pos c2) (Ev.now _)))) ?_
          have hc : Ev (fun K => expr_Check.f K q.2.out) 0 := okk_chk q.2.out h3 (by rw [h5]; exact okk_of_tree t h4)
          refine Ev.congr (fun k => by rw [if_pos rfl, if_pos rfl]) (Ev.bind hc (Ev.congr (fun k => by rw [if_pos rfl, if_pos h1, if_pos h2]) (Ev.bind (again_ok q.2.out) (Ev.now true))))
        · refine Ev.bind (a := (([] : List Nd), (0 : Int), q.2.e, q.2.ea)) (Ev.congr hpar (Ev.bind hq' (Ev.congr (fun k => if_neg c2) (Ev.now _)))) ?_
          refine Ev.congr (f := fun _ => some true) (fun k => ?_) (Ev.now true)
          rw [if_neg c2, if_pos rfl]
          rfl
end Go.Proofs.Ytjabjooephellaa.Pure
