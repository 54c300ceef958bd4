/-
What has no names and no places has the same number whatever symbols there are, and wherever it stands; what has names needs each of them, and hangs on a place as they do: for any nodes, at most 220, and any symbols, at most 30, names of at most 100 bytes; no other condition.
-/
import Derived.Test.YtjabjooephellaaExprA
import Derived.Test.YtjabjooephellaaXFx12
import Derived.Test.YtjabjooephellaaXFx11
import Derived.Test.YtjabjooephellaaXFx10
namespace Go.Proofs.Ytjabjooephellaa.Pure
set_option linter.unusedVariables false
set_option linter.unusedSimpArgs false
open Go.RowKit Go.Proofs.Ytjabjooephellaa.XF Go.Proofs.YtjabjooephellaaW.PrintWords Go.Proofs.YtjabjooephellaaW.PrintLast Go.Proofs.Ytjabjooephellaa.Ex

set_option maxRecDepth 100000 in
theorem awake23 : Ev (fun k => linotypelaw23_awake.f k) true := Ev.of (k := 60) (fun k => linotypelaw23_awake.mono k) (by decide +kernel)
theorem longN (x : List Nd) : ∃ b, Ev (fun k => linotypekit_LongNodes.f k x 220) b ∧ (b = false → x.length ≤ 220) := by
  have stop : ∀ i : Int, ∃ b, Ev (fun k => linotypekit_LongNodes.j1 k x 220 i false) b ∧ (b = false → x.length ≤ 220) := fun i =>
    ⟨_, Ev.step (fun k => by rw [linotypekit_LongNodes.j1, if_neg (by decide)]) (Ev.now _), fun h => by have := of_decide_eq_false h; omega⟩
  have loop : ∀ d i : Nat, i + d = 221 → ∃ b, Ev (fun k => linotypekit_LongNodes.l0 k x 220 (i : Int)) b ∧ (b = false → x.length ≤ 220) := by
    intro d
    induction d with
    | zero =>
      intro i hi
      by_cases c : (i : Int) < (x.length : Int)
      · obtain ⟨b, h1, h2⟩ := stop (i : Int)
        exact ⟨b, Ev.step (fun k => by rw [linotypekit_LongNodes.l0, if_pos c, decide_eq_false (by omega : ¬ (i : Int) ≤ 220)]) h1, h2⟩
      · obtain ⟨b, h1, h2⟩ := stop (i : Int)
        exact ⟨b, Ev.step (fun k => by rw [linotypekit_LongNodes.l0, if_neg c]) h1, h2⟩
    | succ d ih =>
      intro i hi
      by_cases c : (i : Int) < (x.length : Int)
      · have hw : wrap64 ((i : Int) + 1) = ((i + 1 : Nat) : Int) := by rw [w64 (by omega) (by omega)]; omega
        by_cases c2 : ((rd_T48 x (i : Int)).f2.size : Int) > 100
        · exact ⟨true, Ev.step (fun k => by rw [linotypekit_LongNodes.l0, if_pos c, decide_eq_true (by omega : (i : Int) ≤ 220)]) (Ev.step (fun k => by rw [linotypekit_LongNodes.j1, if_pos rfl, if_pos (by omega), if_pos c, if_pos c2]) (Ev.now _)), fun h => by simp at h⟩
        · obtain ⟨b, h1, h2⟩ := ih (i + 1) (by omega)
          exact ⟨b, Ev.step (fun k => by rw [linotypekit_LongNodes.l0, if_pos c, decide_eq_true (by omega : (i : Int) ≤ 220)]) (Ev.step (fun k => by rw [linotypekit_LongNodes.j1, if_pos rfl, if_pos (by omega), if_pos c, if_neg c2, hw]) h1), h2⟩
      · obtain ⟨b, h1, h2⟩ := stop (i : Int)
        exact ⟨b, Ev.step (fun k => by rw [linotypekit_LongNodes.l0, if_neg c]) h1, h2⟩
  exact loop 221 0 (by omega)
theorem longS (x : List Sy) : ∃ b, Ev (fun k => linotypekit_LongSymbols.f k x 30) b ∧ (b = false → x.length ≤ 30) := by
  have stop : ∀ i : Int, ∃ b, Ev (fun k => linotypekit_LongSymbols.j1 k x 30 i false) b ∧ (b = false → x.length ≤ 30) := fun i =>
    ⟨_, Ev.step (fun k => by rw [linotypekit_LongSymbols.j1, if_neg (by decide)]) (Ev.now _), fun h => by have := of_decide_eq_false h; omega⟩
  have loop : ∀ d i : Nat, i + d = 31 → ∃ b, Ev (fun k => linotypekit_LongSymbols.l0 k x 30 (i : Int)) b ∧ (b = false → x.length ≤ 30) := by
    intro d
    induction d with
    | zero =>
      intro i hi
      by_cases c : (i : Int) < (x.length : Int)
      · obtain ⟨b, h1, h2⟩ := stop (i : Int)
        exact ⟨b, Ev.step (fun k => by rw [linotypekit_LongSymbols.l0, if_pos c, decide_eq_false (by omega : ¬ (i : Int) ≤ 30)]) h1, h2⟩
      · obtain ⟨b, h1, h2⟩ := stop (i : Int)
        exact ⟨b, Ev.step (fun k => by rw [linotypekit_LongSymbols.l0, if_neg c]) h1, h2⟩
    | succ d ih =>
      intro i hi
      by_cases c : (i : Int) < (x.length : Int)
      · have hw : wrap64 ((i : Int) + 1) = ((i + 1 : Nat) : Int) := by rw [w64 (by omega) (by omega)]; omega
        by_cases c2 : ((rd_T53 x (i : Int)).f0.size : Int) > 100
        · exact ⟨true, Ev.step (fun k => by rw [linotypekit_LongSymbols.l0, if_pos c, decide_eq_true (by omega : (i : Int) ≤ 30)]) (Ev.step (fun k => by rw [linotypekit_LongSymbols.j1, if_pos rfl, if_pos (by omega), if_pos c, if_pos c2]) (Ev.now _)), fun h => by simp at h⟩
        · obtain ⟨b, h1, h2⟩ := ih (i + 1) (by omega)
          exact ⟨b, Ev.step (fun k => by rw [linotypekit_LongSymbols.l0, if_pos c, decide_eq_true (by omega : (i : Int) ≤ 30)]) (Ev.step (fun k => by rw [linotypekit_LongSymbols.j1, if_pos rfl, if_pos (by omega), if_pos c, if_neg c2, hw]) h1), h2⟩
      · obtain ⟨b, h1, h2⟩ := stop (i : Int)
        exact ⟨b, Ev.step (fun k => by rw [linotypekit_LongSymbols.l0, if_neg c]) h1, h2⟩
  exact loop 31 0 (by omega)
-- names
theorem contains_ex (L : List ByteArray) (s : ByteArray) (hL : L.length ≤ 1000) : ∃ b, Ev (fun k => slices_Contains_string_string.f k L s) b ∧ (b = true ↔ s ∈ L) := by
  have loop : ∀ d i : Nat, i + d = L.length → ∃ r : Int, Ev (fun k => slices_Index_string_string.l0 k L s (L.length : Int) (i : Int)) r ∧ (0 ≤ r ↔ s ∈ L.drop i) := by
    intro d
    induction d with
    | zero =>
      intro i hi
      refine ⟨-1, Ev.step (fun k => by rw [slices_Index_string_string.l0, if_neg (by omega)]) (Ev.now _), ?_⟩
      rw [List.drop_eq_nil_of_le (by omega)]
      simp
    | succ d ih =>
      intro i hi
      have hlt : i < L.length := by omega
      have hw : wrap64 ((i : Int) + 1) = ((i + 1 : Nat) : Int) := by rw [w64 (by omega) (by omega)]; omega
      have hrd : rdOf ByteArray.empty L (i : Int) = L[i] := by simp [rdOf, List.getD, List.getElem?_eq_getElem hlt]
      rw [List.drop_eq_getElem_cons hlt]
      by_cases c : s.toList = L[i].toList
      · refine ⟨(i : Int), Ev.step (fun k => by rw [slices_Index_string_string.l0, if_pos (by omega), if_pos (by omega), if_pos (by omega), hrd, if_pos c]) (Ev.now _), ?_⟩
        have := toList_inj c
        simp [← this]
      · obtain ⟨r, h1, h2⟩ := ih (i + 1) (by omega)
        refine ⟨r, Ev.step (fun k => by rw [slices_Index_string_string.l0, if_pos (by omega), if_pos (by omega), if_pos (by omega), hrd, if_neg c, hw]) h1, ?_⟩
        rw [h2, List.mem_cons]
        have hne : ¬ s = L[i] := fun h => c (by rw [h])
        simp [hne]
  obtain ⟨r, h1, h2⟩ := loop L.length 0 (by omega)
  have h1' : Ev (fun k => slices_Index_string_string.f k L s) r := h1
  refine ⟨decide (r ≥ 0), ?_, ?_⟩
  · unfold slices_Contains_string_string.f
    exact Ev.bind h1' (Ev.now _)
  · rw [decide_eq_true_iff]
    rw [List.drop_zero] at h2
    exact h2
theorem names_ex (x : List Nd) (hx : x.length ≤ 200) (hc : Ev (fun K => expr_Check.f K x) 0) : ∃ L : List ByteArray, Ev (fun k => expr_Names.f k x) L ∧ L.length ≤ 200 ∧ ∀ s, s ∈ L ↔ ∃ n ∈ x, n.f0 = 2 ∧ n.f2 = s := by
  have loop : ∀ (d i : Nat) (acc : List ByteArray), i + d = x.length → acc.length ≤ i → ∃ L : List ByteArray, Ev (fun k => expr_Names.l0 k acc x (x.length : Int) (i : Int)) L ∧ L.length ≤ 200 ∧ ∀ s, s ∈ L ↔ s ∈ acc ∨ ∃ n ∈ x.drop i, n.f0 = 2 ∧ n.f2 = s := by
    intro d
    induction d with
    | zero =>
      intro i acc hi ha
      refine ⟨acc, Ev.step (fun k => by rw [expr_Names.l0, if_neg (by omega)]) (Ev.now _), by omega, fun s => ?_⟩
      rw [List.drop_eq_nil_of_le (by omega)]
      simp
    | succ d ih =>
      intro i acc hi ha
      have hw : wrap64 ((i : Int) + 1) = ((i + 1 : Nat) : Int) := by rw [w64 (by omega) (by omega)]; omega
      have hstep : ∀ k, expr_Names.l0 (k + 1) acc x (x.length : Int) (i : Int) = if (rd_T48 x (i : Int)).f0 = 2 then ((slices_Contains_string_string.f k acc (rd_T48 x (i : Int)).f2).bind fun t => if t = true then expr_Names.l0 k acc x (x.length : Int) ((i + 1 : Nat) : Int) else expr_Names.l0 k (acc ++ [(rd_T48 x (i : Int)).f2]) x (x.length : Int) ((i + 1 : Nat) : Int)) else expr_Names.l0 k acc x (x.length : Int) ((i + 1 : Nat) : Int) := by
        intro k
        rw [expr_Names.l0, if_pos (by omega), if_pos (by omega), if_pos (by omega), hw]
        simp only [if_pos (show acc.length < 8796093022208 by omega)]
      rw [rd_drop x i (by omega)]
      generalize rd_T48 x (i : Int) = n at *
      by_cases c : n.f0 = 2
      · obtain ⟨b, hb, hb2⟩ := contains_ex acc n.f2 (by omega)
        cases b with
        | true =>
          obtain ⟨L, h1, h2, h3⟩ := ih (i + 1) acc (by omega) (by omega)
          refine ⟨L, Ev.step (fun k => (hstep k).trans (if_pos c)) (Ev.bind hb (Ev.congr (fun k => if_pos rfl) h1)), h2, fun s => ?_⟩
          rw [h3 s]
          have hm := hb2.1 rfl
          constructor
          · rintro (h | ⟨n', hn', h⟩)
            · exact .inl h
            · exact .inr ⟨n', List.mem_cons_of_mem _ hn', h⟩
          · rintro (h | ⟨n', hn', h4, h5⟩)
            · exact .inl h
            · rcases List.mem_cons.1 hn' with rfl | hn'
              · exact .inl (h5 ▸ hm)
              · exact .inr ⟨n', hn', h4, h5⟩
        | false =>
          obtain ⟨L, h1, h2, h3⟩ := ih (i + 1) (acc ++ [n.f2]) (by omega) (by rw [List.length_append, List.length_singleton]; omega)
          refine ⟨L, Ev.step (fun k => (hstep k).trans (if_pos c)) (Ev.bind hb (Ev.congr (fun k => if_neg (by decide)) h1)), h2, fun s => ?_⟩
          rw [h3 s, List.mem_append, List.mem_singleton]
          constructor
          · rintro ((h | h) | ⟨n', hn', h⟩)
            · exact .inl h
            · exact .inr ⟨n, List.mem_cons_self .., c, h.symm⟩
            · exact .inr ⟨n', List.mem_cons_of_mem _ hn', h⟩
          · rintro (h | ⟨n', hn', h4, h5⟩)
            · exact .inl (.inl h)
            · rcases List.mem_cons.1 hn' with rfl | hn'
              · exact .inl (.inr h5.symm)
              · exact .inr ⟨n', hn', h4, h5⟩
      · obtain ⟨L, h1, h2, h3⟩ := ih (i + 1) acc (by omega) (by omega)
        refine ⟨L, Ev.step (fun k => (hstep k).trans (if_neg c)) h1, h2, fun s => ?_⟩
        rw [h3 s]
        constructor
        · rintro (h | ⟨n', hn', h⟩)
          · exact .inl h
          · exact .inr ⟨n', List.mem_cons_of_mem _ hn', h⟩
        · rintro (h | ⟨n', hn', h4, h5⟩)
          · exact .inl h
          · rcases List.mem_cons.1 hn' with rfl | hn'
            · exact absurd h4 c
            · exact .inr ⟨n', hn', h4, h5⟩
  obtain ⟨L, h1, h2, h3⟩ := loop x.length 0 [] (by omega) (by simp)
  refine ⟨L, ?_, h2, fun s => ?_⟩
  · unfold expr_Names.f
    exact Ev.bind hc (Ev.congr (fun k => if_pos rfl) h1)
  · rw [h3 s, List.drop_zero]
    simp
theorem last_ex (l : List Sy) (s : ByteArray) (hl : l.length ≤ 1000) : ∃ q : ByteArray × Int × Bool × Bool, Ev (fun k => linotypelaw23_last.f k l s) q ∧ q.2.2.2 = decide (0 ≤ lk l s) ∧ q.2.2.1 = (decide (0 ≤ lk l s) && (rd_T53 l (lk l s)).f2) := by
  have loop : ∀ i : Nat, i ≤ l.length → (∀ j, i ≤ j → j < l.length → ¬ Hit l s j) → ∃ q : ByteArray × Int × Bool × Bool, Ev (fun k => linotypelaw23_last.l0 k l s ((i : Int) - 1)) q ∧ q.2.2.2 = decide (0 ≤ lk l s) ∧ q.2.2.1 = (decide (0 ≤ lk l s) && (rd_T53 l (lk l s)).f2) := by
    intro i
    induction i with
    | zero =>
      intro _ hno
      rcases lk_spec l s with ⟨h1, _⟩ | ⟨r, h1, _, h3, _⟩
      · refine ⟨_, Ev.step (fun k => by rw [linotypelaw23_last.l0, if_neg (by omega)]) (Ev.now _), ?_, ?_⟩
        · rw [h1]; rfl
        · rw [h1]; rfl
      · exact absurd h3 (hno r (by omega) h1)
    | succ i ih =>
      intro hi hno
      have e1 : ((i + 1 : Nat) : Int) - 1 = (i : Int) := by omega
      rw [e1]
      have hw : wrap64 ((i : Int) - 1) = (i : Int) - 1 := w64 (by omega) (by omega)
      by_cases c : Hit l s i
      · have c' : (rd_T53 l (i : Int)).f0.toList = s.toList := c
        have hlk : lk l s = (i : Int) := by
          rcases lk_spec l s with ⟨_, h2⟩ | ⟨r, h1, h2, h3, h4⟩
          · exact absurd c (h2 i (by omega))
          · rcases Nat.lt_trichotomy r i with q | q | q
            · exact absurd c (h4 i q (by omega))
            · rw [h2, q]
            · exact absurd h3 (hno r (by omega) h1)
        refine ⟨_, Ev.step (fun k => by rw [linotypelaw23_last.l0, if_pos (by omega), if_pos (by omega), if_pos (by omega), if_pos c']) (Ev.now _), ?_, ?_⟩
        · rw [hlk]; exact (decide_eq_true (by omega)).symm
        · rw [hlk, decide_eq_true (by omega : (0 : Int) ≤ (i : Int)), Bool.true_and]
      · have c' : ¬ (rd_T53 l (i : Int)).f0.toList = s.toList := c
        obtain ⟨q, h1, h2⟩ := ih (by omega) (fun j hj hjl => by
          rcases Nat.lt_or_ge i j with z | z
          · exact hno j (by omega) hjl
          · have : j = i := by omega
            subst this; exact c)
        exact ⟨q, Ev.step (fun k => by rw [linotypelaw23_last.l0, if_pos (by omega), if_pos (by omega), if_pos (by omega), if_neg c', hw]) h1, h2⟩
  obtain ⟨q, h1, h2⟩ := loop l.length (Nat.le_refl _) (fun j h1 h2 => by omega)
  refine ⟨q, ?_, h2⟩
  unfold linotypelaw23_last.f
  rw [w64 (by omega) (by omega)]
  exact h1
def addrB (l : List Sy) (s : ByteArray) : Bool := decide (0 ≤ lk l s) && (rd_T53 l (lk l s)).f2
theorem names_l (l : List Sy) (hl : l.length ≤ 1000) (L : List ByteArray) (hL : L.length ≤ 1000) (b : Bool) (e : Int) : ∀ (d i : Nat) (pl : Bool), i + d = L.length → (e = 0 → ∀ s ∈ L.drop i, 0 ≤ lk l s) → (e = 0 → b = (pl || (L.drop i).any (addrB l))) → Ev (fun k => linotypelaw23_ExprFree.l1 k l true pl L b e (i : Int)) true := by
  intro d
  induction d with
  | zero =>
    intro i pl hi _ hb
    rw [List.drop_eq_nil_of_le (by omega)] at hb
    by_cases c : e = 0
    · refine Ev.step (f := fun _ => some true) (fun k => ?_) (Ev.now _)
      rw [linotypelaw23_ExprFree.l1, if_neg (by omega), if_pos rfl, if_pos c, hb c]
      simp
    · refine Ev.step (f := fun _ => some true) (fun k => ?_) (Ev.now _)
      rw [linotypelaw23_ExprFree.l1, if_neg (by omega), if_pos rfl, if_neg c]
  | succ d ih =>
    intro i pl hi hf hb
    have hlt : i < L.length := by omega
    have hw : wrap64 ((i : Int) + 1) = ((i + 1 : Nat) : Int) := by rw [w64 (by omega) (by omega)]; omega
    have hrd : rdOf ByteArray.empty L (i : Int) = L[i] := by simp [rdOf, List.getD, List.getElem?_eq_getElem hlt]
    rw [List.drop_eq_getElem_cons hlt] at hf hb
    obtain ⟨q, hq, hq1, hq2⟩ := last_ex l L[i] hl
    have next : ∀ pl', (e = 0 → pl' = (pl || addrB l L[i])) → Ev (fun k => linotypelaw23_ExprFree.l1 k l true pl' L b e ((i + 1 : Nat) : Int)) true := by
      intro pl' h
      refine ih (i + 1) pl' (by omega) (fun he s hs => hf he s (List.mem_cons_of_mem _ hs)) (fun he => ?_)
      rw [hb he, h he, List.any_cons, Bool.or_assoc]
    have both : Ev (fun k => if pl = true then linotypelaw23_ExprFree.l1 k l true true L b e ((i + 1 : Nat) : Int) else linotypelaw23_ExprFree.l1 k l true q.2.2.1 L b e ((i + 1 : Nat) : Int)) true := by
      cases pl with
      | true => exact Ev.congr (fun k => if_pos rfl) (next true (fun _ => by simp))
      | false => exact Ev.congr (fun k => if_neg (by decide)) (next _ (fun _ => by rw [hq2]; rfl))
    refine Ev.step (f := fun k => (linotypelaw23_last.f k l L[i]).bind fun bt => (if bt.2.2.2 = true then (if pl = true then (linotypelaw23_ExprFree.l1 k l true true L b e ((i + 1 : Nat) : Int)) else (linotypelaw23_ExprFree.l1 k l true bt.2.2.1 L b e ((i + 1 : Nat) : Int))) else (if e = 0 then (none) else (if pl = true then (linotypelaw23_ExprFree.l1 k l true true L b e ((i + 1 : Nat) : Int)) else (linotypelaw23_ExprFree.l1 k l true bt.2.2.1 L b e ((i + 1 : Nat) : Int)))))) (fun k => ?_) (Ev.bind hq ?_)
    · rw [linotypelaw23_ExprFree.l1, if_pos (by omega), if_pos (by omega), hrd, hw]
    · by_cases c : q.2.2.2 = true
      · exact Ev.congr (fun k => if_pos c) both
      · have he : e ≠ 0 := by
          intro he
          apply c
          rw [hq1]
          exact decide_eq_true (hf he _ (List.mem_cons_self ..))
        exact Ev.congr (fun k => by rw [if_neg c, if_neg he]) both
def hereB (n : Nd) : Bool := n.f0 == 3 || n.f0 == 4
theorem place_l (x : List Nd) (hx : x.length ≤ 1000) (l : List Sy) (a2 a3 : Int) (g : Bool → Nat → Option Bool) (hg : ∀ pl k, g pl k = (expr_Names.f k x).bind fun t => ((expr_Eval.f k x l a2 a3).bind fun bt => (if (t.length : Int) = 0 then (linotypelaw23_ExprFree.j2 k x l a2 a3 true pl t bt.1 bt.2.1 bt.2.2 (!pl)) else (linotypelaw23_ExprFree.j2 k x l a2 a3 true pl t bt.1 bt.2.1 bt.2.2 false)))) : ∀ (d i : Nat) (pl : Bool), i + d = x.length → Ev (g (pl || (x.drop i).any hereB)) true → Ev (fun k => linotypelaw23_ExprFree.l0 k x l a2 a3 true pl (i : Int)) true := by
  intro d
  induction d with
  | zero =>
    intro i pl hi h
    rw [List.drop_eq_nil_of_le (by omega), List.any_nil, Bool.or_false] at h
    refine Ev.step (f := g pl) (fun k => ?_) h
    rw [linotypelaw23_ExprFree.l0, if_neg (by omega), hg]
  | succ d ih =>
    intro i pl hi h
    have hw : wrap64 ((i : Int) + 1) = ((i + 1 : Nat) : Int) := by rw [w64 (by omega) (by omega)]; omega
    rw [rd_drop x i (by omega), List.any_cons, ← Bool.or_assoc] at h
    have z := ih (i + 1) _ (by omega) h
    refine Ev.step (fun k => ?_) z
    rw [linotypelaw23_ExprFree.l0, if_pos (by omega), hw]
    generalize rd_T48 x (i : Int) = n
    cases pl with
    | true => rw [if_pos rfl, Bool.true_or]
    | false =>
      rw [if_neg (by decide), if_pos (by omega)]
      by_cases c : n.f0 = 3
      · rw [if_pos c]
        congr 1
        simp [hereB, c]
      · rw [if_neg c]
        congr 1
        simp [hereB, c]
theorem ExprFree (l0 : List Nd) (l1 : List Sy) (a2 a3 : Int) (hm0 : l0.length ≤ maxLen) {P : Nd → Prop} (_ : ∀ z ∈ l0, P z) (hm1 : l1.length ≤ maxLen) {Q : Sy → Prop} (_ : ∀ z ∈ l1, Q z) (_ : (Lit.int .i64 a2).wf = true) (_ : (Lit.int .i64 a3).wf = true) : ∃ k, linotypelaw23_ExprFree.f k l0 l1 a2 a3 = some true := by
  refine Ev.rounds (?_ : Ev (fun k => linotypelaw23_ExprFree.f k l0 l1 a2 a3) true)
  unfold linotypelaw23_ExprFree.f
  have skip : Ev (fun k => linotypelaw23_ExprFree.j0 k l0 l1 a2 a3 true true) true := Ev.step (f := fun _ => some true) (fun k => by rw [linotypelaw23_ExprFree.j0, if_pos rfl]) (Ev.now _)
  refine Ev.bind awake23 ?_
  obtain ⟨b0, hb0, hb0'⟩ := longN l0
  refine Ev.bind hb0 ?_
  cases b0 with
  | true => exact Ev.congr (fun k => if_pos rfl) skip
  | false =>
    refine Ev.congr (fun k => if_neg (by decide)) ?_
    obtain ⟨b1, hb1, hb1'⟩ := longS l1
    refine Ev.bind hb1 ?_
    cases b1 with
    | true => exact Ev.congr (fun k => if_pos rfl) skip
    | false =>
      refine Ev.congr (fun k => if_neg (by decide)) ?_
      have hl := hb1' rfl
      obtain ⟨e0, he0⟩ := chk_ex l0
      refine Ev.bind he0 ?_
      by_cases c0 : e0 = 0
      · subst c0
        obtain ⟨hx, hok⟩ := chk_okk l0 he0
        refine Ev.step (f := fun k => linotypelaw23_ExprFree.l0 k l0 l1 a2 a3 true false ((0 : Nat) : Int)) (fun k => by rw [show ((0 : Int) != 0) = false from rfl, linotypelaw23_ExprFree.j0, if_neg (by decide)]; rfl) ?_
        refine place_l l0 (by omega) l1 a2 a3 _ (fun pl k => rfl) l0.length 0 false (by omega) ?_
        rw [List.drop_zero, Bool.false_or]
        obtain ⟨L, hL, hL2, hL3⟩ := names_ex l0 hx he0
        obtain ⟨r, b, e, hE, he, hb, hfound⟩ := eval_gen l0 l1 a2 a3 (by omega) he0
        refine Ev.bind hL (Ev.bind hE ?_)
        have hall : e = 0 → b = (l0.any hereB || L.any (addrB l1)) := by
          intro h0
          obtain ⟨h1, h2⟩ := hfound h0
          rw [h2, Bool.eq_iff_iff, Bool.or_eq_true, List.any_eq_true, List.any_eq_true, List.any_eq_true]
          constructor
          · rintro ⟨n, hn, hp⟩
            simp only [placeB, Bool.or_eq_true, Bool.and_eq_true, beq_iff_eq] at hp
            rcases hp with hp | ⟨hp, hp2⟩
            · exact .inl ⟨n, hn, by simp only [hereB, Bool.or_eq_true, beq_iff_eq]; exact hp⟩
            · exact .inr ⟨n.f2, (hL3 _).2 ⟨n, hn, hp, rfl⟩, by simp only [addrB, Bool.and_eq_true, decide_eq_true_eq]; exact ⟨h1 n hn hp, hp2⟩⟩
          · rintro (⟨n, hn, hp⟩ | ⟨s, hs, hp⟩)
            · refine ⟨n, hn, ?_⟩
              simp only [hereB, Bool.or_eq_true, beq_iff_eq] at hp
              simp only [placeB, Bool.or_eq_true, Bool.and_eq_true, beq_iff_eq]
              exact .inl hp
            · obtain ⟨n, hn, h3, rfl⟩ := (hL3 s).1 hs
              refine ⟨n, hn, ?_⟩
              simp only [addrB, Bool.and_eq_true, decide_eq_true_eq] at hp
              simp only [placeB, Bool.or_eq_true, Bool.and_eq_true, beq_iff_eq]
              exact .inr ⟨h3, hp.2⟩
        have hloop : Ev (fun k => linotypelaw23_ExprFree.l1 k l1 true (l0.any hereB) L b e ((0 : Nat) : Int)) true :=
          names_l l1 (by omega) L (by omega) b e L.length 0 _ (by omega) (fun h0 s hs => by
            rw [List.drop_zero] at hs
            obtain ⟨n, hn, h3, rfl⟩ := (hL3 s).1 hs
            exact (hfound h0).1 n hn h3) (by rw [List.drop_zero]; exact hall)
        have hj3 : Ev (fun k => linotypelaw23_ExprFree.j3 k l1 true (l0.any hereB) L b e false) true := Ev.step (fun k => by rw [linotypelaw23_ExprFree.j3, if_neg (by decide)]; rfl) hloop
        obtain ⟨r', b', e', hE', he', _, hfound'⟩ := eval_gen l0 [] a2 a3 (by simp) he0
        have hj2 : Ev (fun k => linotypelaw23_ExprFree.j2 k l0 l1 a2 a3 true (l0.any hereB) L r b e false) true := by
          refine Ev.step (fun k => by rw [linotypelaw23_ExprFree.j2, if_neg (by decide)]) (Ev.bind hE' ?_)
          by_cases cL : (L.length : Int) > 0
          · refine Ev.congr (fun k => if_pos cL) ?_
            have hne : e' ≠ 0 := by
              intro h0
              obtain ⟨s, hs⟩ := List.exists_mem_of_length_pos (l := L) (by omega)
              obtain ⟨n, hn, h3, _⟩ := (hL3 s).1 hs
              have := (hfound' h0).1 n hn h3
              rcases lk_spec [] n.f2 with ⟨h1, _⟩ | ⟨j, h1, _⟩
              · omega
              · simp at h1
            by_cases c6 : e' = 6
            · exact Ev.congr (fun k => if_pos c6) hj3
            · have c5 : e' = 5 := by rcases he' with h | h | h; exact absurd h hne; exact h; exact absurd h c6
              exact Ev.congr (fun k => by rw [if_neg c6, c5]; rfl) hj3
          · exact Ev.congr (fun k => if_neg cL) hj3
        by_cases cL : (L.length : Int) = 0
        · refine Ev.congr (fun k => if_pos cL) ?_
          cases hP : l0.any hereB with
          | true => rw [hP] at hj2; exact hj2
          | false =>
            have hLn : L = [] := List.eq_nil_of_length_eq_zero (by omega)
            have hb' : b = false := by
              by_cases h0 : e = 0
              · rw [hall h0, hP, hLn]; rfl
              · exact hb h0
            have hp : ∀ n ∈ l0, n.f0 ≠ 2 ∧ n.f0 ≠ 3 ∧ n.f0 ≠ 4 := by
              intro n hn
              refine ⟨fun h => ?_, fun h => ?_, fun h => ?_⟩
              · have := (hL3 n.f2).2 ⟨n, hn, h, rfl⟩
                rw [hLn] at this
                simp at this
              · have : l0.any hereB = true := List.any_eq_true.2 ⟨n, hn, by simp [hereB, h]⟩
                rw [hP] at this; exact absurd this (by decide)
              · have : l0.any hereB = true := List.any_eq_true.2 ⟨n, hn, by simp [hereB, h]⟩
                rw [hP] at this; exact absurd this (by decide)
            have hE0 : Ev (fun K => expr_Eval.f K l0 [] 0 0) (r, b, e) := by
              refine Ev.congr (fun K => ?_) hE
              unfold expr_Eval.f
              rw [if_pos (show (l1.length : Int) < 4611686018427387904 by omega), if_pos (show ((([] : List Sy).length : Nat) : Int) < 4611686018427387904 by decide)]
              congr 1
              funext z
              have := evL_same l0 l1 a2 a3 hp (l0.length + 1) 0 (List.replicate 200 0) false K
              have t0 : ((0 : Nat) : Int) = 0 := rfl
              rw [t0] at this
              rw [this]
            refine Ev.step (fun k => by rw [show (!false) = true from rfl, linotypelaw23_ExprFree.j2, if_pos rfl]) (Ev.bind hE0 ?_)
            refine Ev.congr (fun k => ?_) (Ev.now true)
            rw [if_pos rfl, if_pos rfl, hb', if_neg (show ¬ (false = true) by decide), if_neg (show ¬ (false = true) by decide), beq_self_eq_true]
        · exact Ev.congr (fun k => if_neg cL) hj2
      · exact Ev.congr (fun k => by rw [show (e0 != 0) = true from by simpa using c0]) skip
end Go.Proofs.Ytjabjooephellaa.Pure
