/- Expressions as trees: their nodes in a row, their tokens; what may be is the row of a tree. No program in sight. -/
import Derived.Test.YtjabjooephellaaExprA
namespace Go.Proofs.Ytjabjooephellaa.Ex
set_option linter.unusedVariables false
set_option linter.unusedSimpArgs false
open Go.RowKit Go.Proofs.Ytjabjooephellaa.XB Go.Proofs.YtjabjooephellaaW.PrintWords Go.Proofs.YtjabjooephellaaW.PrintLast

inductive Tr where
  | lf : Nd → Tr
  | un : Int → Tr → Tr
  | bi : Int → Tr → Tr → Tr
def sz : Tr → Nat
  | .lf _ => 1
  | .un _ t => sz t + 1
  | .bi _ l r => sz l + sz r + 1
theorem sz_pos : ∀ t, 0 < sz t
  | .lf _ => by simp [sz]
  | .un _ _ => by simp [sz]
  | .bi _ _ _ => by simp [sz]
/-- The place of a tree's own node, its row beginning at b. -/
def rt (b : Nat) (t : Tr) : Int := (b : Int) + (sz t : Int) - 1
def unN (op : Int) (l : Int) : Nd := ⟨op, 0, ⟨#[]⟩, l, 0⟩
def biN (op : Int) (l r : Int) : Nd := ⟨op, 0, ⟨#[]⟩, l, r⟩
def fl : Nat → Tr → List Nd
  | _, .lf n => [n]
  | b, .un op t => fl b t ++ [unN op (rt b t)]
  | b, .bi op l r => fl b l ++ (fl (b + sz l) r ++ [biN op (rt b l) (rt (b + sz l) r)])
theorem fl_len : ∀ (t : Tr) (b : Nat), (fl b t).length = sz t
  | .lf _, _ => rfl
  | .un _ t, b => by rw [fl, List.length_append, fl_len t b]; rfl
  | .bi _ l r, b => by rw [fl, List.length_append, List.length_append, fl_len l b, fl_len r]; simp [sz]; omega
def Vd : Tr → Prop
  | .lf n => opsV n.f0 = 0 ∧ Ev (fun K => leafK K n) true ∧ n.f3 = 0 ∧ n.f4 = 0
  | .un op t => (op = 5 ∨ op = 6) ∧ Vd t
  | .bi op l r => (7 ≤ op ∧ op ≤ 16) ∧ Vd l ∧ Vd r
theorem ops_un {op : Int} (h : op = 5 ∨ op = 6) : opsV op = 1 := by rcases h with rfl | rfl <;> decide
theorem ops_bi {op : Int} (h : 7 ≤ op ∧ op ≤ 16) : opsV op = 2 := by
  unfold opsV
  rw [if_neg (by omega), if_neg (by omega), if_neg (by omega), if_neg (by omega)]
theorem ops_one {op : Int} (h : opsV op = 1) : op = 5 ∨ op = 6 := by
  unfold opsV at h
  split at h
  · exact absurd h (by decide)
  · split at h
    · exact absurd h (by decide)
    · split at h
      · exact absurd h (by decide)
      · split at h
        · omega
        · exact absurd h (by decide)
theorem ops_two {op : Int} (h : opsV op = 2) : 7 ≤ op ∧ op ≤ 16 := by
  unfold opsV at h
  split at h
  · exact absurd h (by decide)
  · split at h
    · exact absurd h (by decide)
    · split at h
      · exact absurd h (by decide)
      · split at h
        · exact absurd h (by decide)
        · omega
theorem ops_zero {op : Int} (h : opsV op = 0) : 1 ≤ op ∧ op ≤ 4 := by
  unfold opsV at h
  split at h
  · exact absurd h (by decide)
  · split at h
    · exact absurd h (by decide)
    · split at h
      · omega
      · split at h
        · exact absurd h (by decide)
        · exact absurd h (by decide)
theorem nil_toList : (⟨#[]⟩ : ByteArray).toList = [] := by rw [ByteArray.toList_eq]
/-- A node of an operator has no number and no text. -/
theorem leaf_op {n : Nd} (h1 : n.f0 ≠ 1) (h2 : n.f0 ≠ 2) : Ev (fun K => leafK K n) true ↔ (n.f1 = 0 ∧ n.f2 = ⟨#[]⟩) := by
  have e : ∀ K, leafK K n = if n.f1 = 0 then some (n.f2.toList == ([] : List UInt8)) else some false := fun K => by
    unfold leafK expr_leaf.f
    rw [if_neg h1, if_neg h2]
  constructor
  · intro h
    have h := Ev.congr (fun K => (e K).symm) h
    by_cases c : n.f1 = 0
    · have h := Ev.congr (fun K => (if_pos c).symm) h
      have z := Ev.det (Ev.now _) h
      have z2 : n.f2.toList = [] := by simpa using z
      refine ⟨c, toList_inj ?_⟩
      rw [z2, nil_toList]
    · have h := Ev.congr (fun K => (if_neg c).symm) h
      exact absurd (Ev.det (Ev.now _) h) (by decide)
  · rintro ⟨h3, h4⟩
    refine Ev.congr e ?_
    rw [if_pos h3, h4, nil_toList]
    exact Ev.now true
theorem rd_last (st : List Int) (z : Int) : rdI (st ++ [z]) (((st ++ [z]).length : Int) - 1) = z := by
  have e : (((st ++ [z]).length : Int) - 1).toNat = st.length := by rw [List.length_append, List.length_singleton]; omega
  unfold rdI rdOf
  rw [e]
  simp [List.getD]
theorem rd_last2 (st : List Int) (y z : Int) : rdI (st ++ [y, z]) (((st ++ [y, z]).length : Int) - 2) = y ∧ rdI (st ++ [y, z]) (((st ++ [y, z]).length : Int) - 1) = z := by
  have hl : (st ++ [y, z]).length = st.length + 2 := by simp
  have e1 : (((st ++ [y, z]).length : Int) - 2).toNat = st.length := by rw [hl]; omega
  have e2 : (((st ++ [y, z]).length : Int) - 1).toNat = st.length + 1 := by rw [hl]; omega
  unfold rdI rdOf
  rw [e1, e2]
  simp [List.getD]
/-- A tree's row may stand anywhere; behind it its own node is open. -/
theorem okk_fl : ∀ (t : Tr) (b : Nat) (st : List Int) (rest : List Nd), Vd t → (Okk (b : Int) st (fl b t ++ rest) ↔ Okk ((b + sz t : Nat) : Int) (st ++ [rt b t]) rest)
  | .lf n, b, st, rest, h => by
    obtain ⟨h1, h2, h3, h4⟩ := h
    have e1 : rt b (.lf n) = (b : Int) := by simp [rt, sz]
    have e2 : nextSt n st (b : Int) = st ++ [(b : Int)] := by simp [nextSt, h1]
    rw [fl, List.singleton_append, Okk, e1, e2, show (b : Int) + 1 = ((b + sz (.lf n) : Nat) : Int) by simp [sz]]
    constructor
    · exact fun h => h.2
    · refine fun h => ⟨⟨by omega, h2, by omega, ?_, ?_⟩, h⟩
      · rw [h1, h3]; rfl
      · rw [h1, h4]; rfl
  | .un op t, b, st, rest, h => by
    obtain ⟨h1, h2⟩ := h
    have ho := ops_un h1
    rw [fl, List.append_assoc, List.singleton_append, okk_fl t b st _ h2, Okk]
    have e2 : nextSt (unN op (rt b t)) (st ++ [rt b t]) ((b + sz t : Nat) : Int) = st ++ [rt b (.un op t)] := by
      simp [nextSt, unN, ho, rt, sz]
      omega
    rw [e2, show ((b + sz t : Nat) : Int) + 1 = ((b + sz (.un op t) : Nat) : Int) by simp [sz]; omega]
    constructor
    · exact fun h => h.2
    · refine fun h => ⟨⟨?_, (leaf_op ?_ ?_).2 ⟨rfl, rfl⟩, ?_, ?_, ?_⟩, h⟩
      · show 0 ≤ opsV op; omega
      · show op ≠ 1; omega
      · show op ≠ 2; omega
      · show opsV op ≤ _; rw [ho, List.length_append, List.length_singleton]; omega
      · show ownA _ (opsV op) = rt b t
        rw [ho, ownA, if_pos rfl, rd_last]
      · show ownB _ (opsV op) = 0
        rw [ho]; rfl
  | .bi op l r, b, st, rest, h => by
    obtain ⟨h1, h2, h3⟩ := h
    have ho := ops_bi h1
    rw [fl, List.append_assoc, List.append_assoc, List.singleton_append, okk_fl l b st _ h2, okk_fl r (b + sz l) _ _ h3, Okk, List.append_assoc, List.singleton_append]
    have e2 : nextSt (biN op (rt b l) (rt (b + sz l) r)) (st ++ [rt b l, rt (b + sz l) r]) ((b + sz l + sz r : Nat) : Int) = st ++ [rt b (.bi op l r)] := by
      simp [nextSt, biN, ho, rt, sz]
      omega
    rw [e2, show ((b + sz l + sz r : Nat) : Int) + 1 = ((b + sz (.bi op l r) : Nat) : Int) by simp [sz]; omega]
    constructor
    · exact fun h => h.2
    · refine fun h => ⟨⟨?_, (leaf_op ?_ ?_).2 ⟨rfl, rfl⟩, ?_, ?_, ?_⟩, h⟩
      · show 0 ≤ opsV op; omega
      · show op ≠ 1; omega
      · show op ≠ 2; omega
      · show opsV op ≤ _; rw [ho]; simp; omega
      · show ownA _ (opsV op) = rt b l
        rw [ho, ownA, if_neg (by decide), if_pos rfl, (rd_last2 _ _ _).1]
      · show ownB _ (opsV op) = rt (b + sz l) r
        rw [ho, ownB, if_pos rfl, (rd_last2 _ _ _).2]
theorem okk_of_tree (t : Tr) (h : Vd t) : Okk 0 [] (fl 0 t) := by
  have z := (okk_fl t 0 [] [] h).2 (by simp [Okk])
  rw [List.append_nil] at z
  exact z
-- a row of trees
def szF : List Tr → Nat
  | [] => 0
  | t :: ts => sz t + szF ts
def flF : Nat → List Tr → List Nd
  | _, [] => []
  | b, t :: ts => fl b t ++ flF (b + sz t) ts
def rtF : Nat → List Tr → List Int
  | _, [] => []
  | b, t :: ts => rt b t :: rtF (b + sz t) ts
theorem szF_app : ∀ (ts us : List Tr), szF (ts ++ us) = szF ts + szF us
  | [], us => by simp [szF]
  | t :: ts, us => by rw [List.cons_append, szF, szF, szF_app ts us]; omega
theorem flF_app : ∀ (ts us : List Tr) (b : Nat), flF b (ts ++ us) = flF b ts ++ flF (b + szF ts) us
  | [], us, b => by simp [flF, szF]
  | t :: ts, us, b => by rw [List.cons_append, flF, flF, flF_app ts us, szF, List.append_assoc, Nat.add_assoc]
theorem rtF_app : ∀ (ts us : List Tr) (b : Nat), rtF b (ts ++ us) = rtF b ts ++ rtF (b + szF ts) us
  | [], us, b => by simp [rtF, szF]
  | t :: ts, us, b => by rw [List.cons_append, rtF, rtF, rtF_app ts us, szF, List.cons_append, Nat.add_assoc]
theorem rtF_len : ∀ (ts : List Tr) (b : Nat), (rtF b ts).length = ts.length
  | [], _ => rfl
  | t :: ts, b => by rw [rtF, List.length_cons, rtF_len ts, List.length_cons]
theorem okk_tree : ∀ (x : List Nd) (ts : List Tr), (∀ t ∈ ts, Vd t) → Okk ((szF ts : Nat) : Int) (rtF 0 ts) x → ∃ t, Vd t ∧ flF 0 ts ++ x = fl 0 t
  | [], ts, hv, h => by
    have hl : ts.length = 1 := by rw [← rtF_len ts 0]; exact h
    match ts, hl with
    | [t], _ => exact ⟨t, hv t (List.mem_cons_self ..), by simp [flF]⟩
  | n :: x, ts, hv, h => by
    obtain ⟨⟨h1, h2, h3, h4, h5⟩, h⟩ := h
    have step : ∀ (us : List Tr), (∀ t ∈ us, Vd t) → szF us = szF ts + 1 → rtF 0 us = nextSt n (rtF 0 ts) ((szF ts : Nat) : Int) → flF 0 us = flF 0 ts ++ [n] → ∃ t, Vd t ∧ flF 0 ts ++ (n :: x) = fl 0 t := by
      intro us hu hs hr hf
      obtain ⟨t, ht, hx⟩ := okk_tree x us hu (by rw [hs, hr]; exact h)
      exact ⟨t, ht, by rw [← hx, hf, List.append_assoc]; rfl⟩
    rw [rtF_len] at h3
    rcases opsV_of n.f0 with ho | ho | ho | ho
    · omega
    · rw [ho] at h4 h5
      refine step (ts ++ [.lf n]) (fun t ht => ?_) ?_ ?_ ?_
      · rcases List.mem_append.1 ht with ht | ht
        · exact hv t ht
        · obtain rfl := List.mem_singleton.1 ht
          exact ⟨ho, h2, h4.symm, h5.symm⟩
      · rw [szF_app]; simp [szF, sz]
      · rw [rtF_app]
        simp [rtF, rt, sz, nextSt, ho, rtF_len]
        rw [List.take_of_length_le (by rw [rtF_len]; exact Nat.le_refl _)]
      · rw [flF_app]; simp [flF, fl]
    · have hop := ops_one ho
      obtain ⟨us, t, rfl⟩ : ∃ us t, ts = us ++ [t] := ⟨ts.dropLast, ts.getLast (by intro e; subst e; simp at h3; omega), (List.dropLast_concat_getLast _).symm⟩
      have hr : rtF 0 (us ++ [t]) = rtF 0 us ++ [rt (szF us) t] := by rw [rtF_app]; simp [rtF]
      rw [ho, hr, ownA, if_pos rfl, rd_last] at h4
      rw [ho, hr] at h5
      obtain ⟨h6, h7⟩ := (leaf_op (by omega) (by omega)).1 h2
      have hn : n = unN n.f0 (rt (szF us) t) := by
        cases n
        simp only [unN] at *
        subst h6 h7 h4
        congr 1
        exact h5.symm
      refine step (us ++ [.un n.f0 t]) (fun q hq => ?_) ?_ ?_ ?_
      · rcases List.mem_append.1 hq with hq | hq
        · exact hv q (List.mem_append_left _ hq)
        · obtain rfl := List.mem_singleton.1 hq
          exact ⟨hop, hv t (List.mem_append_right _ (List.mem_cons_self ..))⟩
      · rw [szF_app, szF_app]; simp [szF, sz]; omega
      · rw [hr, rtF_app]
        simp [rtF, rt, sz, nextSt, ho, rtF_len, szF_app, szF]
        omega
      · rw [flF_app, flF_app]
        simp only [flF, fl, Nat.zero_add, List.append_nil, List.append_assoc]
        rw [← hn]
    · have hop := ops_two ho
      have hlen : 2 ≤ ts.length := by omega
      obtain ⟨us, l, r, rfl⟩ : ∃ us l r, ts = us ++ [l, r] := by
        refine ⟨ts.dropLast.dropLast, ts.dropLast.getLast (by intro e; have := congrArg List.length e; simp at this; omega), ts.getLast (by intro e; subst e; simp at hlen), ?_⟩
        have e1 := List.dropLast_concat_getLast (l := ts) (by intro e; subst e; simp at hlen)
        have e2 := List.dropLast_concat_getLast (l := ts.dropLast) (by intro e; have := congrArg List.length e; simp at this; omega)
        conv => lhs; rw [← e1, ← e2]
        simp
      have hr : rtF 0 (us ++ [l, r]) = rtF 0 us ++ [rt (szF us) l, rt (szF us + sz l) r] := by rw [rtF_app]; simp [rtF]
      rw [ho, hr, ownA, if_neg (by decide), if_pos rfl, (rd_last2 _ _ _).1] at h4
      rw [ho, hr, ownB, if_pos rfl, (rd_last2 _ _ _).2] at h5
      obtain ⟨h6, h7⟩ := (leaf_op (by omega) (by omega)).1 h2
      have hn : n = biN n.f0 (rt (szF us) l) (rt (szF us + sz l) r) := by
        cases n
        simp only [biN] at *
        subst h6 h7 h4 h5
        rfl
      refine step (us ++ [.bi n.f0 l r]) (fun q hq => ?_) ?_ ?_ ?_
      · rcases List.mem_append.1 hq with hq | hq
        · exact hv q (List.mem_append_left _ hq)
        · obtain rfl := List.mem_singleton.1 hq
          exact ⟨hop, hv l (List.mem_append_right _ (List.mem_cons_self ..)), hv r (List.mem_append_right _ (List.mem_cons_of_mem _ (List.mem_cons_self ..)))⟩
      · rw [szF_app, szF_app]; simp [szF, sz]; omega
      · rw [hr, rtF_app]
        simp [rtF, rt, sz, nextSt, ho, rtF_len, szF_app, szF]
        omega
      · rw [flF_app, flF_app]
        simp only [flF, fl, Nat.zero_add, List.append_nil, List.append_assoc]
        rw [← hn]
theorem tree_of_okk (x : List Nd) (h : Okk 0 [] x) : ∃ t, Vd t ∧ x = fl 0 t := okk_tree x [] (fun t ht => by simp at ht) h
end Go.Proofs.Ytjabjooephellaa.Ex
