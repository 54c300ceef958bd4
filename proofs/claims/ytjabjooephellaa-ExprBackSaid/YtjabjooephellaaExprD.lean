/- The tokens of a tree are read as it, or it is too deep, or too long: the reader's way through them. No program in sight. -/
import Derived.Test.YtjabjooephellaaExprC
import Derived.KernelRfl
namespace Go.Proofs.Ytjabjooephellaa.Ex
set_option linter.unusedVariables false
set_option linter.unusedSimpArgs false
open Go.RowKit Go.Proofs.Ytjabjooephellaa.XB Go.Proofs.YtjabjooephellaaW.PrintWords Go.Proofs.YtjabjooephellaaW.PrintLast

theorem opR_sign {op : Int} (h : 7 ≤ op ∧ op ≤ 16) : ∃ st : Int, opR (signR op) = (op, st) ∧ 0 ≤ st := by
  have hc : op = 7 ∨ op = 8 ∨ op = 9 ∨ op = 10 ∨ op = 11 ∨ op = 12 ∨ op = 13 ∨ op = 14 ∨ op = 15 ∨ op = 16 := by omega
  rcases hc with rfl | rfl | rfl | rfl | rfl | rfl | rfl | rfl | rfl | rfl
  · exact ⟨6, by decide +kernel, by decide⟩
  · exact ⟨6, by decide +kernel, by decide⟩
  · exact ⟨6, by decide +kernel, by decide⟩
  · exact ⟨5, by decide +kernel, by decide⟩
  · exact ⟨5, by decide +kernel, by decide⟩
  · exact ⟨4, by decide +kernel, by decide⟩
  · exact ⟨4, by decide +kernel, by decide⟩
  · exact ⟨3, by decide +kernel, by decide⟩
  · exact ⟨2, by decide +kernel, by decide⟩
  · exact ⟨1, by decide +kernel, by decide⟩
theorem opR_shut : (opR ⟨#[41]⟩).1 = 0 := by decide +kernel
theorem opR_none : (opR ⟨#[]⟩).1 = 0 := by decide +kernel
section
variable {toks : List Tk}
/-- At a sign, what stands alone begins with it. -/
theorem one_sign {s : RSt} {n : Nat} {sg : ByteArray} {r : List Tk} (h : s.e = 0) (hs : s.at_ = (n : Int)) (hb : (n : Int) < RMax) (hd : toks.drop n = mkT sg :: r) (K k : Nat) : rdR K toks (k + 1) .one s = signOneR toks (rdR K toks k) s ∧ tokS toks s = sg := by
  obtain ⟨h1, h2⟩ := rdt_of_drop hd
  refine ⟨?_, by rw [tokA_eq, hs]; exact tokA_sign hd⟩
  rw [rdR]
  unfold oneR
  rw [if_pos h, hs, if_pos ⟨by omega, hb⟩, if_pos h2, h1]
  have f0 : (mkT sg).f0 = 4 := rfl
  rw [f0, if_neg (by decide), if_neg (by decide)]
theorem step_res {s : RSt} {t : Tr} {nd : Nd} {len : Nat} (h : s.e = 0) (hf : fl s.out.length t = [nd]) (hz : sz t = 1) (hl : len = 1) : Res s t len (stepR s nd) := by
  unfold stepR
  rcases addR_ok { s with at_ := s.at_ + 1 } nd s.at_ h with ⟨h1, h2, h3⟩ | h1
  · refine ⟨h3, .inl ⟨h1, ?_, ?_⟩⟩
    · rw [h2]; show s.at_ ≤ s.at_ + 1; omega
    · rw [h2, hz]; show s.at_ + 1 ≤ _; omega
  · rw [h1]
    refine ⟨rfl, .inr ⟨h, ?_, ?_, ?_⟩⟩
    · show s.at_ + 1 = _; rw [hl]; rfl
    · show s.out ++ [nd] = _; rw [hf]
    · show (s.out.length : Int) = rt s.out.length t
      simp [rt, hz]
theorem nd_of (n : Nd) (a b c d e) (h0 : n.f0 = a) (h1 : n.f1 = b) (h2 : n.f2 = c) (h3 : n.f3 = d) (h4 : n.f4 = e) : nodeR a b c d e = n := by
  cases n
  simp only [nodeR] at *
  subst h0 h1 h2 h3 h4
  rfl
def C1 (toks : List Tk) (t : Tr) : Prop := ∀ (s : RSt) (n : Nat) (rest : List Tk), s.e = 0 → s.at_ = (n : Int) → 0 ≤ s.depth → s.depth ≤ 50 → toks.drop n = toksE t false ++ rest → ∃ q, Go toks .one s q ∧ Res s t (toksE t false).length q
theorem c1_lf (hT : toks.length ≤ 1000000) (n : Nd) (hv : Vd (.lf n)) : C1 toks (.lf n) := by
  intro s i rest he hs hd0 hd1 hd
  obtain ⟨h1, h2, h3, h4⟩ := hv
  have ho := ops_zero h1
  rw [toksE] at hd ⊢
  by_cases c1 : n.f0 = 1
  · rw [if_pos c1] at hd ⊢
    obtain ⟨r1, r2⟩ := rdt_of_drop hd
    have hlf : n.f2 = ⟨#[]⟩ := by
      have e : ∀ K, leafK K n = some (n.f2.toList == ([] : List UInt8)) := fun K => by unfold leafK expr_leaf.f; rw [if_pos c1]
      have z := Ev.det (Ev.now _) (Ev.congr (fun K => (e K).symm) h2)
      have z2 : n.f2.toList = [] := by simpa using z
      exact toList_inj (by rw [z2, nil_toList])
    refine ⟨_, go_succ 0 (fun K k _ _ => ?_), step_res (nd := n) he rfl rfl rfl⟩
    rw [rdR]
    unfold oneR
    rw [if_pos he, hs, if_pos ⟨by omega, by have : RMax = 4611686018427387904 := rfl; omega⟩, if_pos r2, r1, if_pos rfl, nd_of n 1 _ _ 0 0 c1 rfl hlf h3 h4]
  · rw [if_neg c1] at hd ⊢
    by_cases c2 : n.f0 = 2
    · rw [if_pos c2] at hd ⊢
      obtain ⟨r1, r2⟩ := rdt_of_drop hd
      by_cases c3 : n.f1 = 0
      · obtain ⟨b, hb⟩ := name_ex n.f2
        have e : ∀ K, leafK K n = (token_Name.f K n.f2).bind fun t => some t := fun K => by unfold leafK expr_leaf.f; rw [if_neg c1, if_pos c2, if_pos c3]
        have hb2 : b = true := Ev.det (Ev.bind hb (Ev.now b)) (Ev.congr (fun K => (e K).symm) h2)
        subst hb2
        obtain ⟨k0, hk0⟩ := hb
        refine ⟨_, go_succ k0 (fun K k hK _ => ?_), step_res (nd := n) he rfl rfl rfl⟩
        have hk1 : token_Name.f K n.f2 = some true := hk0 K hK
        rw [rdR]
        unfold oneR
        rw [if_pos he, hs, if_pos ⟨by omega, by have : RMax = 4611686018427387904 := rfl; omega⟩, if_pos r2, r1, if_neg (show ¬ ((1 : Int) = 2) by decide), if_pos rfl, hk1]
        simp only [Option.bind_some]
        rw [if_pos trivial, nd_of n 2 0 _ 0 0 c2 c3 rfl h3 h4]
      · have e : ∀ K, leafK K n = some false := fun K => by unfold leafK expr_leaf.f; rw [if_neg c1, if_pos c2, if_neg c3]
        exact absurd (Ev.det (Ev.now _) (Ev.congr (fun K => (e K).symm) h2)) (by decide)
    · rw [if_neg c2] at hd ⊢
      obtain ⟨h5, h6⟩ := (leaf_op c1 c2).1 h2
      have hbn : (i : Int) < RMax := by
        have := (rdt_of_drop hd).2
        have : RMax = 4611686018427387904 := rfl
        omega
      by_cases c3 : n.f0 = 3
      · refine ⟨_, go_succ 0 (fun K k _ _ => ?_), step_res (nd := n) he rfl rfl rfl⟩
        obtain ⟨q1, q2⟩ := one_sign he hs hbn hd K k
        rw [q1]
        unfold signOneR
        rw [q2, c3, if_pos (by decide +kernel), nd_of n 3 0 _ 0 0 c3 h5 h6 h3 h4]
      · have c4 : n.f0 = 4 := by omega
        refine ⟨_, go_succ 0 (fun K k _ _ => ?_), step_res (nd := n) he rfl rfl rfl⟩
        obtain ⟨q1, q2⟩ := one_sign he hs hbn hd K k
        rw [q1]
        unfold signOneR
        rw [q2, c4, if_neg (by decide +kernel), if_pos (by decide +kernel), nd_of n 4 0 _ 0 0 c4 h5 h6 h3 h4]
theorem fail_too {s : RSt} (h : s.e = 0) (a : Int) : failR s 3 a = { s with e := 3, ea := a } := by unfold failR; rw [if_pos h]
/-- Around a sign or a parenthesis: too deep, or what is read inside. -/
theorem within_deep {f : RSt → Option (Int × RSt)} {s : RSt} (h : s.depth = 50) : withinR f s = some (0, failR s 3 s.at_) := by unfold withinR; rw [if_pos h]
theorem within_in {f : RSt → Option (Int × RSt)} {s : RSt} {q : Int × RSt} (he : s.e = 0) (h0 : 0 ≤ s.depth) (h1 : s.depth ≤ 50) (h2 : s.depth ≠ 50) (h3 : 0 ≤ s.at_) (h4 : s.at_ < RMax) (hf : f { s with depth := s.depth + 1, at_ := s.at_ + 1 } = some q) (hq : q.2.depth = s.depth + 1) : withinR f s = some (q.1, { q.2 with depth := s.depth }) := by
  have hR : RMax = 4611686018427387904 := rfl
  unfold withinR
  rw [if_neg h2, if_pos he, if_pos ⟨h3, h4, h0, by omega⟩, hf]
  simp only [Option.bind_some]
  rw [if_pos ⟨by omega, by omega⟩, hq]
  congr 3
  omega
theorem c1_un (hT : toks.length ≤ 1000000) (op : Int) (t : Tr) (hop : op = 5 ∨ op = 6) (hz : sz t ≤ 1000000) (ih : C1 toks t) : C1 toks (.un op t) := by
  intro s i rest he hs hd0 hd1 hd
  rw [toksE] at hd ⊢
  have hR : RMax = 4611686018427387904 := rfl
  have hbn : (i : Int) < RMax := by have := (rdt_of_drop hd).2; omega
  have hone : ∀ K k, rdR K toks (k + 1) .one s = add2R (rdR K toks k) op s.at_ s := by
    intro K k
    obtain ⟨q1, q2⟩ := one_sign he hs hbn hd K k
    rw [q1]
    unfold signOneR
    rw [q2]
    rcases hop with rfl | rfl
    · rw [if_neg (by decide +kernel), if_neg (by decide +kernel), if_neg (by decide +kernel), if_neg (by decide +kernel), if_pos (by decide +kernel)]
    · rw [if_neg (by decide +kernel), if_neg (by decide +kernel), if_neg (by decide +kernel), if_neg (by decide +kernel), if_neg (by decide +kernel), if_pos (by decide +kernel)]
  have hszu : sz (.un op t) = sz t + 1 := rfl
  by_cases c : s.depth = 50
  · have hf := fail_too he s.at_
    refine ⟨_, go_succ 0 (fun K k _ _ => by rw [hone, add2R, within_deep c]; rfl), ?_⟩
    have ha := addR_err (failR s 3 s.at_) (nodeR op 0 ⟨#[]⟩ 0 0) s.at_ (by rw [hf]; show (3 : Int) ≠ 0; decide)
    refine ⟨?_, .inl ?_⟩
    · show (addR (failR s 3 s.at_) _ _).2.depth = _
      rw [ha, hf]
    · show (addR (failR s 3 s.at_) _ _).2.e = 3 ∧ s.at_ ≤ (addR (failR s 3 s.at_) _ _).2.at_ ∧ (addR (failR s 3 s.at_) _ _).2.at_ ≤ _
      rw [ha, hf]
      exact ⟨rfl, by show s.at_ ≤ s.at_; omega, by show s.at_ ≤ _; omega⟩
  · have hd' : toks.drop (i + 1) = toksE t false ++ rest := by
      rw [List.cons_append] at hd
      have := drop_add (a := [mkT (signR op)]) (by simpa using hd)
      simpa using this
    obtain ⟨q, hq, hres⟩ := ih { s with depth := s.depth + 1, at_ := s.at_ + 1 } (i + 1) rest he (by show s.at_ + 1 = _; omega) (by show 0 ≤ s.depth + 1; omega) (by show s.depth + 1 ≤ 50; omega) hd'
    obtain ⟨k0, hk0⟩ := hq
    obtain ⟨hdep, hres⟩ := hres
    have hdep' : q.2.depth = s.depth + 1 := hdep
    refine ⟨_, go_succ k0 (fun K k hK hk => by rw [hone, add2R, within_in he hd0 hd1 c (by omega) (by omega) (hk0 K k hK hk) hdep']; rfl), ?_⟩
    rcases hres with ⟨e1, e2, e3⟩ | ⟨e1, e2, e3, e4⟩
    · have ha := addR_err { q.2 with depth := s.depth } (nodeR op 0 ⟨#[]⟩ q.1 0) s.at_ (by show q.2.e ≠ 0; rw [e1]; decide)
      refine ⟨?_, .inl ?_⟩
      · show (addR { q.2 with depth := s.depth } _ _).2.depth = _
        rw [ha]
      · show (addR { q.2 with depth := s.depth } _ _).2.e = 3 ∧ s.at_ ≤ (addR { q.2 with depth := s.depth } _ _).2.at_ ∧ (addR { q.2 with depth := s.depth } _ _).2.at_ ≤ _
        rw [ha]
        refine ⟨e1, ?_, ?_⟩
        · show s.at_ ≤ q.2.at_
          have e2' : s.at_ + 1 ≤ q.2.at_ := e2
          omega
        · show q.2.at_ ≤ _
          have e3' : q.2.at_ ≤ s.at_ + 1 + 3 * (sz t : Int) := e3
          omega
    · rcases addR_ok { q.2 with depth := s.depth } (nodeR op 0 ⟨#[]⟩ q.1 0) s.at_ e1 with ⟨a1, a2, a3⟩ | a1
      · refine ⟨a3, .inl ⟨a1, ?_, ?_⟩⟩
        · rw [a2]
          show s.at_ ≤ q.2.at_
          have e2' : q.2.at_ = s.at_ + 1 + ((toksE t false).length : Int) := e2
          omega
        · rw [a2]
          show q.2.at_ ≤ _
          have e2' : q.2.at_ = s.at_ + 1 + ((toksE t false).length : Int) := e2
          have := (toksE_len t false).1
          omega
      · rw [a1]
        have e3' : q.2.out = s.out ++ fl s.out.length t := e3
        have e4' : q.1 = rt s.out.length t := e4
        refine ⟨rfl, .inr ⟨e1, ?_, ?_, ?_⟩⟩
        · show q.2.at_ = _
          have e2' : q.2.at_ = s.at_ + 1 + ((toksE t false).length : Int) := e2
          rw [List.length_cons]
          omega
        · show q.2.out ++ [nodeR op 0 ⟨#[]⟩ q.1 0] = _
          rw [e3', e4', fl, List.append_assoc]
          rfl
        · show (q.2.out.length : Int) = _
          rw [e3', List.length_append, fl_len]
          simp [rt, sz]
          omega
/-- A binary operator's two sides, up to what binds no more. -/
theorem climb_bi (hT : toks.length ≤ 1000000) (op : Int) (l r : Tr) (hop : 7 ≤ op ∧ op ≤ 16) (hzl : sz l ≤ 1000000) (hzr : sz r ≤ 1000000) (ihl : C1 toks l) (ihr : C1 toks r) (s : RSt) (n : Nat) (rest : List Tk) (he : s.e = 0) (hs : s.at_ = (n : Int)) (hd0 : 0 ≤ s.depth) (hd1 : s.depth ≤ 50) (hd : toks.drop n = toksE (.bi op l r) true ++ rest)
    (hend : (opR (tokA toks ((n + (toksE (.bi op l r) true).length : Nat) : Int))).1 = 0) : ∃ q, Go toks (.climb 0) s q ∧ q.2.depth = s.depth ∧ ((q.2.e = 3 ∧ s.at_ ≤ q.2.at_ ∧ q.2.at_ ≤ s.at_ + 3 * (sz l : Int) + 1 + 3 * (sz r : Int)) ∨ (q.2.e = 0 ∧ q.2.at_ = s.at_ + ((toksE (.bi op l r) true).length : Int) ∧ q.2.out = s.out ++ fl s.out.length (.bi op l r) ∧ q.1 = rt s.out.length (.bi op l r))) := by
  have hR : RMax = 4611686018427387904 := rfl
  rw [toksE, if_pos rfl] at hd hend ⊢
  have hl1 := (toksE_len l false).1
  have hl2 := (toksE_len r false).1
  have hnT : n ≤ 1000000 := by
    rcases Nat.lt_or_ge toks.length n with c | c
    · rw [List.drop_eq_nil_of_le (by omega)] at hd
      have := congrArg List.length hd
      simp at this
    · omega
  rw [List.append_assoc, List.append_assoc] at hd
  obtain ⟨q1, g1, d1, r1⟩ := ihl s n _ he hs hd0 hd1 hd
  have hd2 := drop_add hd
  have hlen : (toksE l false ++ [mkT (signR op)] ++ toksE r false).length = (toksE l false).length + 1 + (toksE r false).length := by simp; omega
  rw [hlen] at hend ⊢
  rcases r1 with ⟨e1, e2, e3⟩ | ⟨e1, e2, e3, e4⟩
  · refine ⟨_, go_climb g1 (go_loop_err (by rw [e1]; decide) 0 q1.1), d1, .inl ⟨e1, e2, ?_⟩⟩
    show q1.2.at_ ≤ _
    omega
  · obtain ⟨st, ho, hst⟩ := opR_sign hop
    have hat : q1.2.at_ = ((n + (toksE l false).length : Nat) : Int) := by rw [e2, hs]; omega
    have htok : tokA toks q1.2.at_ = signR op := by rw [hat]; exact tokA_sign (by simpa using hd2)
    have hd3 : toks.drop (n + (toksE l false).length + 1) = toksE r false ++ rest := by
      have := drop_add (a := [mkT (signR op)]) hd2
      simpa using this
    have next : ∀ (q2 : Int × RSt), Go toks .one { q1.2 with at_ := q1.2.at_ + 1 } q2 → Res { q1.2 with at_ := q1.2.at_ + 1 } r (toksE r false).length q2 → ∃ q, Go toks (.climb 0) s q ∧ q.2.depth = s.depth ∧ ((q.2.e = 3 ∧ s.at_ ≤ q.2.at_ ∧ q.2.at_ ≤ s.at_ + 3 * (sz l : Int) + 1 + 3 * (sz r : Int)) ∨ (q.2.e = 0 ∧ q.2.at_ = s.at_ + (((toksE l false).length + 1 + (toksE r false).length : Nat) : Int) ∧ q.2.out = s.out ++ fl s.out.length (.bi op l r) ∧ q.1 = rt s.out.length (.bi op l r))) := by
      intro q2 g2 hres2
      obtain ⟨d2, r2⟩ := hres2
      have d2' : q2.2.depth = q1.2.depth := d2
      rcases r2 with ⟨f1, f2, f3⟩ | ⟨f1, f2, f3, f4⟩
      · have ha := addR_err q2.2 (nodeR op 0 ⟨#[]⟩ q1.1 q2.1) q1.2.at_ (by rw [f1]; decide)
        refine ⟨_, go_climb g1 (go_loop_next (op := op) (st := st) (q := q2) e1 (by omega) (by omega) (by rw [htok]; exact ho) (by omega) (by omega) (go_climb g2 (go_loop_err (by rw [f1]; decide) _ _)) (go_loop_err (by rw [ha, f1]; decide) 0 _)), ?_, .inl ?_⟩
        · rw [ha, d2', d1]
        · rw [ha]
          have f2' : q1.2.at_ + 1 ≤ q2.2.at_ := f2
          have f3' : q2.2.at_ ≤ q1.2.at_ + 1 + 3 * (sz r : Int) := f3
          exact ⟨f1, by omega, by omega⟩
      · have f2' : q2.2.at_ = q1.2.at_ + 1 + ((toksE r false).length : Int) := f2
        have f3' : q2.2.out = q1.2.out ++ fl q1.2.out.length r := f3
        have f4' : q2.1 = rt q1.2.out.length r := f4
        have hat2 : q2.2.at_ = ((n + ((toksE l false).length + 1 + (toksE r false).length) : Nat) : Int) := by rw [f2', hat]; omega
        have hstop : (opR (tokA toks q2.2.at_)).1 = 0 := by rw [hat2]; exact hend
        have gc : Go toks (.climb (st + 1)) { q1.2 with at_ := q1.2.at_ + 1 } q2 := go_climb g2 (go_loop_stop f1 (by omega) (by omega) _ _ hstop)
        rcases addR_ok q2.2 (nodeR op 0 ⟨#[]⟩ q1.1 q2.1) q1.2.at_ f1 with ⟨a1, a2, a3⟩ | a1
        · refine ⟨_, go_climb g1 (go_loop_next (op := op) (st := st) (q := q2) e1 (by omega) (by omega) (by rw [htok]; exact ho) (by omega) (by omega) gc (go_loop_err (by rw [a1]; decide) 0 _)), ?_, .inl ⟨a1, ?_, ?_⟩⟩
          · rw [a3, d2', d1]
          · rw [a2]; omega
          · rw [a2]; omega
        · refine ⟨((q2.2.out.length : Int), { q2.2 with out := q2.2.out ++ [nodeR op 0 ⟨#[]⟩ q1.1 q2.1] }), go_climb g1 (go_loop_next (op := op) (st := st) (q := q2) e1 (by omega) (by omega) (by rw [htok]; exact ho) (by omega) (by omega) gc (by rw [a1]; exact go_loop_stop (s := { q2.2 with out := q2.2.out ++ [nodeR op 0 ⟨#[]⟩ q1.1 q2.1] }) f1 (by show 0 ≤ q2.2.at_; omega) (by show q2.2.at_ < RMax; omega) 0 _ hstop)), ?_, .inr ⟨f1, ?_, ?_, ?_⟩⟩
          · show q2.2.depth = _; rw [d2', d1]
          · show q2.2.at_ = _; rw [hat2, hs]; omega
          · show q2.2.out ++ [nodeR op 0 ⟨#[]⟩ q1.1 q2.1] = _
            rw [f3', f4', e3, e4, fl, List.length_append, fl_len]
            simp only [List.append_assoc]
            rfl
          · show (q2.2.out.length : Int) = _
            rw [f3', e3, List.length_append, List.length_append, fl_len, fl_len]
            simp [rt, sz]
            omega
    obtain ⟨q2, g2, hres2⟩ := ihr { q1.2 with at_ := q1.2.at_ + 1 } (n + (toksE l false).length + 1) rest e1 (by show q1.2.at_ + 1 = _; omega) (by show 0 ≤ q1.2.depth; rw [d1]; omega) (by show q1.2.depth ≤ 50; rw [d1]; omega) hd3
    exact next q2 g2 hres2
theorem c1_bi (hT : toks.length ≤ 1000000) (op : Int) (l r : Tr) (hop : 7 ≤ op ∧ op ≤ 16) (hzl : sz l ≤ 1000000) (hzr : sz r ≤ 1000000) (ihl : C1 toks l) (ihr : C1 toks r) : C1 toks (.bi op l r) := by
  intro s i rest he hs hd0 hd1 hd
  have hR : RMax = 4611686018427387904 := rfl
  have hin : toksE (.bi op l r) false = mkT ⟨#[40]⟩ :: (toksE (.bi op l r) true ++ [mkT ⟨#[41]⟩]) := by
    rw [toksE, toksE, if_neg (by decide), if_pos rfl]
    simp
  rw [hin] at hd ⊢
  have hbn : (i : Int) < RMax := by have := (rdt_of_drop (n := mkT ⟨#[40]⟩) (r := (toksE (.bi op l r) true ++ [mkT ⟨#[41]⟩]) ++ rest) (by simpa using hd)).2; omega
  have hone : ∀ K k, rdR K toks (k + 1) .one s = withinR (parR toks (rdR K toks k)) s := by
    intro K k
    obtain ⟨q1, q2⟩ := one_sign (sg := ⟨#[40]⟩) he hs hbn (by simpa using hd) K k
    rw [q1]
    unfold signOneR
    rw [q2, if_neg (by decide +kernel), if_neg (by decide +kernel), if_pos (by decide +kernel)]
  have hszb : (sz (.bi op l r) : Int) = sz l + sz r + 1 := by simp [sz]
  by_cases c : s.depth = 50
  · have hf := fail_too he s.at_
    refine ⟨_, go_succ 0 (fun K k _ _ => by rw [hone, within_deep c]), ?_⟩
    rw [hf]
    exact ⟨rfl, .inl ⟨rfl, by show s.at_ ≤ s.at_; omega, by show s.at_ ≤ _; omega⟩⟩
  · have hd' : toks.drop (i + 1) = toksE (.bi op l r) true ++ ([mkT ⟨#[41]⟩] ++ rest) := by
      have := drop_add (a := [mkT ⟨#[40]⟩]) (r := toksE (.bi op l r) true ++ ([mkT ⟨#[41]⟩] ++ rest)) (by simpa using hd)
      simpa using this
    have hd2 := drop_add hd'
    have htok : tokA toks ((i + 1 + (toksE (.bi op l r) true).length : Nat) : Int) = ⟨#[41]⟩ := tokA_sign (by simpa using hd2)
    obtain ⟨q, hq, hdep, hres⟩ := climb_bi hT op l r hop hzl hzr ihl ihr { s with depth := s.depth + 1, at_ := s.at_ + 1 } (i + 1) _ he (by show s.at_ + 1 = _; omega) (by show 0 ≤ s.depth + 1; omega) (by show s.depth + 1 ≤ 50; omega) hd' (by rw [htok]; exact opR_shut)
    obtain ⟨k0, hk0⟩ := hq
    have hdep' : q.2.depth = s.depth + 1 := hdep
    have hshut : (shutR toks q.2).depth = q.2.depth ∧ (shutR toks q.2).at_ = q.2.at_ + 1 := by
      unfold shutR
      split
      · exact ⟨rfl, rfl⟩
      · refine ⟨?_, rfl⟩
        show (failR q.2 4 q.2.at_).depth = _
        unfold failR
        split <;> rfl
    have hatb : 0 ≤ q.2.at_ ∧ q.2.at_ < RMax := by
      rcases hres with ⟨_, e2, e3⟩ | ⟨_, e2, _, _⟩
      · have e2' : s.at_ + 1 ≤ q.2.at_ := e2
        have e3' : q.2.at_ ≤ s.at_ + 1 + 3 * (sz l : Int) + 1 + 3 * (sz r : Int) := e3
        have := (rdt_of_drop (n := mkT ⟨#[40]⟩) (r := (toksE (.bi op l r) true ++ [mkT ⟨#[41]⟩]) ++ rest) (by simpa using hd)).2
        omega
      · have e2' : q.2.at_ = s.at_ + 1 + ((toksE (.bi op l r) true).length : Int) := e2
        have h1 := (toksE_len (.bi op l r) true).1
        have := (rdt_of_drop (n := mkT ⟨#[40]⟩) (r := (toksE (.bi op l r) true ++ [mkT ⟨#[41]⟩]) ++ rest) (by simpa using hd)).2
        omega
    have hpar : ∀ K k, k0 ≤ K → k0 ≤ k → parR toks (rdR K toks k) { s with depth := s.depth + 1, at_ := s.at_ + 1 } = some (q.1, shutR toks q.2) := by
      intro K k hK hk
      unfold parR
      rw [hk0 K k hK hk]
      simp only [Option.bind_some]
      rw [if_pos hatb]
    refine ⟨_, go_succ k0 (fun K k hK hk => by rw [hone, within_in (q := (q.1, shutR toks q.2)) he hd0 hd1 c (by omega) (by omega) (hpar K k hK hk) (by rw [hshut.1, hdep'])]), ?_⟩
    rcases hres with ⟨e1, e2, e3⟩ | ⟨e1, e2, e3, e4⟩
    · have e2' : s.at_ + 1 ≤ q.2.at_ := e2
      have e3' : q.2.at_ ≤ s.at_ + 1 + 3 * (sz l : Int) + 1 + 3 * (sz r : Int) := e3
      refine ⟨rfl, .inl ⟨?_, ?_, ?_⟩⟩
      · show (shutR toks q.2).e = 3
        unfold shutR
        split
        · exact e1
        · show (failR q.2 4 q.2.at_).e = 3
          unfold failR
          rw [if_neg (by rw [e1]; decide)]
          exact e1
      · show s.at_ ≤ (shutR toks q.2).at_
        rw [hshut.2]; omega
      · show (shutR toks q.2).at_ ≤ _
        rw [hshut.2]; omega
    · have e2' : q.2.at_ = s.at_ + 1 + ((toksE (.bi op l r) true).length : Int) := e2
      have hsh : shutR toks q.2 = { q.2 with at_ := q.2.at_ + 1 } := by
        unfold shutR
        rw [tokA_eq, e2', hs, show (i : Int) + 1 + ((toksE (.bi op l r) true).length : Int) = ((i + 1 + (toksE (.bi op l r) true).length : Nat) : Int) by omega, htok, if_pos (by decide +kernel)]
      refine ⟨rfl, .inr ⟨?_, ?_, ?_, ?_⟩⟩
      · show (shutR toks q.2).e = 0
        rw [hsh]; exact e1
      · show (shutR toks q.2).at_ = _
        rw [hshut.2, e2', List.length_cons, List.length_append, List.length_singleton]
        omega
      · show (shutR toks q.2).out = _
        rw [hsh]; exact e3
      · exact e4
theorem c1_all (hT : toks.length ≤ 1000000) : ∀ t : Tr, Vd t → sz t ≤ 1000000 → C1 toks t
  | .lf n, hv, _ => c1_lf hT n hv
  | .un op t, hv, hz => by
    simp only [sz] at hz
    exact c1_un hT op t hv.1 (by omega) (c1_all hT t hv.2 (by omega))
  | .bi op l r, hv, hz => by
    simp only [sz] at hz
    exact c1_bi hT op l r hv.1 (by omega) (by omega) (c1_all hT l hv.2.1 (by omega)) (c1_all hT r hv.2.2 (by omega))
end
/-- The tokens of a tree are read as it, all of them; or it is too deep, or too long. -/
theorem parse_tree (t : Tr) (hv : Vd t) (hz : sz t ≤ 200) : ∃ q : Int × RSt, Go (toksE t true) (.climb 0) ⟨0, 0, [], 0, 0⟩ q ∧ (q.2.e = 3 ∨ (q.2.e = 0 ∧ q.2.at_ = ((toksE t true).length : Int) ∧ q.2.out = fl 0 t)) := by
  have hR : RMax = 4611686018427387904 := rfl
  have hl := (toksE_len t true).1
  have hT : (toksE t true).length ≤ 1000000 := by omega
  have hend : (opR (tokA (toksE t true) ((0 + (toksE t true).length : Nat) : Int))).1 = 0 := by
    rw [tokA_end (by rw [Nat.zero_add]; exact List.drop_length)]
    exact opR_none
  have flat : (∀ w, toksE t w = toksE t false) → ∃ q : Int × RSt, Go (toksE t true) (.climb 0) ⟨0, 0, [], 0, 0⟩ q ∧ (q.2.e = 3 ∨ (q.2.e = 0 ∧ q.2.at_ = ((toksE t true).length : Int) ∧ q.2.out = fl 0 t)) := by
    intro hw
    obtain ⟨q, g, d, r⟩ := c1_all hT t hv (by omega) ⟨0, 0, [], 0, 0⟩ 0 [] rfl rfl (by decide) (by decide) (by rw [List.drop_zero, List.append_nil, hw])
    rcases r with ⟨e1, _⟩ | ⟨e1, e2, e3, _⟩
    · exact ⟨_, go_climb g (go_loop_err (by rw [e1]; decide) 0 q.1), .inl e1⟩
    · have e2' : q.2.at_ = 0 + ((toksE t false).length : Int) := e2
      rw [← hw true] at e2'
      refine ⟨_, go_climb g (go_loop_stop e1 (by omega) (by omega) 0 q.1 ?_), .inr ⟨e1, by show q.2.at_ = _; omega, e3⟩⟩
      rw [show q.2.at_ = ((0 + (toksE t true).length : Nat) : Int) by omega]
      exact hend
  match t, hv, hz, flat with
  | .lf n, _, _, flat => exact flat (fun w => by rw [toksE, toksE])
  | .un op t, _, _, flat => exact flat (fun w => by rw [toksE, toksE])
  | .bi op l r, hv, hz, _ =>
    simp only [sz] at hz
    obtain ⟨q, g, d, r⟩ := climb_bi hT op l r hv.1 (by omega) (by omega) (c1_all hT l hv.2.1 (by omega)) (c1_all hT r hv.2.2 (by omega)) ⟨0, 0, [], 0, 0⟩ 0 [] rfl rfl (by decide) (by decide) (by rw [List.drop_zero, List.append_nil]) hend
    refine ⟨q, g, ?_⟩
    rcases r with ⟨e1, _⟩ | ⟨e1, e2, e3, _⟩
    · exact .inl e1
    · have e2' : q.2.at_ = 0 + ((toksE (.bi op l r) true).length : Int) := e2
      exact .inr ⟨e1, by omega, e3⟩
end Go.Proofs.Ytjabjooephellaa.Ex
