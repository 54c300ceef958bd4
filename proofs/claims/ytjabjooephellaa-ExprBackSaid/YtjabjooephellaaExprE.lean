/- Any tokens are read to an end; what is read is a tree's row. No program in sight. -/
import Derived.Test.YtjabjooephellaaExprD
namespace Go.Proofs.Ytjabjooephellaa.Ex
set_option linter.unusedVariables false
set_option linter.unusedSimpArgs false
open Go.RowKit Go.Proofs.Ytjabjooephellaa.XB Go.Proofs.YtjabjooephellaaW.PrintWords Go.Proofs.YtjabjooephellaaW.PrintLast

def Out (toks : List Tk) (pre : List Nd) (a d : Int) (q : Int × RSt) : Prop := q.2.depth = d ∧ a ≤ q.2.at_ ∧ q.2.at_ ≤ (toks.length : Int) + 51 - d ∧ (q.2.e = 0 → q.2.at_ ≤ (toks.length : Int) ∧ a < q.2.at_ ∧ q.2.out.length ≤ 200 ∧ ∃ t, Vd t ∧ q.2.out = pre ++ fl pre.length t ∧ q.1 = rt pre.length t)
theorem opFrom_rng (s : ByteArray) : ∀ (k : Nat) (op : Int), 7 ≤ op → (opFrom s k op).1 = 0 ∨ (7 ≤ (opFrom s k op).1 ∧ (opFrom s k op).1 ≤ 16) := by
  intro k
  induction k with
  | zero => intro op _; exact .inl rfl
  | succ k ih =>
    intro op h
    rw [opFrom]
    split
    · split
      · exact .inr ⟨h, by assumption⟩
      · exact ih _ (by omega)
    · exact .inl rfl
theorem opR_rng (s : ByteArray) (h : (opR s).1 ≠ 0) : 7 ≤ (opR s).1 ∧ (opR s).1 ≤ 16 := by
  rcases opFrom_rng s 11 7 (by decide) with h1 | h1
  · exact absurd h1 h
  · exact h1
section
variable {toks : List Tk}
theorem tok_lt {s : RSt} (h : (tokS toks s).toList ≠ []) : s.at_ < (toks.length : Int) := by
  unfold tokS at h
  split at h
  · rename_i c; exact c.1
  · exact absurd nil_toList h
theorem tokA_lt {a : Int} (h : (opR (tokA toks a)).1 ≠ 0) : a < (toks.length : Int) := by
  by_cases c : (tokA toks a).toList = []
  · have : tokA toks a = ⟨#[]⟩ := toList_inj (by rw [c, nil_toList])
    rw [this] at h
    exact absurd opR_none h
  · exact tok_lt (s := ⟨a, 0, [], 0, 0⟩) c
theorem addR_ok2 (s : RSt) (n : Nd) (a : Int) (h : s.e = 0) : ((addR s n a).2.e = 3 ∧ (addR s n a).2.at_ = s.at_ ∧ (addR s n a).2.depth = s.depth) ∨ (addR s n a = ((s.out.length : Int), { s with out := s.out ++ [n] }) ∧ s.out.length < 200) := by
  by_cases c : 200 ≤ s.out.length
  · left
    have hf : failR s 3 a = { s with e := 3, ea := a } := by unfold failR; rw [if_pos h]
    unfold addR
    simp only [if_pos c, hf]
    exact ⟨rfl, rfl, rfl⟩
  · rcases addR_ok s n a h with h1 | h1
    · exact .inl h1
    · exact .inr ⟨h1, by omega⟩
theorem out_err {pre : List Nd} {a d : Int} {q : Int × RSt} (h1 : q.2.depth = d) (h2 : a ≤ q.2.at_) (h3 : q.2.at_ ≤ (toks.length : Int) + 51 - d) (h : q.2.e ≠ 0) : Out toks pre a d q := ⟨h1, h2, h3, fun h0 => absurd h0 h⟩
theorem step_out {s : RSt} {nd : Nd} (he : s.e = 0) (h1 : s.at_ < (toks.length : Int)) (hd0 : 0 ≤ s.depth) (hd1 : s.depth ≤ 50) (hv : Vd (.lf nd)) : Out toks s.out s.at_ s.depth (stepR s nd) := by
  unfold stepR
  rcases addR_ok2 { s with at_ := s.at_ + 1 } nd s.at_ he with ⟨e1, e2, e3⟩ | ⟨e1, e2⟩
  · refine out_err e3 ?_ ?_ (by rw [e1]; decide)
    · rw [e2]; show s.at_ ≤ s.at_ + 1; omega
    · rw [e2]; show s.at_ + 1 ≤ _; omega
  · rw [e1]
    have e2' : s.out.length < 200 := e2
    refine ⟨rfl, by show s.at_ ≤ s.at_ + 1; omega, by show s.at_ + 1 ≤ _; omega, fun _ => ⟨by show s.at_ + 1 ≤ _; omega, by show s.at_ < s.at_ + 1; omega, ?_, .lf nd, hv, rfl, ?_⟩⟩
    · show (s.out ++ [nd]).length ≤ 200
      rw [List.length_append, List.length_singleton]; omega
    · show (s.out.length : Int) = rt s.out.length (.lf nd)
      simp [rt, sz]
/-- What a reading that is told in rounds comes to. -/
def Ends (F : Nat → Nat → Option (Int × RSt)) (q : Int × RSt) : Prop := ∃ k0, ∀ K k, k0 ≤ K → k0 ≤ k → F K k = some q
theorem within_any {s : RSt} (hT : toks.length ≤ 1000000) (he : s.e = 0) (ha0 : 0 ≤ s.at_) (ha1 : s.at_ < (toks.length : Int)) (hd0 : 0 ≤ s.depth) (hd1 : s.depth ≤ 50) (F : Nat → Nat → RSt → Option (Int × RSt))
    (hsub : s.depth ≠ 50 → ∃ q, Ends (fun K k => F K k { s with depth := s.depth + 1, at_ := s.at_ + 1 }) q ∧ q.2.depth = s.depth + 1 ∧ s.at_ ≤ q.2.at_ ∧ q.2.at_ ≤ (toks.length : Int) + 51 - s.depth ∧ (q.2.e = 0 → q.2.at_ ≤ (toks.length : Int) ∧ s.at_ < q.2.at_ ∧ q.2.out.length ≤ 200 ∧ ∃ t, Vd t ∧ q.2.out = s.out ++ fl s.out.length t ∧ q.1 = rt s.out.length t)) : ∃ q, Ends (fun K k => withinR (F K k) s) q ∧ Out toks s.out s.at_ s.depth q := by
  have hR : RMax = 4611686018427387904 := rfl
  by_cases c : s.depth = 50
  · refine ⟨_, ⟨0, fun K k _ _ => within_deep c⟩, ?_⟩
    rw [fail_too he]
    exact out_err rfl (by show s.at_ ≤ s.at_; omega) (by show s.at_ ≤ _; omega) (by show (3 : Int) ≠ 0; decide)
  · obtain ⟨q, ⟨k0, hk0⟩, h1, h2, h3, h4⟩ := hsub c
    exact ⟨(q.1, { q.2 with depth := s.depth }), ⟨k0, fun K k hK hk => within_in he hd0 hd1 c ha0 (by omega) (hk0 K k hK hk) h1⟩, rfl, h2, h3, h4⟩
theorem number_ok (n : Int) : Vd (.lf (nodeR 1 n ⟨#[]⟩ 0 0)) := by
  refine ⟨(by decide : opsV 1 = 0), Ev.congr (f := fun _ => some true) (fun K => ?_) (Ev.now true), rfl, rfl⟩
  unfold leafK expr_leaf.f
  rw [if_pos (show (nodeR 1 n ⟨#[]⟩ 0 0).f0 = 1 from rfl)]
  show some ((⟨#[]⟩ : ByteArray).toList == ([] : List UInt8)) = some true
  rw [nil_toList]; rfl
theorem name_ok {s : ByteArray} (h : Ev (fun K => token_Name.f K s) true) : Vd (.lf (nodeR 2 0 s 0 0)) := by
  refine ⟨(by decide : opsV 2 = 0), Ev.congr (f := fun K => (token_Name.f K s).bind fun t => some t) (fun K => ?_) (Ev.bind h (Ev.now true)), rfl, rfl⟩
  unfold leafK expr_leaf.f
  rw [if_neg (show ¬ ((nodeR 2 0 s 0 0).f0 = 1) from (by decide : ¬ ((2 : Int) = 1))), if_pos (show (nodeR 2 0 s 0 0).f0 = 2 from rfl), if_pos (show (nodeR 2 0 s 0 0).f1 = 0 from rfl)]
  rfl
theorem place_ok {op : Int} (h : op = 3 ∨ op = 4) : Vd (.lf (nodeR op 0 ⟨#[]⟩ 0 0)) := by
  refine ⟨?_, (leaf_op ?_ ?_).2 ⟨rfl, rfl⟩, rfl, rfl⟩
  · show opsV op = 0
    rcases h with rfl | rfl <;> decide
  · show op ≠ 1; omega
  · show op ≠ 2; omega
/-- What is read with fewer tokens ahead. -/
def Known (toks : List Tk) (m : Nat) : Prop := ∀ s : RSt, s.e = 0 → 0 ≤ s.at_ → s.at_ ≤ (toks.length : Int) → 0 ≤ s.depth → s.depth ≤ 50 → s.out.length ≤ 200 → ((toks.length : Int) - s.at_).toNat = m →
  (∃ q, Go toks .one s q ∧ Out toks s.out s.at_ s.depth q) ∧ (∀ least, ∃ q, Go toks (.climb least) s q ∧ Out toks s.out s.at_ s.depth q) ∧
  (∀ (least n : Int) (pre : List Nd) (t : Tr), Vd t → s.out = pre ++ fl pre.length t → n = rt pre.length t → ∃ q, Go toks (.loop least n) s q ∧ Out toks pre (s.at_ - 1) s.depth q)
theorem sign_any (hT : toks.length ≤ 1000000) {m : Nat} (ih : ∀ m', m' < m → Known toks m') {s : RSt} (he : s.e = 0) (ha0 : 0 ≤ s.at_) (ha1 : s.at_ ≤ (toks.length : Int)) (hd0 : 0 ≤ s.depth) (hd1 : s.depth ≤ 50) (ho : s.out.length ≤ 200) (hm : ((toks.length : Int) - s.at_).toNat = m) :
    ∃ q, Ends (fun K k => signOneR toks (rdR K toks k) s) q ∧ Out toks s.out s.at_ s.depth q := by
  have sub : s.at_ < (toks.length : Int) → s.depth ≠ 50 → (∃ q, Go toks .one { s with depth := s.depth + 1, at_ := s.at_ + 1 } q ∧ Out toks s.out (s.at_ + 1) (s.depth + 1) q) ∧ (∀ least, ∃ q, Go toks (.climb least) { s with depth := s.depth + 1, at_ := s.at_ + 1 } q ∧ Out toks s.out (s.at_ + 1) (s.depth + 1) q) := by
    intro h1 h2
    obtain ⟨z1, z2, _⟩ := ih (((toks.length : Int) - (s.at_ + 1)).toNat) (by omega) { s with depth := s.depth + 1, at_ := s.at_ + 1 } he (by show 0 ≤ s.at_ + 1; omega) (by show s.at_ + 1 ≤ _; omega) (by show 0 ≤ s.depth + 1; omega) (by show s.depth + 1 ≤ 50; omega) ho rfl
    exact ⟨z1, z2⟩
  have wide : ∀ {m : RM}, (∃ q, Go toks m { s with depth := s.depth + 1, at_ := s.at_ + 1 } q ∧ Out toks s.out (s.at_ + 1) (s.depth + 1) q) → ∃ q, Ends (fun K k => rdR K toks k m { s with depth := s.depth + 1, at_ := s.at_ + 1 }) q ∧ q.2.depth = s.depth + 1 ∧ s.at_ ≤ q.2.at_ ∧ q.2.at_ ≤ (toks.length : Int) + 51 - s.depth ∧ (q.2.e = 0 → q.2.at_ ≤ (toks.length : Int) ∧ s.at_ < q.2.at_ ∧ q.2.out.length ≤ 200 ∧ ∃ t, Vd t ∧ q.2.out = s.out ++ fl s.out.length t ∧ q.1 = rt s.out.length t) := by
    rintro m ⟨q, hq, g1, g2, g3, g4⟩
    refine ⟨q, hq, g1, by omega, by omega, fun h => ?_⟩
    obtain ⟨g5, g6, g7, g8⟩ := g4 h
    exact ⟨g5, by omega, g7, g8⟩
  have add2 : ∀ op : Int, (op = 5 ∨ op = 6) → s.at_ < (toks.length : Int) → ∃ q, Ends (fun K k => add2R (rdR K toks k) op s.at_ s) q ∧ Out toks s.out s.at_ s.depth q := by
    intro op hop hlt
    obtain ⟨q, ⟨k0, hk0⟩, h1, h2, h3, h4⟩ := within_any hT he ha0 hlt hd0 hd1 (fun K k => rdR K toks k .one) (fun h => wide (sub hlt h).1)
    refine ⟨addR q.2 (nodeR op 0 ⟨#[]⟩ q.1 0) s.at_, ⟨k0, fun K k hK hk => by
      have z : withinR (rdR K toks k .one) s = some q := hk0 K k hK hk
      show (withinR (rdR K toks k .one) s).bind _ = _
      rw [z]; rfl⟩, ?_⟩
    by_cases c : q.2.e = 0
    · obtain ⟨g1, g2, g3, t, g4, g5, g6⟩ := h4 c
      rcases addR_ok2 q.2 (nodeR op 0 ⟨#[]⟩ q.1 0) s.at_ c with ⟨a1, a2, a3⟩ | ⟨a1, a2⟩
      · exact out_err (by rw [a3, h1]) (by rw [a2]; omega) (by rw [a2]; omega) (by rw [a1]; decide)
      · rw [a1]
        refine ⟨h1, by show s.at_ ≤ q.2.at_; omega, by show q.2.at_ ≤ _; omega, fun _ => ⟨g1, by show s.at_ < q.2.at_; omega, ?_, .un op t, ⟨hop, g4⟩, ?_, ?_⟩⟩
        · show (q.2.out ++ _).length ≤ 200
          rw [List.length_append, List.length_singleton]; omega
        · show q.2.out ++ [nodeR op 0 ⟨#[]⟩ q.1 0] = _
          rw [g5, g6, fl, List.append_assoc]
          rfl
        · show (q.2.out.length : Int) = _
          rw [g5, List.length_append, fl_len]
          simp [rt, sz]
          omega
    · have ha := addR_err q.2 (nodeR op 0 ⟨#[]⟩ q.1 0) s.at_ c
      exact out_err (by rw [ha, h1]) (by rw [ha]; omega) (by rw [ha]; omega) (by rw [ha]; exact c)
  unfold signOneR
  by_cases c1 : (tokS toks s).toList = [36]
  · exact ⟨_, ⟨0, fun K k _ _ => if_pos c1⟩, step_out he (tok_lt (by rw [c1]; simp)) hd0 hd1 (place_ok (.inl rfl))⟩
  simp only [if_neg c1]
  by_cases c2 : (tokS toks s).toList = [36, 36]
  · exact ⟨_, ⟨0, fun K k _ _ => if_pos c2⟩, step_out he (tok_lt (by rw [c2]; simp)) hd0 hd1 (place_ok (.inr rfl))⟩
  simp only [if_neg c2]
  by_cases c3 : (tokS toks s).toList = [40]
  · have hlt := tok_lt (toks := toks) (s := s) (by rw [c3]; simp)
    simp only [if_pos c3]
    refine within_any hT he ha0 hlt hd0 hd1 (fun K k => parR toks (rdR K toks k)) (fun hne => ?_)
    obtain ⟨q, ⟨k0, hk0⟩, g1, g2, g3, g4⟩ := (sub hlt hne).2 0
    have hR : RMax = 4611686018427387904 := rfl
    have hsd : (shutR toks q.2).depth = q.2.depth ∧ (shutR toks q.2).at_ = q.2.at_ + 1 ∧ (shutR toks q.2).out = q.2.out := by
      unfold shutR
      split
      · exact ⟨rfl, rfl, rfl⟩
      · refine ⟨?_, rfl, ?_⟩
        · show (failR q.2 4 q.2.at_).depth = _
          unfold failR
          split <;> rfl
        · show (failR q.2 4 q.2.at_).out = _
          unfold failR
          split <;> rfl
    have hse : (shutR toks q.2).e = 0 → q.2.e = 0 ∧ (tokS toks q.2).toList = [41] := by
      unfold shutR
      split
      · rename_i hc
        exact fun h => ⟨h, hc⟩
      · intro h
        exact absurd h (failR_e q.2 4 q.2.at_ (by decide))
    refine ⟨(q.1, shutR toks q.2), ⟨k0, fun K k hK hk => ?_⟩, ?_, ?_, ?_, fun h => ?_⟩
    · show parR toks (rdR K toks k) _ = _
      unfold parR
      rw [hk0 K k hK hk]
      simp only [Option.bind_some]
      rw [if_pos ⟨by omega, by omega⟩]
    · show (shutR toks q.2).depth = _
      rw [hsd.1, g1]
    · show s.at_ ≤ (shutR toks q.2).at_
      rw [hsd.2.1]; omega
    · show (shutR toks q.2).at_ ≤ _
      rw [hsd.2.1]; omega
    · obtain ⟨h1, h2⟩ := hse h
      obtain ⟨g5, g6, g7, t, g8, g9, g10⟩ := g4 h1
      have hlt2 := tok_lt (toks := toks) (s := q.2) (by rw [h2]; simp)
      refine ⟨?_, ?_, ?_, t, g8, ?_, g10⟩
      · show (shutR toks q.2).at_ ≤ _
        rw [hsd.2.1]; omega
      · show s.at_ < (shutR toks q.2).at_
        rw [hsd.2.1]; omega
      · show (shutR toks q.2).out.length ≤ 200
        rw [hsd.2.2]; exact g7
      · show (shutR toks q.2).out = _
        rw [hsd.2.2]; exact g9
  simp only [if_neg c3]
  by_cases c4 : (tokS toks s).toList = [43]
  · have hlt := tok_lt (toks := toks) (s := s) (by rw [c4]; simp)
    simp only [if_pos c4]
    exact within_any hT he ha0 hlt hd0 hd1 (fun K k => rdR K toks k .one) (fun h => wide (sub hlt h).1)
  simp only [if_neg c4]
  by_cases c5 : (tokS toks s).toList = [45]
  · simp only [if_pos c5]
    exact add2 5 (.inl rfl) (tok_lt (by rw [c5]; simp))
  simp only [if_neg c5]
  by_cases c6 : (tokS toks s).toList = [126]
  · simp only [if_pos c6]
    exact add2 6 (.inr rfl) (tok_lt (by rw [c6]; simp))
  simp only [if_neg c6]
  refine ⟨_, ⟨0, fun K k _ _ => rfl⟩, ?_⟩
  have hf : failR s 4 s.at_ = { s with e := 4, ea := s.at_ } := by unfold failR; rw [if_pos he]
  rw [hf]
  exact out_err rfl (by show s.at_ ≤ s.at_; omega) (by show s.at_ ≤ _; omega) (by show (4 : Int) ≠ 0; decide)
theorem known_all (hT : toks.length ≤ 1000000) : ∀ m, Known toks m := by
  intro m
  induction m using Nat.strongRecOn with
  | ind m ih =>
    have hR : RMax = 4611686018427387904 := rfl
    intro s he ha0 ha1 hd0 hd1 ho hm
    have sign := sign_any hT ih he ha0 ha1 hd0 hd1 ho hm
    -- what stands alone
    have one : ∃ q, Go toks .one s q ∧ Out toks s.out s.at_ s.depth q := by
      have hb : 0 ≤ s.at_ ∧ s.at_ < RMax := ⟨ha0, by omega⟩
      obtain ⟨qs, ⟨ks, hks⟩, hqs⟩ := sign
      by_cases c1 : s.at_ < (toks.length : Int)
      · by_cases c2 : (rd_T32 toks s.at_).f0 = 2
        · refine ⟨_, go_succ 0 (fun K k _ _ => ?_), step_out he c1 hd0 hd1 (number_ok (rd_T32 toks s.at_).f1)⟩
          rw [rdR]
          unfold oneR
          rw [if_pos he, if_pos hb, if_pos c1, if_pos c2]
        · by_cases c3 : (rd_T32 toks s.at_).f0 = 1
          · obtain ⟨b, hb2⟩ := name_ex (rd_T32 toks s.at_).f2
            cases b with
            | true =>
              obtain ⟨k1, hk1⟩ := hb2
              refine ⟨_, go_succ k1 (fun K k hK _ => ?_), step_out he c1 hd0 hd1 (name_ok ⟨k1, hk1⟩)⟩
              have z : token_Name.f K (rd_T32 toks s.at_).f2 = some true := hk1 K hK
              rw [rdR]
              unfold oneR
              rw [if_pos he, if_pos hb, if_pos c1, if_neg c2, if_pos c3, z]
              rfl
            | false =>
              obtain ⟨k1, hk1⟩ := hb2
              refine ⟨qs, go_succ (max k1 ks) (fun K k hK hk => ?_), hqs⟩
              have z : token_Name.f K (rd_T32 toks s.at_).f2 = some false := hk1 K (by omega)
              rw [rdR]
              unfold oneR
              rw [if_pos he, if_pos hb, if_pos c1, if_neg c2, if_pos c3, z]
              simp only [Option.bind_some]
              rw [if_neg (by decide)]
              exact hks K k (by omega) (by omega)
          · refine ⟨qs, go_succ ks (fun K k hK hk => ?_), hqs⟩
            rw [rdR]
            unfold oneR
            rw [if_pos he, if_pos hb, if_pos c1, if_neg c2, if_neg c3]
            exact hks K k hK hk
      · refine ⟨qs, go_succ ks (fun K k hK hk => ?_), hqs⟩
        rw [rdR]
        unfold oneR
        rw [if_pos he, if_pos hb, if_neg c1]
        exact hks K k hK hk
    refine ⟨one, fun least => ?_, fun least n pre t hv hout hn => ?_⟩
    -- all that binds so strong
    · obtain ⟨q1, g1, d1, a1, b1, r1⟩ := one
      by_cases c : q1.2.e = 0
      · obtain ⟨r2, r3, r4, t, r5, r6, r7⟩ := r1 c
        have hm1 : ((toks.length : Int) - q1.2.at_).toNat < m := by clear r1 sign; omega
        have hp1 : 0 ≤ q1.2.at_ := by clear r1 sign; omega
        have hp2 : 0 ≤ q1.2.depth ∧ q1.2.depth ≤ 50 := by clear r1 sign; omega
        obtain ⟨_, _, hl⟩ := ih (((toks.length : Int) - q1.2.at_).toNat) hm1 q1.2 c hp1 r2 hp2.1 hp2.2 r4 rfl
        obtain ⟨q, gq, e1, e2, e3, e4⟩ := hl least q1.1 s.out t r5 r6 r7
        refine ⟨q, go_climb g1 gq, by rw [e1, d1], by omega, by rw [d1] at e3; exact e3, fun h => ?_⟩
        obtain ⟨f1, f2, f3, f4⟩ := e4 h
        exact ⟨f1, by omega, f3, f4⟩
      · exact ⟨q1, go_climb g1 (go_loop_err c least q1.1), d1, a1, b1, r1⟩
    -- what follows an operand
    · have stop : Out toks pre (s.at_ - 1) s.depth (n, s) := ⟨rfl, by show s.at_ - 1 ≤ s.at_; omega, by show s.at_ ≤ _; omega, fun _ => ⟨ha1, by show s.at_ - 1 < s.at_; omega, ho, t, hv, hout, hn⟩⟩
      by_cases c1 : (opR (tokA toks s.at_)).1 = 0
      · exact ⟨(n, s), go_loop_stop he ha0 (by omega) least n c1, stop⟩
      · have hlt := tokA_lt c1
        have hrng := opR_rng _ c1
        by_cases c2 : (opR (tokA toks s.at_)).2 < least
        · exact ⟨(n, s), go_succ 0 (fun K k _ _ => by rw [rdR, if_pos he, if_pos ⟨ha0, by omega⟩, tokA_eq, if_neg c1, if_pos c2]), stop⟩
        · obtain ⟨_, hc, _⟩ := ih (((toks.length : Int) - (s.at_ + 1)).toNat) (by omega) { s with at_ := s.at_ + 1 } he (by show 0 ≤ s.at_ + 1; omega) (by show s.at_ + 1 ≤ _; omega) hd0 hd1 ho rfl
          obtain ⟨q2, g2, d2, a2, b2, r2⟩ := hc ((opR (tokA toks s.at_)).2 + 1)
          have d2' : q2.2.depth = s.depth := d2
          have a2' : s.at_ + 1 ≤ q2.2.at_ := a2
          have b2' : q2.2.at_ ≤ (toks.length : Int) + 51 - s.depth := b2
          have nx := fun r h => go_loop_next (toks := toks) (s := s) (l := least) (n := n) (op := (opR (tokA toks s.at_)).1) (st := (opR (tokA toks s.at_)).2) (q := q2) (r := r) he ha0 (by omega) rfl c1 c2 g2 h
          by_cases c3 : q2.2.e = 0
          · obtain ⟨r3, r4, r5, u, r6, r7, r8⟩ := r2 c3
            have r4' : s.at_ + 1 < q2.2.at_ := r4
            have r7' : q2.2.out = s.out ++ fl s.out.length u := r7
            have r8' : q2.1 = rt s.out.length u := r8
            rcases addR_ok2 q2.2 (nodeR (opR (tokA toks s.at_)).1 0 ⟨#[]⟩ n q2.1) s.at_ c3 with ⟨e1, e2, e3⟩ | ⟨e1, e2⟩
            · exact ⟨_, nx _ (go_loop_err (by rw [e1]; decide) least _), out_err (by rw [e3, d2']) (by rw [e2]; omega) (by rw [e2]; omega) (by rw [e1]; decide)⟩
            · have hm2 : ((toks.length : Int) - q2.2.at_).toNat < m := by clear r2 one sign hc nx; omega
              have hp1 : 0 ≤ q2.2.at_ := by clear r2 one sign hc nx; omega
              have hp2 : 0 ≤ q2.2.depth ∧ q2.2.depth ≤ 50 := by clear r2 one sign hc nx; omega
              obtain ⟨_, _, hl⟩ := ih (((toks.length : Int) - q2.2.at_).toNat) hm2 { q2.2 with out := q2.2.out ++ [nodeR (opR (tokA toks s.at_)).1 0 ⟨#[]⟩ n q2.1] } c3 hp1 r3 hp2.1 hp2.2 (by show (q2.2.out ++ _).length ≤ 200; rw [List.length_append, List.length_singleton]; omega) rfl
              obtain ⟨q, gq, f1, f2, f3, f4⟩ := hl least (q2.2.out.length : Int) pre (.bi (opR (tokA toks s.at_)).1 t u) ⟨hrng, hv, r6⟩ (by
                show q2.2.out ++ [nodeR (opR (tokA toks s.at_)).1 0 ⟨#[]⟩ n q2.1] = _
                rw [r7', r8', hout, hn, fl, List.length_append, fl_len]
                simp only [List.append_assoc]
                rfl) (by
                rw [r7', hout, List.length_append, List.length_append, fl_len, fl_len]
                simp [rt, sz]
                omega)
              have f1' : q.2.depth = q2.2.depth := f1
              have f2' : q2.2.at_ - 1 ≤ q.2.at_ := f2
              have f3' : q.2.at_ ≤ (toks.length : Int) + 51 - q2.2.depth := f3
              refine ⟨q, nx _ (by rw [e1]; exact gq), by rw [f1', d2'], by omega, by omega, fun h => ?_⟩
              obtain ⟨z1, z2, z3, z4⟩ := f4 h
              have z2' : q2.2.at_ - 1 < q.2.at_ := z2
              exact ⟨z1, by omega, z3, z4⟩
          · have ha := addR_err q2.2 (nodeR (opR (tokA toks s.at_)).1 0 ⟨#[]⟩ n q2.1) s.at_ c3
            exact ⟨_, nx _ (go_loop_err (by rw [ha]; exact c3) least _), out_err (by rw [ha, d2']) (by rw [ha]; omega) (by rw [ha]; omega) (by rw [ha]; exact c3)⟩
end
/-- Any tokens are read to an end; what is read is a tree's row, and is of at least one token. -/
theorem parse_any (toks : List Tk) (hT : toks.length ≤ 1000000) (a : Int) (h0 : 0 ≤ a) (h1 : a ≤ (toks.length : Int)) : ∃ q : Int × RSt, Go toks (.climb 0) ⟨a, 0, [], 0, 0⟩ q ∧ (q.2.e = 0 → a < q.2.at_ ∧ q.2.at_ ≤ (toks.length : Int) ∧ q.2.out.length ≤ 200 ∧ ∃ t, Vd t ∧ q.2.out = fl 0 t) := by
  obtain ⟨_, h, _⟩ := known_all hT _ ⟨a, 0, [], 0, 0⟩ rfl h0 h1 (by show (0 : Int) ≤ 0; decide) (by show (0 : Int) ≤ 50; decide) (by show (0 : Nat) ≤ 200; decide) rfl
  obtain ⟨q, g, _, _, _, r⟩ := h 0
  refine ⟨q, g, fun he => ?_⟩
  obtain ⟨r1, r2, r3, t, r4, r5, _⟩ := r he
  exact ⟨r2, r1, r3, t, r4, r5⟩
end Go.Proofs.Ytjabjooephellaa.Ex
