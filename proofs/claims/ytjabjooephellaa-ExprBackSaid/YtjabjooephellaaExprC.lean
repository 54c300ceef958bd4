/- The tokens of a tree are read as it, or it is too deep, or too long. No program in sight. -/
import Derived.Test.YtjabjooephellaaExprB
import Derived.Test.YtjabjooephellaaXBx12
import Derived.Test.YtjabjooephellaaXBx10
namespace Go.Proofs.Ytjabjooephellaa.Ex
set_option linter.unusedVariables false
set_option linter.unusedSimpArgs false
open Go.RowKit Go.Proofs.Ytjabjooephellaa.XB Go.Proofs.YtjabjooephellaaW.PrintWords Go.Proofs.YtjabjooephellaaW.PrintLast

abbrev Tk := S32
def toksE : Tr → Bool → List Tk
  | .lf n, _ => if n.f0 = 1 then [⟨2, n.f1, ⟨#[]⟩, 0⟩] else if n.f0 = 2 then [⟨1, 0, n.f2, 0⟩] else [mkT (signR n.f0)]
  | .un op t, _ => mkT (signR op) :: toksE t false
  | .bi op l r, w => if w = true then toksE l false ++ [mkT (signR op)] ++ toksE r false else [mkT ⟨#[40]⟩] ++ (toksE l false ++ [mkT (signR op)] ++ toksE r false) ++ [mkT ⟨#[41]⟩]
theorem toksE_len : ∀ (t : Tr) (w : Bool), (toksE t w).length ≤ 3 * sz t ∧ 0 < (toksE t w).length
  | .lf n, _ => by
    rw [toksE]
    split
    · simp [sz]
    · split <;> simp [sz]
  | .un op t, _ => by
    have := toksE_len t false
    rw [toksE, List.length_cons]
    simp only [sz]
    omega
  | .bi op l r, w => by
    have h1 := toksE_len l false
    have h2 := toksE_len r false
    rw [toksE]
    split <;> simp only [List.length_append, List.length_cons, List.length_nil, sz] <;> omega
theorem rd_of_drop {x : List Nd} {i : Nat} {n : Nd} {r : List Nd} (h : x.drop i = n :: r) : rd_T48 x (i : Int) = n ∧ i < x.length := by
  have hl : i < x.length := by
    rcases Nat.lt_or_ge i x.length with q | q
    · exact q
    · rw [List.drop_eq_nil_of_le q] at h; cases h
  rw [rd_drop x i hl] at h
  injection h with h _
  exact ⟨h, hl⟩
theorem drop_add {α : Type} {x a r : List α} {i : Nat} (h : x.drop i = a ++ r) : x.drop (i + a.length) = r := by
  rw [← List.drop_drop, h, List.drop_left]
theorem tokR_fl (x : List Nd) : ∀ (t : Tr) (b : Nat) (rest : List Nd) (w : Bool) (k : Nat), Vd t → x.drop b = fl b t ++ rest → sz t ≤ k → sz t ≤ 1000000 → tokR x k (rt b t) w = some (toksE t w)
  | .lf n, b, rest, w, k, hv, hx, hk, hs => by
    obtain ⟨k, rfl⟩ : ∃ m, k = m + 1 := ⟨k - 1, by have := sz_pos (.lf n); omega⟩
    obtain ⟨h1, h2⟩ := rd_of_drop (show x.drop b = n :: rest from hx)
    have ho := ops_zero hv.1
    have e1 : rt b (.lf n) = (b : Int) := by simp [rt, sz]
    rw [e1, tokR, if_pos ⟨by omega, by omega⟩, h1, toksE]
    by_cases c1 : n.f0 = 1
    · rw [if_pos c1, if_pos c1]
    · rw [if_neg c1, if_neg c1]
      by_cases c2 : n.f0 = 2
      · rw [if_pos c2, if_pos c2]
      · rw [if_neg c2, if_neg c2, if_pos ⟨by omega, by omega⟩, if_pos hv.1]
  | .un op t, b, rest, w, k, hv, hx, hk, hs => by
    simp only [sz] at hk hs
    obtain ⟨k, rfl⟩ : ∃ m, k = m + 1 := ⟨k - 1, by omega⟩
    rw [fl, List.append_assoc] at hx
    have hx2 := drop_add hx
    rw [fl_len] at hx2
    obtain ⟨h1, h2⟩ := rd_of_drop hx2
    have e1 : rt b (.un op t) = ((b + sz t : Nat) : Int) := by simp [rt, sz]; omega
    have ih := tokR_fl x t b _ false k hv.2 hx (by omega) (by omega)
    have hl := (toksE_len t false).1
    have ho := ops_un hv.1
    rw [e1, tokR, if_pos ⟨by omega, by omega⟩, h1, toksE]
    have f0 : (unN op (rt b t)).f0 = op := rfl
    have f3 : (unN op (rt b t)).f3 = rt b t := rfl
    rw [f0, f3]
    have hop := hv.1
    rw [if_neg (by omega), if_neg (by omega), if_pos ⟨by omega, by omega⟩, if_neg (by omega), if_pos ho, ih]
    simp only [Option.bind_some]
    rw [if_pos (by omega)]
  | .bi op l r, b, rest, w, k, hv, hx, hk, hs => by
    simp only [sz] at hk hs
    obtain ⟨k, rfl⟩ : ∃ m, k = m + 1 := ⟨k - 1, by omega⟩
    rw [fl, List.append_assoc, List.append_assoc] at hx
    have hx2 := drop_add hx
    rw [fl_len] at hx2
    have hx3 := drop_add hx2
    rw [fl_len] at hx3
    obtain ⟨h1, h2⟩ := rd_of_drop hx3
    have e1 : rt b (.bi op l r) = ((b + sz l + sz r : Nat) : Int) := by simp [rt, sz]; omega
    have ih1 := tokR_fl x l b _ false k hv.2.1 hx (by omega) (by omega)
    have ih2 := tokR_fl x r (b + sz l) _ false k hv.2.2 hx2 (by omega) (by omega)
    have hl1 := (toksE_len l false).1
    have hl2 := (toksE_len r false).1
    have ho := ops_bi hv.1
    have hop := hv.1
    rw [e1, tokR, if_pos ⟨by omega, by omega⟩, h1, toksE]
    have f0 : (biN op (rt b l) (rt (b + sz l) r)).f0 = op := rfl
    have f3 : (biN op (rt b l) (rt (b + sz l) r)).f3 = rt b l := rfl
    have f4 : (biN op (rt b l) (rt (b + sz l) r)).f4 = rt (b + sz l) r := rfl
    rw [f0, f3, f4]
    rw [if_neg (by omega), if_neg (by omega), if_pos ⟨by omega, by omega⟩, if_neg (by omega), if_neg (by omega), ih1]
    simp only [Option.bind_some]
    rw [ih2]
    simp only [Option.bind_some]
    rw [if_pos ⟨by omega, by omega⟩]

-- the reader
def Go (toks : List Tk) (m : RM) (s : RSt) (r : Int × RSt) : Prop := ∃ k0, ∀ K k, k0 ≤ K → k0 ≤ k → rdR K toks k m s = some r
def tokA (toks : List Tk) (a : Int) : ByteArray := tokS toks ⟨a, 0, [], 0, 0⟩
theorem tokA_eq (toks : List Tk) (s : RSt) : tokS toks s = tokA toks s.at_ := rfl
theorem rdt_of_drop {x : List Tk} {i : Nat} {n : Tk} {r : List Tk} (h : x.drop i = n :: r) : rd_T32 x (i : Int) = n ∧ (i : Int) < (x.length : Int) := by
  have hl : i < x.length := by
    rcases Nat.lt_or_ge i x.length with q | q
    · exact q
    · rw [List.drop_eq_nil_of_le q] at h; cases h
  rw [List.drop_eq_getElem_cons hl] at h
  injection h with h _
  refine ⟨?_, by omega⟩
  simp [rd_T32, List.getD, List.getElem?_eq_getElem hl, h]
theorem tokA_sign {toks : List Tk} {i : Nat} {sg : ByteArray} {r : List Tk} (h : toks.drop i = mkT sg :: r) : tokA toks (i : Int) = sg := by
  obtain ⟨h1, h2⟩ := rdt_of_drop h
  unfold tokA tokS
  rw [if_pos ⟨h2, by first | (rw [h1]; done) | (rw [h1]; rfl)⟩]
  show (rd_T32 toks (i : Int)).f2 = sg
  first | (rw [h1]; done) | (rw [h1]; rfl)
theorem tokA_end {toks : List Tk} {i : Nat} (h : toks.drop i = []) : tokA toks (i : Int) = ⟨#[]⟩ := by
  have := List.drop_eq_nil_iff.1 h
  unfold tokA tokS
  rw [if_neg (fun z => by have := z.1; simp only at this; omega)]
theorem go_succ {toks : List Tk} {m : RM} {s : RSt} {r : Int × RSt} (k0 : Nat) (h : ∀ K k, k0 ≤ K → k0 ≤ k → rdR K toks (k + 1) m s = some r) : Go toks m s r :=
  ⟨k0 + 1, fun K k hK hk => by
    obtain ⟨k, rfl⟩ : ∃ j, k = j + 1 := ⟨k - 1, by omega⟩
    exact h K k (by omega) (by omega)⟩
section
variable {toks : List Tk} {s : RSt}
theorem go_one_err (h : s.e ≠ 0) : Go toks .one s (0, s) := go_succ 0 (fun K k _ _ => by rw [rdR]; unfold oneR; rw [if_neg h])
theorem go_loop_err (h : s.e ≠ 0) (l n : Int) : Go toks (.loop l n) s (n, s) := go_succ 0 (fun K k _ _ => by rw [rdR, if_neg h])
theorem go_climb {least : Int} {q r : Int × RSt} (h1 : Go toks .one s q) (h2 : Go toks (.loop least q.1) q.2 r) : Go toks (.climb least) s r := by
  obtain ⟨a, ha⟩ := h1
  obtain ⟨b, hb⟩ := h2
  refine go_succ (max a b) (fun K k hK hk => ?_)
  rw [rdR, ha K k (by omega) (by omega)]
  exact hb K k (by omega) (by omega)
theorem go_climb_err (h : s.e ≠ 0) (l : Int) : Go toks (.climb l) s (0, s) := go_climb (go_one_err h) (go_loop_err h l 0)
theorem go_loop_stop (h : s.e = 0) (h0 : 0 ≤ s.at_) (h1 : s.at_ < RMax) (l n : Int) (ho : (opR (tokA toks s.at_)).1 = 0) : Go toks (.loop l n) s (n, s) :=
  go_succ 0 (fun K k _ _ => by rw [rdR, if_pos h, if_pos ⟨h0, h1⟩, tokA_eq, if_pos ho])
theorem go_loop_next {l n op st : Int} {q r : Int × RSt} (h : s.e = 0) (h0 : 0 ≤ s.at_) (h1 : s.at_ < RMax) (ho : opR (tokA toks s.at_) = (op, st)) (hop : op ≠ 0) (hst : ¬ st < l)
    (hc : Go toks (.climb (st + 1)) { s with at_ := s.at_ + 1 } q) (hl : Go toks (.loop l (addR q.2 (nodeR op 0 ⟨#[]⟩ n q.1) s.at_).1) (addR q.2 (nodeR op 0 ⟨#[]⟩ n q.1) s.at_).2 r) : Go toks (.loop l n) s r := by
  obtain ⟨a, ha⟩ := hc
  obtain ⟨b, hb⟩ := hl
  refine go_succ (max a b) (fun K k hK hk => ?_)
  rw [rdR, if_pos h, if_pos ⟨h0, h1⟩, tokA_eq, ho]
  simp only []
  rw [if_neg hop, if_neg hst, ha K k (by omega) (by omega)]
  exact hb K k (by omega) (by omega)
end
/-- What may come of reading a tree's tokens. -/
def Res (s : RSt) (t : Tr) (len : Nat) (q : Int × RSt) : Prop := q.2.depth = s.depth ∧ ((q.2.e = 3 ∧ s.at_ ≤ q.2.at_ ∧ q.2.at_ ≤ s.at_ + 3 * (sz t : Int)) ∨ (q.2.e = 0 ∧ q.2.at_ = s.at_ + (len : Int) ∧ q.2.out = s.out ++ fl s.out.length t ∧ q.1 = rt s.out.length t))
theorem addR_err (s : RSt) (n : Nd) (a : Int) (h : s.e ≠ 0) : (addR s n a).2 = s := by
  have hf : failR s 3 a = s := by unfold failR; rw [if_neg h]
  unfold addR
  by_cases c : 200 ≤ s.out.length
  · simp only [if_pos c, hf, if_neg h]
  · simp only [if_neg c, if_neg h]
theorem addR_ok (s : RSt) (n : Nd) (a : Int) (h : s.e = 0) : ((addR s n a).2.e = 3 ∧ (addR s n a).2.at_ = s.at_ ∧ (addR s n a).2.depth = s.depth) ∨ (addR s n a = ((s.out.length : Int), { s with out := s.out ++ [n] })) := by
  unfold addR
  by_cases c : 200 ≤ s.out.length
  · left
    have hf : failR s 3 a = { s with e := 3, ea := a } := by unfold failR; rw [if_pos h]
    simp only [if_pos c, hf]
    exact ⟨rfl, rfl, rfl⟩
  · right
    simp only [if_neg c, if_pos h, List.length_append, List.length_singleton]
    congr 1
    omega
end Go.Proofs.Ytjabjooephellaa.Ex
