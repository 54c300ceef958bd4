/-
Sums, differences, products, of any three numbers, written in a row, with parentheses or without, have the numbers of Go's own words; for any three numbers and two of six operators; no other condition.
-/
import Derived.Test.YtjabjooephellaaXSx11
import Derived.Test.YtjabjooephellaaXSx10
import Derived.KernelRfl
namespace Go.Proofs.Ytjabjooephellaa.Pure
set_option linter.unusedVariables false
set_option linter.unusedSimpArgs false
open Go.RowKit Go.Proofs.Ytjabjooephellaa.XS Go.Proofs.YtjabjooephellaaW.PrintWords Go.Proofs.YtjabjooephellaaW.PrintLast

abbrev Tk := S32
abbrev Nd := S48
set_option maxRecDepth 100000 in
theorem awake23 : Ev (fun k => linotypelaw23_awake.f k) true := Ev.of (k := 60) (fun k => linotypelaw23_awake.mono k) (by decide +kernel)
/-- An operator's sign, its kind of node, what it makes of two numbers. -/
def sgB (i : Int) : ByteArray := if i = 0 then ⟨#[43]⟩ else if i = 1 then ⟨#[45]⟩ else if i = 2 then ⟨#[42]⟩ else if i = 3 then ⟨#[38]⟩ else if i = 4 then ⟨#[94]⟩ else ⟨#[124]⟩
def opN (i : Int) : Int := if i = 0 then 10 else if i = 1 then 11 else if i = 2 then 7 else if i = 3 then 14 else if i = 4 then 15 else 16
def valN (i x y : Int) : Int := if i = 0 then wrap64 (x + y) else if i = 1 then wrap64 (x - y) else if i = 2 then wrap64 (x * y) else if i = 3 then Go.bits .and .i64 x y else if i = 4 then Go.bits .xor .i64 x y else Go.bits .or .i64 x y
def bindN (i : Int) : Int := if i = 0 then 2 else if i = 1 then 2 else if i = 2 then 3 else if i = 3 then 1 else if i = 4 then 0 else -1
theorem reckon_f (i x y : Int) : linotypelaw23_reckon.f i x y = some (valN i x y) := by
  unfold linotypelaw23_reckon.f valN
  repeat (first | rfl | split)
def numT (a : Int) : Tk := ⟨2, a, ⟨#[]⟩, 0⟩
def sgT (s : ByteArray) : Tk := ⟨4, 0, s, 0⟩
def rowT (i k a b c : Int) : List Tk := [numT a, sgT (sgB i), numT b, sgT (sgB k), numT c]
def oneT (i k a b c : Int) : List Tk := [sgT ⟨#[40]⟩, numT a, sgT (sgB i), numT b, sgT ⟨#[41]⟩, sgT (sgB k), numT c]
def twoT (i k a b c : Int) : List Tk := [numT a, sgT (sgB i), sgT ⟨#[40]⟩, numT b, sgT (sgB k), numT c, sgT ⟨#[41]⟩]
def nN (a : Int) : Nd := ⟨1, a, ⟨#[]⟩, 0, 0⟩
def leftN (i k a b c : Int) : List Nd := [nN a, nN b, ⟨opN i, 0, ⟨#[]⟩, 0, 1⟩, nN c, ⟨opN k, 0, ⟨#[]⟩, 2, 3⟩]
def rightN (i k a b c : Int) : List Nd := [nN a, nN b, nN c, ⟨opN k, 0, ⟨#[]⟩, 1, 2⟩, ⟨opN i, 0, ⟨#[]⟩, 0, 3⟩]
theorem worth_of {l : List Tk} {x : List Nd} {w : Int} (hp : expr_Parse.f 40 l 0 = some (x, (l.length : Int), 0, 0)) (he : expr_Eval.f 40 x [] 3 4 = some (w, false, 0)) : Ev (fun k => linotypelaw23_worth.f k l w) true := by
  refine Ev.of (k := 40) (fun k => linotypelaw23_worth.mono _ _ k) ?_
  unfold linotypelaw23_worth.f
  rw [hp]
  simp only [Option.bind_some]
  rw [he]
  simp
theorem six (i : Int) (h0 : 0 ≤ i) (h1 : i < 6) : i = 0 ∨ i = 1 ∨ i = 2 ∨ i = 3 ∨ i = 4 ∨ i = 5 := by omega
theorem eval_left (i q a b c : Int) (hi0 : 0 ≤ i) (hi1 : i < 6) (hq0 : 0 ≤ q) (hq1 : q < 6) : expr_Eval.f 40 (leftN i q a b c) [] 3 4 = some (valN q (valN i a b) c, false, 0) := by
  rcases six i hi0 hi1 with rfl | rfl | rfl | rfl | rfl | rfl <;> rcases six q hq0 hq1 with rfl | rfl | rfl | rfl | rfl | rfl <;> kernel_rfl
theorem eval_right (i q a b c : Int) (hi0 : 0 ≤ i) (hi1 : i < 6) (hq0 : 0 ≤ q) (hq1 : q < 6) : expr_Eval.f 40 (rightN i q a b c) [] 3 4 = some (valN i a (valN q b c), false, 0) := by
  rcases six i hi0 hi1 with rfl | rfl | rfl | rfl | rfl | rfl <;> rcases six q hq0 hq1 with rfl | rfl | rfl | rfl | rfl | rfl <;> kernel_rfl
theorem worth_one (i q : Int) (hi0 : 0 ≤ i) (hi1 : i < 6) (hq0 : 0 ≤ q) (hq1 : q < 6) (a b c : Int) : Ev (fun k => linotypelaw23_worth.f k (oneT i q a b c) (valN q (valN i a b) c)) true := by
  refine worth_of (x := leftN i q a b c) ?_ (eval_left i q a b c hi0 hi1 hq0 hq1)
  rcases six i hi0 hi1 with rfl | rfl | rfl | rfl | rfl | rfl <;> rcases six q hq0 hq1 with rfl | rfl | rfl | rfl | rfl | rfl <;> kernel_rfl
theorem worth_two (i q : Int) (hi0 : 0 ≤ i) (hi1 : i < 6) (hq0 : 0 ≤ q) (hq1 : q < 6) (a b c : Int) : Ev (fun k => linotypelaw23_worth.f k (twoT i q a b c) (valN i a (valN q b c))) true := by
  refine worth_of (x := rightN i q a b c) ?_ (eval_right i q a b c hi0 hi1 hq0 hq1)
  rcases six i hi0 hi1 with rfl | rfl | rfl | rfl | rfl | rfl <;> rcases six q hq0 hq1 with rfl | rfl | rfl | rfl | rfl | rfl <;> kernel_rfl
theorem worth_row_r (i q : Int) (hi0 : 0 ≤ i) (hi1 : i < 6) (hq0 : 0 ≤ q) (hq1 : q < 6) (hb : bindN q > bindN i) (a b c : Int) : Ev (fun k => linotypelaw23_worth.f k (rowT i q a b c) (valN i a (valN q b c))) true := by
  refine worth_of (x := rightN i q a b c) ?_ (eval_right i q a b c hi0 hi1 hq0 hq1)
  rcases six i hi0 hi1 with rfl | rfl | rfl | rfl | rfl | rfl <;> rcases six q hq0 hq1 with rfl | rfl | rfl | rfl | rfl | rfl <;> first | (exact absurd hb (by decide)) | kernel_rfl
theorem worth_row_l (i q : Int) (hi0 : 0 ≤ i) (hi1 : i < 6) (hq0 : 0 ≤ q) (hq1 : q < 6) (hb : ¬ bindN q > bindN i) (a b c : Int) : Ev (fun k => linotypelaw23_worth.f k (rowT i q a b c) (valN q (valN i a b) c)) true := by
  refine worth_of (x := leftN i q a b c) ?_ (eval_left i q a b c hi0 hi1 hq0 hq1)
  rcases six i hi0 hi1 with rfl | rfl | rfl | rfl | rfl | rfl <;> rcases six q hq0 hq1 with rfl | rfl | rfl | rfl | rfl | rfl <;> first | (exact absurd (show bindN _ > bindN _ by decide) hb) | kernel_rfl
theorem pick_ex (a : Int) : ∃ p, linotypekit_Pick.f a 6 = some p ∧ 0 ≤ p ∧ p < 6 := by
  have h1 : Int.tmod a 6 < 6 := Int.tmod_lt_of_pos a (by decide)
  have h2 : -6 < Int.tmod a 6 := Int.lt_tmod_of_pos a (by decide)
  unfold linotypekit_Pick.f
  rw [if_neg (by decide), if_neg (by decide)]
  by_cases c : Int.tmod a 6 < 0
  · rw [if_pos c]
    refine ⟨_, rfl, ?_⟩
    unfold wrap64
    omega
  · rw [if_neg c]
    exact ⟨_, rfl, by omega, h1⟩
theorem j0_eq (k : Nat) (i q a b c l r w : Int) : linotypelaw23_ExprSums.j0 (k + 1) true (rowT i q a b c) l r w = (linotypelaw23_worth.f k (rowT i q a b c) w).bind fun t => if t = true then ((linotypelaw23_worth.f k (oneT i q a b c) l).bind fun t => if t = true then ((linotypelaw23_worth.f k (twoT i q a b c) r).bind fun t => some t) else none) else none := by kernel_rfl
theorem sgB_eq (i : Int) (h0 : 0 ≤ i) (h1 : i < 6) : rdOf ByteArray.empty [(⟨#[43]⟩ : ByteArray), ⟨#[45]⟩, ⟨#[42]⟩, ⟨#[38]⟩, ⟨#[94]⟩, ⟨#[124]⟩] i = sgB i := by
  rcases six i h0 h1 with rfl | rfl | rfl | rfl | rfl | rfl <;> rfl
theorem bindN_eq (i : Int) (h0 : 0 ≤ i) (h1 : i < 6) : rd [2, 2, 3, 1, 0, (-1)] i = bindN i := by
  rcases six i h0 h1 with rfl | rfl | rfl | rfl | rfl | rfl <;> rfl
theorem ExprSums : linotypelaw23_ExprSums.Pure := by
  intro a b c i0 k0 _ _ _ _ _
  refine Ev.rounds (?_ : Ev (fun k => linotypelaw23_ExprSums.f k a b c i0 k0) true)
  unfold linotypelaw23_ExprSums.f
  obtain ⟨i, hi, hi0, hi1⟩ := pick_ex i0
  obtain ⟨q, hq, hq0, hq1⟩ := pick_ex k0
  refine Ev.bind awake23 ?_
  rw [hi, hq]
  simp only [Option.bind_some]
  have hlen : (([(⟨#[43]⟩ : ByteArray), ⟨#[45]⟩, ⟨#[42]⟩, ⟨#[38]⟩, ⟨#[94]⟩, ⟨#[124]⟩].length : Nat) : Int) = 6 := rfl
  have hlen2 : ((([2, 2, 3, 1, 0, (-1)] : List Int).length : Nat) : Int) = 6 := rfl
  have hfin : ∀ w : Int, Ev (fun k => linotypelaw23_worth.f k (rowT i q a b c) w) true → Ev (fun k => linotypelaw23_ExprSums.j0 k true (rowT i q a b c) (valN q (valN i a b) c) (valN i a (valN q b c)) w) true := by
    intro w hw
    refine Ev.step (fun k => j0_eq k i q a b c _ _ w) (Ev.bind hw (Ev.congr (fun k => if_pos rfl) (Ev.bind (worth_one i q hi0 hi1 hq0 hq1 a b c) (Ev.congr (fun k => if_pos rfl) (Ev.bind (worth_two i q hi0 hi1 hq0 hq1 a b c) (Ev.now true))))))
  refine Ev.congr (f := fun k => if bindN q > bindN i then linotypelaw23_ExprSums.j0 k true (rowT i q a b c) (valN q (valN i a b) c) (valN i a (valN q b c)) (valN i a (valN q b c)) else linotypelaw23_ExprSums.j0 k true (rowT i q a b c) (valN q (valN i a b) c) (valN i a (valN q b c)) (valN q (valN i a b) c)) (fun k => ?_) ?_
  · rw [if_pos hi0, if_pos (by rw [hlen]; exact hi1), if_pos hq0, if_pos (by rw [hlen]; exact hq1), sgB_eq i hi0 hi1, sgB_eq q hq0 hq1]
    unfold linotypelaw23_tokens.f
    simp only [Option.bind_some, reckon_f]
    rw [if_pos (by rw [hlen2]; exact hq1), if_pos (by rw [hlen2]; exact hi1), bindN_eq i hi0 hi1, bindN_eq q hq0 hq1]
    rfl
  · by_cases hb : bindN q > bindN i
    · exact Ev.congr (fun k => if_pos hb) (hfin _ (worth_row_r i q hi0 hi1 hq0 hq1 hb a b c))
    · exact Ev.congr (fun k => if_neg hb) (hfin _ (worth_row_l i q hi0 hi1 hq0 hq1 hb a b c))
end Go.Proofs.Ytjabjooephellaa.Pure
