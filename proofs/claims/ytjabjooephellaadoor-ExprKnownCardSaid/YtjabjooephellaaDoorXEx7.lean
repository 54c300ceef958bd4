-- PRINTED by print.py (a twelfth state) out of the translation. Not trusted: Lean checks it.
import Derived.Test.YtjabjooephellaaDoorXEx0
import Derived.Test.YtjabjooephellaaDoorXEx6
namespace Go.Proofs.YtjabjooephellaaDoor.XE
open Go.RowKit Go.Proofs.YtjabjooephellaaDoorW.PrintWords Go.Proofs.YtjabjooephellaaDoorW.PrintLast Go.Proofs.YtjabjooephellaaDoorW.PrintMore
attribute [local go_sem] max2_int min2_int max_two min_two max_three min_three max_four min_four   -- for this text's walks alone
set_option linter.unusedVariables false
set_option linter.unusedSimpArgs false

/-! ### literal_word: function 77 -/
theorem wp_scope_label {P : Program} {a : Act} {w : World} {Q : Exit → Act → World → Prop} {c R : Code} (l : Nat) (J : Act → World → Prop) (μ : Act → World → Nat) (hf : findLabel c l = some (.seq .skip R))
  (pass : ∀ a w, J a w → R.wp P (Exit.jump l (fun a' w' => J a' w' ∧ μ a' w' < μ a w) Q) a w)
  (first : Aside0 (∀ a w, J a w → R.wp P (Exit.jump l J Q) a w) → c.wp P (Exit.jump l J Q) a w) : (Code.scope c).wp P Q a w := by
 refine wp_scope_jumps l J μ hf (first ⟨fun a w hJ => Code.wp_mono (fun e a' w' h => ?_) (pass a w hJ)⟩) (fun a w hJ => wp_seq (wp_skip (Code.wp_mono (fun e a' w' h => ?_) (pass a w hJ))))
 ·cases e <;> first | exact h | exact ⟨h.1, h.2.1⟩
 ·cases e <;> exact h

def litValue (c : Int) : Int :=
 if 48 ≤ c ∧ c ≤ 57 then c - 48
 else if 97 ≤ Go.bits .or .u8 c 32 ∧ Go.bits .or .u8 c 32 ≤ 102 then Go.bits .or .u8 c 32 - 97 + 10 else 99
theorem litValue_f (c : Int) (h0 : 0 ≤ c) (h1 : c ≤ 255) : literal_value.f c = some (litValue c) := by
 have e1 : 48 ≤ c → c ≤ 57 → (c - 48) % 256 = c - 48 := fun h h' => Int.emod_eq_of_lt (by omega) (by omega)
 have e2 : 97 ≤ Go.bits .or .u8 c 32 → Go.bits .or .u8 c 32 ≤ 102 → (Go.bits .or .u8 c 32 - 97) % 256 = Go.bits .or .u8 c 32 - 97 := fun h h' => Int.emod_eq_of_lt (by omega) (by omega)
 unfold literal_value.f literal_digit.f litValue
 by_cases d0 : 48 ≤ c <;> by_cases d1 : c ≤ 57 <;> by_cases d2 : 97 ≤ Go.bits .or .u8 c 32 <;> by_cases d3 : Go.bits .or .u8 c 32 ≤ 102 <;> simp [d0, d1, d2, d3]
 all_goals first | exact e1 d0 d1 | (have := e2 d2 d3; omega)
theorem litValue_bd (c : Int) : 0 ≤ litValue c ∧ litValue c ≤ 99 := by
 unfold litValue
 split
 ·omega
 ·split <;> omega
theorem mul64_f (x y : Int) (hx0 : 0 ≤ x) (hx : x < 18446744073709551616) (hy0 : 0 ≤ y) (hy : y < 18446744073709551616) :
  bits_Mul64.f x y = some (x * y / 18446744073709551616, x * y % 18446744073709551616) := by
 have h := mul64_arith x y hx0 hx hy0 hy
 unfold bits_Mul64.f
 have w : ∀ z : Int, IntKind.u64.wrap z = z % 18446744073709551616 := fun z => rfl
 rw [and_low32 x hx0 hx, and_low32 y hy0 hy]
 simp only [w]
 rw [and_low32 _ (by omega) (by omega)]
 rw [h]

def wordL (s : ByteArray) (a1 base low : Int) : Nat → Int → Bool → Int → Int × Int × Int
 | 0, _, over, n => if over = true then (0, 5, a1) else (wrap64 n, 0, 0)
 | d + 1, i, over, n =>
  if bt s i = 95 then
   if i = low ∨ d = 0 ∨ bt s (i - 1) = 95 then (0, 4, a1 + i) else wordL s a1 base low d (i + 1) over n
  else if base ≤ litValue (bt s i) then (0, 4, a1 + i)
  else wordL s a1 base low d (i + 1) (over || (decide (0 < n * base / 18446744073709551616) || decide (0 < (n * base % 18446744073709551616 + litValue (bt s i)) / 18446744073709551616))) ((n * base % 18446744073709551616 + litValue (bt s i)) % 18446744073709551616)
def wordOf (s : ByteArray) (a1 : Int) : Int × Int × Int :=
 if (shapeOf s).2.1 = (shapeOf s).2.2 then (0, 4, a1 + (shapeOf s).2.2)
 else wordL s a1 (shapeOf s).1 (shapeOf s).2.1 ((shapeOf s).2.2 - (shapeOf s).2.1).toNat (shapeOf s).2.1 false 0
def literal_word.f (a0 : ByteArray) (a1 : Int) : Option (Int × Int × Int) :=
 if 0 < a0.size ∧ a0.size ≤ 1073741824 ∧ 0 ≤ a1 ∧ a1 ≤ 1073741824 then some (wordOf a0 a1) else none
theorem shapeOf_bd (s : ByteArray) (hs : 0 < s.size) : 2 ≤ (shapeOf s).1 ∧ (shapeOf s).1 ≤ 16 ∧ 0 ≤ (shapeOf s).2.1 ∧ (shapeOf s).2.1 ≤ (shapeOf s).2.2 ∧ (shapeOf s).2.2 ≤ s.size := by
 have two : ∀ c, litTwo s c = true → 2 < s.size := by
  intro c h
  simp only [litTwo, Bool.and_eq_true, decide_eq_true_eq] at h
  exact h.1
 unfold shapeOf
 split
 ·rename_i h; have := two _ h; simp only; omega
 ·split
  ·simp only; omega
  ·split
   ·rename_i h; have := two _ h; simp only; omega
   ·split
    ·rename_i h; have := two _ h; simp only; omega
    ·simp only; omega

theorem add64_any (x y : Int) (hx : 0 ≤ x) (hy : 0 ≤ y) : ∀ W : World, (callFunc 94 #[.int .u64 x, .int .u64 y, .int .u64 0]).run Tryd.prog W = .ok (.value (.tuple #[.int .u64 ((x + y) % 18446744073709551616), .int .u64 ((x + y) / 18446744073709551616)])) W := by
 intro W
 rw [run_callFunc_extern Tryd.func94 (by kernel_rfl) (by kernel_rfl) (by kernel_rfl) (e := add64Entry) (by kernel_rfl), run_add64 x y 0 hx hy (by decide) (by decide)]
 simp only [Result.andThen, Int.add_zero]
def WordJ (w : World) (g : Nat) (a0 : ByteArray) (a1 base high low : Int) (r : Int × Int × Int) (a' : Act) (w' : World) : Prop :=
 ∃ (i n : Int) (over : Bool) (u : Nat → Value), a' = ⟨#[.string a0, .int .i64 a1, undef, undef, .int .i64 0, .pointer (some ⟨g, 0, none⟩), .int .i64 base, .int .i64 i, .int .i64 high, .int .i64 low, .bool over, .int .u64 n, u 12, u 13, u 14, u 15, u 16, u 17, u 18, u 19, u 20, u 21, u 22, u 23, u 24, u 25, u 26, u 27, u 28, u 29, u 30, u 31, u 32, u 33, u 34, u 35, u 36, u 37, u 38, u 39, u 40, u 41, u 42, u 43, u 44, u 45, u 46, u 47, u 48, u 49, u 50, u 51, u 52, u 53, u 54, u 55, u 56, u 57, u 58, u 59, u 60, u 61, u 62, u 63, u 64, u 65, u 66, u 67, u 68, u 69, u 70, u 71, u 72, u 73, u 74, u 75, u 76, u 77, u 78, u 79, u 80, u 81, u 82, u 83, u 84, u 85, u 86, u 87, u 88, u 89, u 90, u 91, u 92, u 93, u 94, u 95, u 96, u 97, u 98, u 99, u 100, u 101, u 102], []⟩ ∧
  w'.heap[g]? = some (.cells #[.int .i64 0, .int .i64 0] 32) ∧ Below w.heap.size w w' ∧ low ≤ i ∧ i ≤ high ∧ 0 ≤ n ∧ n < 18446744073709551616 ∧ wordL a0 a1 base low (high - i).toNat i over n = r
def wordMu (a' : Act) (_ : World) : Nat := (match a'.tmps.getD 8 undef, a'.tmps.getD 7 undef with | .int _ h, .int _ i => (h - i).toNat | _, _ => 0)
theorem WordJ.mk' {w : World} {g : Nat} {a0 : ByteArray} {a1 base high low : Int} {r : Int × Int × Int} {a' : Act} {w' : World} (i n : Int) (over : Bool)
  (ha : a' = ⟨#[.string a0, .int .i64 a1, undef, undef, .int .i64 0, .pointer (some ⟨g, 0, none⟩), .int .i64 base, .int .i64 i, .int .i64 high, .int .i64 low, .bool over, .int .u64 n, a'.tmps.getD 12 undef, a'.tmps.getD 13 undef, a'.tmps.getD 14 undef, a'.tmps.getD 15 undef, a'.tmps.getD 16 undef, a'.tmps.getD 17 undef, a'.tmps.getD 18 undef, a'.tmps.getD 19 undef, a'.tmps.getD 20 undef, a'.tmps.getD 21 undef, a'.tmps.getD 22 undef, a'.tmps.getD 23 undef, a'.tmps.getD 24 undef, a'.tmps.getD 25 undef, a'.tmps.getD 26 undef, a'.tmps.getD 27 undef, a'.tmps.getD 28 undef, a'.tmps.getD 29 undef, a'.tmps.getD 30 undef, a'.tmps.getD 31 undef, a'.tmps.getD 32 undef, a'.tmps.getD 33 undef, a'.tmps.getD 34 undef, a'.tmps.getD 35 undef, a'.tmps.getD 36 undef, a'.tmps.getD 37 undef, a'.tmps.getD 38 undef, a'.tmps.getD 39 undef, a'.tmps.getD 40 undef, a'.tmps.getD 41 undef, a'.tmps.getD 42 undef, a'.tmps.getD 43 undef, a'.tmps.getD 44 undef, a'.tmps.getD 45 undef, a'.tmps.getD 46 undef, a'.tmps.getD 47 undef, a'.tmps.getD 48 undef, a'.tmps.getD 49 undef, a'.tmps.getD 50 undef, a'.tmps.getD 51 undef, a'.tmps.getD 52 undef, a'.tmps.getD 53 undef, a'.tmps.getD 54 undef, a'.tmps.getD 55 undef, a'.tmps.getD 56 undef, a'.tmps.getD 57 undef, a'.tmps.getD 58 undef, a'.tmps.getD 59 undef, a'.tmps.getD 60 undef, a'.tmps.getD 61 undef, a'.tmps.getD 62 undef, a'.tmps.getD 63 undef, a'.tmps.getD 64 undef, a'.tmps.getD 65 undef, a'.tmps.getD 66 undef, a'.tmps.getD 67 undef, a'.tmps.getD 68 undef, a'.tmps.getD 69 undef, a'.tmps.getD 70 undef, a'.tmps.getD 71 undef, a'.tmps.getD 72 undef, a'.tmps.getD 73 undef, a'.tmps.getD 74 undef, a'.tmps.getD 75 undef, a'.tmps.getD 76 undef, a'.tmps.getD 77 undef, a'.tmps.getD 78 undef, a'.tmps.getD 79 undef, a'.tmps.getD 80 undef, a'.tmps.getD 81 undef, a'.tmps.getD 82 undef, a'.tmps.getD 83 undef, a'.tmps.getD 84 undef, a'.tmps.getD 85 undef, a'.tmps.getD 86 undef, a'.tmps.getD 87 undef, a'.tmps.getD 88 undef, a'.tmps.getD 89 undef, a'.tmps.getD 90 undef, a'.tmps.getD 91 undef, a'.tmps.getD 92 undef, a'.tmps.getD 93 undef, a'.tmps.getD 94 undef, a'.tmps.getD 95 undef, a'.tmps.getD 96 undef, a'.tmps.getD 97 undef, a'.tmps.getD 98 undef, a'.tmps.getD 99 undef, a'.tmps.getD 100 undef, a'.tmps.getD 101 undef, a'.tmps.getD 102 undef], []⟩)
  (bk : w'.heap[g]? = some (.cells #[.int .i64 0, .int .i64 0] 32)) (hb : Below w.heap.size w w') (h1 : low ≤ i) (h2 : i ≤ high) (h3 : 0 ≤ n) (h4 : n < 18446744073709551616) (h5 : wordL a0 a1 base low (high - i).toNat i over n = r) :
  WordJ w g a0 a1 base high low r a' w' := ⟨i, n, over, fun k => a'.tmps.getD k undef, ha, bk, hb, h1, h2, h3, h4, h5⟩
set_option maxHeartbeats 8000000 in
set_option maxRecDepth 1000000 in
theorem literal_word.calls (a0 : ByteArray) (a1 r1 r2 r3 : Int) (w : World) (h : literal_word.f a0 a1 = some (r1, r2, r3)) :
  Calls Tryd.prog 77 #[.string a0, .int .i64 a1] w fun e w' => e = .returned (.tuple #[.int .i64 r1, .agg #[.int .i64 r2, .int .i64 r3]]) ∧ Below w.heap.size w w' := by
 have hu27 := Tryd.underlying32
 unfold literal_word.f at h
 by_cases hs : 0 < a0.size ∧ a0.size ≤ 1073741824 ∧ 0 ≤ a1 ∧ a1 ≤ 1073741824
 ·rw [if_pos hs] at h
  obtain ⟨hs0, hs1, ha0, ha1⟩ := hs
  replace h := Option.some.inj h
  have hbd := shapeOf_bd a0 hs0
  have hsh : literal_shape.f a0 = some ((shapeOf a0).1, (shapeOf a0).2.1, (shapeOf a0).2.2) := by unfold literal_shape.f; rw [if_pos ⟨hs0, by omega⟩]
  unfold wordOf at h
  generalize (shapeOf a0).1 = base at *
  generalize (shapeOf a0).2.1 = low at *
  generalize (shapeOf a0).2.2 = high at *
  obtain ⟨b1, b2, b3, b4, b5⟩ := hbd
  have HSH := Aside0.mk hsh
  have H := Aside0.mk h
  clear h hsh
  go_enter Tryd.func77, Tryd.ntmps77
  go_wp2
  refine wp_scope_label 0 (WordJ w w.heap.size a0 a1 base high low (r1, r2, r3)) wordMu rfl ?pass ?first
  case first =>
   intro HR
   have ARM : ∀ e w1, e = Ending.returned (.tuple #[.int .i64 base, .int .i64 low, .int .i64 high]) ∧ Below (w.alloc (.cells #[.int .i64 0, .int .i64 0] 32)).heap.size (w.alloc (.cells #[.int .i64 0, .int .i64 0] 32)) w1 → w1.heap[w.heap.size]? = some (.cells #[.int .i64 0, .int .i64 0] 32) ∧ Below w.heap.size w w1 := by
    rintro e w1 ⟨_, hb1⟩
    refine ⟨blk_below (blk_new w _) hb1, ?_⟩
    exact below_then ((Below.refl _ _).alloc (Nat.le_refl _) _) (by simp) hb1
   have ARM' := Aside0.mk ARM
   clear ARM
   by_cases hlh : low = high
   ·have t1 : (low == high) = true := beq_iff_eq.2 hlh
    have hr := H.out
    rw [if_pos hlh] at hr
    injection hr with e1 hr
    injection hr with e2 e3
    subst e1; subst e2; subst e3
    clear hlh
    go_wp2_with (go_at_call 91; refine (literal_shape.calls a0 base low high _ HSH.out).mono ?_; rintro e w1 hew; have BK := Aside0.mk (ARM'.out e w1 hew).1; have HB := Aside0.mk (ARM'.out e w1 hew).2; obtain ⟨rfl, _⟩ := hew; have hc0 : w1.cell? ⟨w.heap.size, 0, none⟩ = some (.int .i64 0) := (blk_cell BK.out 0).trans rfl; have hc1 : w1.cell? ⟨w.heap.size, 1, none⟩ = some (.int .i64 0) := (blk_cell BK.out 1).trans rfl; have hf0 := blk_frozen BK.out 0; have hf1 := blk_frozen BK.out 1)
    (try simp only [Exit.jump])
    refine bodyPost_ret (results_tc rfl _ _ w.heap.size 32 #[.int .i64 4, .int .i64 (a1 + high)] (0, 0) _ rfl (by (with_reducible repeat (first | refine blk_drewN ?_ _ | refine blk_drew ?_ | refine blk_alloc ?_ _)); refine blk_put (cs := #[.int .i64 4, .int .i64 0]) ?_ 1 _ rfl; (with_reducible repeat (first | refine blk_drewN ?_ _ | refine blk_drew ?_ | refine blk_alloc ?_ _)); refine blk_put (cs := #[.int .i64 0, .int .i64 0]) ?_ 0 _ rfl; (with_reducible repeat (first | refine blk_drewN ?_ _ | refine blk_drew ?_ | refine blk_alloc ?_ _)); exact BK.out) hu27 rfl (by kernel_rfl)) rfl ?_
    exact ⟨by first | rfl | (simp; done), by repeat (first | (with_reducible first | exact HB.out | apply below_alloc | apply pw_below_drewN | apply below_drew1 | refine below_set ?_ (Nat.le_refl _)) | exact HB.out)⟩
   ·have t1 : (low == high) = false := beq_eq_false_iff_ne.2 hlh
    have hr := H.out
    rw [if_neg hlh] at hr
    have HR2 := Aside0.mk hr
    clear hlh hr
    go_wp2_with (go_at_call 91; refine (literal_shape.calls a0 base low high _ HSH.out).mono ?_; rintro e w1 hew; have BK := Aside0.mk (ARM'.out e w1 hew).1; have HB := Aside0.mk (ARM'.out e w1 hew).2; obtain ⟨rfl, _⟩ := hew)
    go_step3
    simp only [Exit.then]
    refine ‹∀ (a : Act) (w_1 : World), _ → _› _ _ (HR.out _ _ ?_)
    exact WordJ.mk' low 0 false rfl BK.out HB.out (Int.le_refl _) b4 (Int.le_refl _) (by decide) HR2.out
  case pass =>
   intro a' w' hJ
   obtain ⟨i, n, over, u, rfl, bk, hb, i1, i2, n1, n2, hr⟩ := hJ
   have BK := Aside0.mk bk
   have HB := Aside0.mk hb
   have hc0 : w'.cell? ⟨w.heap.size, 0, none⟩ = some (.int .i64 0) := (blk_cell BK.out 0).trans rfl
   have hc1 : w'.cell? ⟨w.heap.size, 1, none⟩ = some (.int .i64 0) := (blk_cell BK.out 1).trans rfl
   have hf0 := blk_frozen BK.out 0
   have hf1 := blk_frozen BK.out 1
   have HR := Aside0.mk hr
   clear bk hb hr HSH H
   by_cases hih : i = high
   ·have t1 : (i == high) = true := beq_iff_eq.2 hih
    have hr := HR.out
    rw [show (high - i).toNat = 0 from by omega] at hr
    simp only [wordL] at hr
    clear hih HR
    cases over with
    | false =>
     rw [if_neg (by decide)] at hr
     injection hr with e1 hr
     injection hr with e2 e3
     subst e1; subst e2; subst e3
     go_wp2
     (try simp only [Exit.jump])
     refine bodyPost_ret (results_tc rfl _ _ w.heap.size 32 #[.int .i64 0, .int .i64 0] (0, 0) _ rfl (by (with_reducible repeat (first | refine blk_drewN ?_ _ | refine blk_drew ?_ | refine blk_alloc ?_ _)); refine blk_put (cs := #[.int .i64 0, .int .i64 0]) ?_ 1 _ rfl; (with_reducible repeat (first | refine blk_drewN ?_ _ | refine blk_drew ?_ | refine blk_alloc ?_ _)); refine blk_put (cs := #[.int .i64 0, .int .i64 0]) ?_ 0 _ rfl; (with_reducible repeat (first | refine blk_drewN ?_ _ | refine blk_drew ?_ | refine blk_alloc ?_ _)); exact BK.out) hu27 rfl (by kernel_rfl)) rfl ?_
     exact ⟨by first | rfl | (simp; done), by repeat (first | (with_reducible first | exact HB.out | apply below_alloc | apply pw_below_drewN | apply below_drew1 | refine below_set ?_ (Nat.le_refl _)) | exact HB.out)⟩
    | true =>
     rw [if_pos rfl] at hr
     injection hr with e1 hr
     injection hr with e2 e3
     subst e1; subst e2; subst e3
     go_wp2
     (try simp only [Exit.jump])
     refine bodyPost_ret (results_tc rfl _ _ w.heap.size 32 #[.int .i64 5, .int .i64 a1] (0, 0) _ rfl (by (with_reducible repeat (first | refine blk_drewN ?_ _ | refine blk_drew ?_ | refine blk_alloc ?_ _)); refine blk_put (cs := #[.int .i64 5, .int .i64 0]) ?_ 1 _ rfl; (with_reducible repeat (first | refine blk_drewN ?_ _ | refine blk_drew ?_ | refine blk_alloc ?_ _)); refine blk_put (cs := #[.int .i64 0, .int .i64 0]) ?_ 0 _ rfl; (with_reducible repeat (first | refine blk_drewN ?_ _ | refine blk_drew ?_ | refine blk_alloc ?_ _)); exact BK.out) hu27 rfl (by kernel_rfl)) rfl ?_
     exact ⟨by first | rfl | (simp; done), by repeat (first | (with_reducible first | exact HB.out | apply below_alloc | apply pw_below_drewN | apply below_drew1 | refine below_set ?_ (Nat.le_refl _)) | exact HB.out)⟩
   ·have t1 : (i == high) = false := beq_eq_false_iff_ne.2 hih
    obtain ⟨d, hd⟩ : ∃ d, (high - i).toNat = d + 1 := ⟨(high - i).toNat - 1, by omega⟩
    have hd' : (high - (i + 1)).toNat = d := by omega
    have hmu : (high - (i + 1)).toNat < (high - i).toNat := by omega
    have HMU := Aside0.mk hmu
    have hr := HR.out
    rw [hd] at hr
    simp only [wordL] at hr
    have hx := bt_at a0 i
    have hi0 : 0 ≤ i := by omega
    have hi1 : i < (a0.size : Int) := by omega
    have hi2 : i < high := by omega
    have p5 := eq_true hi0
    have q5 := eq_true hi1
    have bd := bt_range a0 i
    have HD := Aside0.mk hd'
    clear hih HR hd hd' hmu
    by_cases h95 : bt a0 i = 95
    ·have t2 : (bt a0 i == 95) = true := beq_iff_eq.2 h95
     rw [if_pos h95] at hr
     clear h95
     by_cases hil : i = low
     ·have t3 : (i == low) = true := beq_iff_eq.2 hil
      rw [if_pos (Or.inl hil)] at hr
      injection hr with e1 hr
      injection hr with e2 e3
      subst e1; subst e2; subst e3
      clear hil
      go_wp2
      (try simp only [Exit.jump])
      refine bodyPost_ret (results_tc rfl _ _ w.heap.size 32 #[.int .i64 4, .int .i64 (a1 + i)] (0, 0) _ rfl (by (with_reducible repeat (first | refine blk_drewN ?_ _ | refine blk_drew ?_ | refine blk_alloc ?_ _)); refine blk_put (cs := #[.int .i64 4, .int .i64 0]) ?_ 1 _ rfl; (with_reducible repeat (first | refine blk_drewN ?_ _ | refine blk_drew ?_ | refine blk_alloc ?_ _)); refine blk_put (cs := #[.int .i64 0, .int .i64 0]) ?_ 0 _ rfl; (with_reducible repeat (first | refine blk_drewN ?_ _ | refine blk_drew ?_ | refine blk_alloc ?_ _)); exact BK.out) hu27 rfl (by kernel_rfl)) rfl ?_
      exact ⟨by first | rfl | (simp; done), by repeat (first | (with_reducible first | exact HB.out | apply below_alloc | apply pw_below_drewN | apply below_drew1 | refine below_set ?_ (Nat.le_refl _)) | exact HB.out)⟩
     ·have t3 : (i == low) = false := beq_eq_false_iff_ne.2 hil
      by_cases hd0 : i + 1 = high
      ·have t4 : (i + 1 == high) = true := beq_iff_eq.2 hd0
       rw [if_pos (Or.inr (Or.inl (by have := HD.out; omega)))] at hr
       injection hr with e1 hr
       injection hr with e2 e3
       subst e1; subst e2; subst e3
       clear hil hd0
       go_wp2
       (try simp only [Exit.jump])
       refine bodyPost_ret (results_tc rfl _ _ w.heap.size 32 #[.int .i64 4, .int .i64 (a1 + i)] (0, 0) _ rfl (by (with_reducible repeat (first | refine blk_drewN ?_ _ | refine blk_drew ?_ | refine blk_alloc ?_ _)); refine blk_put (cs := #[.int .i64 4, .int .i64 0]) ?_ 1 _ rfl; (with_reducible repeat (first | refine blk_drewN ?_ _ | refine blk_drew ?_ | refine blk_alloc ?_ _)); refine blk_put (cs := #[.int .i64 0, .int .i64 0]) ?_ 0 _ rfl; (with_reducible repeat (first | refine blk_drewN ?_ _ | refine blk_drew ?_ | refine blk_alloc ?_ _)); exact BK.out) hu27 rfl (by kernel_rfl)) rfl ?_
       exact ⟨by first | rfl | (simp; done), by repeat (first | (with_reducible first | exact HB.out | apply below_alloc | apply pw_below_drewN | apply below_drew1 | refine below_set ?_ (Nat.le_refl _)) | exact HB.out)⟩
      ·have t4 : (i + 1 == high) = false := beq_eq_false_iff_ne.2 hd0
       have hx2 : ∀ h : i.toNat - 1 < a0.size, ((a0[i.toNat - 1]'h).toNat : Int) = bt a0 (i - 1) := by
        have e : (i - 1).toNat = i.toNat - 1 := by omega
        have z := bt_at a0 (i - 1)
        simp only [e] at z
        exact z
       have hi3 : 0 ≤ i - 1 := by omega
       have hi4 : i - 1 < (a0.size : Int) := by omega
       have hi5 : 1 ≤ i := by omega
       by_cases hp : bt a0 (i - 1) = 95
       ·have t5 : (bt a0 (i - 1) == 95) = true := beq_iff_eq.2 hp
        rw [if_pos (Or.inr (Or.inr hp))] at hr
        injection hr with e1 hr
        injection hr with e2 e3
        subst e1; subst e2; subst e3
        clear hil hd0 hp
        go_wp2
        (try simp only [Exit.jump])
        refine bodyPost_ret (results_tc rfl _ _ w.heap.size 32 #[.int .i64 4, .int .i64 (a1 + i)] (0, 0) _ rfl (by (with_reducible repeat (first | refine blk_drewN ?_ _ | refine blk_drew ?_ | refine blk_alloc ?_ _)); refine blk_put (cs := #[.int .i64 4, .int .i64 0]) ?_ 1 _ rfl; (with_reducible repeat (first | refine blk_drewN ?_ _ | refine blk_drew ?_ | refine blk_alloc ?_ _)); refine blk_put (cs := #[.int .i64 0, .int .i64 0]) ?_ 0 _ rfl; (with_reducible repeat (first | refine blk_drewN ?_ _ | refine blk_drew ?_ | refine blk_alloc ?_ _)); exact BK.out) hu27 rfl (by kernel_rfl)) rfl ?_
        exact ⟨by first | rfl | (simp; done), by repeat (first | (with_reducible first | exact HB.out | apply below_alloc | apply pw_below_drewN | apply below_drew1 | refine below_set ?_ (Nat.le_refl _)) | exact HB.out)⟩
       ·have t5 : (bt a0 (i - 1) == 95) = false := beq_eq_false_iff_ne.2 hp
        rw [if_neg (by have := HD.out; rintro (q | q | q); exact hil q; omega; exact hp q)] at hr
        have HR2 := Aside0.mk hr
        clear hil hd0 hp hr
        go_wp2
        go_step3
        exact ⟨rfl, WordJ.mk' (i + 1) n over rfl BK.out HB.out (by omega) (by omega) n1 n2 (by rw [HD.out]; exact HR2.out), HMU.out⟩
    ·have t2 : (bt a0 i == 95) = false := beq_eq_false_iff_ne.2 h95
     rw [if_neg h95] at hr
     clear h95
     have hv := litValue_f (bt a0 i) bd.1 bd.2
     have hvb := litValue_bd (bt a0 i)
     generalize litValue (bt a0 i) = v at *
     have HV := Aside0.mk hv
     obtain ⟨v0, v1⟩ := hvb
     clear hv
     by_cases hge : base ≤ v
     ·rw [if_pos hge] at hr
      injection hr with e1 hr
      injection hr with e2 e3
      subst e1; subst e2; subst e3
      go_wp2_with (go_at_call 92; refine (literal_value.calls _ v _ HV.out).mono ?_; rintro e w2 ⟨rfl, ⟨nd, rfl⟩⟩)
      (try simp only [Exit.jump])
      refine bodyPost_ret (results_tc rfl _ _ w.heap.size 32 #[.int .i64 4, .int .i64 (a1 + i)] (0, 0) _ rfl (by (with_reducible repeat (first | refine blk_drewN ?_ _ | refine blk_drew ?_ | refine blk_alloc ?_ _)); refine blk_put (cs := #[.int .i64 4, .int .i64 0]) ?_ 1 _ rfl; (with_reducible repeat (first | refine blk_drewN ?_ _ | refine blk_drew ?_ | refine blk_alloc ?_ _)); refine blk_put (cs := #[.int .i64 0, .int .i64 0]) ?_ 0 _ rfl; (with_reducible repeat (first | refine blk_drewN ?_ _ | refine blk_drew ?_ | refine blk_alloc ?_ _)); exact BK.out) hu27 rfl (by kernel_rfl)) rfl ?_
      exact ⟨by first | rfl | (simp; done), by repeat (first | (with_reducible first | exact HB.out | apply below_alloc | apply pw_below_drewN | apply below_drew1 | refine below_set ?_ (Nat.le_refl _)) | exact HB.out)⟩
     ·rw [if_neg hge] at hr
      have hmul := mul64_f n base n1 n2 (by omega) (by omega)
      have l0 : 0 ≤ n * base % 18446744073709551616 := Int.emod_nonneg _ (by decide)
      have l1 : n * base % 18446744073709551616 < 18446744073709551616 := Int.emod_lt_of_pos _ (by decide)
      have HR2 := Aside0.mk hr
      clear hr
      generalize n * base / 18446744073709551616 = hi at *
      generalize n * base % 18446744073709551616 = lo at *
      have hadd := add64_any lo v l0 v0
      have s0 : 0 ≤ (lo + v) % 18446744073709551616 := Int.emod_nonneg _ (by decide)
      have s1 : (lo + v) % 18446744073709551616 < 18446744073709551616 := Int.emod_lt_of_pos _ (by decide)
      generalize (lo + v) % 18446744073709551616 = sm at *
      generalize (lo + v) / 18446744073709551616 = cy at *
      have HM := Aside0.mk hmul
      have S0 := Aside0.mk s0
      have S1 := Aside0.mk s1
      clear hmul l0 l1 s0 s1
      cases over with
      | true =>
       go_wp2_with (first | (go_at_call 92; refine (literal_value.calls _ v _ HV.out).mono ?_; rintro e w2 ⟨rfl, ⟨nd, rfl⟩⟩) | (go_at_call 93; refine (bits_Mul64.calls n base _ _ _ HM.out).mono ?_; rintro e w2 ⟨rfl, ⟨nd, rfl⟩⟩))
       go_step3
       exact ⟨rfl, WordJ.mk' (i + 1) sm true rfl (by first | exact BK.out | (repeat (first | exact BK.out | refine blk_drewN ?_ _))) (by first | exact HB.out | (repeat (first | exact HB.out | apply pw_below_drewN))) (by omega) (by omega) S0.out S1.out (by rw [HD.out]; have z := HR2.out; exact z), HMU.out⟩
      | false =>
       by_cases g1 : 0 < hi
       ·have g1' : decide (0 < hi) = true := decide_eq_true g1
        clear g1
        go_wp2_with (first | (go_at_call 92; refine (literal_value.calls _ v _ HV.out).mono ?_; rintro e w2 ⟨rfl, ⟨nd, rfl⟩⟩) | (go_at_call 93; refine (bits_Mul64.calls n base _ _ _ HM.out).mono ?_; rintro e w2 ⟨rfl, ⟨nd, rfl⟩⟩))
        go_step3
        exact ⟨rfl, WordJ.mk' (i + 1) sm true rfl (by first | exact BK.out | (repeat (first | exact BK.out | refine blk_drewN ?_ _))) (by first | exact HB.out | (repeat (first | exact HB.out | apply pw_below_drewN))) (by omega) (by omega) S0.out S1.out (by rw [HD.out]; have z := HR2.out; rw [g1'] at z; exact z), HMU.out⟩
       ·have g1' : decide (0 < hi) = false := decide_eq_false g1
        clear g1
        by_cases g2 : 0 < cy
        ·have g2' : decide (0 < cy) = true := decide_eq_true g2
         clear g2
         go_wp2_with (first | (go_at_call 92; refine (literal_value.calls _ v _ HV.out).mono ?_; rintro e w2 ⟨rfl, ⟨nd, rfl⟩⟩) | (go_at_call 93; refine (bits_Mul64.calls n base _ _ _ HM.out).mono ?_; rintro e w2 ⟨rfl, ⟨nd, rfl⟩⟩))
         go_step3
         exact ⟨rfl, WordJ.mk' (i + 1) sm true rfl (by first | exact BK.out | (repeat (first | exact BK.out | refine blk_drewN ?_ _))) (by first | exact HB.out | (repeat (first | exact HB.out | apply pw_below_drewN))) (by omega) (by omega) S0.out S1.out (by rw [HD.out]; have z := HR2.out; rw [g1', g2'] at z; exact z), HMU.out⟩
        ·have g2' : decide (0 < cy) = false := decide_eq_false g2
         clear g2
         go_wp2_with (first | (go_at_call 92; refine (literal_value.calls _ v _ HV.out).mono ?_; rintro e w2 ⟨rfl, ⟨nd, rfl⟩⟩) | (go_at_call 93; refine (bits_Mul64.calls n base _ _ _ HM.out).mono ?_; rintro e w2 ⟨rfl, ⟨nd, rfl⟩⟩))
         go_step3
         exact ⟨rfl, WordJ.mk' (i + 1) sm false rfl (by first | exact BK.out | (repeat (first | exact BK.out | refine blk_drewN ?_ _))) (by first | exact HB.out | (repeat (first | exact HB.out | apply pw_below_drewN))) (by omega) (by omega) S0.out S1.out (by rw [HD.out]; have z := HR2.out; rw [g1', g2'] at z; exact z), HMU.out⟩
 ·rw [if_neg hs] at h
  cases h

/-! ### literal_Scan: function 55 -/
mutual
def literal_Scan.j0 : Nat → ByteArray → Int → Bool → Option (Int × Int × Int × Int)
 | 0, _, _, _ => none
 | k + 1, x0, x1, x14 => if x14 = true then ((literal_text.f k x0 x1).bind fun bt122 => (some (bt122.1, bt122.2.1, bt122.2.2.1, bt122.2.2.2))) else (if x1 ≥ (x0.size : Int) then (some (0, 0, 6, x1)) else (if 0 ≤ x1 then (if x1 < (x0.size : Int) then ((literal_digit.f (bt x0 x1)).bind fun t126 => (if t126 = true then (literal_Scan.l0 k x0 x1 x1) else (some (0, 0, 6, x1)))) else (none)) else (none)))
def literal_Scan.l0 : Nat → ByteArray → Int → Int → Option (Int × Int × Int × Int)
 | 0, _, _, _ => none
 | k + 1, x0, x1, x7 => if x7 < (x0.size : Int) then (if 0 ≤ x7 then ((literal_letter.f (bt x0 x7)).bind fun t127 => (if t127 = true then (literal_Scan.l0 k x0 x1 (wrap64 (x7 + 1))) else (if 0 ≤ x1 then (if x1 ≤ x7 then (if x7 ≤ (x0.size : Int) then ((literal_word.f (x0.extract (x1 : Int).toNat (x7 : Int).toNat) x1).bind fun bt128 => (if bt128.2.1 = 0 then (some (bt128.1, x7, 0, 0)) else (some (0, 0, bt128.2.1, bt128.2.2)))) else (none)) else (none)) else (none)))) else (none)) else (if 0 ≤ x1 then (if x1 ≤ x7 then (if x7 ≤ (x0.size : Int) then ((literal_word.f (x0.extract (x1 : Int).toNat (x7 : Int).toNat) x1).bind fun bt132 => (if bt132.2.1 = 0 then (some (bt132.1, x7, 0, 0)) else (some (0, 0, bt132.2.1, bt132.2.2)))) else (none)) else (none)) else (none))
end
def literal_Scan.f (k : Nat) (a0 : ByteArray) (a1 : Int) : Option (Int × Int × Int × Int) := if a1 < 0 then (some (0, 0, 6, 0)) else (if a1 < (a0.size : Int) then (if 0 ≤ a1 then (literal_Scan.j0 k a0 a1 ((bt a0 a1) == 39)) else (none)) else (literal_Scan.j0 k a0 a1 false))
theorem literal_Scan.mono_l : ∀ k, (∀ y0 y1 y2, LeO (literal_Scan.j0 k y0 y1 y2) (literal_Scan.j0 (k + 1) y0 y1 y2)) ∧ (∀ y0 y1 y2, LeO (literal_Scan.l0 k y0 y1 y2) (literal_Scan.l0 (k + 1) y0 y1 y2))
 | 0 => ⟨fun _ _ _ r h => by simp [literal_Scan.j0] at h, fun _ _ _ r h => by simp [literal_Scan.l0] at h⟩
 | k + 1 => by
  obtain ⟨ih0, ih1⟩ := literal_Scan.mono_l k
  refine ⟨?_, ?_⟩
  ·intro y0 y1 y2
   unfold literal_Scan.j0
   repeat' first
   | (with_reducible exact ih0 _ _ _)
   | (with_reducible exact ih1 _ _ _)
   | (with_reducible exact literal_text.mono _ _ _)
   | (with_reducible exact LeO.refl _)
   | (with_reducible exact LeO.none _)
   | (with_reducible refine LeO.ite ?_ ?_)
   | (with_reducible refine LeO.bind ?_ (fun _ => ?_))
   | exact ih0 _ _ _
   | exact ih1 _ _ _
   | exact literal_text.mono _ _ _
   | exact LeO.none _
   | refine LeO.ite ?_ ?_
   | refine LeO.bind ?_ (fun _ => ?_)
  ·intro y0 y1 y2
   unfold literal_Scan.l0
   repeat' first
   | (with_reducible exact ih0 _ _ _)
   | (with_reducible exact ih1 _ _ _)
   | (with_reducible exact literal_text.mono _ _ _)
   | (with_reducible exact LeO.refl _)
   | (with_reducible exact LeO.none _)
   | (with_reducible refine LeO.ite ?_ ?_)
   | (with_reducible refine LeO.bind ?_ (fun _ => ?_))
   | exact ih0 _ _ _
   | exact ih1 _ _ _
   | exact literal_text.mono _ _ _
   | exact LeO.none _
   | refine LeO.ite ?_ ?_
   | refine LeO.bind ?_ (fun _ => ?_)
theorem literal_Scan.mono : ∀ a0 a1 k, LeO (literal_Scan.f k a0 a1) (literal_Scan.f (k + 1) a0 a1) := by
 intro a0 a1 k
 obtain ⟨ih0, ih1⟩ := literal_Scan.mono_l k
 unfold literal_Scan.f
 repeat' first
   | (with_reducible exact ih0 _ _ _)
   | (with_reducible exact ih1 _ _ _)
   | (with_reducible exact literal_text.mono _ _ _)
   | (with_reducible exact LeO.refl _)
   | (with_reducible exact LeO.none _)
   | (with_reducible refine LeO.ite ?_ ?_)
   | (with_reducible refine LeO.bind ?_ (fun _ => ?_))
   | exact ih0 _ _ _
   | exact ih1 _ _ _
   | exact literal_text.mono _ _ _
   | exact LeO.none _
   | refine LeO.ite ?_ ?_
   | refine LeO.bind ?_ (fun _ => ?_)
set_option maxHeartbeats 8000000 in
set_option maxRecDepth 100000 in
theorem literal_Scan.calls (k : Nat) (a0 : ByteArray) (a1 : Int) (r1 : Int) (r2 : Int) (r3 : Int) (r4 : Int) (w : World) (h : literal_Scan.f k a0 a1 = some (r1, r2, r3, r4)) :
  Calls Tryd.prog 55 #[.string a0, .int .i64 a1] w fun e w' => e = .returned (.tuple #[.int .i64 r1, .int .i64 r2, .agg #[.int .i64 r3, .int .i64 r4]]) ∧ Below w.heap.size w w' := by
 have hu32 := Tryd.underlying32
 have HB := Aside0.mk (Below.refl w.heap.size w)
 have H : (if a1 < 0 then (some (0, 0, 6, 0)) else (if a1 < (a0.size : Int) then (if 0 ≤ a1 then (literal_Scan.j0 k a0 a1 ((bt a0 a1) == 39)) else (none)) else (literal_Scan.j0 k a0 a1 false))) = some (r1, r2, r3, r4) := h
 clear h
 by_cases c3 : a1 < 0
 ·rw [if_pos c3] at H
  have c3b0 : decide (a1 < 0) = true := decide_eq_true c3
  clear c3
  simp only [Option.some.injEq, Prod.mk.injEq] at H
  obtain ⟨rfl, rfl, rfl, rfl⟩ := H
  go_enter Tryd.func55, Tryd.ntmps55
  go_wp2_with (first | ((with_reducible refine gate_dst (N := 6) rfl ?_); refine box_event ?hg (N := 6) ?hd (cs := #[.int .i64 0, .int .i64 0]) (t := 32) ?hr ?_; (case hd => rfl); (case hg => rfl); (case hr => first | (go_simp; done) | (go_simp; rfl)); intro gb121 hg w4 hbox hb; have n0_ := Aside0.mk (below_step (by repeat (first | (with_reducible first | exact HB.out | apply below_alloc | apply pw_below_drewN | apply below_drew1) | exact HB.out)) hb); have n1_ := Aside0.mk (hbox); have n2_ := Aside0.mk ((by rw [hg]; exact (below_size (by repeat (first | (with_reducible first | exact HB.out | apply below_alloc | apply pw_below_drewN | apply below_drew1) | exact HB.out))) : w.heap.size ≤ gb121)); have n3_ := Aside0.mk ((by rw [hg]; exact (below_size (by repeat (first | (with_reducible first | exact HB.out | apply below_alloc | apply pw_below_drewN | apply below_drew1) | exact HB.out))) : w.heap.size ≤ gb121)); clear HB; have HB := n0_; have BK121 := n1_; have GW121 := n2_; have GE121 := n3_; clear n0_ n1_ n2_ n3_; clear hb hbox hg; have hcz5_0 : w4.cell? ⟨gb121, 0, none⟩ = some (.int .i64 0) := (blk_cell BK121.out 0).trans rfl; have hcz5_1 : w4.cell? ⟨gb121, 1, none⟩ = some (.int .i64 0) := (blk_cell BK121.out 1).trans rfl; have hfz5_0 := blk_frozen BK121.out 0; have hfz5_1 := blk_frozen BK121.out 1))
  refine bodyPost_ret (results_list (rs := [.tmp 4, .tmp 5, .cell 6 32]) rfl (by simp) (.tmp (.tmp (.cell gb121 32 #[.int .i64 6, .int .i64 0] (0, 0) _ rfl (by (with_reducible repeat (first | refine blk_drewN ?_ _ | refine blk_drew ?_ | refine blk_alloc ?_ _)); refine blk_put (cs := #[.int .i64 6, .int .i64 0]) ?_ 1 _ rfl; (with_reducible repeat (first | refine blk_drewN ?_ _ | refine blk_drew ?_ | refine blk_alloc ?_ _)); refine blk_put (cs := #[.int .i64 0, .int .i64 0]) ?_ 0 _ rfl; (with_reducible repeat (first | refine blk_drewN ?_ _ | refine blk_drew ?_ | refine blk_alloc ?_ _)); exact BK121.out) Tryd.underlying32 rfl (by kernel_rfl) .nil)))) rfl ?_
  exact ⟨by first | rfl | (simp [errW_none, errW_some] <;> rfl) | (simp [*, errW_none, errW_some] <;> rfl), by repeat (first | (with_reducible first | exact HB.out | apply below_alloc | apply pw_below_drewN | apply below_drew1 | refine below_set ?_ GE121.out) | exact HB.out)⟩
 ·rw [if_neg c3] at H
  have c3b0 : decide (a1 < 0) = false := decide_eq_false c3
  clear c3
  have HC6 := Aside0.mk H
  clear H
  go_enter Tryd.func55, Tryd.ntmps55
  go_upto_region 3 with (first | ((with_reducible refine gate_dst (N := 6) rfl ?_); refine box_event ?hg (N := 6) ?hd (cs := #[.int .i64 0, .int .i64 0]) (t := 32) ?hr ?_; (case hd => rfl); (case hg => rfl); (case hr => first | (go_simp; done) | (go_simp; rfl)); intro gb121 hg w7 hbox hb; have n0_ := Aside0.mk (below_step (by repeat (first | (with_reducible first | exact HB.out | apply below_alloc | apply pw_below_drewN | apply below_drew1) | exact HB.out)) hb); have n1_ := Aside0.mk (hbox); have n2_ := Aside0.mk ((by rw [hg]; exact (below_size (by repeat (first | (with_reducible first | exact HB.out | apply below_alloc | apply pw_below_drewN | apply below_drew1) | exact HB.out))) : w.heap.size ≤ gb121)); have n3_ := Aside0.mk ((by rw [hg]; exact (below_size (by repeat (first | (with_reducible first | exact HB.out | apply below_alloc | apply pw_below_drewN | apply below_drew1) | exact HB.out))) : w.heap.size ≤ gb121)); clear HB; have HB := n0_; have BK121 := n1_; have GW121 := n2_; have GE121 := n3_; clear n0_ n1_ n2_ n3_; clear hb hbox hg))
  (try simp only [Act.put, List.setIfInBounds_toArray, List.set_cons_zero, List.set_cons_succ])
  go_cut [14] (fun v14 wc => ∃ (kq : Nat) (x14_5 : Bool), v14 = .bool x14_5 ∧ Aside0 (literal_Scan.j0 kq a0 a1 x14_5 = some (r1, r2, r3, r4)) ∧ Aside0 (kq ≤ k) ∧ Aside0 (wc.heap[gb121]? = some (.cells #[.int .i64 0, .int .i64 0] 32 (0, 0))) ∧ Aside0 (Below w.heap.size w wc))
  case first =>
   have H := HC6.out
   clear HC6
   by_cases c8 : a1 < (a0.size : Int)
   ·rw [if_pos c8] at H
    have c8b0 : decide (a1 < (a0.size : Int)) = true := decide_eq_true c8
    clear c8
    (first | rw [c8b0] | (simp only [i64_w, i32_w]; rw [c8b0]) | skip)
    by_cases c9 : 0 ≤ a1
    ·rw [if_pos c9] at H
     have c9b0 : decide (0 ≤ a1) = true := decide_eq_true c9
     clear c9
     have H' := Aside0.mk H
     clear H
     have p10 : 0 ≤ (a1 : Int) := of_decide_eq_true (by first | (with_reducible assumption) | assumption)
     have q10 : a1 < (a0.size : Int) := of_decide_eq_true (by first | (with_reducible assumption) | assumption)
     have hx10 := bt_at a0 a1
     replace p10 := eq_true p10
     replace q10 := eq_true q10
     go_wp2
     go_meet
     case rel => exact ⟨_, (((bt a0 a1) == 39)), (by first | rfl | (simp; done) | (simp [*]; done)), H', ⟨by first | omega | exact Nat.le_refl _⟩, ⟨by (with_reducible repeat (first | refine blk_drewN ?_ _ | refine blk_drew ?_ | refine blk_alloc ?_ _)); exact BK121.out⟩, ⟨by repeat (first | (with_reducible first | exact HB.out | apply below_alloc | apply pw_below_drewN | apply below_drew1 | refine below_set ?_ GE121.out) | exact HB.out)⟩⟩
    ·rw [if_neg c9] at H
     exact absurd H (by simp)
   ·rw [if_neg c8] at H
    have c8b0 : decide (a1 < (a0.size : Int)) = false := decide_eq_false c8
    clear c8
    (first | rw [c8b0] | (simp only [i64_w, i32_w]; rw [c8b0]) | skip)
    have H' := Aside0.mk H
    clear H
    go_wp2
    go_meet
    case rel => exact ⟨_, (false), (by first | rfl | (simp; done) | (simp [*]; done)), H', ⟨by first | omega | exact Nat.le_refl _⟩, ⟨by (with_reducible repeat (first | refine blk_drewN ?_ _ | refine blk_drew ?_ | refine blk_alloc ?_ _)); exact BK121.out⟩, ⟨by repeat (first | (with_reducible first | exact HB.out | apply below_alloc | apply pw_below_drewN | apply below_drew1 | refine below_set ?_ GE121.out) | exact HB.out)⟩⟩
  case rest =>
   clear HC6
   try clear p1
   try clear q1
   try clear hx1
   try clear p2
   try clear c3
   try clear c3b0
   try clear c5
   try clear c8
   try clear c8b0
   try clear c9
   try clear c9b0
   try clear p10
   try clear q10
   try clear hx10
   try clear hcz5_0
   try clear hcz5_1
   try clear hfz5_0
   try clear hfz5_1
   try clear p10
   try clear q10
   obtain ⟨kq, x14_5, rfl, HA, HJ5, BK121, HB⟩ := hcut
   cases kq with
   | zero => exact absurd HA.out (by simp [literal_Scan.j0])
   | succ kj5 =>
    have H := HA.out
    clear HA
    simp only [literal_Scan.j0] at H
    by_cases c11 : x14_5 = true
    ·subst c11
     have H1 : ((literal_text.f kj5 a0 a1).bind fun bt122 => (some (bt122.1, bt122.2.1, bt122.2.2.1, bt122.2.2.2))) = some (r1, r2, r3, r4) := by rw [if_pos rfl] at H; exact H
     clear H
     have H := H1
     clear H1
     replace H := Option.bind_eq_some_iff.mp H
     obtain ⟨⟨t122, t123, t124, t125⟩, A120, H⟩ := H
     replace H : (some (t122, t123, t124, t125)) = some (r1, r2, r3, r4) := H
     have A12 := Aside0.mk A120
     clear A120
     simp only [Option.some.injEq, Prod.mk.injEq] at H
     obtain ⟨rfl, rfl, rfl, rfl⟩ := H
     go_wp2_with (first | ((with_reducible refine gate_callee (f := 74) rfl ?_); refine goesL_ (some 27) rfl rfl Tryd.func74 (by kernel_rfl) rfl #[.string a0, .int .i64 a1] rfl (by (try simp only [List.map_toArray, List.map_cons, List.map_nil]); first | done | rfl | (simp only [List.length_drop, List.length_take]; rfl)) ?_; (with_reducible refine (literal_text.calls kj5 a0 a1 t122 t123 t124 t125 _ A12.out).mono ?_); rintro e w13 ⟨rfl, hb⟩; refine ⟨_, rfl, ?_⟩; have n0_ := Aside0.mk (blk_below (g := gb121) (o := .cells #[.int .i64 0, .int .i64 0] 32 (0, 0)) (by (with_reducible repeat (first | refine blk_drewN ?_ _ | refine blk_drew ?_ | refine blk_alloc ?_ _)); exact BK121.out) hb); have n1_ := Aside0.mk (below_step (by repeat (first | (with_reducible first | exact HB.out | apply below_alloc | apply pw_below_drewN | apply below_drew1 | refine below_set ?_ GE121.out) | exact HB.out)) hb); clear BK121; clear HB; have BK121 := n0_; have HB := n1_; clear n0_ n1_; (try clear hb); (try clear hb2); (try clear hk); (try clear hi); have hcz14_0 : w13.cell? ⟨gb121, 0, none⟩ = some (.int .i64 0) := (blk_cell BK121.out 0).trans rfl; have hcz14_1 : w13.cell? ⟨gb121, 1, none⟩ = some (.int .i64 0) := (blk_cell BK121.out 1).trans rfl; have hfz14_0 := blk_frozen BK121.out 0; have hfz14_1 := blk_frozen BK121.out 1))
     refine bodyPost_ret (results_list (rs := [.tmp 4, .tmp 5, .cell 6 32]) rfl (by simp) (.tmp (.tmp (.cell gb121 32 #[.int .i64 t124, .int .i64 t125] (0, 0) _ rfl (by (with_reducible repeat (first | refine blk_drewN ?_ _ | refine blk_drew ?_ | refine blk_alloc ?_ _)); refine blk_put (cs := #[.int .i64 t124, .int .i64 0]) ?_ 1 _ rfl; (with_reducible repeat (first | refine blk_drewN ?_ _ | refine blk_drew ?_ | refine blk_alloc ?_ _)); refine blk_put (cs := #[.int .i64 0, .int .i64 0]) ?_ 0 _ rfl; (with_reducible repeat (first | refine blk_drewN ?_ _ | refine blk_drew ?_ | refine blk_alloc ?_ _)); exact BK121.out) Tryd.underlying32 rfl (by kernel_rfl) .nil)))) rfl ?_
     exact ⟨by first | rfl | (simp [errW_none, errW_some] <;> rfl) | (simp [*, errW_none, errW_some] <;> rfl), by repeat (first | (with_reducible first | exact HB.out | apply below_alloc | apply pw_below_drewN | apply below_drew1 | refine below_set ?_ GE121.out) | exact HB.out)⟩
    ·replace c11 := Bool.eq_false_iff.mpr c11
     subst c11
     have H1 : (if a1 ≥ (a0.size : Int) then (some (0, 0, 6, a1)) else (if 0 ≤ a1 then (if a1 < (a0.size : Int) then ((literal_digit.f (bt a0 a1)).bind fun t126 => (if t126 = true then (literal_Scan.l0 kj5 a0 a1 a1) else (some (0, 0, 6, a1)))) else (none)) else (none))) = some (r1, r2, r3, r4) := by rw [if_neg (show ¬ (false = true) by decide)] at H; exact H
     clear H
     have H := H1
     clear H1
     by_cases c15 : a1 ≥ (a0.size : Int)
     ·rw [if_pos c15] at H
      have c15b0 : decide ((a0.size : Int) ≤ a1) = true := decide_eq_true c15
      clear c15
      simp only [Option.some.injEq, Prod.mk.injEq] at H
      obtain ⟨rfl, rfl, rfl, rfl⟩ := H
      have hcz16_0 : wc.cell? ⟨gb121, 0, none⟩ = some (.int .i64 0) := (blk_cell BK121.out 0).trans rfl
      have hcz16_1 : wc.cell? ⟨gb121, 1, none⟩ = some (.int .i64 0) := (blk_cell BK121.out 1).trans rfl
      have hfz16_0 := blk_frozen BK121.out 0
      have hfz16_1 := blk_frozen BK121.out 1
      go_wp2
      refine bodyPost_ret (results_list (rs := [.tmp 4, .tmp 5, .cell 6 32]) rfl (by simp) (.tmp (.tmp (.cell gb121 32 #[.int .i64 6, .int .i64 a1] (0, 0) _ rfl (by (with_reducible repeat (first | refine blk_drewN ?_ _ | refine blk_drew ?_ | refine blk_alloc ?_ _)); refine blk_put (cs := #[.int .i64 6, .int .i64 0]) ?_ 1 _ rfl; (with_reducible repeat (first | refine blk_drewN ?_ _ | refine blk_drew ?_ | refine blk_alloc ?_ _)); refine blk_put (cs := #[.int .i64 0, .int .i64 0]) ?_ 0 _ rfl; (with_reducible repeat (first | refine blk_drewN ?_ _ | refine blk_drew ?_ | refine blk_alloc ?_ _)); exact BK121.out) Tryd.underlying32 rfl (by kernel_rfl) .nil)))) rfl ?_
      exact ⟨by first | rfl | (simp [errW_none, errW_some] <;> rfl) | (simp [*, errW_none, errW_some] <;> rfl), by repeat (first | (with_reducible first | exact HB.out | apply below_alloc | apply pw_below_drewN | apply below_drew1 | refine below_set ?_ GE121.out) | exact HB.out)⟩
     ·rw [if_neg c15] at H
      have c15b0 : decide ((a0.size : Int) ≤ a1) = false := decide_eq_false c15
      clear c15
      by_cases c17 : 0 ≤ a1
      ·rw [if_pos c17] at H
       have c17b0 : decide (0 ≤ a1) = true := decide_eq_true c17
       clear c17
       by_cases c18 : a1 < (a0.size : Int)
       ·rw [if_pos c18] at H
        have c18b0 : decide (a1 < (a0.size : Int)) = true := decide_eq_true c18
        clear c18
        replace H := Option.bind_eq_some_iff.mp H
        obtain ⟨t126, A200, H⟩ := H
        replace H : (if t126 = true then (literal_Scan.l0 kj5 a0 a1 a1) else (some (0, 0, 6, a1))) = some (r1, r2, r3, r4) := H
        have A20 := Aside0.mk A200
        clear A200
        by_cases c21 : t126 = true
        ·subst c21
         have H1 : (literal_Scan.l0 kj5 a0 a1 a1) = some (r1, r2, r3, r4) := by rw [if_pos rfl] at H; exact H
         clear H
         have H := H1
         clear H1
         have H' := Aside0.mk H
         clear H
         have p19 : 0 ≤ (a1 : Int) := of_decide_eq_true (by first | (with_reducible assumption) | assumption)
         have q19 : a1 < (a0.size : Int) := of_decide_eq_true (by first | (with_reducible assumption) | assumption)
         have hx19 := bt_at a0 a1
         replace p19 := eq_true p19
         replace q19 := eq_true q19
         go_wp2_with (first | (go_at_call 75; (with_reducible refine (literal_digit.calls (bt a0 a1) true _ A20.out).mono ?_); rintro e w' ⟨rfl, ⟨nd, rfl⟩⟩))
         go_loopg [7] kj5 (fun kq v7 w' => ∃ (x7_2 : Int), v7 = .int .i64 x7_2 ∧ Aside0 (literal_Scan.l0 kq a0 a1 x7_2 = some (r1, r2, r3, r4)) ∧ Aside0 (kq ≤ kj5) ∧ Aside0 (w'.heap[gb121]? = some (.cells #[.int .i64 0, .int .i64 0] 32 (0, 0))) ∧ Aside0 (Below w.heap.size w w'))
         case atStart => exact ⟨(a1), (by first | rfl | (simp; done) | (simp [*]; done)), H', ⟨Nat.le_refl _⟩, ⟨by (with_reducible repeat (first | refine blk_drewN ?_ _ | refine blk_drew ?_ | refine blk_alloc ?_ _)); exact BK121.out⟩, ⟨by repeat (first | (with_reducible first | exact HB.out | apply below_alloc | apply pw_below_drewN | apply below_drew1 | refine below_set ?_ GE121.out) | exact HB.out)⟩⟩
         case round =>
          clear H'
          try clear c1
          try clear p1
          try clear q1
          try clear hx1
          try clear c2
          try clear p2
          try clear c3
          try clear c3b0
          try clear c5
          try clear c7
          try clear c8
          try clear c8b0
          try clear c9
          try clear c9b0
          try clear p10
          try clear q10
          try clear hx10
          try clear c11
          try clear c15
          try clear c15b0
          try clear c17
          try clear c17b0
          try clear c18
          try clear c18b0
          try clear p19
          try clear q19
          try clear hx19
          try clear c21
          try clear hcz14_0
          try clear hcz14_1
          try clear hcz16_0
          try clear hcz16_1
          try clear hcz5_0
          try clear hcz5_1
          try clear hfz14_0
          try clear hfz14_1
          try clear hfz16_0
          try clear hfz16_1
          try clear hfz5_0
          try clear hfz5_1
          try clear p1
          try clear p10
          try clear p19
          try clear p2
          try clear q1
          try clear q10
          try clear q19
          obtain ⟨x7_2, rfl, HA, HK2, BK121, HB⟩ := hrel
          cases gk with
          | zero => exact absurd HA.out (by simp [literal_Scan.l0])
          | succ k2 =>
           have H := HA.out
           clear HA
           simp only [literal_Scan.l0] at H
           by_cases c22 : x7_2 < (a0.size : Int)
           ·rw [if_pos c22] at H
            have c22b0 : decide (x7_2 < (a0.size : Int)) = true := decide_eq_true c22
            clear c22
            by_cases c23 : 0 ≤ x7_2
            ·rw [if_pos c23] at H
             have c23b0 : decide (0 ≤ x7_2) = true := decide_eq_true c23
             clear c23
             replace H := Option.bind_eq_some_iff.mp H
             obtain ⟨t127, A250, H⟩ := H
             replace H : (if t127 = true then (literal_Scan.l0 k2 a0 a1 (wrap64 (x7_2 + 1))) else (if 0 ≤ a1 then (if a1 ≤ x7_2 then (if x7_2 ≤ (a0.size : Int) then ((literal_word.f (a0.extract (a1 : Int).toNat (x7_2 : Int).toNat) a1).bind fun bt128 => (if bt128.2.1 = 0 then (some (bt128.1, x7_2, 0, 0)) else (some (0, 0, bt128.2.1, bt128.2.2)))) else (none)) else (none)) else (none))) = some (r1, r2, r3, r4) := H
             have A25 := Aside0.mk A250
             clear A250
             by_cases c26 : t127 = true
             ·subst c26
              have H1 : (literal_Scan.l0 k2 a0 a1 (wrap64 (x7_2 + 1))) = some (r1, r2, r3, r4) := by rw [if_pos rfl] at H; exact H
              clear H
              have H := H1
              clear H1
              have H' := Aside0.mk H
              clear H
              have p24 : 0 ≤ (x7_2 : Int) := of_decide_eq_true (by first | (with_reducible assumption) | assumption)
              have q24 : x7_2 < (a0.size : Int) := of_decide_eq_true (by first | (with_reducible assumption) | assumption)
              have hx24 := bt_at a0 x7_2
              replace p24 := eq_true p24
              replace q24 := eq_true q24
              go_wp2_with (first | (go_at_call 76; (with_reducible refine (literal_letter.calls (bt a0 x7_2) true _ A25.out).mono ?_); rintro e w' ⟨rfl, ⟨nd, rfl⟩⟩))
              go_roundg k2
              case measure => have := HJ5.out; have := HK2.out; omega
              case rel => exact ⟨(wrap64 (x7_2 + 1)), (by first | rfl | (simp; done) | (simp [*]; done)), H', ⟨by have := HJ5.out; have := HK2.out; omega⟩, ⟨by (with_reducible repeat (first | refine blk_drewN ?_ _ | refine blk_drew ?_ | refine blk_alloc ?_ _)); exact BK121.out⟩, ⟨by repeat (first | (with_reducible first | exact HB.out | apply below_alloc | apply pw_below_drewN | apply below_drew1 | refine below_set ?_ GE121.out) | exact HB.out)⟩⟩
             ·replace c26 := Bool.eq_false_iff.mpr c26
              subst c26
              have H1 : (if 0 ≤ a1 then (if a1 ≤ x7_2 then (if x7_2 ≤ (a0.size : Int) then ((literal_word.f (a0.extract (a1 : Int).toNat (x7_2 : Int).toNat) a1).bind fun bt128 => (if bt128.2.1 = 0 then (some (bt128.1, x7_2, 0, 0)) else (some (0, 0, bt128.2.1, bt128.2.2)))) else (none)) else (none)) else (none)) = some (r1, r2, r3, r4) := by rw [if_neg (show ¬ (false = true) by decide)] at H; exact H
              clear H
              have H := H1
              clear H1
              by_cases c27 : 0 ≤ a1
              ·rw [if_pos c27] at H
               have c27b0 := eq_true c27
               have c27b1 : decide (0 ≤ a1) = true := decide_eq_true c27
               clear c27
               by_cases c28 : a1 ≤ x7_2
               ·rw [if_pos c28] at H
                have c28b0 := eq_true c28
                have c28b1 : decide (a1 ≤ x7_2) = true := decide_eq_true c28
                clear c28
                by_cases c29 : x7_2 ≤ (a0.size : Int)
                ·rw [if_pos c29] at H
                 have c29b0 := eq_true c29
                 have c29b1 : decide (x7_2 ≤ (a0.size : Int)) = true := decide_eq_true c29
                 clear c29
                 replace H := Option.bind_eq_some_iff.mp H
                 obtain ⟨⟨t128, t129, t130⟩, A300, H⟩ := H
                 replace H : (if t129 = 0 then (some (t128, x7_2, 0, 0)) else (some (0, 0, t129, t130))) = some (r1, r2, r3, r4) := H
                 have A30 := Aside0.mk A300
                 clear A300
                 by_cases c31 : t129 = 0
                 ·rw [if_pos c31] at H
                  have c31b0 : (t129 == 0) = true := beq_iff_eq.mpr c31
                  have c31b1 : (t129 != 0) = false := bne_eq_false_iff_eq.mpr c31
                  clear c31
                  simp only [Option.some.injEq, Prod.mk.injEq] at H
                  obtain ⟨rfl, rfl, rfl, rfl⟩ := H
                  have p24 : 0 ≤ (x7_2 : Int) := of_decide_eq_true (by first | (with_reducible assumption) | assumption)
                  have q24 : x7_2 < (a0.size : Int) := of_decide_eq_true (by first | (with_reducible assumption) | assumption)
                  have hx24 := bt_at a0 x7_2
                  replace p24 := eq_true p24
                  replace q24 := eq_true q24
                  go_wp2_with (first | (go_at_call 76; (with_reducible refine (literal_letter.calls (bt a0 x7_2) false _ A25.out).mono ?_); rintro e w' ⟨rfl, ⟨nd, rfl⟩⟩; (try (rw [drewN_self wr]; generalize hq_ : World.drewN wr _ = wr; have n0_ : Aside0 (wr.heap[gb121]? = some (.cells #[.int .i64 0, .int .i64 0] 32 (0, 0))) := ⟨by rw [← hq_]; exact (by (with_reducible repeat (first | refine blk_drewN ?_ _ | refine blk_drew ?_ | refine blk_alloc ?_ _)); exact BK121.out)⟩; have n1_ : Aside0 (Below w.heap.size w wr) := ⟨by rw [← hq_]; exact (by repeat (first | (with_reducible first | exact HB.out | apply below_alloc | apply pw_below_drewN | apply below_drew1 | refine below_set ?_ GE121.out) | exact HB.out))⟩; clear BK121 HB hq_; have BK121 := n0_; have HB := n1_; clear n0_ n1_))) | ((with_reducible refine gate_callee (f := 77) rfl ?_); refine goesL_ (some 64) rfl rfl Tryd.func77 (by kernel_rfl) rfl #[.string (a0.extract (a1 : Int).toNat (x7_2 : Int).toNat), .int .i64 a1] rfl (by (try simp only [List.map_toArray, List.map_cons, List.map_nil]); first | done | rfl | (simp only [List.length_drop, List.length_take]; rfl)) ?_; (with_reducible refine (literal_word.calls (a0.extract (a1 : Int).toNat (x7_2 : Int).toNat) a1 t128 t129 t130 _ A30.out).mono ?_); rintro e w32 ⟨rfl, hb⟩; refine ⟨_, rfl, ?_⟩; have n0_ := Aside0.mk (blk_below (g := gb121) (o := .cells #[.int .i64 0, .int .i64 0] 32 (0, 0)) (by (with_reducible repeat (first | refine blk_drewN ?_ _ | refine blk_drew ?_ | refine blk_alloc ?_ _)); exact BK121.out) hb); have n1_ := Aside0.mk (below_step (by repeat (first | (with_reducible first | exact HB.out | apply below_alloc | apply pw_below_drewN | apply below_drew1 | refine below_set ?_ GE121.out) | exact HB.out)) hb); clear BK121; clear HB; have BK121 := n0_; have HB := n1_; clear n0_ n1_; (try clear hb); (try clear hb2); (try clear hk); (try clear hi)) | ((with_reducible refine gate_dst (N := 9) rfl ?_); refine box_event ?hg (N := 9) ?hd (cs := #[.int .i64 0, .int .i64 0]) (t := 32) ?hr ?_; (case hd => rfl); (case hg => rfl); (case hr => first | (go_simp; done) | (go_simp; rfl)); intro gb131 hg w33 hbox hb; have n0_ := Aside0.mk (blk_below (g := gb121) (o := .cells #[.int .i64 0, .int .i64 0] 32 (0, 0)) (by (with_reducible repeat (first | refine blk_drewN ?_ _ | refine blk_drew ?_ | refine blk_alloc ?_ _)); exact BK121.out) hb); have n1_ := Aside0.mk (below_step (by repeat (first | (with_reducible first | exact HB.out | apply below_alloc | apply pw_below_drewN | apply below_drew1 | refine below_set ?_ GE121.out) | exact HB.out)) hb); have n2_ := Aside0.mk (hbox); have n3_ := Aside0.mk ((by rw [hg]; exact (below_size (by repeat (first | (with_reducible first | exact HB.out | apply below_alloc | apply pw_below_drewN | apply below_drew1 | refine below_set ?_ GE121.out) | exact HB.out))) : w.heap.size ≤ gb131)); have n4_ := Aside0.mk ((by rw [hg]; exact (below_size (by repeat (first | (with_reducible first | exact HB.out | apply below_alloc | apply pw_below_drewN | apply below_drew1 | refine below_set ?_ GE121.out) | exact HB.out))) : w.heap.size ≤ gb131)); have n5_ := Aside0.mk ((by rw [hg]; exact Nat.ne_of_lt (blk_lt (g := gb121) (o := .cells #[.int .i64 0, .int .i64 0] 32 (0, 0)) (by (with_reducible repeat (first | refine blk_drewN ?_ _ | refine blk_drew ?_ | refine blk_alloc ?_ _)); exact BK121.out)) : gb121 ≠ gb131)); have n6_ := Aside0.mk ((by rw [hg]; exact Nat.ne_of_gt (blk_lt (g := gb121) (o := .cells #[.int .i64 0, .int .i64 0] 32 (0, 0)) (by (with_reducible repeat (first | refine blk_drewN ?_ _ | refine blk_drew ?_ | refine blk_alloc ?_ _)); exact BK121.out)) : gb131 ≠ gb121)); clear BK121; clear HB; have BK121 := n0_; have HB := n1_; have BK131 := n2_; have GW131 := n3_; have GE131 := n4_; have NB121_131 := n5_; have NB131_121 := n6_; clear n0_ n1_ n2_ n3_ n4_ n5_ n6_; clear hb hbox hg; have hnb34 := NB131_121.out; have hnc34 := NB121_131.out; have hcz35_0 : w33.cell? ⟨gb131, 0, none⟩ = some (.int .i64 0) := (blk_cell BK131.out 0).trans rfl; have hcz35_1 : w33.cell? ⟨gb131, 1, none⟩ = some (.int .i64 0) := (blk_cell BK131.out 1).trans rfl; have hfz35_0 := blk_frozen BK131.out 0; have hfz35_1 := blk_frozen BK131.out 1; have hcz36_0 : w33.cell? ⟨gb121, 0, none⟩ = some (.int .i64 0) := (blk_cell BK121.out 0).trans rfl; have hcz36_1 : w33.cell? ⟨gb121, 1, none⟩ = some (.int .i64 0) := (blk_cell BK121.out 1).trans rfl; have hfz36_0 := blk_frozen BK121.out 0; have hfz36_1 := blk_frozen BK121.out 1))
                  refine bodyPost_ret (results_list (rs := [.tmp 4, .tmp 5, .cell 6 32]) rfl (by simp) (.tmp (.tmp (.cell gb121 32 #[.int .i64 0, .int .i64 0] (0, 0) _ rfl (by (with_reducible repeat (first | refine blk_drewN ?_ _ | refine blk_drew ?_ | refine blk_alloc ?_ _)); refine blk_put (cs := #[.int .i64 0, .int .i64 0]) ?_ 1 _ rfl; (with_reducible repeat (first | refine blk_drewN ?_ _ | refine blk_drew ?_ | refine blk_alloc ?_ _)); refine blk_put (cs := #[.int .i64 0, .int .i64 0]) ?_ 0 _ rfl; (with_reducible repeat (first | refine blk_drewN ?_ _ | refine blk_drew ?_ | refine blk_alloc ?_ _)); refine blk_far ?_ NB121_131.out _; (with_reducible repeat (first | refine blk_drewN ?_ _ | refine blk_drew ?_ | refine blk_alloc ?_ _)); refine blk_far ?_ NB121_131.out _; (with_reducible repeat (first | refine blk_drewN ?_ _ | refine blk_drew ?_ | refine blk_alloc ?_ _)); exact BK121.out) Tryd.underlying32 rfl (by kernel_rfl) .nil)))) rfl ?_
                  exact ⟨by first | rfl | (simp [errW_none, errW_some] <;> rfl) | (simp [*, errW_none, errW_some] <;> rfl), by repeat (first | (with_reducible first | exact HB.out | apply below_alloc | apply pw_below_drewN | apply below_drew1 | refine below_set ?_ GE121.out | refine below_set ?_ GE131.out) | exact HB.out)⟩
                 ·rw [if_neg c31] at H
                  have c31b0 : (t129 == 0) = false := beq_eq_false_iff_ne.mpr c31
                  have c31b1 : (t129 != 0) = true := bne_iff_ne.mpr c31
                  simp only [Option.some.injEq, Prod.mk.injEq] at H
                  obtain ⟨rfl, rfl, rfl, rfl⟩ := H
                  have p24 : 0 ≤ (x7_2 : Int) := of_decide_eq_true (by first | (with_reducible assumption) | assumption)
                  have q24 : x7_2 < (a0.size : Int) := of_decide_eq_true (by first | (with_reducible assumption) | assumption)
                  have hx24 := bt_at a0 x7_2
                  replace p24 := eq_true p24
                  replace q24 := eq_true q24
                  try go_wp2_with (first | (go_at_call 76; (with_reducible refine (literal_letter.calls (bt a0 x7_2) false _ A25.out).mono ?_); rintro e w' ⟨rfl, ⟨nd, rfl⟩⟩; (try (rw [drewN_self wr]; generalize hq_ : World.drewN wr _ = wr; have n0_ : Aside0 (wr.heap[gb121]? = some (.cells #[.int .i64 0, .int .i64 0] 32 (0, 0))) := ⟨by rw [← hq_]; exact (by (with_reducible repeat (first | refine blk_drewN ?_ _ | refine blk_drew ?_ | refine blk_alloc ?_ _)); exact BK121.out)⟩; have n1_ : Aside0 (Below w.heap.size w wr) := ⟨by rw [← hq_]; exact (by repeat (first | (with_reducible first | exact HB.out | apply below_alloc | apply pw_below_drewN | apply below_drew1 | refine below_set ?_ GE121.out) | exact HB.out))⟩; clear BK121 HB hq_; have BK121 := n0_; have HB := n1_; clear n0_ n1_))) | ((with_reducible refine gate_callee (f := 77) rfl ?_); refine goesL_ (some 64) rfl rfl Tryd.func77 (by kernel_rfl) rfl #[.string (a0.extract (a1 : Int).toNat (x7_2 : Int).toNat), .int .i64 a1] rfl (by (try simp only [List.map_toArray, List.map_cons, List.map_nil]); first | done | rfl | (simp only [List.length_drop, List.length_take]; rfl)) ?_; (with_reducible refine (literal_word.calls (a0.extract (a1 : Int).toNat (x7_2 : Int).toNat) a1 t128 t129 t130 _ A30.out).mono ?_); rintro e w37 ⟨rfl, hb⟩; refine ⟨_, rfl, ?_⟩; have n0_ := Aside0.mk (blk_below (g := gb121) (o := .cells #[.int .i64 0, .int .i64 0] 32 (0, 0)) (by (with_reducible repeat (first | refine blk_drewN ?_ _ | refine blk_drew ?_ | refine blk_alloc ?_ _)); exact BK121.out) hb); have n1_ := Aside0.mk (below_step (by repeat (first | (with_reducible first | exact HB.out | apply below_alloc | apply pw_below_drewN | apply below_drew1 | refine below_set ?_ GE121.out) | exact HB.out)) hb); clear BK121; clear HB; have BK121 := n0_; have HB := n1_; clear n0_ n1_; (try clear hb); (try clear hb2); (try clear hk); (try clear hi)) | ((with_reducible refine gate_dst (N := 9) rfl ?_); refine box_event ?hg (N := 9) ?hd (cs := #[.int .i64 0, .int .i64 0]) (t := 32) ?hr ?_; (case hd => rfl); (case hg => rfl); (case hr => first | (go_simp; done) | (go_simp; rfl)); intro gb131 hg w38 hbox hb; have n0_ := Aside0.mk (blk_below (g := gb121) (o := .cells #[.int .i64 0, .int .i64 0] 32 (0, 0)) (by (with_reducible repeat (first | refine blk_drewN ?_ _ | refine blk_drew ?_ | refine blk_alloc ?_ _)); exact BK121.out) hb); have n1_ := Aside0.mk (below_step (by repeat (first | (with_reducible first | exact HB.out | apply below_alloc | apply pw_below_drewN | apply below_drew1 | refine below_set ?_ GE121.out) | exact HB.out)) hb); have n2_ := Aside0.mk (hbox); have n3_ := Aside0.mk ((by rw [hg]; exact (below_size (by repeat (first | (with_reducible first | exact HB.out | apply below_alloc | apply pw_below_drewN | apply below_drew1 | refine below_set ?_ GE121.out) | exact HB.out))) : w.heap.size ≤ gb131)); have n4_ := Aside0.mk ((by rw [hg]; exact (below_size (by repeat (first | (with_reducible first | exact HB.out | apply below_alloc | apply pw_below_drewN | apply below_drew1 | refine below_set ?_ GE121.out) | exact HB.out))) : w.heap.size ≤ gb131)); have n5_ := Aside0.mk ((by rw [hg]; exact Nat.ne_of_lt (blk_lt (g := gb121) (o := .cells #[.int .i64 0, .int .i64 0] 32 (0, 0)) (by (with_reducible repeat (first | refine blk_drewN ?_ _ | refine blk_drew ?_ | refine blk_alloc ?_ _)); exact BK121.out)) : gb121 ≠ gb131)); have n6_ := Aside0.mk ((by rw [hg]; exact Nat.ne_of_gt (blk_lt (g := gb121) (o := .cells #[.int .i64 0, .int .i64 0] 32 (0, 0)) (by (with_reducible repeat (first | refine blk_drewN ?_ _ | refine blk_drew ?_ | refine blk_alloc ?_ _)); exact BK121.out)) : gb131 ≠ gb121)); clear BK121; clear HB; have BK121 := n0_; have HB := n1_; have BK131 := n2_; have GW131 := n3_; have GE131 := n4_; have NB121_131 := n5_; have NB131_121 := n6_; clear n0_ n1_ n2_ n3_ n4_ n5_ n6_; clear hb hbox hg; have hnb39 := NB131_121.out; have hnc39 := NB121_131.out; have hcz40_0 : w38.cell? ⟨gb131, 0, none⟩ = some (.int .i64 0) := (blk_cell BK131.out 0).trans rfl; have hcz40_1 : w38.cell? ⟨gb131, 1, none⟩ = some (.int .i64 0) := (blk_cell BK131.out 1).trans rfl; have hfz40_0 := blk_frozen BK131.out 0; have hfz40_1 := blk_frozen BK131.out 1))
                  have n0_ : Aside0 (((w38.setCell ⟨gb131, 0, none⟩ (.int .i64 t129)).setCell ⟨gb131, 1, none⟩ (.int .i64 t130)).heap[gb121]? = some (.cells #[.int .i64 0, .int .i64 0] 32 (0, 0))) := ⟨by (with_reducible repeat (first | refine blk_drewN ?_ _ | refine blk_drew ?_ | refine blk_alloc ?_ _)); refine blk_far ?_ NB121_131.out _; (with_reducible repeat (first | refine blk_drewN ?_ _ | refine blk_drew ?_ | refine blk_alloc ?_ _)); refine blk_far ?_ NB121_131.out _; (with_reducible repeat (first | refine blk_drewN ?_ _ | refine blk_drew ?_ | refine blk_alloc ?_ _)); exact BK121.out⟩
                  have n1_ : Aside0 (((w38.setCell ⟨gb131, 0, none⟩ (.int .i64 t129)).setCell ⟨gb131, 1, none⟩ (.int .i64 t130)).heap[gb131]? = some (.cells #[.int .i64 t129, .int .i64 t130] 32 (0, 0))) := ⟨by (with_reducible repeat (first | refine blk_drewN ?_ _ | refine blk_drew ?_ | refine blk_alloc ?_ _)); refine blk_put (cs := #[.int .i64 t129, .int .i64 0]) ?_ 1 _ rfl; (with_reducible repeat (first | refine blk_drewN ?_ _ | refine blk_drew ?_ | refine blk_alloc ?_ _)); refine blk_put (cs := #[.int .i64 0, .int .i64 0]) ?_ 0 _ rfl; (with_reducible repeat (first | refine blk_drewN ?_ _ | refine blk_drew ?_ | refine blk_alloc ?_ _)); exact BK131.out⟩
                  have n2_ : Aside0 (Below w.heap.size w ((w38.setCell ⟨gb131, 0, none⟩ (.int .i64 t129)).setCell ⟨gb131, 1, none⟩ (.int .i64 t130))) := ⟨by repeat (first | (with_reducible first | exact HB.out | apply below_alloc | apply pw_below_drewN | apply below_drew1 | refine below_set ?_ GE121.out | refine below_set ?_ GE131.out) | exact HB.out)⟩
                  (try clear BK121)
                  (try clear BK131)
                  (try clear HB)
                  generalize ((w38.setCell ⟨gb131, 0, none⟩ (.int .i64 t129)).setCell ⟨gb131, 1, none⟩ (.int .i64 t130)) = w41 at n0_ n1_ n2_ ⊢
                  have BK121 := n0_
                  have BK131 := n1_
                  have HB := n2_
                  clear n0_ n1_ n2_
                  have n0_ := Aside0.mk (blk_drew BK121.out)
                  have n1_ := Aside0.mk (blk_drew BK131.out)
                  have n2_ := Aside0.mk (below_drew1 HB.out)
                  clear BK121
                  clear BK131
                  clear HB
                  have BK121 := n0_
                  have BK131 := n1_
                  have HB := n2_
                  clear n0_ n1_ n2_
                  refine start_ (n := 4) (S := fun w' => w'.cell? ⟨gb131, 0, none⟩ = some (.int .i64 t129) ∧ w'.cell? ⟨gb131, 1, none⟩ = some (.int .i64 t130)) (ds := []) #[false, false, false, false] (by kernel_rfl) rfl rfl ⟨(blk_cell BK131.out 0).trans rfl, (blk_cell BK131.out 1).trans rfl⟩ (fun hHeld => ?_)
                  generalize w41.drew = w42 at BK121 BK131 HB hHeld ⊢
                  refine pure_ (i := 1) (N := some 4) (v := ?_) (a' := ?_) #[false, true, false, false] rfl rfl (by kernel_rfl) (fun _ _ _ h => h) (Or.inl ⟨by rfl, ?_⟩) ?_ ?_
                  rotate_left
                  ·intro w'
                   go_simp
                   with_reducible rfl
                  rotate_left
                  ·simp only [Act.put, List.setIfInBounds_toArray, List.set_cons_zero, List.set_cons_succ, i64_w, i32_w]
                   rfl
                  refine pure_ (i := 2) (N := some 5) (v := ?_) (a' := ?_) #[false, true, true, false] rfl rfl (by kernel_rfl) (fun _ _ _ h => h) (Or.inl ⟨by rfl, ?_⟩) ?_ ?_
                  rotate_left
                  ·intro w'
                   go_simp
                   with_reducible rfl
                  rotate_left
                  ·simp only [Act.put, List.setIfInBounds_toArray, List.set_cons_zero, List.set_cons_succ, i64_w, i32_w]
                   rfl
                  refine take_ (i := 0) (N := some 70) (v := ?_) (a' := ?_) #[true, true, true, false] rfl rfl (by kernel_rfl) (fun _ _ _ h => h) (Or.inl ⟨by rfl, ?_⟩) hHeld ?_ ?_
                  rotate_left
                  ·rintro w' ⟨s0, s1⟩
                   go_simp
                   with_reducible rfl
                  rotate_left
                  ·simp only [Act.put, List.setIfInBounds_toArray, List.set_cons_zero, List.set_cons_succ, i64_w, i32_w]
                   rfl
                  refine one_ (i := 3) (N := none) #[true, true, true, true] rfl rfl (by kernel_rfl) (by decide) (fun K hK => ?_)
                  have hs43 : w42.cell? ⟨gb121, 0, none⟩ = some (.int .i64 0) := (blk_cell BK121.out 0).trans rfl
                  have hfs43 := blk_frozen BK121.out 0
                  have hns43_1 := NB131_121.out
                  have hms43_1 := NB121_131.out
                  have hs44 : w42.cell? ⟨gb121, 1, none⟩ = some (.int .i64 0) := (blk_cell BK121.out 1).trans rfl
                  have hfs44 := blk_frozen BK121.out 1
                  have hns44_1 := NB131_121.out
                  have hms44_1 := NB121_131.out
                  refine skip_ (w1 := ?_) (by rfl) rfl ?_ ?_
                  rotate_left
                  ·go_simp
                   rfl
                  refine hK.out _ _ ⟨((cell_far (p := ⟨gb121, _, none⟩) NB131_121.out _).trans (((cell_far (p := ⟨gb121, _, none⟩) NB131_121.out _).trans (hHeld.1)))), ((cell_far (p := ⟨gb121, _, none⟩) NB131_121.out _).trans (((cell_far (p := ⟨gb121, _, none⟩) NB131_121.out _).trans (hHeld.2))))⟩ (fun hHeld => ?_)
                  clear hK K
                  refine done_ (by kernel_rfl) ?_
                  try go_wp2
                  refine bodyPost_ret (results_list (rs := [.tmp 4, .tmp 5, .cell 6 32]) rfl (by simp) (.tmp (.tmp (.cell gb121 32 #[.int .i64 t129, .int .i64 t130] (0, 0) _ rfl (by (with_reducible repeat (first | refine blk_drewN ?_ _ | refine blk_drew ?_ | refine blk_alloc ?_ _)); refine blk_put (cs := #[.int .i64 t129, .int .i64 0]) ?_ 1 _ rfl; (with_reducible repeat (first | refine blk_drewN ?_ _ | refine blk_drew ?_ | refine blk_alloc ?_ _)); refine blk_put (cs := #[.int .i64 0, .int .i64 0]) ?_ 0 _ rfl; (with_reducible repeat (first | refine blk_drewN ?_ _ | refine blk_drew ?_ | refine blk_alloc ?_ _)); exact BK121.out) Tryd.underlying32 rfl (by kernel_rfl) .nil)))) rfl ?_
                  exact ⟨by first | rfl | (simp [errW_none, errW_some] <;> rfl) | (simp [*, errW_none, errW_some] <;> rfl), by repeat (first | (with_reducible first | exact HB.out | apply below_alloc | apply pw_below_drewN | apply below_drew1 | refine below_set ?_ GE121.out | refine below_set ?_ GE131.out) | exact HB.out)⟩
                ·rw [if_neg c29] at H
                 exact absurd H (by simp)
               ·rw [if_neg c28] at H
                exact absurd H (by simp)
              ·rw [if_neg c27] at H
               exact absurd H (by simp)
            ·rw [if_neg c23] at H
             exact absurd H (by simp)
           ·rw [if_neg c22] at H
            have c22b0 : decide (x7_2 < (a0.size : Int)) = false := decide_eq_false c22
            clear c22
            by_cases c45 : 0 ≤ a1
            ·rw [if_pos c45] at H
             have c45b0 := eq_true c45
             have c45b1 : decide (0 ≤ a1) = true := decide_eq_true c45
             clear c45
             by_cases c46 : a1 ≤ x7_2
             ·rw [if_pos c46] at H
              have c46b0 := eq_true c46
              have c46b1 : decide (a1 ≤ x7_2) = true := decide_eq_true c46
              clear c46
              by_cases c47 : x7_2 ≤ (a0.size : Int)
              ·rw [if_pos c47] at H
               have c47b0 := eq_true c47
               have c47b1 : decide (x7_2 ≤ (a0.size : Int)) = true := decide_eq_true c47
               clear c47
               replace H := Option.bind_eq_some_iff.mp H
               obtain ⟨⟨t132, t133, t134⟩, A480, H⟩ := H
               replace H : (if t133 = 0 then (some (t132, x7_2, 0, 0)) else (some (0, 0, t133, t134))) = some (r1, r2, r3, r4) := H
               have A48 := Aside0.mk A480
               clear A480
               by_cases c49 : t133 = 0
               ·rw [if_pos c49] at H
                have c49b0 : (t133 == 0) = true := beq_iff_eq.mpr c49
                have c49b1 : (t133 != 0) = false := bne_eq_false_iff_eq.mpr c49
                clear c49
                simp only [Option.some.injEq, Prod.mk.injEq] at H
                obtain ⟨rfl, rfl, rfl, rfl⟩ := H
                go_wp2_with (first | ((with_reducible refine gate_callee (f := 77) rfl ?_); refine goesL_ (some 64) rfl rfl Tryd.func77 (by kernel_rfl) rfl #[.string (a0.extract (a1 : Int).toNat (x7_2 : Int).toNat), .int .i64 a1] rfl (by (try simp only [List.map_toArray, List.map_cons, List.map_nil]); first | done | rfl | (simp only [List.length_drop, List.length_take]; rfl)) ?_; (with_reducible refine (literal_word.calls (a0.extract (a1 : Int).toNat (x7_2 : Int).toNat) a1 t132 t133 t134 _ A48.out).mono ?_); rintro e w50 ⟨rfl, hb⟩; refine ⟨_, rfl, ?_⟩; have n0_ := Aside0.mk (blk_below (g := gb121) (o := .cells #[.int .i64 0, .int .i64 0] 32 (0, 0)) (by (with_reducible repeat (first | refine blk_drewN ?_ _ | refine blk_drew ?_ | refine blk_alloc ?_ _)); exact BK121.out) hb); have n1_ := Aside0.mk (below_step (by repeat (first | (with_reducible first | exact HB.out | apply below_alloc | apply pw_below_drewN | apply below_drew1 | refine below_set ?_ GE121.out) | exact HB.out)) hb); clear BK121; clear HB; have BK121 := n0_; have HB := n1_; clear n0_ n1_; (try clear hb); (try clear hb2); (try clear hk); (try clear hi)) | ((with_reducible refine gate_dst (N := 9) rfl ?_); refine box_event ?hg (N := 9) ?hd (cs := #[.int .i64 0, .int .i64 0]) (t := 32) ?hr ?_; (case hd => rfl); (case hg => rfl); (case hr => first | (go_simp; done) | (go_simp; rfl)); intro gb135 hg w51 hbox hb; have n0_ := Aside0.mk (blk_below (g := gb121) (o := .cells #[.int .i64 0, .int .i64 0] 32 (0, 0)) (by (with_reducible repeat (first | refine blk_drewN ?_ _ | refine blk_drew ?_ | refine blk_alloc ?_ _)); exact BK121.out) hb); have n1_ := Aside0.mk (below_step (by repeat (first | (with_reducible first | exact HB.out | apply below_alloc | apply pw_below_drewN | apply below_drew1 | refine below_set ?_ GE121.out) | exact HB.out)) hb); have n2_ := Aside0.mk (hbox); have n3_ := Aside0.mk ((by rw [hg]; exact (below_size (by repeat (first | (with_reducible first | exact HB.out | apply below_alloc | apply pw_below_drewN | apply below_drew1 | refine below_set ?_ GE121.out) | exact HB.out))) : w.heap.size ≤ gb135)); have n4_ := Aside0.mk ((by rw [hg]; exact (below_size (by repeat (first | (with_reducible first | exact HB.out | apply below_alloc | apply pw_below_drewN | apply below_drew1 | refine below_set ?_ GE121.out) | exact HB.out))) : w.heap.size ≤ gb135)); have n5_ := Aside0.mk ((by rw [hg]; exact Nat.ne_of_lt (blk_lt (g := gb121) (o := .cells #[.int .i64 0, .int .i64 0] 32 (0, 0)) (by (with_reducible repeat (first | refine blk_drewN ?_ _ | refine blk_drew ?_ | refine blk_alloc ?_ _)); exact BK121.out)) : gb121 ≠ gb135)); have n6_ := Aside0.mk ((by rw [hg]; exact Nat.ne_of_gt (blk_lt (g := gb121) (o := .cells #[.int .i64 0, .int .i64 0] 32 (0, 0)) (by (with_reducible repeat (first | refine blk_drewN ?_ _ | refine blk_drew ?_ | refine blk_alloc ?_ _)); exact BK121.out)) : gb135 ≠ gb121)); clear BK121; clear HB; have BK121 := n0_; have HB := n1_; have BK135 := n2_; have GW135 := n3_; have GE135 := n4_; have NB121_135 := n5_; have NB135_121 := n6_; clear n0_ n1_ n2_ n3_ n4_ n5_ n6_; clear hb hbox hg; have hnb52 := NB135_121.out; have hnc52 := NB121_135.out; have hcz53_0 : w51.cell? ⟨gb135, 0, none⟩ = some (.int .i64 0) := (blk_cell BK135.out 0).trans rfl; have hcz53_1 : w51.cell? ⟨gb135, 1, none⟩ = some (.int .i64 0) := (blk_cell BK135.out 1).trans rfl; have hfz53_0 := blk_frozen BK135.out 0; have hfz53_1 := blk_frozen BK135.out 1; have hcz54_0 : w51.cell? ⟨gb121, 0, none⟩ = some (.int .i64 0) := (blk_cell BK121.out 0).trans rfl; have hcz54_1 : w51.cell? ⟨gb121, 1, none⟩ = some (.int .i64 0) := (blk_cell BK121.out 1).trans rfl; have hfz54_0 := blk_frozen BK121.out 0; have hfz54_1 := blk_frozen BK121.out 1))
                refine bodyPost_ret (results_list (rs := [.tmp 4, .tmp 5, .cell 6 32]) rfl (by simp) (.tmp (.tmp (.cell gb121 32 #[.int .i64 0, .int .i64 0] (0, 0) _ rfl (by (with_reducible repeat (first | refine blk_drewN ?_ _ | refine blk_drew ?_ | refine blk_alloc ?_ _)); refine blk_put (cs := #[.int .i64 0, .int .i64 0]) ?_ 1 _ rfl; (with_reducible repeat (first | refine blk_drewN ?_ _ | refine blk_drew ?_ | refine blk_alloc ?_ _)); refine blk_put (cs := #[.int .i64 0, .int .i64 0]) ?_ 0 _ rfl; (with_reducible repeat (first | refine blk_drewN ?_ _ | refine blk_drew ?_ | refine blk_alloc ?_ _)); refine blk_far ?_ NB121_135.out _; (with_reducible repeat (first | refine blk_drewN ?_ _ | refine blk_drew ?_ | refine blk_alloc ?_ _)); refine blk_far ?_ NB121_135.out _; (with_reducible repeat (first | refine blk_drewN ?_ _ | refine blk_drew ?_ | refine blk_alloc ?_ _)); exact BK121.out) Tryd.underlying32 rfl (by kernel_rfl) .nil)))) rfl ?_
                exact ⟨by first | rfl | (simp [errW_none, errW_some] <;> rfl) | (simp [*, errW_none, errW_some] <;> rfl), by repeat (first | (with_reducible first | exact HB.out | apply below_alloc | apply pw_below_drewN | apply below_drew1 | refine below_set ?_ GE121.out | refine below_set ?_ GE135.out) | exact HB.out)⟩
               ·rw [if_neg c49] at H
                have c49b0 : (t133 == 0) = false := beq_eq_false_iff_ne.mpr c49
                have c49b1 : (t133 != 0) = true := bne_iff_ne.mpr c49
                simp only [Option.some.injEq, Prod.mk.injEq] at H
                obtain ⟨rfl, rfl, rfl, rfl⟩ := H
                try go_wp2_with (first | ((with_reducible refine gate_callee (f := 77) rfl ?_); refine goesL_ (some 64) rfl rfl Tryd.func77 (by kernel_rfl) rfl #[.string (a0.extract (a1 : Int).toNat (x7_2 : Int).toNat), .int .i64 a1] rfl (by (try simp only [List.map_toArray, List.map_cons, List.map_nil]); first | done | rfl | (simp only [List.length_drop, List.length_take]; rfl)) ?_; (with_reducible refine (literal_word.calls (a0.extract (a1 : Int).toNat (x7_2 : Int).toNat) a1 t132 t133 t134 _ A48.out).mono ?_); rintro e w55 ⟨rfl, hb⟩; refine ⟨_, rfl, ?_⟩; have n0_ := Aside0.mk (blk_below (g := gb121) (o := .cells #[.int .i64 0, .int .i64 0] 32 (0, 0)) (by (with_reducible repeat (first | refine blk_drewN ?_ _ | refine blk_drew ?_ | refine blk_alloc ?_ _)); exact BK121.out) hb); have n1_ := Aside0.mk (below_step (by repeat (first | (with_reducible first | exact HB.out | apply below_alloc | apply pw_below_drewN | apply below_drew1 | refine below_set ?_ GE121.out) | exact HB.out)) hb); clear BK121; clear HB; have BK121 := n0_; have HB := n1_; clear n0_ n1_; (try clear hb); (try clear hb2); (try clear hk); (try clear hi)) | ((with_reducible refine gate_dst (N := 9) rfl ?_); refine box_event ?hg (N := 9) ?hd (cs := #[.int .i64 0, .int .i64 0]) (t := 32) ?hr ?_; (case hd => rfl); (case hg => rfl); (case hr => first | (go_simp; done) | (go_simp; rfl)); intro gb135 hg w56 hbox hb; have n0_ := Aside0.mk (blk_below (g := gb121) (o := .cells #[.int .i64 0, .int .i64 0] 32 (0, 0)) (by (with_reducible repeat (first | refine blk_drewN ?_ _ | refine blk_drew ?_ | refine blk_alloc ?_ _)); exact BK121.out) hb); have n1_ := Aside0.mk (below_step (by repeat (first | (with_reducible first | exact HB.out | apply below_alloc | apply pw_below_drewN | apply below_drew1 | refine below_set ?_ GE121.out) | exact HB.out)) hb); have n2_ := Aside0.mk (hbox); have n3_ := Aside0.mk ((by rw [hg]; exact (below_size (by repeat (first | (with_reducible first | exact HB.out | apply below_alloc | apply pw_below_drewN | apply below_drew1 | refine below_set ?_ GE121.out) | exact HB.out))) : w.heap.size ≤ gb135)); have n4_ := Aside0.mk ((by rw [hg]; exact (below_size (by repeat (first | (with_reducible first | exact HB.out | apply below_alloc | apply pw_below_drewN | apply below_drew1 | refine below_set ?_ GE121.out) | exact HB.out))) : w.heap.size ≤ gb135)); have n5_ := Aside0.mk ((by rw [hg]; exact Nat.ne_of_lt (blk_lt (g := gb121) (o := .cells #[.int .i64 0, .int .i64 0] 32 (0, 0)) (by (with_reducible repeat (first | refine blk_drewN ?_ _ | refine blk_drew ?_ | refine blk_alloc ?_ _)); exact BK121.out)) : gb121 ≠ gb135)); have n6_ := Aside0.mk ((by rw [hg]; exact Nat.ne_of_gt (blk_lt (g := gb121) (o := .cells #[.int .i64 0, .int .i64 0] 32 (0, 0)) (by (with_reducible repeat (first | refine blk_drewN ?_ _ | refine blk_drew ?_ | refine blk_alloc ?_ _)); exact BK121.out)) : gb135 ≠ gb121)); clear BK121; clear HB; have BK121 := n0_; have HB := n1_; have BK135 := n2_; have GW135 := n3_; have GE135 := n4_; have NB121_135 := n5_; have NB135_121 := n6_; clear n0_ n1_ n2_ n3_ n4_ n5_ n6_; clear hb hbox hg; have hnb57 := NB135_121.out; have hnc57 := NB121_135.out; have hcz58_0 : w56.cell? ⟨gb135, 0, none⟩ = some (.int .i64 0) := (blk_cell BK135.out 0).trans rfl; have hcz58_1 : w56.cell? ⟨gb135, 1, none⟩ = some (.int .i64 0) := (blk_cell BK135.out 1).trans rfl; have hfz58_0 := blk_frozen BK135.out 0; have hfz58_1 := blk_frozen BK135.out 1))
                have n0_ : Aside0 (((w56.setCell ⟨gb135, 0, none⟩ (.int .i64 t133)).setCell ⟨gb135, 1, none⟩ (.int .i64 t134)).heap[gb121]? = some (.cells #[.int .i64 0, .int .i64 0] 32 (0, 0))) := ⟨by (with_reducible repeat (first | refine blk_drewN ?_ _ | refine blk_drew ?_ | refine blk_alloc ?_ _)); refine blk_far ?_ NB121_135.out _; (with_reducible repeat (first | refine blk_drewN ?_ _ | refine blk_drew ?_ | refine blk_alloc ?_ _)); refine blk_far ?_ NB121_135.out _; (with_reducible repeat (first | refine blk_drewN ?_ _ | refine blk_drew ?_ | refine blk_alloc ?_ _)); exact BK121.out⟩
                have n1_ : Aside0 (((w56.setCell ⟨gb135, 0, none⟩ (.int .i64 t133)).setCell ⟨gb135, 1, none⟩ (.int .i64 t134)).heap[gb135]? = some (.cells #[.int .i64 t133, .int .i64 t134] 32 (0, 0))) := ⟨by (with_reducible repeat (first | refine blk_drewN ?_ _ | refine blk_drew ?_ | refine blk_alloc ?_ _)); refine blk_put (cs := #[.int .i64 t133, .int .i64 0]) ?_ 1 _ rfl; (with_reducible repeat (first | refine blk_drewN ?_ _ | refine blk_drew ?_ | refine blk_alloc ?_ _)); refine blk_put (cs := #[.int .i64 0, .int .i64 0]) ?_ 0 _ rfl; (with_reducible repeat (first | refine blk_drewN ?_ _ | refine blk_drew ?_ | refine blk_alloc ?_ _)); exact BK135.out⟩
                have n2_ : Aside0 (Below w.heap.size w ((w56.setCell ⟨gb135, 0, none⟩ (.int .i64 t133)).setCell ⟨gb135, 1, none⟩ (.int .i64 t134))) := ⟨by repeat (first | (with_reducible first | exact HB.out | apply below_alloc | apply pw_below_drewN | apply below_drew1 | refine below_set ?_ GE121.out | refine below_set ?_ GE135.out) | exact HB.out)⟩
                (try clear BK121)
                (try clear BK135)
                (try clear HB)
                generalize ((w56.setCell ⟨gb135, 0, none⟩ (.int .i64 t133)).setCell ⟨gb135, 1, none⟩ (.int .i64 t134)) = w59 at n0_ n1_ n2_ ⊢
                have BK121 := n0_
                have BK135 := n1_
                have HB := n2_
                clear n0_ n1_ n2_
                have n0_ := Aside0.mk (blk_drew BK121.out)
                have n1_ := Aside0.mk (blk_drew BK135.out)
                have n2_ := Aside0.mk (below_drew1 HB.out)
                clear BK121
                clear BK135
                clear HB
                have BK121 := n0_
                have BK135 := n1_
                have HB := n2_
                clear n0_ n1_ n2_
                refine start_ (n := 4) (S := fun w' => w'.cell? ⟨gb135, 0, none⟩ = some (.int .i64 t133) ∧ w'.cell? ⟨gb135, 1, none⟩ = some (.int .i64 t134)) (ds := []) #[false, false, false, false] (by kernel_rfl) rfl rfl ⟨(blk_cell BK135.out 0).trans rfl, (blk_cell BK135.out 1).trans rfl⟩ (fun hHeld => ?_)
                generalize w59.drew = w60 at BK121 BK135 HB hHeld ⊢
                refine pure_ (i := 1) (N := some 4) (v := ?_) (a' := ?_) #[false, true, false, false] rfl rfl (by kernel_rfl) (fun _ _ _ h => h) (Or.inl ⟨by rfl, ?_⟩) ?_ ?_
                rotate_left
                ·intro w'
                 go_simp
                 with_reducible rfl
                rotate_left
                ·simp only [Act.put, List.setIfInBounds_toArray, List.set_cons_zero, List.set_cons_succ, i64_w, i32_w]
                 rfl
                refine pure_ (i := 2) (N := some 5) (v := ?_) (a' := ?_) #[false, true, true, false] rfl rfl (by kernel_rfl) (fun _ _ _ h => h) (Or.inl ⟨by rfl, ?_⟩) ?_ ?_
                rotate_left
                ·intro w'
                 go_simp
                 with_reducible rfl
                rotate_left
                ·simp only [Act.put, List.setIfInBounds_toArray, List.set_cons_zero, List.set_cons_succ, i64_w, i32_w]
                 rfl
                refine take_ (i := 0) (N := some 70) (v := ?_) (a' := ?_) #[true, true, true, false] rfl rfl (by kernel_rfl) (fun _ _ _ h => h) (Or.inl ⟨by rfl, ?_⟩) hHeld ?_ ?_
                rotate_left
                ·rintro w' ⟨s0, s1⟩
                 go_simp
                 with_reducible rfl
                rotate_left
                ·simp only [Act.put, List.setIfInBounds_toArray, List.set_cons_zero, List.set_cons_succ, i64_w, i32_w]
                 rfl
                refine one_ (i := 3) (N := none) #[true, true, true, true] rfl rfl (by kernel_rfl) (by decide) (fun K hK => ?_)
                have hs61 : w60.cell? ⟨gb121, 0, none⟩ = some (.int .i64 0) := (blk_cell BK121.out 0).trans rfl
                have hfs61 := blk_frozen BK121.out 0
                have hns61_1 := NB135_121.out
                have hms61_1 := NB121_135.out
                have hs62 : w60.cell? ⟨gb121, 1, none⟩ = some (.int .i64 0) := (blk_cell BK121.out 1).trans rfl
                have hfs62 := blk_frozen BK121.out 1
                have hns62_1 := NB135_121.out
                have hms62_1 := NB121_135.out
                refine skip_ (w1 := ?_) (by rfl) rfl ?_ ?_
                rotate_left
                ·go_simp
                 rfl
                refine hK.out _ _ ⟨((cell_far (p := ⟨gb121, _, none⟩) NB135_121.out _).trans (((cell_far (p := ⟨gb121, _, none⟩) NB135_121.out _).trans (hHeld.1)))), ((cell_far (p := ⟨gb121, _, none⟩) NB135_121.out _).trans (((cell_far (p := ⟨gb121, _, none⟩) NB135_121.out _).trans (hHeld.2))))⟩ (fun hHeld => ?_)
                clear hK K
                refine done_ (by kernel_rfl) ?_
                try go_wp2
                refine bodyPost_ret (results_list (rs := [.tmp 4, .tmp 5, .cell 6 32]) rfl (by simp) (.tmp (.tmp (.cell gb121 32 #[.int .i64 t133, .int .i64 t134] (0, 0) _ rfl (by (with_reducible repeat (first | refine blk_drewN ?_ _ | refine blk_drew ?_ | refine blk_alloc ?_ _)); refine blk_put (cs := #[.int .i64 t133, .int .i64 0]) ?_ 1 _ rfl; (with_reducible repeat (first | refine blk_drewN ?_ _ | refine blk_drew ?_ | refine blk_alloc ?_ _)); refine blk_put (cs := #[.int .i64 0, .int .i64 0]) ?_ 0 _ rfl; (with_reducible repeat (first | refine blk_drewN ?_ _ | refine blk_drew ?_ | refine blk_alloc ?_ _)); exact BK121.out) Tryd.underlying32 rfl (by kernel_rfl) .nil)))) rfl ?_
                exact ⟨by first | rfl | (simp [errW_none, errW_some] <;> rfl) | (simp [*, errW_none, errW_some] <;> rfl), by repeat (first | (with_reducible first | exact HB.out | apply below_alloc | apply pw_below_drewN | apply below_drew1 | refine below_set ?_ GE121.out | refine below_set ?_ GE135.out) | exact HB.out)⟩
              ·rw [if_neg c47] at H
               exact absurd H (by simp)
             ·rw [if_neg c46] at H
              exact absurd H (by simp)
            ·rw [if_neg c45] at H
             exact absurd H (by simp)
        ·replace c21 := Bool.eq_false_iff.mpr c21
         subst c21
         have H1 : (some (0, 0, 6, a1)) = some (r1, r2, r3, r4) := by rw [if_neg (show ¬ (false = true) by decide)] at H; exact H
         clear H
         have H := H1
         clear H1
         simp only [Option.some.injEq, Prod.mk.injEq] at H
         obtain ⟨rfl, rfl, rfl, rfl⟩ := H
         have p19 : 0 ≤ (a1 : Int) := of_decide_eq_true (by first | (with_reducible assumption) | assumption)
         have q19 : a1 < (a0.size : Int) := of_decide_eq_true (by first | (with_reducible assumption) | assumption)
         have hx19 := bt_at a0 a1
         replace p19 := eq_true p19
         replace q19 := eq_true q19
         go_wp2_with (first | (go_at_call 75; (with_reducible refine (literal_digit.calls (bt a0 a1) false _ A20.out).mono ?_); rintro e w' ⟨rfl, ⟨nd, rfl⟩⟩; (try (rw [drewN_self wc]; generalize hq_ : World.drewN wc _ = wc; have n0_ : Aside0 (wc.heap[gb121]? = some (.cells #[.int .i64 0, .int .i64 0] 32 (0, 0))) := ⟨by rw [← hq_]; exact (by (with_reducible repeat (first | refine blk_drewN ?_ _ | refine blk_drew ?_ | refine blk_alloc ?_ _)); exact BK121.out)⟩; have n1_ : Aside0 (Below w.heap.size w wc) := ⟨by rw [← hq_]; exact (by repeat (first | (with_reducible first | exact HB.out | apply below_alloc | apply pw_below_drewN | apply below_drew1 | refine below_set ?_ GE121.out) | exact HB.out))⟩; clear BK121 HB hq_; have BK121 := n0_; have HB := n1_; clear n0_ n1_)); have hcz63_0 : wc.cell? ⟨gb121, 0, none⟩ = some (.int .i64 0) := (blk_cell BK121.out 0).trans rfl; have hcz63_1 : wc.cell? ⟨gb121, 1, none⟩ = some (.int .i64 0) := (blk_cell BK121.out 1).trans rfl; have hfz63_0 := blk_frozen BK121.out 0; have hfz63_1 := blk_frozen BK121.out 1))
         refine bodyPost_ret (results_list (rs := [.tmp 4, .tmp 5, .cell 6 32]) rfl (by simp) (.tmp (.tmp (.cell gb121 32 #[.int .i64 6, .int .i64 a1] (0, 0) _ rfl (by (with_reducible repeat (first | refine blk_drewN ?_ _ | refine blk_drew ?_ | refine blk_alloc ?_ _)); refine blk_put (cs := #[.int .i64 6, .int .i64 0]) ?_ 1 _ rfl; (with_reducible repeat (first | refine blk_drewN ?_ _ | refine blk_drew ?_ | refine blk_alloc ?_ _)); refine blk_put (cs := #[.int .i64 0, .int .i64 0]) ?_ 0 _ rfl; (with_reducible repeat (first | refine blk_drewN ?_ _ | refine blk_drew ?_ | refine blk_alloc ?_ _)); exact BK121.out) Tryd.underlying32 rfl (by kernel_rfl) .nil)))) rfl ?_
         exact ⟨by first | rfl | (simp [errW_none, errW_some] <;> rfl) | (simp [*, errW_none, errW_some] <;> rfl), by repeat (first | (with_reducible first | exact HB.out | apply below_alloc | apply pw_below_drewN | apply below_drew1 | refine below_set ?_ GE121.out) | exact HB.out)⟩
       ·rw [if_neg c18] at H
        exact absurd H (by simp)
      ·rw [if_neg c17] at H
       exact absurd H (by simp)

end Go.Proofs.YtjabjooephellaaDoor.XE
