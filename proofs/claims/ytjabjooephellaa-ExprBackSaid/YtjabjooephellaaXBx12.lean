-- PRINTED by print.py (a twelfth state) out of the translation. Not trusted: Lean checks it.
import Derived.Test.YtjabjooephellaaXBx0
import Derived.Test.YtjabjooephellaaXBx2
import Derived.Test.YtjabjooephellaaXBx8
import Derived.Test.YtjabjooephellaaXBx9
import Derived.Test.YtjabjooephellaaXBx10
import Derived.Test.YtjabjooephellaaXBx11
namespace Go.Proofs.Ytjabjooephellaa.XB
open Go.RowKit Go.Proofs.YtjabjooephellaaW.PrintWords Go.Proofs.YtjabjooephellaaW.PrintLast Go.Proofs.YtjabjooephellaaW.PrintMore
attribute [local go_sem] max2_int min2_int max_two min_two max_three min_three max_four min_four   -- for this text's walks alone
set_option linter.unusedVariables false
set_option linter.unusedSimpArgs false

attribute [local go_sem high] eqA48
/-! ### expr_tokens: function 51 -/
def z32_ : S32 := ⟨0, 0, ⟨#[]⟩, 0⟩
set_option maxHeartbeats 4000000 in
set_option maxRecDepth 100000 in
theorem grow_nil (w : World) (n : Int) (h0 : 0 ≤ n) (h1 : n ≤ 1000000000) :
  Calls Try.prog 77 #[.slice none 0 0, .int .i64 n] w fun e w' => ∃ v : Value, e = .returned v ∧ Kd.R k32 32 w' w.heap.size (fun _ => True) v [] ∧ Below w.heap.size w w' := by
 have c0 : decide (n < 0) = false := decide_eq_false (by omega)
 have hw : Go.RowKit.wrap64 n = n := by unfold Go.RowKit.wrap64; omega
 have hwr : IntKind.i64.wrap n = n := by rw [i64_w]; exact hw
 by_cases c1 : 0 < n
 ·have c1b : decide (0 < n) = true := decide_eq_true c1
  have HZ := Aside0.mk h0
  have HL : Aside0 ((([] : List S32).length + n.toNat) * 40 ≤ 140737488355328) := ⟨by simp only [List.length_nil]; omega⟩
  clear c1 h0
  go_enter Try.func77, Try.ntmps77
  go_wp2_with (first | ((with_reducible refine gate_builtin (b := .append) (xs := #[.tmp 20, .tmp 21]) rfl ?_); at_builtin; refine Kd.R_append_zeros k32 (w0 := w) w.heap.size rfl (.tmp 20) (.tmp 21) 24 3 32 (.agg #[(.int .i64 0), (.int .i64 0), (.string ⟨#[]⟩), (.int .i64 0)]) 40 rfl Try.underlying24 Try.underlying3 info32 rfl (by decide) (by decide) (.slice none 0 0) [] z32_ n (fun _ => True) rfl rfl ?aZ (fun _ _ => trivial) ?aO HZ.out ?aB ?aS HL.out ?_; (case aZ => exact k32_mkM _ _ _ z32_); (case aO => exact Kd.R_nil _ _ _ _ _); (case aB => first | exact Below.refl _ _ | exact pw_below_drewN (Below.refl _ _) _); (case aS => exact Nat.le_refl _); intro v1 w1 ho hb hg hat; obtain ⟨A1, c1, rfl⟩ := Kd.R_slice ho; have HO := Aside0.mk ho; have HB := Aside0.mk hb; clear ho hb hg hat))
  go_ret
  exact ⟨_, rfl, by first | exact Kd.R_take (m := 0) HO.out (by omega) | exact Kd.R_drewN (Kd.R_take (m := 0) HO.out (by omega)) _, by first | exact HB.out | exact pw_below_drewN HB.out _⟩
 ·have c1b : decide (0 < n) = false := decide_eq_false c1
  clear c1 h0
  go_enter Try.func77, Try.ntmps77
  go_wp2
  go_ret
  exact ⟨_, rfl, Kd.R_nil _ _ _ _ _, by first | exact Below.refl _ _ | exact pw_below_drewN (Below.refl _ _) _⟩
set_option maxHeartbeats 8000000 in
set_option maxRecDepth 100000 in
theorem concat3 (w : World) (b : Nat) (A1 A2 A3 : Option Addr) (c1 c2 c3 : Nat) (l1 l2 l3 : List S32) (hb : w.heap[b]? = some (.cells #[.slice A1 l1.length c1, .slice A2 l2.length c2, .slice A3 l3.length c3] 24 (0, 0))) (h1 : Kd.C k32 w A1 l1.length l1) (h2 : Kd.C k32 w A2 l2.length l2) (h3 : Kd.C k32 w A3 l3.length l3) (hl1 : l1.length ≤ 100000000) (hl2 : l2.length ≤ 100000000) (hl3 : l3.length ≤ 100000000) :
  Calls Try.prog 65 #[.slice (some ⟨b, 0, none⟩) 3 3] w fun e w' => ∃ v : Value, e = .returned v ∧ Kd.R k32 32 w' w.heap.size (fun _ => True) v (l1 ++ l2 ++ l3) ∧ Below w.heap.size w w' := by
 have k0 : w.cell? ⟨b, 0, none⟩ = some (.slice A1 l1.length c1) := (blk_cell hb 0).trans rfl
 have k1 : w.cell? ⟨b, 1, none⟩ = some (.slice A2 l2.length c2) := (blk_cell hb 1).trans rfl
 have k2 : w.cell? ⟨b, 2, none⟩ = some (.slice A3 l3.length c3) := (blk_cell hb 2).trans rfl
 have HBB := Aside0.mk hb
 have H1 := Aside0.mk h1
 have H2 := Aside0.mk h2
 have H3 := Aside0.mk h3
 have n1 : 0 ≤ (l1.length : Int) := by omega
 have n2 : 0 ≤ (l2.length : Int) := by omega
 have n3 : 0 ≤ (l3.length : Int) := by omega
 clear hb h1 h2 h3
 go_enter Try.func65, Try.ntmps65
 go_wp2
 go_loopg [3, 11] 3 (fun kq v3 v11 w' => w' = w ∧ ((kq = 3 ∧ v11 = .int .i64 0 ∧ v3 = .int .i64 0) ∨ (kq = 2 ∧ v11 = .int .i64 1 ∧ v3 = .int .i64 (l1.length : Int)) ∨ (kq = 1 ∧ v11 = .int .i64 2 ∧ v3 = .int .i64 ((l1.length : Int) + (l2.length : Int))) ∨ (kq = 0 ∧ v11 = .int .i64 3 ∧ v3 = .int .i64 ((l1.length : Int) + (l2.length : Int) + (l3.length : Int)))))
 case atStart => exact ⟨rfl, .inl ⟨rfl, rfl, rfl⟩⟩
 case round =>
  try clear p2
  obtain ⟨rfl, hrel⟩ := hrel
  rcases hrel with ⟨rfl, rfl, rfl⟩ | ⟨rfl, rfl, rfl⟩ | ⟨rfl, rfl, rfl⟩ | ⟨rfl, rfl, rfl⟩
  ·have hw : Go.RowKit.wrap64 (l1.length : Int) = (l1.length : Int) := by unfold Go.RowKit.wrap64; omega
   have hwr : IntKind.i64.wrap (l1.length : Int) = (l1.length : Int) := by rw [i64_w]; exact hw
   have c0 : decide ((l1.length : Int) < 0) = false := decide_eq_false (by omega)
   go_wp2_with fail
   go_roundg 2
   case measure => omega
   case rel => exact ⟨rfl, .inr (.inl ⟨rfl, rfl, by first | rfl | rw [hw]⟩)⟩
  ·have hw : Go.RowKit.wrap64 ((l1.length : Int) + (l2.length : Int)) = ((l1.length : Int) + (l2.length : Int)) := by unfold Go.RowKit.wrap64; omega
   have hwr : IntKind.i64.wrap ((l1.length : Int) + (l2.length : Int)) = ((l1.length : Int) + (l2.length : Int)) := by rw [i64_w]; exact hw
   have c0 : decide (((l1.length : Int) + (l2.length : Int)) < 0) = false := decide_eq_false (by omega)
   go_wp2_with fail
   go_roundg 1
   case measure => omega
   case rel => exact ⟨rfl, .inr (.inr (.inl ⟨rfl, rfl, by first | rfl | rw [hw]⟩))⟩
  ·have hw : Go.RowKit.wrap64 ((l1.length : Int) + (l2.length : Int) + (l3.length : Int)) = ((l1.length : Int) + (l2.length : Int) + (l3.length : Int)) := by unfold Go.RowKit.wrap64; omega
   have hwr : IntKind.i64.wrap ((l1.length : Int) + (l2.length : Int) + (l3.length : Int)) = ((l1.length : Int) + (l2.length : Int) + (l3.length : Int)) := by rw [i64_w]; exact hw
   have c0 : decide (((l1.length : Int) + (l2.length : Int) + (l3.length : Int)) < 0) = false := decide_eq_false (by omega)
   go_wp2_with fail
   go_roundg 0
   case measure => omega
   case rel => exact ⟨rfl, .inr (.inr (.inr ⟨rfl, rfl, by first | rfl | rw [hw]⟩))⟩
  ·go_wp2_with (go_at_call 77; refine (grow_nil _ ((l1.length : Int) + (l2.length : Int) + (l3.length : Int)) (by omega) (by omega)).mono ?_; rintro e w1 ⟨v1, rfl, ho, hB⟩; have HO := Aside0.mk ho; have HB := Aside0.mk hB; have y0 : w1.cell? ⟨b, 0, none⟩ = some (.slice A1 l1.length c1) := (blk_cell ((hB.block _ (blk_lt HBB.out)).trans HBB.out) 0).trans rfl; clear ho hB)
   go_loopg [6, 27] 3 (fun kq v6 v27 w' => Aside0 (Below wr.heap.size wr w') ∧ ((kq = 3 ∧ v27 = .int .i64 0 ∧ Aside0 (Kd.R k32 32 w' wr.heap.size (fun _ => True) v6 [])) ∨ (kq = 2 ∧ v27 = .int .i64 1 ∧ Aside0 (Kd.R k32 32 w' wr.heap.size (fun _ => True) v6 l1)) ∨ (kq = 1 ∧ v27 = .int .i64 2 ∧ Aside0 (Kd.R k32 32 w' wr.heap.size (fun _ => True) v6 (l1 ++ l2))) ∨ (kq = 0 ∧ v27 = .int .i64 3 ∧ Aside0 (Kd.R k32 32 w' wr.heap.size (fun _ => True) v6 (l1 ++ l2 ++ l3)))))
   case atStart => exact ⟨HB, .inl ⟨rfl, rfl, HO⟩⟩
   case round =>
    clear HB HO y0 k0 k1 k2
    try clear p2
    obtain ⟨HB, hrel⟩ := hrel
    have HX := Aside0.mk ((HB.out.block _ (blk_lt HBB.out)).trans HBB.out)
    rcases hrel with ⟨rfl, rfl, HO⟩ | ⟨rfl, rfl, HO⟩ | ⟨rfl, rfl, HO⟩ | ⟨rfl, rfl, HO⟩
    ·have y0 := (blk_cell HX.out 0).trans rfl
     obtain ⟨Av, cv, rfl⟩ := Kd.R_slice HO.out
     have HLEN : Aside0 ((([] : List S32).length + l1.length) * 40 ≤ 140737488355328) := ⟨by first | (rw [List.length_append]; omega) | (rw [List.length_nil]; omega) | omega⟩
     go_wp2_with (first | ((with_reducible refine gate_builtin (b := .append) (xs := #[.tmp 31, .tmp 32]) rfl ?_); at_builtin; refine Kd.R_append_rows k32 _ rfl (.tmp 31) (.tmp 32) 24 32 (.agg #[(.int .i64 0), (.int .i64 0), (.string ⟨#[]⟩), (.int .i64 0)]) 40 rfl Try.underlying24 info32 rfl (by decide) (by decide) (.slice Av ([] : List S32).length cv) ([] : List S32) l1 A1 l1.length c1 (fun _ => True) (fun _ => False) rfl rfl HO.out (Kd.C_below H1.out HB.out) (fun _ _ h => h) (fun _ h => h.elim) (fun _ _ => trivial) HB.out HB.out.size HLEN.out ?_; intro v5 w5 ho hb hg hat; have HR := Aside0.mk ho; have HB5 := Aside0.mk hb; clear ho hb hg hat))
     go_roundg 2
     case measure => omega
     case rel => exact ⟨HB5, .inr (.inl ⟨rfl, rfl, HR⟩)⟩
    ·have y0 := (blk_cell HX.out 1).trans rfl
     obtain ⟨Av, cv, rfl⟩ := Kd.R_slice HO.out
     have HLEN : Aside0 ((l1.length + l2.length) * 40 ≤ 140737488355328) := ⟨by first | (rw [List.length_append]; omega) | (rw [List.length_nil]; omega) | omega⟩
     go_wp2_with (first | ((with_reducible refine gate_builtin (b := .append) (xs := #[.tmp 31, .tmp 32]) rfl ?_); at_builtin; refine Kd.R_append_rows k32 _ rfl (.tmp 31) (.tmp 32) 24 32 (.agg #[(.int .i64 0), (.int .i64 0), (.string ⟨#[]⟩), (.int .i64 0)]) 40 rfl Try.underlying24 info32 rfl (by decide) (by decide) (.slice Av l1.length cv) l1 l2 A2 l2.length c2 (fun _ => True) (fun _ => False) rfl rfl HO.out (Kd.C_below H2.out HB.out) (fun _ _ h => h) (fun _ h => h.elim) (fun _ _ => trivial) HB.out HB.out.size HLEN.out ?_; intro v5 w5 ho hb hg hat; have HR := Aside0.mk ho; have HB5 := Aside0.mk hb; clear ho hb hg hat))
     go_roundg 1
     case measure => omega
     case rel => exact ⟨HB5, .inr (.inr (.inl ⟨rfl, rfl, HR⟩))⟩
    ·have y0 := (blk_cell HX.out 2).trans rfl
     obtain ⟨Av, cv, rfl⟩ := Kd.R_slice HO.out
     have HLEN : Aside0 (((l1 ++ l2).length + l3.length) * 40 ≤ 140737488355328) := ⟨by first | (rw [List.length_append]; omega) | (rw [List.length_nil]; omega) | omega⟩
     go_wp2_with (first | ((with_reducible refine gate_builtin (b := .append) (xs := #[.tmp 31, .tmp 32]) rfl ?_); at_builtin; refine Kd.R_append_rows k32 _ rfl (.tmp 31) (.tmp 32) 24 32 (.agg #[(.int .i64 0), (.int .i64 0), (.string ⟨#[]⟩), (.int .i64 0)]) 40 rfl Try.underlying24 info32 rfl (by decide) (by decide) (.slice Av (l1 ++ l2).length cv) (l1 ++ l2) l3 A3 l3.length c3 (fun _ => True) (fun _ => False) rfl rfl HO.out (Kd.C_below H3.out HB.out) (fun _ _ h => h) (fun _ h => h.elim) (fun _ _ => trivial) HB.out HB.out.size HLEN.out ?_; intro v5 w5 ho hb hg hat; have HR := Aside0.mk ho; have HB5 := Aside0.mk hb; clear ho hb hg hat))
     go_roundg 0
     case measure => omega
     case rel => exact ⟨HB5, .inr (.inr (.inr ⟨rfl, rfl, HR⟩))⟩
    ·go_wp2
     go_ret
     refine ⟨_, ?_, by first | exact HO.out | (have z := HO.out; rw [List.append_assoc] at z; exact z), HB.out⟩
     rfl
theorem concat3n (w : World) (b : Nat) (A1 A2 A3 : Option Addr) (c1 c2 c3 n1 n2 n3 : Nat) (l1 l2 l3 : List S32) (hb : w.heap[b]? = some (.cells #[.slice A1 n1 c1, .slice A2 n2 c2, .slice A3 n3 c3] 24 (0, 0))) (e1 : n1 = l1.length) (e2 : n2 = l2.length) (e3 : n3 = l3.length) (h1 : Kd.C k32 w A1 l1.length l1) (h2 : Kd.C k32 w A2 l2.length l2) (h3 : Kd.C k32 w A3 l3.length l3) (hl1 : l1.length ≤ 100000000) (hl2 : l2.length ≤ 100000000) (hl3 : l3.length ≤ 100000000) :
  Calls Try.prog 65 #[.slice (some ⟨b, 0, none⟩) 3 3] w fun e w' => ∃ v : Value, e = .returned v ∧ Kd.R k32 32 w' w.heap.size (fun _ => True) v (l1 ++ l2 ++ l3) ∧ Below w.heap.size w w' := by
 subst e1; subst e2; subst e3
 exact concat3 w b A1 A2 A3 c1 c2 c3 l1 l2 l3 hb h1 h2 h3 hl1 hl2 hl3
abbrev mkT (s : ByteArray) : S32 := ⟨4, 0, s, 0⟩
def tokR (x : List S48) : Nat → Int → Bool → Option (List S32)
 | 0, _, _ => none
 | k + 1, at_, whole => if 0 ≤ at_ ∧ at_ < (x.length : Int) then (
   if (rd_T48 x at_).f0 = 1 then some [⟨2, (rd_T48 x at_).f1, ⟨#[]⟩, 0⟩]
   else if (rd_T48 x at_).f0 = 2 then some [⟨1, 0, (rd_T48 x at_).f2, 0⟩]
   else if 3 ≤ (rd_T48 x at_).f0 ∧ (rd_T48 x at_).f0 ≤ 16 then (
    if opsV (rd_T48 x at_).f0 = 0 then some [mkT (signR (rd_T48 x at_).f0)]
    else if opsV (rd_T48 x at_).f0 = 1 then ((tokR x k (rd_T48 x at_).f3 false).bind fun l => if l.length ≤ 10000000 then some (mkT (signR (rd_T48 x at_).f0) :: l) else none)
    else ((tokR x k (rd_T48 x at_).f3 false).bind fun l => (tokR x k (rd_T48 x at_).f4 false).bind fun r => if l.length ≤ 10000000 ∧ r.length ≤ 10000000 then some (if whole = true then l ++ [mkT (signR (rd_T48 x at_).f0)] ++ r else [mkT ⟨#[40]⟩] ++ (l ++ [mkT (signR (rd_T48 x at_).f0)] ++ r) ++ [mkT ⟨#[41]⟩]) else none))
   else none)
  else none
theorem lit_of_blk {w : World} {g base : Nat} {t : S32} (h : w.heap[g]? = some (.cells #[.int .i64 t.f0, .int .i64 t.f1, .string t.f2, .int .i64 t.f3] 32 (0, 0))) (hb : base ≤ g) : Kd.R k32 32 w base (fun _ => True) (.slice (some ⟨g, 0, none⟩) 1 1) [t] := by
 refine ⟨fun _ _ => trivial, [.int .i64 t.f0, .int .i64 t.f1, .string t.f2, .int .i64 t.f3], ⟨rfl, .inr ⟨g, 1, #[.int .i64 t.f0, .int .i64 t.f1, .string t.f2, .int .i64 t.f3], rfl, hb, h, Nat.le_refl _, by decide, rfl, rfl⟩⟩, ?_⟩
 exact Reps.c4 (k32_mkM _ _ _ t) (Reps.none _ _)
theorem blk_new2 (w : World) (o1 o2 : Obj) : ((w.alloc o1).alloc o2).heap[w.heap.size + 1]? = some o2 := by
 have h := blk_new (w.alloc o1) o2
 rw [show (w.alloc o1).heap.size = w.heap.size + 1 from Array.size_push _] at h
 exact h
set_option maxHeartbeats 16000000 in
set_option maxRecDepth 100000 in
theorem tok_calls (w0 : World) (A0 : Option Addr) (c0 : Nat) (x : List S48) (hC : Kd.C k48 w0 A0 x.length x) : ∀ (k : Nat) (at_ : Int) (whole : Bool) (r : List S32) (w : World), Below w0.heap.size w0 w → tokR x k at_ whole = some r →
  Calls Try.prog 51 #[.slice A0 x.length c0, .int .i64 at_, .bool whole] w fun e w' => ∃ v : Value, e = .returned v ∧ Kd.R k32 32 w' w.heap.size (fun _ => True) v r ∧ Below w.heap.size w w' := by
 have hu := Try.underlying48
 have hu32 := Try.underlying32
 intro k
 induction k with
 | zero => intro at_ whole r w _ h; exact absurd h (by simp [tokR])
 | succ k ih =>
  intro at_ whole r w hw0 h
  rw [tokR] at h
  by_cases c1 : 0 ≤ at_ ∧ at_ < (x.length : Int)
  case neg => rw [if_neg c1] at h; exact absurd h (by simp)
  rw [if_pos c1] at h
  obtain ⟨a0, a1⟩ := c1
  obtain ⟨ad, ead, t0, t1, t2, t3, t4⟩ := at_T48 (Kd.C_below hC hw0) at_ a0 a1
  cases ead
  have hp := eq_true a0
  have hq := eq_true a1
  generalize rd_T48 x at_ = n at h t0 t1 t2 t3 t4
  have HB0 := Aside0.mk (below_alloc (Below.refl w.heap.size w) (.cells #[.int .i64 n.f0, .int .i64 n.f1, .string n.f2, .int .i64 n.f3, .int .i64 n.f4] 48))
  have BX : Aside0 (∀ W, Below (w.alloc (.cells #[.int .i64 n.f0, .int .i64 n.f1, .string n.f2, .int .i64 n.f3, .int .i64 n.f4] 48)).heap.size (w.alloc (.cells #[.int .i64 n.f0, .int .i64 n.f1, .string n.f2, .int .i64 n.f3, .int .i64 n.f4] 48)) W → W.heap[w.heap.size]? = some (.cells #[.int .i64 n.f0, .int .i64 n.f1, .string n.f2, .int .i64 n.f3, .int .i64 n.f4] 48)) := ⟨fun W h => (h.block _ (blk_lt (blk_new w _))).trans (blk_new w _)⟩
  have HB := Aside0.mk (Below.refl (w.alloc (.cells #[.int .i64 n.f0, .int .i64 n.f1, .string n.f2, .int .i64 n.f3, .int .i64 n.f4] 48)).heap.size (w.alloc (.cells #[.int .i64 n.f0, .int .i64 n.f1, .string n.f2, .int .i64 n.f3, .int .i64 n.f4] 48)))
  have HSX : Aside0 (∀ W, Below (w.alloc (.cells #[.int .i64 n.f0, .int .i64 n.f1, .string n.f2, .int .i64 n.f3, .int .i64 n.f4] 48)).heap.size (w.alloc (.cells #[.int .i64 n.f0, .int .i64 n.f1, .string n.f2, .int .i64 n.f3, .int .i64 n.f4] 48)) W → W.cell? ⟨w.heap.size, 0, none⟩ = some (.int .i64 n.f0) ∧ W.cell? ⟨w.heap.size, 3, none⟩ = some (.int .i64 n.f3) ∧ W.cell? ⟨w.heap.size, 4, none⟩ = some (.int .i64 n.f4)) := ⟨fun W h => ⟨(blk_cell (BX.out W h) 0).trans rfl, (blk_cell (BX.out W h) 3).trans rfl, (blk_cell (BX.out W h) 4).trans rfl⟩⟩
  have HOP := Aside0.mk (fun w1 => rd_operands n.f0 w1)
  have HW0 := Aside0.mk hw0
  have IH : Aside0 (∀ (at_ : Int) (whole : Bool) (r : List S32) (w1 : World), Below w.heap.size w w1 → tokR x k at_ whole = some r → Calls Try.prog 51 #[.slice (some ad) x.length c0, .int .i64 at_, .bool whole] w1 fun e w' => ∃ v : Value, e = .returned v ∧ Kd.R k32 32 w' w1.heap.size (fun _ => True) v r ∧ Below w1.heap.size w1 w') := ⟨fun at_ whole r w1 hb h => ih at_ whole r w1 (below_step HW0.out hb) h⟩
  clear hC ih hw0 a0 a1
  by_cases c2 : n.f0 = 1
  ·rw [if_pos c2] at h
   obtain rfl := Option.some.inj h
   have c2b : (n.f0 == 1) = true := by simp [c2]
   clear c2 h
   go_enter Try.func51, Try.ntmps51
   go_wp2_with (first | (go_at_call 32; refine (HOP.out _).mono ?_; rintro e w_ ⟨rfl, hd⟩; have hb := Drawn0.below hd; (try (have HLB := Aside0.mk (And.intro ((hb.block _ (blk_lt (blk_new _ _))).trans (blk_new _ _)) HB.out.size))); (try (have z_ := Aside0.mk (And.intro ((hb.block _ (blk_lt HLB.out.1)).trans HLB.out.1) HLB.out.2); clear HLB; have HLB := z_; clear z_)); (try (have z_ := Aside0.mk (Kd.R_below (by (with_reducible repeat (first | apply Kd.R_alloc | apply Kd.R_drewN | apply Kd.R_drew)); exact HT1.out) hb); clear HT1; have HT1 := z_; clear z_)); (try (have z_ := Aside0.mk (Kd.R_below (by (with_reducible repeat (first | apply Kd.R_alloc | apply Kd.R_drewN | apply Kd.R_drew)); exact HT2.out) hb); clear HT2; have HT2 := z_; clear z_)); have z_ := Aside0.mk (below_step (by repeat (first | (with_reducible first | exact HB.out | apply below_alloc | apply pw_below_drewN | apply below_drew1 | apply below_drew) | exact HB.out)) hb); clear HB; have HB := z_; clear z_; (try clear q0); have q0 := (blk_cell (BX.out _ HB.out) 0).trans rfl; (try clear q1); have q1 := (blk_cell (BX.out _ HB.out) 1).trans rfl; (try clear q2); have q2 := (blk_cell (BX.out _ HB.out) 2).trans rfl; (try clear q3); have q3 := (blk_cell (BX.out _ HB.out) 3).trans rfl; (try clear q4); have q4 := (blk_cell (BX.out _ HB.out) 4).trans rfl; clear hd hb))
   go_ret
   refine ⟨_, ?_, lit_of_blk (t := (⟨2, n.f1, ⟨#[]⟩, 0⟩ : S32)) (blk_new _ _) (Nat.le_trans HB0.out.size HB.out.size), below_alloc (below_step HB0.out HB.out) _⟩
   rfl
  ·rw [if_neg c2] at h
   have c2b : (n.f0 == 1) = false := by simp [c2]
   clear c2
   by_cases c3 : n.f0 = 2
   ·rw [if_pos c3] at h
    obtain rfl := Option.some.inj h
    have c3b : (n.f0 == 2) = true := by simp [c3]
    clear c3 h
    go_enter Try.func51, Try.ntmps51
    go_wp2_with (first | (go_at_call 32; refine (HOP.out _).mono ?_; rintro e w_ ⟨rfl, hd⟩; have hb := Drawn0.below hd; (try (have HLB := Aside0.mk (And.intro ((hb.block _ (blk_lt (blk_new _ _))).trans (blk_new _ _)) HB.out.size))); (try (have z_ := Aside0.mk (And.intro ((hb.block _ (blk_lt HLB.out.1)).trans HLB.out.1) HLB.out.2); clear HLB; have HLB := z_; clear z_)); (try (have z_ := Aside0.mk (Kd.R_below (by (with_reducible repeat (first | apply Kd.R_alloc | apply Kd.R_drewN | apply Kd.R_drew)); exact HT1.out) hb); clear HT1; have HT1 := z_; clear z_)); (try (have z_ := Aside0.mk (Kd.R_below (by (with_reducible repeat (first | apply Kd.R_alloc | apply Kd.R_drewN | apply Kd.R_drew)); exact HT2.out) hb); clear HT2; have HT2 := z_; clear z_)); have z_ := Aside0.mk (below_step (by repeat (first | (with_reducible first | exact HB.out | apply below_alloc | apply pw_below_drewN | apply below_drew1 | apply below_drew) | exact HB.out)) hb); clear HB; have HB := z_; clear z_; (try clear q0); have q0 := (blk_cell (BX.out _ HB.out) 0).trans rfl; (try clear q1); have q1 := (blk_cell (BX.out _ HB.out) 1).trans rfl; (try clear q2); have q2 := (blk_cell (BX.out _ HB.out) 2).trans rfl; (try clear q3); have q3 := (blk_cell (BX.out _ HB.out) 3).trans rfl; (try clear q4); have q4 := (blk_cell (BX.out _ HB.out) 4).trans rfl; clear hd hb))
    go_ret
    refine ⟨_, ?_, lit_of_blk (t := (⟨1, 0, n.f2, 0⟩ : S32)) (blk_new _ _) (Nat.le_trans HB0.out.size HB.out.size), below_alloc (below_step HB0.out HB.out) _⟩
    rfl
   ·rw [if_neg c3] at h
    have c3b : (n.f0 == 2) = false := by simp [c3]
    clear c3
    by_cases c4 : 3 ≤ n.f0 ∧ n.f0 ≤ 16
    case neg => rw [if_neg c4] at h; exact absurd h (by simp)
    rw [if_pos c4] at h
    have HS := Aside0.mk c4
    clear c4
    have hov := opsV_of n.f0
    generalize opsV n.f0 = kk at h HOP hov
    by_cases c5 : kk = 0
    ·rw [if_pos c5] at h
     obtain rfl := Option.some.inj h
     have c5b : (kk == 0) = true := by simp [c5]
     clear c5 h hov
     go_enter Try.func51, Try.ntmps51
     go_wp2_with (first | (go_at_call 32; refine (HOP.out _).mono ?_; rintro e w_ ⟨rfl, hd⟩; have hb := Drawn0.below hd; (try (have HLB := Aside0.mk (And.intro ((hb.block _ (blk_lt (blk_new _ _))).trans (blk_new _ _)) HB.out.size))); (try (have z_ := Aside0.mk (And.intro ((hb.block _ (blk_lt HLB.out.1)).trans HLB.out.1) HLB.out.2); clear HLB; have HLB := z_; clear z_)); (try (have z_ := Aside0.mk (Kd.R_below (by (with_reducible repeat (first | apply Kd.R_alloc | apply Kd.R_drewN | apply Kd.R_drew)); exact HT1.out) hb); clear HT1; have HT1 := z_; clear z_)); (try (have z_ := Aside0.mk (Kd.R_below (by (with_reducible repeat (first | apply Kd.R_alloc | apply Kd.R_drewN | apply Kd.R_drew)); exact HT2.out) hb); clear HT2; have HT2 := z_; clear z_)); have z_ := Aside0.mk (below_step (by repeat (first | (with_reducible first | exact HB.out | apply below_alloc | apply pw_below_drewN | apply below_drew1 | apply below_drew) | exact HB.out)) hb); clear HB; have HB := z_; clear z_; (try clear q0); have q0 := (blk_cell (BX.out _ HB.out) 0).trans rfl; (try clear q1); have q1 := (blk_cell (BX.out _ HB.out) 1).trans rfl; (try clear q2); have q2 := (blk_cell (BX.out _ HB.out) 2).trans rfl; (try clear q3); have q3 := (blk_cell (BX.out _ HB.out) 3).trans rfl; (try clear q4); have q4 := (blk_cell (BX.out _ HB.out) 4).trans rfl; clear hd hb) | (go_at_call 64; refine (rd_sign _ n.f0 HS.out.1 HS.out.2).mono ?_; rintro e w_ ⟨rfl, hd⟩; have hb := Drawn0.below hd; (try (have HLB := Aside0.mk (And.intro ((hb.block _ (blk_lt (blk_new _ _))).trans (blk_new _ _)) HB.out.size))); (try (have z_ := Aside0.mk (And.intro ((hb.block _ (blk_lt HLB.out.1)).trans HLB.out.1) HLB.out.2); clear HLB; have HLB := z_; clear z_)); (try (have z_ := Aside0.mk (Kd.R_below (by (with_reducible repeat (first | apply Kd.R_alloc | apply Kd.R_drewN | apply Kd.R_drew)); exact HT1.out) hb); clear HT1; have HT1 := z_; clear z_)); (try (have z_ := Aside0.mk (Kd.R_below (by (with_reducible repeat (first | apply Kd.R_alloc | apply Kd.R_drewN | apply Kd.R_drew)); exact HT2.out) hb); clear HT2; have HT2 := z_; clear z_)); have z_ := Aside0.mk (below_step (by repeat (first | (with_reducible first | exact HB.out | apply below_alloc | apply pw_below_drewN | apply below_drew1 | apply below_drew) | exact HB.out)) hb); clear HB; have HB := z_; clear z_; (try clear q0); have q0 := (blk_cell (BX.out _ HB.out) 0).trans rfl; (try clear q1); have q1 := (blk_cell (BX.out _ HB.out) 1).trans rfl; (try clear q2); have q2 := (blk_cell (BX.out _ HB.out) 2).trans rfl; (try clear q3); have q3 := (blk_cell (BX.out _ HB.out) 3).trans rfl; (try clear q4); have q4 := (blk_cell (BX.out _ HB.out) 4).trans rfl; clear hd hb) | (go_at_call 63; refine (expr_mark.calls (signR n.f0) 4 0 (signR n.f0) 0 _ rfl).mono ?_; rintro e w_ ⟨rfl, hb⟩; (try (have HLB := Aside0.mk (And.intro ((hb.block _ (blk_lt (blk_new _ _))).trans (blk_new _ _)) HB.out.size))); (try (have z_ := Aside0.mk (And.intro ((hb.block _ (blk_lt HLB.out.1)).trans HLB.out.1) HLB.out.2); clear HLB; have HLB := z_; clear z_)); (try (have z_ := Aside0.mk (Kd.R_below (by (with_reducible repeat (first | apply Kd.R_alloc | apply Kd.R_drewN | apply Kd.R_drew)); exact HT1.out) hb); clear HT1; have HT1 := z_; clear z_)); (try (have z_ := Aside0.mk (Kd.R_below (by (with_reducible repeat (first | apply Kd.R_alloc | apply Kd.R_drewN | apply Kd.R_drew)); exact HT2.out) hb); clear HT2; have HT2 := z_; clear z_)); have z_ := Aside0.mk (below_step (by repeat (first | (with_reducible first | exact HB.out | apply below_alloc | apply pw_below_drewN | apply below_drew1 | apply below_drew) | exact HB.out)) hb); clear HB; have HB := z_; clear z_; (try clear q0); have q0 := (blk_cell (BX.out _ HB.out) 0).trans rfl; (try clear q1); have q1 := (blk_cell (BX.out _ HB.out) 1).trans rfl; (try clear q2); have q2 := (blk_cell (BX.out _ HB.out) 2).trans rfl; (try clear q3); have q3 := (blk_cell (BX.out _ HB.out) 3).trans rfl; (try clear q4); have q4 := (blk_cell (BX.out _ HB.out) 4).trans rfl; clear hb))
     go_ret
     refine ⟨_, ?_, lit_of_blk (t := mkT (signR n.f0)) (blk_new _ _) (Nat.le_trans HB0.out.size HB.out.size), below_alloc (below_step HB0.out HB.out) _⟩
     rfl
    ·rw [if_neg c5] at h
     have c5b : (kk == 0) = false := by simp [c5]
     clear c5
     by_cases c6 : kk = 1
     ·rw [if_pos c6] at h
      have c6b : (kk == 1) = true := by simp [c6]
      clear c6 hov
      obtain ⟨l1, hl1, h⟩ := Option.bind_eq_some_iff.1 h
      by_cases c7 : l1.length ≤ 10000000
      case neg => rw [if_neg c7] at h; exact absurd h (by simp)
      rw [if_pos c7] at h
      obtain rfl := Option.some.inj h
      have HL1 := Aside0.mk hl1
      have HN1 := Aside0.mk c7
      clear h hl1 c7
      have HLEN : Aside0 (([mkT (signR n.f0)].length + l1.length) * 40 ≤ 140737488355328) := ⟨by have := HN1.out; rw [List.length_singleton]; omega⟩
      go_enter Try.func51, Try.ntmps51
      go_wp2_with (first | (go_at_call 32; refine (HOP.out _).mono ?_; rintro e w_ ⟨rfl, hd⟩; have hb := Drawn0.below hd; (try (have HLB := Aside0.mk (And.intro ((hb.block _ (blk_lt (blk_new _ _))).trans (blk_new _ _)) HB.out.size))); (try (have z_ := Aside0.mk (And.intro ((hb.block _ (blk_lt HLB.out.1)).trans HLB.out.1) HLB.out.2); clear HLB; have HLB := z_; clear z_)); (try (have z_ := Aside0.mk (Kd.R_below (by (with_reducible repeat (first | apply Kd.R_alloc | apply Kd.R_drewN | apply Kd.R_drew)); exact HT1.out) hb); clear HT1; have HT1 := z_; clear z_)); (try (have z_ := Aside0.mk (Kd.R_below (by (with_reducible repeat (first | apply Kd.R_alloc | apply Kd.R_drewN | apply Kd.R_drew)); exact HT2.out) hb); clear HT2; have HT2 := z_; clear z_)); have z_ := Aside0.mk (below_step (by repeat (first | (with_reducible first | exact HB.out | apply below_alloc | apply pw_below_drewN | apply below_drew1 | apply below_drew) | exact HB.out)) hb); clear HB; have HB := z_; clear z_; (try clear q0); have q0 := (blk_cell (BX.out _ HB.out) 0).trans rfl; (try clear q1); have q1 := (blk_cell (BX.out _ HB.out) 1).trans rfl; (try clear q2); have q2 := (blk_cell (BX.out _ HB.out) 2).trans rfl; (try clear q3); have q3 := (blk_cell (BX.out _ HB.out) 3).trans rfl; (try clear q4); have q4 := (blk_cell (BX.out _ HB.out) 4).trans rfl; clear hd hb))
      go_region_held3 (fun w' => w'.cell? ⟨w.heap.size, 0, none⟩ = some (.int .i64 n.f0) ∧ w'.cell? ⟨w.heap.size, 3, none⟩ = some (.int .i64 n.f3) ∧ w'.cell? ⟨w.heap.size, 4, none⟩ = some (.int .i64 n.f4)) (first | exact HSX.out _ (by repeat (first | (with_reducible first | exact HB.out | apply below_alloc | apply pw_below_drewN | apply below_drew1 | apply below_drew) | exact HB.out))) (first | (go_at_call 64; with_reducible refine (rd_sign _ n.f0 HS.out.1 HS.out.2).mono ?_; rintro e w_ ⟨rfl, hd⟩; have hb := Drawn0.below hd; (try (have HLB := Aside0.mk (And.intro ((hb.block _ (blk_lt (blk_new _ _))).trans (blk_new _ _)) HB.out.size))); (try (have z_ := Aside0.mk (And.intro ((hb.block _ (blk_lt HLB.out.1)).trans HLB.out.1) HLB.out.2); clear HLB; have HLB := z_; clear z_)); (try (have z_ := Aside0.mk (Kd.R_below (by (with_reducible repeat (first | apply Kd.R_alloc | apply Kd.R_drewN | apply Kd.R_drew)); exact HT1.out) hb); clear HT1; have HT1 := z_; clear z_)); (try (have z_ := Aside0.mk (Kd.R_below (by (with_reducible repeat (first | apply Kd.R_alloc | apply Kd.R_drewN | apply Kd.R_drew)); exact HT2.out) hb); clear HT2; have HT2 := z_; clear z_)); have z_ := Aside0.mk (below_step (by repeat (first | (with_reducible first | exact HB.out | apply below_alloc | apply pw_below_drewN | apply below_drew1 | apply below_drew) | exact HB.out)) hb); clear HB; have HB := z_; clear z_; clear hd hb) | (go_at_call 63; with_reducible refine (expr_mark.calls (signR n.f0) 4 0 (signR n.f0) 0 _ rfl).mono ?_; rintro e w_ ⟨rfl, hb⟩; (try (have HLB := Aside0.mk (And.intro ((hb.block _ (blk_lt (blk_new _ _))).trans (blk_new _ _)) HB.out.size))); (try (have z_ := Aside0.mk (And.intro ((hb.block _ (blk_lt HLB.out.1)).trans HLB.out.1) HLB.out.2); clear HLB; have HLB := z_; clear z_)); (try (have z_ := Aside0.mk (Kd.R_below (by (with_reducible repeat (first | apply Kd.R_alloc | apply Kd.R_drewN | apply Kd.R_drew)); exact HT1.out) hb); clear HT1; have HT1 := z_; clear z_)); (try (have z_ := Aside0.mk (Kd.R_below (by (with_reducible repeat (first | apply Kd.R_alloc | apply Kd.R_drewN | apply Kd.R_drew)); exact HT2.out) hb); clear HT2; have HT2 := z_; clear z_)); have z_ := Aside0.mk (below_step (by repeat (first | (with_reducible first | exact HB.out | apply below_alloc | apply pw_below_drewN | apply below_drew1 | apply below_drew) | exact HB.out)) hb); clear HB; have HB := z_; clear z_; clear hb) | (go_at_call 51; with_reducible refine (IH.out n.f3 false l1 _ (below_step HB0.out (by repeat (first | (with_reducible first | exact HB.out | apply below_alloc | apply pw_below_drewN | apply below_drew1 | apply below_drew) | exact HB.out))) HL1.out).mono ?_; rintro e w_ ⟨v_, rfl, ho, hb⟩; obtain ⟨A1, c1, rfl⟩ := Kd.R_slice ho; have HT1 := Aside0.mk (Kd.R_lower (base' := (w.alloc (.cells #[.int .i64 n.f0, .int .i64 n.f1, .string n.f2, .int .i64 n.f3, .int .i64 n.f4] 48)).heap.size) ho (below_size (by repeat (first | (with_reducible first | exact HB.out | apply below_alloc | apply pw_below_drewN | apply below_drew1 | apply below_drew) | exact HB.out)))); (try (have HLB := Aside0.mk (And.intro ((hb.block _ (blk_lt (blk_new _ _))).trans (blk_new _ _)) HB.out.size))); (try (have z_ := Aside0.mk (And.intro ((hb.block _ (blk_lt HLB.out.1)).trans HLB.out.1) HLB.out.2); clear HLB; have HLB := z_; clear z_)); (try (have z_ := Aside0.mk (Kd.R_below (by (with_reducible repeat (first | apply Kd.R_alloc | apply Kd.R_drewN | apply Kd.R_drew)); exact HT1.out) hb); clear HT1; have HT1 := z_; clear z_)); (try (have z_ := Aside0.mk (Kd.R_below (by (with_reducible repeat (first | apply Kd.R_alloc | apply Kd.R_drewN | apply Kd.R_drew)); exact HT2.out) hb); clear HT2; have HT2 := z_; clear z_)); have z_ := Aside0.mk (below_step (by repeat (first | (with_reducible first | exact HB.out | apply below_alloc | apply pw_below_drewN | apply below_drew1 | apply below_drew) | exact HB.out)) hb); clear HB; have HB := z_; clear z_; clear ho hb) | (refine Kd.R_append_rows_step k32 (w0 := w.alloc (.cells #[.int .i64 n.f0, .int .i64 n.f1, .string n.f2, .int .i64 n.f3, .int .i64 n.f4] 48)) (w.alloc (.cells #[.int .i64 n.f0, .int .i64 n.f1, .string n.f2, .int .i64 n.f3, .int .i64 n.f4] 48)).heap.size (by rfl) (.tmp 48) (.tmp 52) 24 32 (.agg #[(.int .i64 0), (.int .i64 0), (.string ⟨#[]⟩), (.int .i64 0)]) 40 rfl Try.underlying24 info32 rfl (by decide) (by decide) _ [mkT (signR n.f0)] l1 A1 l1.length c1 (fun _ => True) (fun _ => False) ?aV ?aX (lit_of_blk (t := mkT (signR n.f0)) HLB.out.1 HLB.out.2) (Kd.R_reads' (HT1.out)).2.2 (fun _ _ h => h) (fun _ h => h.elim) (fun _ _ => trivial) ?aB ?aS ?aL ?_; (case aV => first | (go_simp; done) | (go_simp; rfl)); (case aX => first | (go_simp; done) | (go_simp; rfl)); (case aB => exact (by repeat (first | (with_reducible first | exact HB.out | apply below_alloc | apply pw_below_drewN | apply below_drew1 | apply below_drew) | exact HB.out))); (case aS => exact below_size (by repeat (first | (with_reducible first | exact HB.out | apply below_alloc | apply pw_below_drewN | apply below_drew1 | apply below_drew) | exact HB.out))); (case aL => exact HLEN.out); intro v5 w5 ho hb hg hat; have HR := Aside0.mk ho; clear HB; have HB := Aside0.mk hb; clear ho hb hg hat) | (refine Kd.R_append_rows_step k32 (w0 := w.alloc (.cells #[.int .i64 n.f0, .int .i64 n.f1, .string n.f2, .int .i64 n.f3, .int .i64 n.f4] 48)) (w.alloc (.cells #[.int .i64 n.f0, .int .i64 n.f1, .string n.f2, .int .i64 n.f3, .int .i64 n.f4] 48)).heap.size (by rfl) (.tmp 48) (.tmp 52) 24 32 (.agg #[(.int .i64 0), (.int .i64 0), (.string ⟨#[]⟩), (.int .i64 0)]) 40 rfl Try.underlying24 info32 rfl (by decide) (by decide) _ [mkT (signR n.f0)] l1 A1 l1.length c1 (fun _ => True) (fun _ => False) ?aV ?aX (lit_of_blk (t := mkT (signR n.f0)) (blk_new _ _) HB.out.size) (Kd.R_reads' (Kd.R_alloc HT1.out _)).2.2 (fun _ _ h => h) (fun _ h => h.elim) (fun _ _ => trivial) ?aB ?aS ?aL ?_; (case aV => first | (go_simp; done) | (go_simp; rfl)); (case aX => first | (go_simp; done) | (go_simp; rfl)); (case aB => exact (by repeat (first | (with_reducible first | exact HB.out | apply below_alloc | apply pw_below_drewN | apply below_drew1 | apply below_drew) | exact HB.out))); (case aS => exact below_size (by repeat (first | (with_reducible first | exact HB.out | apply below_alloc | apply pw_below_drewN | apply below_drew1 | apply below_drew) | exact HB.out))); (case aL => exact HLEN.out); intro v5 w5 ho hb hg hat; have HR := Aside0.mk ho; clear HB; have HB := Aside0.mk hb; clear ho hb hg hat))
      all_goals go_wp2
      all_goals go_ret
      all_goals (refine ⟨_, ?_, Kd.R_lower HR.out HB0.out.size, below_step HB0.out HB.out⟩; rfl)
     ·rw [if_neg c6] at h
      have c6b : (kk == 1) = false := by simp [c6]
      clear c6 hov
      obtain ⟨l1, hl1, h⟩ := Option.bind_eq_some_iff.1 h
      obtain ⟨l2, hl2, h⟩ := Option.bind_eq_some_iff.1 h
      by_cases c7 : l1.length ≤ 10000000 ∧ l2.length ≤ 10000000
      case neg => rw [if_neg c7] at h; exact absurd h (by simp)
      rw [if_pos c7] at h
      obtain rfl := Option.some.inj h
      have HL1 := Aside0.mk hl1
      have HL2 := Aside0.mk hl2
      have HN1 := Aside0.mk c7.1
      have HN2 := Aside0.mk c7.2
      clear h hl1 hl2 c7
      obtain ⟨lm, hlm⟩ : ∃ lm, lm = l1 ++ [mkT (signR n.f0)] ++ l2 := ⟨_, rfl⟩
      rw [← hlm]
      have HLM := Aside0.mk hlm
      clear hlm
      go_enter Try.func51, Try.ntmps51
      go_upto_region 11 with (first | (go_at_call 32; refine (HOP.out _).mono ?_; rintro e w_ ⟨rfl, hd⟩; have hb := Drawn0.below hd; (try (have HLB := Aside0.mk (And.intro ((hb.block _ (blk_lt (blk_new _ _))).trans (blk_new _ _)) HB.out.size))); (try (have z_ := Aside0.mk (And.intro ((hb.block _ (blk_lt HLB.out.1)).trans HLB.out.1) HLB.out.2); clear HLB; have HLB := z_; clear z_)); (try (have z_ := Aside0.mk (Kd.R_below (by (with_reducible repeat (first | apply Kd.R_alloc | apply Kd.R_drewN | apply Kd.R_drew)); exact HT1.out) hb); clear HT1; have HT1 := z_; clear z_)); (try (have z_ := Aside0.mk (Kd.R_below (by (with_reducible repeat (first | apply Kd.R_alloc | apply Kd.R_drewN | apply Kd.R_drew)); exact HT2.out) hb); clear HT2; have HT2 := z_; clear z_)); have z_ := Aside0.mk (below_step (by repeat (first | (with_reducible first | exact HB.out | apply below_alloc | apply pw_below_drewN | apply below_drew1 | apply below_drew) | exact HB.out)) hb); clear HB; have HB := z_; clear z_; (try clear q0); have q0 := (blk_cell (BX.out _ HB.out) 0).trans rfl; (try clear q1); have q1 := (blk_cell (BX.out _ HB.out) 1).trans rfl; (try clear q2); have q2 := (blk_cell (BX.out _ HB.out) 2).trans rfl; (try clear q3); have q3 := (blk_cell (BX.out _ HB.out) 3).trans rfl; (try clear q4); have q4 := (blk_cell (BX.out _ HB.out) 4).trans rfl; clear hd hb))
      go_cut [9] (fun v9 wc => Aside0 (Kd.R k32 32 wc w.heap.size (fun _ => True) v9 lm) ∧ Aside0 (Below w.heap.size w wc))
      case first =>
       go_region_held3 (fun w' => w'.cell? ⟨w.heap.size, 0, none⟩ = some (.int .i64 n.f0) ∧ w'.cell? ⟨w.heap.size, 3, none⟩ = some (.int .i64 n.f3) ∧ w'.cell? ⟨w.heap.size, 4, none⟩ = some (.int .i64 n.f4)) (first | exact HSX.out _ (by repeat (first | (with_reducible first | exact HB.out | apply below_alloc | apply pw_below_drewN | apply below_drew1 | apply below_drew) | exact HB.out))) (first | (go_at_call 64; with_reducible refine (rd_sign _ n.f0 HS.out.1 HS.out.2).mono ?_; rintro e w_ ⟨rfl, hd⟩; have hb := Drawn0.below hd; (try (have HLB := Aside0.mk (And.intro ((hb.block _ (blk_lt (blk_new _ _))).trans (blk_new _ _)) HB.out.size))); (try (have z_ := Aside0.mk (And.intro ((hb.block _ (blk_lt HLB.out.1)).trans HLB.out.1) HLB.out.2); clear HLB; have HLB := z_; clear z_)); (try (have z_ := Aside0.mk (Kd.R_below (by (with_reducible repeat (first | apply Kd.R_alloc | apply Kd.R_drewN | apply Kd.R_drew)); exact HT1.out) hb); clear HT1; have HT1 := z_; clear z_)); (try (have z_ := Aside0.mk (Kd.R_below (by (with_reducible repeat (first | apply Kd.R_alloc | apply Kd.R_drewN | apply Kd.R_drew)); exact HT2.out) hb); clear HT2; have HT2 := z_; clear z_)); have z_ := Aside0.mk (below_step (by repeat (first | (with_reducible first | exact HB.out | apply below_alloc | apply pw_below_drewN | apply below_drew1 | apply below_drew) | exact HB.out)) hb); clear HB; have HB := z_; clear z_; clear hd hb) | (go_at_call 63; with_reducible refine (expr_mark.calls (signR n.f0) 4 0 (signR n.f0) 0 _ rfl).mono ?_; rintro e w_ ⟨rfl, hb⟩; (try (have HLB := Aside0.mk (And.intro ((hb.block _ (blk_lt (blk_new _ _))).trans (blk_new _ _)) HB.out.size))); (try (have z_ := Aside0.mk (And.intro ((hb.block _ (blk_lt HLB.out.1)).trans HLB.out.1) HLB.out.2); clear HLB; have HLB := z_; clear z_)); (try (have z_ := Aside0.mk (Kd.R_below (by (with_reducible repeat (first | apply Kd.R_alloc | apply Kd.R_drewN | apply Kd.R_drew)); exact HT1.out) hb); clear HT1; have HT1 := z_; clear z_)); (try (have z_ := Aside0.mk (Kd.R_below (by (with_reducible repeat (first | apply Kd.R_alloc | apply Kd.R_drewN | apply Kd.R_drew)); exact HT2.out) hb); clear HT2; have HT2 := z_; clear z_)); have z_ := Aside0.mk (below_step (by repeat (first | (with_reducible first | exact HB.out | apply below_alloc | apply pw_below_drewN | apply below_drew1 | apply below_drew) | exact HB.out)) hb); clear HB; have HB := z_; clear z_; clear hb) | (go_at_call 51; with_reducible refine (IH.out n.f3 false l1 _ (below_step HB0.out (by repeat (first | (with_reducible first | exact HB.out | apply below_alloc | apply pw_below_drewN | apply below_drew1 | apply below_drew) | exact HB.out))) HL1.out).mono ?_; rintro e w_ ⟨v_, rfl, ho, hb⟩; obtain ⟨A1, c1, rfl⟩ := Kd.R_slice ho; have HT1 := Aside0.mk (Kd.R_lower (base' := (w.alloc (.cells #[.int .i64 n.f0, .int .i64 n.f1, .string n.f2, .int .i64 n.f3, .int .i64 n.f4] 48)).heap.size) ho (below_size (by repeat (first | (with_reducible first | exact HB.out | apply below_alloc | apply pw_below_drewN | apply below_drew1 | apply below_drew) | exact HB.out)))); (try (have HLB := Aside0.mk (And.intro ((hb.block _ (blk_lt (blk_new _ _))).trans (blk_new _ _)) HB.out.size))); (try (have z_ := Aside0.mk (And.intro ((hb.block _ (blk_lt HLB.out.1)).trans HLB.out.1) HLB.out.2); clear HLB; have HLB := z_; clear z_)); (try (have z_ := Aside0.mk (Kd.R_below (by (with_reducible repeat (first | apply Kd.R_alloc | apply Kd.R_drewN | apply Kd.R_drew)); exact HT1.out) hb); clear HT1; have HT1 := z_; clear z_)); (try (have z_ := Aside0.mk (Kd.R_below (by (with_reducible repeat (first | apply Kd.R_alloc | apply Kd.R_drewN | apply Kd.R_drew)); exact HT2.out) hb); clear HT2; have HT2 := z_; clear z_)); have z_ := Aside0.mk (below_step (by repeat (first | (with_reducible first | exact HB.out | apply below_alloc | apply pw_below_drewN | apply below_drew1 | apply below_drew) | exact HB.out)) hb); clear HB; have HB := z_; clear z_; clear ho hb) | (go_at_call 51; with_reducible refine (IH.out n.f4 false l2 _ (below_step HB0.out (by repeat (first | (with_reducible first | exact HB.out | apply below_alloc | apply pw_below_drewN | apply below_drew1 | apply below_drew) | exact HB.out))) HL2.out).mono ?_; rintro e w_ ⟨v_, rfl, ho, hb⟩; obtain ⟨A2, c2, rfl⟩ := Kd.R_slice ho; have HT2 := Aside0.mk (Kd.R_lower (base' := (w.alloc (.cells #[.int .i64 n.f0, .int .i64 n.f1, .string n.f2, .int .i64 n.f3, .int .i64 n.f4] 48)).heap.size) ho (below_size (by repeat (first | (with_reducible first | exact HB.out | apply below_alloc | apply pw_below_drewN | apply below_drew1 | apply below_drew) | exact HB.out)))); (try (have HLB := Aside0.mk (And.intro ((hb.block _ (blk_lt (blk_new _ _))).trans (blk_new _ _)) HB.out.size))); (try (have z_ := Aside0.mk (And.intro ((hb.block _ (blk_lt HLB.out.1)).trans HLB.out.1) HLB.out.2); clear HLB; have HLB := z_; clear z_)); (try (have z_ := Aside0.mk (Kd.R_below (by (with_reducible repeat (first | apply Kd.R_alloc | apply Kd.R_drewN | apply Kd.R_drew)); exact HT1.out) hb); clear HT1; have HT1 := z_; clear z_)); (try (have z_ := Aside0.mk (Kd.R_below (by (with_reducible repeat (first | apply Kd.R_alloc | apply Kd.R_drewN | apply Kd.R_drew)); exact HT2.out) hb); clear HT2; have HT2 := z_; clear z_)); have z_ := Aside0.mk (below_step (by repeat (first | (with_reducible first | exact HB.out | apply below_alloc | apply pw_below_drewN | apply below_drew1 | apply below_drew) | exact HB.out)) hb); clear HB; have HB := z_; clear z_; clear ho hb) | (go_at_call 65; (first | (with_reducible refine (concat3n _ _ A1 _ A2 c1 1 c2 l1.length 1 l2.length l1 [mkT (signR n.f0)] l2 (blk_new2 _ _ _) rfl rfl rfl ?cA ?cL ?cB (by have := HN1.out; omega) (by simp) (by have := HN2.out; omega)).mono ?_) | (with_reducible refine (concat3n _ _ A1 _ A2 c1 1 c2 l1.length 1 l2.length l1 [mkT (signR n.f0)] l2 (blk_new _ _) rfl rfl rfl ?cA ?cL ?cB (by have := HN1.out; omega) (by simp) (by have := HN2.out; omega)).mono ?_)); (case cA => refine (Kd.R_reads' (e := 32) (base := (w.alloc (.cells #[.int .i64 n.f0, .int .i64 n.f1, .string n.f2, .int .i64 n.f3, .int .i64 n.f4] 48)).heap.size) (ok := fun _ => True) (n := l1.length) (c := c1) ?_).2.2; (with_reducible repeat (first | apply Kd.R_alloc | apply Kd.R_drewN | apply Kd.R_drew)); exact HT1.out); (case cB => refine (Kd.R_reads' (e := 32) (base := (w.alloc (.cells #[.int .i64 n.f0, .int .i64 n.f1, .string n.f2, .int .i64 n.f3, .int .i64 n.f4] 48)).heap.size) (ok := fun _ => True) (n := l2.length) (c := c2) ?_).2.2; (with_reducible repeat (first | apply Kd.R_alloc | apply Kd.R_drewN | apply Kd.R_drew)); exact HT2.out); (case cL => first | (refine (Kd.R_reads' (e := 32) (base := (w.alloc (.cells #[.int .i64 n.f0, .int .i64 n.f1, .string n.f2, .int .i64 n.f3, .int .i64 n.f4] 48)).heap.size) (ok := fun _ => True) (n := 1) (c := 1) (lit_of_blk (t := mkT (signR n.f0)) ?_ HLB.out.2)).2.2; exact blk_alloc HLB.out.1 _) | (refine (Kd.R_reads' (e := 32) (base := (w.alloc (.cells #[.int .i64 n.f0, .int .i64 n.f1, .string n.f2, .int .i64 n.f3, .int .i64 n.f4] 48)).heap.size) (ok := fun _ => True) (n := 1) (c := 1) (lit_of_blk (t := mkT (signR n.f0)) ?_ HB.out.size)).2.2; exact blk_alloc (blk_new _ _) _)); rintro e w_ ⟨v_, rfl, ho, hb⟩; have HR := Aside0.mk (Kd.R_lower (base' := w.heap.size) ho (Nat.le_trans HB0.out.size (below_size (by repeat (first | (with_reducible first | exact HB.out | apply below_alloc | apply pw_below_drewN | apply below_drew1 | apply below_drew) | exact HB.out))))); have z_ := Aside0.mk (below_step (by repeat (first | (with_reducible first | exact HB.out | apply below_alloc | apply pw_below_drewN | apply below_drew1 | apply below_drew) | exact HB.out)) hb); clear HB; have HB := z_; clear z_ ho hb))
       all_goals go_wp2
       all_goals go_meet
       all_goals exact ⟨⟨by rw [HLM.out]; exact HR.out⟩, ⟨below_step HB0.out HB.out⟩⟩
      case rest =>
       obtain ⟨HR, HB5⟩ := hcut
       obtain ⟨AR, cR, rfl⟩ := Kd.R_slice HR.out
       have HN3 : Aside0 (lm.length ≤ 30000000) := ⟨by have := HN1.out; have := HN2.out; rw [HLM.out]; simp only [List.length_append, List.length_singleton]; omega⟩
       clear HB HLM
       cases whole with
       | true =>
        go_wp2
        go_ret
        refine ⟨_, ?_, HR.out, HB5.out⟩
        rfl
       | false =>
        go_wp2_with (first | (go_at_call 63; with_reducible refine (expr_mark.calls ⟨#[40]⟩ 4 0 ⟨#[40]⟩ 0 _ rfl).mono ?_; rintro e w_ ⟨rfl, hb⟩; have z_ := Aside0.mk (Kd.R_below HR.out hb); clear HR; have HR := z_; clear z_; have z_ := Aside0.mk (below_step HB5.out hb); clear HB5; have HB5 := z_; clear z_; clear hb) | (go_at_call 63; with_reducible refine (expr_mark.calls ⟨#[41]⟩ 4 0 ⟨#[41]⟩ 0 _ rfl).mono ?_; rintro e w_ ⟨rfl, hb⟩; have HLA := Aside0.mk (And.intro ((hb.block _ (blk_lt (blk_new _ _))).trans (blk_new _ _)) HB5.out.size); have z_ := Aside0.mk (Kd.R_below (Kd.R_alloc HR.out _) hb); clear HR; have HR := z_; clear z_; have z_ := Aside0.mk (below_step (below_alloc HB5.out _) hb); clear HB5; have HB5 := z_; clear z_; clear hb) | (go_at_call 65; with_reducible refine (concat3n _ _ _ AR _ 1 cR 1 1 lm.length 1 [mkT ⟨#[40]⟩] lm [mkT ⟨#[41]⟩] (blk_new2 _ _ _) rfl rfl rfl ?cA ?cL ?cB (by simp) (by have := HN3.out; omega) (by simp)).mono ?_; (case cL => refine (Kd.R_reads' (e := 32) (base := w.heap.size) (ok := fun _ => True) (n := lm.length) (c := cR) ?_).2.2; (with_reducible repeat (first | apply Kd.R_alloc | apply Kd.R_drewN | apply Kd.R_drew)); exact HR.out); (case cA => refine (Kd.R_reads' (e := 32) (base := w.heap.size) (ok := fun _ => True) (n := 1) (c := 1) (lit_of_blk (t := mkT ⟨#[40]⟩) ?_ HLA.out.2)).2.2; exact blk_alloc (blk_alloc HLA.out.1 _) _); (case cB => refine (Kd.R_reads' (e := 32) (base := w.heap.size) (ok := fun _ => True) (n := 1) (c := 1) (lit_of_blk (t := mkT ⟨#[41]⟩) ?_ HB5.out.size)).2.2; exact blk_alloc (blk_new _ _) _); rintro e w_ ⟨v_, rfl, ho, hb⟩; have HR2 := Aside0.mk (Kd.R_lower (base' := w.heap.size) ho (below_size (by repeat (first | (with_reducible first | exact HB5.out | apply below_alloc | apply pw_below_drewN | apply below_drew1 | apply below_drew) | exact HB5.out)))); have HB6 := Aside0.mk (below_step (by repeat (first | (with_reducible first | exact HB5.out | apply below_alloc | apply pw_below_drewN | apply below_drew1 | apply below_drew) | exact HB5.out)) hb); clear ho hb))
        go_ret
        refine ⟨_, ?_, by first | exact HR2.out | (have z := HR2.out; simp only [List.append_assoc, List.cons_append, List.nil_append] at z; exact z), HB6.out⟩
        rfl
theorem tokR_mono (x : List S48) : ∀ (k : Nat) (a : Int) (w : Bool), LeO (tokR x k a w) (tokR x (k + 1) a w)
 | 0, _, _ => fun r h => by simp [tokR] at h
 | k + 1, a, w => by
  rw [tokR, tokR]
  repeat' first
   | exact LeO.refl _
   | exact tokR_mono x k _ _
   | refine LeO.ite ?_ ?_
   | refine LeO.bind ?_ (fun _ => ?_)
def expr_tokens.f (k : Nat) (l0 : List S48) (a1 : Int) (a2 : Bool) : Option (List S32) := tokR l0 k a1 a2
theorem expr_tokens.mono : ∀ l0 a1 a2 k, LeO (expr_tokens.f k l0 a1 a2) (expr_tokens.f (k + 1) l0 a1 a2) := fun l0 a1 a2 k => tokR_mono l0 k a1 a2
theorem expr_tokens.calls (k : Nat) (A0 : Option Addr) (c0 : Nat) (l0 : List S48) (a1 : Int) (a2 : Bool) (r : List S32) (w : World) (hr0 : Kd.C k48 w A0 l0.length l0) (hc0 : l0.length ≤ c0) (h : expr_tokens.f k l0 a1 a2 = some r) :
  Calls Try.prog 51 #[.slice A0 l0.length c0, .int .i64 a1, .bool a2] w fun e w' => ∃ v0_ : Value, e = .returned (v0_) ∧ Kd.R k32 32 w' w.heap.size (fun _ => True) v0_ r ∧ Below w.heap.size w w' :=
 tok_calls w A0 c0 l0 hr0 k a1 a2 r w (Below.refl _ _) h

/-! ### expr_Text: function 36 -/
def expr_Text.f (k : Nat) (l0 : List (S48)) : Option ((List (S32)) × Int) := (expr_Check.f k l0).bind fun t206 => (if t206 = 0 then ((expr_tokens.f k l0 (wrap64 ((l0.length : Int) - 1)) true).bind fun t207 => (some (t207, 0))) else (some (([] : List (S32)), t206)))
theorem expr_Text.mono : ∀ a0 k, LeO (expr_Text.f k a0) (expr_Text.f (k + 1) a0) := by
 intro a0 k
 unfold expr_Text.f
 repeat' first
   | (with_reducible exact expr_Check.mono _ _)
   | (with_reducible exact expr_tokens.mono _ _ _ _)
   | (with_reducible exact LeO.refl _)
   | (with_reducible exact LeO.none _)
   | (with_reducible refine LeO.ite ?_ ?_)
   | (with_reducible refine LeO.bind ?_ (fun _ => ?_))
   | exact expr_Check.mono _ _
   | exact expr_tokens.mono _ _ _ _
   | exact LeO.none _
   | refine LeO.ite ?_ ?_
   | refine LeO.bind ?_ (fun _ => ?_)
set_option maxHeartbeats 8000000 in
set_option maxRecDepth 100000 in
theorem expr_Text.calls (k : Nat) (A0 : Option Addr) (c0 : Nat) (l0 : List (S48)) (r1 : List (S32)) (r2 : Int) (w : World) (hr0 : Kd.C k48 w A0 l0.length l0) (hc0 : l0.length ≤ c0) (h : expr_Text.f k l0 = some (r1, r2)) :
  Calls Try.prog 36 #[.slice A0 l0.length c0] w fun e w' => ∃ v0_ : Value, e = .returned (.tuple #[v0_, .int .i64 r2]) ∧ Kd.R k32 32 w' w.heap.size (fun _ => True) v0_ r1 ∧ Below w.heap.size w w' := by
 have HR0 := Aside0.mk hr0
 have HC0 := Aside0.mk hc0
 clear hr0 hc0
 have HB := Aside0.mk (Below.refl w.heap.size w)
 have H : ((expr_Check.f k l0).bind fun t206 => (if t206 = 0 then ((expr_tokens.f k l0 (wrap64 ((l0.length : Int) - 1)) true).bind fun t207 => (some (t207, 0))) else (some (([] : List (S32)), t206)))) = some (r1, r2) := h
 clear h
 replace H := Option.bind_eq_some_iff.mp H
 obtain ⟨t206, A20, H⟩ := H
 replace H : (if t206 = 0 then ((expr_tokens.f k l0 (wrap64 ((l0.length : Int) - 1)) true).bind fun t207 => (some (t207, 0))) else (some (([] : List (S32)), t206))) = some (r1, r2) := H
 have A2 := Aside0.mk A20
 clear A20
 by_cases c3 : t206 = 0
 ·rw [if_pos c3] at H
  have c3b0 : (t206 == 0) = true := beq_iff_eq.mpr c3
  have c3b1 : (t206 != 0) = false := bne_eq_false_iff_eq.mpr c3
  clear c3
  replace H := Option.bind_eq_some_iff.mp H
  obtain ⟨t207, A40, H⟩ := H
  replace H : (some (t207, 0)) = some (r1, r2) := H
  have A4 := Aside0.mk A40
  clear A40
  simp only [Option.some.injEq, Prod.mk.injEq] at H
  obtain ⟨rfl, rfl⟩ := H
  go_enter Try.func36, Try.ntmps36
  go_wp2_with (first | ((with_reducible refine gate_callee (f := 18) rfl ?_); refine goesL_ (some 6) rfl rfl Try.func18 (by kernel_rfl) rfl #[.slice A0 l0.length c0] rfl (by (try simp only [List.map_toArray, List.map_cons, List.map_nil]); first | done | rfl | (simp only [List.length_drop, List.length_take]; rfl)) ?_; (with_reducible refine (expr_Check.calls k _ _ l0 t206 _ ?side1 ?side2 A2.out).mono ?_); (case side1 => repeat (first | exact HR0.out | (with_reducible refine Kd.C_alloc ?_ _) | (with_reducible refine Kd.C_drewN ?_ _) | (with_reducible refine Kd.C_drew ?_))); (case side2 => exact HC0.out); rintro e w5 ⟨rfl, hb⟩; refine ⟨_, rfl, ?_⟩; have n0_ := Aside0.mk (below_step (by repeat (first | (with_reducible first | exact HB.out | apply below_alloc | apply pw_below_drewN | apply below_drew1) | exact HB.out)) hb); clear HB; have HB := n0_; clear n0_; (try clear hb); (try clear hb2); (try clear hk); (try clear hi)) | ((with_reducible refine gate_callee (f := 51) rfl ?_); refine goesL_ (some 14) rfl rfl Try.func51 (by kernel_rfl) rfl #[.slice A0 l0.length c0, .int .i64 (wrap64 ((l0.length : Int) - 1)), .bool true] rfl (by (try simp only [List.map_toArray, List.map_cons, List.map_nil]); first | done | rfl | (simp only [List.length_drop, List.length_take]; rfl)) ?_; (with_reducible refine (expr_tokens.calls k _ _ l0 (wrap64 ((l0.length : Int) - 1)) true t207 _ ?side1 ?side2 A4.out).mono ?_); (case side1 => repeat (first | exact (Kd.C_below HR0.out HB.out) | (with_reducible refine Kd.C_alloc ?_ _) | (with_reducible refine Kd.C_drewN ?_ _) | (with_reducible refine Kd.C_drew ?_))); (case side2 => exact HC0.out); rintro e w6 ⟨v208, rfl, ho0, hb⟩; refine ⟨_, rfl, ?_⟩; have n0_ := Aside0.mk (Kd.R_lower ho0 (below_size (by repeat (first | (with_reducible first | exact HB.out | apply below_alloc | apply pw_below_drewN | apply below_drew1) | exact HB.out)))); have n1_ := Aside0.mk (below_step (by repeat (first | (with_reducible first | exact HB.out | apply below_alloc | apply pw_below_drewN | apply below_drew1) | exact HB.out)) hb); clear HB; have HO209 := n0_; have HB := n1_; clear n0_ n1_; (try clear hb); (try clear hb2); (try clear hk); (try clear hi); (try clear ho0)))
  go_ret2
  exact ⟨_, by first | rfl | (simp [errW_none, errW_some] <;> rfl) | (simp [*, errW_none, errW_some] <;> rfl), by (with_reducible repeat (first | apply Kd.R_alloc | apply Kd.R_drewN | apply Kd.R_drew)); exact HO209.out, by repeat (first | (with_reducible first | exact HB.out | apply below_alloc | apply pw_below_drewN | apply below_drew1) | exact HB.out)⟩
 ·rw [if_neg c3] at H
  have c3b0 : (t206 == 0) = false := beq_eq_false_iff_ne.mpr c3
  have c3b1 : (t206 != 0) = true := bne_iff_ne.mpr c3
  simp only [Option.some.injEq, Prod.mk.injEq] at H
  obtain ⟨rfl, rfl⟩ := H
  go_enter Try.func36, Try.ntmps36
  go_wp2_with (first | ((with_reducible refine gate_callee (f := 18) rfl ?_); refine goesL_ (some 6) rfl rfl Try.func18 (by kernel_rfl) rfl #[.slice A0 l0.length c0] rfl (by (try simp only [List.map_toArray, List.map_cons, List.map_nil]); first | done | rfl | (simp only [List.length_drop, List.length_take]; rfl)) ?_; (with_reducible refine (expr_Check.calls k _ _ l0 t206 _ ?side1 ?side2 A2.out).mono ?_); (case side1 => repeat (first | exact HR0.out | (with_reducible refine Kd.C_alloc ?_ _) | (with_reducible refine Kd.C_drewN ?_ _) | (with_reducible refine Kd.C_drew ?_))); (case side2 => exact HC0.out); rintro e w7 ⟨rfl, hb⟩; refine ⟨_, rfl, ?_⟩; have n0_ := Aside0.mk (below_step (by repeat (first | (with_reducible first | exact HB.out | apply below_alloc | apply pw_below_drewN | apply below_drew1) | exact HB.out)) hb); clear HB; have HB := n0_; clear n0_; (try clear hb); (try clear hb2); (try clear hk); (try clear hi)))
  go_ret2
  exact ⟨_, by first | rfl | (simp [errW_none, errW_some] <;> rfl) | (simp [*, errW_none, errW_some] <;> rfl), by first | exact Kd.R_nil _ _ _ _ _ | exact Kd.N_nil _ _ _ _ _ | exact Kd.V_nil _ _ _ _ _ | exact Kd.Q_nil _ _ _ _ _ | exact Kd.S_nil _ _ _ _ _, by repeat (first | (with_reducible first | exact HB.out | apply below_alloc | apply pw_below_drewN | apply below_drew1) | exact HB.out)⟩

/-! ### linotypekit_SameNodes: function 37 -/
def linotypekit_SameNodes.l0 : Nat → List (S48) → List (S48) → Int → Option (Bool)
 | 0, _, _, _ => none
 | k + 1, x0, x1, x5 => if x5 < (x0.length : Int) then (if 0 ≤ x5 then (if x5 < (x1.length : Int) then (if (!(((rd_T48 x0 x5).f0) == ((rd_T48 x1 x5).f0)) || (!(((rd_T48 x0 x5).f1) == ((rd_T48 x1 x5).f1)) || (!((((rd_T48 x0 x5).f2).toList) == (((rd_T48 x1 x5).f2).toList)) || (!(((rd_T48 x0 x5).f3) == ((rd_T48 x1 x5).f3)) || (!(((rd_T48 x0 x5).f4) == ((rd_T48 x1 x5).f4))))))) = true then (some false) else (linotypekit_SameNodes.l0 k x0 x1 (wrap64 (x5 + 1)))) else (none)) else (none)) else (some true)
def linotypekit_SameNodes.f (k : Nat) (l0 : List (S48)) (l1 : List (S48)) : Option (Bool) := if (l0.length : Int) = (l1.length : Int) then (linotypekit_SameNodes.l0 k l0 l1 0) else (some false)
theorem linotypekit_SameNodes.mono_l : ∀ k, (∀ y0 y1 y2, LeO (linotypekit_SameNodes.l0 k y0 y1 y2) (linotypekit_SameNodes.l0 (k + 1) y0 y1 y2))
 | 0 => fun _ _ _ r h => by simp [linotypekit_SameNodes.l0] at h
 | k + 1 => by
  have ih0 := linotypekit_SameNodes.mono_l k
  ·intro y0 y1 y2
   unfold linotypekit_SameNodes.l0
   repeat' first
   | (with_reducible exact ih0 _ _ _)
   | (with_reducible exact LeO.refl _)
   | (with_reducible exact LeO.none _)
   | (with_reducible refine LeO.ite ?_ ?_)
   | (with_reducible refine LeO.bind ?_ (fun _ => ?_))
   | exact ih0 _ _ _
   | exact LeO.none _
   | refine LeO.ite ?_ ?_
   | refine LeO.bind ?_ (fun _ => ?_)
theorem linotypekit_SameNodes.mono : ∀ a0 a1 k, LeO (linotypekit_SameNodes.f k a0 a1) (linotypekit_SameNodes.f (k + 1) a0 a1) := by
 intro a0 a1 k
 have ih0 := linotypekit_SameNodes.mono_l k
 unfold linotypekit_SameNodes.f
 repeat' first
   | (with_reducible exact ih0 _ _ _)
   | (with_reducible exact LeO.refl _)
   | (with_reducible exact LeO.none _)
   | (with_reducible refine LeO.ite ?_ ?_)
   | (with_reducible refine LeO.bind ?_ (fun _ => ?_))
   | exact ih0 _ _ _
   | exact LeO.none _
   | refine LeO.ite ?_ ?_
   | refine LeO.bind ?_ (fun _ => ?_)
set_option maxHeartbeats 8000000 in
set_option maxRecDepth 100000 in
theorem linotypekit_SameNodes.calls (k : Nat) (A0 : Option Addr) (c0 : Nat) (l0 : List (S48)) (A1 : Option Addr) (c1 : Nat) (l1 : List (S48)) (r : Bool) (w : World) (hr0 : Kd.C k48 w A0 l0.length l0) (hc0 : l0.length ≤ c0) (hr1 : Kd.C k48 w A1 l1.length l1) (hc1 : l1.length ≤ c1) (h : linotypekit_SameNodes.f k l0 l1 = some r) :
  Calls Try.prog 37 #[.slice A0 l0.length c0, .slice A1 l1.length c1] w fun e w' => e = .returned (.bool r) ∧ Drawn0 w w' := by
 have hu48 := Try.underlying48
 have HR0 := Aside0.mk hr0
 have HC0 := Aside0.mk hc0
 clear hr0 hc0
 have HR1 := Aside0.mk hr1
 have HC1 := Aside0.mk hc1
 clear hr1 hc1
 have H : (if (l0.length : Int) = (l1.length : Int) then (linotypekit_SameNodes.l0 k l0 l1 0) else (some false)) = some r := h
 clear h
 by_cases c3 : (l0.length : Int) = (l1.length : Int)
 ·rw [if_pos c3] at H
  have c3b0 : ((l0.length : Int) == (l1.length : Int)) = true := beq_iff_eq.mpr c3
  have c3b1 : ((l0.length : Int) != (l1.length : Int)) = false := bne_eq_false_iff_eq.mpr c3
  have c3b2 : (l0.length == l1.length) = true := by first | simpa using c3 | (simp at c3 ⊢; omega)
  clear c3
  have H' := Aside0.mk H
  clear H
  go_enter Try.func37, Try.ntmps37
  go_wp2
  repeat (go_quiet (fail); try go_wp2)
  go_loopg [5] k (fun kq v5 w' => ∃ (x5_1 : Int), v5 = .int .i64 x5_1 ∧ Aside0 (linotypekit_SameNodes.l0 kq l0 l1 x5_1 = some r) ∧ Aside0 (kq ≤ k) ∧ Drawn0 w w')
  case atStart => exact ⟨(0), (by first | rfl | (simp; done) | (simp [*]; done)), H', ⟨Nat.le_refl _⟩, by repeat (first | exact Drawn0.refl _ | apply Drawn0.step)⟩
  case round =>
   clear H'
   try clear c1
   try clear p2
   try clear c3
   try clear c3b0
   try clear c3b1
   try clear c3b2
   obtain ⟨x5_1, rfl, HA, HK1, ⟨m1, rfl⟩⟩ := hrel
   cases gk with
   | zero => exact absurd HA.out (by simp [linotypekit_SameNodes.l0])
   | succ k1 =>
    have H := HA.out
    clear HA
    simp only [linotypekit_SameNodes.l0] at H
    by_cases c4 : x5_1 < (l0.length : Int)
    ·rw [if_pos c4] at H
     have c4b0 : decide (x5_1 < (l0.length : Int)) = true := decide_eq_true c4
     clear c4
     by_cases c5 : 0 ≤ x5_1
     ·rw [if_pos c5] at H
      have c5b0 : decide (0 ≤ x5_1) = true := decide_eq_true c5
      clear c5
      by_cases c6 : x5_1 < (l1.length : Int)
      ·rw [if_pos c6] at H
       have c6b0 : decide (x5_1 < (l1.length : Int)) = true := decide_eq_true c6
       clear c6
       by_cases c7 : (!(((rd_T48 l0 x5_1).f0) == ((rd_T48 l1 x5_1).f0)) || (!(((rd_T48 l0 x5_1).f1) == ((rd_T48 l1 x5_1).f1)) || (!((((rd_T48 l0 x5_1).f2).toList) == (((rd_T48 l1 x5_1).f2).toList)) || (!(((rd_T48 l0 x5_1).f3) == ((rd_T48 l1 x5_1).f3)) || (!(((rd_T48 l0 x5_1).f4) == ((rd_T48 l1 x5_1).f4))))))) = true
       ·rw [if_pos c7] at H
        have c7b0 : (!(((rd_T48 l0 x5_1).f0) == ((rd_T48 l1 x5_1).f0)) || (!(((rd_T48 l0 x5_1).f1) == ((rd_T48 l1 x5_1).f1)) || (!((((rd_T48 l0 x5_1).f2).toList) == (((rd_T48 l1 x5_1).f2).toList)) || (!(((rd_T48 l0 x5_1).f3) == ((rd_T48 l1 x5_1).f3)) || (!(((rd_T48 l0 x5_1).f4) == ((rd_T48 l1 x5_1).f4))))))) = true := c7
        clear c7
        obtain rfl := Option.some.inj H
        have p210 : 0 ≤ (x5_1 : Int) := of_decide_eq_true (by first | (with_reducible assumption) | assumption)
        have q210 : x5_1 < (l0.length : Int) := of_decide_eq_true (by first | (with_reducible assumption) | assumption)
        obtain ⟨ad210, e210, hx210_0, hx210_1, hx210_2, hx210_3, hx210_4⟩ := at_T48 HR0.out x5_1 p210 q210
        cases e210
        replace p210 := eq_true p210
        replace q210 := eq_true q210
        have p211 : 0 ≤ (x5_1 : Int) := of_decide_eq_true (by first | (with_reducible assumption) | assumption)
        have q211 : x5_1 < (l1.length : Int) := of_decide_eq_true (by first | (with_reducible assumption) | assumption)
        obtain ⟨ad211, e211, hx211_0, hx211_1, hx211_2, hx211_3, hx211_4⟩ := at_T48 HR1.out x5_1 p211 q211
        cases e211
        replace p211 := eq_true p211
        replace q211 := eq_true q211
        go_wp2
        repeat (go_quiet (fail); try go_wp2)
        go_ret
        exact ⟨by first | rfl | (simp; done) | (simp [*]; done), by repeat (first | exact Drawn0.refl _ | apply Drawn0.step)⟩
       ·rw [if_neg c7] at H
        have c7b0 : (!(((rd_T48 l0 x5_1).f0) == ((rd_T48 l1 x5_1).f0)) || (!(((rd_T48 l0 x5_1).f1) == ((rd_T48 l1 x5_1).f1)) || (!((((rd_T48 l0 x5_1).f2).toList) == (((rd_T48 l1 x5_1).f2).toList)) || (!(((rd_T48 l0 x5_1).f3) == ((rd_T48 l1 x5_1).f3)) || (!(((rd_T48 l0 x5_1).f4) == ((rd_T48 l1 x5_1).f4))))))) = false := by simpa using c7
        clear c7
        have H' := Aside0.mk H
        clear H
        have p210 : 0 ≤ (x5_1 : Int) := of_decide_eq_true (by first | (with_reducible assumption) | assumption)
        have q210 : x5_1 < (l0.length : Int) := of_decide_eq_true (by first | (with_reducible assumption) | assumption)
        obtain ⟨ad210, e210, hx210_0, hx210_1, hx210_2, hx210_3, hx210_4⟩ := at_T48 HR0.out x5_1 p210 q210
        cases e210
        replace p210 := eq_true p210
        replace q210 := eq_true q210
        have p211 : 0 ≤ (x5_1 : Int) := of_decide_eq_true (by first | (with_reducible assumption) | assumption)
        have q211 : x5_1 < (l1.length : Int) := of_decide_eq_true (by first | (with_reducible assumption) | assumption)
        obtain ⟨ad211, e211, hx211_0, hx211_1, hx211_2, hx211_3, hx211_4⟩ := at_T48 HR1.out x5_1 p211 q211
        cases e211
        replace p211 := eq_true p211
        replace q211 := eq_true q211
        go_wp2
        repeat (go_quiet (fail); try go_wp2)
        go_roundg k1
        case measure => have := HK1.out; omega
        case rel => exact ⟨(wrap64 (x5_1 + 1)), (by first | rfl | (simp; done) | (simp [*]; done)), H', ⟨by have := HK1.out; omega⟩, by repeat (first | exact Drawn0.refl _ | apply Drawn0.step)⟩
      ·rw [if_neg c6] at H
       exact absurd H (by simp)
     ·rw [if_neg c5] at H
      exact absurd H (by simp)
    ·rw [if_neg c4] at H
     have c4b0 : decide (x5_1 < (l0.length : Int)) = false := decide_eq_false c4
     clear c4
     obtain rfl := Option.some.inj H
     go_wp2
     repeat (go_quiet (fail); try go_wp2)
     go_ret
     exact ⟨by first | rfl | (simp; done) | (simp [*]; done), by repeat (first | exact Drawn0.refl _ | apply Drawn0.step)⟩
 ·rw [if_neg c3] at H
  have c3b0 : ((l0.length : Int) == (l1.length : Int)) = false := beq_eq_false_iff_ne.mpr c3
  have c3b1 : ((l0.length : Int) != (l1.length : Int)) = true := bne_iff_ne.mpr c3
  have c3b2 : (l0.length == l1.length) = false := by first | simpa using c3 | (simp at c3 ⊢; omega)
  obtain rfl := Option.some.inj H
  go_enter Try.func37, Try.ntmps37
  go_wp2
  repeat (go_quiet (fail); try go_wp2)
  go_ret
  exact ⟨by first | rfl | (simp; done) | (simp [*]; done), by repeat (first | exact Drawn0.refl _ | apply Drawn0.step)⟩

/-! ### linotypelaw23_again: function 23 -/
def linotypelaw23_again.f (k : Nat) (l0 : List (S48)) : Option (Bool) := (expr_Text.f k l0).bind fun bt212 => (if bt212.2 = 0 then ((expr_Parse.f k bt212.1 0).bind fun bt217 => (if bt217.2.2.1 = 0 then (if bt217.2.1 = (bt212.1.length : Int) then ((linotypekit_SameNodes.f k l0 bt217.1).bind fun t224 => (some t224)) else (none)) else (some (bt217.2.2.1 == 3)))) else (if (bt212.1.length : Int) = 0 then ((expr_Check.f k l0).bind fun t216 => (some (bt212.2 == t216))) else (none)))
theorem linotypelaw23_again.mono : ∀ a0 k, LeO (linotypelaw23_again.f k a0) (linotypelaw23_again.f (k + 1) a0) := by
 intro a0 k
 unfold linotypelaw23_again.f
 repeat' first
   | (with_reducible exact expr_Check.mono _ _)
   | (with_reducible exact expr_Parse.mono _ _ _)
   | (with_reducible exact expr_Text.mono _ _)
   | (with_reducible exact linotypekit_SameNodes.mono _ _ _)
   | (with_reducible exact LeO.refl _)
   | (with_reducible exact LeO.none _)
   | (with_reducible refine LeO.ite ?_ ?_)
   | (with_reducible refine LeO.bind ?_ (fun _ => ?_))
   | exact expr_Check.mono _ _
   | exact expr_Parse.mono _ _ _
   | exact expr_Text.mono _ _
   | exact linotypekit_SameNodes.mono _ _ _
   | exact LeO.none _
   | refine LeO.ite ?_ ?_
   | refine LeO.bind ?_ (fun _ => ?_)
set_option maxHeartbeats 8000000 in
set_option maxRecDepth 100000 in
theorem linotypelaw23_again.calls (k : Nat) (A0 : Option Addr) (c0 : Nat) (l0 : List (S48)) (r : Bool) (w : World) (hr0 : Kd.C k48 w A0 l0.length l0) (hc0 : l0.length ≤ c0) (h : linotypelaw23_again.f k l0 = some r) :
  Calls Try.prog 23 #[.slice A0 l0.length c0] w fun e w' => e = .returned (.bool r) ∧ Below w.heap.size w w' := by
 have hu27 := Try.underlying27
 have HR0 := Aside0.mk hr0
 have HC0 := Aside0.mk hc0
 clear hr0 hc0
 have HB := Aside0.mk (Below.refl w.heap.size w)
 have H : ((expr_Text.f k l0).bind fun bt212 => (if bt212.2 = 0 then ((expr_Parse.f k bt212.1 0).bind fun bt217 => (if bt217.2.2.1 = 0 then (if bt217.2.1 = (bt212.1.length : Int) then ((linotypekit_SameNodes.f k l0 bt217.1).bind fun t224 => (some t224)) else (none)) else (some (bt217.2.2.1 == 3)))) else (if (bt212.1.length : Int) = 0 then ((expr_Check.f k l0).bind fun t216 => (some (bt212.2 == t216))) else (none)))) = some r := h
 clear h
 replace H := Option.bind_eq_some_iff.mp H
 obtain ⟨⟨t212, t213⟩, A20, H⟩ := H
 replace H : (if t213 = 0 then ((expr_Parse.f k t212 0).bind fun bt217 => (if bt217.2.2.1 = 0 then (if bt217.2.1 = (t212.length : Int) then ((linotypekit_SameNodes.f k l0 bt217.1).bind fun t224 => (some t224)) else (none)) else (some (bt217.2.2.1 == 3)))) else (if (t212.length : Int) = 0 then ((expr_Check.f k l0).bind fun t216 => (some (t213 == t216))) else (none))) = some r := H
 have A2 := Aside0.mk A20
 clear A20
 by_cases c3 : t213 = 0
 ·rw [if_pos c3] at H
  have c3b0 : (t213 == 0) = true := beq_iff_eq.mpr c3
  have c3b1 : (t213 != 0) = false := bne_eq_false_iff_eq.mpr c3
  clear c3
  replace H := Option.bind_eq_some_iff.mp H
  obtain ⟨⟨t217, t220, t221, t222⟩, A40, H⟩ := H
  replace H : (if t221 = 0 then (if t220 = (t212.length : Int) then ((linotypekit_SameNodes.f k l0 t217).bind fun t224 => (some t224)) else (none)) else (some (t221 == 3))) = some r := H
  have A4 := Aside0.mk A40
  clear A40
  by_cases c5 : t221 = 0
  ·rw [if_pos c5] at H
   have c5b0 : (t221 == 0) = true := beq_iff_eq.mpr c5
   have c5b1 : (t221 != 0) = false := bne_eq_false_iff_eq.mpr c5
   clear c5
   by_cases c6 : t220 = (t212.length : Int)
   ·rw [if_pos c6] at H
    have c6b0 : (t220 == (t212.length : Int)) = true := beq_iff_eq.mpr c6
    have c6b1 : (t220 != (t212.length : Int)) = false := bne_eq_false_iff_eq.mpr c6
    clear c6
    replace H := Option.bind_eq_some_iff.mp H
    obtain ⟨t224, A70, H⟩ := H
    replace H : (some t224) = some r := H
    have A7 := Aside0.mk A70
    clear A70
    obtain rfl := Option.some.inj H
    go_enter Try.func23, Try.ntmps23
    go_wp2_with (first | ((with_reducible refine gate_callee (f := 36) rfl ?_); refine goesL_ (some 10) rfl rfl Try.func36 (by kernel_rfl) rfl #[.slice A0 l0.length c0] rfl (by (try simp only [List.map_toArray, List.map_cons, List.map_nil]); first | done | rfl | (simp only [List.length_drop, List.length_take]; rfl)) ?_; (with_reducible refine (expr_Text.calls k _ _ l0 t212 t213 _ ?side1 ?side2 A2.out).mono ?_); (case side1 => repeat (first | exact HR0.out | (with_reducible refine Kd.C_alloc ?_ _) | (with_reducible refine Kd.C_drewN ?_ _) | (with_reducible refine Kd.C_drew ?_))); (case side2 => exact HC0.out); rintro e w8 ⟨v214, rfl, ho0, hb⟩; refine ⟨_, rfl, ?_⟩; have n0_ := Aside0.mk (Kd.R_lower ho0 (below_size (by repeat (first | (with_reducible first | exact HB.out | apply below_alloc | apply pw_below_drewN | apply below_drew1) | exact HB.out)))); have n1_ := Aside0.mk (below_step (by repeat (first | (with_reducible first | exact HB.out | apply below_alloc | apply pw_below_drewN | apply below_drew1) | exact HB.out)) hb); clear HB; have HO215 := n0_; have HB := n1_; clear n0_ n1_; (try clear hb); (try clear hb2); (try clear hk); (try clear hi); (try clear ho0); obtain ⟨Ao9, co9, eo9⟩ := Kd.R_slice HO215.out; subst eo9) | ((with_reducible refine gate_callee (f := 24) rfl ?_); refine goesL_ (some 26) rfl rfl Try.func24 (by kernel_rfl) rfl #[.slice Ao9 t212.length co9, .int .i64 0] rfl (by (try simp only [List.map_toArray, List.map_cons, List.map_nil]); first | done | rfl | (simp only [List.length_drop, List.length_take]; rfl)) ?_; (with_reducible refine (expr_Parse.calls k _ _ t212 0 t217 t220 t221 t222 _ ?side1 ?side2 A4.out).mono ?_); (case side1 => repeat (first | exact (Kd.R_reads' HO215.out).2.2 | (with_reducible refine Kd.C_alloc ?_ _) | (with_reducible refine Kd.C_drewN ?_ _) | (with_reducible refine Kd.C_drew ?_))); (case side2 => exact (Kd.R_reads' HO215.out).2.1); rintro e w10 ⟨v218, rfl, ho0, hb⟩; refine ⟨_, rfl, ?_⟩; have n0_ := Aside0.mk (Kd.R_below (by (with_reducible repeat (first | apply Kd.R_alloc | apply Kd.R_drewN | apply Kd.R_drew)); exact HO215.out) hb); have n1_ := Aside0.mk (Kd.R_lower ho0 (below_size (by repeat (first | (with_reducible first | exact HB.out | apply below_alloc | apply pw_below_drewN | apply below_drew1) | exact HB.out)))); have n2_ := Aside0.mk (below_step (by repeat (first | (with_reducible first | exact HB.out | apply below_alloc | apply pw_below_drewN | apply below_drew1) | exact HB.out)) hb); clear HO215; clear HB; have HO215 := n0_; have HO219 := n1_; have HB := n2_; clear n0_ n1_ n2_; (try clear hb); (try clear hb2); (try clear hk); (try clear hi); (try clear ho0)) | ((with_reducible refine gate_dst (N := 7) rfl ?_); refine box_event ?hg (N := 7) ?hd (cs := #[.int .i64 0, .int .i64 0]) (t := 27) ?hr ?_; (case hd => rfl); (case hg => rfl); (case hr => first | (go_simp; done) | (go_simp; rfl)); intro gb223 hg w11 hbox hb; have n0_ := Aside0.mk (Kd.R_below (by (with_reducible repeat (first | apply Kd.R_alloc | apply Kd.R_drewN | apply Kd.R_drew)); exact HO215.out) hb); have n1_ := Aside0.mk (Kd.R_below (by (with_reducible repeat (first | apply Kd.R_alloc | apply Kd.R_drewN | apply Kd.R_drew)); exact HO219.out) hb); have n2_ := Aside0.mk (below_step (by repeat (first | (with_reducible first | exact HB.out | apply below_alloc | apply pw_below_drewN | apply below_drew1) | exact HB.out)) hb); have n3_ := Aside0.mk (hbox); have n4_ := Aside0.mk ((by rw [hg]; exact (below_size (by repeat (first | (with_reducible first | exact HB.out | apply below_alloc | apply pw_below_drewN | apply below_drew1) | exact HB.out))) : w.heap.size ≤ gb223)); have n5_ := Aside0.mk ((by rw [hg]; exact (below_size (by repeat (first | (with_reducible first | exact HB.out | apply below_alloc | apply pw_below_drewN | apply below_drew1) | exact HB.out))) : w.heap.size ≤ gb223)); clear HO215; clear HO219; clear HB; have HO215 := n0_; have HO219 := n1_; have HB := n2_; have BK223 := n3_; have GW223 := n4_; have GE223 := n5_; clear n0_ n1_ n2_ n3_ n4_ n5_; clear hb hbox hg; have hcz12_0 : w11.cell? ⟨gb223, 0, none⟩ = some (.int .i64 0) := (blk_cell BK223.out 0).trans rfl; have hcz12_1 : w11.cell? ⟨gb223, 1, none⟩ = some (.int .i64 0) := (blk_cell BK223.out 1).trans rfl; have hfz12_0 := blk_frozen BK223.out 0; have hfz12_1 := blk_frozen BK223.out 1; obtain ⟨Ao13, co13, eo13⟩ := Kd.R_slice HO219.out; subst eo13) | (go_at_call 37; (with_reducible refine (linotypekit_SameNodes.calls k _ _ l0 _ _ t217 t224 _ ?side1 ?side2 ?side3 ?side4 A7.out).mono ?_); (case side1 => exact Kd.C_below HR0.out (by repeat (first | (with_reducible first | exact HB.out | apply below_alloc | apply pw_below_drewN | apply below_drew1 | refine below_set ?_ GE223.out) | exact HB.out))); (case side2 => exact HC0.out); (case side3 => refine (Kd.R_reads' (e := 48) (base := w.heap.size) (ok := fun k_ => True) (n := t217.length) (c := co13) ?_).2.2; exact (by (with_reducible repeat (first | apply Kd.R_alloc | apply Kd.R_drewN | apply Kd.R_drew)); exact (Kd.R_mono (Kd.R_far (p := ⟨gb223, 1, none⟩) (Kd.R_far (p := ⟨gb223, 0, none⟩) (Kd.R_types HO219.out BK223.out (by decide)) (fun _ hk => hk.2) (.int .i64 t221)) (fun _ hk => hk.2) (.int .i64 t222)) (fun _ h_ => h_.1)))); (case side4 => exact (Kd.R_reads' HO219.out).2.1); rintro e w' ⟨rfl, ⟨nd, rfl⟩⟩))
    go_ret
    exact ⟨by first | rfl | (simp [errW_none, errW_some] <;> rfl) | (simp [*, errW_none, errW_some] <;> rfl), by repeat (first | (with_reducible first | exact HB.out | apply below_alloc | apply pw_below_drewN | apply below_drew1 | refine below_set ?_ GE223.out) | exact HB.out)⟩
   ·rw [if_neg c6] at H
    exact absurd H (by simp)
  ·rw [if_neg c5] at H
   have c5b0 : (t221 == 0) = false := beq_eq_false_iff_ne.mpr c5
   have c5b1 : (t221 != 0) = true := bne_iff_ne.mpr c5
   obtain rfl := Option.some.inj H
   go_enter Try.func23, Try.ntmps23
   go_wp2_with (first | ((with_reducible refine gate_callee (f := 36) rfl ?_); refine goesL_ (some 10) rfl rfl Try.func36 (by kernel_rfl) rfl #[.slice A0 l0.length c0] rfl (by (try simp only [List.map_toArray, List.map_cons, List.map_nil]); first | done | rfl | (simp only [List.length_drop, List.length_take]; rfl)) ?_; (with_reducible refine (expr_Text.calls k _ _ l0 t212 t213 _ ?side1 ?side2 A2.out).mono ?_); (case side1 => repeat (first | exact HR0.out | (with_reducible refine Kd.C_alloc ?_ _) | (with_reducible refine Kd.C_drewN ?_ _) | (with_reducible refine Kd.C_drew ?_))); (case side2 => exact HC0.out); rintro e w14 ⟨v214, rfl, ho0, hb⟩; refine ⟨_, rfl, ?_⟩; have n0_ := Aside0.mk (Kd.R_lower ho0 (below_size (by repeat (first | (with_reducible first | exact HB.out | apply below_alloc | apply pw_below_drewN | apply below_drew1) | exact HB.out)))); have n1_ := Aside0.mk (below_step (by repeat (first | (with_reducible first | exact HB.out | apply below_alloc | apply pw_below_drewN | apply below_drew1) | exact HB.out)) hb); clear HB; have HO215 := n0_; have HB := n1_; clear n0_ n1_; (try clear hb); (try clear hb2); (try clear hk); (try clear hi); (try clear ho0); obtain ⟨Ao15, co15, eo15⟩ := Kd.R_slice HO215.out; subst eo15) | ((with_reducible refine gate_callee (f := 24) rfl ?_); refine goesL_ (some 26) rfl rfl Try.func24 (by kernel_rfl) rfl #[.slice Ao15 t212.length co15, .int .i64 0] rfl (by (try simp only [List.map_toArray, List.map_cons, List.map_nil]); first | done | rfl | (simp only [List.length_drop, List.length_take]; rfl)) ?_; (with_reducible refine (expr_Parse.calls k _ _ t212 0 t217 t220 t221 t222 _ ?side1 ?side2 A4.out).mono ?_); (case side1 => repeat (first | exact (Kd.R_reads' HO215.out).2.2 | (with_reducible refine Kd.C_alloc ?_ _) | (with_reducible refine Kd.C_drewN ?_ _) | (with_reducible refine Kd.C_drew ?_))); (case side2 => exact (Kd.R_reads' HO215.out).2.1); rintro e w16 ⟨v218, rfl, ho0, hb⟩; refine ⟨_, rfl, ?_⟩; have n0_ := Aside0.mk (Kd.R_below (by (with_reducible repeat (first | apply Kd.R_alloc | apply Kd.R_drewN | apply Kd.R_drew)); exact HO215.out) hb); have n1_ := Aside0.mk (Kd.R_lower ho0 (below_size (by repeat (first | (with_reducible first | exact HB.out | apply below_alloc | apply pw_below_drewN | apply below_drew1) | exact HB.out)))); have n2_ := Aside0.mk (below_step (by repeat (first | (with_reducible first | exact HB.out | apply below_alloc | apply pw_below_drewN | apply below_drew1) | exact HB.out)) hb); clear HO215; clear HB; have HO215 := n0_; have HO219 := n1_; have HB := n2_; clear n0_ n1_ n2_; (try clear hb); (try clear hb2); (try clear hk); (try clear hi); (try clear ho0)) | ((with_reducible refine gate_dst (N := 7) rfl ?_); refine box_event ?hg (N := 7) ?hd (cs := #[.int .i64 0, .int .i64 0]) (t := 27) ?hr ?_; (case hd => rfl); (case hg => rfl); (case hr => first | (go_simp; done) | (go_simp; rfl)); intro gb223 hg w17 hbox hb; have n0_ := Aside0.mk (Kd.R_below (by (with_reducible repeat (first | apply Kd.R_alloc | apply Kd.R_drewN | apply Kd.R_drew)); exact HO215.out) hb); have n1_ := Aside0.mk (Kd.R_below (by (with_reducible repeat (first | apply Kd.R_alloc | apply Kd.R_drewN | apply Kd.R_drew)); exact HO219.out) hb); have n2_ := Aside0.mk (below_step (by repeat (first | (with_reducible first | exact HB.out | apply below_alloc | apply pw_below_drewN | apply below_drew1) | exact HB.out)) hb); have n3_ := Aside0.mk (hbox); have n4_ := Aside0.mk ((by rw [hg]; exact (below_size (by repeat (first | (with_reducible first | exact HB.out | apply below_alloc | apply pw_below_drewN | apply below_drew1) | exact HB.out))) : w.heap.size ≤ gb223)); have n5_ := Aside0.mk ((by rw [hg]; exact (below_size (by repeat (first | (with_reducible first | exact HB.out | apply below_alloc | apply pw_below_drewN | apply below_drew1) | exact HB.out))) : w.heap.size ≤ gb223)); clear HO215; clear HO219; clear HB; have HO215 := n0_; have HO219 := n1_; have HB := n2_; have BK223 := n3_; have GW223 := n4_; have GE223 := n5_; clear n0_ n1_ n2_ n3_ n4_ n5_; clear hb hbox hg; have hcz18_0 : w17.cell? ⟨gb223, 0, none⟩ = some (.int .i64 0) := (blk_cell BK223.out 0).trans rfl; have hcz18_1 : w17.cell? ⟨gb223, 1, none⟩ = some (.int .i64 0) := (blk_cell BK223.out 1).trans rfl; have hfz18_0 := blk_frozen BK223.out 0; have hfz18_1 := blk_frozen BK223.out 1))
   go_ret
   exact ⟨by first | rfl | (simp [errW_none, errW_some] <;> rfl) | (simp [*, errW_none, errW_some] <;> rfl), by repeat (first | (with_reducible first | exact HB.out | apply below_alloc | apply pw_below_drewN | apply below_drew1 | refine below_set ?_ GE223.out) | exact HB.out)⟩
 ·rw [if_neg c3] at H
  have c3b0 : (t213 == 0) = false := beq_eq_false_iff_ne.mpr c3
  have c3b1 : (t213 != 0) = true := bne_iff_ne.mpr c3
  by_cases c19 : (t212.length : Int) = 0
  ·rw [if_pos c19] at H
   have c19b0 : ((t212.length : Int) == 0) = true := beq_iff_eq.mpr c19
   have c19b1 : ((t212.length : Int) != 0) = false := bne_eq_false_iff_eq.mpr c19
   clear c19
   replace H := Option.bind_eq_some_iff.mp H
   obtain ⟨t216, A200, H⟩ := H
   replace H : (some (t213 == t216)) = some r := H
   have A20 := Aside0.mk A200
   clear A200
   obtain rfl := Option.some.inj H
   go_enter Try.func23, Try.ntmps23
   go_wp2_with (first | ((with_reducible refine gate_callee (f := 36) rfl ?_); refine goesL_ (some 10) rfl rfl Try.func36 (by kernel_rfl) rfl #[.slice A0 l0.length c0] rfl (by (try simp only [List.map_toArray, List.map_cons, List.map_nil]); first | done | rfl | (simp only [List.length_drop, List.length_take]; rfl)) ?_; (with_reducible refine (expr_Text.calls k _ _ l0 t212 t213 _ ?side1 ?side2 A2.out).mono ?_); (case side1 => repeat (first | exact HR0.out | (with_reducible refine Kd.C_alloc ?_ _) | (with_reducible refine Kd.C_drewN ?_ _) | (with_reducible refine Kd.C_drew ?_))); (case side2 => exact HC0.out); rintro e w21 ⟨v214, rfl, ho0, hb⟩; refine ⟨_, rfl, ?_⟩; have n0_ := Aside0.mk (Kd.R_lower ho0 (below_size (by repeat (first | (with_reducible first | exact HB.out | apply below_alloc | apply pw_below_drewN | apply below_drew1) | exact HB.out)))); have n1_ := Aside0.mk (below_step (by repeat (first | (with_reducible first | exact HB.out | apply below_alloc | apply pw_below_drewN | apply below_drew1) | exact HB.out)) hb); clear HB; have HO215 := n0_; have HB := n1_; clear n0_ n1_; (try clear hb); (try clear hb2); (try clear hk); (try clear hi); (try clear ho0); obtain ⟨Ao22, co22, eo22⟩ := Kd.R_slice HO215.out; subst eo22) | (go_at_call 18; (with_reducible refine (expr_Check.calls k _ _ l0 t216 _ ?side1 ?side2 A20.out).mono ?_); (case side1 => repeat (first | exact (Kd.C_below HR0.out HB.out) | (with_reducible refine Kd.C_alloc ?_ _) | (with_reducible refine Kd.C_drewN ?_ _) | (with_reducible refine Kd.C_drew ?_))); (case side2 => exact HC0.out); rintro e w23 ⟨rfl, hb⟩; have n0_ := Aside0.mk (Kd.R_below (by (with_reducible repeat (first | apply Kd.R_alloc | apply Kd.R_drewN | apply Kd.R_drew)); exact HO215.out) hb); have n1_ := Aside0.mk (below_step (by repeat (first | (with_reducible first | exact HB.out | apply below_alloc | apply pw_below_drewN | apply below_drew1) | exact HB.out)) hb); clear HO215; clear HB; have HO215 := n0_; have HB := n1_; clear n0_ n1_; (try clear hb); (try clear hb2); (try clear hk); (try clear hi)))
   go_ret
   exact ⟨by first | rfl | (simp [errW_none, errW_some] <;> rfl) | (simp [*, errW_none, errW_some] <;> rfl), by repeat (first | (with_reducible first | exact HB.out | apply below_alloc | apply pw_below_drewN | apply below_drew1) | exact HB.out)⟩
  ·rw [if_neg c19] at H
   exact absurd H (by simp)

/-! ### linotypelaw23_ExprBack: function 7 -/
def linotypelaw23_ExprBack.j0 : Nat → List (S48) → List (S32) → Int → Bool → Bool → Option (Bool)
 | 0, _, _, _, _, _ => none
 | k + 1, x0, x1, x2, x7, x17 => if x17 = true then (some x7) else ((linotypelaw23_again.f k x0).bind fun t228 => (if t228 = true then ((expr_Parse.f k x1 x2).bind fun bt229 => (if bt229.2.2.1 = 0 then (if x7 = true then ((expr_Check.f k bt229.1).bind fun t236 => (if t236 = 0 then (if bt229.2.1 > x2 then (if bt229.2.1 ≤ (x1.length : Int) then ((linotypelaw23_again.f k bt229.1).bind fun t237 => (some t237)) else (none)) else (none)) else (none))) else (none)) else (if x7 = true then (if (bt229.1.length : Int) = 0 then (some (bt229.2.1 == 0)) else (none)) else (none)))) else (none)))
def linotypelaw23_ExprBack.f (k : Nat) (l0 : List (S48)) (l1 : List (S32)) (a2 : Int) : Option (Bool) := (linotypelaw23_awake.f k).bind fun t225 => ((linotypekit_LongNodes.f k l0 220).bind fun t226 => (if t226 = true then (linotypelaw23_ExprBack.j0 k l0 l1 a2 t225 true) else ((linotypekit_LongTokens.f k l1 450).bind fun t227 => (linotypelaw23_ExprBack.j0 k l0 l1 a2 t225 t227))))
theorem linotypelaw23_ExprBack.mono_l : ∀ k, (∀ y0 y1 y2 y3 y4, LeO (linotypelaw23_ExprBack.j0 k y0 y1 y2 y3 y4) (linotypelaw23_ExprBack.j0 (k + 1) y0 y1 y2 y3 y4))
 | 0 => fun _ _ _ _ _ r h => by simp [linotypelaw23_ExprBack.j0] at h
 | k + 1 => by
  have ih0 := linotypelaw23_ExprBack.mono_l k
  ·intro y0 y1 y2 y3 y4
   unfold linotypelaw23_ExprBack.j0
   repeat' first
   | (with_reducible exact ih0 _ _ _ _ _)
   | (with_reducible exact expr_Check.mono _ _)
   | (with_reducible exact expr_Parse.mono _ _ _)
   | (with_reducible exact linotypekit_LongNodes.mono _ _ _)
   | (with_reducible exact linotypekit_LongTokens.mono _ _ _)
   | (with_reducible exact linotypelaw23_again.mono _ _)
   | (with_reducible exact linotypelaw23_awake.mono _)
   | (with_reducible exact LeO.refl _)
   | (with_reducible exact LeO.none _)
   | (with_reducible refine LeO.ite ?_ ?_)
   | (with_reducible refine LeO.bind ?_ (fun _ => ?_))
   | exact ih0 _ _ _ _ _
   | exact expr_Check.mono _ _
   | exact expr_Parse.mono _ _ _
   | exact linotypekit_LongNodes.mono _ _ _
   | exact linotypekit_LongTokens.mono _ _ _
   | exact linotypelaw23_again.mono _ _
   | exact linotypelaw23_awake.mono _
   | exact LeO.none _
   | refine LeO.ite ?_ ?_
   | refine LeO.bind ?_ (fun _ => ?_)
theorem linotypelaw23_ExprBack.mono : ∀ a0 a1 a2 k, LeO (linotypelaw23_ExprBack.f k a0 a1 a2) (linotypelaw23_ExprBack.f (k + 1) a0 a1 a2) := by
 intro a0 a1 a2 k
 have ih0 := linotypelaw23_ExprBack.mono_l k
 unfold linotypelaw23_ExprBack.f
 repeat' first
   | (with_reducible exact ih0 _ _ _ _ _)
   | (with_reducible exact expr_Check.mono _ _)
   | (with_reducible exact expr_Parse.mono _ _ _)
   | (with_reducible exact linotypekit_LongNodes.mono _ _ _)
   | (with_reducible exact linotypekit_LongTokens.mono _ _ _)
   | (with_reducible exact linotypelaw23_again.mono _ _)
   | (with_reducible exact linotypelaw23_awake.mono _)
   | (with_reducible exact LeO.refl _)
   | (with_reducible exact LeO.none _)
   | (with_reducible refine LeO.ite ?_ ?_)
   | (with_reducible refine LeO.bind ?_ (fun _ => ?_))
   | exact ih0 _ _ _ _ _
   | exact expr_Check.mono _ _
   | exact expr_Parse.mono _ _ _
   | exact linotypekit_LongNodes.mono _ _ _
   | exact linotypekit_LongTokens.mono _ _ _
   | exact linotypelaw23_again.mono _ _
   | exact linotypelaw23_awake.mono _
   | exact LeO.none _
   | refine LeO.ite ?_ ?_
   | refine LeO.bind ?_ (fun _ => ?_)
set_option maxHeartbeats 8000000 in
set_option maxRecDepth 100000 in
theorem linotypelaw23_ExprBack.calls (k : Nat) (A0 : Option Addr) (c0 : Nat) (l0 : List (S48)) (A1 : Option Addr) (c1 : Nat) (l1 : List (S32)) (a2 : Int) (r : Bool) (w : World) (hr0 : Kd.C k48 w A0 l0.length l0) (hc0 : l0.length ≤ c0) (hr1 : Kd.C k32 w A1 l1.length l1) (hc1 : l1.length ≤ c1) (h : linotypelaw23_ExprBack.f k l0 l1 a2 = some r) :
  Calls Try.prog 7 #[.slice A0 l0.length c0, .slice A1 l1.length c1, .int .i64 a2] w fun e w' => e = .returned (.bool r) ∧ Below w.heap.size w w' := by
 have hu27 := Try.underlying27
 have HR0 := Aside0.mk hr0
 have HC0 := Aside0.mk hc0
 clear hr0 hc0
 have HR1 := Aside0.mk hr1
 have HC1 := Aside0.mk hc1
 clear hr1 hc1
 have HB := Aside0.mk (Below.refl w.heap.size w)
 have H : ((linotypelaw23_awake.f k).bind fun t225 => ((linotypekit_LongNodes.f k l0 220).bind fun t226 => (if t226 = true then (linotypelaw23_ExprBack.j0 k l0 l1 a2 t225 true) else ((linotypekit_LongTokens.f k l1 450).bind fun t227 => (linotypelaw23_ExprBack.j0 k l0 l1 a2 t225 t227))))) = some r := h
 clear h
 replace H := Option.bind_eq_some_iff.mp H
 obtain ⟨t225, A40, H⟩ := H
 replace H : ((linotypekit_LongNodes.f k l0 220).bind fun t226 => (if t226 = true then (linotypelaw23_ExprBack.j0 k l0 l1 a2 t225 true) else ((linotypekit_LongTokens.f k l1 450).bind fun t227 => (linotypelaw23_ExprBack.j0 k l0 l1 a2 t225 t227)))) = some r := H
 have A4 := Aside0.mk A40
 clear A40
 have HC5 := Aside0.mk H
 clear H
 go_enter Try.func7, Try.ntmps7
 go_upto_region 2 with (first | ((with_reducible refine gate_callee (f := 11) rfl ?_); refine goesL_ (some 11) rfl rfl Try.func11 (by kernel_rfl) rfl #[] rfl (by (try simp only [List.map_toArray, List.map_cons, List.map_nil]); first | done | rfl | (simp only [List.length_drop, List.length_take]; rfl)) ?_; (with_reducible refine (linotypelaw23_awake.calls k  t225 _ A4.out).mono ?_); rintro e w6 ⟨rfl, hb⟩; refine ⟨_, rfl, ?_⟩; have n0_ := Aside0.mk (below_step (by repeat (first | (with_reducible first | exact HB.out | apply below_alloc | apply pw_below_drewN | apply below_drew1) | exact HB.out)) hb); clear HB; have HB := n0_; clear n0_; (try clear hb); (try clear hb2); (try clear hk); (try clear hi)))
 (try simp only [Act.put, List.setIfInBounds_toArray, List.set_cons_zero, List.set_cons_succ])
 go_cut [17] (fun v17 wc => ∃ (kq : Nat) (x17_4 : Bool), v17 = .bool x17_4 ∧ Aside0 (linotypelaw23_ExprBack.j0 kq l0 l1 a2 t225 x17_4 = some r) ∧ Aside0 (kq ≤ k) ∧ Aside0 (Below w.heap.size w wc))
 case first =>
  have H := HC5.out
  clear HC5
  replace H := Option.bind_eq_some_iff.mp H
  obtain ⟨t226, A70, H⟩ := H
  replace H : (if t226 = true then (linotypelaw23_ExprBack.j0 k l0 l1 a2 t225 true) else ((linotypekit_LongTokens.f k l1 450).bind fun t227 => (linotypelaw23_ExprBack.j0 k l0 l1 a2 t225 t227))) = some r := H
  have A7 := Aside0.mk A70
  clear A70
  by_cases c8 : t226 = true
  ·subst c8
   have H1 : (linotypelaw23_ExprBack.j0 k l0 l1 a2 t225 true) = some r := by rw [if_pos rfl] at H; exact H
   clear H
   have H := H1
   clear H1
   have H' := Aside0.mk H
   clear H
   go_wp2_with (first | ((with_reducible refine gate_callee (f := 16) rfl ?_); refine goesL_ (some 13) rfl rfl Try.func16 (by kernel_rfl) rfl #[.slice A0 l0.length c0, .int .i64 220] rfl (by (try simp only [List.map_toArray, List.map_cons, List.map_nil]); first | done | rfl | (simp only [List.length_drop, List.length_take]; rfl)) ?_; (with_reducible refine (linotypekit_LongNodes.calls k _ _ l0 220 true _ ?side1 ?side2 A7.out).mono ?_); (case side1 => repeat (first | exact (Kd.C_below HR0.out HB.out) | (with_reducible refine Kd.C_alloc ?_ _) | (with_reducible refine Kd.C_drewN ?_ _) | (with_reducible refine Kd.C_drew ?_))); (case side2 => exact HC0.out); rintro e w' ⟨rfl, ⟨nd, rfl⟩⟩; refine ⟨_, rfl, ?_⟩))
   go_meet
   case rel => exact ⟨_, (true), (by first | rfl | (simp; done) | (simp [*]; done)), H', ⟨by first | omega | exact Nat.le_refl _⟩, ⟨by repeat (first | (with_reducible first | exact HB.out | apply below_alloc | apply pw_below_drewN | apply below_drew1) | exact HB.out)⟩⟩
  ·replace c8 := Bool.eq_false_iff.mpr c8
   subst c8
   have H1 : ((linotypekit_LongTokens.f k l1 450).bind fun t227 => (linotypelaw23_ExprBack.j0 k l0 l1 a2 t225 t227)) = some r := by rw [if_neg (show ¬ (false = true) by decide)] at H; exact H
   clear H
   have H := H1
   clear H1
   replace H := Option.bind_eq_some_iff.mp H
   obtain ⟨t227, A90, H⟩ := H
   replace H : (linotypelaw23_ExprBack.j0 k l0 l1 a2 t225 t227) = some r := H
   have A9 := Aside0.mk A90
   clear A90
   have H' := Aside0.mk H
   clear H
   go_wp2_with (first | ((with_reducible refine gate_callee (f := 16) rfl ?_); refine goesL_ (some 13) rfl rfl Try.func16 (by kernel_rfl) rfl #[.slice A0 l0.length c0, .int .i64 220] rfl (by (try simp only [List.map_toArray, List.map_cons, List.map_nil]); first | done | rfl | (simp only [List.length_drop, List.length_take]; rfl)) ?_; (with_reducible refine (linotypekit_LongNodes.calls k _ _ l0 220 false _ ?side1 ?side2 A7.out).mono ?_); (case side1 => repeat (first | exact (Kd.C_below HR0.out HB.out) | (with_reducible refine Kd.C_alloc ?_ _) | (with_reducible refine Kd.C_drewN ?_ _) | (with_reducible refine Kd.C_drew ?_))); (case side2 => exact HC0.out); rintro e w' ⟨rfl, ⟨nd, rfl⟩⟩; refine ⟨_, rfl, ?_⟩) | (go_at_call 22; (with_reducible refine (linotypekit_LongTokens.calls k _ _ l1 450 t227 _ ?side1 ?side2 A9.out).mono ?_); (case side1 => repeat (first | exact (Kd.C_below HR1.out (by repeat (first | (with_reducible first | exact HB.out | apply below_alloc | apply pw_below_drewN | apply below_drew1) | exact HB.out))) | (with_reducible refine Kd.C_alloc ?_ _) | (with_reducible refine Kd.C_drewN ?_ _) | (with_reducible refine Kd.C_drew ?_))); (case side2 => exact HC1.out); rintro e w' ⟨rfl, ⟨nd, rfl⟩⟩))
   go_meet
   case rel => exact ⟨_, (t227), (by first | rfl | (simp; done) | (simp [*]; done)), H', ⟨by first | omega | exact Nat.le_refl _⟩, ⟨by repeat (first | (with_reducible first | exact HB.out | apply below_alloc | apply pw_below_drewN | apply below_drew1) | exact HB.out)⟩⟩
 case rest =>
  clear HC5
  try clear c1
  try clear p2
  try clear c7
  try clear c8
  obtain ⟨kq, x17_4, rfl, HA, HJ4, HB⟩ := hcut
  cases kq with
  | zero => exact absurd HA.out (by simp [linotypelaw23_ExprBack.j0])
  | succ kj4 =>
   have H := HA.out
   clear HA
   simp only [linotypelaw23_ExprBack.j0] at H
   by_cases c10 : x17_4 = true
   ·subst c10
    have H1 : (some t225) = some r := by rw [if_pos rfl] at H; exact H
    clear H
    have H := H1
    clear H1
    obtain rfl := Option.some.inj H
    go_wp2
    go_ret
    exact ⟨by first | rfl | (simp [errW_none, errW_some] <;> rfl) | (simp [*, errW_none, errW_some] <;> rfl), by repeat (first | (with_reducible first | exact HB.out | apply below_alloc | apply pw_below_drewN | apply below_drew1) | exact HB.out)⟩
   ·replace c10 := Bool.eq_false_iff.mpr c10
    subst c10
    have H1 : ((linotypelaw23_again.f kj4 l0).bind fun t228 => (if t228 = true then ((expr_Parse.f kj4 l1 a2).bind fun bt229 => (if bt229.2.2.1 = 0 then (if t225 = true then ((expr_Check.f kj4 bt229.1).bind fun t236 => (if t236 = 0 then (if bt229.2.1 > a2 then (if bt229.2.1 ≤ (l1.length : Int) then ((linotypelaw23_again.f kj4 bt229.1).bind fun t237 => (some t237)) else (none)) else (none)) else (none))) else (none)) else (if t225 = true then (if (bt229.1.length : Int) = 0 then (some (bt229.2.1 == 0)) else (none)) else (none)))) else (none))) = some r := by rw [if_neg (show ¬ (false = true) by decide)] at H; exact H
    clear H
    have H := H1
    clear H1
    replace H := Option.bind_eq_some_iff.mp H
    obtain ⟨t228, A110, H⟩ := H
    replace H : (if t228 = true then ((expr_Parse.f kj4 l1 a2).bind fun bt229 => (if bt229.2.2.1 = 0 then (if t225 = true then ((expr_Check.f kj4 bt229.1).bind fun t236 => (if t236 = 0 then (if bt229.2.1 > a2 then (if bt229.2.1 ≤ (l1.length : Int) then ((linotypelaw23_again.f kj4 bt229.1).bind fun t237 => (some t237)) else (none)) else (none)) else (none))) else (none)) else (if t225 = true then (if (bt229.1.length : Int) = 0 then (some (bt229.2.1 == 0)) else (none)) else (none)))) else (none)) = some r := H
    have A11 := Aside0.mk A110
    clear A110
    by_cases c12 : t228 = true
    ·subst c12
     have H1 : ((expr_Parse.f kj4 l1 a2).bind fun bt229 => (if bt229.2.2.1 = 0 then (if t225 = true then ((expr_Check.f kj4 bt229.1).bind fun t236 => (if t236 = 0 then (if bt229.2.1 > a2 then (if bt229.2.1 ≤ (l1.length : Int) then ((linotypelaw23_again.f kj4 bt229.1).bind fun t237 => (some t237)) else (none)) else (none)) else (none))) else (none)) else (if t225 = true then (if (bt229.1.length : Int) = 0 then (some (bt229.2.1 == 0)) else (none)) else (none)))) = some r := by rw [if_pos rfl] at H; exact H
     clear H
     have H := H1
     clear H1
     replace H := Option.bind_eq_some_iff.mp H
     obtain ⟨⟨t229, t232, t233, t234⟩, A130, H⟩ := H
     replace H : (if t233 = 0 then (if t225 = true then ((expr_Check.f kj4 t229).bind fun t236 => (if t236 = 0 then (if t232 > a2 then (if t232 ≤ (l1.length : Int) then ((linotypelaw23_again.f kj4 t229).bind fun t237 => (some t237)) else (none)) else (none)) else (none))) else (none)) else (if t225 = true then (if (t229.length : Int) = 0 then (some (t232 == 0)) else (none)) else (none))) = some r := H
     have A13 := Aside0.mk A130
     clear A130
     by_cases c14 : t233 = 0
     ·rw [if_pos c14] at H
      have c14b0 : (t233 == 0) = true := beq_iff_eq.mpr c14
      have c14b1 : (t233 != 0) = false := bne_eq_false_iff_eq.mpr c14
      clear c14
      by_cases c15 : t225 = true
      ·subst c15
       have H1 : ((expr_Check.f kj4 t229).bind fun t236 => (if t236 = 0 then (if t232 > a2 then (if t232 ≤ (l1.length : Int) then ((linotypelaw23_again.f kj4 t229).bind fun t237 => (some t237)) else (none)) else (none)) else (none))) = some r := by rw [if_pos rfl] at H; exact H
       clear H
       have H := H1
       clear H1
       replace H := Option.bind_eq_some_iff.mp H
       obtain ⟨t236, A160, H⟩ := H
       replace H : (if t236 = 0 then (if t232 > a2 then (if t232 ≤ (l1.length : Int) then ((linotypelaw23_again.f kj4 t229).bind fun t237 => (some t237)) else (none)) else (none)) else (none)) = some r := H
       have A16 := Aside0.mk A160
       clear A160
       by_cases c17 : t236 = 0
       ·rw [if_pos c17] at H
        have c17b0 : (t236 == 0) = true := beq_iff_eq.mpr c17
        have c17b1 : (t236 != 0) = false := bne_eq_false_iff_eq.mpr c17
        clear c17
        by_cases c18 : t232 > a2
        ·rw [if_pos c18] at H
         have c18b0 : decide (a2 < t232) = true := decide_eq_true c18
         clear c18
         by_cases c19 : t232 ≤ (l1.length : Int)
         ·rw [if_pos c19] at H
          have c19b0 : decide (t232 ≤ (l1.length : Int)) = true := decide_eq_true c19
          clear c19
          replace H := Option.bind_eq_some_iff.mp H
          obtain ⟨t237, A200, H⟩ := H
          replace H : (some t237) = some r := H
          have A20 := Aside0.mk A200
          clear A200
          obtain rfl := Option.some.inj H
          go_wp2_with (first | ((with_reducible refine gate_callee (f := 23) rfl ?_); refine goesL_ (some 20) rfl rfl Try.func23 (by kernel_rfl) rfl #[.slice A0 l0.length c0] rfl (by (try simp only [List.map_toArray, List.map_cons, List.map_nil]); first | done | rfl | (simp only [List.length_drop, List.length_take]; rfl)) ?_; (with_reducible refine (linotypelaw23_again.calls kj4 _ _ l0 true _ ?side1 ?side2 A11.out).mono ?_); (case side1 => repeat (first | exact (Kd.C_below HR0.out HB.out) | (with_reducible refine Kd.C_alloc ?_ _) | (with_reducible refine Kd.C_drewN ?_ _) | (with_reducible refine Kd.C_drew ?_))); (case side2 => exact HC0.out); rintro e w21 ⟨rfl, hb⟩; refine ⟨_, rfl, ?_⟩; have n0_ := Aside0.mk (below_step (by repeat (first | (with_reducible first | exact HB.out | apply below_alloc | apply pw_below_drewN | apply below_drew1) | exact HB.out)) hb); clear HB; have HB := n0_; clear n0_; (try clear hb); (try clear hb2); (try clear hk); (try clear hi)) | ((with_reducible refine gate_callee (f := 24) rfl ?_); refine goesL_ (some 25) rfl rfl Try.func24 (by kernel_rfl) rfl #[.slice A1 l1.length c1, .int .i64 a2] rfl (by (try simp only [List.map_toArray, List.map_cons, List.map_nil]); first | done | rfl | (simp only [List.length_drop, List.length_take]; rfl)) ?_; (with_reducible refine (expr_Parse.calls kj4 _ _ l1 a2 t229 t232 t233 t234 _ ?side1 ?side2 A13.out).mono ?_); (case side1 => repeat (first | exact (Kd.C_below HR1.out HB.out) | (with_reducible refine Kd.C_alloc ?_ _) | (with_reducible refine Kd.C_drewN ?_ _) | (with_reducible refine Kd.C_drew ?_))); (case side2 => exact HC1.out); rintro e w22 ⟨v230, rfl, ho0, hb⟩; refine ⟨_, rfl, ?_⟩; have n0_ := Aside0.mk (Kd.R_lower ho0 (below_size (by repeat (first | (with_reducible first | exact HB.out | apply below_alloc | apply pw_below_drewN | apply below_drew1) | exact HB.out)))); have n1_ := Aside0.mk (below_step (by repeat (first | (with_reducible first | exact HB.out | apply below_alloc | apply pw_below_drewN | apply below_drew1) | exact HB.out)) hb); clear HB; have HO231 := n0_; have HB := n1_; clear n0_ n1_; (try clear hb); (try clear hb2); (try clear hk); (try clear hi); (try clear ho0)) | ((with_reducible refine gate_dst (N := 10) rfl ?_); (try (refine gate_guard (by rfl) ?_; dsimp only)); refine box_event ?hg (N := 10) ?hd (cs := #[.int .i64 0, .int .i64 0]) (t := 27) ?hr ?_; (case hd => rfl); (case hg => rfl); (case hr => first | (go_simp; done) | (go_simp; rfl)); intro gb235 hg w23 hbox hb; have n0_ := Aside0.mk (Kd.R_below (by (with_reducible repeat (first | apply Kd.R_alloc | apply Kd.R_drewN | apply Kd.R_drew)); exact HO231.out) hb); have n1_ := Aside0.mk (below_step (by repeat (first | (with_reducible first | exact HB.out | apply below_alloc | apply pw_below_drewN | apply below_drew1) | exact HB.out)) hb); have n2_ := Aside0.mk (hbox); have n3_ := Aside0.mk ((by rw [hg]; exact (below_size (by repeat (first | (with_reducible first | exact HB.out | apply below_alloc | apply pw_below_drewN | apply below_drew1) | exact HB.out))) : w.heap.size ≤ gb235)); have n4_ := Aside0.mk ((by rw [hg]; exact (below_size (by repeat (first | (with_reducible first | exact HB.out | apply below_alloc | apply pw_below_drewN | apply below_drew1) | exact HB.out))) : w.heap.size ≤ gb235)); clear HO231; clear HB; have HO231 := n0_; have HB := n1_; have BK235 := n2_; have GW235 := n3_; have GE235 := n4_; clear n0_ n1_ n2_ n3_ n4_; clear hb hbox hg; have hcz24_0 : w23.cell? ⟨gb235, 0, none⟩ = some (.int .i64 0) := (blk_cell BK235.out 0).trans rfl; have hcz24_1 : w23.cell? ⟨gb235, 1, none⟩ = some (.int .i64 0) := (blk_cell BK235.out 1).trans rfl; have hfz24_0 := blk_frozen BK235.out 0; have hfz24_1 := blk_frozen BK235.out 1; obtain ⟨Ao25, co25, eo25⟩ := Kd.R_slice HO231.out; subst eo25) | (go_at_call 18; (with_reducible refine (expr_Check.calls kj4 _ _ t229 t236 _ ?side1 ?side2 A16.out).mono ?_); (case side1 => refine (Kd.R_reads' (e := 48) (base := w.heap.size) (ok := fun k_ => True) (n := t229.length) (c := co25) ?_).2.2; exact (by (with_reducible repeat (first | apply Kd.R_alloc | apply Kd.R_drewN | apply Kd.R_drew)); exact (Kd.R_mono (Kd.R_far (p := ⟨gb235, 1, none⟩) (Kd.R_far (p := ⟨gb235, 0, none⟩) (Kd.R_types HO231.out BK235.out (by decide)) (fun _ hk => hk.2) (.int .i64 t233)) (fun _ hk => hk.2) (.int .i64 t234)) (fun _ h_ => h_.1)))); (case side2 => exact (Kd.R_reads' HO231.out).2.1); rintro e w26 ⟨rfl, hb⟩; have n0_ := Aside0.mk (Kd.R_below (by (with_reducible repeat (first | apply Kd.R_alloc | apply Kd.R_drewN | apply Kd.R_drew)); exact (Kd.R_mono (Kd.R_far (p := ⟨gb235, 1, none⟩) (Kd.R_far (p := ⟨gb235, 0, none⟩) (Kd.R_types HO231.out BK235.out (by decide)) (fun _ hk => hk.2) (.int .i64 t233)) (fun _ hk => hk.2) (.int .i64 t234)) (fun _ h_ => h_.1))) hb); have n1_ := Aside0.mk (blk_below (g := gb235) (o := .cells #[.int .i64 t233, .int .i64 t234] 27 (0, 0)) (by (with_reducible repeat (first | refine blk_drewN ?_ _ | refine blk_drew ?_ | refine blk_alloc ?_ _)); refine blk_put (cs := #[.int .i64 t233, .int .i64 0]) ?_ 1 _ rfl; (with_reducible repeat (first | refine blk_drewN ?_ _ | refine blk_drew ?_ | refine blk_alloc ?_ _)); refine blk_put (cs := #[.int .i64 0, .int .i64 0]) ?_ 0 _ rfl; (with_reducible repeat (first | refine blk_drewN ?_ _ | refine blk_drew ?_ | refine blk_alloc ?_ _)); exact BK235.out) hb); have n2_ := Aside0.mk (below_step (by repeat (first | (with_reducible first | exact HB.out | apply below_alloc | apply pw_below_drewN | apply below_drew1 | refine below_set ?_ GE235.out) | exact HB.out)) hb); clear HO231; clear BK235; clear HB; have HO231 := n0_; have BK235 := n1_; have HB := n2_; clear n0_ n1_ n2_; (try clear hb); (try clear hb2); (try clear hk); (try clear hi)) | (go_at_call 23; (with_reducible refine (linotypelaw23_again.calls kj4 _ _ t229 t237 _ ?side1 ?side2 A20.out).mono ?_); (case side1 => repeat (first | exact (Kd.R_reads' HO231.out).2.2 | (with_reducible refine Kd.C_alloc ?_ _) | (with_reducible refine Kd.C_drewN ?_ _) | (with_reducible refine Kd.C_drew ?_))); (case side2 => exact (Kd.R_reads' HO231.out).2.1); rintro e w27 ⟨rfl, hb⟩; have n0_ := Aside0.mk (Kd.R_below (by (with_reducible repeat (first | apply Kd.R_alloc | apply Kd.R_drewN | apply Kd.R_drew)); exact HO231.out) hb); have n1_ := Aside0.mk (blk_below (g := gb235) (o := .cells #[.int .i64 t233, .int .i64 t234] 27 (0, 0)) (by (with_reducible repeat (first | refine blk_drewN ?_ _ | refine blk_drew ?_ | refine blk_alloc ?_ _)); exact BK235.out) hb); have n2_ := Aside0.mk (below_step (by repeat (first | (with_reducible first | exact HB.out | apply below_alloc | apply pw_below_drewN | apply below_drew1 | refine below_set ?_ GE235.out) | exact HB.out)) hb); clear HO231; clear BK235; clear HB; have HO231 := n0_; have BK235 := n1_; have HB := n2_; clear n0_ n1_ n2_; (try clear hb); (try clear hb2); (try clear hk); (try clear hi)))
          go_ret
          exact ⟨by first | rfl | (simp [errW_none, errW_some] <;> rfl) | (simp [*, errW_none, errW_some] <;> rfl), by repeat (first | (with_reducible first | exact HB.out | apply below_alloc | apply pw_below_drewN | apply below_drew1 | refine below_set ?_ GE235.out) | exact HB.out)⟩
         ·rw [if_neg c19] at H
          exact absurd H (by simp)
        ·rw [if_neg c18] at H
         exact absurd H (by simp)
       ·rw [if_neg c17] at H
        exact absurd H (by simp)
      ·replace c15 := Bool.eq_false_iff.mpr c15
       subst c15
       have H1 : (none) = some r := by rw [if_neg (show ¬ (false = true) by decide)] at H; exact H
       clear H
       have H := H1
       clear H1
       exact absurd H (by simp)
     ·rw [if_neg c14] at H
      have c14b0 : (t233 == 0) = false := beq_eq_false_iff_ne.mpr c14
      have c14b1 : (t233 != 0) = true := bne_iff_ne.mpr c14
      by_cases c28 : t225 = true
      ·subst c28
       have H1 : (if (t229.length : Int) = 0 then (some (t232 == 0)) else (none)) = some r := by rw [if_pos rfl] at H; exact H
       clear H
       have H := H1
       clear H1
       by_cases c29 : (t229.length : Int) = 0
       ·rw [if_pos c29] at H
        have c29b0 : ((t229.length : Int) == 0) = true := beq_iff_eq.mpr c29
        have c29b1 : ((t229.length : Int) != 0) = false := bne_eq_false_iff_eq.mpr c29
        clear c29
        obtain rfl := Option.some.inj H
        go_wp2_with (first | ((with_reducible refine gate_callee (f := 23) rfl ?_); refine goesL_ (some 20) rfl rfl Try.func23 (by kernel_rfl) rfl #[.slice A0 l0.length c0] rfl (by (try simp only [List.map_toArray, List.map_cons, List.map_nil]); first | done | rfl | (simp only [List.length_drop, List.length_take]; rfl)) ?_; (with_reducible refine (linotypelaw23_again.calls kj4 _ _ l0 true _ ?side1 ?side2 A11.out).mono ?_); (case side1 => repeat (first | exact (Kd.C_below HR0.out HB.out) | (with_reducible refine Kd.C_alloc ?_ _) | (with_reducible refine Kd.C_drewN ?_ _) | (with_reducible refine Kd.C_drew ?_))); (case side2 => exact HC0.out); rintro e w30 ⟨rfl, hb⟩; refine ⟨_, rfl, ?_⟩; have n0_ := Aside0.mk (below_step (by repeat (first | (with_reducible first | exact HB.out | apply below_alloc | apply pw_below_drewN | apply below_drew1) | exact HB.out)) hb); clear HB; have HB := n0_; clear n0_; (try clear hb); (try clear hb2); (try clear hk); (try clear hi)) | ((with_reducible refine gate_callee (f := 24) rfl ?_); refine goesL_ (some 25) rfl rfl Try.func24 (by kernel_rfl) rfl #[.slice A1 l1.length c1, .int .i64 a2] rfl (by (try simp only [List.map_toArray, List.map_cons, List.map_nil]); first | done | rfl | (simp only [List.length_drop, List.length_take]; rfl)) ?_; (with_reducible refine (expr_Parse.calls kj4 _ _ l1 a2 t229 t232 t233 t234 _ ?side1 ?side2 A13.out).mono ?_); (case side1 => repeat (first | exact (Kd.C_below HR1.out HB.out) | (with_reducible refine Kd.C_alloc ?_ _) | (with_reducible refine Kd.C_drewN ?_ _) | (with_reducible refine Kd.C_drew ?_))); (case side2 => exact HC1.out); rintro e w31 ⟨v230, rfl, ho0, hb⟩; refine ⟨_, rfl, ?_⟩; have n0_ := Aside0.mk (Kd.R_lower ho0 (below_size (by repeat (first | (with_reducible first | exact HB.out | apply below_alloc | apply pw_below_drewN | apply below_drew1) | exact HB.out)))); have n1_ := Aside0.mk (below_step (by repeat (first | (with_reducible first | exact HB.out | apply below_alloc | apply pw_below_drewN | apply below_drew1) | exact HB.out)) hb); clear HB; have HO231 := n0_; have HB := n1_; clear n0_ n1_; (try clear hb); (try clear hb2); (try clear hk); (try clear hi); (try clear ho0)) | ((with_reducible refine gate_dst (N := 10) rfl ?_); (try (refine gate_guard (by rfl) ?_; dsimp only)); refine box_event ?hg (N := 10) ?hd (cs := #[.int .i64 0, .int .i64 0]) (t := 27) ?hr ?_; (case hd => rfl); (case hg => rfl); (case hr => first | (go_simp; done) | (go_simp; rfl)); intro gb235 hg w32 hbox hb; have n0_ := Aside0.mk (Kd.R_below (by (with_reducible repeat (first | apply Kd.R_alloc | apply Kd.R_drewN | apply Kd.R_drew)); exact HO231.out) hb); have n1_ := Aside0.mk (below_step (by repeat (first | (with_reducible first | exact HB.out | apply below_alloc | apply pw_below_drewN | apply below_drew1) | exact HB.out)) hb); have n2_ := Aside0.mk (hbox); have n3_ := Aside0.mk ((by rw [hg]; exact (below_size (by repeat (first | (with_reducible first | exact HB.out | apply below_alloc | apply pw_below_drewN | apply below_drew1) | exact HB.out))) : w.heap.size ≤ gb235)); have n4_ := Aside0.mk ((by rw [hg]; exact (below_size (by repeat (first | (with_reducible first | exact HB.out | apply below_alloc | apply pw_below_drewN | apply below_drew1) | exact HB.out))) : w.heap.size ≤ gb235)); clear HO231; clear HB; have HO231 := n0_; have HB := n1_; have BK235 := n2_; have GW235 := n3_; have GE235 := n4_; clear n0_ n1_ n2_ n3_ n4_; clear hb hbox hg; have hcz33_0 : w32.cell? ⟨gb235, 0, none⟩ = some (.int .i64 0) := (blk_cell BK235.out 0).trans rfl; have hcz33_1 : w32.cell? ⟨gb235, 1, none⟩ = some (.int .i64 0) := (blk_cell BK235.out 1).trans rfl; have hfz33_0 := blk_frozen BK235.out 0; have hfz33_1 := blk_frozen BK235.out 1; obtain ⟨Ao34, co34, eo34⟩ := Kd.R_slice HO231.out; subst eo34))
        go_ret
        exact ⟨by first | rfl | (simp [errW_none, errW_some] <;> rfl) | (simp [*, errW_none, errW_some] <;> rfl), by repeat (first | (with_reducible first | exact HB.out | apply below_alloc | apply pw_below_drewN | apply below_drew1 | refine below_set ?_ GE235.out) | exact HB.out)⟩
       ·rw [if_neg c29] at H
        exact absurd H (by simp)
      ·replace c28 := Bool.eq_false_iff.mpr c28
       subst c28
       have H1 : (none) = some r := by rw [if_neg (show ¬ (false = true) by decide)] at H; exact H
       clear H
       have H := H1
       clear H1
       exact absurd H (by simp)
    ·replace c12 := Bool.eq_false_iff.mpr c12
     subst c12
     have H1 : (none) = some r := by rw [if_neg (show ¬ (false = true) by decide)] at H; exact H
     clear H
     have H := H1
     clear H1
     exact absurd H (by simp)

end Go.Proofs.Ytjabjooephellaa.XB
