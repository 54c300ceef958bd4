-- PRINTED by print.py (a twelfth state) out of the translation. Not trusted: Lean checks it.
import Derived.Test.YtjabjooephellaaDoorXEx0
import Derived.Test.YtjabjooephellaaDoorXEx3
import Derived.Test.YtjabjooephellaaDoorXEx5
import Derived.Test.YtjabjooephellaaDoorXEx9
namespace Go.Proofs.YtjabjooephellaaDoor.XE
open Go.RowKit Go.Proofs.YtjabjooephellaaDoorW.PrintWords Go.Proofs.YtjabjooephellaaDoorW.PrintLast Go.Proofs.YtjabjooephellaaDoorW.PrintMore
attribute [local go_sem] max2_int min2_int max_two min_two max_three min_three max_four min_four   -- for this text's walks alone
set_option linter.unusedVariables false
set_option linter.unusedSimpArgs false

/-! ### expr_operands: function 59 -/
def expr_operands.j0 : Nat → Int → Bool → Option (Int)
 | 0, _, _ => none
 | k + 1, x0, x3 => if x3 = true then (some (-1)) else (if x0 ≤ 4 then (some 0) else (if x0 ≤ 6 then (some 1) else (some 2)))
def expr_operands.f (k : Nat) (a0 : Int) : Option (Int) := if a0 < 1 then (expr_operands.j0 k a0 true) else (expr_operands.j0 k a0 (decide (a0 > 16)))
theorem expr_operands.mono_l : ∀ k, (∀ y0 y1, LeO (expr_operands.j0 k y0 y1) (expr_operands.j0 (k + 1) y0 y1))
 | 0 => fun _ _ r h => by simp [expr_operands.j0] at h
 | k + 1 => by
  have ih0 := expr_operands.mono_l k
  ·intro y0 y1
   unfold expr_operands.j0
   repeat' first
   | (with_reducible exact ih0 _ _)
   | (with_reducible exact LeO.refl _)
   | (with_reducible exact LeO.none _)
   | (with_reducible refine LeO.ite ?_ ?_)
   | (with_reducible refine LeO.bind ?_ (fun _ => ?_))
   | exact ih0 _ _
   | exact LeO.none _
   | refine LeO.ite ?_ ?_
   | refine LeO.bind ?_ (fun _ => ?_)
theorem expr_operands.mono : ∀ a0 k, LeO (expr_operands.f k a0) (expr_operands.f (k + 1) a0) := by
 intro a0 k
 have ih0 := expr_operands.mono_l k
 unfold expr_operands.f
 repeat' first
   | (with_reducible exact ih0 _ _)
   | (with_reducible exact LeO.refl _)
   | (with_reducible exact LeO.none _)
   | (with_reducible refine LeO.ite ?_ ?_)
   | (with_reducible refine LeO.bind ?_ (fun _ => ?_))
   | exact ih0 _ _
   | exact LeO.none _
   | refine LeO.ite ?_ ?_
   | refine LeO.bind ?_ (fun _ => ?_)
set_option maxHeartbeats 8000000 in
set_option maxRecDepth 100000 in
theorem expr_operands.calls (k : Nat) (a0 : Int) (r : Int) (w : World) (h : expr_operands.f k a0 = some r) :
  Calls Tryd.prog 59 #[.int .i64 a0] w fun e w' => e = .returned (.int .i64 r) ∧ Drawn0 w w' := by
 have H : (if a0 < 1 then (expr_operands.j0 k a0 true) else (expr_operands.j0 k a0 (decide (a0 > 16)))) = some r := h
 clear h
 have HC2 := Aside0.mk H
 clear H
 go_enter Tryd.func59, Tryd.ntmps59
 go_upto_region 1 with (fail)
 go_cut [3] (fun v3 wc => ∃ (kq : Nat) (x3_1 : Bool), v3 = .bool x3_1 ∧ Aside0 (expr_operands.j0 kq a0 x3_1 = some r) ∧ Aside0 (kq ≤ k) ∧ Drawn0 w wc)
 case first =>
  have H := HC2.out
  clear HC2
  by_cases c3 : a0 < 1
  ·rw [if_pos c3] at H
   have c3b0 : decide (a0 < 1) = true := decide_eq_true c3
   clear c3
   (first | rw [c3b0] | (simp only [i64_w, i32_w]; rw [c3b0]) | skip)
   have H' := Aside0.mk H
   clear H
   go_wp2
   go_meet
   case rel => exact ⟨_, (true), (by first | rfl | (simp; done) | (simp [*]; done)), H', ⟨by first | omega | exact Nat.le_refl _⟩, by repeat (first | exact Drawn0.refl _ | apply Drawn0.step)⟩
  ·rw [if_neg c3] at H
   have c3b0 : decide (a0 < 1) = false := decide_eq_false c3
   clear c3
   (first | rw [c3b0] | (simp only [i64_w, i32_w]; rw [c3b0]) | skip)
   have H' := Aside0.mk H
   clear H
   go_wp2
   go_meet
   case rel => exact ⟨_, (decide (a0 > 16)), (by first | rfl | (simp; done) | (simp [*]; done)), H', ⟨by first | omega | exact Nat.le_refl _⟩, by repeat (first | exact Drawn0.refl _ | apply Drawn0.step)⟩
 case rest =>
  clear HC2
  try clear p2
  try clear c3
  try clear c3b0
  obtain ⟨kq, x3_1, rfl, HA, HJ1, ⟨mc1, rfl⟩⟩ := hcut
  cases kq with
  | zero => exact absurd HA.out (by simp [expr_operands.j0])
  | succ kj1 =>
   have H := HA.out
   clear HA
   simp only [expr_operands.j0] at H
   by_cases c4 : x3_1 = true
   ·subst c4
    have H1 : (some (-1)) = some r := by rw [if_pos rfl] at H; exact H
    clear H
    have H := H1
    clear H1
    obtain rfl := Option.some.inj H
    go_wp2
    go_ret
    exact ⟨by first | rfl | (simp; done) | (simp [*]; done), by repeat (first | exact Drawn0.refl _ | apply Drawn0.step)⟩
   ·replace c4 := Bool.eq_false_iff.mpr c4
    subst c4
    have H1 : (if a0 ≤ 4 then (some 0) else (if a0 ≤ 6 then (some 1) else (some 2))) = some r := by rw [if_neg (show ¬ (false = true) by decide)] at H; exact H
    clear H
    have H := H1
    clear H1
    by_cases c5 : a0 ≤ 4
    ·rw [if_pos c5] at H
     have c5b0 : decide (a0 ≤ 4) = true := decide_eq_true c5
     clear c5
     obtain rfl := Option.some.inj H
     go_wp2
     go_ret
     exact ⟨by first | rfl | (simp; done) | (simp [*]; done), by repeat (first | exact Drawn0.refl _ | apply Drawn0.step)⟩
    ·rw [if_neg c5] at H
     have c5b0 : decide (a0 ≤ 4) = false := decide_eq_false c5
     clear c5
     by_cases c6 : a0 ≤ 6
     ·rw [if_pos c6] at H
      have c6b0 : decide (a0 ≤ 6) = true := decide_eq_true c6
      clear c6
      obtain rfl := Option.some.inj H
      go_wp2
      go_ret
      exact ⟨by first | rfl | (simp; done) | (simp [*]; done), by repeat (first | exact Drawn0.refl _ | apply Drawn0.step)⟩
     ·rw [if_neg c6] at H
      have c6b0 : decide (a0 ≤ 6) = false := decide_eq_false c6
      clear c6
      obtain rfl := Option.some.inj H
      go_wp2
      go_ret
      exact ⟨by first | rfl | (simp; done) | (simp [*]; done), by repeat (first | exact Drawn0.refl _ | apply Drawn0.step)⟩

/-! ### expr_leaf: function 60 -/
def expr_leaf.f (k : Nat) (a0_0 : Int) (a0_1 : Int) (a0_2 : ByteArray) (a0_3 : Int) (a0_4 : Int) : Option (Bool) := if a0_0 = 1 then (some (a0_2.toList == ([] : List UInt8))) else (if a0_0 = 2 then (if a0_1 = 0 then ((token_Name.f k a0_2).bind fun t168 => (some t168)) else (some false)) else (if a0_1 = 0 then (some (a0_2.toList == ([] : List UInt8))) else (some false)))
theorem expr_leaf.mono : ∀ a0 a1 a2 a3 a4 k, LeO (expr_leaf.f k a0 a1 a2 a3 a4) (expr_leaf.f (k + 1) a0 a1 a2 a3 a4) := by
 intro a0 a1 a2 a3 a4 k
 unfold expr_leaf.f
 repeat' first
   | (with_reducible exact token_Name.mono _ _)
   | (with_reducible exact LeO.refl _)
   | (with_reducible exact LeO.none _)
   | (with_reducible refine LeO.ite ?_ ?_)
   | (with_reducible refine LeO.bind ?_ (fun _ => ?_))
   | exact token_Name.mono _ _
   | exact LeO.none _
   | refine LeO.ite ?_ ?_
   | refine LeO.bind ?_ (fun _ => ?_)
set_option maxHeartbeats 8000000 in
set_option maxRecDepth 100000 in
theorem expr_leaf.calls (k : Nat) (a0_0 : Int) (a0_1 : Int) (a0_2 : ByteArray) (a0_3 : Int) (a0_4 : Int) (r : Bool) (w : World) (h : expr_leaf.f k a0_0 a0_1 a0_2 a0_3 a0_4 = some r) :
  Calls Tryd.prog 60 #[.agg #[.int .i64 a0_0, .int .i64 a0_1, .string a0_2, .int .i64 a0_3, .int .i64 a0_4]] w fun e w' => e = .returned (.bool r) ∧ Below w.heap.size w w' := by
 have hu47 := Tryd.underlying47
 have HB := Aside0.mk (Below.refl w.heap.size w)
 have H : (if a0_0 = 1 then (some (a0_2.toList == ([] : List UInt8))) else (if a0_0 = 2 then (if a0_1 = 0 then ((token_Name.f k a0_2).bind fun t168 => (some t168)) else (some false)) else (if a0_1 = 0 then (some (a0_2.toList == ([] : List UInt8))) else (some false)))) = some r := h
 clear h
 by_cases c2 : a0_0 = 1
 ·rw [if_pos c2] at H
  have c2b0 : (a0_0 == 1) = true := beq_iff_eq.mpr c2
  have c2b1 : (a0_0 != 1) = false := bne_eq_false_iff_eq.mpr c2
  clear c2
  obtain rfl := Option.some.inj H
  go_enter Tryd.func60, Tryd.ntmps60
  go_wp2_with (first | ((with_reducible refine gate_dst (N := 1) rfl ?_); refine box_event ?hg (N := 1) ?hd (cs := #[.int .i64 a0_0, .int .i64 a0_1, .string a0_2, .int .i64 a0_3, .int .i64 a0_4]) (t := 47) ?hr ?_; (case hd => rfl); (case hg => rfl); (case hr => first | (go_simp; done) | (go_simp; rfl)); intro gb167 hg w3 hbox hb; have n0_ := Aside0.mk (below_step (by repeat (first | (with_reducible first | exact HB.out | apply below_alloc | apply pw_below_drewN | apply below_drew1) | exact HB.out)) hb); have n1_ := Aside0.mk (hbox); have n2_ := Aside0.mk ((by rw [hg]; exact (below_size (by repeat (first | (with_reducible first | exact HB.out | apply below_alloc | apply pw_below_drewN | apply below_drew1) | exact HB.out))) : w.heap.size ≤ gb167)); have n3_ := Aside0.mk ((by rw [hg]; exact (below_size (by repeat (first | (with_reducible first | exact HB.out | apply below_alloc | apply pw_below_drewN | apply below_drew1) | exact HB.out))) : w.heap.size ≤ gb167)); clear HB; have HB := n0_; have BK167 := n1_; have GW167 := n2_; have GE167 := n3_; clear n0_ n1_ n2_ n3_; clear hb hbox hg; have hcz4_0 : w3.cell? ⟨gb167, 0, none⟩ = some (.int .i64 a0_0) := (blk_cell BK167.out 0).trans rfl; have hcz4_1 : w3.cell? ⟨gb167, 1, none⟩ = some (.int .i64 a0_1) := (blk_cell BK167.out 1).trans rfl; have hcz4_2 : w3.cell? ⟨gb167, 2, none⟩ = some (.string a0_2) := (blk_cell BK167.out 2).trans rfl; have hcz4_3 : w3.cell? ⟨gb167, 3, none⟩ = some (.int .i64 a0_3) := (blk_cell BK167.out 3).trans rfl; have hcz4_4 : w3.cell? ⟨gb167, 4, none⟩ = some (.int .i64 a0_4) := (blk_cell BK167.out 4).trans rfl; have hfz4_0 := blk_frozen BK167.out 0; have hfz4_1 := blk_frozen BK167.out 1; have hfz4_2 := blk_frozen BK167.out 2; have hfz4_3 := blk_frozen BK167.out 3; have hfz4_4 := blk_frozen BK167.out 4))
  go_ret
  exact ⟨by first | rfl | (simp [errW_none, errW_some] <;> rfl) | (simp [*, errW_none, errW_some] <;> rfl), by repeat (first | (with_reducible first | exact HB.out | apply below_alloc | apply pw_below_drewN | apply below_drew1 | refine below_set ?_ GE167.out) | exact HB.out)⟩
 ·rw [if_neg c2] at H
  have c2b0 : (a0_0 == 1) = false := beq_eq_false_iff_ne.mpr c2
  have c2b1 : (a0_0 != 1) = true := bne_iff_ne.mpr c2
  by_cases c5 : a0_0 = 2
  ·rw [if_pos c5] at H
   have c5b0 : (a0_0 == 2) = true := beq_iff_eq.mpr c5
   have c5b1 : (a0_0 != 2) = false := bne_eq_false_iff_eq.mpr c5
   clear c5
   by_cases c6 : a0_1 = 0
   ·rw [if_pos c6] at H
    have c6b0 : (a0_1 == 0) = true := beq_iff_eq.mpr c6
    have c6b1 : (a0_1 != 0) = false := bne_eq_false_iff_eq.mpr c6
    clear c6
    replace H := Option.bind_eq_some_iff.mp H
    obtain ⟨t168, A70, H⟩ := H
    replace H : (some t168) = some r := H
    have A7 := Aside0.mk A70
    clear A70
    obtain rfl := Option.some.inj H
    go_enter Tryd.func60, Tryd.ntmps60
    go_wp2_with (first | ((with_reducible refine gate_dst (N := 1) rfl ?_); refine box_event ?hg (N := 1) ?hd (cs := #[.int .i64 a0_0, .int .i64 a0_1, .string a0_2, .int .i64 a0_3, .int .i64 a0_4]) (t := 47) ?hr ?_; (case hd => rfl); (case hg => rfl); (case hr => first | (go_simp; done) | (go_simp; rfl)); intro gb167 hg w8 hbox hb; have n0_ := Aside0.mk (below_step (by repeat (first | (with_reducible first | exact HB.out | apply below_alloc | apply pw_below_drewN | apply below_drew1) | exact HB.out)) hb); have n1_ := Aside0.mk (hbox); have n2_ := Aside0.mk ((by rw [hg]; exact (below_size (by repeat (first | (with_reducible first | exact HB.out | apply below_alloc | apply pw_below_drewN | apply below_drew1) | exact HB.out))) : w.heap.size ≤ gb167)); have n3_ := Aside0.mk ((by rw [hg]; exact (below_size (by repeat (first | (with_reducible first | exact HB.out | apply below_alloc | apply pw_below_drewN | apply below_drew1) | exact HB.out))) : w.heap.size ≤ gb167)); clear HB; have HB := n0_; have BK167 := n1_; have GW167 := n2_; have GE167 := n3_; clear n0_ n1_ n2_ n3_; clear hb hbox hg; have hcz9_0 : w8.cell? ⟨gb167, 0, none⟩ = some (.int .i64 a0_0) := (blk_cell BK167.out 0).trans rfl; have hcz9_1 : w8.cell? ⟨gb167, 1, none⟩ = some (.int .i64 a0_1) := (blk_cell BK167.out 1).trans rfl; have hcz9_2 : w8.cell? ⟨gb167, 2, none⟩ = some (.string a0_2) := (blk_cell BK167.out 2).trans rfl; have hcz9_3 : w8.cell? ⟨gb167, 3, none⟩ = some (.int .i64 a0_3) := (blk_cell BK167.out 3).trans rfl; have hcz9_4 : w8.cell? ⟨gb167, 4, none⟩ = some (.int .i64 a0_4) := (blk_cell BK167.out 4).trans rfl; have hfz9_0 := blk_frozen BK167.out 0; have hfz9_1 := blk_frozen BK167.out 1; have hfz9_2 := blk_frozen BK167.out 2; have hfz9_3 := blk_frozen BK167.out 3; have hfz9_4 := blk_frozen BK167.out 4) | (go_at_call 20; (with_reducible refine (token_Name.calls k a0_2 t168 _ A7.out).mono ?_); rintro e w' ⟨rfl, ⟨nd, rfl⟩⟩))
    go_ret
    exact ⟨by first | rfl | (simp [errW_none, errW_some] <;> rfl) | (simp [*, errW_none, errW_some] <;> rfl), by repeat (first | (with_reducible first | exact HB.out | apply below_alloc | apply pw_below_drewN | apply below_drew1 | refine below_set ?_ GE167.out) | exact HB.out)⟩
   ·rw [if_neg c6] at H
    have c6b0 : (a0_1 == 0) = false := beq_eq_false_iff_ne.mpr c6
    have c6b1 : (a0_1 != 0) = true := bne_iff_ne.mpr c6
    obtain rfl := Option.some.inj H
    go_enter Tryd.func60, Tryd.ntmps60
    go_wp2_with (first | ((with_reducible refine gate_dst (N := 1) rfl ?_); refine box_event ?hg (N := 1) ?hd (cs := #[.int .i64 a0_0, .int .i64 a0_1, .string a0_2, .int .i64 a0_3, .int .i64 a0_4]) (t := 47) ?hr ?_; (case hd => rfl); (case hg => rfl); (case hr => first | (go_simp; done) | (go_simp; rfl)); intro gb167 hg w10 hbox hb; have n0_ := Aside0.mk (below_step (by repeat (first | (with_reducible first | exact HB.out | apply below_alloc | apply pw_below_drewN | apply below_drew1) | exact HB.out)) hb); have n1_ := Aside0.mk (hbox); have n2_ := Aside0.mk ((by rw [hg]; exact (below_size (by repeat (first | (with_reducible first | exact HB.out | apply below_alloc | apply pw_below_drewN | apply below_drew1) | exact HB.out))) : w.heap.size ≤ gb167)); have n3_ := Aside0.mk ((by rw [hg]; exact (below_size (by repeat (first | (with_reducible first | exact HB.out | apply below_alloc | apply pw_below_drewN | apply below_drew1) | exact HB.out))) : w.heap.size ≤ gb167)); clear HB; have HB := n0_; have BK167 := n1_; have GW167 := n2_; have GE167 := n3_; clear n0_ n1_ n2_ n3_; clear hb hbox hg; have hcz11_0 : w10.cell? ⟨gb167, 0, none⟩ = some (.int .i64 a0_0) := (blk_cell BK167.out 0).trans rfl; have hcz11_1 : w10.cell? ⟨gb167, 1, none⟩ = some (.int .i64 a0_1) := (blk_cell BK167.out 1).trans rfl; have hcz11_2 : w10.cell? ⟨gb167, 2, none⟩ = some (.string a0_2) := (blk_cell BK167.out 2).trans rfl; have hcz11_3 : w10.cell? ⟨gb167, 3, none⟩ = some (.int .i64 a0_3) := (blk_cell BK167.out 3).trans rfl; have hcz11_4 : w10.cell? ⟨gb167, 4, none⟩ = some (.int .i64 a0_4) := (blk_cell BK167.out 4).trans rfl; have hfz11_0 := blk_frozen BK167.out 0; have hfz11_1 := blk_frozen BK167.out 1; have hfz11_2 := blk_frozen BK167.out 2; have hfz11_3 := blk_frozen BK167.out 3; have hfz11_4 := blk_frozen BK167.out 4))
    go_ret
    exact ⟨by first | rfl | (simp [errW_none, errW_some] <;> rfl) | (simp [*, errW_none, errW_some] <;> rfl), by repeat (first | (with_reducible first | exact HB.out | apply below_alloc | apply pw_below_drewN | apply below_drew1 | refine below_set ?_ GE167.out) | exact HB.out)⟩
  ·rw [if_neg c5] at H
   have c5b0 : (a0_0 == 2) = false := beq_eq_false_iff_ne.mpr c5
   have c5b1 : (a0_0 != 2) = true := bne_iff_ne.mpr c5
   by_cases c12 : a0_1 = 0
   ·rw [if_pos c12] at H
    have c12b0 : (a0_1 == 0) = true := beq_iff_eq.mpr c12
    have c12b1 : (a0_1 != 0) = false := bne_eq_false_iff_eq.mpr c12
    clear c12
    obtain rfl := Option.some.inj H
    go_enter Tryd.func60, Tryd.ntmps60
    go_wp2_with (first | ((with_reducible refine gate_dst (N := 1) rfl ?_); refine box_event ?hg (N := 1) ?hd (cs := #[.int .i64 a0_0, .int .i64 a0_1, .string a0_2, .int .i64 a0_3, .int .i64 a0_4]) (t := 47) ?hr ?_; (case hd => rfl); (case hg => rfl); (case hr => first | (go_simp; done) | (go_simp; rfl)); intro gb167 hg w13 hbox hb; have n0_ := Aside0.mk (below_step (by repeat (first | (with_reducible first | exact HB.out | apply below_alloc | apply pw_below_drewN | apply below_drew1) | exact HB.out)) hb); have n1_ := Aside0.mk (hbox); have n2_ := Aside0.mk ((by rw [hg]; exact (below_size (by repeat (first | (with_reducible first | exact HB.out | apply below_alloc | apply pw_below_drewN | apply below_drew1) | exact HB.out))) : w.heap.size ≤ gb167)); have n3_ := Aside0.mk ((by rw [hg]; exact (below_size (by repeat (first | (with_reducible first | exact HB.out | apply below_alloc | apply pw_below_drewN | apply below_drew1) | exact HB.out))) : w.heap.size ≤ gb167)); clear HB; have HB := n0_; have BK167 := n1_; have GW167 := n2_; have GE167 := n3_; clear n0_ n1_ n2_ n3_; clear hb hbox hg; have hcz14_0 : w13.cell? ⟨gb167, 0, none⟩ = some (.int .i64 a0_0) := (blk_cell BK167.out 0).trans rfl; have hcz14_1 : w13.cell? ⟨gb167, 1, none⟩ = some (.int .i64 a0_1) := (blk_cell BK167.out 1).trans rfl; have hcz14_2 : w13.cell? ⟨gb167, 2, none⟩ = some (.string a0_2) := (blk_cell BK167.out 2).trans rfl; have hcz14_3 : w13.cell? ⟨gb167, 3, none⟩ = some (.int .i64 a0_3) := (blk_cell BK167.out 3).trans rfl; have hcz14_4 : w13.cell? ⟨gb167, 4, none⟩ = some (.int .i64 a0_4) := (blk_cell BK167.out 4).trans rfl; have hfz14_0 := blk_frozen BK167.out 0; have hfz14_1 := blk_frozen BK167.out 1; have hfz14_2 := blk_frozen BK167.out 2; have hfz14_3 := blk_frozen BK167.out 3; have hfz14_4 := blk_frozen BK167.out 4))
    go_ret
    exact ⟨by first | rfl | (simp [errW_none, errW_some] <;> rfl) | (simp [*, errW_none, errW_some] <;> rfl), by repeat (first | (with_reducible first | exact HB.out | apply below_alloc | apply pw_below_drewN | apply below_drew1 | refine below_set ?_ GE167.out) | exact HB.out)⟩
   ·rw [if_neg c12] at H
    have c12b0 : (a0_1 == 0) = false := beq_eq_false_iff_ne.mpr c12
    have c12b1 : (a0_1 != 0) = true := bne_iff_ne.mpr c12
    obtain rfl := Option.some.inj H
    go_enter Tryd.func60, Tryd.ntmps60
    go_wp2_with (first | ((with_reducible refine gate_dst (N := 1) rfl ?_); refine box_event ?hg (N := 1) ?hd (cs := #[.int .i64 a0_0, .int .i64 a0_1, .string a0_2, .int .i64 a0_3, .int .i64 a0_4]) (t := 47) ?hr ?_; (case hd => rfl); (case hg => rfl); (case hr => first | (go_simp; done) | (go_simp; rfl)); intro gb167 hg w15 hbox hb; have n0_ := Aside0.mk (below_step (by repeat (first | (with_reducible first | exact HB.out | apply below_alloc | apply pw_below_drewN | apply below_drew1) | exact HB.out)) hb); have n1_ := Aside0.mk (hbox); have n2_ := Aside0.mk ((by rw [hg]; exact (below_size (by repeat (first | (with_reducible first | exact HB.out | apply below_alloc | apply pw_below_drewN | apply below_drew1) | exact HB.out))) : w.heap.size ≤ gb167)); have n3_ := Aside0.mk ((by rw [hg]; exact (below_size (by repeat (first | (with_reducible first | exact HB.out | apply below_alloc | apply pw_below_drewN | apply below_drew1) | exact HB.out))) : w.heap.size ≤ gb167)); clear HB; have HB := n0_; have BK167 := n1_; have GW167 := n2_; have GE167 := n3_; clear n0_ n1_ n2_ n3_; clear hb hbox hg; have hcz16_0 : w15.cell? ⟨gb167, 0, none⟩ = some (.int .i64 a0_0) := (blk_cell BK167.out 0).trans rfl; have hcz16_1 : w15.cell? ⟨gb167, 1, none⟩ = some (.int .i64 a0_1) := (blk_cell BK167.out 1).trans rfl; have hcz16_2 : w15.cell? ⟨gb167, 2, none⟩ = some (.string a0_2) := (blk_cell BK167.out 2).trans rfl; have hcz16_3 : w15.cell? ⟨gb167, 3, none⟩ = some (.int .i64 a0_3) := (blk_cell BK167.out 3).trans rfl; have hcz16_4 : w15.cell? ⟨gb167, 4, none⟩ = some (.int .i64 a0_4) := (blk_cell BK167.out 4).trans rfl; have hfz16_0 := blk_frozen BK167.out 0; have hfz16_1 := blk_frozen BK167.out 1; have hfz16_2 := blk_frozen BK167.out 2; have hfz16_3 := blk_frozen BK167.out 3; have hfz16_4 := blk_frozen BK167.out 4))
    go_ret
    exact ⟨by first | rfl | (simp [errW_none, errW_some] <;> rfl) | (simp [*, errW_none, errW_some] <;> rfl), by repeat (first | (with_reducible first | exact HB.out | apply below_alloc | apply pw_below_drewN | apply below_drew1 | refine below_set ?_ GE167.out) | exact HB.out)⟩

/-! ### expr_Check: function 41 -/
theorem dr_heap {w w1 : World} {i : Nat} {o : Obj} (hd : Drawn0 w w1) (h : w.heap[i]? = some o) : w1.heap[i]? = some o := by obtain ⟨n, rfl⟩ := hd; exact h
def opsV (op : Int) : Int := if op < 1 then -1 else if 16 < op then -1 else if op ≤ 4 then 0 else if op ≤ 6 then 1 else 2
theorem operands_f (op : Int) : expr_operands.f 1 op = some (opsV op) := by
 unfold expr_operands.f opsV
 by_cases c1 : op < 1
 ·rw [if_pos c1, if_pos c1]; rfl
 ·rw [if_neg c1, if_neg c1]
  by_cases c2 : 16 < op
  ·have e : decide (op > 16) = true := decide_eq_true c2
   rw [e, if_pos c2]; rfl
  ·have e : decide (op > 16) = false := decide_eq_false c2
   rw [e, if_neg c2]
   simp only [expr_operands.j0]
   rw [if_neg (by decide)]
   split
   ·rfl
   ·split <;> rfl
theorem opsV_of (op : Int) : opsV op = -1 ∨ opsV op = 0 ∨ opsV op = 1 ∨ opsV op = 2 := by
 unfold opsV
 repeat (first | omega | split)
theorem rd_operands (op : Int) (w : World) : Calls Tryd.prog 59 #[.int .i64 op] w fun e w' => e = .returned (.int .i64 (opsV op)) ∧ Drawn0 w w' := expr_operands.calls 1 op _ w (operands_f op)
/-- What stands open behind the operands of a node. -/
def rdI (st : List Int) (i : Int) : Int := rdOf 0 st i
def ownA (st : List Int) (k : Int) : Int := if k = 1 then rdI st ((st.length : Int) - 1) else if k = 2 then rdI st ((st.length : Int) - 2) else 0
def ownB (st : List Int) (k : Int) : Int := if k = 2 then rdI st ((st.length : Int) - 1) else 0
def leafK (K : Nat) (n : S47) : Option Bool := expr_leaf.f K n.f0 n.f1 n.f2 n.f3 n.f4
def chkL (K : Nat) (x : List S47) : Nat → Int → List Int → Option Int
 | 0, _, _ => none
 | k + 1, i, st => if i < (x.length : Int) then (
   if opsV (rd_T47 x i).f0 < 0 then some 2 else (leafK K (rd_T47 x i)).bind fun lf =>
   if lf = true then (
    if (st.length : Int) < opsV (rd_T47 x i).f0 then some 2 else
    if ownA st (opsV (rd_T47 x i).f0) = (rd_T47 x i).f3 ∧ ownB st (opsV (rd_T47 x i).f0) = (rd_T47 x i).f4 then chkL K x k (i + 1) (st.take (st.length - (opsV (rd_T47 x i).f0).toNat) ++ [i]) else some 2)
   else some 2)
  else if st.length = 1 then some 0 else some 2
theorem drop_last1 (st : List Int) (h : 1 ≤ st.length) : st.drop (st.length - 1) = [rdOf 0 st ((st.length : Int) - 1)] := by
 have e : ((st.length : Int) - 1).toNat = st.length - 1 := by omega
 unfold rdOf
 rw [e, List.drop_eq_getElem_cons (by omega : st.length - 1 < st.length), List.drop_eq_nil_of_le (by omega)]
 simp [List.getD, List.getElem?_eq_getElem (by omega : st.length - 1 < st.length)]
theorem drop_last2 (st : List Int) (h : 2 ≤ st.length) : st.drop (st.length - 2) = [rdOf 0 st ((st.length : Int) - 2), rdOf 0 st ((st.length : Int) - 1)] := by
 have e : ((st.length : Int) - 2).toNat = st.length - 2 := by omega
 have e1 : st.length - 2 + 1 = st.length - 1 := by omega
 rw [List.drop_eq_getElem_cons (by omega : st.length - 2 < st.length), e1, drop_last1 st (by omega)]
 congr 1
 unfold rdOf
 rw [e]
 simp [List.getD, List.getElem?_eq_getElem (by omega : st.length - 2 < st.length)]
theorem own_cs (st : List Int) (kk : Int) (h0 : 0 ≤ kk) (h2 : kk ≤ 2) (hn : kk ≤ (st.length : Int)) : splice [Value.int .i64 0, Value.int .i64 0] 0 ((st.drop ((st.length : Int) - kk).toNat).map (Value.int .i64)) = [Value.int .i64 (ownA st kk), Value.int .i64 (ownB st kk)] := by
 have hc : kk = 0 ∨ kk = 1 ∨ kk = 2 := by omega
 rcases hc with rfl | rfl | rfl
 ·have e : ((st.length : Int) - 0).toNat = st.length := by omega
  rw [e, List.drop_length]
  rfl
 ·have e : ((st.length : Int) - 1).toNat = st.length - 1 := by omega
  rw [e, drop_last1 st (by omega)]
  rfl
 ·have e : ((st.length : Int) - 2).toNat = st.length - 2 := by omega
  rw [e, drop_last2 st (by omega)]
  rfl
def expr_Check.f (k : Nat) (l0 : List S47) : Option Int := if 200 < (l0.length : Int) then some 3 else chkL k l0 (l0.length + 1) 0 []
theorem infoInt : (Tryd.prog.info? 3).map (·.size) = some 1 := by kernel_rfl
theorem eq70 (w : World) (a b c d : Int) : (Op.equalIn 10000 96 (.agg #[.int .i64 a, .int .i64 b]) (.agg #[.int .i64 c, .int .i64 d])).run Tryd.prog w = .ok (a == c && b == d) w := by
 have hc : Tryd.prog.cellsOf 3 = 1 := by kernel_rfl
 obtain ⟨i, hi⟩ : ∃ i, Tryd.prog.info? 3 = some i := by
  have z := infoInt
  cases hq : Tryd.prog.info? 3 with
  | none => rw [hq] at z; exact absurd z (by simp)
  | some i => exact ⟨i, rfl⟩
 rw [run_equalIn_array (P := Tryd.prog) (w := w) 9999 #[.int .i64 a, .int .i64 b] #[.int .i64 c, .int .i64 d] Tryd.underlying96 hi, hc]
 have hr : List.range 2 = [0, 1] := rfl
 rw [hr]
 simp only [Op.eqItems]
 go_simp
 by_cases h1 : a = c <;> by_cases h2 : b = d <;> simp [h1, h2]
theorem infoIntZ : (Tryd.prog.info? 3).map (fun i => (i.zero, i.size, i.bytes)) = some (some (.int .i64 0), 1, 8) := by kernel_rfl
theorem chk_src {w : World} {base : Nat} {ok : Nat → Prop} {A3 : Option Addr} {c3 : Nat} {st : List Int} (h : Kd.R (Kd.int .i64) 3 w base ok (.slice A3 st.length c3) st) (kk : Int) (h0 : 0 ≤ kk) (hn : kk ≤ (st.length : Int)) (hp : 0 < ((st.drop ((st.length : Int) - kk).toNat).map (Value.int .i64)).length) :
  ∃ ad, (if c3 = ((st.length : Int) - kk).toNat then A3 else Option.map (fun x => x.add ((st.length : Int) - kk).toNat) A3) = some ad ∧ ∀ j v, ((st.drop ((st.length : Int) - kk).toNat).map (Value.int .i64))[j]? = some v → w.cell? (ad.add j) = some v := by
 simp only [List.length_map, List.length_drop] at hp
 obtain ⟨g, cap, hv, hb, hlt, _⟩ := Kd.R_form h (by omega)
 injection hv with hA hl hcap
 subst hA hcap
 have hc := (Kd.R_reads' h).2.1
 rw [if_neg (by omega)]
 refine ⟨_, rfl, fun j v hv => ?_⟩
 rw [List.getElem?_map, List.getElem?_drop] at hv
 obtain ⟨x, hx, rfl⟩ := Option.map_eq_some_iff.1 hv
 obtain ⟨hj, hxe⟩ := List.getElem?_eq_some_iff.1 hx
 have z := (Kd.R_cell 0 h (((((st.length : Int) - kk).toNat + j : Nat)) : Int) (by omega) (by omega)).1
 rw [Int.toNat_natCast] at z
 have e : rdOf 0 st (((((st.length : Int) - kk).toNat + j : Nat)) : Int) = x := by
  unfold rdOf
  rw [Int.toNat_natCast, List.getD, hx]
  rfl
 rw [e] at z
 have e2 : ∀ m j : Nat, ((⟨g, 0, none⟩ : Addr).add m).add j = ⟨g, m + j, none⟩ := by intro m j; cases m <;> cases j <;> simp [Addr.add]
 rw [e2]
 exact z
set_option maxHeartbeats 4000000 in
set_option maxRecDepth 100000 in
theorem expr_Check.calls (k : Nat) (A0 : Option Addr) (c0 : Nat) (l0 : List S47) (r : Int) (w : World) (hr0 : Kd.C k47 w A0 l0.length l0) (hc0 : l0.length ≤ c0) (h : expr_Check.f k l0 = some r) :
  Calls Tryd.prog 41 #[.slice A0 l0.length c0] w fun e w' => e = .returned (.int .i64 r) ∧ Below w.heap.size w w' := by
 have hu := Tryd.underlying47
 have hu70 := Tryd.underlying96
 unfold expr_Check.f at h
 by_cases c1 : 200 < (l0.length : Int)
 ·rw [if_pos c1] at h
  obtain rfl := Option.some.inj h
  have c1b : decide (200 < (l0.length : Int)) = true := decide_eq_true c1
  clear c1
  go_enter Tryd.func41, Tryd.ntmps41
  go_wp2
  go_ret
  exact ⟨rfl, by first | exact Below.refl _ _ | exact pw_below_drewN (Below.refl _ _) _⟩
 ·rw [if_neg c1] at h
  have c1b : decide (200 < (l0.length : Int)) = false := decide_eq_false c1
  have hlen : (l0.length : Int) ≤ 200 := by omega
  clear c1
  have HH := Aside0.mk h
  have HC0 := Aside0.mk hr0
  clear h hr0
  go_enter Tryd.func41, Tryd.ntmps41
  go_wp2
  go_loopg [3, 13] (l0.length + 1) (fun kq v3 v13 w' => ∃ (st : List Int) (i : Int), v13 = .int .i64 i ∧ Aside0 (chkL k l0 kq i st = some r) ∧ 0 ≤ i ∧ i ≤ (l0.length : Int) ∧ (st.length : Int) ≤ i ∧ Aside0 (Kd.R (Kd.int .i64) 3 w' w.heap.size (fun _ => True) v3 st) ∧ Aside0 (Below w.heap.size w w'))
  case atStart => exact ⟨[], 0, rfl, HH, by omega, by omega, by simp, ⟨Kd.R_nil _ _ _ _ _⟩, ⟨by first | exact Below.refl _ _ | exact pw_below_drewN (Below.refl _ _) _⟩⟩
  case round =>
   clear HH
   try clear p2
   obtain ⟨st, i, rfl, HA, hi0, hi1, hst, HR, HB⟩ := hrel
   obtain ⟨A3, c3, rfl⟩ := Kd.R_slice HR.out
   have hcap := (Kd.R_reads' HR.out).2.1
   cases gk with
   | zero => exact absurd HA.out (by simp [chkL])
   | succ k1 =>
    have hA := HA.out
    clear HA
    simp only [chkL] at hA
    by_cases c2 : i < (l0.length : Int)
    ·rw [if_pos c2] at hA
     have c2b : decide (i < (l0.length : Int)) = true := decide_eq_true c2
     obtain ⟨ad, ead, t0, t1, t2, t3, t4⟩ := at_T47 (Kd.C_below HC0.out HB.out) i hi0 c2
     cases ead
     have hp := eq_true hi0
     have hq := eq_true c2
     have hB1 := Aside0.mk (below_alloc (Below.refl wr.heap.size wr) (.cells #[.int .i64 (rd_T47 l0 i).f0, .int .i64 (rd_T47 l0 i).f1, .string (rd_T47 l0 i).f2, .int .i64 (rd_T47 l0 i).f3, .int .i64 (rd_T47 l0 i).f4] 47))
     generalize hn : rd_T47 l0 i = n at hA t0 t1 t2 t3 t4 hB1
     have N0 := Aside0.mk (blk_new wr (.cells #[.int .i64 n.f0, .int .i64 n.f1, .string n.f2, .int .i64 n.f3, .int .i64 n.f4] 47))
     clear hn
     have hov := opsV_of n.f0
     have HOP := Aside0.mk (fun w1 => rd_operands n.f0 w1)
     generalize opsV n.f0 = kk at hA hov HOP
     by_cases c4 : kk < 0
     ·rw [if_pos c4] at hA
      have c4b : decide (kk < 0) = true := decide_eq_true c4
      obtain rfl := Option.some.inj hA
      clear hA
      go_wp2_with (first | (go_at_call 59; refine (HOP.out _).mono ?_; rintro e w1 ⟨rfl, hd⟩; have X1 := Aside0.mk (dr_heap hd N0.out); have B1 := Aside0.mk (below_step hB1.out (Drawn0.below hd)); have q0 := (blk_cell X1.out 0).trans rfl; have q1 := (blk_cell X1.out 1).trans rfl; have q2 := (blk_cell X1.out 2).trans rfl; have q3 := (blk_cell X1.out 3).trans rfl; have q4 := (blk_cell X1.out 4).trans rfl; clear hd))
      go_ret
      exact ⟨rfl, by first | exact below_step HB.out B2.out | exact pw_below_drewN (below_step HB.out B2.out) _ | exact below_step HB.out B1.out | exact pw_below_drewN (below_step HB.out B1.out) _⟩
     ·rw [if_neg c4] at hA
      obtain ⟨lf, hlf, hA⟩ := Option.bind_eq_some_iff.1 hA
      have c4b : decide (kk < 0) = false := decide_eq_false c4
      have HLF := Aside0.mk hlf
      clear hlf
      cases lf with
      | false =>
       rw [if_neg (by decide)] at hA
       obtain rfl := Option.some.inj hA
       clear hA
       go_wp2_with (first | (go_at_call 59; refine (HOP.out _).mono ?_; rintro e w1 ⟨rfl, hd⟩; have X1 := Aside0.mk (dr_heap hd N0.out); have B1 := Aside0.mk (below_step hB1.out (Drawn0.below hd)); have q0 := (blk_cell X1.out 0).trans rfl; have q1 := (blk_cell X1.out 1).trans rfl; have q2 := (blk_cell X1.out 2).trans rfl; have q3 := (blk_cell X1.out 3).trans rfl; have q4 := (blk_cell X1.out 4).trans rfl; clear hd) | (go_at_call 60; refine (expr_leaf.calls k n.f0 n.f1 n.f2 n.f3 n.f4 false _ HLF.out).mono ?_; rintro e w2 ⟨rfl, hb⟩; have B2 := Aside0.mk (below_step B1.out hb); have X2 := Aside0.mk ((hb.block _ (blk_lt X1.out)).trans X1.out); have HR2 := Aside0.mk (Kd.R_below HR.out B2.out); clear hb))
       go_ret
       exact ⟨rfl, by first | exact below_step HB.out B2.out | exact pw_below_drewN (below_step HB.out B2.out) _ | exact below_step HB.out B1.out | exact pw_below_drewN (below_step HB.out B1.out) _⟩
      | true =>
       rw [if_pos rfl] at hA
       by_cases c5 : (st.length : Int) < kk
       ·rw [if_pos c5] at hA
        have c5b : decide ((st.length : Int) < kk) = true := decide_eq_true c5
        obtain rfl := Option.some.inj hA
        clear hA
        go_wp2_with (first | (go_at_call 59; refine (HOP.out _).mono ?_; rintro e w1 ⟨rfl, hd⟩; have X1 := Aside0.mk (dr_heap hd N0.out); have B1 := Aside0.mk (below_step hB1.out (Drawn0.below hd)); have q0 := (blk_cell X1.out 0).trans rfl; have q1 := (blk_cell X1.out 1).trans rfl; have q2 := (blk_cell X1.out 2).trans rfl; have q3 := (blk_cell X1.out 3).trans rfl; have q4 := (blk_cell X1.out 4).trans rfl; clear hd) | (go_at_call 60; refine (expr_leaf.calls k n.f0 n.f1 n.f2 n.f3 n.f4 true _ HLF.out).mono ?_; rintro e w2 ⟨rfl, hb⟩; have B2 := Aside0.mk (below_step B1.out hb); have X2 := Aside0.mk ((hb.block _ (blk_lt X1.out)).trans X1.out); have HR2 := Aside0.mk (Kd.R_below HR.out B2.out); clear hb))
        go_ret
        exact ⟨rfl, by first | exact below_step HB.out B2.out | exact pw_below_drewN (below_step HB.out B2.out) _ | exact below_step HB.out B1.out | exact pw_below_drewN (below_step HB.out B1.out) _⟩
       ·rw [if_neg c5] at hA
        have c5b : decide ((st.length : Int) < kk) = false := decide_eq_false c5
        by_cases c6 : ownA st kk = n.f3 ∧ ownB st kk = n.f4
        ·rw [if_pos c6] at hA
         have hA' := Aside0.mk hA
         have hab : (ownA st kk == n.f3 && ownB st kk == n.f4) = true := by rw [c6.1, c6.2]; simp
         clear hA c6
         go_wp2_with (first | (go_at_call 59; refine (HOP.out _).mono ?_; rintro e w1 ⟨rfl, hd⟩; have X1 := Aside0.mk (dr_heap hd N0.out); have B1 := Aside0.mk (below_step hB1.out (Drawn0.below hd)); have q0 := (blk_cell X1.out 0).trans rfl; have q1 := (blk_cell X1.out 1).trans rfl; have q2 := (blk_cell X1.out 2).trans rfl; have q3 := (blk_cell X1.out 3).trans rfl; have q4 := (blk_cell X1.out 4).trans rfl; clear hd) | (go_at_call 60; refine (expr_leaf.calls k n.f0 n.f1 n.f2 n.f3 n.f4 true _ HLF.out).mono ?_; rintro e w2 ⟨rfl, hb⟩; have B2 := Aside0.mk (below_step B1.out hb); have X2 := Aside0.mk ((hb.block _ (blk_lt X1.out)).trans X1.out); have HR2 := Aside0.mk (Kd.R_below HR.out B2.out); clear hb))
         have hk0 : 0 ≤ kk := by omega
         have hk2 : kk ≤ 2 := by omega
         have hkn : kk ≤ (st.length : Int) := by omega
         have hwr : IntKind.i64.wrap ((st.length : Int) - kk) = (st.length : Int) - kk := by rw [i64_w]; unfold Go.RowKit.wrap64; omega
         have hle : ((st.length : Int) - kk ≤ (st.length : Int)) = True := eq_true (by omega)
         have hOC := Aside0.mk (own_cs st kk hk0 hk2 hkn)
         generalize ownA st kk = oa at hab hOC
         generalize ownB st kk = ob at hab hOC
         have HSRC : Aside0 (0 < ((st.drop ((st.length : Int) - kk).toNat).map (Value.int .i64)).length → ∃ ad, (if c3 = ((st.length : Int) - kk).toNat then A3 else Option.map (fun x => x.add ((st.length : Int) - kk).toNat) A3) = some ad ∧ ∀ j v, ((st.drop ((st.length : Int) - kk).toNat).map (Value.int .i64))[j]? = some v → (w2.alloc (.cells #[.int .i64 0, .int .i64 0] 96)).drew.cell? (ad.add j) = some v) := ⟨chk_src (Kd.R_drew (Kd.R_alloc HR2.out _)) kk hk0 hkn⟩
         have HG := Aside0.mk (blk_new w2 (.cells #[.int .i64 0, .int .i64 0] 96))
         have HBB := Aside0.mk (below_alloc (Below.refl w2.heap.size w2) (.cells #[.int .i64 0, .int .i64 0] 96))
         have HCL : Aside0 (((st.drop ((st.length : Int) - kk).toNat).map (Value.int .i64)).length = Nat.min (st.length - ((st.length : Int) - kk).toNat) 2) := ⟨by rw [List.length_map, List.length_drop]; exact (Nat.min_eq_left (by omega)).symm⟩
         have HFIT : Aside0 (0 + ((st.drop ((st.length : Int) - kk).toNat).map (Value.int .i64)).length ≤ [Value.int .i64 0, Value.int .i64 0].length) := ⟨by rw [List.length_map, List.length_drop, List.length_cons, List.length_cons, List.length_nil]; omega⟩
         go_region_law (refine step_copy_splice rfl (.tmp 35) (.tmp 41) 94 94 rfl 3 Tryd.underlying94 infoInt (some ⟨w2.heap.size, 0, none⟩) (if c3 = ((st.length : Int) - kk).toNat then A3 else Option.map (fun x => x.add ((st.length : Int) - kk).toNat) A3) 2 2 (st.length - ((st.length : Int) - kk).toNat) (c3 - ((st.length : Int) - kk).toNat) (by first | (go_simp; done) | (go_simp; rfl)) (by first | (go_simp; done) | (go_simp; rfl)) w2.heap.size 0 [.int .i64 0, .int .i64 0] 96 HG.out ((st.drop ((st.length : Int) - kk).toNat).map (Value.int .i64)) HCL.out (fun hp => ⟨rfl, HSRC.out hp⟩) HFIT.out ?O w2.heap.size w2 (below_drew HBB.out) (Nat.le_refl _) ?_; (case O => intro v hv; obtain ⟨x, _, rfl⟩ := List.mem_map.1 hv; rfl); intro w3 hg3 hb3; have B3 := Aside0.mk hb3; have G3 := Aside0.mk (show w3.heap[w2.heap.size]? = some (.cells #[.int .i64 oa, .int .i64 ob] 96) from by have z := hg3; rw [hOC.out] at z; exact z); have X3 := Aside0.mk ((hb3.block _ (blk_lt X2.out)).trans X2.out); have z0 := (blk_cell G3.out 0).trans rfl; have z1 := (blk_cell G3.out 1).trans rfl; have r3 := (blk_cell X3.out 3).trans rfl; have r4 := (blk_cell X3.out 4).trans rfl; clear hg3 hb3; generalize (if c3 = ((st.length : Int) - kk).toNat then A3 else Option.map (fun x => x.add ((st.length : Int) - kk).toNat) A3) = SP)
         have heq := eq70 w3 oa ob n.f3 n.f4
         rw [hab] at heq
         have hmm : ((st.length : Int) - kk).toNat = st.length - kk.toNat := by omega
         have hA2 := hA'.out
         rw [← hmm] at hA2
         have HA2 := Aside0.mk hA2
         have HR3 := Aside0.mk (Kd.R_take (m := ((st.length : Int) - kk).toNat) (Kd.R_below HR2.out B3.out) (by omega))
         have HW3 := Aside0.mk (below_step (below_step HB.out B2.out) B3.out)
         have hmc : (((st.length : Int) - kk) ≤ (c3 : Int)) = True := eq_true (by omega)
         have hm0 : (0 ≤ (st.length : Int) - kk) = True := eq_true (by omega)
         have HLT : Aside0 (((st.take ((st.length : Int) - kk).toNat).length + 1) * 8 ≤ 140737488355328) := ⟨by rw [List.length_take]; omega⟩
         have HLL : Aside0 (((st.take ((st.length : Int) - kk).toNat ++ [i]).length : Int) ≤ i + 1) := ⟨by rw [List.length_append, List.length_take, List.length_singleton]; omega⟩
         clear hA2 hA' hmm
         go_wp2_with (first | ((with_reducible refine gate_builtin (b := .append) (xs := #[.tmp 55, .tmp 57]) rfl ?_); at_builtin; refine Kd.R_append (Kd.int .i64) (w0 := w) w.heap.size rfl (.tmp 55) (.tmp 57) 94 3 (.int .i64 0) 8 rfl Tryd.underlying94 infoIntZ rfl (by decide) (by omega) (.slice A3 ((st.length : Int) - kk).toNat c3) (st.take ((st.length : Int) - kk).toNat) i [.int .i64 i] (fun _ => True) (fun _ => False) rfl (by first | (go_simp; done) | (go_simp; rfl)) rfl (fun _ hk => hk.elim) (fun _ _ => trivial) ?aO ?aB ?aS HLT.out ?_; (case aO => exact HR3.out); (case aB => exact HW3.out); (case aS => exact HW3.out.size); intro v5 w5 ho hb hg hat; have HR5 := Aside0.mk ho; have HB5 := Aside0.mk hb; clear ho hb hg hat))
         go_roundg k1
         case measure => omega
         case rel => exact ⟨_, i + 1, rfl, HA2, by omega, by omega, HLL.out, HR5, HB5⟩
        ·rw [if_neg c6] at hA
         obtain rfl := Option.some.inj hA
         clear hA
         have hab : (ownA st kk == n.f3 && ownB st kk == n.f4) = false := by rw [Bool.eq_false_iff]; intro z; apply c6; simpa using z
         clear c6
         go_wp2_with (first | (go_at_call 59; refine (HOP.out _).mono ?_; rintro e w1 ⟨rfl, hd⟩; have X1 := Aside0.mk (dr_heap hd N0.out); have B1 := Aside0.mk (below_step hB1.out (Drawn0.below hd)); have q0 := (blk_cell X1.out 0).trans rfl; have q1 := (blk_cell X1.out 1).trans rfl; have q2 := (blk_cell X1.out 2).trans rfl; have q3 := (blk_cell X1.out 3).trans rfl; have q4 := (blk_cell X1.out 4).trans rfl; clear hd) | (go_at_call 60; refine (expr_leaf.calls k n.f0 n.f1 n.f2 n.f3 n.f4 true _ HLF.out).mono ?_; rintro e w2 ⟨rfl, hb⟩; have B2 := Aside0.mk (below_step B1.out hb); have X2 := Aside0.mk ((hb.block _ (blk_lt X1.out)).trans X1.out); have HR2 := Aside0.mk (Kd.R_below HR.out B2.out); clear hb))
         have hk0 : 0 ≤ kk := by omega
         have hk2 : kk ≤ 2 := by omega
         have hkn : kk ≤ (st.length : Int) := by omega
         have hwr : IntKind.i64.wrap ((st.length : Int) - kk) = (st.length : Int) - kk := by rw [i64_w]; unfold Go.RowKit.wrap64; omega
         have hle : ((st.length : Int) - kk ≤ (st.length : Int)) = True := eq_true (by omega)
         have hOC := Aside0.mk (own_cs st kk hk0 hk2 hkn)
         generalize ownA st kk = oa at hab hOC
         generalize ownB st kk = ob at hab hOC
         have HSRC : Aside0 (0 < ((st.drop ((st.length : Int) - kk).toNat).map (Value.int .i64)).length → ∃ ad, (if c3 = ((st.length : Int) - kk).toNat then A3 else Option.map (fun x => x.add ((st.length : Int) - kk).toNat) A3) = some ad ∧ ∀ j v, ((st.drop ((st.length : Int) - kk).toNat).map (Value.int .i64))[j]? = some v → (w2.alloc (.cells #[.int .i64 0, .int .i64 0] 96)).drew.cell? (ad.add j) = some v) := ⟨chk_src (Kd.R_drew (Kd.R_alloc HR2.out _)) kk hk0 hkn⟩
         have HG := Aside0.mk (blk_new w2 (.cells #[.int .i64 0, .int .i64 0] 96))
         have HBB := Aside0.mk (below_alloc (Below.refl w2.heap.size w2) (.cells #[.int .i64 0, .int .i64 0] 96))
         have HCL : Aside0 (((st.drop ((st.length : Int) - kk).toNat).map (Value.int .i64)).length = Nat.min (st.length - ((st.length : Int) - kk).toNat) 2) := ⟨by rw [List.length_map, List.length_drop]; exact (Nat.min_eq_left (by omega)).symm⟩
         have HFIT : Aside0 (0 + ((st.drop ((st.length : Int) - kk).toNat).map (Value.int .i64)).length ≤ [Value.int .i64 0, Value.int .i64 0].length) := ⟨by rw [List.length_map, List.length_drop, List.length_cons, List.length_cons, List.length_nil]; omega⟩
         go_region_law (refine step_copy_splice rfl (.tmp 35) (.tmp 41) 94 94 rfl 3 Tryd.underlying94 infoInt (some ⟨w2.heap.size, 0, none⟩) (if c3 = ((st.length : Int) - kk).toNat then A3 else Option.map (fun x => x.add ((st.length : Int) - kk).toNat) A3) 2 2 (st.length - ((st.length : Int) - kk).toNat) (c3 - ((st.length : Int) - kk).toNat) (by first | (go_simp; done) | (go_simp; rfl)) (by first | (go_simp; done) | (go_simp; rfl)) w2.heap.size 0 [.int .i64 0, .int .i64 0] 96 HG.out ((st.drop ((st.length : Int) - kk).toNat).map (Value.int .i64)) HCL.out (fun hp => ⟨rfl, HSRC.out hp⟩) HFIT.out ?O w2.heap.size w2 (below_drew HBB.out) (Nat.le_refl _) ?_; (case O => intro v hv; obtain ⟨x, _, rfl⟩ := List.mem_map.1 hv; rfl); intro w3 hg3 hb3; have B3 := Aside0.mk hb3; have G3 := Aside0.mk (show w3.heap[w2.heap.size]? = some (.cells #[.int .i64 oa, .int .i64 ob] 96) from by have z := hg3; rw [hOC.out] at z; exact z); have X3 := Aside0.mk ((hb3.block _ (blk_lt X2.out)).trans X2.out); have z0 := (blk_cell G3.out 0).trans rfl; have z1 := (blk_cell G3.out 1).trans rfl; have r3 := (blk_cell X3.out 3).trans rfl; have r4 := (blk_cell X3.out 4).trans rfl; clear hg3 hb3; generalize (if c3 = ((st.length : Int) - kk).toNat then A3 else Option.map (fun x => x.add ((st.length : Int) - kk).toNat) A3) = SP)
         have heq := eq70 w3 oa ob n.f3 n.f4
         rw [hab] at heq
         have HW3 := Aside0.mk (below_step (below_step HB.out B2.out) B3.out)
         go_wp2
         go_ret
         exact ⟨rfl, by first | exact HW3.out | exact pw_below_drewN HW3.out _⟩
    ·rw [if_neg c2] at hA
     have c2b : decide (i < (l0.length : Int)) = false := decide_eq_false c2
     by_cases c7 : st.length = 1
     ·rw [if_pos c7] at hA
      obtain rfl := Option.some.inj hA
      have c7b : ((st.length : Int) == 1) = true := by simp [c7]
      clear hA c7
      go_wp2
      go_ret
      exact ⟨rfl, by first | exact HB.out | exact pw_below_drewN HB.out _⟩
     ·rw [if_neg c7] at hA
      obtain rfl := Option.some.inj hA
      have c7b : ((st.length : Int) == 1) = false := beq_eq_false_iff_ne.mpr (by omega)
      clear hA c7
      go_wp2
      go_ret
      exact ⟨rfl, by first | exact HB.out | exact pw_below_drewN HB.out _⟩
theorem chkL_mono (K : Nat) (x : List S47) : ∀ k i st, LeO (chkL K x k i st) (chkL (K + 1) x k i st)
 | 0, _, _ => LeO.refl _
 | k + 1, i, st => by
  rw [chkL, chkL]
  repeat' first
   | exact LeO.refl _
   | exact expr_leaf.mono _ _ _ _ _ _
   | exact chkL_mono K x k _ _
   | refine LeO.ite ?_ ?_
   | refine LeO.bind ?_ (fun _ => ?_)
theorem expr_Check.mono : ∀ l0 k, LeO (expr_Check.f k l0) (expr_Check.f (k + 1) l0) := by
 intro l0 k
 unfold expr_Check.f
 exact LeO.ite (LeO.refl _) (chkL_mono k l0 _ _ _)

/-! ### expr_mark: function 61 -/
def expr_mark.f (a0 : ByteArray) : Option (Int × Int × ByteArray × Int) := some (4, 0, a0, 0)
set_option maxHeartbeats 8000000 in
set_option maxRecDepth 100000 in
theorem expr_mark.calls (a0 : ByteArray) (r1 : Int) (r2 : Int) (r3 : ByteArray) (r4 : Int) (w : World) (h : expr_mark.f a0 = some (r1, r2, r3, r4)) :
  Calls Tryd.prog 61 #[.string a0] w fun e w' => e = .returned (.agg #[.int .i64 r1, .int .i64 r2, .string r3, .int .i64 r4]) ∧ Below w.heap.size w w' := by
 have hu37 := Tryd.underlying37
 have HB := Aside0.mk (Below.refl w.heap.size w)
 have H : (some (4, 0, a0, 0)) = some (r1, r2, r3, r4) := h
 clear h
 simp only [Option.some.injEq, Prod.mk.injEq] at H
 obtain ⟨rfl, rfl, rfl, rfl⟩ := H
 go_enter Tryd.func61, Tryd.ntmps61
 go_wp2_with (first | ((with_reducible refine gate_dst (N := 2) rfl ?_); refine box_event ?hg (N := 2) ?hd (cs := #[.int .i64 0, .int .i64 0, .string (⟨#[]⟩ : ByteArray), .int .i64 0]) (t := 37) ?hr ?_; (case hd => rfl); (case hg => rfl); (case hr => first | (go_simp; done) | (go_simp; rfl)); intro gb169 hg w2 hbox hb; have n0_ := Aside0.mk (below_step (by repeat (first | (with_reducible first | exact HB.out | apply below_alloc | apply pw_below_drewN | apply below_drew1) | exact HB.out)) hb); have n1_ := Aside0.mk (hbox); have n2_ := Aside0.mk ((by rw [hg]; exact (below_size (by repeat (first | (with_reducible first | exact HB.out | apply below_alloc | apply pw_below_drewN | apply below_drew1) | exact HB.out))) : w.heap.size ≤ gb169)); have n3_ := Aside0.mk ((by rw [hg]; exact (below_size (by repeat (first | (with_reducible first | exact HB.out | apply below_alloc | apply pw_below_drewN | apply below_drew1) | exact HB.out))) : w.heap.size ≤ gb169)); clear HB; have HB := n0_; have BK169 := n1_; have GW169 := n2_; have GE169 := n3_; clear n0_ n1_ n2_ n3_; clear hb hbox hg; have hcz3_0 : w2.cell? ⟨gb169, 0, none⟩ = some (.int .i64 0) := (blk_cell BK169.out 0).trans rfl; have hcz3_1 : w2.cell? ⟨gb169, 1, none⟩ = some (.int .i64 0) := (blk_cell BK169.out 1).trans rfl; have hcz3_2 : w2.cell? ⟨gb169, 2, none⟩ = some (.string (⟨#[]⟩ : ByteArray)) := (blk_cell BK169.out 2).trans rfl; have hcz3_3 : w2.cell? ⟨gb169, 3, none⟩ = some (.int .i64 0) := (blk_cell BK169.out 3).trans rfl; have hfz3_0 := blk_frozen BK169.out 0; have hfz3_1 := blk_frozen BK169.out 1; have hfz3_2 := blk_frozen BK169.out 2; have hfz3_3 := blk_frozen BK169.out 3))
 refine bodyPost_ret (results_cell_row rfl _ _ gb169 37 #[.int .i64 4, .int .i64 0, .string a0, .int .i64 0] (0, 0) _ rfl (by (with_reducible repeat (first | refine blk_drewN ?_ _ | refine blk_drew ?_ | refine blk_alloc ?_ _)); refine blk_put (cs := #[.int .i64 4, .int .i64 0, .string a0, .int .i64 0]) ?_ 3 _ rfl; (with_reducible repeat (first | refine blk_drewN ?_ _ | refine blk_drew ?_ | refine blk_alloc ?_ _)); refine blk_put (cs := #[.int .i64 4, .int .i64 0, .string (⟨#[]⟩ : ByteArray), .int .i64 0]) ?_ 2 _ rfl; (with_reducible repeat (first | refine blk_drewN ?_ _ | refine blk_drew ?_ | refine blk_alloc ?_ _)); refine blk_put (cs := #[.int .i64 4, .int .i64 0, .string (⟨#[]⟩ : ByteArray), .int .i64 0]) ?_ 1 _ rfl; (with_reducible repeat (first | refine blk_drewN ?_ _ | refine blk_drew ?_ | refine blk_alloc ?_ _)); refine blk_put (cs := #[.int .i64 0, .int .i64 0, .string (⟨#[]⟩ : ByteArray), .int .i64 0]) ?_ 0 _ rfl; (with_reducible repeat (first | refine blk_drewN ?_ _ | refine blk_drew ?_ | refine blk_alloc ?_ _)); exact BK169.out) Tryd.underlying37 rfl (by kernel_rfl)) rfl ?_
 exact ⟨by first | rfl | (simp [errW_none, errW_some] <;> rfl) | (simp [*, errW_none, errW_some] <;> rfl), by repeat (first | (with_reducible first | exact HB.out | apply below_alloc | apply pw_below_drewN | apply below_drew1 | refine below_set ?_ GE169.out) | exact HB.out)⟩

/-! ### expr_tokens: function 42 -/
def z32_ : S37 := ⟨0, 0, ⟨#[]⟩, 0⟩
set_option maxHeartbeats 4000000 in
set_option maxRecDepth 100000 in
theorem grow_nil (w : World) (n : Int) (h0 : 0 ≤ n) (h1 : n ≤ 1000000000) :
  Calls Tryd.prog 84 #[.slice none 0 0, .int .i64 n] w fun e w' => ∃ v : Value, e = .returned v ∧ Kd.R k37 37 w' w.heap.size (fun _ => True) v [] ∧ Below w.heap.size w w' := by
 have c0 : decide (n < 0) = false := decide_eq_false (by omega)
 have hw : Go.RowKit.wrap64 n = n := by unfold Go.RowKit.wrap64; omega
 have hwr : IntKind.i64.wrap n = n := by rw [i64_w]; exact hw
 by_cases c1 : 0 < n
 ·have c1b : decide (0 < n) = true := decide_eq_true c1
  have HZ := Aside0.mk h0
  have HL : Aside0 ((([] : List S37).length + n.toNat) * 40 ≤ 140737488355328) := ⟨by simp only [List.length_nil]; omega⟩
  clear c1 h0
  go_enter Tryd.func84, Tryd.ntmps84
  go_wp2_with (first | ((with_reducible refine gate_builtin (b := .append) (xs := #[.tmp 20, .tmp 21]) rfl ?_); at_builtin; refine Kd.R_append_zeros k37 (w0 := w) w.heap.size rfl (.tmp 20) (.tmp 21) 22 3 37 (.agg #[(.int .i64 0), (.int .i64 0), (.string ⟨#[]⟩), (.int .i64 0)]) 40 rfl Tryd.underlying22 Tryd.underlying3 info37 rfl (by decide) (by decide) (.slice none 0 0) [] z32_ n (fun _ => True) rfl rfl ?aZ (fun _ _ => trivial) ?aO HZ.out ?aB ?aS HL.out ?_; (case aZ => exact k37_mkM _ _ _ z32_); (case aO => exact Kd.R_nil _ _ _ _ _); (case aB => first | exact Below.refl _ _ | exact pw_below_drewN (Below.refl _ _) _); (case aS => exact Nat.le_refl _); intro v1 w1 ho hb hg hat; obtain ⟨A1, c1, rfl⟩ := Kd.R_slice ho; have HO := Aside0.mk ho; have HB := Aside0.mk hb; clear ho hb hg hat))
  go_ret
  exact ⟨_, rfl, by first | exact Kd.R_take (m := 0) HO.out (by omega) | exact Kd.R_drewN (Kd.R_take (m := 0) HO.out (by omega)) _, by first | exact HB.out | exact pw_below_drewN HB.out _⟩
 ·have c1b : decide (0 < n) = false := decide_eq_false c1
  clear c1 h0
  go_enter Tryd.func84, Tryd.ntmps84
  go_wp2
  go_ret
  exact ⟨_, rfl, Kd.R_nil _ _ _ _ _, by first | exact Below.refl _ _ | exact pw_below_drewN (Below.refl _ _) _⟩
set_option maxHeartbeats 8000000 in
set_option maxRecDepth 100000 in
theorem concat3 (w : World) (b : Nat) (A1 A2 A3 : Option Addr) (c1 c2 c3 : Nat) (l1 l2 l3 : List S37) (hb : w.heap[b]? = some (.cells #[.slice A1 l1.length c1, .slice A2 l2.length c2, .slice A3 l3.length c3] 22 (0, 0))) (h1 : Kd.C k37 w A1 l1.length l1) (h2 : Kd.C k37 w A2 l2.length l2) (h3 : Kd.C k37 w A3 l3.length l3) (hl1 : l1.length ≤ 100000000) (hl2 : l2.length ≤ 100000000) (hl3 : l3.length ≤ 100000000) :
  Calls Tryd.prog 63 #[.slice (some ⟨b, 0, none⟩) 3 3] w fun e w' => ∃ v : Value, e = .returned v ∧ Kd.R k37 37 w' w.heap.size (fun _ => True) v (l1 ++ l2 ++ l3) ∧ Below w.heap.size w w' := by
 have k0 : w.cell? ⟨b, 0, none⟩ = some (.slice A1 l1.length c1) := (blk_cell hb 0).trans rfl
 have k1 : w.cell? ⟨b, 1, none⟩ = some (.slice A2 l2.length c2) := (blk_cell hb 1).trans rfl
 have k2 : w.cell? ⟨b, 2, none⟩ = some (.slice A3 l3.length c3) := (blk_cell hb 2).trans rfl
 have HBB := Aside0.mk hb
 have H1 := Aside0.mk h1
 have H2 := Aside0.mk h2
 have H3 := Aside0.mk h3
 have n1 : 0 ≤ (l1.length : Int) := by omega
 have n2 : 0 ≤ (l2.length : Int) := by omega
 have n3 : 0 ≤ (l3.length : Int) := by omega
 clear hb h1 h2 h3
 go_enter Tryd.func63, Tryd.ntmps63
 go_wp2
 go_loopg [3, 11] 3 (fun kq v3 v11 w' => w' = w ∧ ((kq = 3 ∧ v11 = .int .i64 0 ∧ v3 = .int .i64 0) ∨ (kq = 2 ∧ v11 = .int .i64 1 ∧ v3 = .int .i64 (l1.length : Int)) ∨ (kq = 1 ∧ v11 = .int .i64 2 ∧ v3 = .int .i64 ((l1.length : Int) + (l2.length : Int))) ∨ (kq = 0 ∧ v11 = .int .i64 3 ∧ v3 = .int .i64 ((l1.length : Int) + (l2.length : Int) + (l3.length : Int)))))
 case atStart => exact ⟨rfl, .inl ⟨rfl, rfl, rfl⟩⟩
 case round =>
  try clear p2
  obtain ⟨rfl, hrel⟩ := hrel
  rcases hrel with ⟨rfl, rfl, rfl⟩ | ⟨rfl, rfl, rfl⟩ | ⟨rfl, rfl, rfl⟩ | ⟨rfl, rfl, rfl⟩
  ·have hw : Go.RowKit.wrap64 (l1.length : Int) = (l1.length : Int) := by unfold Go.RowKit.wrap64; omega
   have hwr : IntKind.i64.wrap (l1.length : Int) = (l1.length : Int) := by rw [i64_w]; exact hw
   have c0 : decide ((l1.length : Int) < 0) = false := decide_eq_false (by omega)
   go_wp2_with fail
   go_roundg 2
   case measure => omega
   case rel => exact ⟨rfl, .inr (.inl ⟨rfl, rfl, by first | rfl | rw [hw]⟩)⟩
  ·have hw : Go.RowKit.wrap64 ((l1.length : Int) + (l2.length : Int)) = ((l1.length : Int) + (l2.length : Int)) := by unfold Go.RowKit.wrap64; omega
   have hwr : IntKind.i64.wrap ((l1.length : Int) + (l2.length : Int)) = ((l1.length : Int) + (l2.length : Int)) := by rw [i64_w]; exact hw
   have c0 : decide (((l1.length : Int) + (l2.length : Int)) < 0) = false := decide_eq_false (by omega)
   go_wp2_with fail
   go_roundg 1
   case measure => omega
   case rel => exact ⟨rfl, .inr (.inr (.inl ⟨rfl, rfl, by first | rfl | rw [hw]⟩))⟩
  ·have hw : Go.RowKit.wrap64 ((l1.length : Int) + (l2.length : Int) + (l3.length : Int)) = ((l1.length : Int) + (l2.length : Int) + (l3.length : Int)) := by unfold Go.RowKit.wrap64; omega
   have hwr : IntKind.i64.wrap ((l1.length : Int) + (l2.length : Int) + (l3.length : Int)) = ((l1.length : Int) + (l2.length : Int) + (l3.length : Int)) := by rw [i64_w]; exact hw
   have c0 : decide (((l1.length : Int) + (l2.length : Int) + (l3.length : Int)) < 0) = false := decide_eq_false (by omega)
   go_wp2_with fail
   go_roundg 0
   case measure => omega
   case rel => exact ⟨rfl, .inr (.inr (.inr ⟨rfl, rfl, by first | rfl | rw [hw]⟩))⟩
  ·go_wp2_with (go_at_call 84; refine (grow_nil _ ((l1.length : Int) + (l2.length : Int) + (l3.length : Int)) (by omega) (by omega)).mono ?_; rintro e w1 ⟨v1, rfl, ho, hB⟩; have HO := Aside0.mk ho; have HB := Aside0.mk hB; have y0 : w1.cell? ⟨b, 0, none⟩ = some (.slice A1 l1.length c1) := (blk_cell ((hB.block _ (blk_lt HBB.out)).trans HBB.out) 0).trans rfl; clear ho hB)
   go_loopg [6, 27] 3 (fun kq v6 v27 w' => Aside0 (Below wr.heap.size wr w') ∧ ((kq = 3 ∧ v27 = .int .i64 0 ∧ Aside0 (Kd.R k37 37 w' wr.heap.size (fun _ => True) v6 [])) ∨ (kq = 2 ∧ v27 = .int .i64 1 ∧ Aside0 (Kd.R k37 37 w' wr.heap.size (fun _ => True) v6 l1)) ∨ (kq = 1 ∧ v27 = .int .i64 2 ∧ Aside0 (Kd.R k37 37 w' wr.heap.size (fun _ => True) v6 (l1 ++ l2))) ∨ (kq = 0 ∧ v27 = .int .i64 3 ∧ Aside0 (Kd.R k37 37 w' wr.heap.size (fun _ => True) v6 (l1 ++ l2 ++ l3)))))
   case atStart => exact ⟨HB, .inl ⟨rfl, rfl, HO⟩⟩
   case round =>
    clear HB HO y0 k0 k1 k2
    try clear p2
    obtain ⟨HB, hrel⟩ := hrel
    have HX := Aside0.mk ((HB.out.block _ (blk_lt HBB.out)).trans HBB.out)
    rcases hrel with ⟨rfl, rfl, HO⟩ | ⟨rfl, rfl, HO⟩ | ⟨rfl, rfl, HO⟩ | ⟨rfl, rfl, HO⟩
    ·have y0 := (blk_cell HX.out 0).trans rfl
     obtain ⟨Av, cv, rfl⟩ := Kd.R_slice HO.out
     have HLEN : Aside0 ((([] : List S37).length + l1.length) * 40 ≤ 140737488355328) := ⟨by first | (rw [List.length_append]; omega) | (rw [List.length_nil]; omega) | omega⟩
     go_wp2_with (first | ((with_reducible refine gate_builtin (b := .append) (xs := #[.tmp 31, .tmp 32]) rfl ?_); at_builtin; refine Kd.R_append_rows k37 _ rfl (.tmp 31) (.tmp 32) 22 37 (.agg #[(.int .i64 0), (.int .i64 0), (.string ⟨#[]⟩), (.int .i64 0)]) 40 rfl Tryd.underlying22 info37 rfl (by decide) (by decide) (.slice Av ([] : List S37).length cv) ([] : List S37) l1 A1 l1.length c1 (fun _ => True) (fun _ => False) rfl rfl HO.out (Kd.C_below H1.out HB.out) (fun _ _ h => h) (fun _ h => h.elim) (fun _ _ => trivial) HB.out HB.out.size HLEN.out ?_; intro v5 w5 ho hb hg hat; have HR := Aside0.mk ho; have HB5 := Aside0.mk hb; clear ho hb hg hat))
     go_roundg 2
     case measure => omega
     case rel => exact ⟨HB5, .inr (.inl ⟨rfl, rfl, HR⟩)⟩
    ·have y0 := (blk_cell HX.out 1).trans rfl
     obtain ⟨Av, cv, rfl⟩ := Kd.R_slice HO.out
     have HLEN : Aside0 ((l1.length + l2.length) * 40 ≤ 140737488355328) := ⟨by first | (rw [List.length_append]; omega) | (rw [List.length_nil]; omega) | omega⟩
     go_wp2_with (first | ((with_reducible refine gate_builtin (b := .append) (xs := #[.tmp 31, .tmp 32]) rfl ?_); at_builtin; refine Kd.R_append_rows k37 _ rfl (.tmp 31) (.tmp 32) 22 37 (.agg #[(.int .i64 0), (.int .i64 0), (.string ⟨#[]⟩), (.int .i64 0)]) 40 rfl Tryd.underlying22 info37 rfl (by decide) (by decide) (.slice Av l1.length cv) l1 l2 A2 l2.length c2 (fun _ => True) (fun _ => False) rfl rfl HO.out (Kd.C_below H2.out HB.out) (fun _ _ h => h) (fun _ h => h.elim) (fun _ _ => trivial) HB.out HB.out.size HLEN.out ?_; intro v5 w5 ho hb hg hat; have HR := Aside0.mk ho; have HB5 := Aside0.mk hb; clear ho hb hg hat))
     go_roundg 1
     case measure => omega
     case rel => exact ⟨HB5, .inr (.inr (.inl ⟨rfl, rfl, HR⟩))⟩
    ·have y0 := (blk_cell HX.out 2).trans rfl
     obtain ⟨Av, cv, rfl⟩ := Kd.R_slice HO.out
     have HLEN : Aside0 (((l1 ++ l2).length + l3.length) * 40 ≤ 140737488355328) := ⟨by first | (rw [List.length_append]; omega) | (rw [List.length_nil]; omega) | omega⟩
     go_wp2_with (first | ((with_reducible refine gate_builtin (b := .append) (xs := #[.tmp 31, .tmp 32]) rfl ?_); at_builtin; refine Kd.R_append_rows k37 _ rfl (.tmp 31) (.tmp 32) 22 37 (.agg #[(.int .i64 0), (.int .i64 0), (.string ⟨#[]⟩), (.int .i64 0)]) 40 rfl Tryd.underlying22 info37 rfl (by decide) (by decide) (.slice Av (l1 ++ l2).length cv) (l1 ++ l2) l3 A3 l3.length c3 (fun _ => True) (fun _ => False) rfl rfl HO.out (Kd.C_below H3.out HB.out) (fun _ _ h => h) (fun _ h => h.elim) (fun _ _ => trivial) HB.out HB.out.size HLEN.out ?_; intro v5 w5 ho hb hg hat; have HR := Aside0.mk ho; have HB5 := Aside0.mk hb; clear ho hb hg hat))
     go_roundg 0
     case measure => omega
     case rel => exact ⟨HB5, .inr (.inr (.inr ⟨rfl, rfl, HR⟩))⟩
    ·go_wp2
     go_ret
     refine ⟨_, ?_, by first | exact HO.out | (have z := HO.out; rw [List.append_assoc] at z; exact z), HB.out⟩
     rfl
theorem concat3n (w : World) (b : Nat) (A1 A2 A3 : Option Addr) (c1 c2 c3 n1 n2 n3 : Nat) (l1 l2 l3 : List S37) (hb : w.heap[b]? = some (.cells #[.slice A1 n1 c1, .slice A2 n2 c2, .slice A3 n3 c3] 22 (0, 0))) (e1 : n1 = l1.length) (e2 : n2 = l2.length) (e3 : n3 = l3.length) (h1 : Kd.C k37 w A1 l1.length l1) (h2 : Kd.C k37 w A2 l2.length l2) (h3 : Kd.C k37 w A3 l3.length l3) (hl1 : l1.length ≤ 100000000) (hl2 : l2.length ≤ 100000000) (hl3 : l3.length ≤ 100000000) :
  Calls Tryd.prog 63 #[.slice (some ⟨b, 0, none⟩) 3 3] w fun e w' => ∃ v : Value, e = .returned v ∧ Kd.R k37 37 w' w.heap.size (fun _ => True) v (l1 ++ l2 ++ l3) ∧ Below w.heap.size w w' := by
 subst e1; subst e2; subst e3
 exact concat3 w b A1 A2 A3 c1 c2 c3 l1 l2 l3 hb h1 h2 h3 hl1 hl2 hl3
abbrev mkT (s : ByteArray) : S37 := ⟨4, 0, s, 0⟩
def tokR (x : List S47) : Nat → Int → Bool → Option (List S37)
 | 0, _, _ => none
 | k + 1, at_, whole => if 0 ≤ at_ ∧ at_ < (x.length : Int) then (
   if (rd_T47 x at_).f0 = 1 then some [⟨2, (rd_T47 x at_).f1, ⟨#[]⟩, 0⟩]
   else if (rd_T47 x at_).f0 = 2 then some [⟨1, 0, (rd_T47 x at_).f2, 0⟩]
   else if 3 ≤ (rd_T47 x at_).f0 ∧ (rd_T47 x at_).f0 ≤ 16 then (
    if opsV (rd_T47 x at_).f0 = 0 then some [mkT (signR (rd_T47 x at_).f0)]
    else if opsV (rd_T47 x at_).f0 = 1 then ((tokR x k (rd_T47 x at_).f3 false).bind fun l => if l.length ≤ 10000000 then some (mkT (signR (rd_T47 x at_).f0) :: l) else none)
    else ((tokR x k (rd_T47 x at_).f3 false).bind fun l => (tokR x k (rd_T47 x at_).f4 false).bind fun r => if l.length ≤ 10000000 ∧ r.length ≤ 10000000 then some (if whole = true then l ++ [mkT (signR (rd_T47 x at_).f0)] ++ r else [mkT ⟨#[40]⟩] ++ (l ++ [mkT (signR (rd_T47 x at_).f0)] ++ r) ++ [mkT ⟨#[41]⟩]) else none))
   else none)
  else none
theorem lit_of_blk {w : World} {g base : Nat} {t : S37} (h : w.heap[g]? = some (.cells #[.int .i64 t.f0, .int .i64 t.f1, .string t.f2, .int .i64 t.f3] 37 (0, 0))) (hb : base ≤ g) : Kd.R k37 37 w base (fun _ => True) (.slice (some ⟨g, 0, none⟩) 1 1) [t] := by
 refine ⟨fun _ _ => trivial, [.int .i64 t.f0, .int .i64 t.f1, .string t.f2, .int .i64 t.f3], ⟨rfl, .inr ⟨g, 1, #[.int .i64 t.f0, .int .i64 t.f1, .string t.f2, .int .i64 t.f3], rfl, hb, h, Nat.le_refl _, by decide, rfl, rfl⟩⟩, ?_⟩
 exact Reps.c4 (k37_mkM _ _ _ t) (Reps.none _ _)
theorem blk_new2 (w : World) (o1 o2 : Obj) : ((w.alloc o1).alloc o2).heap[w.heap.size + 1]? = some o2 := by
 have h := blk_new (w.alloc o1) o2
 rw [show (w.alloc o1).heap.size = w.heap.size + 1 from Array.size_push _] at h
 exact h
set_option maxHeartbeats 16000000 in
set_option maxRecDepth 100000 in
theorem tok_calls (w0 : World) (A0 : Option Addr) (c0 : Nat) (x : List S47) (hC : Kd.C k47 w0 A0 x.length x) : ∀ (k : Nat) (at_ : Int) (whole : Bool) (r : List S37) (w : World), Below w0.heap.size w0 w → tokR x k at_ whole = some r →
  Calls Tryd.prog 42 #[.slice A0 x.length c0, .int .i64 at_, .bool whole] w fun e w' => ∃ v : Value, e = .returned v ∧ Kd.R k37 37 w' w.heap.size (fun _ => True) v r ∧ Below w.heap.size w w' := by
 have hu := Tryd.underlying47
 have hu32 := Tryd.underlying37
 intro k
 induction k with
 | zero => intro at_ whole r w _ h; exact absurd h (by simp [tokR])
 | succ k ih =>
  intro at_ whole r w hw0 h
  rw [tokR] at h
  by_cases c1 : 0 ≤ at_ ∧ at_ < (x.length : Int)
  case neg => rw [if_neg c1] at h; exact absurd h (by simp)
  rw [if_pos c1] at h
  obtain ⟨a0, a1⟩ := c1
  obtain ⟨ad, ead, t0, t1, t2, t3, t4⟩ := at_T47 (Kd.C_below hC hw0) at_ a0 a1
  cases ead
  have hp := eq_true a0
  have hq := eq_true a1
  generalize rd_T47 x at_ = n at h t0 t1 t2 t3 t4
  have HB0 := Aside0.mk (below_alloc (Below.refl w.heap.size w) (.cells #[.int .i64 n.f0, .int .i64 n.f1, .string n.f2, .int .i64 n.f3, .int .i64 n.f4] 47))
  have BX : Aside0 (∀ W, Below (w.alloc (.cells #[.int .i64 n.f0, .int .i64 n.f1, .string n.f2, .int .i64 n.f3, .int .i64 n.f4] 47)).heap.size (w.alloc (.cells #[.int .i64 n.f0, .int .i64 n.f1, .string n.f2, .int .i64 n.f3, .int .i64 n.f4] 47)) W → W.heap[w.heap.size]? = some (.cells #[.int .i64 n.f0, .int .i64 n.f1, .string n.f2, .int .i64 n.f3, .int .i64 n.f4] 47)) := ⟨fun W h => (h.block _ (blk_lt (blk_new w _))).trans (blk_new w _)⟩
  have HB := Aside0.mk (Below.refl (w.alloc (.cells #[.int .i64 n.f0, .int .i64 n.f1, .string n.f2, .int .i64 n.f3, .int .i64 n.f4] 47)).heap.size (w.alloc (.cells #[.int .i64 n.f0, .int .i64 n.f1, .string n.f2, .int .i64 n.f3, .int .i64 n.f4] 47)))
  have HSX : Aside0 (∀ W, Below (w.alloc (.cells #[.int .i64 n.f0, .int .i64 n.f1, .string n.f2, .int .i64 n.f3, .int .i64 n.f4] 47)).heap.size (w.alloc (.cells #[.int .i64 n.f0, .int .i64 n.f1, .string n.f2, .int .i64 n.f3, .int .i64 n.f4] 47)) W → W.cell? ⟨w.heap.size, 0, none⟩ = some (.int .i64 n.f0) ∧ W.cell? ⟨w.heap.size, 3, none⟩ = some (.int .i64 n.f3) ∧ W.cell? ⟨w.heap.size, 4, none⟩ = some (.int .i64 n.f4)) := ⟨fun W h => ⟨(blk_cell (BX.out W h) 0).trans rfl, (blk_cell (BX.out W h) 3).trans rfl, (blk_cell (BX.out W h) 4).trans rfl⟩⟩
  have HOP := Aside0.mk (fun w1 => rd_operands n.f0 w1)
  have HW0 := Aside0.mk hw0
  have IH : Aside0 (∀ (at_ : Int) (whole : Bool) (r : List S37) (w1 : World), Below w.heap.size w w1 → tokR x k at_ whole = some r → Calls Tryd.prog 42 #[.slice (some ad) x.length c0, .int .i64 at_, .bool whole] w1 fun e w' => ∃ v : Value, e = .returned v ∧ Kd.R k37 37 w' w1.heap.size (fun _ => True) v r ∧ Below w1.heap.size w1 w') := ⟨fun at_ whole r w1 hb h => ih at_ whole r w1 (below_step HW0.out hb) h⟩
  clear hC ih hw0 a0 a1
  by_cases c2 : n.f0 = 1
  ·rw [if_pos c2] at h
   obtain rfl := Option.some.inj h
   have c2b : (n.f0 == 1) = true := by simp [c2]
   clear c2 h
   go_enter Tryd.func42, Tryd.ntmps42
   go_wp2_with (first | (go_at_call 59; refine (HOP.out _).mono ?_; rintro e w_ ⟨rfl, hd⟩; have hb := Drawn0.below hd; (try (have HLB := Aside0.mk (And.intro ((hb.block _ (blk_lt (blk_new _ _))).trans (blk_new _ _)) HB.out.size))); (try (have z_ := Aside0.mk (And.intro ((hb.block _ (blk_lt HLB.out.1)).trans HLB.out.1) HLB.out.2); clear HLB; have HLB := z_; clear z_)); (try (have z_ := Aside0.mk (Kd.R_below (by (with_reducible repeat (first | apply Kd.R_alloc | apply Kd.R_drewN | apply Kd.R_drew)); exact HT1.out) hb); clear HT1; have HT1 := z_; clear z_)); (try (have z_ := Aside0.mk (Kd.R_below (by (with_reducible repeat (first | apply Kd.R_alloc | apply Kd.R_drewN | apply Kd.R_drew)); exact HT2.out) hb); clear HT2; have HT2 := z_; clear z_)); have z_ := Aside0.mk (below_step (by repeat (first | (with_reducible first | exact HB.out | apply below_alloc | apply pw_below_drewN | apply below_drew1 | apply below_drew) | exact HB.out)) hb); clear HB; have HB := z_; clear z_; (try clear q0); have q0 := (blk_cell (BX.out _ HB.out) 0).trans rfl; (try clear q1); have q1 := (blk_cell (BX.out _ HB.out) 1).trans rfl; (try clear q2); have q2 := (blk_cell (BX.out _ HB.out) 2).trans rfl; (try clear q3); have q3 := (blk_cell (BX.out _ HB.out) 3).trans rfl; (try clear q4); have q4 := (blk_cell (BX.out _ HB.out) 4).trans rfl; clear hd hb))
   go_ret
   refine ⟨_, ?_, lit_of_blk (t := (⟨2, n.f1, ⟨#[]⟩, 0⟩ : S37)) (blk_new _ _) (Nat.le_trans HB0.out.size HB.out.size), below_alloc (below_step HB0.out HB.out) _⟩
   rfl
  ·rw [if_neg c2] at h
   have c2b : (n.f0 == 1) = false := by simp [c2]
   clear c2
   by_cases c3 : n.f0 = 2
   ·rw [if_pos c3] at h
    obtain rfl := Option.some.inj h
    have c3b : (n.f0 == 2) = true := by simp [c3]
    clear c3 h
    go_enter Tryd.func42, Tryd.ntmps42
    go_wp2_with (first | (go_at_call 59; refine (HOP.out _).mono ?_; rintro e w_ ⟨rfl, hd⟩; have hb := Drawn0.below hd; (try (have HLB := Aside0.mk (And.intro ((hb.block _ (blk_lt (blk_new _ _))).trans (blk_new _ _)) HB.out.size))); (try (have z_ := Aside0.mk (And.intro ((hb.block _ (blk_lt HLB.out.1)).trans HLB.out.1) HLB.out.2); clear HLB; have HLB := z_; clear z_)); (try (have z_ := Aside0.mk (Kd.R_below (by (with_reducible repeat (first | apply Kd.R_alloc | apply Kd.R_drewN | apply Kd.R_drew)); exact HT1.out) hb); clear HT1; have HT1 := z_; clear z_)); (try (have z_ := Aside0.mk (Kd.R_below (by (with_reducible repeat (first | apply Kd.R_alloc | apply Kd.R_drewN | apply Kd.R_drew)); exact HT2.out) hb); clear HT2; have HT2 := z_; clear z_)); have z_ := Aside0.mk (below_step (by repeat (first | (with_reducible first | exact HB.out | apply below_alloc | apply pw_below_drewN | apply below_drew1 | apply below_drew) | exact HB.out)) hb); clear HB; have HB := z_; clear z_; (try clear q0); have q0 := (blk_cell (BX.out _ HB.out) 0).trans rfl; (try clear q1); have q1 := (blk_cell (BX.out _ HB.out) 1).trans rfl; (try clear q2); have q2 := (blk_cell (BX.out _ HB.out) 2).trans rfl; (try clear q3); have q3 := (blk_cell (BX.out _ HB.out) 3).trans rfl; (try clear q4); have q4 := (blk_cell (BX.out _ HB.out) 4).trans rfl; clear hd hb))
    go_ret
    refine ⟨_, ?_, lit_of_blk (t := (⟨1, 0, n.f2, 0⟩ : S37)) (blk_new _ _) (Nat.le_trans HB0.out.size HB.out.size), below_alloc (below_step HB0.out HB.out) _⟩
    rfl
   ·rw [if_neg c3] at h
    have c3b : (n.f0 == 2) = false := by simp [c3]
    clear c3
    by_cases c4 : 3 ≤ n.f0 ∧ n.f0 ≤ 16
    case neg => rw [if_neg c4] at h; exact absurd h (by simp)
    rw [if_pos c4] at h
    have HS := Aside0.mk c4
    clear c4
    have hov := opsV_of n.f0
    generalize opsV n.f0 = kk at h HOP hov
    by_cases c5 : kk = 0
    ·rw [if_pos c5] at h
     obtain rfl := Option.some.inj h
     have c5b : (kk == 0) = true := by simp [c5]
     clear c5 h hov
     go_enter Tryd.func42, Tryd.ntmps42
     go_wp2_with (first | (go_at_call 59; refine (HOP.out _).mono ?_; rintro e w_ ⟨rfl, hd⟩; have hb := Drawn0.below hd; (try (have HLB := Aside0.mk (And.intro ((hb.block _ (blk_lt (blk_new _ _))).trans (blk_new _ _)) HB.out.size))); (try (have z_ := Aside0.mk (And.intro ((hb.block _ (blk_lt HLB.out.1)).trans HLB.out.1) HLB.out.2); clear HLB; have HLB := z_; clear z_)); (try (have z_ := Aside0.mk (Kd.R_below (by (with_reducible repeat (first | apply Kd.R_alloc | apply Kd.R_drewN | apply Kd.R_drew)); exact HT1.out) hb); clear HT1; have HT1 := z_; clear z_)); (try (have z_ := Aside0.mk (Kd.R_below (by (with_reducible repeat (first | apply Kd.R_alloc | apply Kd.R_drewN | apply Kd.R_drew)); exact HT2.out) hb); clear HT2; have HT2 := z_; clear z_)); have z_ := Aside0.mk (below_step (by repeat (first | (with_reducible first | exact HB.out | apply below_alloc | apply pw_below_drewN | apply below_drew1 | apply below_drew) | exact HB.out)) hb); clear HB; have HB := z_; clear z_; (try clear q0); have q0 := (blk_cell (BX.out _ HB.out) 0).trans rfl; (try clear q1); have q1 := (blk_cell (BX.out _ HB.out) 1).trans rfl; (try clear q2); have q2 := (blk_cell (BX.out _ HB.out) 2).trans rfl; (try clear q3); have q3 := (blk_cell (BX.out _ HB.out) 3).trans rfl; (try clear q4); have q4 := (blk_cell (BX.out _ HB.out) 4).trans rfl; clear hd hb) | (go_at_call 62; refine (rd_sign _ n.f0 HS.out.1 HS.out.2).mono ?_; rintro e w_ ⟨rfl, hd⟩; have hb := Drawn0.below hd; (try (have HLB := Aside0.mk (And.intro ((hb.block _ (blk_lt (blk_new _ _))).trans (blk_new _ _)) HB.out.size))); (try (have z_ := Aside0.mk (And.intro ((hb.block _ (blk_lt HLB.out.1)).trans HLB.out.1) HLB.out.2); clear HLB; have HLB := z_; clear z_)); (try (have z_ := Aside0.mk (Kd.R_below (by (with_reducible repeat (first | apply Kd.R_alloc | apply Kd.R_drewN | apply Kd.R_drew)); exact HT1.out) hb); clear HT1; have HT1 := z_; clear z_)); (try (have z_ := Aside0.mk (Kd.R_below (by (with_reducible repeat (first | apply Kd.R_alloc | apply Kd.R_drewN | apply Kd.R_drew)); exact HT2.out) hb); clear HT2; have HT2 := z_; clear z_)); have z_ := Aside0.mk (below_step (by repeat (first | (with_reducible first | exact HB.out | apply below_alloc | apply pw_below_drewN | apply below_drew1 | apply below_drew) | exact HB.out)) hb); clear HB; have HB := z_; clear z_; (try clear q0); have q0 := (blk_cell (BX.out _ HB.out) 0).trans rfl; (try clear q1); have q1 := (blk_cell (BX.out _ HB.out) 1).trans rfl; (try clear q2); have q2 := (blk_cell (BX.out _ HB.out) 2).trans rfl; (try clear q3); have q3 := (blk_cell (BX.out _ HB.out) 3).trans rfl; (try clear q4); have q4 := (blk_cell (BX.out _ HB.out) 4).trans rfl; clear hd hb) | (go_at_call 61; refine (expr_mark.calls (signR n.f0) 4 0 (signR n.f0) 0 _ rfl).mono ?_; rintro e w_ ⟨rfl, hb⟩; (try (have HLB := Aside0.mk (And.intro ((hb.block _ (blk_lt (blk_new _ _))).trans (blk_new _ _)) HB.out.size))); (try (have z_ := Aside0.mk (And.intro ((hb.block _ (blk_lt HLB.out.1)).trans HLB.out.1) HLB.out.2); clear HLB; have HLB := z_; clear z_)); (try (have z_ := Aside0.mk (Kd.R_below (by (with_reducible repeat (first | apply Kd.R_alloc | apply Kd.R_drewN | apply Kd.R_drew)); exact HT1.out) hb); clear HT1; have HT1 := z_; clear z_)); (try (have z_ := Aside0.mk (Kd.R_below (by (with_reducible repeat (first | apply Kd.R_alloc | apply Kd.R_drewN | apply Kd.R_drew)); exact HT2.out) hb); clear HT2; have HT2 := z_; clear z_)); have z_ := Aside0.mk (below_step (by repeat (first | (with_reducible first | exact HB.out | apply below_alloc | apply pw_below_drewN | apply below_drew1 | apply below_drew) | exact HB.out)) hb); clear HB; have HB := z_; clear z_; (try clear q0); have q0 := (blk_cell (BX.out _ HB.out) 0).trans rfl; (try clear q1); have q1 := (blk_cell (BX.out _ HB.out) 1).trans rfl; (try clear q2); have q2 := (blk_cell (BX.out _ HB.out) 2).trans rfl; (try clear q3); have q3 := (blk_cell (BX.out _ HB.out) 3).trans rfl; (try clear q4); have q4 := (blk_cell (BX.out _ HB.out) 4).trans rfl; clear hb))
     go_ret
     refine ⟨_, ?_, lit_of_blk (t := mkT (signR n.f0)) (blk_new _ _) (Nat.le_trans HB0.out.size HB.out.size), below_alloc (below_step HB0.out HB.out) _⟩
     rfl
    ·rw [if_neg c5] at h
     have c5b : (kk == 0) = false := by simp [c5]
     clear c5
     by_cases c6 : kk = 1
     ·rw [if_pos c6] at h
      have c6b : (kk == 1) = true := by simp [c6]
      clear c6 hov
      obtain ⟨l1, hl1, h⟩ := Option.bind_eq_some_iff.1 h
      by_cases c7 : l1.length ≤ 10000000
      case neg => rw [if_neg c7] at h; exact absurd h (by simp)
      rw [if_pos c7] at h
      obtain rfl := Option.some.inj h
      have HL1 := Aside0.mk hl1
      have HN1 := Aside0.mk c7
      clear h hl1 c7
      have HLEN : Aside0 (([mkT (signR n.f0)].length + l1.length) * 40 ≤ 140737488355328) := ⟨by have := HN1.out; rw [List.length_singleton]; omega⟩
      go_enter Tryd.func42, Tryd.ntmps42
      go_wp2_with (first | (go_at_call 59; refine (HOP.out _).mono ?_; rintro e w_ ⟨rfl, hd⟩; have hb := Drawn0.below hd; (try (have HLB := Aside0.mk (And.intro ((hb.block _ (blk_lt (blk_new _ _))).trans (blk_new _ _)) HB.out.size))); (try (have z_ := Aside0.mk (And.intro ((hb.block _ (blk_lt HLB.out.1)).trans HLB.out.1) HLB.out.2); clear HLB; have HLB := z_; clear z_)); (try (have z_ := Aside0.mk (Kd.R_below (by (with_reducible repeat (first | apply Kd.R_alloc | apply Kd.R_drewN | apply Kd.R_drew)); exact HT1.out) hb); clear HT1; have HT1 := z_; clear z_)); (try (have z_ := Aside0.mk (Kd.R_below (by (with_reducible repeat (first | apply Kd.R_alloc | apply Kd.R_drewN | apply Kd.R_drew)); exact HT2.out) hb); clear HT2; have HT2 := z_; clear z_)); have z_ := Aside0.mk (below_step (by repeat (first | (with_reducible first | exact HB.out | apply below_alloc | apply pw_below_drewN | apply below_drew1 | apply below_drew) | exact HB.out)) hb); clear HB; have HB := z_; clear z_; (try clear q0); have q0 := (blk_cell (BX.out _ HB.out) 0).trans rfl; (try clear q1); have q1 := (blk_cell (BX.out _ HB.out) 1).trans rfl; (try clear q2); have q2 := (blk_cell (BX.out _ HB.out) 2).trans rfl; (try clear q3); have q3 := (blk_cell (BX.out _ HB.out) 3).trans rfl; (try clear q4); have q4 := (blk_cell (BX.out _ HB.out) 4).trans rfl; clear hd hb))
      go_region_held3 (fun w' => w'.cell? ⟨w.heap.size, 0, none⟩ = some (.int .i64 n.f0) ∧ w'.cell? ⟨w.heap.size, 3, none⟩ = some (.int .i64 n.f3) ∧ w'.cell? ⟨w.heap.size, 4, none⟩ = some (.int .i64 n.f4)) (first | exact HSX.out _ (by repeat (first | (with_reducible first | exact HB.out | apply below_alloc | apply pw_below_drewN | apply below_drew1 | apply below_drew) | exact HB.out))) (first | (go_at_call 62; with_reducible refine (rd_sign _ n.f0 HS.out.1 HS.out.2).mono ?_; rintro e w_ ⟨rfl, hd⟩; have hb := Drawn0.below hd; (try (have HLB := Aside0.mk (And.intro ((hb.block _ (blk_lt (blk_new _ _))).trans (blk_new _ _)) HB.out.size))); (try (have z_ := Aside0.mk (And.intro ((hb.block _ (blk_lt HLB.out.1)).trans HLB.out.1) HLB.out.2); clear HLB; have HLB := z_; clear z_)); (try (have z_ := Aside0.mk (Kd.R_below (by (with_reducible repeat (first | apply Kd.R_alloc | apply Kd.R_drewN | apply Kd.R_drew)); exact HT1.out) hb); clear HT1; have HT1 := z_; clear z_)); (try (have z_ := Aside0.mk (Kd.R_below (by (with_reducible repeat (first | apply Kd.R_alloc | apply Kd.R_drewN | apply Kd.R_drew)); exact HT2.out) hb); clear HT2; have HT2 := z_; clear z_)); have z_ := Aside0.mk (below_step (by repeat (first | (with_reducible first | exact HB.out | apply below_alloc | apply pw_below_drewN | apply below_drew1 | apply below_drew) | exact HB.out)) hb); clear HB; have HB := z_; clear z_; clear hd hb) | (go_at_call 61; with_reducible refine (expr_mark.calls (signR n.f0) 4 0 (signR n.f0) 0 _ rfl).mono ?_; rintro e w_ ⟨rfl, hb⟩; (try (have HLB := Aside0.mk (And.intro ((hb.block _ (blk_lt (blk_new _ _))).trans (blk_new _ _)) HB.out.size))); (try (have z_ := Aside0.mk (And.intro ((hb.block _ (blk_lt HLB.out.1)).trans HLB.out.1) HLB.out.2); clear HLB; have HLB := z_; clear z_)); (try (have z_ := Aside0.mk (Kd.R_below (by (with_reducible repeat (first | apply Kd.R_alloc | apply Kd.R_drewN | apply Kd.R_drew)); exact HT1.out) hb); clear HT1; have HT1 := z_; clear z_)); (try (have z_ := Aside0.mk (Kd.R_below (by (with_reducible repeat (first | apply Kd.R_alloc | apply Kd.R_drewN | apply Kd.R_drew)); exact HT2.out) hb); clear HT2; have HT2 := z_; clear z_)); have z_ := Aside0.mk (below_step (by repeat (first | (with_reducible first | exact HB.out | apply below_alloc | apply pw_below_drewN | apply below_drew1 | apply below_drew) | exact HB.out)) hb); clear HB; have HB := z_; clear z_; clear hb) | (go_at_call 42; with_reducible refine (IH.out n.f3 false l1 _ (below_step HB0.out (by repeat (first | (with_reducible first | exact HB.out | apply below_alloc | apply pw_below_drewN | apply below_drew1 | apply below_drew) | exact HB.out))) HL1.out).mono ?_; rintro e w_ ⟨v_, rfl, ho, hb⟩; obtain ⟨A1, c1, rfl⟩ := Kd.R_slice ho; have HT1 := Aside0.mk (Kd.R_lower (base' := (w.alloc (.cells #[.int .i64 n.f0, .int .i64 n.f1, .string n.f2, .int .i64 n.f3, .int .i64 n.f4] 47)).heap.size) ho (below_size (by repeat (first | (with_reducible first | exact HB.out | apply below_alloc | apply pw_below_drewN | apply below_drew1 | apply below_drew) | exact HB.out)))); (try (have HLB := Aside0.mk (And.intro ((hb.block _ (blk_lt (blk_new _ _))).trans (blk_new _ _)) HB.out.size))); (try (have z_ := Aside0.mk (And.intro ((hb.block _ (blk_lt HLB.out.1)).trans HLB.out.1) HLB.out.2); clear HLB; have HLB := z_; clear z_)); (try (have z_ := Aside0.mk (Kd.R_below (by (with_reducible repeat (first | apply Kd.R_alloc | apply Kd.R_drewN | apply Kd.R_drew)); exact HT1.out) hb); clear HT1; have HT1 := z_; clear z_)); (try (have z_ := Aside0.mk (Kd.R_below (by (with_reducible repeat (first | apply Kd.R_alloc | apply Kd.R_drewN | apply Kd.R_drew)); exact HT2.out) hb); clear HT2; have HT2 := z_; clear z_)); have z_ := Aside0.mk (below_step (by repeat (first | (with_reducible first | exact HB.out | apply below_alloc | apply pw_below_drewN | apply below_drew1 | apply below_drew) | exact HB.out)) hb); clear HB; have HB := z_; clear z_; clear ho hb) | (refine Kd.R_append_rows_step k37 (w0 := w.alloc (.cells #[.int .i64 n.f0, .int .i64 n.f1, .string n.f2, .int .i64 n.f3, .int .i64 n.f4] 47)) (w.alloc (.cells #[.int .i64 n.f0, .int .i64 n.f1, .string n.f2, .int .i64 n.f3, .int .i64 n.f4] 47)).heap.size (by rfl) (.tmp 48) (.tmp 52) 22 37 (.agg #[(.int .i64 0), (.int .i64 0), (.string ⟨#[]⟩), (.int .i64 0)]) 40 rfl Tryd.underlying22 info37 rfl (by decide) (by decide) _ [mkT (signR n.f0)] l1 A1 l1.length c1 (fun _ => True) (fun _ => False) ?aV ?aX (lit_of_blk (t := mkT (signR n.f0)) HLB.out.1 HLB.out.2) (Kd.R_reads' (HT1.out)).2.2 (fun _ _ h => h) (fun _ h => h.elim) (fun _ _ => trivial) ?aB ?aS ?aL ?_; (case aV => first | (go_simp; done) | (go_simp; rfl)); (case aX => first | (go_simp; done) | (go_simp; rfl)); (case aB => exact (by repeat (first | (with_reducible first | exact HB.out | apply below_alloc | apply pw_below_drewN | apply below_drew1 | apply below_drew) | exact HB.out))); (case aS => exact below_size (by repeat (first | (with_reducible first | exact HB.out | apply below_alloc | apply pw_below_drewN | apply below_drew1 | apply below_drew) | exact HB.out))); (case aL => exact HLEN.out); intro v5 w5 ho hb hg hat; have HR := Aside0.mk ho; clear HB; have HB := Aside0.mk hb; clear ho hb hg hat) | (refine Kd.R_append_rows_step k37 (w0 := w.alloc (.cells #[.int .i64 n.f0, .int .i64 n.f1, .string n.f2, .int .i64 n.f3, .int .i64 n.f4] 47)) (w.alloc (.cells #[.int .i64 n.f0, .int .i64 n.f1, .string n.f2, .int .i64 n.f3, .int .i64 n.f4] 47)).heap.size (by rfl) (.tmp 48) (.tmp 52) 22 37 (.agg #[(.int .i64 0), (.int .i64 0), (.string ⟨#[]⟩), (.int .i64 0)]) 40 rfl Tryd.underlying22 info37 rfl (by decide) (by decide) _ [mkT (signR n.f0)] l1 A1 l1.length c1 (fun _ => True) (fun _ => False) ?aV ?aX (lit_of_blk (t := mkT (signR n.f0)) (blk_new _ _) HB.out.size) (Kd.R_reads' (Kd.R_alloc HT1.out _)).2.2 (fun _ _ h => h) (fun _ h => h.elim) (fun _ _ => trivial) ?aB ?aS ?aL ?_; (case aV => first | (go_simp; done) | (go_simp; rfl)); (case aX => first | (go_simp; done) | (go_simp; rfl)); (case aB => exact (by repeat (first | (with_reducible first | exact HB.out | apply below_alloc | apply pw_below_drewN | apply below_drew1 | apply below_drew) | exact HB.out))); (case aS => exact below_size (by repeat (first | (with_reducible first | exact HB.out | apply below_alloc | apply pw_below_drewN | apply below_drew1 | apply below_drew) | exact HB.out))); (case aL => exact HLEN.out); intro v5 w5 ho hb hg hat; have HR := Aside0.mk ho; clear HB; have HB := Aside0.mk hb; clear ho hb hg hat))
      all_goals go_wp2
      all_goals go_ret
      all_goals (refine ⟨_, ?_, Kd.R_lower HR.out HB0.out.size, below_step HB0.out HB.out⟩; rfl)
     ·rw [if_neg c6] at h
      have c6b : (kk == 1) = false := by simp [c6]
      clear c6 hov
      obtain ⟨l1, hl1, h⟩ := Option.bind_eq_some_iff.1 h
      obtain ⟨l2, hl2, h⟩ := Option.bind_eq_some_iff.1 h
      by_cases c7 : l1.length ≤ 10000000 ∧ l2.length ≤ 10000000
      case neg => rw [if_neg c7] at h; exact absurd h (by simp)
      rw [if_pos c7] at h
      obtain rfl := Option.some.inj h
      have HL1 := Aside0.mk hl1
      have HL2 := Aside0.mk hl2
      have HN1 := Aside0.mk c7.1
      have HN2 := Aside0.mk c7.2
      clear h hl1 hl2 c7
      obtain ⟨lm, hlm⟩ : ∃ lm, lm = l1 ++ [mkT (signR n.f0)] ++ l2 := ⟨_, rfl⟩
      rw [← hlm]
      have HLM := Aside0.mk hlm
      clear hlm
      go_enter Tryd.func42, Tryd.ntmps42
      go_upto_region 11 with (first | (go_at_call 59; refine (HOP.out _).mono ?_; rintro e w_ ⟨rfl, hd⟩; have hb := Drawn0.below hd; (try (have HLB := Aside0.mk (And.intro ((hb.block _ (blk_lt (blk_new _ _))).trans (blk_new _ _)) HB.out.size))); (try (have z_ := Aside0.mk (And.intro ((hb.block _ (blk_lt HLB.out.1)).trans HLB.out.1) HLB.out.2); clear HLB; have HLB := z_; clear z_)); (try (have z_ := Aside0.mk (Kd.R_below (by (with_reducible repeat (first | apply Kd.R_alloc | apply Kd.R_drewN | apply Kd.R_drew)); exact HT1.out) hb); clear HT1; have HT1 := z_; clear z_)); (try (have z_ := Aside0.mk (Kd.R_below (by (with_reducible repeat (first | apply Kd.R_alloc | apply Kd.R_drewN | apply Kd.R_drew)); exact HT2.out) hb); clear HT2; have HT2 := z_; clear z_)); have z_ := Aside0.mk (below_step (by repeat (first | (with_reducible first | exact HB.out | apply below_alloc | apply pw_below_drewN | apply below_drew1 | apply below_drew) | exact HB.out)) hb); clear HB; have HB := z_; clear z_; (try clear q0); have q0 := (blk_cell (BX.out _ HB.out) 0).trans rfl; (try clear q1); have q1 := (blk_cell (BX.out _ HB.out) 1).trans rfl; (try clear q2); have q2 := (blk_cell (BX.out _ HB.out) 2).trans rfl; (try clear q3); have q3 := (blk_cell (BX.out _ HB.out) 3).trans rfl; (try clear q4); have q4 := (blk_cell (BX.out _ HB.out) 4).trans rfl; clear hd hb))
      go_cut [9] (fun v9 wc => Aside0 (Kd.R k37 37 wc w.heap.size (fun _ => True) v9 lm) ∧ Aside0 (Below w.heap.size w wc))
      case first =>
       go_region_held3 (fun w' => w'.cell? ⟨w.heap.size, 0, none⟩ = some (.int .i64 n.f0) ∧ w'.cell? ⟨w.heap.size, 3, none⟩ = some (.int .i64 n.f3) ∧ w'.cell? ⟨w.heap.size, 4, none⟩ = some (.int .i64 n.f4)) (first | exact HSX.out _ (by repeat (first | (with_reducible first | exact HB.out | apply below_alloc | apply pw_below_drewN | apply below_drew1 | apply below_drew) | exact HB.out))) (first | (go_at_call 62; with_reducible refine (rd_sign _ n.f0 HS.out.1 HS.out.2).mono ?_; rintro e w_ ⟨rfl, hd⟩; have hb := Drawn0.below hd; (try (have HLB := Aside0.mk (And.intro ((hb.block _ (blk_lt (blk_new _ _))).trans (blk_new _ _)) HB.out.size))); (try (have z_ := Aside0.mk (And.intro ((hb.block _ (blk_lt HLB.out.1)).trans HLB.out.1) HLB.out.2); clear HLB; have HLB := z_; clear z_)); (try (have z_ := Aside0.mk (Kd.R_below (by (with_reducible repeat (first | apply Kd.R_alloc | apply Kd.R_drewN | apply Kd.R_drew)); exact HT1.out) hb); clear HT1; have HT1 := z_; clear z_)); (try (have z_ := Aside0.mk (Kd.R_below (by (with_reducible repeat (first | apply Kd.R_alloc | apply Kd.R_drewN | apply Kd.R_drew)); exact HT2.out) hb); clear HT2; have HT2 := z_; clear z_)); have z_ := Aside0.mk (below_step (by repeat (first | (with_reducible first | exact HB.out | apply below_alloc | apply pw_below_drewN | apply below_drew1 | apply below_drew) | exact HB.out)) hb); clear HB; have HB := z_; clear z_; clear hd hb) | (go_at_call 61; with_reducible refine (expr_mark.calls (signR n.f0) 4 0 (signR n.f0) 0 _ rfl).mono ?_; rintro e w_ ⟨rfl, hb⟩; (try (have HLB := Aside0.mk (And.intro ((hb.block _ (blk_lt (blk_new _ _))).trans (blk_new _ _)) HB.out.size))); (try (have z_ := Aside0.mk (And.intro ((hb.block _ (blk_lt HLB.out.1)).trans HLB.out.1) HLB.out.2); clear HLB; have HLB := z_; clear z_)); (try (have z_ := Aside0.mk (Kd.R_below (by (with_reducible repeat (first | apply Kd.R_alloc | apply Kd.R_drewN | apply Kd.R_drew)); exact HT1.out) hb); clear HT1; have HT1 := z_; clear z_)); (try (have z_ := Aside0.mk (Kd.R_below (by (with_reducible repeat (first | apply Kd.R_alloc | apply Kd.R_drewN | apply Kd.R_drew)); exact HT2.out) hb); clear HT2; have HT2 := z_; clear z_)); have z_ := Aside0.mk (below_step (by repeat (first | (with_reducible first | exact HB.out | apply below_alloc | apply pw_below_drewN | apply below_drew1 | apply below_drew) | exact HB.out)) hb); clear HB; have HB := z_; clear z_; clear hb) | (go_at_call 42; with_reducible refine (IH.out n.f3 false l1 _ (below_step HB0.out (by repeat (first | (with_reducible first | exact HB.out | apply below_alloc | apply pw_below_drewN | apply below_drew1 | apply below_drew) | exact HB.out))) HL1.out).mono ?_; rintro e w_ ⟨v_, rfl, ho, hb⟩; obtain ⟨A1, c1, rfl⟩ := Kd.R_slice ho; have HT1 := Aside0.mk (Kd.R_lower (base' := (w.alloc (.cells #[.int .i64 n.f0, .int .i64 n.f1, .string n.f2, .int .i64 n.f3, .int .i64 n.f4] 47)).heap.size) ho (below_size (by repeat (first | (with_reducible first | exact HB.out | apply below_alloc | apply pw_below_drewN | apply below_drew1 | apply below_drew) | exact HB.out)))); (try (have HLB := Aside0.mk (And.intro ((hb.block _ (blk_lt (blk_new _ _))).trans (blk_new _ _)) HB.out.size))); (try (have z_ := Aside0.mk (And.intro ((hb.block _ (blk_lt HLB.out.1)).trans HLB.out.1) HLB.out.2); clear HLB; have HLB := z_; clear z_)); (try (have z_ := Aside0.mk (Kd.R_below (by (with_reducible repeat (first | apply Kd.R_alloc | apply Kd.R_drewN | apply Kd.R_drew)); exact HT1.out) hb); clear HT1; have HT1 := z_; clear z_)); (try (have z_ := Aside0.mk (Kd.R_below (by (with_reducible repeat (first | apply Kd.R_alloc | apply Kd.R_drewN | apply Kd.R_drew)); exact HT2.out) hb); clear HT2; have HT2 := z_; clear z_)); have z_ := Aside0.mk (below_step (by repeat (first | (with_reducible first | exact HB.out | apply below_alloc | apply pw_below_drewN | apply below_drew1 | apply below_drew) | exact HB.out)) hb); clear HB; have HB := z_; clear z_; clear ho hb) | (go_at_call 42; with_reducible refine (IH.out n.f4 false l2 _ (below_step HB0.out (by repeat (first | (with_reducible first | exact HB.out | apply below_alloc | apply pw_below_drewN | apply below_drew1 | apply below_drew) | exact HB.out))) HL2.out).mono ?_; rintro e w_ ⟨v_, rfl, ho, hb⟩; obtain ⟨A2, c2, rfl⟩ := Kd.R_slice ho; have HT2 := Aside0.mk (Kd.R_lower (base' := (w.alloc (.cells #[.int .i64 n.f0, .int .i64 n.f1, .string n.f2, .int .i64 n.f3, .int .i64 n.f4] 47)).heap.size) ho (below_size (by repeat (first | (with_reducible first | exact HB.out | apply below_alloc | apply pw_below_drewN | apply below_drew1 | apply below_drew) | exact HB.out)))); (try (have HLB := Aside0.mk (And.intro ((hb.block _ (blk_lt (blk_new _ _))).trans (blk_new _ _)) HB.out.size))); (try (have z_ := Aside0.mk (And.intro ((hb.block _ (blk_lt HLB.out.1)).trans HLB.out.1) HLB.out.2); clear HLB; have HLB := z_; clear z_)); (try (have z_ := Aside0.mk (Kd.R_below (by (with_reducible repeat (first | apply Kd.R_alloc | apply Kd.R_drewN | apply Kd.R_drew)); exact HT1.out) hb); clear HT1; have HT1 := z_; clear z_)); (try (have z_ := Aside0.mk (Kd.R_below (by (with_reducible repeat (first | apply Kd.R_alloc | apply Kd.R_drewN | apply Kd.R_drew)); exact HT2.out) hb); clear HT2; have HT2 := z_; clear z_)); have z_ := Aside0.mk (below_step (by repeat (first | (with_reducible first | exact HB.out | apply below_alloc | apply pw_below_drewN | apply below_drew1 | apply below_drew) | exact HB.out)) hb); clear HB; have HB := z_; clear z_; clear ho hb) | (go_at_call 63; (first | (with_reducible refine (concat3n _ _ A1 _ A2 c1 1 c2 l1.length 1 l2.length l1 [mkT (signR n.f0)] l2 (blk_new2 _ _ _) rfl rfl rfl ?cA ?cL ?cB (by have := HN1.out; omega) (by simp) (by have := HN2.out; omega)).mono ?_) | (with_reducible refine (concat3n _ _ A1 _ A2 c1 1 c2 l1.length 1 l2.length l1 [mkT (signR n.f0)] l2 (blk_new _ _) rfl rfl rfl ?cA ?cL ?cB (by have := HN1.out; omega) (by simp) (by have := HN2.out; omega)).mono ?_)); (case cA => refine (Kd.R_reads' (e := 37) (base := (w.alloc (.cells #[.int .i64 n.f0, .int .i64 n.f1, .string n.f2, .int .i64 n.f3, .int .i64 n.f4] 47)).heap.size) (ok := fun _ => True) (n := l1.length) (c := c1) ?_).2.2; (with_reducible repeat (first | apply Kd.R_alloc | apply Kd.R_drewN | apply Kd.R_drew)); exact HT1.out); (case cB => refine (Kd.R_reads' (e := 37) (base := (w.alloc (.cells #[.int .i64 n.f0, .int .i64 n.f1, .string n.f2, .int .i64 n.f3, .int .i64 n.f4] 47)).heap.size) (ok := fun _ => True) (n := l2.length) (c := c2) ?_).2.2; (with_reducible repeat (first | apply Kd.R_alloc | apply Kd.R_drewN | apply Kd.R_drew)); exact HT2.out); (case cL => first | (refine (Kd.R_reads' (e := 37) (base := (w.alloc (.cells #[.int .i64 n.f0, .int .i64 n.f1, .string n.f2, .int .i64 n.f3, .int .i64 n.f4] 47)).heap.size) (ok := fun _ => True) (n := 1) (c := 1) (lit_of_blk (t := mkT (signR n.f0)) ?_ HLB.out.2)).2.2; exact blk_alloc HLB.out.1 _) | (refine (Kd.R_reads' (e := 37) (base := (w.alloc (.cells #[.int .i64 n.f0, .int .i64 n.f1, .string n.f2, .int .i64 n.f3, .int .i64 n.f4] 47)).heap.size) (ok := fun _ => True) (n := 1) (c := 1) (lit_of_blk (t := mkT (signR n.f0)) ?_ HB.out.size)).2.2; exact blk_alloc (blk_new _ _) _)); rintro e w_ ⟨v_, rfl, ho, hb⟩; have HR := Aside0.mk (Kd.R_lower (base' := w.heap.size) ho (Nat.le_trans HB0.out.size (below_size (by repeat (first | (with_reducible first | exact HB.out | apply below_alloc | apply pw_below_drewN | apply below_drew1 | apply below_drew) | exact HB.out))))); have z_ := Aside0.mk (below_step (by repeat (first | (with_reducible first | exact HB.out | apply below_alloc | apply pw_below_drewN | apply below_drew1 | apply below_drew) | exact HB.out)) hb); clear HB; have HB := z_; clear z_ ho hb))
       all_goals go_wp2
       all_goals go_meet
       all_goals exact ⟨⟨by rw [HLM.out]; exact HR.out⟩, ⟨below_step HB0.out HB.out⟩⟩
      case rest =>
       obtain ⟨HR, HB5⟩ := hcut
       obtain ⟨AR, cR, rfl⟩ := Kd.R_slice HR.out
       have HN3 : Aside0 (lm.length ≤ 30000000) := ⟨by have := HN1.out; have := HN2.out; rw [HLM.out]; simp only [List.length_append, List.length_singleton]; omega⟩
       clear HB HLM
       cases whole with
       | true =>
        go_wp2
        go_ret
        refine ⟨_, ?_, HR.out, HB5.out⟩
        rfl
       | false =>
        go_wp2_with (first | (go_at_call 61; with_reducible refine (expr_mark.calls ⟨#[40]⟩ 4 0 ⟨#[40]⟩ 0 _ rfl).mono ?_; rintro e w_ ⟨rfl, hb⟩; have z_ := Aside0.mk (Kd.R_below HR.out hb); clear HR; have HR := z_; clear z_; have z_ := Aside0.mk (below_step HB5.out hb); clear HB5; have HB5 := z_; clear z_; clear hb) | (go_at_call 61; with_reducible refine (expr_mark.calls ⟨#[41]⟩ 4 0 ⟨#[41]⟩ 0 _ rfl).mono ?_; rintro e w_ ⟨rfl, hb⟩; have HLA := Aside0.mk (And.intro ((hb.block _ (blk_lt (blk_new _ _))).trans (blk_new _ _)) HB5.out.size); have z_ := Aside0.mk (Kd.R_below (Kd.R_alloc HR.out _) hb); clear HR; have HR := z_; clear z_; have z_ := Aside0.mk (below_step (below_alloc HB5.out _) hb); clear HB5; have HB5 := z_; clear z_; clear hb) | (go_at_call 63; with_reducible refine (concat3n _ _ _ AR _ 1 cR 1 1 lm.length 1 [mkT ⟨#[40]⟩] lm [mkT ⟨#[41]⟩] (blk_new2 _ _ _) rfl rfl rfl ?cA ?cL ?cB (by simp) (by have := HN3.out; omega) (by simp)).mono ?_; (case cL => refine (Kd.R_reads' (e := 37) (base := w.heap.size) (ok := fun _ => True) (n := lm.length) (c := cR) ?_).2.2; (with_reducible repeat (first | apply Kd.R_alloc | apply Kd.R_drewN | apply Kd.R_drew)); exact HR.out); (case cA => refine (Kd.R_reads' (e := 37) (base := w.heap.size) (ok := fun _ => True) (n := 1) (c := 1) (lit_of_blk (t := mkT ⟨#[40]⟩) ?_ HLA.out.2)).2.2; exact blk_alloc (blk_alloc HLA.out.1 _) _); (case cB => refine (Kd.R_reads' (e := 37) (base := w.heap.size) (ok := fun _ => True) (n := 1) (c := 1) (lit_of_blk (t := mkT ⟨#[41]⟩) ?_ HB5.out.size)).2.2; exact blk_alloc (blk_new _ _) _); rintro e w_ ⟨v_, rfl, ho, hb⟩; have HR2 := Aside0.mk (Kd.R_lower (base' := w.heap.size) ho (below_size (by repeat (first | (with_reducible first | exact HB5.out | apply below_alloc | apply pw_below_drewN | apply below_drew1 | apply below_drew) | exact HB5.out)))); have HB6 := Aside0.mk (below_step (by repeat (first | (with_reducible first | exact HB5.out | apply below_alloc | apply pw_below_drewN | apply below_drew1 | apply below_drew) | exact HB5.out)) hb); clear ho hb))
        go_ret
        refine ⟨_, ?_, by first | exact HR2.out | (have z := HR2.out; simp only [List.append_assoc, List.cons_append, List.nil_append] at z; exact z), HB6.out⟩
        rfl
theorem tokR_mono (x : List S47) : ∀ (k : Nat) (a : Int) (w : Bool), LeO (tokR x k a w) (tokR x (k + 1) a w)
 | 0, _, _ => fun r h => by simp [tokR] at h
 | k + 1, a, w => by
  rw [tokR, tokR]
  repeat' first
   | exact LeO.refl _
   | exact tokR_mono x k _ _
   | refine LeO.ite ?_ ?_
   | refine LeO.bind ?_ (fun _ => ?_)
def expr_tokens.f (k : Nat) (l0 : List S47) (a1 : Int) (a2 : Bool) : Option (List S37) := tokR l0 k a1 a2
theorem expr_tokens.mono : ∀ l0 a1 a2 k, LeO (expr_tokens.f k l0 a1 a2) (expr_tokens.f (k + 1) l0 a1 a2) := fun l0 a1 a2 k => tokR_mono l0 k a1 a2
theorem expr_tokens.calls (k : Nat) (A0 : Option Addr) (c0 : Nat) (l0 : List S47) (a1 : Int) (a2 : Bool) (r : List S37) (w : World) (hr0 : Kd.C k47 w A0 l0.length l0) (hc0 : l0.length ≤ c0) (h : expr_tokens.f k l0 a1 a2 = some r) :
  Calls Tryd.prog 42 #[.slice A0 l0.length c0, .int .i64 a1, .bool a2] w fun e w' => ∃ v0_ : Value, e = .returned (v0_) ∧ Kd.R k37 37 w' w.heap.size (fun _ => True) v0_ r ∧ Below w.heap.size w w' :=
 tok_calls w A0 c0 l0 hr0 k a1 a2 r w (Below.refl _ _) h

/-! ### expr_Text: function 22 -/
def expr_Text.f (k : Nat) (l0 : List (S47)) : Option ((List (S37)) × Int) := (expr_Check.f k l0).bind fun t170 => (if t170 = 0 then ((expr_tokens.f k l0 (wrap64 ((l0.length : Int) - 1)) true).bind fun t171 => (some (t171, 0))) else (some (([] : List (S37)), t170)))
theorem expr_Text.mono : ∀ a0 k, LeO (expr_Text.f k a0) (expr_Text.f (k + 1) a0) := by
 intro a0 k
 unfold expr_Text.f
 repeat' first
   | (with_reducible exact expr_Check.mono _ _)
   | (with_reducible exact expr_tokens.mono _ _ _ _)
   | (with_reducible exact LeO.refl _)
   | (with_reducible exact LeO.none _)
   | (with_reducible refine LeO.ite ?_ ?_)
   | (with_reducible refine LeO.bind ?_ (fun _ => ?_))
   | exact expr_Check.mono _ _
   | exact expr_tokens.mono _ _ _ _
   | exact LeO.none _
   | refine LeO.ite ?_ ?_
   | refine LeO.bind ?_ (fun _ => ?_)
set_option maxHeartbeats 8000000 in
set_option maxRecDepth 100000 in
theorem expr_Text.calls (k : Nat) (A0 : Option Addr) (c0 : Nat) (l0 : List (S47)) (r1 : List (S37)) (r2 : Int) (w : World) (hr0 : Kd.C k47 w A0 l0.length l0) (hc0 : l0.length ≤ c0) (h : expr_Text.f k l0 = some (r1, r2)) :
  Calls Tryd.prog 22 #[.slice A0 l0.length c0] w fun e w' => ∃ v0_ : Value, e = .returned (.tuple #[v0_, .int .i64 r2]) ∧ Kd.R k37 37 w' w.heap.size (fun _ => True) v0_ r1 ∧ Below w.heap.size w w' := by
 have HR0 := Aside0.mk hr0
 have HC0 := Aside0.mk hc0
 clear hr0 hc0
 have HB := Aside0.mk (Below.refl w.heap.size w)
 have H : ((expr_Check.f k l0).bind fun t170 => (if t170 = 0 then ((expr_tokens.f k l0 (wrap64 ((l0.length : Int) - 1)) true).bind fun t171 => (some (t171, 0))) else (some (([] : List (S37)), t170)))) = some (r1, r2) := h
 clear h
 replace H := Option.bind_eq_some_iff.mp H
 obtain ⟨t170, A20, H⟩ := H
 replace H : (if t170 = 0 then ((expr_tokens.f k l0 (wrap64 ((l0.length : Int) - 1)) true).bind fun t171 => (some (t171, 0))) else (some (([] : List (S37)), t170))) = some (r1, r2) := H
 have A2 := Aside0.mk A20
 clear A20
 by_cases c3 : t170 = 0
 ·rw [if_pos c3] at H
  have c3b0 : (t170 == 0) = true := beq_iff_eq.mpr c3
  have c3b1 : (t170 != 0) = false := bne_eq_false_iff_eq.mpr c3
  clear c3
  replace H := Option.bind_eq_some_iff.mp H
  obtain ⟨t171, A40, H⟩ := H
  replace H : (some (t171, 0)) = some (r1, r2) := H
  have A4 := Aside0.mk A40
  clear A40
  simp only [Option.some.injEq, Prod.mk.injEq] at H
  obtain ⟨rfl, rfl⟩ := H
  go_enter Tryd.func22, Tryd.ntmps22
  go_wp2_with (first | ((with_reducible refine gate_callee (f := 41) rfl ?_); refine goesL_ (some 6) rfl rfl Tryd.func41 (by kernel_rfl) rfl #[.slice A0 l0.length c0] rfl (by (try simp only [List.map_toArray, List.map_cons, List.map_nil]); first | done | rfl | (simp only [List.length_drop, List.length_take]; rfl)) ?_; (with_reducible refine (expr_Check.calls k _ _ l0 t170 _ ?side1 ?side2 A2.out).mono ?_); (case side1 => repeat (first | exact HR0.out | (with_reducible refine Kd.C_alloc ?_ _) | (with_reducible refine Kd.C_drewN ?_ _) | (with_reducible refine Kd.C_drew ?_))); (case side2 => exact HC0.out); rintro e w5 ⟨rfl, hb⟩; refine ⟨_, rfl, ?_⟩; have n0_ := Aside0.mk (below_step (by repeat (first | (with_reducible first | exact HB.out | apply below_alloc | apply pw_below_drewN | apply below_drew1) | exact HB.out)) hb); clear HB; have HB := n0_; clear n0_; (try clear hb); (try clear hb2); (try clear hk); (try clear hi)) | ((with_reducible refine gate_callee (f := 42) rfl ?_); refine goesL_ (some 14) rfl rfl Tryd.func42 (by kernel_rfl) rfl #[.slice A0 l0.length c0, .int .i64 (wrap64 ((l0.length : Int) - 1)), .bool true] rfl (by (try simp only [List.map_toArray, List.map_cons, List.map_nil]); first | done | rfl | (simp only [List.length_drop, List.length_take]; rfl)) ?_; (with_reducible refine (expr_tokens.calls k _ _ l0 (wrap64 ((l0.length : Int) - 1)) true t171 _ ?side1 ?side2 A4.out).mono ?_); (case side1 => repeat (first | exact (Kd.C_below HR0.out HB.out) | (with_reducible refine Kd.C_alloc ?_ _) | (with_reducible refine Kd.C_drewN ?_ _) | (with_reducible refine Kd.C_drew ?_))); (case side2 => exact HC0.out); rintro e w6 ⟨v172, rfl, ho0, hb⟩; refine ⟨_, rfl, ?_⟩; have n0_ := Aside0.mk (Kd.R_lower ho0 (below_size (by repeat (first | (with_reducible first | exact HB.out | apply below_alloc | apply pw_below_drewN | apply below_drew1) | exact HB.out)))); have n1_ := Aside0.mk (below_step (by repeat (first | (with_reducible first | exact HB.out | apply below_alloc | apply pw_below_drewN | apply below_drew1) | exact HB.out)) hb); clear HB; have HO173 := n0_; have HB := n1_; clear n0_ n1_; (try clear hb); (try clear hb2); (try clear hk); (try clear hi); (try clear ho0)))
  go_ret2
  exact ⟨_, by first | rfl | (simp [errW_none, errW_some] <;> rfl) | (simp [*, errW_none, errW_some] <;> rfl), by (with_reducible repeat (first | apply Kd.R_alloc | apply Kd.R_drewN | apply Kd.R_drew)); exact HO173.out, by repeat (first | (with_reducible first | exact HB.out | apply below_alloc | apply pw_below_drewN | apply below_drew1) | exact HB.out)⟩
 ·rw [if_neg c3] at H
  have c3b0 : (t170 == 0) = false := beq_eq_false_iff_ne.mpr c3
  have c3b1 : (t170 != 0) = true := bne_iff_ne.mpr c3
  simp only [Option.some.injEq, Prod.mk.injEq] at H
  obtain ⟨rfl, rfl⟩ := H
  go_enter Tryd.func22, Tryd.ntmps22
  go_wp2_with (first | ((with_reducible refine gate_callee (f := 41) rfl ?_); refine goesL_ (some 6) rfl rfl Tryd.func41 (by kernel_rfl) rfl #[.slice A0 l0.length c0] rfl (by (try simp only [List.map_toArray, List.map_cons, List.map_nil]); first | done | rfl | (simp only [List.length_drop, List.length_take]; rfl)) ?_; (with_reducible refine (expr_Check.calls k _ _ l0 t170 _ ?side1 ?side2 A2.out).mono ?_); (case side1 => repeat (first | exact HR0.out | (with_reducible refine Kd.C_alloc ?_ _) | (with_reducible refine Kd.C_drewN ?_ _) | (with_reducible refine Kd.C_drew ?_))); (case side2 => exact HC0.out); rintro e w7 ⟨rfl, hb⟩; refine ⟨_, rfl, ?_⟩; have n0_ := Aside0.mk (below_step (by repeat (first | (with_reducible first | exact HB.out | apply below_alloc | apply pw_below_drewN | apply below_drew1) | exact HB.out)) hb); clear HB; have HB := n0_; clear n0_; (try clear hb); (try clear hb2); (try clear hk); (try clear hi)))
  go_ret2
  exact ⟨_, by first | rfl | (simp [errW_none, errW_some] <;> rfl) | (simp [*, errW_none, errW_some] <;> rfl), by first | exact Kd.R_nil _ _ _ _ _ | exact Kd.N_nil _ _ _ _ _ | exact Kd.V_nil _ _ _ _ _ | exact Kd.Q_nil _ _ _ _ _ | exact Kd.S_nil _ _ _ _ _, by repeat (first | (with_reducible first | exact HB.out | apply below_alloc | apply pw_below_drewN | apply below_drew1) | exact HB.out)⟩

end Go.Proofs.YtjabjooephellaaDoor.XE
