-- PRINTED by print.py (a twelfth state) out of the translation. Not trusted: Lean checks it.
import Derived.Test.YtjabjooephellaaDoorXEx0
import Derived.Test.YtjabjooephellaaDoorXEx8
namespace Go.Proofs.YtjabjooephellaaDoor.XE
open Go.RowKit Go.Proofs.YtjabjooephellaaDoorW.PrintWords Go.Proofs.YtjabjooephellaaDoorW.PrintLast Go.Proofs.YtjabjooephellaaDoorW.PrintMore
attribute [local go_sem] max2_int min2_int max_two min_two max_three min_three max_four min_four   -- for this text's walks alone
set_option linter.unusedVariables false
set_option linter.unusedSimpArgs false

/-! ### token_Lex: function 13 -/
mutual
def token_Lex.l0 : Nat → ByteArray → List (S37) → Int → Option ((List (S37)) × Int × Int)
 | 0, _, _, _ => none
 | k + 1, x0, x4, x5 => if x5 < (x0.size : Int) then (if 0 ≤ x5 then (if x5 ≤ (x0.size : Int) then (if 0 < ((x0.extract (x5 : Int).toNat x0.size).size : Int) then (if (bt (x0.extract (x5 : Int).toNat x0.size) 0) = 59 then (some (x4, 0, 0)) else (if (bt (x0.extract (x5 : Int).toNat x0.size) 0) = 32 then (token_Lex.j1 k x0 x4 x5 (x0.extract (x5 : Int).toNat x0.size) ((bt (x0.extract (x5 : Int).toNat x0.size) 0) == 32)) else (token_Lex.j1 k x0 x4 x5 (x0.extract (x5 : Int).toNat x0.size) ((bt (x0.extract (x5 : Int).toNat x0.size) 0) == 9)))) else (none)) else (none)) else (none)) else (some (x4, 0, 0))
def token_Lex.j1 : Nat → ByteArray → List (S37) → Int → ByteArray → Bool → Option ((List (S37)) × Int × Int)
 | 0, _, _, _, _, _ => none
 | k + 1, x0, x4, x5, x6, x45 => if x45 = true then (token_Lex.l0 k x0 x4 (wrap64 (x5 + 1))) else ((token_next.f k x6 x5).bind fun bt155 => (if bt155.2.2.2.2.2.1 = 0 then (if x4.length < 3518437208883 then (token_Lex.l0 k x0 (x4 ++ [(⟨bt155.1, bt155.2.1, bt155.2.2.1, bt155.2.2.2.1⟩ : S37)]) (wrap64 (x5 + bt155.2.2.2.2.1))) else (none)) else (some (([] : List (S37)), bt155.2.2.2.2.2.1, bt155.2.2.2.2.2.2))))
end
def token_Lex.f (k : Nat) (a0 : ByteArray) : Option ((List (S37)) × Int × Int) := if (a0.size : Int) > 1000 then (some (([] : List (S37)), 3, 1000)) else (token_Lex.l0 k a0 ([] : List (S37)) 0)
theorem token_Lex.mono_l : ∀ k, (∀ y0 y1 y2, LeO (token_Lex.l0 k y0 y1 y2) (token_Lex.l0 (k + 1) y0 y1 y2)) ∧ (∀ y0 y1 y2 y3 y4, LeO (token_Lex.j1 k y0 y1 y2 y3 y4) (token_Lex.j1 (k + 1) y0 y1 y2 y3 y4))
 | 0 => ⟨fun _ _ _ r h => by simp [token_Lex.l0] at h, fun _ _ _ _ _ r h => by simp [token_Lex.j1] at h⟩
 | k + 1 => by
  obtain ⟨ih0, ih1⟩ := token_Lex.mono_l k
  refine ⟨?_, ?_⟩
  ·intro y0 y1 y2
   unfold token_Lex.l0
   repeat' first
   | (with_reducible exact ih0 _ _ _)
   | (with_reducible exact ih1 _ _ _ _ _)
   | (with_reducible exact token_next.mono _ _ _)
   | (with_reducible exact LeO.refl _)
   | (with_reducible exact LeO.none _)
   | (with_reducible refine LeO.ite ?_ ?_)
   | (with_reducible refine LeO.bind ?_ (fun _ => ?_))
   | exact ih0 _ _ _
   | exact ih1 _ _ _ _ _
   | exact token_next.mono _ _ _
   | exact LeO.none _
   | refine LeO.ite ?_ ?_
   | refine LeO.bind ?_ (fun _ => ?_)
  ·intro y0 y1 y2 y3 y4
   unfold token_Lex.j1
   repeat' first
   | (with_reducible exact ih0 _ _ _)
   | (with_reducible exact ih1 _ _ _ _ _)
   | (with_reducible exact token_next.mono _ _ _)
   | (with_reducible exact LeO.refl _)
   | (with_reducible exact LeO.none _)
   | (with_reducible refine LeO.ite ?_ ?_)
   | (with_reducible refine LeO.bind ?_ (fun _ => ?_))
   | exact ih0 _ _ _
   | exact ih1 _ _ _ _ _
   | exact token_next.mono _ _ _
   | exact LeO.none _
   | refine LeO.ite ?_ ?_
   | refine LeO.bind ?_ (fun _ => ?_)
theorem token_Lex.mono : ∀ a0 k, LeO (token_Lex.f k a0) (token_Lex.f (k + 1) a0) := by
 intro a0 k
 obtain ⟨ih0, ih1⟩ := token_Lex.mono_l k
 unfold token_Lex.f
 repeat' first
   | (with_reducible exact ih0 _ _ _)
   | (with_reducible exact ih1 _ _ _ _ _)
   | (with_reducible exact token_next.mono _ _ _)
   | (with_reducible exact LeO.refl _)
   | (with_reducible exact LeO.none _)
   | (with_reducible refine LeO.ite ?_ ?_)
   | (with_reducible refine LeO.bind ?_ (fun _ => ?_))
   | exact ih0 _ _ _
   | exact ih1 _ _ _ _ _
   | exact token_next.mono _ _ _
   | exact LeO.none _
   | refine LeO.ite ?_ ?_
   | refine LeO.bind ?_ (fun _ => ?_)
set_option maxHeartbeats 8000000 in
set_option maxRecDepth 100000 in
theorem token_Lex.calls (k : Nat) (a0 : ByteArray) (r1 : List (S37)) (r2 : Int) (r3 : Int) (w : World) (h : token_Lex.f k a0 = some (r1, r2, r3)) :
  Calls Tryd.prog 13 #[.string a0] w fun e w' => ∃ v0_ : Value, e = .returned (.tuple #[v0_, .agg #[.int .i64 r2, .int .i64 r3]]) ∧ Kd.R k37 37 w' w.heap.size (fun _ => True) v0_ r1 ∧ Below w.heap.size w w' := by
 have hu32 := Tryd.underlying32
 have hu37 := Tryd.underlying37
 have HB := Aside0.mk (Below.refl w.heap.size w)
 have H : (if (a0.size : Int) > 1000 then (some (([] : List (S37)), 3, 1000)) else (token_Lex.l0 k a0 ([] : List (S37)) 0)) = some (r1, r2, r3) := h
 clear h
 by_cases c2 : (a0.size : Int) > 1000
 ·rw [if_pos c2] at H
  have c2b0 : decide (1000 < (a0.size : Int)) = true := decide_eq_true c2
  have c2b1 : decide (1000 < a0.size) = true := decide_eq_true (by omega)
  clear c2
  simp only [Option.some.injEq, Prod.mk.injEq] at H
  obtain ⟨rfl, rfl, rfl⟩ := H
  go_enter Tryd.func13, Tryd.ntmps13
  go_wp2_with (first | ((with_reducible refine gate_dst (N := 3) rfl ?_); refine box_event ?hg (N := 3) ?hd (cs := #[.int .i64 0, .int .i64 0]) (t := 32) ?hr ?_; (case hd => rfl); (case hg => rfl); (case hr => first | (go_simp; done) | (go_simp; rfl)); intro gb154 hg w3 hbox hb; have n0_ := Aside0.mk (below_step (by repeat (first | (with_reducible first | exact HB.out | apply below_alloc | apply pw_below_drewN | apply below_drew1) | exact HB.out)) hb); have n1_ := Aside0.mk (hbox); have n2_ := Aside0.mk ((by rw [hg]; exact (below_size (by repeat (first | (with_reducible first | exact HB.out | apply below_alloc | apply pw_below_drewN | apply below_drew1) | exact HB.out))) : w.heap.size ≤ gb154)); have n3_ := Aside0.mk ((by rw [hg]; exact (below_size (by repeat (first | (with_reducible first | exact HB.out | apply below_alloc | apply pw_below_drewN | apply below_drew1) | exact HB.out))) : w.heap.size ≤ gb154)); clear HB; have HB := n0_; have BK154 := n1_; have GW154 := n2_; have GE154 := n3_; clear n0_ n1_ n2_ n3_; clear hb hbox hg; have hcz4_0 : w3.cell? ⟨gb154, 0, none⟩ = some (.int .i64 0) := (blk_cell BK154.out 0).trans rfl; have hcz4_1 : w3.cell? ⟨gb154, 1, none⟩ = some (.int .i64 0) := (blk_cell BK154.out 1).trans rfl; have hfz4_0 := blk_frozen BK154.out 0; have hfz4_1 := blk_frozen BK154.out 1))
  refine bodyPost_ret (results_tc rfl _ _ gb154 32 #[.int .i64 3, .int .i64 1000] (0, 0) _ rfl (by (with_reducible repeat (first | refine blk_drewN ?_ _ | refine blk_drew ?_ | refine blk_alloc ?_ _)); refine blk_put (cs := #[.int .i64 3, .int .i64 0]) ?_ 1 _ rfl; (with_reducible repeat (first | refine blk_drewN ?_ _ | refine blk_drew ?_ | refine blk_alloc ?_ _)); refine blk_put (cs := #[.int .i64 0, .int .i64 0]) ?_ 0 _ rfl; (with_reducible repeat (first | refine blk_drewN ?_ _ | refine blk_drew ?_ | refine blk_alloc ?_ _)); exact BK154.out) Tryd.underlying32 rfl (by kernel_rfl)) rfl ?_
  exact ⟨_, by first | rfl | (simp [errW_none, errW_some] <;> rfl) | (simp [*, errW_none, errW_some] <;> rfl), by first | exact Kd.R_nil _ _ _ _ _ | exact Kd.N_nil _ _ _ _ _ | exact Kd.V_nil _ _ _ _ _ | exact Kd.Q_nil _ _ _ _ _ | exact Kd.S_nil _ _ _ _ _, by repeat (first | (with_reducible first | exact HB.out | apply below_alloc | apply pw_below_drewN | apply below_drew1 | refine below_set ?_ GE154.out) | exact HB.out)⟩
 ·rw [if_neg c2] at H
  have c2b0 : decide (1000 < (a0.size : Int)) = false := decide_eq_false c2
  have c2b1 : decide (1000 < a0.size) = false := decide_eq_false (by omega)
  clear c2
  have H' := Aside0.mk H
  clear H
  go_enter Tryd.func13, Tryd.ntmps13
  go_wp2_with (first | ((with_reducible refine gate_dst (N := 3) rfl ?_); refine box_event ?hg (N := 3) ?hd (cs := #[.int .i64 0, .int .i64 0]) (t := 32) ?hr ?_; (case hd => rfl); (case hg => rfl); (case hr => first | (go_simp; done) | (go_simp; rfl)); intro gb154 hg w5 hbox hb; have n0_ := Aside0.mk (below_step (by repeat (first | (with_reducible first | exact HB.out | apply below_alloc | apply pw_below_drewN | apply below_drew1) | exact HB.out)) hb); have n1_ := Aside0.mk (hbox); have n2_ := Aside0.mk ((by rw [hg]; exact (below_size (by repeat (first | (with_reducible first | exact HB.out | apply below_alloc | apply pw_below_drewN | apply below_drew1) | exact HB.out))) : w.heap.size ≤ gb154)); have n3_ := Aside0.mk ((by rw [hg]; exact (below_size (by repeat (first | (with_reducible first | exact HB.out | apply below_alloc | apply pw_below_drewN | apply below_drew1) | exact HB.out))) : w.heap.size ≤ gb154)); clear HB; have HB := n0_; have BK154 := n1_; have GW154 := n2_; have GE154 := n3_; clear n0_ n1_ n2_ n3_; clear hb hbox hg))
  go_loopg [4, 5] k (fun kq v4 v5 w' => ∃ (x4_1 : List (S37)) (x5_1 : Int) (x155000_1 : Int) (x155001_1 : Int), v5 = .int .i64 x5_1 ∧ Aside0 (token_Lex.l0 kq a0 x4_1 x5_1 = some (r1, r2, r3)) ∧ Aside0 (kq ≤ k) ∧ Aside0 (Kd.R k37 37 w' w.heap.size (fun _ => True) v4 x4_1) ∧ Aside0 (w'.heap[gb154]? = some (.cells #[.int .i64 x155000_1, .int .i64 x155001_1] 32 (0, 0))) ∧ Aside0 (Below w.heap.size w w'))
  case atStart => exact ⟨(([] : List (S37))), (0), (0), (0), (by first | rfl | (simp; done) | (simp [*]; done)), H', ⟨Nat.le_refl _⟩, ⟨by first | exact Kd.R_nil _ _ _ _ _ | exact Kd.N_nil _ _ _ _ _ | exact Kd.V_nil _ _ _ _ _ | exact Kd.Q_nil _ _ _ _ _ | exact Kd.S_nil _ _ _ _ _⟩, ⟨by (with_reducible repeat (first | refine blk_drewN ?_ _ | refine blk_drew ?_ | refine blk_alloc ?_ _)); exact BK154.out⟩, ⟨by repeat (first | (with_reducible first | exact HB.out | apply below_alloc | apply pw_below_drewN | apply below_drew1 | refine below_set ?_ GE154.out) | exact HB.out)⟩⟩
  case round =>
   clear H'
   try clear c1
   try clear c2
   try clear c2b0
   try clear c2b1
   try clear p2
   try clear hcz4_0
   try clear hcz4_1
   try clear hfz4_0
   try clear hfz4_1
   obtain ⟨x4_1, x5_1, x155000_1, x155001_1, rfl, HA, HK1, HO_4, BK154, HB⟩ := hrel
   cases gk with
   | zero => exact absurd HA.out (by simp [token_Lex.l0])
   | succ k1 =>
    have H := HA.out
    clear HA
    simp only [token_Lex.l0] at H
    by_cases c6 : x5_1 < (a0.size : Int)
    ·rw [if_pos c6] at H
     have c6b0 : decide (x5_1 < (a0.size : Int)) = true := decide_eq_true c6
     clear c6
     by_cases c7 : 0 ≤ x5_1
     ·rw [if_pos c7] at H
      have c7b0 := eq_true c7
      have c7b1 : decide (0 ≤ x5_1) = true := decide_eq_true c7
      clear c7
      by_cases c8 : x5_1 ≤ (a0.size : Int)
      ·rw [if_pos c8] at H
       have c8b0 := eq_true c8
       have c8b1 : decide (x5_1 ≤ (a0.size : Int)) = true := decide_eq_true c8
       clear c8
       by_cases c9 : 0 < ((a0.extract (x5_1 : Int).toNat a0.size).size : Int)
       ·rw [if_pos c9] at H
        have c9b0 : decide (0 < ((a0.extract (x5_1 : Int).toNat a0.size).size : Int)) = true := decide_eq_true c9
        have c9b1 : decide (0 < (a0.extract (x5_1 : Int).toNat a0.size).size) = true := decide_eq_true (by omega)
        clear c9
        by_cases c11 : (bt (a0.extract (x5_1 : Int).toNat a0.size) 0) = 59
        ·rw [if_pos c11] at H
         have c11b0 : ((bt (a0.extract (x5_1 : Int).toNat a0.size) 0) == 59) = true := beq_iff_eq.mpr c11
         have c11b1 : ((bt (a0.extract (x5_1 : Int).toNat a0.size) 0) != 59) = false := bne_eq_false_iff_eq.mpr c11
         clear c11
         simp only [Option.some.injEq, Prod.mk.injEq] at H
         obtain ⟨rfl, rfl, rfl⟩ := H
         have p10 : 0 ≤ (0 : Int) := (by omega)
         have q10 : 0 < (a0.extract (x5_1 : Int).toNat a0.size).size := (by have : (0 : Int) < ((a0.extract (x5_1 : Int).toNat a0.size).size : Int) := of_decide_eq_true (by first | (with_reducible assumption) | assumption); omega)
         have qz10 : 0 < a0.size - (x5_1 : Int).toNat := (by have z := q10; rw [ByteArray.size_extract] at z; omega)
         have hx10 : ∀ h : 0 < (a0.extract (x5_1 : Int).toNat a0.size).size, (((a0.extract (x5_1 : Int).toNat a0.size)[0]'h).toNat : Int) = bt (a0.extract (x5_1 : Int).toNat a0.size) 0 := bt_at (a0.extract (x5_1 : Int).toNat a0.size) 0
         clear p10
         have qi10 : (0 < ((a0.extract (x5_1 : Int).toNat a0.size).size : Int)) = True := eq_true (of_decide_eq_true (by first | (with_reducible assumption) | assumption))
         replace q10 := eq_true q10
         have hcz12_0 : wr.cell? ⟨gb154, 0, none⟩ = some (.int .i64 x155000_1) := (blk_cell BK154.out 0).trans rfl
         have hcz12_1 : wr.cell? ⟨gb154, 1, none⟩ = some (.int .i64 x155001_1) := (blk_cell BK154.out 1).trans rfl
         have hfz12_0 := blk_frozen BK154.out 0
         have hfz12_1 := blk_frozen BK154.out 1
         go_wp2
         refine bodyPost_ret (results_tc rfl _ _ gb154 32 #[.int .i64 0, .int .i64 0] (0, 0) _ rfl (by (with_reducible repeat (first | refine blk_drewN ?_ _ | refine blk_drew ?_ | refine blk_alloc ?_ _)); refine blk_put (cs := #[.int .i64 0, .int .i64 x155001_1]) ?_ 1 _ rfl; (with_reducible repeat (first | refine blk_drewN ?_ _ | refine blk_drew ?_ | refine blk_alloc ?_ _)); refine blk_put (cs := #[.int .i64 x155000_1, .int .i64 x155001_1]) ?_ 0 _ rfl; (with_reducible repeat (first | refine blk_drewN ?_ _ | refine blk_drew ?_ | refine blk_alloc ?_ _)); exact BK154.out) Tryd.underlying32 rfl (by kernel_rfl)) rfl ?_
         exact ⟨_, by first | rfl | (simp [errW_none, errW_some] <;> rfl) | (simp [*, errW_none, errW_some] <;> rfl), by (with_reducible repeat (first | apply Kd.R_alloc | apply Kd.R_drewN | apply Kd.R_drew)); exact Kd.R_mono (Kd.R_far (p := ⟨gb154, 1, none⟩) (Kd.R_far (p := ⟨gb154, 0, none⟩) (Kd.R_types HO_4.out BK154.out (by decide)) (fun _ hk => hk.2) (.int .i64 0)) (fun _ hk => hk.2) (.int .i64 0)) (fun _ hk => trivial), by repeat (first | (with_reducible first | exact HB.out | apply below_alloc | apply pw_below_drewN | apply below_drew1 | refine below_set ?_ GE154.out) | exact HB.out)⟩
        ·rw [if_neg c11] at H
         have c11b0 : ((bt (a0.extract (x5_1 : Int).toNat a0.size) 0) == 59) = false := beq_eq_false_iff_ne.mpr c11
         have c11b1 : ((bt (a0.extract (x5_1 : Int).toNat a0.size) 0) != 59) = true := bne_iff_ne.mpr c11
         have HC14 := Aside0.mk H
         clear H
         have p10 : 0 ≤ (0 : Int) := (by omega)
         have q10 : 0 < (a0.extract (x5_1 : Int).toNat a0.size).size := (by have : (0 : Int) < ((a0.extract (x5_1 : Int).toNat a0.size).size : Int) := of_decide_eq_true (by first | (with_reducible assumption) | assumption); omega)
         have qz10 : 0 < a0.size - (x5_1 : Int).toNat := (by have z := q10; rw [ByteArray.size_extract] at z; omega)
         have hx10 : ∀ h : 0 < (a0.extract (x5_1 : Int).toNat a0.size).size, (((a0.extract (x5_1 : Int).toNat a0.size)[0]'h).toNat : Int) = bt (a0.extract (x5_1 : Int).toNat a0.size) 0 := bt_at (a0.extract (x5_1 : Int).toNat a0.size) 0
         clear p10
         have qi10 : (0 < ((a0.extract (x5_1 : Int).toNat a0.size).size : Int)) = True := eq_true (of_decide_eq_true (by first | (with_reducible assumption) | assumption))
         replace q10 := eq_true q10
         have p13 : 0 ≤ (0 : Int) := (by omega)
         have q13 : 0 < (a0.extract (x5_1 : Int).toNat a0.size).size := (by have : (0 : Int) < ((a0.extract (x5_1 : Int).toNat a0.size).size : Int) := of_decide_eq_true (by first | (with_reducible assumption) | assumption); omega)
         have qz13 : 0 < a0.size - (x5_1 : Int).toNat := (by have z := q13; rw [ByteArray.size_extract] at z; omega)
         have hx13 : ∀ h : 0 < (a0.extract (x5_1 : Int).toNat a0.size).size, (((a0.extract (x5_1 : Int).toNat a0.size)[0]'h).toNat : Int) = bt (a0.extract (x5_1 : Int).toNat a0.size) 0 := bt_at (a0.extract (x5_1 : Int).toNat a0.size) 0
         clear p13
         have qi13 : (0 < ((a0.extract (x5_1 : Int).toNat a0.size).size : Int)) = True := eq_true (of_decide_eq_true (by first | (with_reducible assumption) | assumption))
         replace q13 := eq_true q13
         go_upto_if 45 with (fail)
         go_cut [45] (fun v45 wc => ∃ (kq : Nat) (x45_13 : Bool), v45 = .bool x45_13 ∧ Aside0 (token_Lex.j1 kq a0 x4_1 x5_1 (a0.extract (x5_1 : Int).toNat a0.size) x45_13 = some (r1, r2, r3)) ∧ Aside0 (kq ≤ k1) ∧ Aside0 (Kd.R k37 37 wc w.heap.size (fun _ => True) u4 x4_1) ∧ Aside0 (wc.heap[gb154]? = some (.cells #[.int .i64 x155000_1, .int .i64 x155001_1] 32 (0, 0))) ∧ Aside0 (Below w.heap.size w wc))
         case first =>
          have H := HC14.out
          clear HC14
          by_cases c15 : (bt (a0.extract (x5_1 : Int).toNat a0.size) 0) = 32
          ·rw [if_pos c15] at H
           have c15b0 : ((bt (a0.extract (x5_1 : Int).toNat a0.size) 0) == 32) = true := beq_iff_eq.mpr c15
           have c15b1 : ((bt (a0.extract (x5_1 : Int).toNat a0.size) 0) != 32) = false := bne_eq_false_iff_eq.mpr c15
           clear c15
           (first | rw [c15b0] | (simp only [i64_w, i32_w]; rw [c15b0]) | skip)
           have H' := Aside0.mk H
           clear H
           go_wp2
           go_meet
           case rel => exact ⟨_, (((bt (a0.extract (x5_1 : Int).toNat a0.size) 0) == 32)), (by first | rfl | (simp; done) | (simp [*]; done)), H', ⟨by have := HK1.out; first | omega | exact Nat.le_refl _⟩, ⟨by (with_reducible repeat (first | apply Kd.R_alloc | apply Kd.R_drewN | apply Kd.R_drew)); exact HO_4.out⟩, ⟨by (with_reducible repeat (first | refine blk_drewN ?_ _ | refine blk_drew ?_ | refine blk_alloc ?_ _)); exact BK154.out⟩, ⟨by repeat (first | (with_reducible first | exact HB.out | apply below_alloc | apply pw_below_drewN | apply below_drew1 | refine below_set ?_ GE154.out) | exact HB.out)⟩⟩
          ·rw [if_neg c15] at H
           have c15b0 : ((bt (a0.extract (x5_1 : Int).toNat a0.size) 0) == 32) = false := beq_eq_false_iff_ne.mpr c15
           have c15b1 : ((bt (a0.extract (x5_1 : Int).toNat a0.size) 0) != 32) = true := bne_iff_ne.mpr c15
           (first | rw [c15b0] | (simp only [i64_w, i32_w]; rw [c15b0]) | skip)
           have H' := Aside0.mk H
           clear H
           have p16 : 0 ≤ (0 : Int) := (by omega)
           have q16 : 0 < (a0.extract (x5_1 : Int).toNat a0.size).size := (by have : (0 : Int) < ((a0.extract (x5_1 : Int).toNat a0.size).size : Int) := of_decide_eq_true (by first | (with_reducible assumption) | assumption); omega)
           have qz16 : 0 < a0.size - (x5_1 : Int).toNat := (by have z := q16; rw [ByteArray.size_extract] at z; omega)
           have hx16 : ∀ h : 0 < (a0.extract (x5_1 : Int).toNat a0.size).size, (((a0.extract (x5_1 : Int).toNat a0.size)[0]'h).toNat : Int) = bt (a0.extract (x5_1 : Int).toNat a0.size) 0 := bt_at (a0.extract (x5_1 : Int).toNat a0.size) 0
           clear p16
           have qi16 : (0 < ((a0.extract (x5_1 : Int).toNat a0.size).size : Int)) = True := eq_true (of_decide_eq_true (by first | (with_reducible assumption) | assumption))
           replace q16 := eq_true q16
           go_wp2
           go_meet
           case rel => exact ⟨_, (((bt (a0.extract (x5_1 : Int).toNat a0.size) 0) == 9)), (by first | rfl | (simp; done) | (simp [*]; done)), H', ⟨by have := HK1.out; first | omega | exact Nat.le_refl _⟩, ⟨by (with_reducible repeat (first | apply Kd.R_alloc | apply Kd.R_drewN | apply Kd.R_drew)); exact HO_4.out⟩, ⟨by (with_reducible repeat (first | refine blk_drewN ?_ _ | refine blk_drew ?_ | refine blk_alloc ?_ _)); exact BK154.out⟩, ⟨by repeat (first | (with_reducible first | exact HB.out | apply below_alloc | apply pw_below_drewN | apply below_drew1 | refine below_set ?_ GE154.out) | exact HB.out)⟩⟩
         case rest =>
          clear HC14
          try clear c1
          try clear p1
          try clear q1
          try clear hx1
          try clear qi1
          try clear c2
          try clear c2b0
          try clear c2b1
          try clear p2
          try clear c6
          try clear c6b0
          try clear c7
          try clear c7b0
          try clear c7b1
          try clear c8
          try clear c8b0
          try clear c8b1
          try clear c9
          try clear c9b0
          try clear c9b1
          try clear p10
          try clear q10
          try clear hx10
          try clear qi10
          try clear c11
          try clear c11b0
          try clear c11b1
          try clear c13
          try clear p13
          try clear q13
          try clear hx13
          try clear qi13
          try clear c15
          try clear c15b0
          try clear c15b1
          try clear p16
          try clear q16
          try clear hx16
          try clear qi16
          try clear hcz12_0
          try clear hcz12_1
          try clear hcz4_0
          try clear hcz4_1
          try clear hfz12_0
          try clear hfz12_1
          try clear hfz4_0
          try clear hfz4_1
          try clear p10
          try clear p13
          try clear p16
          try clear p2
          try clear q10
          try clear q13
          try clear q16
          obtain ⟨kq, x45_13, rfl, HA, HJ13, HO_4, BK154, HB⟩ := hcut
          cases kq with
          | zero => exact absurd HA.out (by simp [token_Lex.j1])
          | succ kj13 =>
           have H := HA.out
           clear HA
           simp only [token_Lex.j1] at H
           by_cases c17 : x45_13 = true
           ·subst c17
            have H1 : (token_Lex.l0 kj13 a0 x4_1 (wrap64 (x5_1 + 1))) = some (r1, r2, r3) := by rw [if_pos rfl] at H; exact H
            clear H
            have H := H1
            clear H1
            have H' := Aside0.mk H
            clear H
            go_wp2
            go_roundg kj13
            case measure => have := HK1.out; have := HJ13.out; omega
            case rel => exact ⟨(x4_1), (wrap64 (x5_1 + 1)), (x155000_1), (x155001_1), (by first | rfl | (simp; done) | (simp [*]; done)), H', ⟨by have := HK1.out; have := HJ13.out; omega⟩, ⟨by (with_reducible repeat (first | apply Kd.R_alloc | apply Kd.R_drewN | apply Kd.R_drew)); exact HO_4.out⟩, ⟨by (with_reducible repeat (first | refine blk_drewN ?_ _ | refine blk_drew ?_ | refine blk_alloc ?_ _)); exact BK154.out⟩, ⟨by repeat (first | (with_reducible first | exact HB.out | apply below_alloc | apply pw_below_drewN | apply below_drew1 | refine below_set ?_ GE154.out) | exact HB.out)⟩⟩
           ·replace c17 := Bool.eq_false_iff.mpr c17
            subst c17
            have H1 : ((token_next.f kj13 (a0.extract (x5_1 : Int).toNat a0.size) x5_1).bind fun bt155 => (if bt155.2.2.2.2.2.1 = 0 then (if x4_1.length < 3518437208883 then (token_Lex.l0 kj13 a0 (x4_1 ++ [(⟨bt155.1, bt155.2.1, bt155.2.2.1, bt155.2.2.2.1⟩ : S37)]) (wrap64 (x5_1 + bt155.2.2.2.2.1))) else (none)) else (some (([] : List (S37)), bt155.2.2.2.2.2.1, bt155.2.2.2.2.2.2)))) = some (r1, r2, r3) := by rw [if_neg (show ¬ (false = true) by decide)] at H; exact H
            clear H
            have H := H1
            clear H1
            replace H := Option.bind_eq_some_iff.mp H
            obtain ⟨⟨t155, t156, t157, t158, t159, t160, t161⟩, A180, H⟩ := H
            replace H : (if t160 = 0 then (if x4_1.length < 3518437208883 then (token_Lex.l0 kj13 a0 (x4_1 ++ [(⟨t155, t156, t157, t158⟩ : S37)]) (wrap64 (x5_1 + t159))) else (none)) else (some (([] : List (S37)), t160, t161))) = some (r1, r2, r3) := H
            have A18 := Aside0.mk A180
            clear A180
            by_cases c19 : t160 = 0
            ·rw [if_pos c19] at H
             have c19b0 : (t160 == 0) = true := beq_iff_eq.mpr c19
             have c19b1 : (t160 != 0) = false := bne_eq_false_iff_eq.mpr c19
             clear c19
             by_cases c20 : x4_1.length < 3518437208883
             ·rw [if_pos c20] at H
              have LMc20 := Aside0.mk c20
              clear c20
              obtain ⟨y164, hy164⟩ : ∃ y_ : List (S37), y_ = (x4_1 ++ [(⟨t155, t156, t157, t158⟩ : S37)]) := ⟨_, rfl⟩
              replace H : (token_Lex.l0 kj13 a0 y164 (wrap64 (x5_1 + t159))) = some (r1, r2, r3) := by first | (rw [hy164]; with_reducible exact H) | (have H2_ := (Option.bind_some _ _).symm.trans H; rw [hy164]; with_reducible exact H2_) | (have H2_ := (Option.bind_some _ _).symm.trans H; with_reducible exact H2_) | with_reducible exact H | (rw [hy164]; exact H) | exact H
              have Ny164 := Aside0.mk hy164
              clear hy164
              have H' := Aside0.mk H
              clear H
              go_wp2_with (first | ((with_reducible refine gate_callee (f := 35) rfl ?_); refine goesL_ (some 24) rfl rfl Tryd.func35 (by kernel_rfl) rfl #[.string (a0.extract (x5_1 : Int).toNat a0.size), .int .i64 x5_1] rfl (by (try simp only [List.map_toArray, List.map_cons, List.map_nil]); first | done | rfl | (simp only [List.length_drop, List.length_take]; rfl)) ?_; (with_reducible refine (token_next.calls kj13 (a0.extract (x5_1 : Int).toNat a0.size) x5_1 t155 t156 t157 t158 t159 t160 t161 _ A18.out).mono ?_); rintro e w21 ⟨rfl, hb⟩; refine ⟨_, rfl, ?_⟩; have n0_ := Aside0.mk (Kd.R_below (by (with_reducible repeat (first | apply Kd.R_alloc | apply Kd.R_drewN | apply Kd.R_drew)); exact HO_4.out) hb); have n1_ := Aside0.mk (blk_below (g := gb154) (o := .cells #[.int .i64 x155000_1, .int .i64 x155001_1] 32 (0, 0)) (by (with_reducible repeat (first | refine blk_drewN ?_ _ | refine blk_drew ?_ | refine blk_alloc ?_ _)); exact BK154.out) hb); have n2_ := Aside0.mk (below_step (by repeat (first | (with_reducible first | exact HB.out | apply below_alloc | apply pw_below_drewN | apply below_drew1 | refine below_set ?_ GE154.out) | exact HB.out)) hb); clear HO_4; clear BK154; clear HB; have HO_4 := n0_; have BK154 := n1_; have HB := n2_; clear n0_ n1_ n2_; (try clear hb); (try clear hb2); (try clear hk); (try clear hi)) | ((with_reducible refine gate_dst (N := 7) rfl ?_); refine box_event ?hg (N := 7) ?hd (cs := #[.int .i64 0, .int .i64 0, .string (⟨#[]⟩ : ByteArray), .int .i64 0]) (t := 37) ?hr ?_; (case hd => rfl); (case hg => rfl); (case hr => first | (go_simp; done) | (go_simp; rfl)); intro gb162 hg w22 hbox hb; have n0_ := Aside0.mk (Kd.R_below (Kd.R_elderB (by (with_reducible repeat (first | apply Kd.R_alloc | apply Kd.R_drewN | apply Kd.R_drew)); exact HO_4.out) gb162 (Nat.le_of_eq hg.symm)) hb); have n1_ := Aside0.mk (blk_below (g := gb154) (o := .cells #[.int .i64 x155000_1, .int .i64 x155001_1] 32 (0, 0)) (by (with_reducible repeat (first | refine blk_drewN ?_ _ | refine blk_drew ?_ | refine blk_alloc ?_ _)); exact BK154.out) hb); have n2_ := Aside0.mk (below_step (by repeat (first | (with_reducible first | exact HB.out | apply below_alloc | apply pw_below_drewN | apply below_drew1 | refine below_set ?_ GE154.out) | exact HB.out)) hb); have n3_ := Aside0.mk (hbox); have n4_ := Aside0.mk ((by rw [hg]; exact (below_size (by repeat (first | (with_reducible first | exact HB.out | apply below_alloc | apply pw_below_drewN | apply below_drew1 | refine below_set ?_ GE154.out) | exact HB.out))) : w.heap.size ≤ gb162)); have n5_ := Aside0.mk ((by rw [hg]; exact (below_size (by repeat (first | (with_reducible first | exact HB.out | apply below_alloc | apply pw_below_drewN | apply below_drew1 | refine below_set ?_ GE154.out) | exact HB.out))) : w.heap.size ≤ gb162)); have n6_ := Aside0.mk ((by rw [hg]; exact Nat.ne_of_lt (blk_lt (g := gb154) (o := .cells #[.int .i64 x155000_1, .int .i64 x155001_1] 32 (0, 0)) (by (with_reducible repeat (first | refine blk_drewN ?_ _ | refine blk_drew ?_ | refine blk_alloc ?_ _)); exact BK154.out)) : gb154 ≠ gb162)); have n7_ := Aside0.mk ((by rw [hg]; exact Nat.ne_of_gt (blk_lt (g := gb154) (o := .cells #[.int .i64 x155000_1, .int .i64 x155001_1] 32 (0, 0)) (by (with_reducible repeat (first | refine blk_drewN ?_ _ | refine blk_drew ?_ | refine blk_alloc ?_ _)); exact BK154.out)) : gb162 ≠ gb154)); clear HO_4; clear BK154; clear HB; have HO_4 := n0_; have BK154 := n1_; have HB := n2_; have BK162 := n3_; have GW162 := n4_; have GE162 := n5_; have NB154_162 := n6_; have NB162_154 := n7_; clear n0_ n1_ n2_ n3_ n4_ n5_ n6_ n7_; clear hb hbox hg) | ((with_reducible refine gate_dst (N := 9) rfl ?_); refine box_event ?hg (N := 9) ?hd (cs := #[.int .i64 0, .int .i64 0]) (t := 32) ?hr ?_; (case hd => rfl); (case hg => rfl); (case hr => first | (go_simp; done) | (go_simp; rfl)); intro gb163 hg w23 hbox hb; have n0_ := Aside0.mk (Kd.R_below (by (with_reducible repeat (first | apply Kd.R_alloc | apply Kd.R_drewN | apply Kd.R_drew)); exact HO_4.out) hb); have n1_ := Aside0.mk (blk_below (g := gb154) (o := .cells #[.int .i64 x155000_1, .int .i64 x155001_1] 32 (0, 0)) (by (with_reducible repeat (first | refine blk_drewN ?_ _ | refine blk_drew ?_ | refine blk_alloc ?_ _)); exact BK154.out) hb); have n2_ := Aside0.mk (blk_below (g := gb162) (o := .cells #[.int .i64 0, .int .i64 0, .string (⟨#[]⟩ : ByteArray), .int .i64 0] 37 (0, 0)) (by (with_reducible repeat (first | refine blk_drewN ?_ _ | refine blk_drew ?_ | refine blk_alloc ?_ _)); exact BK162.out) hb); have n3_ := Aside0.mk (below_step (by repeat (first | (with_reducible first | exact HB.out | apply below_alloc | apply pw_below_drewN | apply below_drew1 | refine below_set ?_ GE154.out | refine below_set ?_ GE162.out) | exact HB.out)) hb); have n4_ := Aside0.mk (hbox); have n5_ := Aside0.mk ((by rw [hg]; exact (below_size (by repeat (first | (with_reducible first | exact HB.out | apply below_alloc | apply pw_below_drewN | apply below_drew1 | refine below_set ?_ GE154.out | refine below_set ?_ GE162.out) | exact HB.out))) : w.heap.size ≤ gb163)); have n6_ := Aside0.mk ((by rw [hg]; exact (below_size (by repeat (first | (with_reducible first | exact HB.out | apply below_alloc | apply pw_below_drewN | apply below_drew1 | refine below_set ?_ GE154.out | refine below_set ?_ GE162.out) | exact HB.out))) : w.heap.size ≤ gb163)); have n7_ := Aside0.mk ((by rw [hg]; exact Nat.ne_of_lt (blk_lt (g := gb154) (o := .cells #[.int .i64 x155000_1, .int .i64 x155001_1] 32 (0, 0)) (by (with_reducible repeat (first | refine blk_drewN ?_ _ | refine blk_drew ?_ | refine blk_alloc ?_ _)); exact BK154.out)) : gb154 ≠ gb163)); have n8_ := Aside0.mk ((by rw [hg]; exact Nat.ne_of_gt (blk_lt (g := gb154) (o := .cells #[.int .i64 x155000_1, .int .i64 x155001_1] 32 (0, 0)) (by (with_reducible repeat (first | refine blk_drewN ?_ _ | refine blk_drew ?_ | refine blk_alloc ?_ _)); exact BK154.out)) : gb163 ≠ gb154)); have n9_ := Aside0.mk ((by rw [hg]; exact Nat.ne_of_lt (blk_lt (g := gb162) (o := .cells #[.int .i64 0, .int .i64 0, .string (⟨#[]⟩ : ByteArray), .int .i64 0] 37 (0, 0)) (by (with_reducible repeat (first | refine blk_drewN ?_ _ | refine blk_drew ?_ | refine blk_alloc ?_ _)); exact BK162.out)) : gb162 ≠ gb163)); have n10_ := Aside0.mk ((by rw [hg]; exact Nat.ne_of_gt (blk_lt (g := gb162) (o := .cells #[.int .i64 0, .int .i64 0, .string (⟨#[]⟩ : ByteArray), .int .i64 0] 37 (0, 0)) (by (with_reducible repeat (first | refine blk_drewN ?_ _ | refine blk_drew ?_ | refine blk_alloc ?_ _)); exact BK162.out)) : gb163 ≠ gb162)); clear HO_4; clear BK154; clear BK162; clear HB; have HO_4 := n0_; have BK154 := n1_; have BK162 := n2_; have HB := n3_; have BK163 := n4_; have GW163 := n5_; have GE163 := n6_; have NB154_163 := n7_; have NB163_154 := n8_; have NB162_163 := n9_; have NB163_162 := n10_; clear n0_ n1_ n2_ n3_ n4_ n5_ n6_ n7_ n8_ n9_ n10_; clear hb hbox hg; have hnb24 := NB162_154.out; have hnc24 := NB154_162.out; have hnb25 := NB162_163.out; have hnc25 := NB163_162.out; have hcz26_0 : w23.cell? ⟨gb162, 0, none⟩ = some (.int .i64 0) := (blk_cell BK162.out 0).trans rfl; have hcz26_1 : w23.cell? ⟨gb162, 1, none⟩ = some (.int .i64 0) := (blk_cell BK162.out 1).trans rfl; have hcz26_2 : w23.cell? ⟨gb162, 2, none⟩ = some (.string (⟨#[]⟩ : ByteArray)) := (blk_cell BK162.out 2).trans rfl; have hcz26_3 : w23.cell? ⟨gb162, 3, none⟩ = some (.int .i64 0) := (blk_cell BK162.out 3).trans rfl; have hfz26_0 := blk_frozen BK162.out 0; have hfz26_1 := blk_frozen BK162.out 1; have hfz26_2 := blk_frozen BK162.out 2; have hfz26_3 := blk_frozen BK162.out 3; have hnb27 := NB163_154.out; have hnc27 := NB154_163.out; have hcz28_0 : w23.cell? ⟨gb163, 0, none⟩ = some (.int .i64 0) := (blk_cell BK163.out 0).trans rfl; have hcz28_1 : w23.cell? ⟨gb163, 1, none⟩ = some (.int .i64 0) := (blk_cell BK163.out 1).trans rfl; have hfz28_0 := blk_frozen BK163.out 0; have hfz28_1 := blk_frozen BK163.out 1) | ((with_reducible refine gate_builtin (b := .append) (xs := #[.tmp 32, .tmp 34]) rfl ?_); at_builtin; refine Kd.R_append k37 (w0 := w) w.heap.size rfl (.tmp 32) (.tmp 34) 22 37 (.agg #[(.int .i64 0), (.int .i64 0), (.string ⟨#[]⟩), (.int .i64 0)]) 40 rfl Tryd.underlying22 info37 rfl (by decide) (by omega) u4 x4_1 (⟨t155, t156, t157, t158⟩ : S37) [.int .i64 t155, .int .i64 t156, .string t157, .int .i64 t158] (fun k_ => k_ ≠ gb162) (fun _ => False) rfl (by first | (go_simp; done) | (go_simp; rfl)) ?aP (fun _ hk => hk.elim) ?aF ?aO ?aB ?aS ?aL ?_; (case aP => exact k37_mkM _ _ _ (⟨t155, t156, t157, t158⟩ : S37)); (case aB => exact (by repeat (first | (with_reducible first | exact HB.out | apply below_alloc | apply pw_below_drewN | apply below_drew1 | refine below_set ?_ GE154.out | refine below_set ?_ GE162.out | refine below_set ?_ GE163.out) | exact HB.out))); (case aF => exact (fun k_ hk => Kd.freshB (g := gb162) (o := .cells #[.int .i64 t155, .int .i64 t156, .string t157, .int .i64 t158] 37 (0, 0)) (by (with_reducible repeat (first | refine blk_drewN ?_ _ | refine blk_drew ?_ | refine blk_alloc ?_ _)); refine blk_far ?_ NB162_163.out _; (with_reducible repeat (first | refine blk_drewN ?_ _ | refine blk_drew ?_ | refine blk_alloc ?_ _)); refine blk_far ?_ NB162_163.out _; (with_reducible repeat (first | refine blk_drewN ?_ _ | refine blk_drew ?_ | refine blk_alloc ?_ _)); refine blk_put (cs := #[.int .i64 t155, .int .i64 t156, .string t157, .int .i64 0]) ?_ 3 _ rfl; (with_reducible repeat (first | refine blk_drewN ?_ _ | refine blk_drew ?_ | refine blk_alloc ?_ _)); refine blk_put (cs := #[.int .i64 t155, .int .i64 t156, .string (⟨#[]⟩ : ByteArray), .int .i64 0]) ?_ 2 _ rfl; (with_reducible repeat (first | refine blk_drewN ?_ _ | refine blk_drew ?_ | refine blk_alloc ?_ _)); refine blk_put (cs := #[.int .i64 t155, .int .i64 0, .string (⟨#[]⟩ : ByteArray), .int .i64 0]) ?_ 1 _ rfl; (with_reducible repeat (first | refine blk_drewN ?_ _ | refine blk_drew ?_ | refine blk_alloc ?_ _)); refine blk_put (cs := #[.int .i64 0, .int .i64 0, .string (⟨#[]⟩ : ByteArray), .int .i64 0]) ?_ 0 _ rfl; (with_reducible repeat (first | refine blk_drewN ?_ _ | refine blk_drew ?_ | refine blk_alloc ?_ _)); exact BK162.out) k_ hk)); (case aO => exact (by (with_reducible repeat (first | apply Kd.R_alloc | apply Kd.R_drewN | apply Kd.R_drew)); exact Kd.R_mono (Kd.R_far (p := ⟨gb163, 1, none⟩) (Kd.R_far (p := ⟨gb163, 0, none⟩) (Kd.R_far (p := ⟨gb162, 3, none⟩) (Kd.R_far (p := ⟨gb162, 2, none⟩) (Kd.R_far (p := ⟨gb162, 1, none⟩) (Kd.R_far (p := ⟨gb162, 0, none⟩) (Kd.R_types (Kd.R_mono HO_4.out (fun k_ hk => (⟨hk, hk.2⟩ : _ ∧ k_ ≠ gb162))) BK163.out (by decide)) (fun _ hk => hk.1.2) (.int .i64 t155)) (fun _ hk => hk.1.2) (.int .i64 t156)) (fun _ hk => hk.1.2) (.string t157)) (fun _ hk => hk.1.2) (.int .i64 t158)) (fun _ hk => hk.2) (.int .i64 t160)) (fun _ hk => hk.2) (.int .i64 t161)) (fun _ hk => hk.1.1.2))); (case aS => exact (below_size (by repeat (first | (with_reducible first | exact HB.out | apply below_alloc | apply pw_below_drewN | apply below_drew1 | refine below_set ?_ GE154.out | refine below_set ?_ GE162.out | refine below_set ?_ GE163.out) | exact HB.out)))); (case aL => have := LMc20.out; omega); intro v165 w29 ho hb hg hat; rw [← Ny164.out] at ho; have n0_ := Aside0.mk (blk_grown (g := gb154) (o := .cells #[.int .i64 x155000_1, .int .i64 x155001_1] 32 (0, 0)) (by (with_reducible repeat (first | refine blk_drewN ?_ _ | refine blk_drew ?_ | refine blk_alloc ?_ _)); refine blk_far ?_ NB154_163.out _; (with_reducible repeat (first | refine blk_drewN ?_ _ | refine blk_drew ?_ | refine blk_alloc ?_ _)); refine blk_far ?_ NB154_163.out _; (with_reducible repeat (first | refine blk_drewN ?_ _ | refine blk_drew ?_ | refine blk_alloc ?_ _)); refine blk_far ?_ NB154_162.out _; (with_reducible repeat (first | refine blk_drewN ?_ _ | refine blk_drew ?_ | refine blk_alloc ?_ _)); refine blk_far ?_ NB154_162.out _; (with_reducible repeat (first | refine blk_drewN ?_ _ | refine blk_drew ?_ | refine blk_alloc ?_ _)); refine blk_far ?_ NB154_162.out _; (with_reducible repeat (first | refine blk_drewN ?_ _ | refine blk_drew ?_ | refine blk_alloc ?_ _)); refine blk_far ?_ NB154_162.out _; (with_reducible repeat (first | refine blk_drewN ?_ _ | refine blk_drew ?_ | refine blk_alloc ?_ _)); exact BK154.out) hg (Kd.R_ne HO_4.out BK154.out (by decide))); have n1_ := Aside0.mk (blk_grown (g := gb162) (o := .cells #[.int .i64 t155, .int .i64 t156, .string t157, .int .i64 t158] 37 (0, 0)) (by (with_reducible repeat (first | refine blk_drewN ?_ _ | refine blk_drew ?_ | refine blk_alloc ?_ _)); refine blk_far ?_ NB162_163.out _; (with_reducible repeat (first | refine blk_drewN ?_ _ | refine blk_drew ?_ | refine blk_alloc ?_ _)); refine blk_far ?_ NB162_163.out _; (with_reducible repeat (first | refine blk_drewN ?_ _ | refine blk_drew ?_ | refine blk_alloc ?_ _)); refine blk_put (cs := #[.int .i64 t155, .int .i64 t156, .string t157, .int .i64 0]) ?_ 3 _ rfl; (with_reducible repeat (first | refine blk_drewN ?_ _ | refine blk_drew ?_ | refine blk_alloc ?_ _)); refine blk_put (cs := #[.int .i64 t155, .int .i64 t156, .string (⟨#[]⟩ : ByteArray), .int .i64 0]) ?_ 2 _ rfl; (with_reducible repeat (first | refine blk_drewN ?_ _ | refine blk_drew ?_ | refine blk_alloc ?_ _)); refine blk_put (cs := #[.int .i64 t155, .int .i64 0, .string (⟨#[]⟩ : ByteArray), .int .i64 0]) ?_ 1 _ rfl; (with_reducible repeat (first | refine blk_drewN ?_ _ | refine blk_drew ?_ | refine blk_alloc ?_ _)); refine blk_put (cs := #[.int .i64 0, .int .i64 0, .string (⟨#[]⟩ : ByteArray), .int .i64 0]) ?_ 0 _ rfl; (with_reducible repeat (first | refine blk_drewN ?_ _ | refine blk_drew ?_ | refine blk_alloc ?_ _)); exact BK162.out) hg (Kd.R_away HO_4.out (fun _ hk => hk.2))); have n2_ := Aside0.mk (blk_grown (g := gb163) (o := .cells #[.int .i64 t160, .int .i64 t161] 32 (0, 0)) (by (with_reducible repeat (first | refine blk_drewN ?_ _ | refine blk_drew ?_ | refine blk_alloc ?_ _)); refine blk_put (cs := #[.int .i64 t160, .int .i64 0]) ?_ 1 _ rfl; (with_reducible repeat (first | refine blk_drewN ?_ _ | refine blk_drew ?_ | refine blk_alloc ?_ _)); refine blk_put (cs := #[.int .i64 0, .int .i64 0]) ?_ 0 _ rfl; (with_reducible repeat (first | refine blk_drewN ?_ _ | refine blk_drew ?_ | refine blk_alloc ?_ _)); refine blk_far ?_ NB163_162.out _; (with_reducible repeat (first | refine blk_drewN ?_ _ | refine blk_drew ?_ | refine blk_alloc ?_ _)); refine blk_far ?_ NB163_162.out _; (with_reducible repeat (first | refine blk_drewN ?_ _ | refine blk_drew ?_ | refine blk_alloc ?_ _)); refine blk_far ?_ NB163_162.out _; (with_reducible repeat (first | refine blk_drewN ?_ _ | refine blk_drew ?_ | refine blk_alloc ?_ _)); refine blk_far ?_ NB163_162.out _; (with_reducible repeat (first | refine blk_drewN ?_ _ | refine blk_drew ?_ | refine blk_alloc ?_ _)); exact BK163.out) hg (Kd.R_ne HO_4.out BK163.out (by decide))); have n3_ := Aside0.mk (hb); have n4_ := Aside0.mk (ho); clear BK154; clear BK162; clear BK163; clear HB; clear HO_4; have BK154 := n0_; have BK162 := n1_; have BK163 := n2_; have HB := n3_; have HO166 := n4_; clear n0_ n1_ n2_ n3_ n4_; clear ho hb hg hat))
              go_roundg kj13
              case measure => have := HK1.out; have := HJ13.out; omega
              case rel => exact ⟨(y164), (wrap64 (x5_1 + t159)), (x155000_1), (x155001_1), (by first | rfl | (simp; done) | (simp [*]; done)), H', ⟨by have := HK1.out; have := HJ13.out; omega⟩, ⟨by (with_reducible repeat (first | apply Kd.R_alloc | apply Kd.R_drewN | apply Kd.R_drew)); exact Kd.R_mono HO166.out (fun _ hk => trivial)⟩, ⟨by (with_reducible repeat (first | refine blk_drewN ?_ _ | refine blk_drew ?_ | refine blk_alloc ?_ _)); exact BK154.out⟩, ⟨by repeat (first | (with_reducible first | exact HB.out | apply below_alloc | apply pw_below_drewN | apply below_drew1 | refine below_set ?_ GE154.out | refine below_set ?_ GE162.out | refine below_set ?_ GE163.out) | exact HB.out)⟩⟩
             ·rw [if_neg c20] at H
              exact absurd H (by simp)
            ·rw [if_neg c19] at H
             have c19b0 : (t160 == 0) = false := beq_eq_false_iff_ne.mpr c19
             have c19b1 : (t160 != 0) = true := bne_iff_ne.mpr c19
             simp only [Option.some.injEq, Prod.mk.injEq] at H
             obtain ⟨rfl, rfl, rfl⟩ := H
             try go_wp2_with (first | ((with_reducible refine gate_callee (f := 35) rfl ?_); refine goesL_ (some 24) rfl rfl Tryd.func35 (by kernel_rfl) rfl #[.string (a0.extract (x5_1 : Int).toNat a0.size), .int .i64 x5_1] rfl (by (try simp only [List.map_toArray, List.map_cons, List.map_nil]); first | done | rfl | (simp only [List.length_drop, List.length_take]; rfl)) ?_; (with_reducible refine (token_next.calls kj13 (a0.extract (x5_1 : Int).toNat a0.size) x5_1 t155 t156 t157 t158 t159 t160 t161 _ A18.out).mono ?_); rintro e w30 ⟨rfl, hb⟩; refine ⟨_, rfl, ?_⟩; have n0_ := Aside0.mk (Kd.R_below (by (with_reducible repeat (first | apply Kd.R_alloc | apply Kd.R_drewN | apply Kd.R_drew)); exact HO_4.out) hb); have n1_ := Aside0.mk (blk_below (g := gb154) (o := .cells #[.int .i64 x155000_1, .int .i64 x155001_1] 32 (0, 0)) (by (with_reducible repeat (first | refine blk_drewN ?_ _ | refine blk_drew ?_ | refine blk_alloc ?_ _)); exact BK154.out) hb); have n2_ := Aside0.mk (below_step (by repeat (first | (with_reducible first | exact HB.out | apply below_alloc | apply pw_below_drewN | apply below_drew1 | refine below_set ?_ GE154.out) | exact HB.out)) hb); clear HO_4; clear BK154; clear HB; have HO_4 := n0_; have BK154 := n1_; have HB := n2_; clear n0_ n1_ n2_; (try clear hb); (try clear hb2); (try clear hk); (try clear hi)) | ((with_reducible refine gate_dst (N := 7) rfl ?_); refine box_event ?hg (N := 7) ?hd (cs := #[.int .i64 0, .int .i64 0, .string (⟨#[]⟩ : ByteArray), .int .i64 0]) (t := 37) ?hr ?_; (case hd => rfl); (case hg => rfl); (case hr => first | (go_simp; done) | (go_simp; rfl)); intro gb162 hg w31 hbox hb; have n0_ := Aside0.mk (Kd.R_below (Kd.R_elderB (by (with_reducible repeat (first | apply Kd.R_alloc | apply Kd.R_drewN | apply Kd.R_drew)); exact HO_4.out) gb162 (Nat.le_of_eq hg.symm)) hb); have n1_ := Aside0.mk (blk_below (g := gb154) (o := .cells #[.int .i64 x155000_1, .int .i64 x155001_1] 32 (0, 0)) (by (with_reducible repeat (first | refine blk_drewN ?_ _ | refine blk_drew ?_ | refine blk_alloc ?_ _)); exact BK154.out) hb); have n2_ := Aside0.mk (below_step (by repeat (first | (with_reducible first | exact HB.out | apply below_alloc | apply pw_below_drewN | apply below_drew1 | refine below_set ?_ GE154.out) | exact HB.out)) hb); have n3_ := Aside0.mk (hbox); have n4_ := Aside0.mk ((by rw [hg]; exact (below_size (by repeat (first | (with_reducible first | exact HB.out | apply below_alloc | apply pw_below_drewN | apply below_drew1 | refine below_set ?_ GE154.out) | exact HB.out))) : w.heap.size ≤ gb162)); have n5_ := Aside0.mk ((by rw [hg]; exact (below_size (by repeat (first | (with_reducible first | exact HB.out | apply below_alloc | apply pw_below_drewN | apply below_drew1 | refine below_set ?_ GE154.out) | exact HB.out))) : w.heap.size ≤ gb162)); have n6_ := Aside0.mk ((by rw [hg]; exact Nat.ne_of_lt (blk_lt (g := gb154) (o := .cells #[.int .i64 x155000_1, .int .i64 x155001_1] 32 (0, 0)) (by (with_reducible repeat (first | refine blk_drewN ?_ _ | refine blk_drew ?_ | refine blk_alloc ?_ _)); exact BK154.out)) : gb154 ≠ gb162)); have n7_ := Aside0.mk ((by rw [hg]; exact Nat.ne_of_gt (blk_lt (g := gb154) (o := .cells #[.int .i64 x155000_1, .int .i64 x155001_1] 32 (0, 0)) (by (with_reducible repeat (first | refine blk_drewN ?_ _ | refine blk_drew ?_ | refine blk_alloc ?_ _)); exact BK154.out)) : gb162 ≠ gb154)); clear HO_4; clear BK154; clear HB; have HO_4 := n0_; have BK154 := n1_; have HB := n2_; have BK162 := n3_; have GW162 := n4_; have GE162 := n5_; have NB154_162 := n6_; have NB162_154 := n7_; clear n0_ n1_ n2_ n3_ n4_ n5_ n6_ n7_; clear hb hbox hg) | ((with_reducible refine gate_dst (N := 9) rfl ?_); refine box_event ?hg (N := 9) ?hd (cs := #[.int .i64 0, .int .i64 0]) (t := 32) ?hr ?_; (case hd => rfl); (case hg => rfl); (case hr => first | (go_simp; done) | (go_simp; rfl)); intro gb163 hg w32 hbox hb; have n0_ := Aside0.mk (Kd.R_below (by (with_reducible repeat (first | apply Kd.R_alloc | apply Kd.R_drewN | apply Kd.R_drew)); exact HO_4.out) hb); have n1_ := Aside0.mk (blk_below (g := gb154) (o := .cells #[.int .i64 x155000_1, .int .i64 x155001_1] 32 (0, 0)) (by (with_reducible repeat (first | refine blk_drewN ?_ _ | refine blk_drew ?_ | refine blk_alloc ?_ _)); exact BK154.out) hb); have n2_ := Aside0.mk (blk_below (g := gb162) (o := .cells #[.int .i64 0, .int .i64 0, .string (⟨#[]⟩ : ByteArray), .int .i64 0] 37 (0, 0)) (by (with_reducible repeat (first | refine blk_drewN ?_ _ | refine blk_drew ?_ | refine blk_alloc ?_ _)); exact BK162.out) hb); have n3_ := Aside0.mk (below_step (by repeat (first | (with_reducible first | exact HB.out | apply below_alloc | apply pw_below_drewN | apply below_drew1 | refine below_set ?_ GE154.out | refine below_set ?_ GE162.out) | exact HB.out)) hb); have n4_ := Aside0.mk (hbox); have n5_ := Aside0.mk ((by rw [hg]; exact (below_size (by repeat (first | (with_reducible first | exact HB.out | apply below_alloc | apply pw_below_drewN | apply below_drew1 | refine below_set ?_ GE154.out | refine below_set ?_ GE162.out) | exact HB.out))) : w.heap.size ≤ gb163)); have n6_ := Aside0.mk ((by rw [hg]; exact (below_size (by repeat (first | (with_reducible first | exact HB.out | apply below_alloc | apply pw_below_drewN | apply below_drew1 | refine below_set ?_ GE154.out | refine below_set ?_ GE162.out) | exact HB.out))) : w.heap.size ≤ gb163)); have n7_ := Aside0.mk ((by rw [hg]; exact Nat.ne_of_lt (blk_lt (g := gb154) (o := .cells #[.int .i64 x155000_1, .int .i64 x155001_1] 32 (0, 0)) (by (with_reducible repeat (first | refine blk_drewN ?_ _ | refine blk_drew ?_ | refine blk_alloc ?_ _)); exact BK154.out)) : gb154 ≠ gb163)); have n8_ := Aside0.mk ((by rw [hg]; exact Nat.ne_of_gt (blk_lt (g := gb154) (o := .cells #[.int .i64 x155000_1, .int .i64 x155001_1] 32 (0, 0)) (by (with_reducible repeat (first | refine blk_drewN ?_ _ | refine blk_drew ?_ | refine blk_alloc ?_ _)); exact BK154.out)) : gb163 ≠ gb154)); have n9_ := Aside0.mk ((by rw [hg]; exact Nat.ne_of_lt (blk_lt (g := gb162) (o := .cells #[.int .i64 0, .int .i64 0, .string (⟨#[]⟩ : ByteArray), .int .i64 0] 37 (0, 0)) (by (with_reducible repeat (first | refine blk_drewN ?_ _ | refine blk_drew ?_ | refine blk_alloc ?_ _)); exact BK162.out)) : gb162 ≠ gb163)); have n10_ := Aside0.mk ((by rw [hg]; exact Nat.ne_of_gt (blk_lt (g := gb162) (o := .cells #[.int .i64 0, .int .i64 0, .string (⟨#[]⟩ : ByteArray), .int .i64 0] 37 (0, 0)) (by (with_reducible repeat (first | refine blk_drewN ?_ _ | refine blk_drew ?_ | refine blk_alloc ?_ _)); exact BK162.out)) : gb163 ≠ gb162)); clear HO_4; clear BK154; clear BK162; clear HB; have HO_4 := n0_; have BK154 := n1_; have BK162 := n2_; have HB := n3_; have BK163 := n4_; have GW163 := n5_; have GE163 := n6_; have NB154_163 := n7_; have NB163_154 := n8_; have NB162_163 := n9_; have NB163_162 := n10_; clear n0_ n1_ n2_ n3_ n4_ n5_ n6_ n7_ n8_ n9_ n10_; clear hb hbox hg; have hnb33 := NB162_154.out; have hnc33 := NB154_162.out; have hnb34 := NB162_163.out; have hnc34 := NB163_162.out; have hcz35_0 : w32.cell? ⟨gb162, 0, none⟩ = some (.int .i64 0) := (blk_cell BK162.out 0).trans rfl; have hcz35_1 : w32.cell? ⟨gb162, 1, none⟩ = some (.int .i64 0) := (blk_cell BK162.out 1).trans rfl; have hcz35_2 : w32.cell? ⟨gb162, 2, none⟩ = some (.string (⟨#[]⟩ : ByteArray)) := (blk_cell BK162.out 2).trans rfl; have hcz35_3 : w32.cell? ⟨gb162, 3, none⟩ = some (.int .i64 0) := (blk_cell BK162.out 3).trans rfl; have hfz35_0 := blk_frozen BK162.out 0; have hfz35_1 := blk_frozen BK162.out 1; have hfz35_2 := blk_frozen BK162.out 2; have hfz35_3 := blk_frozen BK162.out 3; have hnb36 := NB163_154.out; have hnc36 := NB154_163.out; have hcz37_0 : w32.cell? ⟨gb163, 0, none⟩ = some (.int .i64 0) := (blk_cell BK163.out 0).trans rfl; have hcz37_1 : w32.cell? ⟨gb163, 1, none⟩ = some (.int .i64 0) := (blk_cell BK163.out 1).trans rfl; have hfz37_0 := blk_frozen BK163.out 0; have hfz37_1 := blk_frozen BK163.out 1))
             have n0_ : Aside0 (Kd.R k37 37 ((((((w32.setCell ⟨gb162, 0, none⟩ (.int .i64 t155)).setCell ⟨gb162, 1, none⟩ (.int .i64 t156)).setCell ⟨gb162, 2, none⟩ (.string t157)).setCell ⟨gb162, 3, none⟩ (.int .i64 t158)).setCell ⟨gb163, 0, none⟩ (.int .i64 t160)).setCell ⟨gb163, 1, none⟩ (.int .i64 t161)) w.heap.size (fun k_ => k_ ≠ gb162) u4 x4_1) := ⟨by (with_reducible repeat (first | apply Kd.R_alloc | apply Kd.R_drewN | apply Kd.R_drew)); exact Kd.R_mono (Kd.R_far (p := ⟨gb163, 1, none⟩) (Kd.R_far (p := ⟨gb163, 0, none⟩) (Kd.R_far (p := ⟨gb162, 3, none⟩) (Kd.R_far (p := ⟨gb162, 2, none⟩) (Kd.R_far (p := ⟨gb162, 1, none⟩) (Kd.R_far (p := ⟨gb162, 0, none⟩) (Kd.R_types (Kd.R_mono HO_4.out (fun k_ hk => (⟨hk, hk.2⟩ : _ ∧ k_ ≠ gb162))) BK163.out (by decide)) (fun _ hk => hk.1.2) (.int .i64 t155)) (fun _ hk => hk.1.2) (.int .i64 t156)) (fun _ hk => hk.1.2) (.string t157)) (fun _ hk => hk.1.2) (.int .i64 t158)) (fun _ hk => hk.2) (.int .i64 t160)) (fun _ hk => hk.2) (.int .i64 t161)) (fun _ hk => hk.1.1.2)⟩
             have n1_ : Aside0 (((((((w32.setCell ⟨gb162, 0, none⟩ (.int .i64 t155)).setCell ⟨gb162, 1, none⟩ (.int .i64 t156)).setCell ⟨gb162, 2, none⟩ (.string t157)).setCell ⟨gb162, 3, none⟩ (.int .i64 t158)).setCell ⟨gb163, 0, none⟩ (.int .i64 t160)).setCell ⟨gb163, 1, none⟩ (.int .i64 t161)).heap[gb154]? = some (.cells #[.int .i64 x155000_1, .int .i64 x155001_1] 32 (0, 0))) := ⟨by (with_reducible repeat (first | refine blk_drewN ?_ _ | refine blk_drew ?_ | refine blk_alloc ?_ _)); refine blk_far ?_ NB154_163.out _; (with_reducible repeat (first | refine blk_drewN ?_ _ | refine blk_drew ?_ | refine blk_alloc ?_ _)); refine blk_far ?_ NB154_163.out _; (with_reducible repeat (first | refine blk_drewN ?_ _ | refine blk_drew ?_ | refine blk_alloc ?_ _)); refine blk_far ?_ NB154_162.out _; (with_reducible repeat (first | refine blk_drewN ?_ _ | refine blk_drew ?_ | refine blk_alloc ?_ _)); refine blk_far ?_ NB154_162.out _; (with_reducible repeat (first | refine blk_drewN ?_ _ | refine blk_drew ?_ | refine blk_alloc ?_ _)); refine blk_far ?_ NB154_162.out _; (with_reducible repeat (first | refine blk_drewN ?_ _ | refine blk_drew ?_ | refine blk_alloc ?_ _)); refine blk_far ?_ NB154_162.out _; (with_reducible repeat (first | refine blk_drewN ?_ _ | refine blk_drew ?_ | refine blk_alloc ?_ _)); exact BK154.out⟩
             have n2_ : Aside0 (((((((w32.setCell ⟨gb162, 0, none⟩ (.int .i64 t155)).setCell ⟨gb162, 1, none⟩ (.int .i64 t156)).setCell ⟨gb162, 2, none⟩ (.string t157)).setCell ⟨gb162, 3, none⟩ (.int .i64 t158)).setCell ⟨gb163, 0, none⟩ (.int .i64 t160)).setCell ⟨gb163, 1, none⟩ (.int .i64 t161)).heap[gb162]? = some (.cells #[.int .i64 t155, .int .i64 t156, .string t157, .int .i64 t158] 37 (0, 0))) := ⟨by (with_reducible repeat (first | refine blk_drewN ?_ _ | refine blk_drew ?_ | refine blk_alloc ?_ _)); refine blk_far ?_ NB162_163.out _; (with_reducible repeat (first | refine blk_drewN ?_ _ | refine blk_drew ?_ | refine blk_alloc ?_ _)); refine blk_far ?_ NB162_163.out _; (with_reducible repeat (first | refine blk_drewN ?_ _ | refine blk_drew ?_ | refine blk_alloc ?_ _)); refine blk_put (cs := #[.int .i64 t155, .int .i64 t156, .string t157, .int .i64 0]) ?_ 3 _ rfl; (with_reducible repeat (first | refine blk_drewN ?_ _ | refine blk_drew ?_ | refine blk_alloc ?_ _)); refine blk_put (cs := #[.int .i64 t155, .int .i64 t156, .string (⟨#[]⟩ : ByteArray), .int .i64 0]) ?_ 2 _ rfl; (with_reducible repeat (first | refine blk_drewN ?_ _ | refine blk_drew ?_ | refine blk_alloc ?_ _)); refine blk_put (cs := #[.int .i64 t155, .int .i64 0, .string (⟨#[]⟩ : ByteArray), .int .i64 0]) ?_ 1 _ rfl; (with_reducible repeat (first | refine blk_drewN ?_ _ | refine blk_drew ?_ | refine blk_alloc ?_ _)); refine blk_put (cs := #[.int .i64 0, .int .i64 0, .string (⟨#[]⟩ : ByteArray), .int .i64 0]) ?_ 0 _ rfl; (with_reducible repeat (first | refine blk_drewN ?_ _ | refine blk_drew ?_ | refine blk_alloc ?_ _)); exact BK162.out⟩
             have n3_ : Aside0 (((((((w32.setCell ⟨gb162, 0, none⟩ (.int .i64 t155)).setCell ⟨gb162, 1, none⟩ (.int .i64 t156)).setCell ⟨gb162, 2, none⟩ (.string t157)).setCell ⟨gb162, 3, none⟩ (.int .i64 t158)).setCell ⟨gb163, 0, none⟩ (.int .i64 t160)).setCell ⟨gb163, 1, none⟩ (.int .i64 t161)).heap[gb163]? = some (.cells #[.int .i64 t160, .int .i64 t161] 32 (0, 0))) := ⟨by (with_reducible repeat (first | refine blk_drewN ?_ _ | refine blk_drew ?_ | refine blk_alloc ?_ _)); refine blk_put (cs := #[.int .i64 t160, .int .i64 0]) ?_ 1 _ rfl; (with_reducible repeat (first | refine blk_drewN ?_ _ | refine blk_drew ?_ | refine blk_alloc ?_ _)); refine blk_put (cs := #[.int .i64 0, .int .i64 0]) ?_ 0 _ rfl; (with_reducible repeat (first | refine blk_drewN ?_ _ | refine blk_drew ?_ | refine blk_alloc ?_ _)); refine blk_far ?_ NB163_162.out _; (with_reducible repeat (first | refine blk_drewN ?_ _ | refine blk_drew ?_ | refine blk_alloc ?_ _)); refine blk_far ?_ NB163_162.out _; (with_reducible repeat (first | refine blk_drewN ?_ _ | refine blk_drew ?_ | refine blk_alloc ?_ _)); refine blk_far ?_ NB163_162.out _; (with_reducible repeat (first | refine blk_drewN ?_ _ | refine blk_drew ?_ | refine blk_alloc ?_ _)); refine blk_far ?_ NB163_162.out _; (with_reducible repeat (first | refine blk_drewN ?_ _ | refine blk_drew ?_ | refine blk_alloc ?_ _)); exact BK163.out⟩
             have n4_ : Aside0 (Below w.heap.size w ((((((w32.setCell ⟨gb162, 0, none⟩ (.int .i64 t155)).setCell ⟨gb162, 1, none⟩ (.int .i64 t156)).setCell ⟨gb162, 2, none⟩ (.string t157)).setCell ⟨gb162, 3, none⟩ (.int .i64 t158)).setCell ⟨gb163, 0, none⟩ (.int .i64 t160)).setCell ⟨gb163, 1, none⟩ (.int .i64 t161))) := ⟨by repeat (first | (with_reducible first | exact HB.out | apply below_alloc | apply pw_below_drewN | apply below_drew1 | refine below_set ?_ GE154.out | refine below_set ?_ GE162.out | refine below_set ?_ GE163.out) | exact HB.out)⟩
             (try clear HO_4)
             (try clear BK154)
             (try clear BK162)
             (try clear BK163)
             (try clear HB)
             generalize ((((((w32.setCell ⟨gb162, 0, none⟩ (.int .i64 t155)).setCell ⟨gb162, 1, none⟩ (.int .i64 t156)).setCell ⟨gb162, 2, none⟩ (.string t157)).setCell ⟨gb162, 3, none⟩ (.int .i64 t158)).setCell ⟨gb163, 0, none⟩ (.int .i64 t160)).setCell ⟨gb163, 1, none⟩ (.int .i64 t161)) = w38 at n0_ n1_ n2_ n3_ n4_ ⊢
             have HO_4 := n0_
             have BK154 := n1_
             have BK162 := n2_
             have BK163 := n3_
             have HB := n4_
             clear n0_ n1_ n2_ n3_ n4_
             have n0_ := Aside0.mk (Kd.R_drew HO_4.out)
             have n1_ := Aside0.mk (blk_drew BK154.out)
             have n2_ := Aside0.mk (blk_drew BK162.out)
             have n3_ := Aside0.mk (blk_drew BK163.out)
             have n4_ := Aside0.mk (below_drew1 HB.out)
             clear HO_4
             clear BK154
             clear BK162
             clear BK163
             clear HB
             have HO_4 := n0_
             have BK154 := n1_
             have BK162 := n2_
             have BK163 := n3_
             have HB := n4_
             clear n0_ n1_ n2_ n3_ n4_
             refine start_ (n := 3) (S := fun w' => w'.cell? ⟨gb163, 0, none⟩ = some (.int .i64 t160) ∧ w'.cell? ⟨gb163, 1, none⟩ = some (.int .i64 t161)) (ds := []) #[false, false, false] (by kernel_rfl) rfl rfl ⟨(blk_cell BK163.out 0).trans rfl, (blk_cell BK163.out 1).trans rfl⟩ (fun hHeld => ?_)
             generalize w38.drew = w39 at HO_4 BK154 BK162 BK163 HB hHeld ⊢
             refine pure_ (i := 1) (N := some 2) (v := ?_) (a' := ?_) #[false, true, false] rfl rfl (by kernel_rfl) (fun _ _ _ h => h) (Or.inl ⟨by rfl, ?_⟩) ?_ ?_
             rotate_left
             ·intro w'
              go_simp
              with_reducible rfl
             rotate_left
             ·simp only [Act.put, List.setIfInBounds_toArray, List.set_cons_zero, List.set_cons_succ, i64_w, i32_w]
              rfl
             refine take_ (i := 0) (N := some 31) (v := ?_) (a' := ?_) #[true, true, false] rfl rfl (by kernel_rfl) (fun _ _ _ h => h) (Or.inl ⟨by rfl, ?_⟩) hHeld ?_ ?_
             rotate_left
             ·rintro w' ⟨s0, s1⟩
              go_simp
              with_reducible rfl
             rotate_left
             ·simp only [Act.put, List.setIfInBounds_toArray, List.set_cons_zero, List.set_cons_succ, i64_w, i32_w]
              rfl
             refine one_ (i := 2) (N := none) #[true, true, true] rfl rfl (by kernel_rfl) (by decide) (fun K hK => ?_)
             have hs40 : w39.cell? ⟨gb154, 0, none⟩ = some (.int .i64 x155000_1) := (blk_cell BK154.out 0).trans rfl
             have hfs40 := blk_frozen BK154.out 0
             have hns40_1 := NB162_154.out
             have hns40_2 := NB163_154.out
             have hms40_1 := NB154_162.out
             have hms40_2 := NB154_163.out
             have hs41 : w39.cell? ⟨gb154, 1, none⟩ = some (.int .i64 x155001_1) := (blk_cell BK154.out 1).trans rfl
             have hfs41 := blk_frozen BK154.out 1
             have hns41_1 := NB162_154.out
             have hns41_2 := NB163_154.out
             have hms41_1 := NB154_162.out
             have hms41_2 := NB154_163.out
             refine skip_ (w1 := ?_) (by rfl) rfl ?_ ?_
             rotate_left
             ·go_simp
              rfl
             refine hK.out _ _ ⟨((cell_far (p := ⟨gb154, _, none⟩) NB163_154.out _).trans (((cell_far (p := ⟨gb154, _, none⟩) NB163_154.out _).trans (hHeld.1)))), ((cell_far (p := ⟨gb154, _, none⟩) NB163_154.out _).trans (((cell_far (p := ⟨gb154, _, none⟩) NB163_154.out _).trans (hHeld.2))))⟩ (fun hHeld => ?_)
             clear hK K
             refine done_ (by kernel_rfl) ?_
             try go_wp2
             refine bodyPost_ret (results_tc rfl _ _ gb154 32 #[.int .i64 t160, .int .i64 t161] (0, 0) _ rfl (by (with_reducible repeat (first | refine blk_drewN ?_ _ | refine blk_drew ?_ | refine blk_alloc ?_ _)); refine blk_put (cs := #[.int .i64 t160, .int .i64 x155001_1]) ?_ 1 _ rfl; (with_reducible repeat (first | refine blk_drewN ?_ _ | refine blk_drew ?_ | refine blk_alloc ?_ _)); refine blk_put (cs := #[.int .i64 x155000_1, .int .i64 x155001_1]) ?_ 0 _ rfl; (with_reducible repeat (first | refine blk_drewN ?_ _ | refine blk_drew ?_ | refine blk_alloc ?_ _)); exact BK154.out) Tryd.underlying32 rfl (by kernel_rfl)) rfl ?_
             exact ⟨_, by first | rfl | (simp [errW_none, errW_some] <;> rfl) | (simp [*, errW_none, errW_some] <;> rfl), by first | exact Kd.R_nil _ _ _ _ _ | exact Kd.N_nil _ _ _ _ _ | exact Kd.V_nil _ _ _ _ _ | exact Kd.Q_nil _ _ _ _ _ | exact Kd.S_nil _ _ _ _ _, by repeat (first | (with_reducible first | exact HB.out | apply below_alloc | apply pw_below_drewN | apply below_drew1 | refine below_set ?_ GE154.out | refine below_set ?_ GE162.out | refine below_set ?_ GE163.out) | exact HB.out)⟩
       ·rw [if_neg c9] at H
        exact absurd H (by simp)
      ·rw [if_neg c8] at H
       exact absurd H (by simp)
     ·rw [if_neg c7] at H
      exact absurd H (by simp)
    ·rw [if_neg c6] at H
     have c6b0 : decide (x5_1 < (a0.size : Int)) = false := decide_eq_false c6
     clear c6
     simp only [Option.some.injEq, Prod.mk.injEq] at H
     obtain ⟨rfl, rfl, rfl⟩ := H
     have hcz42_0 : wr.cell? ⟨gb154, 0, none⟩ = some (.int .i64 x155000_1) := (blk_cell BK154.out 0).trans rfl
     have hcz42_1 : wr.cell? ⟨gb154, 1, none⟩ = some (.int .i64 x155001_1) := (blk_cell BK154.out 1).trans rfl
     have hfz42_0 := blk_frozen BK154.out 0
     have hfz42_1 := blk_frozen BK154.out 1
     go_wp2
     refine bodyPost_ret (results_tc rfl _ _ gb154 32 #[.int .i64 0, .int .i64 0] (0, 0) _ rfl (by (with_reducible repeat (first | refine blk_drewN ?_ _ | refine blk_drew ?_ | refine blk_alloc ?_ _)); refine blk_put (cs := #[.int .i64 0, .int .i64 x155001_1]) ?_ 1 _ rfl; (with_reducible repeat (first | refine blk_drewN ?_ _ | refine blk_drew ?_ | refine blk_alloc ?_ _)); refine blk_put (cs := #[.int .i64 x155000_1, .int .i64 x155001_1]) ?_ 0 _ rfl; (with_reducible repeat (first | refine blk_drewN ?_ _ | refine blk_drew ?_ | refine blk_alloc ?_ _)); exact BK154.out) Tryd.underlying32 rfl (by kernel_rfl)) rfl ?_
     exact ⟨_, by first | rfl | (simp [errW_none, errW_some] <;> rfl) | (simp [*, errW_none, errW_some] <;> rfl), by (with_reducible repeat (first | apply Kd.R_alloc | apply Kd.R_drewN | apply Kd.R_drew)); exact Kd.R_mono (Kd.R_far (p := ⟨gb154, 1, none⟩) (Kd.R_far (p := ⟨gb154, 0, none⟩) (Kd.R_types HO_4.out BK154.out (by decide)) (fun _ hk => hk.2) (.int .i64 0)) (fun _ hk => hk.2) (.int .i64 0)) (fun _ hk => trivial), by repeat (first | (with_reducible first | exact HB.out | apply below_alloc | apply pw_below_drewN | apply below_drew1 | refine below_set ?_ GE154.out) | exact HB.out)⟩

/-! ### expr_sign: function 62 -/
def signR (op : Int) : ByteArray :=
 if op = 3 then ⟨#[36]⟩ else if op = 4 then ⟨#[36, 36]⟩ else if op = 5 then ⟨#[45]⟩ else if op = 6 then ⟨#[126]⟩ else if op = 7 then ⟨#[42]⟩ else if op = 8 then ⟨#[47]⟩ else if op = 9 then ⟨#[37]⟩ else if op = 10 then ⟨#[43]⟩ else if op = 11 then ⟨#[45]⟩ else if op = 12 then ⟨#[60, 60]⟩ else if op = 13 then ⟨#[62, 62]⟩ else if op = 14 then ⟨#[38]⟩ else if op = 15 then ⟨#[94]⟩ else if op = 16 then ⟨#[124]⟩ else ⟨#[]⟩
def exSignsA : Array Value := #[.string ⟨#[]⟩, .string ⟨#[]⟩, .string ⟨#[]⟩, .string ⟨#[36]⟩, .string ⟨#[36, 36]⟩, .string ⟨#[45]⟩, .string ⟨#[126]⟩, .string ⟨#[42]⟩, .string ⟨#[47]⟩, .string ⟨#[37]⟩, .string ⟨#[43]⟩, .string ⟨#[45]⟩, .string ⟨#[60, 60]⟩, .string ⟨#[62, 62]⟩, .string ⟨#[38]⟩, .string ⟨#[94]⟩, .string ⟨#[124]⟩]
def exStrA : Array Value := #[.int .i64 6, .int .i64 6, .int .i64 6, .int .i64 5, .int .i64 5, .int .i64 4, .int .i64 4, .int .i64 3, .int .i64 2, .int .i64 1]
def strR (op : Int) : Int := if op ≤ 9 then 6 else if op ≤ 11 then 5 else if op ≤ 13 then 4 else if op = 14 then 3 else if op = 15 then 2 else 1
theorem exSign_i3 (w : World) : (Instr.index 114 (.agg exSignsA) (.int .i64 3)).run Tryd.prog w = .ok (.string (signR 3)) w := by kernel_rfl
theorem exSign_i4 (w : World) : (Instr.index 114 (.agg exSignsA) (.int .i64 4)).run Tryd.prog w = .ok (.string (signR 4)) w := by kernel_rfl
theorem exSign_i5 (w : World) : (Instr.index 114 (.agg exSignsA) (.int .i64 5)).run Tryd.prog w = .ok (.string (signR 5)) w := by kernel_rfl
theorem exSign_i6 (w : World) : (Instr.index 114 (.agg exSignsA) (.int .i64 6)).run Tryd.prog w = .ok (.string (signR 6)) w := by kernel_rfl
theorem exSign_i7 (w : World) : (Instr.index 114 (.agg exSignsA) (.int .i64 7)).run Tryd.prog w = .ok (.string (signR 7)) w := by kernel_rfl
theorem exSign_i8 (w : World) : (Instr.index 114 (.agg exSignsA) (.int .i64 8)).run Tryd.prog w = .ok (.string (signR 8)) w := by kernel_rfl
theorem exSign_i9 (w : World) : (Instr.index 114 (.agg exSignsA) (.int .i64 9)).run Tryd.prog w = .ok (.string (signR 9)) w := by kernel_rfl
theorem exSign_i10 (w : World) : (Instr.index 114 (.agg exSignsA) (.int .i64 10)).run Tryd.prog w = .ok (.string (signR 10)) w := by kernel_rfl
theorem exSign_i11 (w : World) : (Instr.index 114 (.agg exSignsA) (.int .i64 11)).run Tryd.prog w = .ok (.string (signR 11)) w := by kernel_rfl
theorem exSign_i12 (w : World) : (Instr.index 114 (.agg exSignsA) (.int .i64 12)).run Tryd.prog w = .ok (.string (signR 12)) w := by kernel_rfl
theorem exSign_i13 (w : World) : (Instr.index 114 (.agg exSignsA) (.int .i64 13)).run Tryd.prog w = .ok (.string (signR 13)) w := by kernel_rfl
theorem exSign_i14 (w : World) : (Instr.index 114 (.agg exSignsA) (.int .i64 14)).run Tryd.prog w = .ok (.string (signR 14)) w := by kernel_rfl
theorem exSign_i15 (w : World) : (Instr.index 114 (.agg exSignsA) (.int .i64 15)).run Tryd.prog w = .ok (.string (signR 15)) w := by kernel_rfl
theorem exSign_i16 (w : World) : (Instr.index 114 (.agg exSignsA) (.int .i64 16)).run Tryd.prog w = .ok (.string (signR 16)) w := by kernel_rfl
theorem exStr_i7 (w : World) : (Instr.index 113 (.agg exStrA) (.int .i64 0)).run Tryd.prog w = .ok (.int .i64 (strR 7)) w := by kernel_rfl
theorem exStr_i8 (w : World) : (Instr.index 113 (.agg exStrA) (.int .i64 1)).run Tryd.prog w = .ok (.int .i64 (strR 8)) w := by kernel_rfl
theorem exStr_i9 (w : World) : (Instr.index 113 (.agg exStrA) (.int .i64 2)).run Tryd.prog w = .ok (.int .i64 (strR 9)) w := by kernel_rfl
theorem exStr_i10 (w : World) : (Instr.index 113 (.agg exStrA) (.int .i64 3)).run Tryd.prog w = .ok (.int .i64 (strR 10)) w := by kernel_rfl
theorem exStr_i11 (w : World) : (Instr.index 113 (.agg exStrA) (.int .i64 4)).run Tryd.prog w = .ok (.int .i64 (strR 11)) w := by kernel_rfl
theorem exStr_i12 (w : World) : (Instr.index 113 (.agg exStrA) (.int .i64 5)).run Tryd.prog w = .ok (.int .i64 (strR 12)) w := by kernel_rfl
theorem exStr_i13 (w : World) : (Instr.index 113 (.agg exStrA) (.int .i64 6)).run Tryd.prog w = .ok (.int .i64 (strR 13)) w := by kernel_rfl
theorem exStr_i14 (w : World) : (Instr.index 113 (.agg exStrA) (.int .i64 7)).run Tryd.prog w = .ok (.int .i64 (strR 14)) w := by kernel_rfl
theorem exStr_i15 (w : World) : (Instr.index 113 (.agg exStrA) (.int .i64 8)).run Tryd.prog w = .ok (.int .i64 (strR 15)) w := by kernel_rfl
theorem exStr_i16 (w : World) : (Instr.index 113 (.agg exStrA) (.int .i64 9)).run Tryd.prog w = .ok (.int .i64 (strR 16)) w := by kernel_rfl
theorem exSign_idx (op : Int) (h0 : 3 ≤ op) (h1 : op ≤ 16) (w : World) : (Instr.index 114 (.agg exSignsA) (.int .i64 op)).run Tryd.prog w = .ok (.string (signR op)) w := by
 have hc : op = 3 ∨ op = 4 ∨ op = 5 ∨ op = 6 ∨ op = 7 ∨ op = 8 ∨ op = 9 ∨ op = 10 ∨ op = 11 ∨ op = 12 ∨ op = 13 ∨ op = 14 ∨ op = 15 ∨ op = 16 := by omega
 rcases hc with rfl | rfl | rfl | rfl | rfl | rfl | rfl | rfl | rfl | rfl | rfl | rfl | rfl | rfl
 ·exact exSign_i3 w
 ·exact exSign_i4 w
 ·exact exSign_i5 w
 ·exact exSign_i6 w
 ·exact exSign_i7 w
 ·exact exSign_i8 w
 ·exact exSign_i9 w
 ·exact exSign_i10 w
 ·exact exSign_i11 w
 ·exact exSign_i12 w
 ·exact exSign_i13 w
 ·exact exSign_i14 w
 ·exact exSign_i15 w
 ·exact exSign_i16 w
theorem exStr_idx (op : Int) (h0 : 7 ≤ op) (h1 : op ≤ 16) (w : World) : (Instr.index 113 (.agg exStrA) (.int .i64 (op - 7))).run Tryd.prog w = .ok (.int .i64 (strR op)) w := by
 have hc : op = 7 ∨ op = 8 ∨ op = 9 ∨ op = 10 ∨ op = 11 ∨ op = 12 ∨ op = 13 ∨ op = 14 ∨ op = 15 ∨ op = 16 := by omega
 rcases hc with rfl | rfl | rfl | rfl | rfl | rfl | rfl | rfl | rfl | rfl
 ·exact exStr_i7 w
 ·exact exStr_i8 w
 ·exact exStr_i9 w
 ·exact exStr_i10 w
 ·exact exStr_i11 w
 ·exact exStr_i12 w
 ·exact exStr_i13 w
 ·exact exStr_i14 w
 ·exact exStr_i15 w
 ·exact exStr_i16 w
set_option maxHeartbeats 2000000 in
set_option maxRecDepth 100000 in
theorem rd_sign (w : World) (op : Int) (h0 : 3 ≤ op) (h1 : op ≤ 16) :
  Calls Tryd.prog 62 #[.int .i64 op] w fun e w' => e = .returned (.string (signR op)) ∧ Drawn0 w w' := by
 have hi := exSign_idx op h0 h1
 unfold exSignsA at hi
 clear h0 h1
 go_enter Tryd.func62, Tryd.ntmps62
 go_wp2
 repeat (go_quiet (fail); try go_wp2)
 go_ret
 exact ⟨rfl, by repeat (first | exact Drawn0.refl _ | apply Drawn0.step)⟩
def expr_sign.f (a0 : Int) : Option ByteArray := if 3 ≤ a0 ∧ a0 ≤ 16 then some (signR a0) else none
theorem expr_sign.calls (a0 : Int) (r : ByteArray) (w : World) (h : expr_sign.f a0 = some r) :
  Calls Tryd.prog 62 #[.int .i64 a0] w fun e w' => e = .returned (.string r) ∧ Drawn0 w w' := by
 unfold expr_sign.f at h
 by_cases c : 3 ≤ a0 ∧ a0 ≤ 16
 ·rw [if_pos c] at h
  obtain rfl := Option.some.inj h
  exact rd_sign w a0 c.1 c.2
 ·rw [if_neg c] at h
  exact absurd h (by simp)

end Go.Proofs.YtjabjooephellaaDoor.XE
