-- PRINTED by print.py (a twelfth state) out of the translation. Not trusted: Lean checks it.
import Derived.Test.YtjabjooephellaaDoorXKx0
import Derived.Test.YtjabjooephellaaDoorXKx1
import Derived.Test.YtjabjooephellaaDoorXKx5
import Derived.Test.YtjabjooephellaaDoorXKx9
namespace Go.Proofs.YtjabjooephellaaDoor.XK
open Go.RowKit Go.Proofs.YtjabjooephellaaDoorW.PrintWords Go.Proofs.YtjabjooephellaaDoorW.PrintLast Go.Proofs.YtjabjooephellaaDoorW.PrintMore
attribute [local go_sem] max2_int min2_int max_two min_two max_three min_three max_four min_four   -- for this text's walks alone
set_option linter.unusedVariables false
set_option linter.unusedSimpArgs false

attribute [local go_sem high] eqA32
/-! ### token_Lex: function 13 -/
mutual
def token_Lex.l0 : Nat → ByteArray → List (S37) → Int → Option ((List (S37)) × Int × Int)
 | 0, _, _, _ => none
 | k + 1, x0, x4, x5 => if x5 < (x0.size : Int) then (if 0 ≤ x5 then (if x5 ≤ (x0.size : Int) then (if 0 < ((x0.extract (x5 : Int).toNat x0.size).size : Int) then (if (bt (x0.extract (x5 : Int).toNat x0.size) 0) = 59 then (some (x4, 0, 0)) else (if (bt (x0.extract (x5 : Int).toNat x0.size) 0) = 32 then (token_Lex.j1 k x0 x4 x5 (x0.extract (x5 : Int).toNat x0.size) ((bt (x0.extract (x5 : Int).toNat x0.size) 0) == 32)) else (token_Lex.j1 k x0 x4 x5 (x0.extract (x5 : Int).toNat x0.size) ((bt (x0.extract (x5 : Int).toNat x0.size) 0) == 9)))) else (none)) else (none)) else (none)) else (some (x4, 0, 0))
def token_Lex.j1 : Nat → ByteArray → List (S37) → Int → ByteArray → Bool → Option ((List (S37)) × Int × Int)
 | 0, _, _, _, _, _ => none
 | k + 1, x0, x4, x5, x6, x45 => if x45 = true then (token_Lex.l0 k x0 x4 (wrap64 (x5 + 1))) else ((token_next.f k x6 x5).bind fun bt160 => (if bt160.2.2.2.2.2.1 = 0 then (if x4.length < 3518437208883 then (token_Lex.l0 k x0 (x4 ++ [(⟨bt160.1, bt160.2.1, bt160.2.2.1, bt160.2.2.2.1⟩ : S37)]) (wrap64 (x5 + bt160.2.2.2.2.1))) else (none)) else (some (([] : List (S37)), bt160.2.2.2.2.2.1, bt160.2.2.2.2.2.2))))
end
def token_Lex.f (k : Nat) (a0 : ByteArray) : Option ((List (S37)) × Int × Int) := if (a0.size : Int) > 1000 then (some (([] : List (S37)), 3, 1000)) else (token_Lex.l0 k a0 ([] : List (S37)) 0)
theorem token_Lex.mono_l : ∀ k, (∀ y0 y1 y2, LeO (token_Lex.l0 k y0 y1 y2) (token_Lex.l0 (k + 1) y0 y1 y2)) ∧ (∀ y0 y1 y2 y3 y4, LeO (token_Lex.j1 k y0 y1 y2 y3 y4) (token_Lex.j1 (k + 1) y0 y1 y2 y3 y4))
 | 0 => ⟨fun _ _ _ r h => by simp [token_Lex.l0] at h, fun _ _ _ _ _ r h => by simp [token_Lex.j1] at h⟩
 | k + 1 => by
  obtain ⟨ih0, ih1⟩ := token_Lex.mono_l k
  refine ⟨?_, ?_⟩
  ·intro y0 y1 y2
   unfold token_Lex.l0
   repeat' first
   | (with_reducible exact ih0 _ _ _)
   | (with_reducible exact ih1 _ _ _ _ _)
   | (with_reducible exact token_next.mono _ _ _)
   | (with_reducible exact LeO.refl _)
   | (with_reducible exact LeO.none _)
   | (with_reducible refine LeO.ite ?_ ?_)
   | (with_reducible refine LeO.bind ?_ (fun _ => ?_))
   | exact ih0 _ _ _
   | exact ih1 _ _ _ _ _
   | exact token_next.mono _ _ _
   | exact LeO.none _
   | refine LeO.ite ?_ ?_
   | refine LeO.bind ?_ (fun _ => ?_)
  ·intro y0 y1 y2 y3 y4
   unfold token_Lex.j1
   repeat' first
   | (with_reducible exact ih0 _ _ _)
   | (with_reducible exact ih1 _ _ _ _ _)
   | (with_reducible exact token_next.mono _ _ _)
   | (with_reducible exact LeO.refl _)
   | (with_reducible exact LeO.none _)
   | (with_reducible refine LeO.ite ?_ ?_)
   | (with_reducible refine LeO.bind ?_ (fun _ => ?_))
   | exact ih0 _ _ _
   | exact ih1 _ _ _ _ _
   | exact token_next.mono _ _ _
   | exact LeO.none _
   | refine LeO.ite ?_ ?_
   | refine LeO.bind ?_ (fun _ => ?_)
theorem token_Lex.mono : ∀ a0 k, LeO (token_Lex.f k a0) (token_Lex.f (k + 1) a0) := by
 intro a0 k
 obtain ⟨ih0, ih1⟩ := token_Lex.mono_l k
 unfold token_Lex.f
 repeat' first
   | (with_reducible exact ih0 _ _ _)
   | (with_reducible exact ih1 _ _ _ _ _)
   | (with_reducible exact token_next.mono _ _ _)
   | (with_reducible exact LeO.refl _)
   | (with_reducible exact LeO.none _)
   | (with_reducible refine LeO.ite ?_ ?_)
   | (with_reducible refine LeO.bind ?_ (fun _ => ?_))
   | exact ih0 _ _ _
   | exact ih1 _ _ _ _ _
   | exact token_next.mono _ _ _
   | exact LeO.none _
   | refine LeO.ite ?_ ?_
   | refine LeO.bind ?_ (fun _ => ?_)
set_option maxHeartbeats 8000000 in
set_option maxRecDepth 100000 in
theorem token_Lex.calls (k : Nat) (a0 : ByteArray) (r1 : List (S37)) (r2 : Int) (r3 : Int) (w : World) (h : token_Lex.f k a0 = some (r1, r2, r3)) :
  Calls Tryd.prog 13 #[.string a0] w fun e w' => ∃ v0_ : Value, e = .returned (.tuple #[v0_, .agg #[.int .i64 r2, .int .i64 r3]]) ∧ Kd.R k37 37 w' w.heap.size (fun _ => True) v0_ r1 ∧ Below w.heap.size w w' := by
 have hu32 := Tryd.underlying32
 have hu37 := Tryd.underlying37
 have HB := Aside0.mk (Below.refl w.heap.size w)
 have H : (if (a0.size : Int) > 1000 then (some (([] : List (S37)), 3, 1000)) else (token_Lex.l0 k a0 ([] : List (S37)) 0)) = some (r1, r2, r3) := h
 clear h
 by_cases c2 : (a0.size : Int) > 1000
 ·rw [if_pos c2] at H
  have c2b0 : decide (1000 < (a0.size : Int)) = true := decide_eq_true c2
  have c2b1 : decide (1000 < a0.size) = true := decide_eq_true (by omega)
  clear c2
  simp only [Option.some.injEq, Prod.mk.injEq] at H
  obtain ⟨rfl, rfl, rfl⟩ := H
  go_enter Tryd.func13, Tryd.ntmps13
  go_wp2_with (first | ((with_reducible refine gate_dst (N := 3) rfl ?_); refine box_event ?hg (N := 3) ?hd (cs := #[.int .i64 0, .int .i64 0]) (t := 32) ?hr ?_; (case hd => rfl); (case hg => rfl); (case hr => first | (go_simp; done) | (go_simp; rfl)); intro gb159 hg w3 hbox hb; have n0_ := Aside0.mk (below_step (by repeat (first | (with_reducible first | exact HB.out | apply below_alloc | apply pw_below_drewN | apply below_drew1) | exact HB.out)) hb); have n1_ := Aside0.mk (hbox); have n2_ := Aside0.mk ((by rw [hg]; exact (below_size (by repeat (first | (with_reducible first | exact HB.out | apply below_alloc | apply pw_below_drewN | apply below_drew1) | exact HB.out))) : w.heap.size ≤ gb159)); have n3_ := Aside0.mk ((by rw [hg]; exact (below_size (by repeat (first | (with_reducible first | exact HB.out | apply below_alloc | apply pw_below_drewN | apply below_drew1) | exact HB.out))) : w.heap.size ≤ gb159)); clear HB; have HB := n0_; have BK159 := n1_; have GW159 := n2_; have GE159 := n3_; clear n0_ n1_ n2_ n3_; clear hb hbox hg; have hcz4_0 : w3.cell? ⟨gb159, 0, none⟩ = some (.int .i64 0) := (blk_cell BK159.out 0).trans rfl; have hcz4_1 : w3.cell? ⟨gb159, 1, none⟩ = some (.int .i64 0) := (blk_cell BK159.out 1).trans rfl; have hfz4_0 := blk_frozen BK159.out 0; have hfz4_1 := blk_frozen BK159.out 1))
  refine bodyPost_ret (results_tc rfl _ _ gb159 32 #[.int .i64 3, .int .i64 1000] (0, 0) _ rfl (by (with_reducible repeat (first | refine blk_drewN ?_ _ | refine blk_drew ?_ | refine blk_alloc ?_ _)); refine blk_put (cs := #[.int .i64 3, .int .i64 0]) ?_ 1 _ rfl; (with_reducible repeat (first | refine blk_drewN ?_ _ | refine blk_drew ?_ | refine blk_alloc ?_ _)); refine blk_put (cs := #[.int .i64 0, .int .i64 0]) ?_ 0 _ rfl; (with_reducible repeat (first | refine blk_drewN ?_ _ | refine blk_drew ?_ | refine blk_alloc ?_ _)); exact BK159.out) Tryd.underlying32 rfl (by kernel_rfl)) rfl ?_
  exact ⟨_, by first | rfl | (simp [errW_none, errW_some] <;> rfl) | (simp [*, errW_none, errW_some] <;> rfl), by first | exact Kd.R_nil _ _ _ _ _ | exact Kd.N_nil _ _ _ _ _ | exact Kd.V_nil _ _ _ _ _ | exact Kd.Q_nil _ _ _ _ _ | exact Kd.S_nil _ _ _ _ _, by repeat (first | (with_reducible first | exact HB.out | apply below_alloc | apply pw_below_drewN | apply below_drew1 | refine below_set ?_ GE159.out) | exact HB.out)⟩
 ·rw [if_neg c2] at H
  have c2b0 : decide (1000 < (a0.size : Int)) = false := decide_eq_false c2
  have c2b1 : decide (1000 < a0.size) = false := decide_eq_false (by omega)
  clear c2
  have H' := Aside0.mk H
  clear H
  go_enter Tryd.func13, Tryd.ntmps13
  go_wp2_with (first | ((with_reducible refine gate_dst (N := 3) rfl ?_); refine box_event ?hg (N := 3) ?hd (cs := #[.int .i64 0, .int .i64 0]) (t := 32) ?hr ?_; (case hd => rfl); (case hg => rfl); (case hr => first | (go_simp; done) | (go_simp; rfl)); intro gb159 hg w5 hbox hb; have n0_ := Aside0.mk (below_step (by repeat (first | (with_reducible first | exact HB.out | apply below_alloc | apply pw_below_drewN | apply below_drew1) | exact HB.out)) hb); have n1_ := Aside0.mk (hbox); have n2_ := Aside0.mk ((by rw [hg]; exact (below_size (by repeat (first | (with_reducible first | exact HB.out | apply below_alloc | apply pw_below_drewN | apply below_drew1) | exact HB.out))) : w.heap.size ≤ gb159)); have n3_ := Aside0.mk ((by rw [hg]; exact (below_size (by repeat (first | (with_reducible first | exact HB.out | apply below_alloc | apply pw_below_drewN | apply below_drew1) | exact HB.out))) : w.heap.size ≤ gb159)); clear HB; have HB := n0_; have BK159 := n1_; have GW159 := n2_; have GE159 := n3_; clear n0_ n1_ n2_ n3_; clear hb hbox hg))
  go_loopg [4, 5] k (fun kq v4 v5 w' => ∃ (x4_1 : List (S37)) (x5_1 : Int) (x160000_1 : Int) (x160001_1 : Int), v5 = .int .i64 x5_1 ∧ Aside0 (token_Lex.l0 kq a0 x4_1 x5_1 = some (r1, r2, r3)) ∧ Aside0 (kq ≤ k) ∧ Aside0 (Kd.R k37 37 w' w.heap.size (fun _ => True) v4 x4_1) ∧ Aside0 (w'.heap[gb159]? = some (.cells #[.int .i64 x160000_1, .int .i64 x160001_1] 32 (0, 0))) ∧ Aside0 (Below w.heap.size w w'))
  case atStart => exact ⟨(([] : List (S37))), (0), (0), (0), (by first | rfl | (simp; done) | (simp [*]; done)), H', ⟨Nat.le_refl _⟩, ⟨by first | exact Kd.R_nil _ _ _ _ _ | exact Kd.N_nil _ _ _ _ _ | exact Kd.V_nil _ _ _ _ _ | exact Kd.Q_nil _ _ _ _ _ | exact Kd.S_nil _ _ _ _ _⟩, ⟨by (with_reducible repeat (first | refine blk_drewN ?_ _ | refine blk_drew ?_ | refine blk_alloc ?_ _)); exact BK159.out⟩, ⟨by repeat (first | (with_reducible first | exact HB.out | apply below_alloc | apply pw_below_drewN | apply below_drew1 | refine below_set ?_ GE159.out) | exact HB.out)⟩⟩
  case round =>
   clear H'
   try clear c1
   try clear c2
   try clear c2b0
   try clear c2b1
   try clear p2
   try clear hcz4_0
   try clear hcz4_1
   try clear hfz4_0
   try clear hfz4_1
   obtain ⟨x4_1, x5_1, x160000_1, x160001_1, rfl, HA, HK1, HO_4, BK159, HB⟩ := hrel
   cases gk with
   | zero => exact absurd HA.out (by simp [token_Lex.l0])
   | succ k1 =>
    have H := HA.out
    clear HA
    simp only [token_Lex.l0] at H
    by_cases c6 : x5_1 < (a0.size : Int)
    ·rw [if_pos c6] at H
     have c6b0 : decide (x5_1 < (a0.size : Int)) = true := decide_eq_true c6
     clear c6
     by_cases c7 : 0 ≤ x5_1
     ·rw [if_pos c7] at H
      have c7b0 := eq_true c7
      have c7b1 : decide (0 ≤ x5_1) = true := decide_eq_true c7
      clear c7
      by_cases c8 : x5_1 ≤ (a0.size : Int)
      ·rw [if_pos c8] at H
       have c8b0 := eq_true c8
       have c8b1 : decide (x5_1 ≤ (a0.size : Int)) = true := decide_eq_true c8
       clear c8
       by_cases c9 : 0 < ((a0.extract (x5_1 : Int).toNat a0.size).size : Int)
       ·rw [if_pos c9] at H
        have c9b0 : decide (0 < ((a0.extract (x5_1 : Int).toNat a0.size).size : Int)) = true := decide_eq_true c9
        have c9b1 : decide (0 < (a0.extract (x5_1 : Int).toNat a0.size).size) = true := decide_eq_true (by omega)
        clear c9
        by_cases c11 : (bt (a0.extract (x5_1 : Int).toNat a0.size) 0) = 59
        ·rw [if_pos c11] at H
         have c11b0 : ((bt (a0.extract (x5_1 : Int).toNat a0.size) 0) == 59) = true := beq_iff_eq.mpr c11
         have c11b1 : ((bt (a0.extract (x5_1 : Int).toNat a0.size) 0) != 59) = false := bne_eq_false_iff_eq.mpr c11
         clear c11
         simp only [Option.some.injEq, Prod.mk.injEq] at H
         obtain ⟨rfl, rfl, rfl⟩ := H
         have p10 : 0 ≤ (0 : Int) := (by omega)
         have q10 : 0 < (a0.extract (x5_1 : Int).toNat a0.size).size := (by have : (0 : Int) < ((a0.extract (x5_1 : Int).toNat a0.size).size : Int) := of_decide_eq_true (by first | (with_reducible assumption) | assumption); omega)
         have qz10 : 0 < a0.size - (x5_1 : Int).toNat := (by have z := q10; rw [ByteArray.size_extract] at z; omega)
         have hx10 : ∀ h : 0 < (a0.extract (x5_1 : Int).toNat a0.size).size, (((a0.extract (x5_1 : Int).toNat a0.size)[0]'h).toNat : Int) = bt (a0.extract (x5_1 : Int).toNat a0.size) 0 := bt_at (a0.extract (x5_1 : Int).toNat a0.size) 0
         clear p10
         have qi10 : (0 < ((a0.extract (x5_1 : Int).toNat a0.size).size : Int)) = True := eq_true (of_decide_eq_true (by first | (with_reducible assumption) | assumption))
         replace q10 := eq_true q10
         have hcz12_0 : wr.cell? ⟨gb159, 0, none⟩ = some (.int .i64 x160000_1) := (blk_cell BK159.out 0).trans rfl
         have hcz12_1 : wr.cell? ⟨gb159, 1, none⟩ = some (.int .i64 x160001_1) := (blk_cell BK159.out 1).trans rfl
         have hfz12_0 := blk_frozen BK159.out 0
         have hfz12_1 := blk_frozen BK159.out 1
         go_wp2
         refine bodyPost_ret (results_tc rfl _ _ gb159 32 #[.int .i64 0, .int .i64 0] (0, 0) _ rfl (by (with_reducible repeat (first | refine blk_drewN ?_ _ | refine blk_drew ?_ | refine blk_alloc ?_ _)); refine blk_put (cs := #[.int .i64 0, .int .i64 x160001_1]) ?_ 1 _ rfl; (with_reducible repeat (first | refine blk_drewN ?_ _ | refine blk_drew ?_ | refine blk_alloc ?_ _)); refine blk_put (cs := #[.int .i64 x160000_1, .int .i64 x160001_1]) ?_ 0 _ rfl; (with_reducible repeat (first | refine blk_drewN ?_ _ | refine blk_drew ?_ | refine blk_alloc ?_ _)); exact BK159.out) Tryd.underlying32 rfl (by kernel_rfl)) rfl ?_
         exact ⟨_, by first | rfl | (simp [errW_none, errW_some] <;> rfl) | (simp [*, errW_none, errW_some] <;> rfl), by (with_reducible repeat (first | apply Kd.R_alloc | apply Kd.R_drewN | apply Kd.R_drew)); exact Kd.R_mono (Kd.R_far (p := ⟨gb159, 1, none⟩) (Kd.R_far (p := ⟨gb159, 0, none⟩) (Kd.R_types HO_4.out BK159.out (by decide)) (fun _ hk => hk.2) (.int .i64 0)) (fun _ hk => hk.2) (.int .i64 0)) (fun _ hk => trivial), by repeat (first | (with_reducible first | exact HB.out | apply below_alloc | apply pw_below_drewN | apply below_drew1 | refine below_set ?_ GE159.out) | exact HB.out)⟩
        ·rw [if_neg c11] at H
         have c11b0 : ((bt (a0.extract (x5_1 : Int).toNat a0.size) 0) == 59) = false := beq_eq_false_iff_ne.mpr c11
         have c11b1 : ((bt (a0.extract (x5_1 : Int).toNat a0.size) 0) != 59) = true := bne_iff_ne.mpr c11
         have HC14 := Aside0.mk H
         clear H
         have p10 : 0 ≤ (0 : Int) := (by omega)
         have q10 : 0 < (a0.extract (x5_1 : Int).toNat a0.size).size := (by have : (0 : Int) < ((a0.extract (x5_1 : Int).toNat a0.size).size : Int) := of_decide_eq_true (by first | (with_reducible assumption) | assumption); omega)
         have qz10 : 0 < a0.size - (x5_1 : Int).toNat := (by have z := q10; rw [ByteArray.size_extract] at z; omega)
         have hx10 : ∀ h : 0 < (a0.extract (x5_1 : Int).toNat a0.size).size, (((a0.extract (x5_1 : Int).toNat a0.size)[0]'h).toNat : Int) = bt (a0.extract (x5_1 : Int).toNat a0.size) 0 := bt_at (a0.extract (x5_1 : Int).toNat a0.size) 0
         clear p10
         have qi10 : (0 < ((a0.extract (x5_1 : Int).toNat a0.size).size : Int)) = True := eq_true (of_decide_eq_true (by first | (with_reducible assumption) | assumption))
         replace q10 := eq_true q10
         have p13 : 0 ≤ (0 : Int) := (by omega)
         have q13 : 0 < (a0.extract (x5_1 : Int).toNat a0.size).size := (by have : (0 : Int) < ((a0.extract (x5_1 : Int).toNat a0.size).size : Int) := of_decide_eq_true (by first | (with_reducible assumption) | assumption); omega)
         have qz13 : 0 < a0.size - (x5_1 : Int).toNat := (by have z := q13; rw [ByteArray.size_extract] at z; omega)
         have hx13 : ∀ h : 0 < (a0.extract (x5_1 : Int).toNat a0.size).size, (((a0.extract (x5_1 : Int).toNat a0.size)[0]'h).toNat : Int) = bt (a0.extract (x5_1 : Int).toNat a0.size) 0 := bt_at (a0.extract (x5_1 : Int).toNat a0.size) 0
         clear p13
         have qi13 : (0 < ((a0.extract (x5_1 : Int).toNat a0.size).size : Int)) = True := eq_true (of_decide_eq_true (by first | (with_reducible assumption) | assumption))
         replace q13 := eq_true q13
         go_upto_if 45 with (fail)
         go_cut [45] (fun v45 wc => ∃ (kq : Nat) (x45_13 : Bool), v45 = .bool x45_13 ∧ Aside0 (token_Lex.j1 kq a0 x4_1 x5_1 (a0.extract (x5_1 : Int).toNat a0.size) x45_13 = some (r1, r2, r3)) ∧ Aside0 (kq ≤ k1) ∧ Aside0 (Kd.R k37 37 wc w.heap.size (fun _ => True) u4 x4_1) ∧ Aside0 (wc.heap[gb159]? = some (.cells #[.int .i64 x160000_1, .int .i64 x160001_1] 32 (0, 0))) ∧ Aside0 (Below w.heap.size w wc))
         case first =>
          have H := HC14.out
          clear HC14
          by_cases c15 : (bt (a0.extract (x5_1 : Int).toNat a0.size) 0) = 32
          ·rw [if_pos c15] at H
           have c15b0 : ((bt (a0.extract (x5_1 : Int).toNat a0.size) 0) == 32) = true := beq_iff_eq.mpr c15
           have c15b1 : ((bt (a0.extract (x5_1 : Int).toNat a0.size) 0) != 32) = false := bne_eq_false_iff_eq.mpr c15
           clear c15
           (first | rw [c15b0] | (simp only [i64_w, i32_w]; rw [c15b0]) | skip)
           have H' := Aside0.mk H
           clear H
           go_wp2
           go_meet
           case rel => exact ⟨_, (((bt (a0.extract (x5_1 : Int).toNat a0.size) 0) == 32)), (by first | rfl | (simp; done) | (simp [*]; done)), H', ⟨by have := HK1.out; first | omega | exact Nat.le_refl _⟩, ⟨by (with_reducible repeat (first | apply Kd.R_alloc | apply Kd.R_drewN | apply Kd.R_drew)); exact HO_4.out⟩, ⟨by (with_reducible repeat (first | refine blk_drewN ?_ _ | refine blk_drew ?_ | refine blk_alloc ?_ _)); exact BK159.out⟩, ⟨by repeat (first | (with_reducible first | exact HB.out | apply below_alloc | apply pw_below_drewN | apply below_drew1 | refine below_set ?_ GE159.out) | exact HB.out)⟩⟩
          ·rw [if_neg c15] at H
           have c15b0 : ((bt (a0.extract (x5_1 : Int).toNat a0.size) 0) == 32) = false := beq_eq_false_iff_ne.mpr c15
           have c15b1 : ((bt (a0.extract (x5_1 : Int).toNat a0.size) 0) != 32) = true := bne_iff_ne.mpr c15
           (first | rw [c15b0] | (simp only [i64_w, i32_w]; rw [c15b0]) | skip)
           have H' := Aside0.mk H
           clear H
           have p16 : 0 ≤ (0 : Int) := (by omega)
           have q16 : 0 < (a0.extract (x5_1 : Int).toNat a0.size).size := (by have : (0 : Int) < ((a0.extract (x5_1 : Int).toNat a0.size).size : Int) := of_decide_eq_true (by first | (with_reducible assumption) | assumption); omega)
           have qz16 : 0 < a0.size - (x5_1 : Int).toNat := (by have z := q16; rw [ByteArray.size_extract] at z; omega)
           have hx16 : ∀ h : 0 < (a0.extract (x5_1 : Int).toNat a0.size).size, (((a0.extract (x5_1 : Int).toNat a0.size)[0]'h).toNat : Int) = bt (a0.extract (x5_1 : Int).toNat a0.size) 0 := bt_at (a0.extract (x5_1 : Int).toNat a0.size) 0
           clear p16
           have qi16 : (0 < ((a0.extract (x5_1 : Int).toNat a0.size).size : Int)) = True := eq_true (of_decide_eq_true (by first | (with_reducible assumption) | assumption))
           replace q16 := eq_true q16
           go_wp2
           go_meet
           case rel => exact ⟨_, (((bt (a0.extract (x5_1 : Int).toNat a0.size) 0) == 9)), (by first | rfl | (simp; done) | (simp [*]; done)), H', ⟨by have := HK1.out; first | omega | exact Nat.le_refl _⟩, ⟨by (with_reducible repeat (first | apply Kd.R_alloc | apply Kd.R_drewN | apply Kd.R_drew)); exact HO_4.out⟩, ⟨by (with_reducible repeat (first | refine blk_drewN ?_ _ | refine blk_drew ?_ | refine blk_alloc ?_ _)); exact BK159.out⟩, ⟨by repeat (first | (with_reducible first | exact HB.out | apply below_alloc | apply pw_below_drewN | apply below_drew1 | refine below_set ?_ GE159.out) | exact HB.out)⟩⟩
         case rest =>
          clear HC14
          try clear c1
          try clear p1
          try clear q1
          try clear hx1
          try clear qi1
          try clear c2
          try clear c2b0
          try clear c2b1
          try clear p2
          try clear c6
          try clear c6b0
          try clear c7
          try clear c7b0
          try clear c7b1
          try clear c8
          try clear c8b0
          try clear c8b1
          try clear c9
          try clear c9b0
          try clear c9b1
          try clear p10
          try clear q10
          try clear hx10
          try clear qi10
          try clear c11
          try clear c11b0
          try clear c11b1
          try clear c13
          try clear p13
          try clear q13
          try clear hx13
          try clear qi13
          try clear c15
          try clear c15b0
          try clear c15b1
          try clear p16
          try clear q16
          try clear hx16
          try clear qi16
          try clear hcz12_0
          try clear hcz12_1
          try clear hcz4_0
          try clear hcz4_1
          try clear hfz12_0
          try clear hfz12_1
          try clear hfz4_0
          try clear hfz4_1
          try clear p10
          try clear p13
          try clear p16
          try clear p2
          try clear q10
          try clear q13
          try clear q16
          obtain ⟨kq, x45_13, rfl, HA, HJ13, HO_4, BK159, HB⟩ := hcut
          cases kq with
          | zero => exact absurd HA.out (by simp [token_Lex.j1])
          | succ kj13 =>
           have H := HA.out
           clear HA
           simp only [token_Lex.j1] at H
           by_cases c17 : x45_13 = true
           ·subst c17
            have H1 : (token_Lex.l0 kj13 a0 x4_1 (wrap64 (x5_1 + 1))) = some (r1, r2, r3) := by rw [if_pos rfl] at H; exact H
            clear H
            have H := H1
            clear H1
            have H' := Aside0.mk H
            clear H
            go_wp2
            go_roundg kj13
            case measure => have := HK1.out; have := HJ13.out; omega
            case rel => exact ⟨(x4_1), (wrap64 (x5_1 + 1)), (x160000_1), (x160001_1), (by first | rfl | (simp; done) | (simp [*]; done)), H', ⟨by have := HK1.out; have := HJ13.out; omega⟩, ⟨by (with_reducible repeat (first | apply Kd.R_alloc | apply Kd.R_drewN | apply Kd.R_drew)); exact HO_4.out⟩, ⟨by (with_reducible repeat (first | refine blk_drewN ?_ _ | refine blk_drew ?_ | refine blk_alloc ?_ _)); exact BK159.out⟩, ⟨by repeat (first | (with_reducible first | exact HB.out | apply below_alloc | apply pw_below_drewN | apply below_drew1 | refine below_set ?_ GE159.out) | exact HB.out)⟩⟩
           ·replace c17 := Bool.eq_false_iff.mpr c17
            subst c17
            have H1 : ((token_next.f kj13 (a0.extract (x5_1 : Int).toNat a0.size) x5_1).bind fun bt160 => (if bt160.2.2.2.2.2.1 = 0 then (if x4_1.length < 3518437208883 then (token_Lex.l0 kj13 a0 (x4_1 ++ [(⟨bt160.1, bt160.2.1, bt160.2.2.1, bt160.2.2.2.1⟩ : S37)]) (wrap64 (x5_1 + bt160.2.2.2.2.1))) else (none)) else (some (([] : List (S37)), bt160.2.2.2.2.2.1, bt160.2.2.2.2.2.2)))) = some (r1, r2, r3) := by rw [if_neg (show ¬ (false = true) by decide)] at H; exact H
            clear H
            have H := H1
            clear H1
            replace H := Option.bind_eq_some_iff.mp H
            obtain ⟨⟨t160, t161, t162, t163, t164, t165, t166⟩, A180, H⟩ := H
            replace H : (if t165 = 0 then (if x4_1.length < 3518437208883 then (token_Lex.l0 kj13 a0 (x4_1 ++ [(⟨t160, t161, t162, t163⟩ : S37)]) (wrap64 (x5_1 + t164))) else (none)) else (some (([] : List (S37)), t165, t166))) = some (r1, r2, r3) := H
            have A18 := Aside0.mk A180
            clear A180
            by_cases c19 : t165 = 0
            ·rw [if_pos c19] at H
             have c19b0 : (t165 == 0) = true := beq_iff_eq.mpr c19
             have c19b1 : (t165 != 0) = false := bne_eq_false_iff_eq.mpr c19
             clear c19
             by_cases c20 : x4_1.length < 3518437208883
             ·rw [if_pos c20] at H
              have LMc20 := Aside0.mk c20
              clear c20
              obtain ⟨y169, hy169⟩ : ∃ y_ : List (S37), y_ = (x4_1 ++ [(⟨t160, t161, t162, t163⟩ : S37)]) := ⟨_, rfl⟩
              replace H : (token_Lex.l0 kj13 a0 y169 (wrap64 (x5_1 + t164))) = some (r1, r2, r3) := by first | (rw [hy169]; with_reducible exact H) | (have H2_ := (Option.bind_some _ _).symm.trans H; rw [hy169]; with_reducible exact H2_) | (have H2_ := (Option.bind_some _ _).symm.trans H; with_reducible exact H2_) | with_reducible exact H | (rw [hy169]; exact H) | exact H
              have Ny169 := Aside0.mk hy169
              clear hy169
              have H' := Aside0.mk H
              clear H
              go_wp2_with (first | ((with_reducible refine gate_callee (f := 35) rfl ?_); refine goesL_ (some 24) rfl rfl Tryd.func35 (by kernel_rfl) rfl #[.string (a0.extract (x5_1 : Int).toNat a0.size), .int .i64 x5_1] rfl (by (try simp only [List.map_toArray, List.map_cons, List.map_nil]); first | done | rfl | (simp only [List.length_drop, List.length_take]; rfl)) ?_; (with_reducible refine (token_next.calls kj13 (a0.extract (x5_1 : Int).toNat a0.size) x5_1 t160 t161 t162 t163 t164 t165 t166 _ A18.out).mono ?_); rintro e w21 ⟨rfl, hb⟩; refine ⟨_, rfl, ?_⟩; have n0_ := Aside0.mk (Kd.R_below (by (with_reducible repeat (first | apply Kd.R_alloc | apply Kd.R_drewN | apply Kd.R_drew)); exact HO_4.out) hb); have n1_ := Aside0.mk (blk_below (g := gb159) (o := .cells #[.int .i64 x160000_1, .int .i64 x160001_1] 32 (0, 0)) (by (with_reducible repeat (first | refine blk_drewN ?_ _ | refine blk_drew ?_ | refine blk_alloc ?_ _)); exact BK159.out) hb); have n2_ := Aside0.mk (below_step (by repeat (first | (with_reducible first | exact HB.out | apply below_alloc | apply pw_below_drewN | apply below_drew1 | refine below_set ?_ GE159.out) | exact HB.out)) hb); clear HO_4; clear BK159; clear HB; have HO_4 := n0_; have BK159 := n1_; have HB := n2_; clear n0_ n1_ n2_; (try clear hb); (try clear hb2); (try clear hk); (try clear hi)) | ((with_reducible refine gate_dst (N := 7) rfl ?_); refine box_event ?hg (N := 7) ?hd (cs := #[.int .i64 0, .int .i64 0, .string (⟨#[]⟩ : ByteArray), .int .i64 0]) (t := 37) ?hr ?_; (case hd => rfl); (case hg => rfl); (case hr => first | (go_simp; done) | (go_simp; rfl)); intro gb167 hg w22 hbox hb; have n0_ := Aside0.mk (Kd.R_below (Kd.R_elderB (by (with_reducible repeat (first | apply Kd.R_alloc | apply Kd.R_drewN | apply Kd.R_drew)); exact HO_4.out) gb167 (Nat.le_of_eq hg.symm)) hb); have n1_ := Aside0.mk (blk_below (g := gb159) (o := .cells #[.int .i64 x160000_1, .int .i64 x160001_1] 32 (0, 0)) (by (with_reducible repeat (first | refine blk_drewN ?_ _ | refine blk_drew ?_ | refine blk_alloc ?_ _)); exact BK159.out) hb); have n2_ := Aside0.mk (below_step (by repeat (first | (with_reducible first | exact HB.out | apply below_alloc | apply pw_below_drewN | apply below_drew1 | refine below_set ?_ GE159.out) | exact HB.out)) hb); have n3_ := Aside0.mk (hbox); have n4_ := Aside0.mk ((by rw [hg]; exact (below_size (by repeat (first | (with_reducible first | exact HB.out | apply below_alloc | apply pw_below_drewN | apply below_drew1 | refine below_set ?_ GE159.out) | exact HB.out))) : w.heap.size ≤ gb167)); have n5_ := Aside0.mk ((by rw [hg]; exact (below_size (by repeat (first | (with_reducible first | exact HB.out | apply below_alloc | apply pw_below_drewN | apply below_drew1 | refine below_set ?_ GE159.out) | exact HB.out))) : w.heap.size ≤ gb167)); have n6_ := Aside0.mk ((by rw [hg]; exact Nat.ne_of_lt (blk_lt (g := gb159) (o := .cells #[.int .i64 x160000_1, .int .i64 x160001_1] 32 (0, 0)) (by (with_reducible repeat (first | refine blk_drewN ?_ _ | refine blk_drew ?_ | refine blk_alloc ?_ _)); exact BK159.out)) : gb159 ≠ gb167)); have n7_ := Aside0.mk ((by rw [hg]; exact Nat.ne_of_gt (blk_lt (g := gb159) (o := .cells #[.int .i64 x160000_1, .int .i64 x160001_1] 32 (0, 0)) (by (with_reducible repeat (first | refine blk_drewN ?_ _ | refine blk_drew ?_ | refine blk_alloc ?_ _)); exact BK159.out)) : gb167 ≠ gb159)); clear HO_4; clear BK159; clear HB; have HO_4 := n0_; have BK159 := n1_; have HB := n2_; have BK167 := n3_; have GW167 := n4_; have GE167 := n5_; have NB159_167 := n6_; have NB167_159 := n7_; clear n0_ n1_ n2_ n3_ n4_ n5_ n6_ n7_; clear hb hbox hg) | ((with_reducible refine gate_dst (N := 9) rfl ?_); refine box_event ?hg (N := 9) ?hd (cs := #[.int .i64 0, .int .i64 0]) (t := 32) ?hr ?_; (case hd => rfl); (case hg => rfl); (case hr => first | (go_simp; done) | (go_simp; rfl)); intro gb168 hg w23 hbox hb; have n0_ := Aside0.mk (Kd.R_below (by (with_reducible repeat (first | apply Kd.R_alloc | apply Kd.R_drewN | apply Kd.R_drew)); exact HO_4.out) hb); have n1_ := Aside0.mk (blk_below (g := gb159) (o := .cells #[.int .i64 x160000_1, .int .i64 x160001_1] 32 (0, 0)) (by (with_reducible repeat (first | refine blk_drewN ?_ _ | refine blk_drew ?_ | refine blk_alloc ?_ _)); exact BK159.out) hb); have n2_ := Aside0.mk (blk_below (g := gb167) (o := .cells #[.int .i64 0, .int .i64 0, .string (⟨#[]⟩ : ByteArray), .int .i64 0] 37 (0, 0)) (by (with_reducible repeat (first | refine blk_drewN ?_ _ | refine blk_drew ?_ | refine blk_alloc ?_ _)); exact BK167.out) hb); have n3_ := Aside0.mk (below_step (by repeat (first | (with_reducible first | exact HB.out | apply below_alloc | apply pw_below_drewN | apply below_drew1 | refine below_set ?_ GE159.out | refine below_set ?_ GE167.out) | exact HB.out)) hb); have n4_ := Aside0.mk (hbox); have n5_ := Aside0.mk ((by rw [hg]; exact (below_size (by repeat (first | (with_reducible first | exact HB.out | apply below_alloc | apply pw_below_drewN | apply below_drew1 | refine below_set ?_ GE159.out | refine below_set ?_ GE167.out) | exact HB.out))) : w.heap.size ≤ gb168)); have n6_ := Aside0.mk ((by rw [hg]; exact (below_size (by repeat (first | (with_reducible first | exact HB.out | apply below_alloc | apply pw_below_drewN | apply below_drew1 | refine below_set ?_ GE159.out | refine below_set ?_ GE167.out) | exact HB.out))) : w.heap.size ≤ gb168)); have n7_ := Aside0.mk ((by rw [hg]; exact Nat.ne_of_lt (blk_lt (g := gb159) (o := .cells #[.int .i64 x160000_1, .int .i64 x160001_1] 32 (0, 0)) (by (with_reducible repeat (first | refine blk_drewN ?_ _ | refine blk_drew ?_ | refine blk_alloc ?_ _)); exact BK159.out)) : gb159 ≠ gb168)); have n8_ := Aside0.mk ((by rw [hg]; exact Nat.ne_of_gt (blk_lt (g := gb159) (o := .cells #[.int .i64 x160000_1, .int .i64 x160001_1] 32 (0, 0)) (by (with_reducible repeat (first | refine blk_drewN ?_ _ | refine blk_drew ?_ | refine blk_alloc ?_ _)); exact BK159.out)) : gb168 ≠ gb159)); have n9_ := Aside0.mk ((by rw [hg]; exact Nat.ne_of_lt (blk_lt (g := gb167) (o := .cells #[.int .i64 0, .int .i64 0, .string (⟨#[]⟩ : ByteArray), .int .i64 0] 37 (0, 0)) (by (with_reducible repeat (first | refine blk_drewN ?_ _ | refine blk_drew ?_ | refine blk_alloc ?_ _)); exact BK167.out)) : gb167 ≠ gb168)); have n10_ := Aside0.mk ((by rw [hg]; exact Nat.ne_of_gt (blk_lt (g := gb167) (o := .cells #[.int .i64 0, .int .i64 0, .string (⟨#[]⟩ : ByteArray), .int .i64 0] 37 (0, 0)) (by (with_reducible repeat (first | refine blk_drewN ?_ _ | refine blk_drew ?_ | refine blk_alloc ?_ _)); exact BK167.out)) : gb168 ≠ gb167)); clear HO_4; clear BK159; clear BK167; clear HB; have HO_4 := n0_; have BK159 := n1_; have BK167 := n2_; have HB := n3_; have BK168 := n4_; have GW168 := n5_; have GE168 := n6_; have NB159_168 := n7_; have NB168_159 := n8_; have NB167_168 := n9_; have NB168_167 := n10_; clear n0_ n1_ n2_ n3_ n4_ n5_ n6_ n7_ n8_ n9_ n10_; clear hb hbox hg; have hnb24 := NB167_159.out; have hnc24 := NB159_167.out; have hnb25 := NB167_168.out; have hnc25 := NB168_167.out; have hcz26_0 : w23.cell? ⟨gb167, 0, none⟩ = some (.int .i64 0) := (blk_cell BK167.out 0).trans rfl; have hcz26_1 : w23.cell? ⟨gb167, 1, none⟩ = some (.int .i64 0) := (blk_cell BK167.out 1).trans rfl; have hcz26_2 : w23.cell? ⟨gb167, 2, none⟩ = some (.string (⟨#[]⟩ : ByteArray)) := (blk_cell BK167.out 2).trans rfl; have hcz26_3 : w23.cell? ⟨gb167, 3, none⟩ = some (.int .i64 0) := (blk_cell BK167.out 3).trans rfl; have hfz26_0 := blk_frozen BK167.out 0; have hfz26_1 := blk_frozen BK167.out 1; have hfz26_2 := blk_frozen BK167.out 2; have hfz26_3 := blk_frozen BK167.out 3; have hnb27 := NB168_159.out; have hnc27 := NB159_168.out; have hcz28_0 : w23.cell? ⟨gb168, 0, none⟩ = some (.int .i64 0) := (blk_cell BK168.out 0).trans rfl; have hcz28_1 : w23.cell? ⟨gb168, 1, none⟩ = some (.int .i64 0) := (blk_cell BK168.out 1).trans rfl; have hfz28_0 := blk_frozen BK168.out 0; have hfz28_1 := blk_frozen BK168.out 1) | ((with_reducible refine gate_builtin (b := .append) (xs := #[.tmp 32, .tmp 34]) rfl ?_); at_builtin; refine Kd.R_append k37 (w0 := w) w.heap.size rfl (.tmp 32) (.tmp 34) 22 37 (.agg #[(.int .i64 0), (.int .i64 0), (.string ⟨#[]⟩), (.int .i64 0)]) 40 rfl Tryd.underlying22 info37 rfl (by decide) (by omega) u4 x4_1 (⟨t160, t161, t162, t163⟩ : S37) [.int .i64 t160, .int .i64 t161, .string t162, .int .i64 t163] (fun k_ => k_ ≠ gb167) (fun _ => False) rfl (by first | (go_simp; done) | (go_simp; rfl)) ?aP (fun _ hk => hk.elim) ?aF ?aO ?aB ?aS ?aL ?_; (case aP => exact k37_mkM _ _ _ (⟨t160, t161, t162, t163⟩ : S37)); (case aB => exact (by repeat (first | (with_reducible first | exact HB.out | apply below_alloc | apply pw_below_drewN | apply below_drew1 | refine below_set ?_ GE159.out | refine below_set ?_ GE167.out | refine below_set ?_ GE168.out) | exact HB.out))); (case aF => exact (fun k_ hk => Kd.freshB (g := gb167) (o := .cells #[.int .i64 t160, .int .i64 t161, .string t162, .int .i64 t163] 37 (0, 0)) (by (with_reducible repeat (first | refine blk_drewN ?_ _ | refine blk_drew ?_ | refine blk_alloc ?_ _)); refine blk_far ?_ NB167_168.out _; (with_reducible repeat (first | refine blk_drewN ?_ _ | refine blk_drew ?_ | refine blk_alloc ?_ _)); refine blk_far ?_ NB167_168.out _; (with_reducible repeat (first | refine blk_drewN ?_ _ | refine blk_drew ?_ | refine blk_alloc ?_ _)); refine blk_put (cs := #[.int .i64 t160, .int .i64 t161, .string t162, .int .i64 0]) ?_ 3 _ rfl; (with_reducible repeat (first | refine blk_drewN ?_ _ | refine blk_drew ?_ | refine blk_alloc ?_ _)); refine blk_put (cs := #[.int .i64 t160, .int .i64 t161, .string (⟨#[]⟩ : ByteArray), .int .i64 0]) ?_ 2 _ rfl; (with_reducible repeat (first | refine blk_drewN ?_ _ | refine blk_drew ?_ | refine blk_alloc ?_ _)); refine blk_put (cs := #[.int .i64 t160, .int .i64 0, .string (⟨#[]⟩ : ByteArray), .int .i64 0]) ?_ 1 _ rfl; (with_reducible repeat (first | refine blk_drewN ?_ _ | refine blk_drew ?_ | refine blk_alloc ?_ _)); refine blk_put (cs := #[.int .i64 0, .int .i64 0, .string (⟨#[]⟩ : ByteArray), .int .i64 0]) ?_ 0 _ rfl; (with_reducible repeat (first | refine blk_drewN ?_ _ | refine blk_drew ?_ | refine blk_alloc ?_ _)); exact BK167.out) k_ hk)); (case aO => exact (by (with_reducible repeat (first | apply Kd.R_alloc | apply Kd.R_drewN | apply Kd.R_drew)); exact Kd.R_mono (Kd.R_far (p := ⟨gb168, 1, none⟩) (Kd.R_far (p := ⟨gb168, 0, none⟩) (Kd.R_far (p := ⟨gb167, 3, none⟩) (Kd.R_far (p := ⟨gb167, 2, none⟩) (Kd.R_far (p := ⟨gb167, 1, none⟩) (Kd.R_far (p := ⟨gb167, 0, none⟩) (Kd.R_types (Kd.R_mono HO_4.out (fun k_ hk => (⟨hk, hk.2⟩ : _ ∧ k_ ≠ gb167))) BK168.out (by decide)) (fun _ hk => hk.1.2) (.int .i64 t160)) (fun _ hk => hk.1.2) (.int .i64 t161)) (fun _ hk => hk.1.2) (.string t162)) (fun _ hk => hk.1.2) (.int .i64 t163)) (fun _ hk => hk.2) (.int .i64 t165)) (fun _ hk => hk.2) (.int .i64 t166)) (fun _ hk => hk.1.1.2))); (case aS => exact (below_size (by repeat (first | (with_reducible first | exact HB.out | apply below_alloc | apply pw_below_drewN | apply below_drew1 | refine below_set ?_ GE159.out | refine below_set ?_ GE167.out | refine below_set ?_ GE168.out) | exact HB.out)))); (case aL => have := LMc20.out; omega); intro v170 w29 ho hb hg hat; rw [← Ny169.out] at ho; have n0_ := Aside0.mk (blk_grown (g := gb159) (o := .cells #[.int .i64 x160000_1, .int .i64 x160001_1] 32 (0, 0)) (by (with_reducible repeat (first | refine blk_drewN ?_ _ | refine blk_drew ?_ | refine blk_alloc ?_ _)); refine blk_far ?_ NB159_168.out _; (with_reducible repeat (first | refine blk_drewN ?_ _ | refine blk_drew ?_ | refine blk_alloc ?_ _)); refine blk_far ?_ NB159_168.out _; (with_reducible repeat (first | refine blk_drewN ?_ _ | refine blk_drew ?_ | refine blk_alloc ?_ _)); refine blk_far ?_ NB159_167.out _; (with_reducible repeat (first | refine blk_drewN ?_ _ | refine blk_drew ?_ | refine blk_alloc ?_ _)); refine blk_far ?_ NB159_167.out _; (with_reducible repeat (first | refine blk_drewN ?_ _ | refine blk_drew ?_ | refine blk_alloc ?_ _)); refine blk_far ?_ NB159_167.out _; (with_reducible repeat (first | refine blk_drewN ?_ _ | refine blk_drew ?_ | refine blk_alloc ?_ _)); refine blk_far ?_ NB159_167.out _; (with_reducible repeat (first | refine blk_drewN ?_ _ | refine blk_drew ?_ | refine blk_alloc ?_ _)); exact BK159.out) hg (Kd.R_ne HO_4.out BK159.out (by decide))); have n1_ := Aside0.mk (blk_grown (g := gb167) (o := .cells #[.int .i64 t160, .int .i64 t161, .string t162, .int .i64 t163] 37 (0, 0)) (by (with_reducible repeat (first | refine blk_drewN ?_ _ | refine blk_drew ?_ | refine blk_alloc ?_ _)); refine blk_far ?_ NB167_168.out _; (with_reducible repeat (first | refine blk_drewN ?_ _ | refine blk_drew ?_ | refine blk_alloc ?_ _)); refine blk_far ?_ NB167_168.out _; (with_reducible repeat (first | refine blk_drewN ?_ _ | refine blk_drew ?_ | refine blk_alloc ?_ _)); refine blk_put (cs := #[.int .i64 t160, .int .i64 t161, .string t162, .int .i64 0]) ?_ 3 _ rfl; (with_reducible repeat (first | refine blk_drewN ?_ _ | refine blk_drew ?_ | refine blk_alloc ?_ _)); refine blk_put (cs := #[.int .i64 t160, .int .i64 t161, .string (⟨#[]⟩ : ByteArray), .int .i64 0]) ?_ 2 _ rfl; (with_reducible repeat (first | refine blk_drewN ?_ _ | refine blk_drew ?_ | refine blk_alloc ?_ _)); refine blk_put (cs := #[.int .i64 t160, .int .i64 0, .string (⟨#[]⟩ : ByteArray), .int .i64 0]) ?_ 1 _ rfl; (with_reducible repeat (first | refine blk_drewN ?_ _ | refine blk_drew ?_ | refine blk_alloc ?_ _)); refine blk_put (cs := #[.int .i64 0, .int .i64 0, .string (⟨#[]⟩ : ByteArray), .int .i64 0]) ?_ 0 _ rfl; (with_reducible repeat (first | refine blk_drewN ?_ _ | refine blk_drew ?_ | refine blk_alloc ?_ _)); exact BK167.out) hg (Kd.R_away HO_4.out (fun _ hk => hk.2))); have n2_ := Aside0.mk (blk_grown (g := gb168) (o := .cells #[.int .i64 t165, .int .i64 t166] 32 (0, 0)) (by (with_reducible repeat (first | refine blk_drewN ?_ _ | refine blk_drew ?_ | refine blk_alloc ?_ _)); refine blk_put (cs := #[.int .i64 t165, .int .i64 0]) ?_ 1 _ rfl; (with_reducible repeat (first | refine blk_drewN ?_ _ | refine blk_drew ?_ | refine blk_alloc ?_ _)); refine blk_put (cs := #[.int .i64 0, .int .i64 0]) ?_ 0 _ rfl; (with_reducible repeat (first | refine blk_drewN ?_ _ | refine blk_drew ?_ | refine blk_alloc ?_ _)); refine blk_far ?_ NB168_167.out _; (with_reducible repeat (first | refine blk_drewN ?_ _ | refine blk_drew ?_ | refine blk_alloc ?_ _)); refine blk_far ?_ NB168_167.out _; (with_reducible repeat (first | refine blk_drewN ?_ _ | refine blk_drew ?_ | refine blk_alloc ?_ _)); refine blk_far ?_ NB168_167.out _; (with_reducible repeat (first | refine blk_drewN ?_ _ | refine blk_drew ?_ | refine blk_alloc ?_ _)); refine blk_far ?_ NB168_167.out _; (with_reducible repeat (first | refine blk_drewN ?_ _ | refine blk_drew ?_ | refine blk_alloc ?_ _)); exact BK168.out) hg (Kd.R_ne HO_4.out BK168.out (by decide))); have n3_ := Aside0.mk (hb); have n4_ := Aside0.mk (ho); clear BK159; clear BK167; clear BK168; clear HB; clear HO_4; have BK159 := n0_; have BK167 := n1_; have BK168 := n2_; have HB := n3_; have HO171 := n4_; clear n0_ n1_ n2_ n3_ n4_; clear ho hb hg hat))
              go_roundg kj13
              case measure => have := HK1.out; have := HJ13.out; omega
              case rel => exact ⟨(y169), (wrap64 (x5_1 + t164)), (x160000_1), (x160001_1), (by first | rfl | (simp; done) | (simp [*]; done)), H', ⟨by have := HK1.out; have := HJ13.out; omega⟩, ⟨by (with_reducible repeat (first | apply Kd.R_alloc | apply Kd.R_drewN | apply Kd.R_drew)); exact Kd.R_mono HO171.out (fun _ hk => trivial)⟩, ⟨by (with_reducible repeat (first | refine blk_drewN ?_ _ | refine blk_drew ?_ | refine blk_alloc ?_ _)); exact BK159.out⟩, ⟨by repeat (first | (with_reducible first | exact HB.out | apply below_alloc | apply pw_below_drewN | apply below_drew1 | refine below_set ?_ GE159.out | refine below_set ?_ GE167.out | refine below_set ?_ GE168.out) | exact HB.out)⟩⟩
             ·rw [if_neg c20] at H
              exact absurd H (by simp)
            ·rw [if_neg c19] at H
             have c19b0 : (t165 == 0) = false := beq_eq_false_iff_ne.mpr c19
             have c19b1 : (t165 != 0) = true := bne_iff_ne.mpr c19
             simp only [Option.some.injEq, Prod.mk.injEq] at H
             obtain ⟨rfl, rfl, rfl⟩ := H
             try go_wp2_with (first | ((with_reducible refine gate_callee (f := 35) rfl ?_); refine goesL_ (some 24) rfl rfl Tryd.func35 (by kernel_rfl) rfl #[.string (a0.extract (x5_1 : Int).toNat a0.size), .int .i64 x5_1] rfl (by (try simp only [List.map_toArray, List.map_cons, List.map_nil]); first | done | rfl | (simp only [List.length_drop, List.length_take]; rfl)) ?_; (with_reducible refine (token_next.calls kj13 (a0.extract (x5_1 : Int).toNat a0.size) x5_1 t160 t161 t162 t163 t164 t165 t166 _ A18.out).mono ?_); rintro e w30 ⟨rfl, hb⟩; refine ⟨_, rfl, ?_⟩; have n0_ := Aside0.mk (Kd.R_below (by (with_reducible repeat (first | apply Kd.R_alloc | apply Kd.R_drewN | apply Kd.R_drew)); exact HO_4.out) hb); have n1_ := Aside0.mk (blk_below (g := gb159) (o := .cells #[.int .i64 x160000_1, .int .i64 x160001_1] 32 (0, 0)) (by (with_reducible repeat (first | refine blk_drewN ?_ _ | refine blk_drew ?_ | refine blk_alloc ?_ _)); exact BK159.out) hb); have n2_ := Aside0.mk (below_step (by repeat (first | (with_reducible first | exact HB.out | apply below_alloc | apply pw_below_drewN | apply below_drew1 | refine below_set ?_ GE159.out) | exact HB.out)) hb); clear HO_4; clear BK159; clear HB; have HO_4 := n0_; have BK159 := n1_; have HB := n2_; clear n0_ n1_ n2_; (try clear hb); (try clear hb2); (try clear hk); (try clear hi)) | ((with_reducible refine gate_dst (N := 7) rfl ?_); refine box_event ?hg (N := 7) ?hd (cs := #[.int .i64 0, .int .i64 0, .string (⟨#[]⟩ : ByteArray), .int .i64 0]) (t := 37) ?hr ?_; (case hd => rfl); (case hg => rfl); (case hr => first | (go_simp; done) | (go_simp; rfl)); intro gb167 hg w31 hbox hb; have n0_ := Aside0.mk (Kd.R_below (Kd.R_elderB (by (with_reducible repeat (first | apply Kd.R_alloc | apply Kd.R_drewN | apply Kd.R_drew)); exact HO_4.out) gb167 (Nat.le_of_eq hg.symm)) hb); have n1_ := Aside0.mk (blk_below (g := gb159) (o := .cells #[.int .i64 x160000_1, .int .i64 x160001_1] 32 (0, 0)) (by (with_reducible repeat (first | refine blk_drewN ?_ _ | refine blk_drew ?_ | refine blk_alloc ?_ _)); exact BK159.out) hb); have n2_ := Aside0.mk (below_step (by repeat (first | (with_reducible first | exact HB.out | apply below_alloc | apply pw_below_drewN | apply below_drew1 | refine below_set ?_ GE159.out) | exact HB.out)) hb); have n3_ := Aside0.mk (hbox); have n4_ := Aside0.mk ((by rw [hg]; exact (below_size (by repeat (first | (with_reducible first | exact HB.out | apply below_alloc | apply pw_below_drewN | apply below_drew1 | refine below_set ?_ GE159.out) | exact HB.out))) : w.heap.size ≤ gb167)); have n5_ := Aside0.mk ((by rw [hg]; exact (below_size (by repeat (first | (with_reducible first | exact HB.out | apply below_alloc | apply pw_below_drewN | apply below_drew1 | refine below_set ?_ GE159.out) | exact HB.out))) : w.heap.size ≤ gb167)); have n6_ := Aside0.mk ((by rw [hg]; exact Nat.ne_of_lt (blk_lt (g := gb159) (o := .cells #[.int .i64 x160000_1, .int .i64 x160001_1] 32 (0, 0)) (by (with_reducible repeat (first | refine blk_drewN ?_ _ | refine blk_drew ?_ | refine blk_alloc ?_ _)); exact BK159.out)) : gb159 ≠ gb167)); have n7_ := Aside0.mk ((by rw [hg]; exact Nat.ne_of_gt (blk_lt (g := gb159) (o := .cells #[.int .i64 x160000_1, .int .i64 x160001_1] 32 (0, 0)) (by (with_reducible repeat (first | refine blk_drewN ?_ _ | refine blk_drew ?_ | refine blk_alloc ?_ _)); exact BK159.out)) : gb167 ≠ gb159)); clear HO_4; clear BK159; clear HB; have HO_4 := n0_; have BK159 := n1_; have HB := n2_; have BK167 := n3_; have GW167 := n4_; have GE167 := n5_; have NB159_167 := n6_; have NB167_159 := n7_; clear n0_ n1_ n2_ n3_ n4_ n5_ n6_ n7_; clear hb hbox hg) | ((with_reducible refine gate_dst (N := 9) rfl ?_); refine box_event ?hg (N := 9) ?hd (cs := #[.int .i64 0, .int .i64 0]) (t := 32) ?hr ?_; (case hd => rfl); (case hg => rfl); (case hr => first | (go_simp; done) | (go_simp; rfl)); intro gb168 hg w32 hbox hb; have n0_ := Aside0.mk (Kd.R_below (by (with_reducible repeat (first | apply Kd.R_alloc | apply Kd.R_drewN | apply Kd.R_drew)); exact HO_4.out) hb); have n1_ := Aside0.mk (blk_below (g := gb159) (o := .cells #[.int .i64 x160000_1, .int .i64 x160001_1] 32 (0, 0)) (by (with_reducible repeat (first | refine blk_drewN ?_ _ | refine blk_drew ?_ | refine blk_alloc ?_ _)); exact BK159.out) hb); have n2_ := Aside0.mk (blk_below (g := gb167) (o := .cells #[.int .i64 0, .int .i64 0, .string (⟨#[]⟩ : ByteArray), .int .i64 0] 37 (0, 0)) (by (with_reducible repeat (first | refine blk_drewN ?_ _ | refine blk_drew ?_ | refine blk_alloc ?_ _)); exact BK167.out) hb); have n3_ := Aside0.mk (below_step (by repeat (first | (with_reducible first | exact HB.out | apply below_alloc | apply pw_below_drewN | apply below_drew1 | refine below_set ?_ GE159.out | refine below_set ?_ GE167.out) | exact HB.out)) hb); have n4_ := Aside0.mk (hbox); have n5_ := Aside0.mk ((by rw [hg]; exact (below_size (by repeat (first | (with_reducible first | exact HB.out | apply below_alloc | apply pw_below_drewN | apply below_drew1 | refine below_set ?_ GE159.out | refine below_set ?_ GE167.out) | exact HB.out))) : w.heap.size ≤ gb168)); have n6_ := Aside0.mk ((by rw [hg]; exact (below_size (by repeat (first | (with_reducible first | exact HB.out | apply below_alloc | apply pw_below_drewN | apply below_drew1 | refine below_set ?_ GE159.out | refine below_set ?_ GE167.out) | exact HB.out))) : w.heap.size ≤ gb168)); have n7_ := Aside0.mk ((by rw [hg]; exact Nat.ne_of_lt (blk_lt (g := gb159) (o := .cells #[.int .i64 x160000_1, .int .i64 x160001_1] 32 (0, 0)) (by (with_reducible repeat (first | refine blk_drewN ?_ _ | refine blk_drew ?_ | refine blk_alloc ?_ _)); exact BK159.out)) : gb159 ≠ gb168)); have n8_ := Aside0.mk ((by rw [hg]; exact Nat.ne_of_gt (blk_lt (g := gb159) (o := .cells #[.int .i64 x160000_1, .int .i64 x160001_1] 32 (0, 0)) (by (with_reducible repeat (first | refine blk_drewN ?_ _ | refine blk_drew ?_ | refine blk_alloc ?_ _)); exact BK159.out)) : gb168 ≠ gb159)); have n9_ := Aside0.mk ((by rw [hg]; exact Nat.ne_of_lt (blk_lt (g := gb167) (o := .cells #[.int .i64 0, .int .i64 0, .string (⟨#[]⟩ : ByteArray), .int .i64 0] 37 (0, 0)) (by (with_reducible repeat (first | refine blk_drewN ?_ _ | refine blk_drew ?_ | refine blk_alloc ?_ _)); exact BK167.out)) : gb167 ≠ gb168)); have n10_ := Aside0.mk ((by rw [hg]; exact Nat.ne_of_gt (blk_lt (g := gb167) (o := .cells #[.int .i64 0, .int .i64 0, .string (⟨#[]⟩ : ByteArray), .int .i64 0] 37 (0, 0)) (by (with_reducible repeat (first | refine blk_drewN ?_ _ | refine blk_drew ?_ | refine blk_alloc ?_ _)); exact BK167.out)) : gb168 ≠ gb167)); clear HO_4; clear BK159; clear BK167; clear HB; have HO_4 := n0_; have BK159 := n1_; have BK167 := n2_; have HB := n3_; have BK168 := n4_; have GW168 := n5_; have GE168 := n6_; have NB159_168 := n7_; have NB168_159 := n8_; have NB167_168 := n9_; have NB168_167 := n10_; clear n0_ n1_ n2_ n3_ n4_ n5_ n6_ n7_ n8_ n9_ n10_; clear hb hbox hg; have hnb33 := NB167_159.out; have hnc33 := NB159_167.out; have hnb34 := NB167_168.out; have hnc34 := NB168_167.out; have hcz35_0 : w32.cell? ⟨gb167, 0, none⟩ = some (.int .i64 0) := (blk_cell BK167.out 0).trans rfl; have hcz35_1 : w32.cell? ⟨gb167, 1, none⟩ = some (.int .i64 0) := (blk_cell BK167.out 1).trans rfl; have hcz35_2 : w32.cell? ⟨gb167, 2, none⟩ = some (.string (⟨#[]⟩ : ByteArray)) := (blk_cell BK167.out 2).trans rfl; have hcz35_3 : w32.cell? ⟨gb167, 3, none⟩ = some (.int .i64 0) := (blk_cell BK167.out 3).trans rfl; have hfz35_0 := blk_frozen BK167.out 0; have hfz35_1 := blk_frozen BK167.out 1; have hfz35_2 := blk_frozen BK167.out 2; have hfz35_3 := blk_frozen BK167.out 3; have hnb36 := NB168_159.out; have hnc36 := NB159_168.out; have hcz37_0 : w32.cell? ⟨gb168, 0, none⟩ = some (.int .i64 0) := (blk_cell BK168.out 0).trans rfl; have hcz37_1 : w32.cell? ⟨gb168, 1, none⟩ = some (.int .i64 0) := (blk_cell BK168.out 1).trans rfl; have hfz37_0 := blk_frozen BK168.out 0; have hfz37_1 := blk_frozen BK168.out 1))
             have n0_ : Aside0 (Kd.R k37 37 ((((((w32.setCell ⟨gb167, 0, none⟩ (.int .i64 t160)).setCell ⟨gb167, 1, none⟩ (.int .i64 t161)).setCell ⟨gb167, 2, none⟩ (.string t162)).setCell ⟨gb167, 3, none⟩ (.int .i64 t163)).setCell ⟨gb168, 0, none⟩ (.int .i64 t165)).setCell ⟨gb168, 1, none⟩ (.int .i64 t166)) w.heap.size (fun k_ => k_ ≠ gb167) u4 x4_1) := ⟨by (with_reducible repeat (first | apply Kd.R_alloc | apply Kd.R_drewN | apply Kd.R_drew)); exact Kd.R_mono (Kd.R_far (p := ⟨gb168, 1, none⟩) (Kd.R_far (p := ⟨gb168, 0, none⟩) (Kd.R_far (p := ⟨gb167, 3, none⟩) (Kd.R_far (p := ⟨gb167, 2, none⟩) (Kd.R_far (p := ⟨gb167, 1, none⟩) (Kd.R_far (p := ⟨gb167, 0, none⟩) (Kd.R_types (Kd.R_mono HO_4.out (fun k_ hk => (⟨hk, hk.2⟩ : _ ∧ k_ ≠ gb167))) BK168.out (by decide)) (fun _ hk => hk.1.2) (.int .i64 t160)) (fun _ hk => hk.1.2) (.int .i64 t161)) (fun _ hk => hk.1.2) (.string t162)) (fun _ hk => hk.1.2) (.int .i64 t163)) (fun _ hk => hk.2) (.int .i64 t165)) (fun _ hk => hk.2) (.int .i64 t166)) (fun _ hk => hk.1.1.2)⟩
             have n1_ : Aside0 (((((((w32.setCell ⟨gb167, 0, none⟩ (.int .i64 t160)).setCell ⟨gb167, 1, none⟩ (.int .i64 t161)).setCell ⟨gb167, 2, none⟩ (.string t162)).setCell ⟨gb167, 3, none⟩ (.int .i64 t163)).setCell ⟨gb168, 0, none⟩ (.int .i64 t165)).setCell ⟨gb168, 1, none⟩ (.int .i64 t166)).heap[gb159]? = some (.cells #[.int .i64 x160000_1, .int .i64 x160001_1] 32 (0, 0))) := ⟨by (with_reducible repeat (first | refine blk_drewN ?_ _ | refine blk_drew ?_ | refine blk_alloc ?_ _)); refine blk_far ?_ NB159_168.out _; (with_reducible repeat (first | refine blk_drewN ?_ _ | refine blk_drew ?_ | refine blk_alloc ?_ _)); refine blk_far ?_ NB159_168.out _; (with_reducible repeat (first | refine blk_drewN ?_ _ | refine blk_drew ?_ | refine blk_alloc ?_ _)); refine blk_far ?_ NB159_167.out _; (with_reducible repeat (first | refine blk_drewN ?_ _ | refine blk_drew ?_ | refine blk_alloc ?_ _)); refine blk_far ?_ NB159_167.out _; (with_reducible repeat (first | refine blk_drewN ?_ _ | refine blk_drew ?_ | refine blk_alloc ?_ _)); refine blk_far ?_ NB159_167.out _; (with_reducible repeat (first | refine blk_drewN ?_ _ | refine blk_drew ?_ | refine blk_alloc ?_ _)); refine blk_far ?_ NB159_167.out _; (with_reducible repeat (first | refine blk_drewN ?_ _ | refine blk_drew ?_ | refine blk_alloc ?_ _)); exact BK159.out⟩
             have n2_ : Aside0 (((((((w32.setCell ⟨gb167, 0, none⟩ (.int .i64 t160)).setCell ⟨gb167, 1, none⟩ (.int .i64 t161)).setCell ⟨gb167, 2, none⟩ (.string t162)).setCell ⟨gb167, 3, none⟩ (.int .i64 t163)).setCell ⟨gb168, 0, none⟩ (.int .i64 t165)).setCell ⟨gb168, 1, none⟩ (.int .i64 t166)).heap[gb167]? = some (.cells #[.int .i64 t160, .int .i64 t161, .string t162, .int .i64 t163] 37 (0, 0))) := ⟨by (with_reducible repeat (first | refine blk_drewN ?_ _ | refine blk_drew ?_ | refine blk_alloc ?_ _)); refine blk_far ?_ NB167_168.out _; (with_reducible repeat (first | refine blk_drewN ?_ _ | refine blk_drew ?_ | refine blk_alloc ?_ _)); refine blk_far ?_ NB167_168.out _; (with_reducible repeat (first | refine blk_drewN ?_ _ | refine blk_drew ?_ | refine blk_alloc ?_ _)); refine blk_put (cs := #[.int .i64 t160, .int .i64 t161, .string t162, .int .i64 0]) ?_ 3 _ rfl; (with_reducible repeat (first | refine blk_drewN ?_ _ | refine blk_drew ?_ | refine blk_alloc ?_ _)); refine blk_put (cs := #[.int .i64 t160, .int .i64 t161, .string (⟨#[]⟩ : ByteArray), .int .i64 0]) ?_ 2 _ rfl; (with_reducible repeat (first | refine blk_drewN ?_ _ | refine blk_drew ?_ | refine blk_alloc ?_ _)); refine blk_put (cs := #[.int .i64 t160, .int .i64 0, .string (⟨#[]⟩ : ByteArray), .int .i64 0]) ?_ 1 _ rfl; (with_reducible repeat (first | refine blk_drewN ?_ _ | refine blk_drew ?_ | refine blk_alloc ?_ _)); refine blk_put (cs := #[.int .i64 0, .int .i64 0, .string (⟨#[]⟩ : ByteArray), .int .i64 0]) ?_ 0 _ rfl; (with_reducible repeat (first | refine blk_drewN ?_ _ | refine blk_drew ?_ | refine blk_alloc ?_ _)); exact BK167.out⟩
             have n3_ : Aside0 (((((((w32.setCell ⟨gb167, 0, none⟩ (.int .i64 t160)).setCell ⟨gb167, 1, none⟩ (.int .i64 t161)).setCell ⟨gb167, 2, none⟩ (.string t162)).setCell ⟨gb167, 3, none⟩ (.int .i64 t163)).setCell ⟨gb168, 0, none⟩ (.int .i64 t165)).setCell ⟨gb168, 1, none⟩ (.int .i64 t166)).heap[gb168]? = some (.cells #[.int .i64 t165, .int .i64 t166] 32 (0, 0))) := ⟨by (with_reducible repeat (first | refine blk_drewN ?_ _ | refine blk_drew ?_ | refine blk_alloc ?_ _)); refine blk_put (cs := #[.int .i64 t165, .int .i64 0]) ?_ 1 _ rfl; (with_reducible repeat (first | refine blk_drewN ?_ _ | refine blk_drew ?_ | refine blk_alloc ?_ _)); refine blk_put (cs := #[.int .i64 0, .int .i64 0]) ?_ 0 _ rfl; (with_reducible repeat (first | refine blk_drewN ?_ _ | refine blk_drew ?_ | refine blk_alloc ?_ _)); refine blk_far ?_ NB168_167.out _; (with_reducible repeat (first | refine blk_drewN ?_ _ | refine blk_drew ?_ | refine blk_alloc ?_ _)); refine blk_far ?_ NB168_167.out _; (with_reducible repeat (first | refine blk_drewN ?_ _ | refine blk_drew ?_ | refine blk_alloc ?_ _)); refine blk_far ?_ NB168_167.out _; (with_reducible repeat (first | refine blk_drewN ?_ _ | refine blk_drew ?_ | refine blk_alloc ?_ _)); refine blk_far ?_ NB168_167.out _; (with_reducible repeat (first | refine blk_drewN ?_ _ | refine blk_drew ?_ | refine blk_alloc ?_ _)); exact BK168.out⟩
             have n4_ : Aside0 (Below w.heap.size w ((((((w32.setCell ⟨gb167, 0, none⟩ (.int .i64 t160)).setCell ⟨gb167, 1, none⟩ (.int .i64 t161)).setCell ⟨gb167, 2, none⟩ (.string t162)).setCell ⟨gb167, 3, none⟩ (.int .i64 t163)).setCell ⟨gb168, 0, none⟩ (.int .i64 t165)).setCell ⟨gb168, 1, none⟩ (.int .i64 t166))) := ⟨by repeat (first | (with_reducible first | exact HB.out | apply below_alloc | apply pw_below_drewN | apply below_drew1 | refine below_set ?_ GE159.out | refine below_set ?_ GE167.out | refine below_set ?_ GE168.out) | exact HB.out)⟩
             (try clear HO_4)
             (try clear BK159)
             (try clear BK167)
             (try clear BK168)
             (try clear HB)
             generalize ((((((w32.setCell ⟨gb167, 0, none⟩ (.int .i64 t160)).setCell ⟨gb167, 1, none⟩ (.int .i64 t161)).setCell ⟨gb167, 2, none⟩ (.string t162)).setCell ⟨gb167, 3, none⟩ (.int .i64 t163)).setCell ⟨gb168, 0, none⟩ (.int .i64 t165)).setCell ⟨gb168, 1, none⟩ (.int .i64 t166)) = w38 at n0_ n1_ n2_ n3_ n4_ ⊢
             have HO_4 := n0_
             have BK159 := n1_
             have BK167 := n2_
             have BK168 := n3_
             have HB := n4_
             clear n0_ n1_ n2_ n3_ n4_
             have n0_ := Aside0.mk (Kd.R_drew HO_4.out)
             have n1_ := Aside0.mk (blk_drew BK159.out)
             have n2_ := Aside0.mk (blk_drew BK167.out)
             have n3_ := Aside0.mk (blk_drew BK168.out)
             have n4_ := Aside0.mk (below_drew1 HB.out)
             clear HO_4
             clear BK159
             clear BK167
             clear BK168
             clear HB
             have HO_4 := n0_
             have BK159 := n1_
             have BK167 := n2_
             have BK168 := n3_
             have HB := n4_
             clear n0_ n1_ n2_ n3_ n4_
             refine start_ (n := 3) (S := fun w' => w'.cell? ⟨gb168, 0, none⟩ = some (.int .i64 t165) ∧ w'.cell? ⟨gb168, 1, none⟩ = some (.int .i64 t166)) (ds := []) #[false, false, false] (by kernel_rfl) rfl rfl ⟨(blk_cell BK168.out 0).trans rfl, (blk_cell BK168.out 1).trans rfl⟩ (fun hHeld => ?_)
             generalize w38.drew = w39 at HO_4 BK159 BK167 BK168 HB hHeld ⊢
             refine pure_ (i := 1) (N := some 2) (v := ?_) (a' := ?_) #[false, true, false] rfl rfl (by kernel_rfl) (fun _ _ _ h => h) (Or.inl ⟨by rfl, ?_⟩) ?_ ?_
             rotate_left
             ·intro w'
              go_simp
              with_reducible rfl
             rotate_left
             ·simp only [Act.put, List.setIfInBounds_toArray, List.set_cons_zero, List.set_cons_succ, i64_w, i32_w]
              rfl
             refine take_ (i := 0) (N := some 31) (v := ?_) (a' := ?_) #[true, true, false] rfl rfl (by kernel_rfl) (fun _ _ _ h => h) (Or.inl ⟨by rfl, ?_⟩) hHeld ?_ ?_
             rotate_left
             ·rintro w' ⟨s0, s1⟩
              go_simp
              with_reducible rfl
             rotate_left
             ·simp only [Act.put, List.setIfInBounds_toArray, List.set_cons_zero, List.set_cons_succ, i64_w, i32_w]
              rfl
             refine one_ (i := 2) (N := none) #[true, true, true] rfl rfl (by kernel_rfl) (by decide) (fun K hK => ?_)
             have hs40 : w39.cell? ⟨gb159, 0, none⟩ = some (.int .i64 x160000_1) := (blk_cell BK159.out 0).trans rfl
             have hfs40 := blk_frozen BK159.out 0
             have hns40_1 := NB167_159.out
             have hns40_2 := NB168_159.out
             have hms40_1 := NB159_167.out
             have hms40_2 := NB159_168.out
             have hs41 : w39.cell? ⟨gb159, 1, none⟩ = some (.int .i64 x160001_1) := (blk_cell BK159.out 1).trans rfl
             have hfs41 := blk_frozen BK159.out 1
             have hns41_1 := NB167_159.out
             have hns41_2 := NB168_159.out
             have hms41_1 := NB159_167.out
             have hms41_2 := NB159_168.out
             refine skip_ (w1 := ?_) (by rfl) rfl ?_ ?_
             rotate_left
             ·go_simp
              rfl
             refine hK.out _ _ ⟨((cell_far (p := ⟨gb159, _, none⟩) NB168_159.out _).trans (((cell_far (p := ⟨gb159, _, none⟩) NB168_159.out _).trans (hHeld.1)))), ((cell_far (p := ⟨gb159, _, none⟩) NB168_159.out _).trans (((cell_far (p := ⟨gb159, _, none⟩) NB168_159.out _).trans (hHeld.2))))⟩ (fun hHeld => ?_)
             clear hK K
             refine done_ (by kernel_rfl) ?_
             try go_wp2
             refine bodyPost_ret (results_tc rfl _ _ gb159 32 #[.int .i64 t165, .int .i64 t166] (0, 0) _ rfl (by (with_reducible repeat (first | refine blk_drewN ?_ _ | refine blk_drew ?_ | refine blk_alloc ?_ _)); refine blk_put (cs := #[.int .i64 t165, .int .i64 x160001_1]) ?_ 1 _ rfl; (with_reducible repeat (first | refine blk_drewN ?_ _ | refine blk_drew ?_ | refine blk_alloc ?_ _)); refine blk_put (cs := #[.int .i64 x160000_1, .int .i64 x160001_1]) ?_ 0 _ rfl; (with_reducible repeat (first | refine blk_drewN ?_ _ | refine blk_drew ?_ | refine blk_alloc ?_ _)); exact BK159.out) Tryd.underlying32 rfl (by kernel_rfl)) rfl ?_
             exact ⟨_, by first | rfl | (simp [errW_none, errW_some] <;> rfl) | (simp [*, errW_none, errW_some] <;> rfl), by first | exact Kd.R_nil _ _ _ _ _ | exact Kd.N_nil _ _ _ _ _ | exact Kd.V_nil _ _ _ _ _ | exact Kd.Q_nil _ _ _ _ _ | exact Kd.S_nil _ _ _ _ _, by repeat (first | (with_reducible first | exact HB.out | apply below_alloc | apply pw_below_drewN | apply below_drew1 | refine below_set ?_ GE159.out | refine below_set ?_ GE167.out | refine below_set ?_ GE168.out) | exact HB.out)⟩
       ·rw [if_neg c9] at H
        exact absurd H (by simp)
      ·rw [if_neg c8] at H
       exact absurd H (by simp)
     ·rw [if_neg c7] at H
      exact absurd H (by simp)
    ·rw [if_neg c6] at H
     have c6b0 : decide (x5_1 < (a0.size : Int)) = false := decide_eq_false c6
     clear c6
     simp only [Option.some.injEq, Prod.mk.injEq] at H
     obtain ⟨rfl, rfl, rfl⟩ := H
     have hcz42_0 : wr.cell? ⟨gb159, 0, none⟩ = some (.int .i64 x160000_1) := (blk_cell BK159.out 0).trans rfl
     have hcz42_1 : wr.cell? ⟨gb159, 1, none⟩ = some (.int .i64 x160001_1) := (blk_cell BK159.out 1).trans rfl
     have hfz42_0 := blk_frozen BK159.out 0
     have hfz42_1 := blk_frozen BK159.out 1
     go_wp2
     refine bodyPost_ret (results_tc rfl _ _ gb159 32 #[.int .i64 0, .int .i64 0] (0, 0) _ rfl (by (with_reducible repeat (first | refine blk_drewN ?_ _ | refine blk_drew ?_ | refine blk_alloc ?_ _)); refine blk_put (cs := #[.int .i64 0, .int .i64 x160001_1]) ?_ 1 _ rfl; (with_reducible repeat (first | refine blk_drewN ?_ _ | refine blk_drew ?_ | refine blk_alloc ?_ _)); refine blk_put (cs := #[.int .i64 x160000_1, .int .i64 x160001_1]) ?_ 0 _ rfl; (with_reducible repeat (first | refine blk_drewN ?_ _ | refine blk_drew ?_ | refine blk_alloc ?_ _)); exact BK159.out) Tryd.underlying32 rfl (by kernel_rfl)) rfl ?_
     exact ⟨_, by first | rfl | (simp [errW_none, errW_some] <;> rfl) | (simp [*, errW_none, errW_some] <;> rfl), by (with_reducible repeat (first | apply Kd.R_alloc | apply Kd.R_drewN | apply Kd.R_drew)); exact Kd.R_mono (Kd.R_far (p := ⟨gb159, 1, none⟩) (Kd.R_far (p := ⟨gb159, 0, none⟩) (Kd.R_types HO_4.out BK159.out (by decide)) (fun _ hk => hk.2) (.int .i64 0)) (fun _ hk => hk.2) (.int .i64 0)) (fun _ hk => trivial), by repeat (first | (with_reducible first | exact HB.out | apply below_alloc | apply pw_below_drewN | apply below_drew1 | refine below_set ?_ GE159.out) | exact HB.out)⟩

/-! ### linotypelaw22_reads: function 18 -/
def linotypelaw22_reads.f (k : Nat) (a0 : ByteArray) (l1 : List (S37)) : Option (Bool) := (token_Lex.f k a0).bind fun bt172 => (if bt172.2.1 = 0 then ((linotypekit_SameTokens.f k bt172.1 l1).bind fun t178 => (some t178)) else (some false))
theorem linotypelaw22_reads.mono : ∀ a0 a1 k, LeO (linotypelaw22_reads.f k a0 a1) (linotypelaw22_reads.f (k + 1) a0 a1) := by
 intro a0 a1 k
 unfold linotypelaw22_reads.f
 repeat' first
   | (with_reducible exact linotypekit_SameTokens.mono _ _ _)
   | (with_reducible exact token_Lex.mono _ _)
   | (with_reducible exact LeO.refl _)
   | (with_reducible exact LeO.none _)
   | (with_reducible refine LeO.ite ?_ ?_)
   | (with_reducible refine LeO.bind ?_ (fun _ => ?_))
   | exact linotypekit_SameTokens.mono _ _ _
   | exact token_Lex.mono _ _
   | exact LeO.none _
   | refine LeO.ite ?_ ?_
   | refine LeO.bind ?_ (fun _ => ?_)
set_option maxHeartbeats 8000000 in
set_option maxRecDepth 100000 in
theorem linotypelaw22_reads.calls (k : Nat) (a0 : ByteArray) (A1 : Option Addr) (c1 : Nat) (l1 : List (S37)) (r : Bool) (w : World) (hr1 : Kd.C k37 w A1 l1.length l1) (hc1 : l1.length ≤ c1) (h : linotypelaw22_reads.f k a0 l1 = some r) :
  Calls Tryd.prog 18 #[.string a0, .slice A1 l1.length c1] w fun e w' => e = .returned (.bool r) ∧ Below w.heap.size w w' := by
 have hu32 := Tryd.underlying32
 have HR1 := Aside0.mk hr1
 have HC1 := Aside0.mk hc1
 clear hr1 hc1
 have HB := Aside0.mk (Below.refl w.heap.size w)
 have H : ((token_Lex.f k a0).bind fun bt172 => (if bt172.2.1 = 0 then ((linotypekit_SameTokens.f k bt172.1 l1).bind fun t178 => (some t178)) else (some false))) = some r := h
 clear h
 replace H := Option.bind_eq_some_iff.mp H
 obtain ⟨⟨t172, t175, t176⟩, A30, H⟩ := H
 replace H : (if t175 = 0 then ((linotypekit_SameTokens.f k t172 l1).bind fun t178 => (some t178)) else (some false)) = some r := H
 have A3 := Aside0.mk A30
 clear A30
 by_cases c4 : t175 = 0
 ·rw [if_pos c4] at H
  have c4b0 : (t175 == 0) = true := beq_iff_eq.mpr c4
  have c4b1 : (t175 != 0) = false := bne_eq_false_iff_eq.mpr c4
  clear c4
  replace H := Option.bind_eq_some_iff.mp H
  obtain ⟨t178, A50, H⟩ := H
  replace H : (some t178) = some r := H
  have A5 := Aside0.mk A50
  clear A50
  obtain rfl := Option.some.inj H
  go_enter Tryd.func18, Tryd.ntmps18
  go_wp2_with (first | ((with_reducible refine gate_callee (f := 13) rfl ?_); refine goesL_ (some 9) rfl rfl Tryd.func13 (by kernel_rfl) rfl #[.string a0] rfl (by (try simp only [List.map_toArray, List.map_cons, List.map_nil]); first | done | rfl | (simp only [List.length_drop, List.length_take]; rfl)) ?_; (with_reducible refine (token_Lex.calls k a0 t172 t175 t176 _ A3.out).mono ?_); rintro e w6 ⟨v173, rfl, ho0, hb⟩; refine ⟨_, rfl, ?_⟩; have n0_ := Aside0.mk (Kd.R_lower ho0 (below_size (by repeat (first | (with_reducible first | exact HB.out | apply below_alloc | apply pw_below_drewN | apply below_drew1) | exact HB.out)))); have n1_ := Aside0.mk (below_step (by repeat (first | (with_reducible first | exact HB.out | apply below_alloc | apply pw_below_drewN | apply below_drew1) | exact HB.out)) hb); clear HB; have HO174 := n0_; have HB := n1_; clear n0_ n1_; (try clear hb); (try clear hb2); (try clear hk); (try clear hi); (try clear ho0)) | ((with_reducible refine gate_dst (N := 6) rfl ?_); refine box_event ?hg (N := 6) ?hd (cs := #[.int .i64 0, .int .i64 0]) (t := 32) ?hr ?_; (case hd => rfl); (case hg => rfl); (case hr => first | (go_simp; done) | (go_simp; rfl)); intro gb177 hg w7 hbox hb; have n0_ := Aside0.mk (Kd.R_below (by (with_reducible repeat (first | apply Kd.R_alloc | apply Kd.R_drewN | apply Kd.R_drew)); exact HO174.out) hb); have n1_ := Aside0.mk (below_step (by repeat (first | (with_reducible first | exact HB.out | apply below_alloc | apply pw_below_drewN | apply below_drew1) | exact HB.out)) hb); have n2_ := Aside0.mk (hbox); have n3_ := Aside0.mk ((by rw [hg]; exact (below_size (by repeat (first | (with_reducible first | exact HB.out | apply below_alloc | apply pw_below_drewN | apply below_drew1) | exact HB.out))) : w.heap.size ≤ gb177)); have n4_ := Aside0.mk ((by rw [hg]; exact (below_size (by repeat (first | (with_reducible first | exact HB.out | apply below_alloc | apply pw_below_drewN | apply below_drew1) | exact HB.out))) : w.heap.size ≤ gb177)); clear HO174; clear HB; have HO174 := n0_; have HB := n1_; have BK177 := n2_; have GW177 := n3_; have GE177 := n4_; clear n0_ n1_ n2_ n3_ n4_; clear hb hbox hg; have hcz8_0 : w7.cell? ⟨gb177, 0, none⟩ = some (.int .i64 0) := (blk_cell BK177.out 0).trans rfl; have hcz8_1 : w7.cell? ⟨gb177, 1, none⟩ = some (.int .i64 0) := (blk_cell BK177.out 1).trans rfl; have hfz8_0 := blk_frozen BK177.out 0; have hfz8_1 := blk_frozen BK177.out 1; obtain ⟨Ao9, co9, eo9⟩ := Kd.R_slice HO174.out; subst eo9) | (go_at_call 11; (with_reducible refine (linotypekit_SameTokens.calls k _ _ t172 _ _ l1 t178 _ ?side1 ?side2 ?side3 ?side4 A5.out).mono ?_); (case side1 => refine (Kd.R_reads' (e := 37) (base := w.heap.size) (ok := fun k_ => True) (n := t172.length) (c := co9) ?_).2.2; exact (by (with_reducible repeat (first | apply Kd.R_alloc | apply Kd.R_drewN | apply Kd.R_drew)); exact (Kd.R_mono (Kd.R_far (p := ⟨gb177, 1, none⟩) (Kd.R_far (p := ⟨gb177, 0, none⟩) (Kd.R_types HO174.out BK177.out (by decide)) (fun _ hk => hk.2) (.int .i64 t175)) (fun _ hk => hk.2) (.int .i64 t176)) (fun _ h_ => h_.1)))); (case side2 => exact (Kd.R_reads' HO174.out).2.1); (case side3 => exact Kd.C_below HR1.out (by repeat (first | (with_reducible first | exact HB.out | apply below_alloc | apply pw_below_drewN | apply below_drew1 | refine below_set ?_ GE177.out) | exact HB.out))); (case side4 => exact HC1.out); rintro e w' ⟨rfl, ⟨nd, rfl⟩⟩))
  go_ret
  exact ⟨by first | rfl | (simp [errW_none, errW_some] <;> rfl) | (simp [*, errW_none, errW_some] <;> rfl), by repeat (first | (with_reducible first | exact HB.out | apply below_alloc | apply pw_below_drewN | apply below_drew1 | refine below_set ?_ GE177.out) | exact HB.out)⟩
 ·rw [if_neg c4] at H
  have c4b0 : (t175 == 0) = false := beq_eq_false_iff_ne.mpr c4
  have c4b1 : (t175 != 0) = true := bne_iff_ne.mpr c4
  obtain rfl := Option.some.inj H
  go_enter Tryd.func18, Tryd.ntmps18
  go_wp2_with (first | ((with_reducible refine gate_callee (f := 13) rfl ?_); refine goesL_ (some 9) rfl rfl Tryd.func13 (by kernel_rfl) rfl #[.string a0] rfl (by (try simp only [List.map_toArray, List.map_cons, List.map_nil]); first | done | rfl | (simp only [List.length_drop, List.length_take]; rfl)) ?_; (with_reducible refine (token_Lex.calls k a0 t172 t175 t176 _ A3.out).mono ?_); rintro e w10 ⟨v173, rfl, ho0, hb⟩; refine ⟨_, rfl, ?_⟩; have n0_ := Aside0.mk (Kd.R_lower ho0 (below_size (by repeat (first | (with_reducible first | exact HB.out | apply below_alloc | apply pw_below_drewN | apply below_drew1) | exact HB.out)))); have n1_ := Aside0.mk (below_step (by repeat (first | (with_reducible first | exact HB.out | apply below_alloc | apply pw_below_drewN | apply below_drew1) | exact HB.out)) hb); clear HB; have HO174 := n0_; have HB := n1_; clear n0_ n1_; (try clear hb); (try clear hb2); (try clear hk); (try clear hi); (try clear ho0)) | ((with_reducible refine gate_dst (N := 6) rfl ?_); refine box_event ?hg (N := 6) ?hd (cs := #[.int .i64 0, .int .i64 0]) (t := 32) ?hr ?_; (case hd => rfl); (case hg => rfl); (case hr => first | (go_simp; done) | (go_simp; rfl)); intro gb177 hg w11 hbox hb; have n0_ := Aside0.mk (Kd.R_below (by (with_reducible repeat (first | apply Kd.R_alloc | apply Kd.R_drewN | apply Kd.R_drew)); exact HO174.out) hb); have n1_ := Aside0.mk (below_step (by repeat (first | (with_reducible first | exact HB.out | apply below_alloc | apply pw_below_drewN | apply below_drew1) | exact HB.out)) hb); have n2_ := Aside0.mk (hbox); have n3_ := Aside0.mk ((by rw [hg]; exact (below_size (by repeat (first | (with_reducible first | exact HB.out | apply below_alloc | apply pw_below_drewN | apply below_drew1) | exact HB.out))) : w.heap.size ≤ gb177)); have n4_ := Aside0.mk ((by rw [hg]; exact (below_size (by repeat (first | (with_reducible first | exact HB.out | apply below_alloc | apply pw_below_drewN | apply below_drew1) | exact HB.out))) : w.heap.size ≤ gb177)); clear HO174; clear HB; have HO174 := n0_; have HB := n1_; have BK177 := n2_; have GW177 := n3_; have GE177 := n4_; clear n0_ n1_ n2_ n3_ n4_; clear hb hbox hg; have hcz12_0 : w11.cell? ⟨gb177, 0, none⟩ = some (.int .i64 0) := (blk_cell BK177.out 0).trans rfl; have hcz12_1 : w11.cell? ⟨gb177, 1, none⟩ = some (.int .i64 0) := (blk_cell BK177.out 1).trans rfl; have hfz12_0 := blk_frozen BK177.out 0; have hfz12_1 := blk_frozen BK177.out 1))
  go_ret
  exact ⟨by first | rfl | (simp [errW_none, errW_some] <;> rfl) | (simp [*, errW_none, errW_some] <;> rfl), by repeat (first | (with_reducible first | exact HB.out | apply below_alloc | apply pw_below_drewN | apply below_drew1 | refine below_set ?_ GE177.out) | exact HB.out)⟩

/-! ### linotypelaw22_awake: function 12 -/
def linotypelaw22_awake.f (k : Nat)  : Option (Bool) := (linotypelaw22_word.f (⟨#[97]⟩ : ByteArray) 0).bind fun bt179 => ((linotypelaw22_sign.f (⟨#[58]⟩ : ByteArray) 1).bind fun bt183 => ((linotypelaw22_word.f (⟨#[109, 111, 118]⟩ : ByteArray) 3).bind fun bt187 => ((linotypelaw22_word.f (⟨#[97, 108]⟩ : ByteArray) 7).bind fun bt191 => ((linotypelaw22_sign.f (⟨#[44]⟩ : ByteArray) 9).bind fun bt195 => ((linotypelaw22_sign.f (⟨#[91]⟩ : ByteArray) 10).bind fun bt199 => ((linotypelaw22_word.f (⟨#[114, 98, 120]⟩ : ByteArray) 11).bind fun bt203 => ((linotypelaw22_sign.f (⟨#[43]⟩ : ByteArray) 14).bind fun bt207 => ((linotypelaw22_number.f 16 15).bind fun bt211 => ((linotypelaw22_sign.f (⟨#[93]⟩ : ByteArray) 19).bind fun bt215 => ((linotypelaw22_reads.f k (⟨#[97, 58, 32, 109, 111, 118, 32, 97, 108, 44, 91, 114, 98, 120, 43, 48, 120, 49, 48, 93, 32, 59, 32, 120]⟩ : ByteArray) (([(⟨bt179.1, bt179.2.1, bt179.2.2.1, bt179.2.2.2⟩ : S37), (⟨bt183.1, bt183.2.1, bt183.2.2.1, bt183.2.2.2⟩ : S37), (⟨bt187.1, bt187.2.1, bt187.2.2.1, bt187.2.2.2⟩ : S37), (⟨bt191.1, bt191.2.1, bt191.2.2.1, bt191.2.2.2⟩ : S37), (⟨bt195.1, bt195.2.1, bt195.2.2.1, bt195.2.2.2⟩ : S37), (⟨bt199.1, bt199.2.1, bt199.2.2.1, bt199.2.2.2⟩ : S37), (⟨bt203.1, bt203.2.1, bt203.2.2.1, bt203.2.2.2⟩ : S37), (⟨bt207.1, bt207.2.1, bt207.2.2.1, bt207.2.2.2⟩ : S37), (⟨bt211.1, bt211.2.1, bt211.2.2.1, bt211.2.2.2⟩ : S37), (⟨bt215.1, bt215.2.1, bt215.2.2.1, bt215.2.2.2⟩ : S37)] : List (S37)))).bind fun t222 => (some t222)))))))))))
theorem linotypelaw22_awake.mono : ∀ k, LeO (linotypelaw22_awake.f k ) (linotypelaw22_awake.f (k + 1) ) := by
 intro  k
 unfold linotypelaw22_awake.f
 repeat' first
   | (with_reducible exact linotypelaw22_reads.mono _ _ _)
   | (with_reducible exact LeO.refl _)
   | (with_reducible exact LeO.none _)
   | (with_reducible refine LeO.ite ?_ ?_)
   | (with_reducible refine LeO.bind ?_ (fun _ => ?_))
   | exact linotypelaw22_reads.mono _ _ _
   | exact LeO.none _
   | refine LeO.ite ?_ ?_
   | refine LeO.bind ?_ (fun _ => ?_)
set_option maxHeartbeats 8000000 in
set_option maxRecDepth 100000 in
theorem linotypelaw22_awake.calls (k : Nat)  (r : Bool) (w : World) (h : linotypelaw22_awake.f k  = some r) :
  Calls Tryd.prog 12 #[] w fun e w' => e = .returned (.bool r) ∧ Below w.heap.size w w' := by
 have HB := Aside0.mk (Below.refl w.heap.size w)
 have H : ((linotypelaw22_word.f (⟨#[97]⟩ : ByteArray) 0).bind fun bt179 => ((linotypelaw22_sign.f (⟨#[58]⟩ : ByteArray) 1).bind fun bt183 => ((linotypelaw22_word.f (⟨#[109, 111, 118]⟩ : ByteArray) 3).bind fun bt187 => ((linotypelaw22_word.f (⟨#[97, 108]⟩ : ByteArray) 7).bind fun bt191 => ((linotypelaw22_sign.f (⟨#[44]⟩ : ByteArray) 9).bind fun bt195 => ((linotypelaw22_sign.f (⟨#[91]⟩ : ByteArray) 10).bind fun bt199 => ((linotypelaw22_word.f (⟨#[114, 98, 120]⟩ : ByteArray) 11).bind fun bt203 => ((linotypelaw22_sign.f (⟨#[43]⟩ : ByteArray) 14).bind fun bt207 => ((linotypelaw22_number.f 16 15).bind fun bt211 => ((linotypelaw22_sign.f (⟨#[93]⟩ : ByteArray) 19).bind fun bt215 => ((linotypelaw22_reads.f k (⟨#[97, 58, 32, 109, 111, 118, 32, 97, 108, 44, 91, 114, 98, 120, 43, 48, 120, 49, 48, 93, 32, 59, 32, 120]⟩ : ByteArray) (([(⟨bt179.1, bt179.2.1, bt179.2.2.1, bt179.2.2.2⟩ : S37), (⟨bt183.1, bt183.2.1, bt183.2.2.1, bt183.2.2.2⟩ : S37), (⟨bt187.1, bt187.2.1, bt187.2.2.1, bt187.2.2.2⟩ : S37), (⟨bt191.1, bt191.2.1, bt191.2.2.1, bt191.2.2.2⟩ : S37), (⟨bt195.1, bt195.2.1, bt195.2.2.1, bt195.2.2.2⟩ : S37), (⟨bt199.1, bt199.2.1, bt199.2.2.1, bt199.2.2.2⟩ : S37), (⟨bt203.1, bt203.2.1, bt203.2.2.1, bt203.2.2.2⟩ : S37), (⟨bt207.1, bt207.2.1, bt207.2.2.1, bt207.2.2.2⟩ : S37), (⟨bt211.1, bt211.2.1, bt211.2.2.1, bt211.2.2.2⟩ : S37), (⟨bt215.1, bt215.2.1, bt215.2.2.1, bt215.2.2.2⟩ : S37)] : List (S37)))).bind fun t222 => (some t222)))))))))))) = some r := h
 clear h
 replace H := Option.bind_eq_some_iff.mp H
 obtain ⟨⟨t179, t180, t181, t182⟩, A10, H⟩ := H
 replace H : ((linotypelaw22_sign.f (⟨#[58]⟩ : ByteArray) 1).bind fun bt183 => ((linotypelaw22_word.f (⟨#[109, 111, 118]⟩ : ByteArray) 3).bind fun bt187 => ((linotypelaw22_word.f (⟨#[97, 108]⟩ : ByteArray) 7).bind fun bt191 => ((linotypelaw22_sign.f (⟨#[44]⟩ : ByteArray) 9).bind fun bt195 => ((linotypelaw22_sign.f (⟨#[91]⟩ : ByteArray) 10).bind fun bt199 => ((linotypelaw22_word.f (⟨#[114, 98, 120]⟩ : ByteArray) 11).bind fun bt203 => ((linotypelaw22_sign.f (⟨#[43]⟩ : ByteArray) 14).bind fun bt207 => ((linotypelaw22_number.f 16 15).bind fun bt211 => ((linotypelaw22_sign.f (⟨#[93]⟩ : ByteArray) 19).bind fun bt215 => ((linotypelaw22_reads.f k (⟨#[97, 58, 32, 109, 111, 118, 32, 97, 108, 44, 91, 114, 98, 120, 43, 48, 120, 49, 48, 93, 32, 59, 32, 120]⟩ : ByteArray) (([(⟨t179, t180, t181, t182⟩ : S37), (⟨bt183.1, bt183.2.1, bt183.2.2.1, bt183.2.2.2⟩ : S37), (⟨bt187.1, bt187.2.1, bt187.2.2.1, bt187.2.2.2⟩ : S37), (⟨bt191.1, bt191.2.1, bt191.2.2.1, bt191.2.2.2⟩ : S37), (⟨bt195.1, bt195.2.1, bt195.2.2.1, bt195.2.2.2⟩ : S37), (⟨bt199.1, bt199.2.1, bt199.2.2.1, bt199.2.2.2⟩ : S37), (⟨bt203.1, bt203.2.1, bt203.2.2.1, bt203.2.2.2⟩ : S37), (⟨bt207.1, bt207.2.1, bt207.2.2.1, bt207.2.2.2⟩ : S37), (⟨bt211.1, bt211.2.1, bt211.2.2.1, bt211.2.2.2⟩ : S37), (⟨bt215.1, bt215.2.1, bt215.2.2.1, bt215.2.2.2⟩ : S37)] : List (S37)))).bind fun t222 => (some t222))))))))))) = some r := H
 have A1 := Aside0.mk A10
 clear A10
 replace H := Option.bind_eq_some_iff.mp H
 obtain ⟨⟨t183, t184, t185, t186⟩, A20, H⟩ := H
 replace H : ((linotypelaw22_word.f (⟨#[109, 111, 118]⟩ : ByteArray) 3).bind fun bt187 => ((linotypelaw22_word.f (⟨#[97, 108]⟩ : ByteArray) 7).bind fun bt191 => ((linotypelaw22_sign.f (⟨#[44]⟩ : ByteArray) 9).bind fun bt195 => ((linotypelaw22_sign.f (⟨#[91]⟩ : ByteArray) 10).bind fun bt199 => ((linotypelaw22_word.f (⟨#[114, 98, 120]⟩ : ByteArray) 11).bind fun bt203 => ((linotypelaw22_sign.f (⟨#[43]⟩ : ByteArray) 14).bind fun bt207 => ((linotypelaw22_number.f 16 15).bind fun bt211 => ((linotypelaw22_sign.f (⟨#[93]⟩ : ByteArray) 19).bind fun bt215 => ((linotypelaw22_reads.f k (⟨#[97, 58, 32, 109, 111, 118, 32, 97, 108, 44, 91, 114, 98, 120, 43, 48, 120, 49, 48, 93, 32, 59, 32, 120]⟩ : ByteArray) (([(⟨t179, t180, t181, t182⟩ : S37), (⟨t183, t184, t185, t186⟩ : S37), (⟨bt187.1, bt187.2.1, bt187.2.2.1, bt187.2.2.2⟩ : S37), (⟨bt191.1, bt191.2.1, bt191.2.2.1, bt191.2.2.2⟩ : S37), (⟨bt195.1, bt195.2.1, bt195.2.2.1, bt195.2.2.2⟩ : S37), (⟨bt199.1, bt199.2.1, bt199.2.2.1, bt199.2.2.2⟩ : S37), (⟨bt203.1, bt203.2.1, bt203.2.2.1, bt203.2.2.2⟩ : S37), (⟨bt207.1, bt207.2.1, bt207.2.2.1, bt207.2.2.2⟩ : S37), (⟨bt211.1, bt211.2.1, bt211.2.2.1, bt211.2.2.2⟩ : S37), (⟨bt215.1, bt215.2.1, bt215.2.2.1, bt215.2.2.2⟩ : S37)] : List (S37)))).bind fun t222 => (some t222)))))))))) = some r := H
 have A2 := Aside0.mk A20
 clear A20
 replace H := Option.bind_eq_some_iff.mp H
 obtain ⟨⟨t187, t188, t189, t190⟩, A30, H⟩ := H
 replace H : ((linotypelaw22_word.f (⟨#[97, 108]⟩ : ByteArray) 7).bind fun bt191 => ((linotypelaw22_sign.f (⟨#[44]⟩ : ByteArray) 9).bind fun bt195 => ((linotypelaw22_sign.f (⟨#[91]⟩ : ByteArray) 10).bind fun bt199 => ((linotypelaw22_word.f (⟨#[114, 98, 120]⟩ : ByteArray) 11).bind fun bt203 => ((linotypelaw22_sign.f (⟨#[43]⟩ : ByteArray) 14).bind fun bt207 => ((linotypelaw22_number.f 16 15).bind fun bt211 => ((linotypelaw22_sign.f (⟨#[93]⟩ : ByteArray) 19).bind fun bt215 => ((linotypelaw22_reads.f k (⟨#[97, 58, 32, 109, 111, 118, 32, 97, 108, 44, 91, 114, 98, 120, 43, 48, 120, 49, 48, 93, 32, 59, 32, 120]⟩ : ByteArray) (([(⟨t179, t180, t181, t182⟩ : S37), (⟨t183, t184, t185, t186⟩ : S37), (⟨t187, t188, t189, t190⟩ : S37), (⟨bt191.1, bt191.2.1, bt191.2.2.1, bt191.2.2.2⟩ : S37), (⟨bt195.1, bt195.2.1, bt195.2.2.1, bt195.2.2.2⟩ : S37), (⟨bt199.1, bt199.2.1, bt199.2.2.1, bt199.2.2.2⟩ : S37), (⟨bt203.1, bt203.2.1, bt203.2.2.1, bt203.2.2.2⟩ : S37), (⟨bt207.1, bt207.2.1, bt207.2.2.1, bt207.2.2.2⟩ : S37), (⟨bt211.1, bt211.2.1, bt211.2.2.1, bt211.2.2.2⟩ : S37), (⟨bt215.1, bt215.2.1, bt215.2.2.1, bt215.2.2.2⟩ : S37)] : List (S37)))).bind fun t222 => (some t222))))))))) = some r := H
 have A3 := Aside0.mk A30
 clear A30
 replace H := Option.bind_eq_some_iff.mp H
 obtain ⟨⟨t191, t192, t193, t194⟩, A40, H⟩ := H
 replace H : ((linotypelaw22_sign.f (⟨#[44]⟩ : ByteArray) 9).bind fun bt195 => ((linotypelaw22_sign.f (⟨#[91]⟩ : ByteArray) 10).bind fun bt199 => ((linotypelaw22_word.f (⟨#[114, 98, 120]⟩ : ByteArray) 11).bind fun bt203 => ((linotypelaw22_sign.f (⟨#[43]⟩ : ByteArray) 14).bind fun bt207 => ((linotypelaw22_number.f 16 15).bind fun bt211 => ((linotypelaw22_sign.f (⟨#[93]⟩ : ByteArray) 19).bind fun bt215 => ((linotypelaw22_reads.f k (⟨#[97, 58, 32, 109, 111, 118, 32, 97, 108, 44, 91, 114, 98, 120, 43, 48, 120, 49, 48, 93, 32, 59, 32, 120]⟩ : ByteArray) (([(⟨t179, t180, t181, t182⟩ : S37), (⟨t183, t184, t185, t186⟩ : S37), (⟨t187, t188, t189, t190⟩ : S37), (⟨t191, t192, t193, t194⟩ : S37), (⟨bt195.1, bt195.2.1, bt195.2.2.1, bt195.2.2.2⟩ : S37), (⟨bt199.1, bt199.2.1, bt199.2.2.1, bt199.2.2.2⟩ : S37), (⟨bt203.1, bt203.2.1, bt203.2.2.1, bt203.2.2.2⟩ : S37), (⟨bt207.1, bt207.2.1, bt207.2.2.1, bt207.2.2.2⟩ : S37), (⟨bt211.1, bt211.2.1, bt211.2.2.1, bt211.2.2.2⟩ : S37), (⟨bt215.1, bt215.2.1, bt215.2.2.1, bt215.2.2.2⟩ : S37)] : List (S37)))).bind fun t222 => (some t222)))))))) = some r := H
 have A4 := Aside0.mk A40
 clear A40
 replace H := Option.bind_eq_some_iff.mp H
 obtain ⟨⟨t195, t196, t197, t198⟩, A50, H⟩ := H
 replace H : ((linotypelaw22_sign.f (⟨#[91]⟩ : ByteArray) 10).bind fun bt199 => ((linotypelaw22_word.f (⟨#[114, 98, 120]⟩ : ByteArray) 11).bind fun bt203 => ((linotypelaw22_sign.f (⟨#[43]⟩ : ByteArray) 14).bind fun bt207 => ((linotypelaw22_number.f 16 15).bind fun bt211 => ((linotypelaw22_sign.f (⟨#[93]⟩ : ByteArray) 19).bind fun bt215 => ((linotypelaw22_reads.f k (⟨#[97, 58, 32, 109, 111, 118, 32, 97, 108, 44, 91, 114, 98, 120, 43, 48, 120, 49, 48, 93, 32, 59, 32, 120]⟩ : ByteArray) (([(⟨t179, t180, t181, t182⟩ : S37), (⟨t183, t184, t185, t186⟩ : S37), (⟨t187, t188, t189, t190⟩ : S37), (⟨t191, t192, t193, t194⟩ : S37), (⟨t195, t196, t197, t198⟩ : S37), (⟨bt199.1, bt199.2.1, bt199.2.2.1, bt199.2.2.2⟩ : S37), (⟨bt203.1, bt203.2.1, bt203.2.2.1, bt203.2.2.2⟩ : S37), (⟨bt207.1, bt207.2.1, bt207.2.2.1, bt207.2.2.2⟩ : S37), (⟨bt211.1, bt211.2.1, bt211.2.2.1, bt211.2.2.2⟩ : S37), (⟨bt215.1, bt215.2.1, bt215.2.2.1, bt215.2.2.2⟩ : S37)] : List (S37)))).bind fun t222 => (some t222))))))) = some r := H
 have A5 := Aside0.mk A50
 clear A50
 replace H := Option.bind_eq_some_iff.mp H
 obtain ⟨⟨t199, t200, t201, t202⟩, A60, H⟩ := H
 replace H : ((linotypelaw22_word.f (⟨#[114, 98, 120]⟩ : ByteArray) 11).bind fun bt203 => ((linotypelaw22_sign.f (⟨#[43]⟩ : ByteArray) 14).bind fun bt207 => ((linotypelaw22_number.f 16 15).bind fun bt211 => ((linotypelaw22_sign.f (⟨#[93]⟩ : ByteArray) 19).bind fun bt215 => ((linotypelaw22_reads.f k (⟨#[97, 58, 32, 109, 111, 118, 32, 97, 108, 44, 91, 114, 98, 120, 43, 48, 120, 49, 48, 93, 32, 59, 32, 120]⟩ : ByteArray) (([(⟨t179, t180, t181, t182⟩ : S37), (⟨t183, t184, t185, t186⟩ : S37), (⟨t187, t188, t189, t190⟩ : S37), (⟨t191, t192, t193, t194⟩ : S37), (⟨t195, t196, t197, t198⟩ : S37), (⟨t199, t200, t201, t202⟩ : S37), (⟨bt203.1, bt203.2.1, bt203.2.2.1, bt203.2.2.2⟩ : S37), (⟨bt207.1, bt207.2.1, bt207.2.2.1, bt207.2.2.2⟩ : S37), (⟨bt211.1, bt211.2.1, bt211.2.2.1, bt211.2.2.2⟩ : S37), (⟨bt215.1, bt215.2.1, bt215.2.2.1, bt215.2.2.2⟩ : S37)] : List (S37)))).bind fun t222 => (some t222)))))) = some r := H
 have A6 := Aside0.mk A60
 clear A60
 replace H := Option.bind_eq_some_iff.mp H
 obtain ⟨⟨t203, t204, t205, t206⟩, A70, H⟩ := H
 replace H : ((linotypelaw22_sign.f (⟨#[43]⟩ : ByteArray) 14).bind fun bt207 => ((linotypelaw22_number.f 16 15).bind fun bt211 => ((linotypelaw22_sign.f (⟨#[93]⟩ : ByteArray) 19).bind fun bt215 => ((linotypelaw22_reads.f k (⟨#[97, 58, 32, 109, 111, 118, 32, 97, 108, 44, 91, 114, 98, 120, 43, 48, 120, 49, 48, 93, 32, 59, 32, 120]⟩ : ByteArray) (([(⟨t179, t180, t181, t182⟩ : S37), (⟨t183, t184, t185, t186⟩ : S37), (⟨t187, t188, t189, t190⟩ : S37), (⟨t191, t192, t193, t194⟩ : S37), (⟨t195, t196, t197, t198⟩ : S37), (⟨t199, t200, t201, t202⟩ : S37), (⟨t203, t204, t205, t206⟩ : S37), (⟨bt207.1, bt207.2.1, bt207.2.2.1, bt207.2.2.2⟩ : S37), (⟨bt211.1, bt211.2.1, bt211.2.2.1, bt211.2.2.2⟩ : S37), (⟨bt215.1, bt215.2.1, bt215.2.2.1, bt215.2.2.2⟩ : S37)] : List (S37)))).bind fun t222 => (some t222))))) = some r := H
 have A7 := Aside0.mk A70
 clear A70
 replace H := Option.bind_eq_some_iff.mp H
 obtain ⟨⟨t207, t208, t209, t210⟩, A80, H⟩ := H
 replace H : ((linotypelaw22_number.f 16 15).bind fun bt211 => ((linotypelaw22_sign.f (⟨#[93]⟩ : ByteArray) 19).bind fun bt215 => ((linotypelaw22_reads.f k (⟨#[97, 58, 32, 109, 111, 118, 32, 97, 108, 44, 91, 114, 98, 120, 43, 48, 120, 49, 48, 93, 32, 59, 32, 120]⟩ : ByteArray) (([(⟨t179, t180, t181, t182⟩ : S37), (⟨t183, t184, t185, t186⟩ : S37), (⟨t187, t188, t189, t190⟩ : S37), (⟨t191, t192, t193, t194⟩ : S37), (⟨t195, t196, t197, t198⟩ : S37), (⟨t199, t200, t201, t202⟩ : S37), (⟨t203, t204, t205, t206⟩ : S37), (⟨t207, t208, t209, t210⟩ : S37), (⟨bt211.1, bt211.2.1, bt211.2.2.1, bt211.2.2.2⟩ : S37), (⟨bt215.1, bt215.2.1, bt215.2.2.1, bt215.2.2.2⟩ : S37)] : List (S37)))).bind fun t222 => (some t222)))) = some r := H
 have A8 := Aside0.mk A80
 clear A80
 replace H := Option.bind_eq_some_iff.mp H
 obtain ⟨⟨t211, t212, t213, t214⟩, A90, H⟩ := H
 replace H : ((linotypelaw22_sign.f (⟨#[93]⟩ : ByteArray) 19).bind fun bt215 => ((linotypelaw22_reads.f k (⟨#[97, 58, 32, 109, 111, 118, 32, 97, 108, 44, 91, 114, 98, 120, 43, 48, 120, 49, 48, 93, 32, 59, 32, 120]⟩ : ByteArray) (([(⟨t179, t180, t181, t182⟩ : S37), (⟨t183, t184, t185, t186⟩ : S37), (⟨t187, t188, t189, t190⟩ : S37), (⟨t191, t192, t193, t194⟩ : S37), (⟨t195, t196, t197, t198⟩ : S37), (⟨t199, t200, t201, t202⟩ : S37), (⟨t203, t204, t205, t206⟩ : S37), (⟨t207, t208, t209, t210⟩ : S37), (⟨t211, t212, t213, t214⟩ : S37), (⟨bt215.1, bt215.2.1, bt215.2.2.1, bt215.2.2.2⟩ : S37)] : List (S37)))).bind fun t222 => (some t222))) = some r := H
 have A9 := Aside0.mk A90
 clear A90
 replace H := Option.bind_eq_some_iff.mp H
 obtain ⟨⟨t215, t216, t217, t218⟩, A100, H⟩ := H
 replace H : ((linotypelaw22_reads.f k (⟨#[97, 58, 32, 109, 111, 118, 32, 97, 108, 44, 91, 114, 98, 120, 43, 48, 120, 49, 48, 93, 32, 59, 32, 120]⟩ : ByteArray) (([(⟨t179, t180, t181, t182⟩ : S37), (⟨t183, t184, t185, t186⟩ : S37), (⟨t187, t188, t189, t190⟩ : S37), (⟨t191, t192, t193, t194⟩ : S37), (⟨t195, t196, t197, t198⟩ : S37), (⟨t199, t200, t201, t202⟩ : S37), (⟨t203, t204, t205, t206⟩ : S37), (⟨t207, t208, t209, t210⟩ : S37), (⟨t211, t212, t213, t214⟩ : S37), (⟨t215, t216, t217, t218⟩ : S37)] : List (S37)))).bind fun t222 => (some t222)) = some r := H
 have A10 := Aside0.mk A100
 clear A100
 obtain ⟨y219, hy219⟩ : ∃ y_ : List (S37), y_ = (([(⟨t179, t180, t181, t182⟩ : S37), (⟨t183, t184, t185, t186⟩ : S37), (⟨t187, t188, t189, t190⟩ : S37), (⟨t191, t192, t193, t194⟩ : S37), (⟨t195, t196, t197, t198⟩ : S37), (⟨t199, t200, t201, t202⟩ : S37), (⟨t203, t204, t205, t206⟩ : S37), (⟨t207, t208, t209, t210⟩ : S37), (⟨t211, t212, t213, t214⟩ : S37), (⟨t215, t216, t217, t218⟩ : S37)] : List (S37))) := ⟨_, rfl⟩
 replace H : ((linotypelaw22_reads.f k (⟨#[97, 58, 32, 109, 111, 118, 32, 97, 108, 44, 91, 114, 98, 120, 43, 48, 120, 49, 48, 93, 32, 59, 32, 120]⟩ : ByteArray) y219).bind fun t222 => (some t222)) = some r := by first | (rw [hy219]; with_reducible exact H) | (have H2_ := (Option.bind_some _ _).symm.trans H; rw [hy219]; with_reducible exact H2_) | (have H2_ := (Option.bind_some _ _).symm.trans H; with_reducible exact H2_) | with_reducible exact H | (rw [hy219]; exact H) | exact H
 have Ny219 := Aside0.mk hy219
 clear hy219
 replace H := Option.bind_eq_some_iff.mp H
 obtain ⟨t222, A110, H⟩ := H
 replace H : (some t222) = some r := H
 have A11 := Aside0.mk A110
 clear A110
 obtain rfl := Option.some.inj H
 go_enter Tryd.func12, Tryd.ntmps12
 have tok1 : True := trivial
 go_wp2_with (first | ((with_reducible refine gate_callee (f := 15) rfl ?_); refine goesL_ (some 1) rfl rfl Tryd.func15 (by kernel_rfl) rfl #[.string (⟨#[97]⟩ : ByteArray), .int .i64 0] rfl (by (try simp only [List.map_toArray, List.map_cons, List.map_nil]); first | done | rfl | (simp only [List.length_drop, List.length_take]; rfl)) ?_; (with_reducible refine (linotypelaw22_word.calls (⟨#[97]⟩ : ByteArray) 0 t179 t180 t181 t182 _ A1.out).mono ?_); rintro e w12 ⟨rfl, hb⟩; refine ⟨_, rfl, ?_⟩; have n0_ := Aside0.mk (below_step (by repeat (first | (with_reducible first | exact HB.out | apply below_alloc | apply pw_below_drewN | apply below_drew1) | exact HB.out)) hb); clear HB; have HB := n0_; clear n0_; (try clear hb); (try clear hb2); (try clear hk); (try clear hi)) | ((with_reducible refine gate_callee (f := 16) rfl ?_); refine goesL_ (some 2) rfl rfl Tryd.func16 (by kernel_rfl) rfl #[.string (⟨#[58]⟩ : ByteArray), .int .i64 1] rfl (by (try simp only [List.map_toArray, List.map_cons, List.map_nil]); first | done | rfl | (simp only [List.length_drop, List.length_take]; rfl)) ?_; (with_reducible refine (linotypelaw22_sign.calls (⟨#[58]⟩ : ByteArray) 1 t183 t184 t185 t186 _ A2.out).mono ?_); rintro e w13 ⟨rfl, hb⟩; refine ⟨_, rfl, ?_⟩; have n0_ := Aside0.mk (below_step (by repeat (first | (with_reducible first | exact HB.out | apply below_alloc | apply pw_below_drewN | apply below_drew1) | exact HB.out)) hb); clear HB; have HB := n0_; clear n0_; (try clear hb); (try clear hb2); (try clear hk); (try clear hi)) | ((with_reducible refine gate_callee (f := 15) rfl ?_); refine goesL_ (some 3) rfl rfl Tryd.func15 (by kernel_rfl) rfl #[.string (⟨#[109, 111, 118]⟩ : ByteArray), .int .i64 3] rfl (by (try simp only [List.map_toArray, List.map_cons, List.map_nil]); first | done | rfl | (simp only [List.length_drop, List.length_take]; rfl)) ?_; (with_reducible refine (linotypelaw22_word.calls (⟨#[109, 111, 118]⟩ : ByteArray) 3 t187 t188 t189 t190 _ A3.out).mono ?_); rintro e w14 ⟨rfl, hb⟩; refine ⟨_, rfl, ?_⟩; have n0_ := Aside0.mk (below_step (by repeat (first | (with_reducible first | exact HB.out | apply below_alloc | apply pw_below_drewN | apply below_drew1) | exact HB.out)) hb); clear HB; have HB := n0_; clear n0_; (try clear hb); (try clear hb2); (try clear hk); (try clear hi)) | ((with_reducible refine gate_callee (f := 15) rfl ?_); refine goesL_ (some 4) rfl rfl Tryd.func15 (by kernel_rfl) rfl #[.string (⟨#[97, 108]⟩ : ByteArray), .int .i64 7] rfl (by (try simp only [List.map_toArray, List.map_cons, List.map_nil]); first | done | rfl | (simp only [List.length_drop, List.length_take]; rfl)) ?_; (with_reducible refine (linotypelaw22_word.calls (⟨#[97, 108]⟩ : ByteArray) 7 t191 t192 t193 t194 _ A4.out).mono ?_); rintro e w15 ⟨rfl, hb⟩; refine ⟨_, rfl, ?_⟩; have n0_ := Aside0.mk (below_step (by repeat (first | (with_reducible first | exact HB.out | apply below_alloc | apply pw_below_drewN | apply below_drew1) | exact HB.out)) hb); clear HB; have HB := n0_; clear n0_; (try clear hb); (try clear hb2); (try clear hk); (try clear hi)) | ((with_reducible refine gate_callee (f := 16) rfl ?_); refine goesL_ (some 5) rfl rfl Tryd.func16 (by kernel_rfl) rfl #[.string (⟨#[44]⟩ : ByteArray), .int .i64 9] rfl (by (try simp only [List.map_toArray, List.map_cons, List.map_nil]); first | done | rfl | (simp only [List.length_drop, List.length_take]; rfl)) ?_; (with_reducible refine (linotypelaw22_sign.calls (⟨#[44]⟩ : ByteArray) 9 t195 t196 t197 t198 _ A5.out).mono ?_); rintro e w16 ⟨rfl, hb⟩; refine ⟨_, rfl, ?_⟩; have n0_ := Aside0.mk (below_step (by repeat (first | (with_reducible first | exact HB.out | apply below_alloc | apply pw_below_drewN | apply below_drew1) | exact HB.out)) hb); clear HB; have HB := n0_; clear n0_; (try clear hb); (try clear hb2); (try clear hk); (try clear hi)) | ((with_reducible refine gate_callee (f := 16) rfl ?_); refine goesL_ (some 6) rfl rfl Tryd.func16 (by kernel_rfl) rfl #[.string (⟨#[91]⟩ : ByteArray), .int .i64 10] rfl (by (try simp only [List.map_toArray, List.map_cons, List.map_nil]); first | done | rfl | (simp only [List.length_drop, List.length_take]; rfl)) ?_; (with_reducible refine (linotypelaw22_sign.calls (⟨#[91]⟩ : ByteArray) 10 t199 t200 t201 t202 _ A6.out).mono ?_); rintro e w17 ⟨rfl, hb⟩; refine ⟨_, rfl, ?_⟩; have n0_ := Aside0.mk (below_step (by repeat (first | (with_reducible first | exact HB.out | apply below_alloc | apply pw_below_drewN | apply below_drew1) | exact HB.out)) hb); clear HB; have HB := n0_; clear n0_; (try clear hb); (try clear hb2); (try clear hk); (try clear hi)) | ((with_reducible refine gate_callee (f := 15) rfl ?_); refine goesL_ (some 7) rfl rfl Tryd.func15 (by kernel_rfl) rfl #[.string (⟨#[114, 98, 120]⟩ : ByteArray), .int .i64 11] rfl (by (try simp only [List.map_toArray, List.map_cons, List.map_nil]); first | done | rfl | (simp only [List.length_drop, List.length_take]; rfl)) ?_; (with_reducible refine (linotypelaw22_word.calls (⟨#[114, 98, 120]⟩ : ByteArray) 11 t203 t204 t205 t206 _ A7.out).mono ?_); rintro e w18 ⟨rfl, hb⟩; refine ⟨_, rfl, ?_⟩; have n0_ := Aside0.mk (below_step (by repeat (first | (with_reducible first | exact HB.out | apply below_alloc | apply pw_below_drewN | apply below_drew1) | exact HB.out)) hb); clear HB; have HB := n0_; clear n0_; (try clear hb); (try clear hb2); (try clear hk); (try clear hi)) | ((with_reducible refine gate_callee (f := 16) rfl ?_); refine goesL_ (some 8) rfl rfl Tryd.func16 (by kernel_rfl) rfl #[.string (⟨#[43]⟩ : ByteArray), .int .i64 14] rfl (by (try simp only [List.map_toArray, List.map_cons, List.map_nil]); first | done | rfl | (simp only [List.length_drop, List.length_take]; rfl)) ?_; (with_reducible refine (linotypelaw22_sign.calls (⟨#[43]⟩ : ByteArray) 14 t207 t208 t209 t210 _ A8.out).mono ?_); rintro e w19 ⟨rfl, hb⟩; refine ⟨_, rfl, ?_⟩; have n0_ := Aside0.mk (below_step (by repeat (first | (with_reducible first | exact HB.out | apply below_alloc | apply pw_below_drewN | apply below_drew1) | exact HB.out)) hb); clear HB; have HB := n0_; clear n0_; (try clear hb); (try clear hb2); (try clear hk); (try clear hi)) | ((with_reducible refine gate_callee (f := 17) rfl ?_); refine goesL_ (some 9) rfl rfl Tryd.func17 (by kernel_rfl) rfl #[.int .i64 16, .int .i64 15] rfl (by (try simp only [List.map_toArray, List.map_cons, List.map_nil]); first | done | rfl | (simp only [List.length_drop, List.length_take]; rfl)) ?_; (with_reducible refine (linotypelaw22_number.calls 16 15 t211 t212 t213 t214 _ A9.out).mono ?_); rintro e w20 ⟨rfl, hb⟩; refine ⟨_, rfl, ?_⟩; have n0_ := Aside0.mk (below_step (by repeat (first | (with_reducible first | exact HB.out | apply below_alloc | apply pw_below_drewN | apply below_drew1) | exact HB.out)) hb); clear HB; have HB := n0_; clear n0_; (try clear hb); (try clear hb2); (try clear hk); (try clear hi)) | ((with_reducible refine gate_callee (f := 16) rfl ?_); refine goesL_ (some 10) rfl rfl Tryd.func16 (by kernel_rfl) rfl #[.string (⟨#[93]⟩ : ByteArray), .int .i64 19] rfl (by (try simp only [List.map_toArray, List.map_cons, List.map_nil]); first | done | rfl | (simp only [List.length_drop, List.length_take]; rfl)) ?_; (with_reducible refine (linotypelaw22_sign.calls (⟨#[93]⟩ : ByteArray) 19 t215 t216 t217 t218 _ A10.out).mono ?_); rintro e w21 ⟨rfl, hb⟩; refine ⟨_, rfl, ?_⟩; have n0_ := Aside0.mk (below_step (by repeat (first | (with_reducible first | exact HB.out | apply below_alloc | apply pw_below_drewN | apply below_drew1) | exact HB.out)) hb); clear HB; have HB := n0_; clear n0_; (try clear hb); (try clear hb2); (try clear hk); (try clear hi)) | ((with_reducible refine gate_dst (N := 11) rfl ?_); refine Kd.R_lit k37 _ 37 ?hg (N := 11) ?hd (xs := ([(⟨t179, t180, t181, t182⟩ : S37), (⟨t183, t184, t185, t186⟩ : S37), (⟨t187, t188, t189, t190⟩ : S37), (⟨t191, t192, t193, t194⟩ : S37), (⟨t195, t196, t197, t198⟩ : S37), (⟨t199, t200, t201, t202⟩ : S37), (⟨t203, t204, t205, t206⟩ : S37), (⟨t207, t208, t209, t210⟩ : S37), (⟨t211, t212, t213, t214⟩ : S37), (⟨t215, t216, t217, t218⟩ : S37)] : List (S37))) (inner := [.int .i64 t179, .int .i64 t180, .string t181, .int .i64 t182, .int .i64 t183, .int .i64 t184, .string t185, .int .i64 t186, .int .i64 t187, .int .i64 t188, .string t189, .int .i64 t190, .int .i64 t191, .int .i64 t192, .string t193, .int .i64 t194, .int .i64 t195, .int .i64 t196, .string t197, .int .i64 t198, .int .i64 t199, .int .i64 t200, .string t201, .int .i64 t202, .int .i64 t203, .int .i64 t204, .string t205, .int .i64 t206, .int .i64 t207, .int .i64 t208, .string t209, .int .i64 t210, .int .i64 t211, .int .i64 t212, .string t213, .int .i64 t214, .int .i64 t215, .int .i64 t216, .string t217, .int .i64 t218]) (ok := fun _ => True) (okp := fun _ => True) ?hr ?hp (fun _ hk => hk) trivial (Below.refl _ _) (Nat.le_refl _) (by simp) ?_; (case hd => rfl); (case hg => rfl); (case hr => first | (go_simp; done) | (go_simp; rfl)); (case hp => exact (Reps.c4 (show Kd.M k37 _ _ _ (⟨t179, t180, t181, t182⟩ : S37) [.int .i64 t179, .int .i64 t180, .string t181, .int .i64 t182] from (k37_mkM _ _ _ (⟨t179, t180, t181, t182⟩ : S37) )) (Reps.c4 (show Kd.M k37 _ _ _ (⟨t183, t184, t185, t186⟩ : S37) [.int .i64 t183, .int .i64 t184, .string t185, .int .i64 t186] from (k37_mkM _ _ _ (⟨t183, t184, t185, t186⟩ : S37) )) (Reps.c4 (show Kd.M k37 _ _ _ (⟨t187, t188, t189, t190⟩ : S37) [.int .i64 t187, .int .i64 t188, .string t189, .int .i64 t190] from (k37_mkM _ _ _ (⟨t187, t188, t189, t190⟩ : S37) )) (Reps.c4 (show Kd.M k37 _ _ _ (⟨t191, t192, t193, t194⟩ : S37) [.int .i64 t191, .int .i64 t192, .string t193, .int .i64 t194] from (k37_mkM _ _ _ (⟨t191, t192, t193, t194⟩ : S37) )) (Reps.c4 (show Kd.M k37 _ _ _ (⟨t195, t196, t197, t198⟩ : S37) [.int .i64 t195, .int .i64 t196, .string t197, .int .i64 t198] from (k37_mkM _ _ _ (⟨t195, t196, t197, t198⟩ : S37) )) (Reps.c4 (show Kd.M k37 _ _ _ (⟨t199, t200, t201, t202⟩ : S37) [.int .i64 t199, .int .i64 t200, .string t201, .int .i64 t202] from (k37_mkM _ _ _ (⟨t199, t200, t201, t202⟩ : S37) )) (Reps.c4 (show Kd.M k37 _ _ _ (⟨t203, t204, t205, t206⟩ : S37) [.int .i64 t203, .int .i64 t204, .string t205, .int .i64 t206] from (k37_mkM _ _ _ (⟨t203, t204, t205, t206⟩ : S37) )) (Reps.c4 (show Kd.M k37 _ _ _ (⟨t207, t208, t209, t210⟩ : S37) [.int .i64 t207, .int .i64 t208, .string t209, .int .i64 t210] from (k37_mkM _ _ _ (⟨t207, t208, t209, t210⟩ : S37) )) (Reps.c4 (show Kd.M k37 _ _ _ (⟨t211, t212, t213, t214⟩ : S37) [.int .i64 t211, .int .i64 t212, .string t213, .int .i64 t214] from (k37_mkM _ _ _ (⟨t211, t212, t213, t214⟩ : S37) )) (Reps.c4 (show Kd.M k37 _ _ _ (⟨t215, t216, t217, t218⟩ : S37) [.int .i64 t215, .int .i64 t216, .string t217, .int .i64 t218] from (k37_mkM _ _ _ (⟨t215, t216, t217, t218⟩ : S37) )) (Reps.none _ _)))))))))))); intro v220 w22 ho23 hb hg_ hnew_; clear hg_ hnew_; (first | rw [← Ny219.out] at ho23 | (simp only [Int.reduceToNat] at ho23; rw [← Ny219.out] at ho23)); have n0_ := Aside0.mk (Kd.R_lower ho23 (below_size (by repeat (first | (with_reducible first | exact HB.out | apply below_alloc | apply pw_below_drewN | apply below_drew1) | exact HB.out)))); have n1_ := Aside0.mk (below_step (by repeat (first | (with_reducible first | exact HB.out | apply below_alloc | apply pw_below_drewN | apply below_drew1) | exact HB.out)) hb); clear HB; have HO221 := n0_; have HB := n1_; clear n0_ n1_; clear hb ho23; obtain ⟨Ao24, co24, eo24⟩ := Kd.R_slice HO221.out; subst eo24) | (go_at_call 18; have _t := tok1; (refine (linotypelaw22_reads.calls k _ _ _ y219 t222 _ ?side1 ?side2 A11.out).mono ?_); (case side1 => repeat (first | exact (Kd.R_reads' HO221.out).2.2 | (with_reducible refine Kd.C_alloc ?_ _) | (with_reducible refine Kd.C_drewN ?_ _) | (with_reducible refine Kd.C_drew ?_))); (case side2 => exact (Kd.R_reads' HO221.out).2.1); rintro e w25 ⟨rfl, hb⟩; clear tok1; have n0_ := Aside0.mk (Kd.R_below (by (with_reducible repeat (first | apply Kd.R_alloc | apply Kd.R_drewN | apply Kd.R_drew)); exact HO221.out) hb); have n1_ := Aside0.mk (below_step (by repeat (first | (with_reducible first | exact HB.out | apply below_alloc | apply pw_below_drewN | apply below_drew1) | exact HB.out)) hb); clear HO221; clear HB; have HO221 := n0_; have HB := n1_; clear n0_ n1_; (try clear hb); (try clear hb2); (try clear hk); (try clear hi)))
 go_ret
 exact ⟨by first | rfl | (simp [errW_none, errW_some] <;> rfl) | (simp [*, errW_none, errW_some] <;> rfl), by repeat (first | (with_reducible first | exact HB.out | apply below_alloc | apply pw_below_drewN | apply below_drew1) | exact HB.out)⟩

/-! ### linotypelaw22_fails: function 19 -/
def linotypelaw22_fails.f (k : Nat) (a0 : ByteArray) (a1 : Int) (a2 : Int) : Option (Bool) := (token_Lex.f k a0).bind fun bt223 => (if (bt223.1.length : Int) = 0 then (some (bt223.2.1 == a1 && (bt223.2.2 == a2))) else (some false))
theorem linotypelaw22_fails.mono : ∀ a0 a1 a2 k, LeO (linotypelaw22_fails.f k a0 a1 a2) (linotypelaw22_fails.f (k + 1) a0 a1 a2) := by
 intro a0 a1 a2 k
 unfold linotypelaw22_fails.f
 repeat' first
   | (with_reducible exact token_Lex.mono _ _)
   | (with_reducible exact LeO.refl _)
   | (with_reducible exact LeO.none _)
   | (with_reducible refine LeO.ite ?_ ?_)
   | (with_reducible refine LeO.bind ?_ (fun _ => ?_))
   | exact token_Lex.mono _ _
   | exact LeO.none _
   | refine LeO.ite ?_ ?_
   | refine LeO.bind ?_ (fun _ => ?_)
set_option maxHeartbeats 8000000 in
set_option maxRecDepth 100000 in
theorem linotypelaw22_fails.calls (k : Nat) (a0 : ByteArray) (a1 : Int) (a2 : Int) (r : Bool) (w : World) (h : linotypelaw22_fails.f k a0 a1 a2 = some r) :
  Calls Tryd.prog 19 #[.string a0, .int .i64 a1, .int .i64 a2] w fun e w' => e = .returned (.bool r) ∧ Below w.heap.size w w' := by
 have hu32 := Tryd.underlying32
 have HB := Aside0.mk (Below.refl w.heap.size w)
 have H : ((token_Lex.f k a0).bind fun bt223 => (if (bt223.1.length : Int) = 0 then (some (bt223.2.1 == a1 && (bt223.2.2 == a2))) else (some false))) = some r := h
 clear h
 replace H := Option.bind_eq_some_iff.mp H
 obtain ⟨⟨t223, t226, t227⟩, A40, H⟩ := H
 replace H : (if (t223.length : Int) = 0 then (some (t226 == a1 && (t227 == a2))) else (some false)) = some r := H
 have A4 := Aside0.mk A40
 clear A40
 by_cases c5 : (t223.length : Int) = 0
 ·rw [if_pos c5] at H
  have c5b0 : ((t223.length : Int) == 0) = true := beq_iff_eq.mpr c5
  have c5b1 : ((t223.length : Int) != 0) = false := bne_eq_false_iff_eq.mpr c5
  clear c5
  obtain rfl := Option.some.inj H
  go_enter Tryd.func19, Tryd.ntmps19
  go_wp2_with (first | ((with_reducible refine gate_callee (f := 13) rfl ?_); refine goesL_ (some 11) rfl rfl Tryd.func13 (by kernel_rfl) rfl #[.string a0] rfl (by (try simp only [List.map_toArray, List.map_cons, List.map_nil]); first | done | rfl | (simp only [List.length_drop, List.length_take]; rfl)) ?_; (with_reducible refine (token_Lex.calls k a0 t223 t226 t227 _ A4.out).mono ?_); rintro e w6 ⟨v224, rfl, ho0, hb⟩; refine ⟨_, rfl, ?_⟩; have n0_ := Aside0.mk (Kd.R_lower ho0 (below_size (by repeat (first | (with_reducible first | exact HB.out | apply below_alloc | apply pw_below_drewN | apply below_drew1) | exact HB.out)))); have n1_ := Aside0.mk (below_step (by repeat (first | (with_reducible first | exact HB.out | apply below_alloc | apply pw_below_drewN | apply below_drew1) | exact HB.out)) hb); clear HB; have HO225 := n0_; have HB := n1_; clear n0_ n1_; (try clear hb); (try clear hb2); (try clear hk); (try clear hi); (try clear ho0)) | ((with_reducible refine gate_dst (N := 8) rfl ?_); refine box_event ?hg (N := 8) ?hd (cs := #[.int .i64 0, .int .i64 0]) (t := 32) ?hr ?_; (case hd => rfl); (case hg => rfl); (case hr => first | (go_simp; done) | (go_simp; rfl)); intro gb228 hg w7 hbox hb; have n0_ := Aside0.mk (Kd.R_below (by (with_reducible repeat (first | apply Kd.R_alloc | apply Kd.R_drewN | apply Kd.R_drew)); exact HO225.out) hb); have n1_ := Aside0.mk (below_step (by repeat (first | (with_reducible first | exact HB.out | apply below_alloc | apply pw_below_drewN | apply below_drew1) | exact HB.out)) hb); have n2_ := Aside0.mk (hbox); have n3_ := Aside0.mk ((by rw [hg]; exact (below_size (by repeat (first | (with_reducible first | exact HB.out | apply below_alloc | apply pw_below_drewN | apply below_drew1) | exact HB.out))) : w.heap.size ≤ gb228)); have n4_ := Aside0.mk ((by rw [hg]; exact (below_size (by repeat (first | (with_reducible first | exact HB.out | apply below_alloc | apply pw_below_drewN | apply below_drew1) | exact HB.out))) : w.heap.size ≤ gb228)); clear HO225; clear HB; have HO225 := n0_; have HB := n1_; have BK228 := n2_; have GW228 := n3_; have GE228 := n4_; clear n0_ n1_ n2_ n3_ n4_; clear hb hbox hg; have hcz8_0 : w7.cell? ⟨gb228, 0, none⟩ = some (.int .i64 0) := (blk_cell BK228.out 0).trans rfl; have hcz8_1 : w7.cell? ⟨gb228, 1, none⟩ = some (.int .i64 0) := (blk_cell BK228.out 1).trans rfl; have hfz8_0 := blk_frozen BK228.out 0; have hfz8_1 := blk_frozen BK228.out 1; obtain ⟨Ao9, co9, eo9⟩ := Kd.R_slice HO225.out; subst eo9))
  go_ret
  exact ⟨by first | rfl | (simp [errW_none, errW_some] <;> rfl) | (simp [*, errW_none, errW_some] <;> rfl), by repeat (first | (with_reducible first | exact HB.out | apply below_alloc | apply pw_below_drewN | apply below_drew1 | refine below_set ?_ GE228.out) | exact HB.out)⟩
 ·rw [if_neg c5] at H
  have c5b0 : ((t223.length : Int) == 0) = false := beq_eq_false_iff_ne.mpr c5
  have c5b1 : ((t223.length : Int) != 0) = true := bne_iff_ne.mpr c5
  have c5b2 : ¬ (t223 = []) := fun h_ => c5 (by rw [h_]; rfl)
  obtain rfl := Option.some.inj H
  go_enter Tryd.func19, Tryd.ntmps19
  go_wp2_with (first | ((with_reducible refine gate_callee (f := 13) rfl ?_); refine goesL_ (some 11) rfl rfl Tryd.func13 (by kernel_rfl) rfl #[.string a0] rfl (by (try simp only [List.map_toArray, List.map_cons, List.map_nil]); first | done | rfl | (simp only [List.length_drop, List.length_take]; rfl)) ?_; (with_reducible refine (token_Lex.calls k a0 t223 t226 t227 _ A4.out).mono ?_); rintro e w10 ⟨v224, rfl, ho0, hb⟩; refine ⟨_, rfl, ?_⟩; have n0_ := Aside0.mk (Kd.R_lower ho0 (below_size (by repeat (first | (with_reducible first | exact HB.out | apply below_alloc | apply pw_below_drewN | apply below_drew1) | exact HB.out)))); have n1_ := Aside0.mk (below_step (by repeat (first | (with_reducible first | exact HB.out | apply below_alloc | apply pw_below_drewN | apply below_drew1) | exact HB.out)) hb); clear HB; have HO225 := n0_; have HB := n1_; clear n0_ n1_; (try clear hb); (try clear hb2); (try clear hk); (try clear hi); (try clear ho0)) | ((with_reducible refine gate_dst (N := 8) rfl ?_); refine box_event ?hg (N := 8) ?hd (cs := #[.int .i64 0, .int .i64 0]) (t := 32) ?hr ?_; (case hd => rfl); (case hg => rfl); (case hr => first | (go_simp; done) | (go_simp; rfl)); intro gb228 hg w11 hbox hb; have n0_ := Aside0.mk (Kd.R_below (by (with_reducible repeat (first | apply Kd.R_alloc | apply Kd.R_drewN | apply Kd.R_drew)); exact HO225.out) hb); have n1_ := Aside0.mk (below_step (by repeat (first | (with_reducible first | exact HB.out | apply below_alloc | apply pw_below_drewN | apply below_drew1) | exact HB.out)) hb); have n2_ := Aside0.mk (hbox); have n3_ := Aside0.mk ((by rw [hg]; exact (below_size (by repeat (first | (with_reducible first | exact HB.out | apply below_alloc | apply pw_below_drewN | apply below_drew1) | exact HB.out))) : w.heap.size ≤ gb228)); have n4_ := Aside0.mk ((by rw [hg]; exact (below_size (by repeat (first | (with_reducible first | exact HB.out | apply below_alloc | apply pw_below_drewN | apply below_drew1) | exact HB.out))) : w.heap.size ≤ gb228)); clear HO225; clear HB; have HO225 := n0_; have HB := n1_; have BK228 := n2_; have GW228 := n3_; have GE228 := n4_; clear n0_ n1_ n2_ n3_ n4_; clear hb hbox hg; have hcz12_0 : w11.cell? ⟨gb228, 0, none⟩ = some (.int .i64 0) := (blk_cell BK228.out 0).trans rfl; have hcz12_1 : w11.cell? ⟨gb228, 1, none⟩ = some (.int .i64 0) := (blk_cell BK228.out 1).trans rfl; have hfz12_0 := blk_frozen BK228.out 0; have hfz12_1 := blk_frozen BK228.out 1; obtain ⟨Ao13, co13, eo13⟩ := Kd.R_slice HO225.out; subst eo13))
  go_ret
  exact ⟨by first | rfl | (simp [errW_none, errW_some] <;> rfl) | (simp [*, errW_none, errW_some] <;> rfl), by repeat (first | (with_reducible first | exact HB.out | apply below_alloc | apply pw_below_drewN | apply below_drew1 | refine below_set ?_ GE228.out) | exact HB.out)⟩

end Go.Proofs.YtjabjooephellaaDoor.XK
