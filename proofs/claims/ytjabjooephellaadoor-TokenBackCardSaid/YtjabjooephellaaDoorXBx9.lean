-- PRINTED by print.py (a twelfth state) out of the translation. Not trusted: Lean checks it.
import Derived.Test.YtjabjooephellaaDoorXBx0
import Derived.Test.YtjabjooephellaaDoorXBx4
import Derived.Test.YtjabjooephellaaDoorXBx8
namespace Go.Proofs.YtjabjooephellaaDoor.XB
open Go.RowKit Go.Proofs.YtjabjooephellaaDoorW.PrintWords Go.Proofs.YtjabjooephellaaDoorW.PrintLast Go.Proofs.YtjabjooephellaaDoorW.PrintMore
attribute [local go_sem] max2_int min2_int max_two min_two max_three min_three max_four min_four   -- for this text's walks alone
set_option linter.unusedVariables false
set_option linter.unusedSimpArgs false

/-! ### token_Lex: function 13 -/
mutual
def token_Lex.l0 : Nat → ByteArray → List (S37) → Int → Option ((List (S37)) × Int × Int)
 | 0, _, _, _ => none
 | k + 1, x0, x4, x5 => if x5 < (x0.size : Int) then (if 0 ≤ x5 then (if x5 ≤ (x0.size : Int) then (if 0 < ((x0.extract (x5 : Int).toNat x0.size).size : Int) then (if (bt (x0.extract (x5 : Int).toNat x0.size) 0) = 59 then (some (x4, 0, 0)) else (if (bt (x0.extract (x5 : Int).toNat x0.size) 0) = 32 then (token_Lex.j1 k x0 x4 x5 (x0.extract (x5 : Int).toNat x0.size) ((bt (x0.extract (x5 : Int).toNat x0.size) 0) == 32)) else (token_Lex.j1 k x0 x4 x5 (x0.extract (x5 : Int).toNat x0.size) ((bt (x0.extract (x5 : Int).toNat x0.size) 0) == 9)))) else (none)) else (none)) else (none)) else (some (x4, 0, 0))
def token_Lex.j1 : Nat → ByteArray → List (S37) → Int → ByteArray → Bool → Option ((List (S37)) × Int × Int)
 | 0, _, _, _, _, _ => none
 | k + 1, x0, x4, x5, x6, x45 => if x45 = true then (token_Lex.l0 k x0 x4 (wrap64 (x5 + 1))) else ((token_next.f k x6 x5).bind fun bt161 => (if bt161.2.2.2.2.2.1 = 0 then (if x4.length < 3518437208883 then (token_Lex.l0 k x0 (x4 ++ [(⟨bt161.1, bt161.2.1, bt161.2.2.1, bt161.2.2.2.1⟩ : S37)]) (wrap64 (x5 + bt161.2.2.2.2.1))) else (none)) else (some (([] : List (S37)), bt161.2.2.2.2.2.1, bt161.2.2.2.2.2.2))))
end
def token_Lex.f (k : Nat) (a0 : ByteArray) : Option ((List (S37)) × Int × Int) := if (a0.size : Int) > 1000 then (some (([] : List (S37)), 3, 1000)) else (token_Lex.l0 k a0 ([] : List (S37)) 0)
theorem token_Lex.mono_l : ∀ k, (∀ y0 y1 y2, LeO (token_Lex.l0 k y0 y1 y2) (token_Lex.l0 (k + 1) y0 y1 y2)) ∧ (∀ y0 y1 y2 y3 y4, LeO (token_Lex.j1 k y0 y1 y2 y3 y4) (token_Lex.j1 (k + 1) y0 y1 y2 y3 y4))
 | 0 => ⟨fun _ _ _ r h => by simp [token_Lex.l0] at h, fun _ _ _ _ _ r h => by simp [token_Lex.j1] at h⟩
 | k + 1 => by
  obtain ⟨ih0, ih1⟩ := token_Lex.mono_l k
  refine ⟨?_, ?_⟩
  ·intro y0 y1 y2
   unfold token_Lex.l0
   repeat' first
   | (with_reducible exact ih0 _ _ _)
   | (with_reducible exact ih1 _ _ _ _ _)
   | (with_reducible exact token_next.mono _ _ _)
   | (with_reducible exact LeO.refl _)
   | (with_reducible exact LeO.none _)
   | (with_reducible refine LeO.ite ?_ ?_)
   | (with_reducible refine LeO.bind ?_ (fun _ => ?_))
   | exact ih0 _ _ _
   | exact ih1 _ _ _ _ _
   | exact token_next.mono _ _ _
   | exact LeO.none _
   | refine LeO.ite ?_ ?_
   | refine LeO.bind ?_ (fun _ => ?_)
  ·intro y0 y1 y2 y3 y4
   unfold token_Lex.j1
   repeat' first
   | (with_reducible exact ih0 _ _ _)
   | (with_reducible exact ih1 _ _ _ _ _)
   | (with_reducible exact token_next.mono _ _ _)
   | (with_reducible exact LeO.refl _)
   | (with_reducible exact LeO.none _)
   | (with_reducible refine LeO.ite ?_ ?_)
   | (with_reducible refine LeO.bind ?_ (fun _ => ?_))
   | exact ih0 _ _ _
   | exact ih1 _ _ _ _ _
   | exact token_next.mono _ _ _
   | exact LeO.none _
   | refine LeO.ite ?_ ?_
   | refine LeO.bind ?_ (fun _ => ?_)
theorem token_Lex.mono : ∀ a0 k, LeO (token_Lex.f k a0) (token_Lex.f (k + 1) a0) := by
 intro a0 k
 obtain ⟨ih0, ih1⟩ := token_Lex.mono_l k
 unfold token_Lex.f
 repeat' first
   | (with_reducible exact ih0 _ _ _)
   | (with_reducible exact ih1 _ _ _ _ _)
   | (with_reducible exact token_next.mono _ _ _)
   | (with_reducible exact LeO.refl _)
   | (with_reducible exact LeO.none _)
   | (with_reducible refine LeO.ite ?_ ?_)
   | (with_reducible refine LeO.bind ?_ (fun _ => ?_))
   | exact ih0 _ _ _
   | exact ih1 _ _ _ _ _
   | exact token_next.mono _ _ _
   | exact LeO.none _
   | refine LeO.ite ?_ ?_
   | refine LeO.bind ?_ (fun _ => ?_)
set_option maxHeartbeats 8000000 in
set_option maxRecDepth 100000 in
theorem token_Lex.calls (k : Nat) (a0 : ByteArray) (r1 : List (S37)) (r2 : Int) (r3 : Int) (w : World) (h : token_Lex.f k a0 = some (r1, r2, r3)) :
  Calls Tryd.prog 13 #[.string a0] w fun e w' => ∃ v0_ : Value, e = .returned (.tuple #[v0_, .agg #[.int .i64 r2, .int .i64 r3]]) ∧ Kd.R k37 37 w' w.heap.size (fun _ => True) v0_ r1 ∧ Below w.heap.size w w' := by
 have hu32 := Tryd.underlying32
 have hu37 := Tryd.underlying37
 have HB := Aside0.mk (Below.refl w.heap.size w)
 have H : (if (a0.size : Int) > 1000 then (some (([] : List (S37)), 3, 1000)) else (token_Lex.l0 k a0 ([] : List (S37)) 0)) = some (r1, r2, r3) := h
 clear h
 by_cases c2 : (a0.size : Int) > 1000
 ·rw [if_pos c2] at H
  have c2b0 : decide (1000 < (a0.size : Int)) = true := decide_eq_true c2
  have c2b1 : decide (1000 < a0.size) = true := decide_eq_true (by omega)
  clear c2
  simp only [Option.some.injEq, Prod.mk.injEq] at H
  obtain ⟨rfl, rfl, rfl⟩ := H
  go_enter Tryd.func13, Tryd.ntmps13
  go_wp2_with (first | ((with_reducible refine gate_dst (N := 3) rfl ?_); refine box_event ?hg (N := 3) ?hd (cs := #[.int .i64 0, .int .i64 0]) (t := 32) ?hr ?_; (case hd => rfl); (case hg => rfl); (case hr => first | (go_simp; done) | (go_simp; rfl)); intro gb160 hg w3 hbox hb; have n0_ := Aside0.mk (below_step (by repeat (first | (with_reducible first | exact HB.out | apply below_alloc | apply pw_below_drewN | apply below_drew1) | exact HB.out)) hb); have n1_ := Aside0.mk (hbox); have n2_ := Aside0.mk ((by rw [hg]; exact (below_size (by repeat (first | (with_reducible first | exact HB.out | apply below_alloc | apply pw_below_drewN | apply below_drew1) | exact HB.out))) : w.heap.size ≤ gb160)); have n3_ := Aside0.mk ((by rw [hg]; exact (below_size (by repeat (first | (with_reducible first | exact HB.out | apply below_alloc | apply pw_below_drewN | apply below_drew1) | exact HB.out))) : w.heap.size ≤ gb160)); clear HB; have HB := n0_; have BK160 := n1_; have GW160 := n2_; have GE160 := n3_; clear n0_ n1_ n2_ n3_; clear hb hbox hg; have hcz4_0 : w3.cell? ⟨gb160, 0, none⟩ = some (.int .i64 0) := (blk_cell BK160.out 0).trans rfl; have hcz4_1 : w3.cell? ⟨gb160, 1, none⟩ = some (.int .i64 0) := (blk_cell BK160.out 1).trans rfl; have hfz4_0 := blk_frozen BK160.out 0; have hfz4_1 := blk_frozen BK160.out 1))
  refine bodyPost_ret (results_tc rfl _ _ gb160 32 #[.int .i64 3, .int .i64 1000] (0, 0) _ rfl (by (with_reducible repeat (first | refine blk_drewN ?_ _ | refine blk_drew ?_ | refine blk_alloc ?_ _)); refine blk_put (cs := #[.int .i64 3, .int .i64 0]) ?_ 1 _ rfl; (with_reducible repeat (first | refine blk_drewN ?_ _ | refine blk_drew ?_ | refine blk_alloc ?_ _)); refine blk_put (cs := #[.int .i64 0, .int .i64 0]) ?_ 0 _ rfl; (with_reducible repeat (first | refine blk_drewN ?_ _ | refine blk_drew ?_ | refine blk_alloc ?_ _)); exact BK160.out) Tryd.underlying32 rfl (by kernel_rfl)) rfl ?_
  exact ⟨_, by first | rfl | (simp [errW_none, errW_some] <;> rfl) | (simp [*, errW_none, errW_some] <;> rfl), by first | exact Kd.R_nil _ _ _ _ _ | exact Kd.N_nil _ _ _ _ _ | exact Kd.V_nil _ _ _ _ _ | exact Kd.Q_nil _ _ _ _ _ | exact Kd.S_nil _ _ _ _ _, by repeat (first | (with_reducible first | exact HB.out | apply below_alloc | apply pw_below_drewN | apply below_drew1 | refine below_set ?_ GE160.out) | exact HB.out)⟩
 ·rw [if_neg c2] at H
  have c2b0 : decide (1000 < (a0.size : Int)) = false := decide_eq_false c2
  have c2b1 : decide (1000 < a0.size) = false := decide_eq_false (by omega)
  clear c2
  have H' := Aside0.mk H
  clear H
  go_enter Tryd.func13, Tryd.ntmps13
  go_wp2_with (first | ((with_reducible refine gate_dst (N := 3) rfl ?_); refine box_event ?hg (N := 3) ?hd (cs := #[.int .i64 0, .int .i64 0]) (t := 32) ?hr ?_; (case hd => rfl); (case hg => rfl); (case hr => first | (go_simp; done) | (go_simp; rfl)); intro gb160 hg w5 hbox hb; have n0_ := Aside0.mk (below_step (by repeat (first | (with_reducible first | exact HB.out | apply below_alloc | apply pw_below_drewN | apply below_drew1) | exact HB.out)) hb); have n1_ := Aside0.mk (hbox); have n2_ := Aside0.mk ((by rw [hg]; exact (below_size (by repeat (first | (with_reducible first | exact HB.out | apply below_alloc | apply pw_below_drewN | apply below_drew1) | exact HB.out))) : w.heap.size ≤ gb160)); have n3_ := Aside0.mk ((by rw [hg]; exact (below_size (by repeat (first | (with_reducible first | exact HB.out | apply below_alloc | apply pw_below_drewN | apply below_drew1) | exact HB.out))) : w.heap.size ≤ gb160)); clear HB; have HB := n0_; have BK160 := n1_; have GW160 := n2_; have GE160 := n3_; clear n0_ n1_ n2_ n3_; clear hb hbox hg))
  go_loopg [4, 5] k (fun kq v4 v5 w' => ∃ (x4_1 : List (S37)) (x5_1 : Int) (x161000_1 : Int) (x161001_1 : Int), v5 = .int .i64 x5_1 ∧ Aside0 (token_Lex.l0 kq a0 x4_1 x5_1 = some (r1, r2, r3)) ∧ Aside0 (kq ≤ k) ∧ Aside0 (Kd.R k37 37 w' w.heap.size (fun _ => True) v4 x4_1) ∧ Aside0 (w'.heap[gb160]? = some (.cells #[.int .i64 x161000_1, .int .i64 x161001_1] 32 (0, 0))) ∧ Aside0 (Below w.heap.size w w'))
  case atStart => exact ⟨(([] : List (S37))), (0), (0), (0), (by first | rfl | (simp; done) | (simp [*]; done)), H', ⟨Nat.le_refl _⟩, ⟨by first | exact Kd.R_nil _ _ _ _ _ | exact Kd.N_nil _ _ _ _ _ | exact Kd.V_nil _ _ _ _ _ | exact Kd.Q_nil _ _ _ _ _ | exact Kd.S_nil _ _ _ _ _⟩, ⟨by (with_reducible repeat (first | refine blk_drewN ?_ _ | refine blk_drew ?_ | refine blk_alloc ?_ _)); exact BK160.out⟩, ⟨by repeat (first | (with_reducible first | exact HB.out | apply below_alloc | apply pw_below_drewN | apply below_drew1 | refine below_set ?_ GE160.out) | exact HB.out)⟩⟩
  case round =>
   clear H'
   try clear c1
   try clear c2
   try clear c2b0
   try clear c2b1
   try clear p2
   try clear hcz4_0
   try clear hcz4_1
   try clear hfz4_0
   try clear hfz4_1
   obtain ⟨x4_1, x5_1, x161000_1, x161001_1, rfl, HA, HK1, HO_4, BK160, HB⟩ := hrel
   cases gk with
   | zero => exact absurd HA.out (by simp [token_Lex.l0])
   | succ k1 =>
    have H := HA.out
    clear HA
    simp only [token_Lex.l0] at H
    by_cases c6 : x5_1 < (a0.size : Int)
    ·rw [if_pos c6] at H
     have c6b0 : decide (x5_1 < (a0.size : Int)) = true := decide_eq_true c6
     clear c6
     by_cases c7 : 0 ≤ x5_1
     ·rw [if_pos c7] at H
      have c7b0 := eq_true c7
      have c7b1 : decide (0 ≤ x5_1) = true := decide_eq_true c7
      clear c7
      by_cases c8 : x5_1 ≤ (a0.size : Int)
      ·rw [if_pos c8] at H
       have c8b0 := eq_true c8
       have c8b1 : decide (x5_1 ≤ (a0.size : Int)) = true := decide_eq_true c8
       clear c8
       by_cases c9 : 0 < ((a0.extract (x5_1 : Int).toNat a0.size).size : Int)
       ·rw [if_pos c9] at H
        have c9b0 : decide (0 < ((a0.extract (x5_1 : Int).toNat a0.size).size : Int)) = true := decide_eq_true c9
        have c9b1 : decide (0 < (a0.extract (x5_1 : Int).toNat a0.size).size) = true := decide_eq_true (by omega)
        clear c9
        by_cases c11 : (bt (a0.extract (x5_1 : Int).toNat a0.size) 0) = 59
        ·rw [if_pos c11] at H
         have c11b0 : ((bt (a0.extract (x5_1 : Int).toNat a0.size) 0) == 59) = true := beq_iff_eq.mpr c11
         have c11b1 : ((bt (a0.extract (x5_1 : Int).toNat a0.size) 0) != 59) = false := bne_eq_false_iff_eq.mpr c11
         clear c11
         simp only [Option.some.injEq, Prod.mk.injEq] at H
         obtain ⟨rfl, rfl, rfl⟩ := H
         have p10 : 0 ≤ (0 : Int) := (by omega)
         have q10 : 0 < (a0.extract (x5_1 : Int).toNat a0.size).size := (by have : (0 : Int) < ((a0.extract (x5_1 : Int).toNat a0.size).size : Int) := of_decide_eq_true (by first | (with_reducible assumption) | assumption); omega)
         have qz10 : 0 < a0.size - (x5_1 : Int).toNat := (by have z := q10; rw [ByteArray.size_extract] at z; omega)
         have hx10 : ∀ h : 0 < (a0.extract (x5_1 : Int).toNat a0.size).size, (((a0.extract (x5_1 : Int).toNat a0.size)[0]'h).toNat : Int) = bt (a0.extract (x5_1 : Int).toNat a0.size) 0 := bt_at (a0.extract (x5_1 : Int).toNat a0.size) 0
         clear p10
         have qi10 : (0 < ((a0.extract (x5_1 : Int).toNat a0.size).size : Int)) = True := eq_true (of_decide_eq_true (by first | (with_reducible assumption) | assumption))
         replace q10 := eq_true q10
         have hcz12_0 : wr.cell? ⟨gb160, 0, none⟩ = some (.int .i64 x161000_1) := (blk_cell BK160.out 0).trans rfl
         have hcz12_1 : wr.cell? ⟨gb160, 1, none⟩ = some (.int .i64 x161001_1) := (blk_cell BK160.out 1).trans rfl
         have hfz12_0 := blk_frozen BK160.out 0
         have hfz12_1 := blk_frozen BK160.out 1
         go_wp2
         refine bodyPost_ret (results_tc rfl _ _ gb160 32 #[.int .i64 0, .int .i64 0] (0, 0) _ rfl (by (with_reducible repeat (first | refine blk_drewN ?_ _ | refine blk_drew ?_ | refine blk_alloc ?_ _)); refine blk_put (cs := #[.int .i64 0, .int .i64 x161001_1]) ?_ 1 _ rfl; (with_reducible repeat (first | refine blk_drewN ?_ _ | refine blk_drew ?_ | refine blk_alloc ?_ _)); refine blk_put (cs := #[.int .i64 x161000_1, .int .i64 x161001_1]) ?_ 0 _ rfl; (with_reducible repeat (first | refine blk_drewN ?_ _ | refine blk_drew ?_ | refine blk_alloc ?_ _)); exact BK160.out) Tryd.underlying32 rfl (by kernel_rfl)) rfl ?_
         exact ⟨_, by first | rfl | (simp [errW_none, errW_some] <;> rfl) | (simp [*, errW_none, errW_some] <;> rfl), by (with_reducible repeat (first | apply Kd.R_alloc | apply Kd.R_drewN | apply Kd.R_drew)); exact Kd.R_mono (Kd.R_far (p := ⟨gb160, 1, none⟩) (Kd.R_far (p := ⟨gb160, 0, none⟩) (Kd.R_types HO_4.out BK160.out (by decide)) (fun _ hk => hk.2) (.int .i64 0)) (fun _ hk => hk.2) (.int .i64 0)) (fun _ hk => trivial), by repeat (first | (with_reducible first | exact HB.out | apply below_alloc | apply pw_below_drewN | apply below_drew1 | refine below_set ?_ GE160.out) | exact HB.out)⟩
        ·rw [if_neg c11] at H
         have c11b0 : ((bt (a0.extract (x5_1 : Int).toNat a0.size) 0) == 59) = false := beq_eq_false_iff_ne.mpr c11
         have c11b1 : ((bt (a0.extract (x5_1 : Int).toNat a0.size) 0) != 59) = true := bne_iff_ne.mpr c11
         have HC14 := Aside0.mk H
         clear H
         have p10 : 0 ≤ (0 : Int) := (by omega)
         have q10 : 0 < (a0.extract (x5_1 : Int).toNat a0.size).size := (by have : (0 : Int) < ((a0.extract (x5_1 : Int).toNat a0.size).size : Int) := of_decide_eq_true (by first | (with_reducible assumption) | assumption); omega)
         have qz10 : 0 < a0.size - (x5_1 : Int).toNat := (by have z := q10; rw [ByteArray.size_extract] at z; omega)
         have hx10 : ∀ h : 0 < (a0.extract (x5_1 : Int).toNat a0.size).size, (((a0.extract (x5_1 : Int).toNat a0.size)[0]'h).toNat : Int) = bt (a0.extract (x5_1 : Int).toNat a0.size) 0 := bt_at (a0.extract (x5_1 : Int).toNat a0.size) 0
         clear p10
         have qi10 : (0 < ((a0.extract (x5_1 : Int).toNat a0.size).size : Int)) = True := eq_true (of_decide_eq_true (by first | (with_reducible assumption) | assumption))
         replace q10 := eq_true q10
         have p13 : 0 ≤ (0 : Int) := (by omega)
         have q13 : 0 < (a0.extract (x5_1 : Int).toNat a0.size).size := (by have : (0 : Int) < ((a0.extract (x5_1 : Int).toNat a0.size).size : Int) := of_decide_eq_true (by first | (with_reducible assumption) | assumption); omega)
         have qz13 : 0 < a0.size - (x5_1 : Int).toNat := (by have z := q13; rw [ByteArray.size_extract] at z; omega)
         have hx13 : ∀ h : 0 < (a0.extract (x5_1 : Int).toNat a0.size).size, (((a0.extract (x5_1 : Int).toNat a0.size)[0]'h).toNat : Int) = bt (a0.extract (x5_1 : Int).toNat a0.size) 0 := bt_at (a0.extract (x5_1 : Int).toNat a0.size) 0
         clear p13
         have qi13 : (0 < ((a0.extract (x5_1 : Int).toNat a0.size).size : Int)) = True := eq_true (of_decide_eq_true (by first | (with_reducible assumption) | assumption))
         replace q13 := eq_true q13
         go_upto_if 45 with (fail)
         go_cut [45] (fun v45 wc => ∃ (kq : Nat) (x45_13 : Bool), v45 = .bool x45_13 ∧ Aside0 (token_Lex.j1 kq a0 x4_1 x5_1 (a0.extract (x5_1 : Int).toNat a0.size) x45_13 = some (r1, r2, r3)) ∧ Aside0 (kq ≤ k1) ∧ Aside0 (Kd.R k37 37 wc w.heap.size (fun _ => True) u4 x4_1) ∧ Aside0 (wc.heap[gb160]? = some (.cells #[.int .i64 x161000_1, .int .i64 x161001_1] 32 (0, 0))) ∧ Aside0 (Below w.heap.size w wc))
         case first =>
          have H := HC14.out
          clear HC14
          by_cases c15 : (bt (a0.extract (x5_1 : Int).toNat a0.size) 0) = 32
          ·rw [if_pos c15] at H
           have c15b0 : ((bt (a0.extract (x5_1 : Int).toNat a0.size) 0) == 32) = true := beq_iff_eq.mpr c15
           have c15b1 : ((bt (a0.extract (x5_1 : Int).toNat a0.size) 0) != 32) = false := bne_eq_false_iff_eq.mpr c15
           clear c15
           (first | rw [c15b0] | (simp only [i64_w, i32_w]; rw [c15b0]) | skip)
           have H' := Aside0.mk H
           clear H
           go_wp2
           go_meet
           case rel => exact ⟨_, (((bt (a0.extract (x5_1 : Int).toNat a0.size) 0) == 32)), (by first | rfl | (simp; done) | (simp [*]; done)), H', ⟨by have := HK1.out; first | omega | exact Nat.le_refl _⟩, ⟨by (with_reducible repeat (first | apply Kd.R_alloc | apply Kd.R_drewN | apply Kd.R_drew)); exact HO_4.out⟩, ⟨by (with_reducible repeat (first | refine blk_drewN ?_ _ | refine blk_drew ?_ | refine blk_alloc ?_ _)); exact BK160.out⟩, ⟨by repeat (first | (with_reducible first | exact HB.out | apply below_alloc | apply pw_below_drewN | apply below_drew1 | refine below_set ?_ GE160.out) | exact HB.out)⟩⟩
          ·rw [if_neg c15] at H
           have c15b0 : ((bt (a0.extract (x5_1 : Int).toNat a0.size) 0) == 32) = false := beq_eq_false_iff_ne.mpr c15
           have c15b1 : ((bt (a0.extract (x5_1 : Int).toNat a0.size) 0) != 32) = true := bne_iff_ne.mpr c15
           (first | rw [c15b0] | (simp only [i64_w, i32_w]; rw [c15b0]) | skip)
           have H' := Aside0.mk H
           clear H
           have p16 : 0 ≤ (0 : Int) := (by omega)
           have q16 : 0 < (a0.extract (x5_1 : Int).toNat a0.size).size := (by have : (0 : Int) < ((a0.extract (x5_1 : Int).toNat a0.size).size : Int) := of_decide_eq_true (by first | (with_reducible assumption) | assumption); omega)
           have qz16 : 0 < a0.size - (x5_1 : Int).toNat := (by have z := q16; rw [ByteArray.size_extract] at z; omega)
           have hx16 : ∀ h : 0 < (a0.extract (x5_1 : Int).toNat a0.size).size, (((a0.extract (x5_1 : Int).toNat a0.size)[0]'h).toNat : Int) = bt (a0.extract (x5_1 : Int).toNat a0.size) 0 := bt_at (a0.extract (x5_1 : Int).toNat a0.size) 0
           clear p16
           have qi16 : (0 < ((a0.extract (x5_1 : Int).toNat a0.size).size : Int)) = True := eq_true (of_decide_eq_true (by first | (with_reducible assumption) | assumption))
           replace q16 := eq_true q16
           go_wp2
           go_meet
           case rel => exact ⟨_, (((bt (a0.extract (x5_1 : Int).toNat a0.size) 0) == 9)), (by first | rfl | (simp; done) | (simp [*]; done)), H', ⟨by have := HK1.out; first | omega | exact Nat.le_refl _⟩, ⟨by (with_reducible repeat (first | apply Kd.R_alloc | apply Kd.R_drewN | apply Kd.R_drew)); exact HO_4.out⟩, ⟨by (with_reducible repeat (first | refine blk_drewN ?_ _ | refine blk_drew ?_ | refine blk_alloc ?_ _)); exact BK160.out⟩, ⟨by repeat (first | (with_reducible first | exact HB.out | apply below_alloc | apply pw_below_drewN | apply below_drew1 | refine below_set ?_ GE160.out) | exact HB.out)⟩⟩
         case rest =>
          clear HC14
          try clear c1
          try clear p1
          try clear q1
          try clear hx1
          try clear qi1
          try clear c2
          try clear c2b0
          try clear c2b1
          try clear p2
          try clear c6
          try clear c6b0
          try clear c7
          try clear c7b0
          try clear c7b1
          try clear c8
          try clear c8b0
          try clear c8b1
          try clear c9
          try clear c9b0
          try clear c9b1
          try clear p10
          try clear q10
          try clear hx10
          try clear qi10
          try clear c11
          try clear c11b0
          try clear c11b1
          try clear c13
          try clear p13
          try clear q13
          try clear hx13
          try clear qi13
          try clear c15
          try clear c15b0
          try clear c15b1
          try clear p16
          try clear q16
          try clear hx16
          try clear qi16
          try clear hcz12_0
          try clear hcz12_1
          try clear hcz4_0
          try clear hcz4_1
          try clear hfz12_0
          try clear hfz12_1
          try clear hfz4_0
          try clear hfz4_1
          try clear p10
          try clear p13
          try clear p16
          try clear p2
          try clear q10
          try clear q13
          try clear q16
          obtain ⟨kq, x45_13, rfl, HA, HJ13, HO_4, BK160, HB⟩ := hcut
          cases kq with
          | zero => exact absurd HA.out (by simp [token_Lex.j1])
          | succ kj13 =>
           have H := HA.out
           clear HA
           simp only [token_Lex.j1] at H
           by_cases c17 : x45_13 = true
           ·subst c17
            have H1 : (token_Lex.l0 kj13 a0 x4_1 (wrap64 (x5_1 + 1))) = some (r1, r2, r3) := by rw [if_pos rfl] at H; exact H
            clear H
            have H := H1
            clear H1
            have H' := Aside0.mk H
            clear H
            go_wp2
            go_roundg kj13
            case measure => have := HK1.out; have := HJ13.out; omega
            case rel => exact ⟨(x4_1), (wrap64 (x5_1 + 1)), (x161000_1), (x161001_1), (by first | rfl | (simp; done) | (simp [*]; done)), H', ⟨by have := HK1.out; have := HJ13.out; omega⟩, ⟨by (with_reducible repeat (first | apply Kd.R_alloc | apply Kd.R_drewN | apply Kd.R_drew)); exact HO_4.out⟩, ⟨by (with_reducible repeat (first | refine blk_drewN ?_ _ | refine blk_drew ?_ | refine blk_alloc ?_ _)); exact BK160.out⟩, ⟨by repeat (first | (with_reducible first | exact HB.out | apply below_alloc | apply pw_below_drewN | apply below_drew1 | refine below_set ?_ GE160.out) | exact HB.out)⟩⟩
           ·replace c17 := Bool.eq_false_iff.mpr c17
            subst c17
            have H1 : ((token_next.f kj13 (a0.extract (x5_1 : Int).toNat a0.size) x5_1).bind fun bt161 => (if bt161.2.2.2.2.2.1 = 0 then (if x4_1.length < 3518437208883 then (token_Lex.l0 kj13 a0 (x4_1 ++ [(⟨bt161.1, bt161.2.1, bt161.2.2.1, bt161.2.2.2.1⟩ : S37)]) (wrap64 (x5_1 + bt161.2.2.2.2.1))) else (none)) else (some (([] : List (S37)), bt161.2.2.2.2.2.1, bt161.2.2.2.2.2.2)))) = some (r1, r2, r3) := by rw [if_neg (show ¬ (false = true) by decide)] at H; exact H
            clear H
            have H := H1
            clear H1
            replace H := Option.bind_eq_some_iff.mp H
            obtain ⟨⟨t161, t162, t163, t164, t165, t166, t167⟩, A180, H⟩ := H
            replace H : (if t166 = 0 then (if x4_1.length < 3518437208883 then (token_Lex.l0 kj13 a0 (x4_1 ++ [(⟨t161, t162, t163, t164⟩ : S37)]) (wrap64 (x5_1 + t165))) else (none)) else (some (([] : List (S37)), t166, t167))) = some (r1, r2, r3) := H
            have A18 := Aside0.mk A180
            clear A180
            by_cases c19 : t166 = 0
            ·rw [if_pos c19] at H
             have c19b0 : (t166 == 0) = true := beq_iff_eq.mpr c19
             have c19b1 : (t166 != 0) = false := bne_eq_false_iff_eq.mpr c19
             clear c19
             by_cases c20 : x4_1.length < 3518437208883
             ·rw [if_pos c20] at H
              have LMc20 := Aside0.mk c20
              clear c20
              obtain ⟨y170, hy170⟩ : ∃ y_ : List (S37), y_ = (x4_1 ++ [(⟨t161, t162, t163, t164⟩ : S37)]) := ⟨_, rfl⟩
              replace H : (token_Lex.l0 kj13 a0 y170 (wrap64 (x5_1 + t165))) = some (r1, r2, r3) := by first | (rw [hy170]; with_reducible exact H) | (have H2_ := (Option.bind_some _ _).symm.trans H; rw [hy170]; with_reducible exact H2_) | (have H2_ := (Option.bind_some _ _).symm.trans H; with_reducible exact H2_) | with_reducible exact H | (rw [hy170]; exact H) | exact H
              have Ny170 := Aside0.mk hy170
              clear hy170
              have H' := Aside0.mk H
              clear H
              go_wp2_with (first | ((with_reducible refine gate_callee (f := 35) rfl ?_); refine goesL_ (some 24) rfl rfl Tryd.func35 (by kernel_rfl) rfl #[.string (a0.extract (x5_1 : Int).toNat a0.size), .int .i64 x5_1] rfl (by (try simp only [List.map_toArray, List.map_cons, List.map_nil]); first | done | rfl | (simp only [List.length_drop, List.length_take]; rfl)) ?_; (with_reducible refine (token_next.calls kj13 (a0.extract (x5_1 : Int).toNat a0.size) x5_1 t161 t162 t163 t164 t165 t166 t167 _ A18.out).mono ?_); rintro e w21 ⟨rfl, hb⟩; refine ⟨_, rfl, ?_⟩; have n0_ := Aside0.mk (Kd.R_below (by (with_reducible repeat (first | apply Kd.R_alloc | apply Kd.R_drewN | apply Kd.R_drew)); exact HO_4.out) hb); have n1_ := Aside0.mk (blk_below (g := gb160) (o := .cells #[.int .i64 x161000_1, .int .i64 x161001_1] 32 (0, 0)) (by (with_reducible repeat (first | refine blk_drewN ?_ _ | refine blk_drew ?_ | refine blk_alloc ?_ _)); exact BK160.out) hb); have n2_ := Aside0.mk (below_step (by repeat (first | (with_reducible first | exact HB.out | apply below_alloc | apply pw_below_drewN | apply below_drew1 | refine below_set ?_ GE160.out) | exact HB.out)) hb); clear HO_4; clear BK160; clear HB; have HO_4 := n0_; have BK160 := n1_; have HB := n2_; clear n0_ n1_ n2_; (try clear hb); (try clear hb2); (try clear hk); (try clear hi)) | ((with_reducible refine gate_dst (N := 7) rfl ?_); refine box_event ?hg (N := 7) ?hd (cs := #[.int .i64 0, .int .i64 0, .string (⟨#[]⟩ : ByteArray), .int .i64 0]) (t := 37) ?hr ?_; (case hd => rfl); (case hg => rfl); (case hr => first | (go_simp; done) | (go_simp; rfl)); intro gb168 hg w22 hbox hb; have n0_ := Aside0.mk (Kd.R_below (Kd.R_elderB (by (with_reducible repeat (first | apply Kd.R_alloc | apply Kd.R_drewN | apply Kd.R_drew)); exact HO_4.out) gb168 (Nat.le_of_eq hg.symm)) hb); have n1_ := Aside0.mk (blk_below (g := gb160) (o := .cells #[.int .i64 x161000_1, .int .i64 x161001_1] 32 (0, 0)) (by (with_reducible repeat (first | refine blk_drewN ?_ _ | refine blk_drew ?_ | refine blk_alloc ?_ _)); exact BK160.out) hb); have n2_ := Aside0.mk (below_step (by repeat (first | (with_reducible first | exact HB.out | apply below_alloc | apply pw_below_drewN | apply below_drew1 | refine below_set ?_ GE160.out) | exact HB.out)) hb); have n3_ := Aside0.mk (hbox); have n4_ := Aside0.mk ((by rw [hg]; exact (below_size (by repeat (first | (with_reducible first | exact HB.out | apply below_alloc | apply pw_below_drewN | apply below_drew1 | refine below_set ?_ GE160.out) | exact HB.out))) : w.heap.size ≤ gb168)); have n5_ := Aside0.mk ((by rw [hg]; exact (below_size (by repeat (first | (with_reducible first | exact HB.out | apply below_alloc | apply pw_below_drewN | apply below_drew1 | refine below_set ?_ GE160.out) | exact HB.out))) : w.heap.size ≤ gb168)); have n6_ := Aside0.mk ((by rw [hg]; exact Nat.ne_of_lt (blk_lt (g := gb160) (o := .cells #[.int .i64 x161000_1, .int .i64 x161001_1] 32 (0, 0)) (by (with_reducible repeat (first | refine blk_drewN ?_ _ | refine blk_drew ?_ | refine blk_alloc ?_ _)); exact BK160.out)) : gb160 ≠ gb168)); have n7_ := Aside0.mk ((by rw [hg]; exact Nat.ne_of_gt (blk_lt (g := gb160) (o := .cells #[.int .i64 x161000_1, .int .i64 x161001_1] 32 (0, 0)) (by (with_reducible repeat (first | refine blk_drewN ?_ _ | refine blk_drew ?_ | refine blk_alloc ?_ _)); exact BK160.out)) : gb168 ≠ gb160)); clear HO_4; clear BK160; clear HB; have HO_4 := n0_; have BK160 := n1_; have HB := n2_; have BK168 := n3_; have GW168 := n4_; have GE168 := n5_; have NB160_168 := n6_; have NB168_160 := n7_; clear n0_ n1_ n2_ n3_ n4_ n5_ n6_ n7_; clear hb hbox hg) | ((with_reducible refine gate_dst (N := 9) rfl ?_); refine box_event ?hg (N := 9) ?hd (cs := #[.int .i64 0, .int .i64 0]) (t := 32) ?hr ?_; (case hd => rfl); (case hg => rfl); (case hr => first | (go_simp; done) | (go_simp; rfl)); intro gb169 hg w23 hbox hb; have n0_ := Aside0.mk (Kd.R_below (by (with_reducible repeat (first | apply Kd.R_alloc | apply Kd.R_drewN | apply Kd.R_drew)); exact HO_4.out) hb); have n1_ := Aside0.mk (blk_below (g := gb160) (o := .cells #[.int .i64 x161000_1, .int .i64 x161001_1] 32 (0, 0)) (by (with_reducible repeat (first | refine blk_drewN ?_ _ | refine blk_drew ?_ | refine blk_alloc ?_ _)); exact BK160.out) hb); have n2_ := Aside0.mk (blk_below (g := gb168) (o := .cells #[.int .i64 0, .int .i64 0, .string (⟨#[]⟩ : ByteArray), .int .i64 0] 37 (0, 0)) (by (with_reducible repeat (first | refine blk_drewN ?_ _ | refine blk_drew ?_ | refine blk_alloc ?_ _)); exact BK168.out) hb); have n3_ := Aside0.mk (below_step (by repeat (first | (with_reducible first | exact HB.out | apply below_alloc | apply pw_below_drewN | apply below_drew1 | refine below_set ?_ GE160.out | refine below_set ?_ GE168.out) | exact HB.out)) hb); have n4_ := Aside0.mk (hbox); have n5_ := Aside0.mk ((by rw [hg]; exact (below_size (by repeat (first | (with_reducible first | exact HB.out | apply below_alloc | apply pw_below_drewN | apply below_drew1 | refine below_set ?_ GE160.out | refine below_set ?_ GE168.out) | exact HB.out))) : w.heap.size ≤ gb169)); have n6_ := Aside0.mk ((by rw [hg]; exact (below_size (by repeat (first | (with_reducible first | exact HB.out | apply below_alloc | apply pw_below_drewN | apply below_drew1 | refine below_set ?_ GE160.out | refine below_set ?_ GE168.out) | exact HB.out))) : w.heap.size ≤ gb169)); have n7_ := Aside0.mk ((by rw [hg]; exact Nat.ne_of_lt (blk_lt (g := gb160) (o := .cells #[.int .i64 x161000_1, .int .i64 x161001_1] 32 (0, 0)) (by (with_reducible repeat (first | refine blk_drewN ?_ _ | refine blk_drew ?_ | refine blk_alloc ?_ _)); exact BK160.out)) : gb160 ≠ gb169)); have n8_ := Aside0.mk ((by rw [hg]; exact Nat.ne_of_gt (blk_lt (g := gb160) (o := .cells #[.int .i64 x161000_1, .int .i64 x161001_1] 32 (0, 0)) (by (with_reducible repeat (first | refine blk_drewN ?_ _ | refine blk_drew ?_ | refine blk_alloc ?_ _)); exact BK160.out)) : gb169 ≠ gb160)); have n9_ := Aside0.mk ((by rw [hg]; exact Nat.ne_of_lt (blk_lt (g := gb168) (o := .cells #[.int .i64 0, .int .i64 0, .string (⟨#[]⟩ : ByteArray), .int .i64 0] 37 (0, 0)) (by (with_reducible repeat (first | refine blk_drewN ?_ _ | refine blk_drew ?_ | refine blk_alloc ?_ _)); exact BK168.out)) : gb168 ≠ gb169)); have n10_ := Aside0.mk ((by rw [hg]; exact Nat.ne_of_gt (blk_lt (g := gb168) (o := .cells #[.int .i64 0, .int .i64 0, .string (⟨#[]⟩ : ByteArray), .int .i64 0] 37 (0, 0)) (by (with_reducible repeat (first | refine blk_drewN ?_ _ | refine blk_drew ?_ | refine blk_alloc ?_ _)); exact BK168.out)) : gb169 ≠ gb168)); clear HO_4; clear BK160; clear BK168; clear HB; have HO_4 := n0_; have BK160 := n1_; have BK168 := n2_; have HB := n3_; have BK169 := n4_; have GW169 := n5_; have GE169 := n6_; have NB160_169 := n7_; have NB169_160 := n8_; have NB168_169 := n9_; have NB169_168 := n10_; clear n0_ n1_ n2_ n3_ n4_ n5_ n6_ n7_ n8_ n9_ n10_; clear hb hbox hg; have hnb24 := NB168_160.out; have hnc24 := NB160_168.out; have hnb25 := NB168_169.out; have hnc25 := NB169_168.out; have hcz26_0 : w23.cell? ⟨gb168, 0, none⟩ = some (.int .i64 0) := (blk_cell BK168.out 0).trans rfl; have hcz26_1 : w23.cell? ⟨gb168, 1, none⟩ = some (.int .i64 0) := (blk_cell BK168.out 1).trans rfl; have hcz26_2 : w23.cell? ⟨gb168, 2, none⟩ = some (.string (⟨#[]⟩ : ByteArray)) := (blk_cell BK168.out 2).trans rfl; have hcz26_3 : w23.cell? ⟨gb168, 3, none⟩ = some (.int .i64 0) := (blk_cell BK168.out 3).trans rfl; have hfz26_0 := blk_frozen BK168.out 0; have hfz26_1 := blk_frozen BK168.out 1; have hfz26_2 := blk_frozen BK168.out 2; have hfz26_3 := blk_frozen BK168.out 3; have hnb27 := NB169_160.out; have hnc27 := NB160_169.out; have hcz28_0 : w23.cell? ⟨gb169, 0, none⟩ = some (.int .i64 0) := (blk_cell BK169.out 0).trans rfl; have hcz28_1 : w23.cell? ⟨gb169, 1, none⟩ = some (.int .i64 0) := (blk_cell BK169.out 1).trans rfl; have hfz28_0 := blk_frozen BK169.out 0; have hfz28_1 := blk_frozen BK169.out 1) | ((with_reducible refine gate_builtin (b := .append) (xs := #[.tmp 32, .tmp 34]) rfl ?_); at_builtin; refine Kd.R_append k37 (w0 := w) w.heap.size rfl (.tmp 32) (.tmp 34) 22 37 (.agg #[(.int .i64 0), (.int .i64 0), (.string ⟨#[]⟩), (.int .i64 0)]) 40 rfl Tryd.underlying22 info37 rfl (by decide) (by omega) u4 x4_1 (⟨t161, t162, t163, t164⟩ : S37) [.int .i64 t161, .int .i64 t162, .string t163, .int .i64 t164] (fun k_ => k_ ≠ gb168) (fun _ => False) rfl (by first | (go_simp; done) | (go_simp; rfl)) ?aP (fun _ hk => hk.elim) ?aF ?aO ?aB ?aS ?aL ?_; (case aP => exact k37_mkM _ _ _ (⟨t161, t162, t163, t164⟩ : S37)); (case aB => exact (by repeat (first | (with_reducible first | exact HB.out | apply below_alloc | apply pw_below_drewN | apply below_drew1 | refine below_set ?_ GE160.out | refine below_set ?_ GE168.out | refine below_set ?_ GE169.out) | exact HB.out))); (case aF => exact (fun k_ hk => Kd.freshB (g := gb168) (o := .cells #[.int .i64 t161, .int .i64 t162, .string t163, .int .i64 t164] 37 (0, 0)) (by (with_reducible repeat (first | refine blk_drewN ?_ _ | refine blk_drew ?_ | refine blk_alloc ?_ _)); refine blk_far ?_ NB168_169.out _; (with_reducible repeat (first | refine blk_drewN ?_ _ | refine blk_drew ?_ | refine blk_alloc ?_ _)); refine blk_far ?_ NB168_169.out _; (with_reducible repeat (first | refine blk_drewN ?_ _ | refine blk_drew ?_ | refine blk_alloc ?_ _)); refine blk_put (cs := #[.int .i64 t161, .int .i64 t162, .string t163, .int .i64 0]) ?_ 3 _ rfl; (with_reducible repeat (first | refine blk_drewN ?_ _ | refine blk_drew ?_ | refine blk_alloc ?_ _)); refine blk_put (cs := #[.int .i64 t161, .int .i64 t162, .string (⟨#[]⟩ : ByteArray), .int .i64 0]) ?_ 2 _ rfl; (with_reducible repeat (first | refine blk_drewN ?_ _ | refine blk_drew ?_ | refine blk_alloc ?_ _)); refine blk_put (cs := #[.int .i64 t161, .int .i64 0, .string (⟨#[]⟩ : ByteArray), .int .i64 0]) ?_ 1 _ rfl; (with_reducible repeat (first | refine blk_drewN ?_ _ | refine blk_drew ?_ | refine blk_alloc ?_ _)); refine blk_put (cs := #[.int .i64 0, .int .i64 0, .string (⟨#[]⟩ : ByteArray), .int .i64 0]) ?_ 0 _ rfl; (with_reducible repeat (first | refine blk_drewN ?_ _ | refine blk_drew ?_ | refine blk_alloc ?_ _)); exact BK168.out) k_ hk)); (case aO => exact (by (with_reducible repeat (first | apply Kd.R_alloc | apply Kd.R_drewN | apply Kd.R_drew)); exact Kd.R_mono (Kd.R_far (p := ⟨gb169, 1, none⟩) (Kd.R_far (p := ⟨gb169, 0, none⟩) (Kd.R_far (p := ⟨gb168, 3, none⟩) (Kd.R_far (p := ⟨gb168, 2, none⟩) (Kd.R_far (p := ⟨gb168, 1, none⟩) (Kd.R_far (p := ⟨gb168, 0, none⟩) (Kd.R_types (Kd.R_mono HO_4.out (fun k_ hk => (⟨hk, hk.2⟩ : _ ∧ k_ ≠ gb168))) BK169.out (by decide)) (fun _ hk => hk.1.2) (.int .i64 t161)) (fun _ hk => hk.1.2) (.int .i64 t162)) (fun _ hk => hk.1.2) (.string t163)) (fun _ hk => hk.1.2) (.int .i64 t164)) (fun _ hk => hk.2) (.int .i64 t166)) (fun _ hk => hk.2) (.int .i64 t167)) (fun _ hk => hk.1.1.2))); (case aS => exact (below_size (by repeat (first | (with_reducible first | exact HB.out | apply below_alloc | apply pw_below_drewN | apply below_drew1 | refine below_set ?_ GE160.out | refine below_set ?_ GE168.out | refine below_set ?_ GE169.out) | exact HB.out)))); (case aL => have := LMc20.out; omega); intro v171 w29 ho hb hg hat; rw [← Ny170.out] at ho; have n0_ := Aside0.mk (blk_grown (g := gb160) (o := .cells #[.int .i64 x161000_1, .int .i64 x161001_1] 32 (0, 0)) (by (with_reducible repeat (first | refine blk_drewN ?_ _ | refine blk_drew ?_ | refine blk_alloc ?_ _)); refine blk_far ?_ NB160_169.out _; (with_reducible repeat (first | refine blk_drewN ?_ _ | refine blk_drew ?_ | refine blk_alloc ?_ _)); refine blk_far ?_ NB160_169.out _; (with_reducible repeat (first | refine blk_drewN ?_ _ | refine blk_drew ?_ | refine blk_alloc ?_ _)); refine blk_far ?_ NB160_168.out _; (with_reducible repeat (first | refine blk_drewN ?_ _ | refine blk_drew ?_ | refine blk_alloc ?_ _)); refine blk_far ?_ NB160_168.out _; (with_reducible repeat (first | refine blk_drewN ?_ _ | refine blk_drew ?_ | refine blk_alloc ?_ _)); refine blk_far ?_ NB160_168.out _; (with_reducible repeat (first | refine blk_drewN ?_ _ | refine blk_drew ?_ | refine blk_alloc ?_ _)); refine blk_far ?_ NB160_168.out _; (with_reducible repeat (first | refine blk_drewN ?_ _ | refine blk_drew ?_ | refine blk_alloc ?_ _)); exact BK160.out) hg (Kd.R_ne HO_4.out BK160.out (by decide))); have n1_ := Aside0.mk (blk_grown (g := gb168) (o := .cells #[.int .i64 t161, .int .i64 t162, .string t163, .int .i64 t164] 37 (0, 0)) (by (with_reducible repeat (first | refine blk_drewN ?_ _ | refine blk_drew ?_ | refine blk_alloc ?_ _)); refine blk_far ?_ NB168_169.out _; (with_reducible repeat (first | refine blk_drewN ?_ _ | refine blk_drew ?_ | refine blk_alloc ?_ _)); refine blk_far ?_ NB168_169.out _; (with_reducible repeat (first | refine blk_drewN ?_ _ | refine blk_drew ?_ | refine blk_alloc ?_ _)); refine blk_put (cs := #[.int .i64 t161, .int .i64 t162, .string t163, .int .i64 0]) ?_ 3 _ rfl; (with_reducible repeat (first | refine blk_drewN ?_ _ | refine blk_drew ?_ | refine blk_alloc ?_ _)); refine blk_put (cs := #[.int .i64 t161, .int .i64 t162, .string (⟨#[]⟩ : ByteArray), .int .i64 0]) ?_ 2 _ rfl; (with_reducible repeat (first | refine blk_drewN ?_ _ | refine blk_drew ?_ | refine blk_alloc ?_ _)); refine blk_put (cs := #[.int .i64 t161, .int .i64 0, .string (⟨#[]⟩ : ByteArray), .int .i64 0]) ?_ 1 _ rfl; (with_reducible repeat (first | refine blk_drewN ?_ _ | refine blk_drew ?_ | refine blk_alloc ?_ _)); refine blk_put (cs := #[.int .i64 0, .int .i64 0, .string (⟨#[]⟩ : ByteArray), .int .i64 0]) ?_ 0 _ rfl; (with_reducible repeat (first | refine blk_drewN ?_ _ | refine blk_drew ?_ | refine blk_alloc ?_ _)); exact BK168.out) hg (Kd.R_away HO_4.out (fun _ hk => hk.2))); have n2_ := Aside0.mk (blk_grown (g := gb169) (o := .cells #[.int .i64 t166, .int .i64 t167] 32 (0, 0)) (by (with_reducible repeat (first | refine blk_drewN ?_ _ | refine blk_drew ?_ | refine blk_alloc ?_ _)); refine blk_put (cs := #[.int .i64 t166, .int .i64 0]) ?_ 1 _ rfl; (with_reducible repeat (first | refine blk_drewN ?_ _ | refine blk_drew ?_ | refine blk_alloc ?_ _)); refine blk_put (cs := #[.int .i64 0, .int .i64 0]) ?_ 0 _ rfl; (with_reducible repeat (first | refine blk_drewN ?_ _ | refine blk_drew ?_ | refine blk_alloc ?_ _)); refine blk_far ?_ NB169_168.out _; (with_reducible repeat (first | refine blk_drewN ?_ _ | refine blk_drew ?_ | refine blk_alloc ?_ _)); refine blk_far ?_ NB169_168.out _; (with_reducible repeat (first | refine blk_drewN ?_ _ | refine blk_drew ?_ | refine blk_alloc ?_ _)); refine blk_far ?_ NB169_168.out _; (with_reducible repeat (first | refine blk_drewN ?_ _ | refine blk_drew ?_ | refine blk_alloc ?_ _)); refine blk_far ?_ NB169_168.out _; (with_reducible repeat (first | refine blk_drewN ?_ _ | refine blk_drew ?_ | refine blk_alloc ?_ _)); exact BK169.out) hg (Kd.R_ne HO_4.out BK169.out (by decide))); have n3_ := Aside0.mk (hb); have n4_ := Aside0.mk (ho); clear BK160; clear BK168; clear BK169; clear HB; clear HO_4; have BK160 := n0_; have BK168 := n1_; have BK169 := n2_; have HB := n3_; have HO172 := n4_; clear n0_ n1_ n2_ n3_ n4_; clear ho hb hg hat))
              go_roundg kj13
              case measure => have := HK1.out; have := HJ13.out; omega
              case rel => exact ⟨(y170), (wrap64 (x5_1 + t165)), (x161000_1), (x161001_1), (by first | rfl | (simp; done) | (simp [*]; done)), H', ⟨by have := HK1.out; have := HJ13.out; omega⟩, ⟨by (with_reducible repeat (first | apply Kd.R_alloc | apply Kd.R_drewN | apply Kd.R_drew)); exact Kd.R_mono HO172.out (fun _ hk => trivial)⟩, ⟨by (with_reducible repeat (first | refine blk_drewN ?_ _ | refine blk_drew ?_ | refine blk_alloc ?_ _)); exact BK160.out⟩, ⟨by repeat (first | (with_reducible first | exact HB.out | apply below_alloc | apply pw_below_drewN | apply below_drew1 | refine below_set ?_ GE160.out | refine below_set ?_ GE168.out | refine below_set ?_ GE169.out) | exact HB.out)⟩⟩
             ·rw [if_neg c20] at H
              exact absurd H (by simp)
            ·rw [if_neg c19] at H
             have c19b0 : (t166 == 0) = false := beq_eq_false_iff_ne.mpr c19
             have c19b1 : (t166 != 0) = true := bne_iff_ne.mpr c19
             simp only [Option.some.injEq, Prod.mk.injEq] at H
             obtain ⟨rfl, rfl, rfl⟩ := H
             try go_wp2_with (first | ((with_reducible refine gate_callee (f := 35) rfl ?_); refine goesL_ (some 24) rfl rfl Tryd.func35 (by kernel_rfl) rfl #[.string (a0.extract (x5_1 : Int).toNat a0.size), .int .i64 x5_1] rfl (by (try simp only [List.map_toArray, List.map_cons, List.map_nil]); first | done | rfl | (simp only [List.length_drop, List.length_take]; rfl)) ?_; (with_reducible refine (token_next.calls kj13 (a0.extract (x5_1 : Int).toNat a0.size) x5_1 t161 t162 t163 t164 t165 t166 t167 _ A18.out).mono ?_); rintro e w30 ⟨rfl, hb⟩; refine ⟨_, rfl, ?_⟩; have n0_ := Aside0.mk (Kd.R_below (by (with_reducible repeat (first | apply Kd.R_alloc | apply Kd.R_drewN | apply Kd.R_drew)); exact HO_4.out) hb); have n1_ := Aside0.mk (blk_below (g := gb160) (o := .cells #[.int .i64 x161000_1, .int .i64 x161001_1] 32 (0, 0)) (by (with_reducible repeat (first | refine blk_drewN ?_ _ | refine blk_drew ?_ | refine blk_alloc ?_ _)); exact BK160.out) hb); have n2_ := Aside0.mk (below_step (by repeat (first | (with_reducible first | exact HB.out | apply below_alloc | apply pw_below_drewN | apply below_drew1 | refine below_set ?_ GE160.out) | exact HB.out)) hb); clear HO_4; clear BK160; clear HB; have HO_4 := n0_; have BK160 := n1_; have HB := n2_; clear n0_ n1_ n2_; (try clear hb); (try clear hb2); (try clear hk); (try clear hi)) | ((with_reducible refine gate_dst (N := 7) rfl ?_); refine box_event ?hg (N := 7) ?hd (cs := #[.int .i64 0, .int .i64 0, .string (⟨#[]⟩ : ByteArray), .int .i64 0]) (t := 37) ?hr ?_; (case hd => rfl); (case hg => rfl); (case hr => first | (go_simp; done) | (go_simp; rfl)); intro gb168 hg w31 hbox hb; have n0_ := Aside0.mk (Kd.R_below (Kd.R_elderB (by (with_reducible repeat (first | apply Kd.R_alloc | apply Kd.R_drewN | apply Kd.R_drew)); exact HO_4.out) gb168 (Nat.le_of_eq hg.symm)) hb); have n1_ := Aside0.mk (blk_below (g := gb160) (o := .cells #[.int .i64 x161000_1, .int .i64 x161001_1] 32 (0, 0)) (by (with_reducible repeat (first | refine blk_drewN ?_ _ | refine blk_drew ?_ | refine blk_alloc ?_ _)); exact BK160.out) hb); have n2_ := Aside0.mk (below_step (by repeat (first | (with_reducible first | exact HB.out | apply below_alloc | apply pw_below_drewN | apply below_drew1 | refine below_set ?_ GE160.out) | exact HB.out)) hb); have n3_ := Aside0.mk (hbox); have n4_ := Aside0.mk ((by rw [hg]; exact (below_size (by repeat (first | (with_reducible first | exact HB.out | apply below_alloc | apply pw_below_drewN | apply below_drew1 | refine below_set ?_ GE160.out) | exact HB.out))) : w.heap.size ≤ gb168)); have n5_ := Aside0.mk ((by rw [hg]; exact (below_size (by repeat (first | (with_reducible first | exact HB.out | apply below_alloc | apply pw_below_drewN | apply below_drew1 | refine below_set ?_ GE160.out) | exact HB.out))) : w.heap.size ≤ gb168)); have n6_ := Aside0.mk ((by rw [hg]; exact Nat.ne_of_lt (blk_lt (g := gb160) (o := .cells #[.int .i64 x161000_1, .int .i64 x161001_1] 32 (0, 0)) (by (with_reducible repeat (first | refine blk_drewN ?_ _ | refine blk_drew ?_ | refine blk_alloc ?_ _)); exact BK160.out)) : gb160 ≠ gb168)); have n7_ := Aside0.mk ((by rw [hg]; exact Nat.ne_of_gt (blk_lt (g := gb160) (o := .cells #[.int .i64 x161000_1, .int .i64 x161001_1] 32 (0, 0)) (by (with_reducible repeat (first | refine blk_drewN ?_ _ | refine blk_drew ?_ | refine blk_alloc ?_ _)); exact BK160.out)) : gb168 ≠ gb160)); clear HO_4; clear BK160; clear HB; have HO_4 := n0_; have BK160 := n1_; have HB := n2_; have BK168 := n3_; have GW168 := n4_; have GE168 := n5_; have NB160_168 := n6_; have NB168_160 := n7_; clear n0_ n1_ n2_ n3_ n4_ n5_ n6_ n7_; clear hb hbox hg) | ((with_reducible refine gate_dst (N := 9) rfl ?_); refine box_event ?hg (N := 9) ?hd (cs := #[.int .i64 0, .int .i64 0]) (t := 32) ?hr ?_; (case hd => rfl); (case hg => rfl); (case hr => first | (go_simp; done) | (go_simp; rfl)); intro gb169 hg w32 hbox hb; have n0_ := Aside0.mk (Kd.R_below (by (with_reducible repeat (first | apply Kd.R_alloc | apply Kd.R_drewN | apply Kd.R_drew)); exact HO_4.out) hb); have n1_ := Aside0.mk (blk_below (g := gb160) (o := .cells #[.int .i64 x161000_1, .int .i64 x161001_1] 32 (0, 0)) (by (with_reducible repeat (first | refine blk_drewN ?_ _ | refine blk_drew ?_ | refine blk_alloc ?_ _)); exact BK160.out) hb); have n2_ := Aside0.mk (blk_below (g := gb168) (o := .cells #[.int .i64 0, .int .i64 0, .string (⟨#[]⟩ : ByteArray), .int .i64 0] 37 (0, 0)) (by (with_reducible repeat (first | refine blk_drewN ?_ _ | refine blk_drew ?_ | refine blk_alloc ?_ _)); exact BK168.out) hb); have n3_ := Aside0.mk (below_step (by repeat (first | (with_reducible first | exact HB.out | apply below_alloc | apply pw_below_drewN | apply below_drew1 | refine below_set ?_ GE160.out | refine below_set ?_ GE168.out) | exact HB.out)) hb); have n4_ := Aside0.mk (hbox); have n5_ := Aside0.mk ((by rw [hg]; exact (below_size (by repeat (first | (with_reducible first | exact HB.out | apply below_alloc | apply pw_below_drewN | apply below_drew1 | refine below_set ?_ GE160.out | refine below_set ?_ GE168.out) | exact HB.out))) : w.heap.size ≤ gb169)); have n6_ := Aside0.mk ((by rw [hg]; exact (below_size (by repeat (first | (with_reducible first | exact HB.out | apply below_alloc | apply pw_below_drewN | apply below_drew1 | refine below_set ?_ GE160.out | refine below_set ?_ GE168.out) | exact HB.out))) : w.heap.size ≤ gb169)); have n7_ := Aside0.mk ((by rw [hg]; exact Nat.ne_of_lt (blk_lt (g := gb160) (o := .cells #[.int .i64 x161000_1, .int .i64 x161001_1] 32 (0, 0)) (by (with_reducible repeat (first | refine blk_drewN ?_ _ | refine blk_drew ?_ | refine blk_alloc ?_ _)); exact BK160.out)) : gb160 ≠ gb169)); have n8_ := Aside0.mk ((by rw [hg]; exact Nat.ne_of_gt (blk_lt (g := gb160) (o := .cells #[.int .i64 x161000_1, .int .i64 x161001_1] 32 (0, 0)) (by (with_reducible repeat (first | refine blk_drewN ?_ _ | refine blk_drew ?_ | refine blk_alloc ?_ _)); exact BK160.out)) : gb169 ≠ gb160)); have n9_ := Aside0.mk ((by rw [hg]; exact Nat.ne_of_lt (blk_lt (g := gb168) (o := .cells #[.int .i64 0, .int .i64 0, .string (⟨#[]⟩ : ByteArray), .int .i64 0] 37 (0, 0)) (by (with_reducible repeat (first | refine blk_drewN ?_ _ | refine blk_drew ?_ | refine blk_alloc ?_ _)); exact BK168.out)) : gb168 ≠ gb169)); have n10_ := Aside0.mk ((by rw [hg]; exact Nat.ne_of_gt (blk_lt (g := gb168) (o := .cells #[.int .i64 0, .int .i64 0, .string (⟨#[]⟩ : ByteArray), .int .i64 0] 37 (0, 0)) (by (with_reducible repeat (first | refine blk_drewN ?_ _ | refine blk_drew ?_ | refine blk_alloc ?_ _)); exact BK168.out)) : gb169 ≠ gb168)); clear HO_4; clear BK160; clear BK168; clear HB; have HO_4 := n0_; have BK160 := n1_; have BK168 := n2_; have HB := n3_; have BK169 := n4_; have GW169 := n5_; have GE169 := n6_; have NB160_169 := n7_; have NB169_160 := n8_; have NB168_169 := n9_; have NB169_168 := n10_; clear n0_ n1_ n2_ n3_ n4_ n5_ n6_ n7_ n8_ n9_ n10_; clear hb hbox hg; have hnb33 := NB168_160.out; have hnc33 := NB160_168.out; have hnb34 := NB168_169.out; have hnc34 := NB169_168.out; have hcz35_0 : w32.cell? ⟨gb168, 0, none⟩ = some (.int .i64 0) := (blk_cell BK168.out 0).trans rfl; have hcz35_1 : w32.cell? ⟨gb168, 1, none⟩ = some (.int .i64 0) := (blk_cell BK168.out 1).trans rfl; have hcz35_2 : w32.cell? ⟨gb168, 2, none⟩ = some (.string (⟨#[]⟩ : ByteArray)) := (blk_cell BK168.out 2).trans rfl; have hcz35_3 : w32.cell? ⟨gb168, 3, none⟩ = some (.int .i64 0) := (blk_cell BK168.out 3).trans rfl; have hfz35_0 := blk_frozen BK168.out 0; have hfz35_1 := blk_frozen BK168.out 1; have hfz35_2 := blk_frozen BK168.out 2; have hfz35_3 := blk_frozen BK168.out 3; have hnb36 := NB169_160.out; have hnc36 := NB160_169.out; have hcz37_0 : w32.cell? ⟨gb169, 0, none⟩ = some (.int .i64 0) := (blk_cell BK169.out 0).trans rfl; have hcz37_1 : w32.cell? ⟨gb169, 1, none⟩ = some (.int .i64 0) := (blk_cell BK169.out 1).trans rfl; have hfz37_0 := blk_frozen BK169.out 0; have hfz37_1 := blk_frozen BK169.out 1))
             have n0_ : Aside0 (Kd.R k37 37 ((((((w32.setCell ⟨gb168, 0, none⟩ (.int .i64 t161)).setCell ⟨gb168, 1, none⟩ (.int .i64 t162)).setCell ⟨gb168, 2, none⟩ (.string t163)).setCell ⟨gb168, 3, none⟩ (.int .i64 t164)).setCell ⟨gb169, 0, none⟩ (.int .i64 t166)).setCell ⟨gb169, 1, none⟩ (.int .i64 t167)) w.heap.size (fun k_ => k_ ≠ gb168) u4 x4_1) := ⟨by (with_reducible repeat (first | apply Kd.R_alloc | apply Kd.R_drewN | apply Kd.R_drew)); exact Kd.R_mono (Kd.R_far (p := ⟨gb169, 1, none⟩) (Kd.R_far (p := ⟨gb169, 0, none⟩) (Kd.R_far (p := ⟨gb168, 3, none⟩) (Kd.R_far (p := ⟨gb168, 2, none⟩) (Kd.R_far (p := ⟨gb168, 1, none⟩) (Kd.R_far (p := ⟨gb168, 0, none⟩) (Kd.R_types (Kd.R_mono HO_4.out (fun k_ hk => (⟨hk, hk.2⟩ : _ ∧ k_ ≠ gb168))) BK169.out (by decide)) (fun _ hk => hk.1.2) (.int .i64 t161)) (fun _ hk => hk.1.2) (.int .i64 t162)) (fun _ hk => hk.1.2) (.string t163)) (fun _ hk => hk.1.2) (.int .i64 t164)) (fun _ hk => hk.2) (.int .i64 t166)) (fun _ hk => hk.2) (.int .i64 t167)) (fun _ hk => hk.1.1.2)⟩
             have n1_ : Aside0 (((((((w32.setCell ⟨gb168, 0, none⟩ (.int .i64 t161)).setCell ⟨gb168, 1, none⟩ (.int .i64 t162)).setCell ⟨gb168, 2, none⟩ (.string t163)).setCell ⟨gb168, 3, none⟩ (.int .i64 t164)).setCell ⟨gb169, 0, none⟩ (.int .i64 t166)).setCell ⟨gb169, 1, none⟩ (.int .i64 t167)).heap[gb160]? = some (.cells #[.int .i64 x161000_1, .int .i64 x161001_1] 32 (0, 0))) := ⟨by (with_reducible repeat (first | refine blk_drewN ?_ _ | refine blk_drew ?_ | refine blk_alloc ?_ _)); refine blk_far ?_ NB160_169.out _; (with_reducible repeat (first | refine blk_drewN ?_ _ | refine blk_drew ?_ | refine blk_alloc ?_ _)); refine blk_far ?_ NB160_169.out _; (with_reducible repeat (first | refine blk_drewN ?_ _ | refine blk_drew ?_ | refine blk_alloc ?_ _)); refine blk_far ?_ NB160_168.out _; (with_reducible repeat (first | refine blk_drewN ?_ _ | refine blk_drew ?_ | refine blk_alloc ?_ _)); refine blk_far ?_ NB160_168.out _; (with_reducible repeat (first | refine blk_drewN ?_ _ | refine blk_drew ?_ | refine blk_alloc ?_ _)); refine blk_far ?_ NB160_168.out _; (with_reducible repeat (first | refine blk_drewN ?_ _ | refine blk_drew ?_ | refine blk_alloc ?_ _)); refine blk_far ?_ NB160_168.out _; (with_reducible repeat (first | refine blk_drewN ?_ _ | refine blk_drew ?_ | refine blk_alloc ?_ _)); exact BK160.out⟩
             have n2_ : Aside0 (((((((w32.setCell ⟨gb168, 0, none⟩ (.int .i64 t161)).setCell ⟨gb168, 1, none⟩ (.int .i64 t162)).setCell ⟨gb168, 2, none⟩ (.string t163)).setCell ⟨gb168, 3, none⟩ (.int .i64 t164)).setCell ⟨gb169, 0, none⟩ (.int .i64 t166)).setCell ⟨gb169, 1, none⟩ (.int .i64 t167)).heap[gb168]? = some (.cells #[.int .i64 t161, .int .i64 t162, .string t163, .int .i64 t164] 37 (0, 0))) := ⟨by (with_reducible repeat (first | refine blk_drewN ?_ _ | refine blk_drew ?_ | refine blk_alloc ?_ _)); refine blk_far ?_ NB168_169.out _; (with_reducible repeat (first | refine blk_drewN ?_ _ | refine blk_drew ?_ | refine blk_alloc ?_ _)); refine blk_far ?_ NB168_169.out _; (with_reducible repeat (first | refine blk_drewN ?_ _ | refine blk_drew ?_ | refine blk_alloc ?_ _)); refine blk_put (cs := #[.int .i64 t161, .int .i64 t162, .string t163, .int .i64 0]) ?_ 3 _ rfl; (with_reducible repeat (first | refine blk_drewN ?_ _ | refine blk_drew ?_ | refine blk_alloc ?_ _)); refine blk_put (cs := #[.int .i64 t161, .int .i64 t162, .string (⟨#[]⟩ : ByteArray), .int .i64 0]) ?_ 2 _ rfl; (with_reducible repeat (first | refine blk_drewN ?_ _ | refine blk_drew ?_ | refine blk_alloc ?_ _)); refine blk_put (cs := #[.int .i64 t161, .int .i64 0, .string (⟨#[]⟩ : ByteArray), .int .i64 0]) ?_ 1 _ rfl; (with_reducible repeat (first | refine blk_drewN ?_ _ | refine blk_drew ?_ | refine blk_alloc ?_ _)); refine blk_put (cs := #[.int .i64 0, .int .i64 0, .string (⟨#[]⟩ : ByteArray), .int .i64 0]) ?_ 0 _ rfl; (with_reducible repeat (first | refine blk_drewN ?_ _ | refine blk_drew ?_ | refine blk_alloc ?_ _)); exact BK168.out⟩
             have n3_ : Aside0 (((((((w32.setCell ⟨gb168, 0, none⟩ (.int .i64 t161)).setCell ⟨gb168, 1, none⟩ (.int .i64 t162)).setCell ⟨gb168, 2, none⟩ (.string t163)).setCell ⟨gb168, 3, none⟩ (.int .i64 t164)).setCell ⟨gb169, 0, none⟩ (.int .i64 t166)).setCell ⟨gb169, 1, none⟩ (.int .i64 t167)).heap[gb169]? = some (.cells #[.int .i64 t166, .int .i64 t167] 32 (0, 0))) := ⟨by (with_reducible repeat (first | refine blk_drewN ?_ _ | refine blk_drew ?_ | refine blk_alloc ?_ _)); refine blk_put (cs := #[.int .i64 t166, .int .i64 0]) ?_ 1 _ rfl; (with_reducible repeat (first | refine blk_drewN ?_ _ | refine blk_drew ?_ | refine blk_alloc ?_ _)); refine blk_put (cs := #[.int .i64 0, .int .i64 0]) ?_ 0 _ rfl; (with_reducible repeat (first | refine blk_drewN ?_ _ | refine blk_drew ?_ | refine blk_alloc ?_ _)); refine blk_far ?_ NB169_168.out _; (with_reducible repeat (first | refine blk_drewN ?_ _ | refine blk_drew ?_ | refine blk_alloc ?_ _)); refine blk_far ?_ NB169_168.out _; (with_reducible repeat (first | refine blk_drewN ?_ _ | refine blk_drew ?_ | refine blk_alloc ?_ _)); refine blk_far ?_ NB169_168.out _; (with_reducible repeat (first | refine blk_drewN ?_ _ | refine blk_drew ?_ | refine blk_alloc ?_ _)); refine blk_far ?_ NB169_168.out _; (with_reducible repeat (first | refine blk_drewN ?_ _ | refine blk_drew ?_ | refine blk_alloc ?_ _)); exact BK169.out⟩
             have n4_ : Aside0 (Below w.heap.size w ((((((w32.setCell ⟨gb168, 0, none⟩ (.int .i64 t161)).setCell ⟨gb168, 1, none⟩ (.int .i64 t162)).setCell ⟨gb168, 2, none⟩ (.string t163)).setCell ⟨gb168, 3, none⟩ (.int .i64 t164)).setCell ⟨gb169, 0, none⟩ (.int .i64 t166)).setCell ⟨gb169, 1, none⟩ (.int .i64 t167))) := ⟨by repeat (first | (with_reducible first | exact HB.out | apply below_alloc | apply pw_below_drewN | apply below_drew1 | refine below_set ?_ GE160.out | refine below_set ?_ GE168.out | refine below_set ?_ GE169.out) | exact HB.out)⟩
             (try clear HO_4)
             (try clear BK160)
             (try clear BK168)
             (try clear BK169)
             (try clear HB)
             generalize ((((((w32.setCell ⟨gb168, 0, none⟩ (.int .i64 t161)).setCell ⟨gb168, 1, none⟩ (.int .i64 t162)).setCell ⟨gb168, 2, none⟩ (.string t163)).setCell ⟨gb168, 3, none⟩ (.int .i64 t164)).setCell ⟨gb169, 0, none⟩ (.int .i64 t166)).setCell ⟨gb169, 1, none⟩ (.int .i64 t167)) = w38 at n0_ n1_ n2_ n3_ n4_ ⊢
             have HO_4 := n0_
             have BK160 := n1_
             have BK168 := n2_
             have BK169 := n3_
             have HB := n4_
             clear n0_ n1_ n2_ n3_ n4_
             have n0_ := Aside0.mk (Kd.R_drew HO_4.out)
             have n1_ := Aside0.mk (blk_drew BK160.out)
             have n2_ := Aside0.mk (blk_drew BK168.out)
             have n3_ := Aside0.mk (blk_drew BK169.out)
             have n4_ := Aside0.mk (below_drew1 HB.out)
             clear HO_4
             clear BK160
             clear BK168
             clear BK169
             clear HB
             have HO_4 := n0_
             have BK160 := n1_
             have BK168 := n2_
             have BK169 := n3_
             have HB := n4_
             clear n0_ n1_ n2_ n3_ n4_
             refine start_ (n := 3) (S := fun w' => w'.cell? ⟨gb169, 0, none⟩ = some (.int .i64 t166) ∧ w'.cell? ⟨gb169, 1, none⟩ = some (.int .i64 t167)) (ds := []) #[false, false, false] (by kernel_rfl) rfl rfl ⟨(blk_cell BK169.out 0).trans rfl, (blk_cell BK169.out 1).trans rfl⟩ (fun hHeld => ?_)
             generalize w38.drew = w39 at HO_4 BK160 BK168 BK169 HB hHeld ⊢
             refine pure_ (i := 1) (N := some 2) (v := ?_) (a' := ?_) #[false, true, false] rfl rfl (by kernel_rfl) (fun _ _ _ h => h) (Or.inl ⟨by rfl, ?_⟩) ?_ ?_
             rotate_left
             ·intro w'
              go_simp
              with_reducible rfl
             rotate_left
             ·simp only [Act.put, List.setIfInBounds_toArray, List.set_cons_zero, List.set_cons_succ, i64_w, i32_w]
              rfl
             refine take_ (i := 0) (N := some 31) (v := ?_) (a' := ?_) #[true, true, false] rfl rfl (by kernel_rfl) (fun _ _ _ h => h) (Or.inl ⟨by rfl, ?_⟩) hHeld ?_ ?_
             rotate_left
             ·rintro w' ⟨s0, s1⟩
              go_simp
              with_reducible rfl
             rotate_left
             ·simp only [Act.put, List.setIfInBounds_toArray, List.set_cons_zero, List.set_cons_succ, i64_w, i32_w]
              rfl
             refine one_ (i := 2) (N := none) #[true, true, true] rfl rfl (by kernel_rfl) (by decide) (fun K hK => ?_)
             have hs40 : w39.cell? ⟨gb160, 0, none⟩ = some (.int .i64 x161000_1) := (blk_cell BK160.out 0).trans rfl
             have hfs40 := blk_frozen BK160.out 0
             have hns40_1 := NB168_160.out
             have hns40_2 := NB169_160.out
             have hms40_1 := NB160_168.out
             have hms40_2 := NB160_169.out
             have hs41 : w39.cell? ⟨gb160, 1, none⟩ = some (.int .i64 x161001_1) := (blk_cell BK160.out 1).trans rfl
             have hfs41 := blk_frozen BK160.out 1
             have hns41_1 := NB168_160.out
             have hns41_2 := NB169_160.out
             have hms41_1 := NB160_168.out
             have hms41_2 := NB160_169.out
             refine skip_ (w1 := ?_) (by rfl) rfl ?_ ?_
             rotate_left
             ·go_simp
              rfl
             refine hK.out _ _ ⟨((cell_far (p := ⟨gb160, _, none⟩) NB169_160.out _).trans (((cell_far (p := ⟨gb160, _, none⟩) NB169_160.out _).trans (hHeld.1)))), ((cell_far (p := ⟨gb160, _, none⟩) NB169_160.out _).trans (((cell_far (p := ⟨gb160, _, none⟩) NB169_160.out _).trans (hHeld.2))))⟩ (fun hHeld => ?_)
             clear hK K
             refine done_ (by kernel_rfl) ?_
             try go_wp2
             refine bodyPost_ret (results_tc rfl _ _ gb160 32 #[.int .i64 t166, .int .i64 t167] (0, 0) _ rfl (by (with_reducible repeat (first | refine blk_drewN ?_ _ | refine blk_drew ?_ | refine blk_alloc ?_ _)); refine blk_put (cs := #[.int .i64 t166, .int .i64 x161001_1]) ?_ 1 _ rfl; (with_reducible repeat (first | refine blk_drewN ?_ _ | refine blk_drew ?_ | refine blk_alloc ?_ _)); refine blk_put (cs := #[.int .i64 x161000_1, .int .i64 x161001_1]) ?_ 0 _ rfl; (with_reducible repeat (first | refine blk_drewN ?_ _ | refine blk_drew ?_ | refine blk_alloc ?_ _)); exact BK160.out) Tryd.underlying32 rfl (by kernel_rfl)) rfl ?_
             exact ⟨_, by first | rfl | (simp [errW_none, errW_some] <;> rfl) | (simp [*, errW_none, errW_some] <;> rfl), by first | exact Kd.R_nil _ _ _ _ _ | exact Kd.N_nil _ _ _ _ _ | exact Kd.V_nil _ _ _ _ _ | exact Kd.Q_nil _ _ _ _ _ | exact Kd.S_nil _ _ _ _ _, by repeat (first | (with_reducible first | exact HB.out | apply below_alloc | apply pw_below_drewN | apply below_drew1 | refine below_set ?_ GE160.out | refine below_set ?_ GE168.out | refine below_set ?_ GE169.out) | exact HB.out)⟩
       ·rw [if_neg c9] at H
        exact absurd H (by simp)
      ·rw [if_neg c8] at H
       exact absurd H (by simp)
     ·rw [if_neg c7] at H
      exact absurd H (by simp)
    ·rw [if_neg c6] at H
     have c6b0 : decide (x5_1 < (a0.size : Int)) = false := decide_eq_false c6
     clear c6
     simp only [Option.some.injEq, Prod.mk.injEq] at H
     obtain ⟨rfl, rfl, rfl⟩ := H
     have hcz42_0 : wr.cell? ⟨gb160, 0, none⟩ = some (.int .i64 x161000_1) := (blk_cell BK160.out 0).trans rfl
     have hcz42_1 : wr.cell? ⟨gb160, 1, none⟩ = some (.int .i64 x161001_1) := (blk_cell BK160.out 1).trans rfl
     have hfz42_0 := blk_frozen BK160.out 0
     have hfz42_1 := blk_frozen BK160.out 1
     go_wp2
     refine bodyPost_ret (results_tc rfl _ _ gb160 32 #[.int .i64 0, .int .i64 0] (0, 0) _ rfl (by (with_reducible repeat (first | refine blk_drewN ?_ _ | refine blk_drew ?_ | refine blk_alloc ?_ _)); refine blk_put (cs := #[.int .i64 0, .int .i64 x161001_1]) ?_ 1 _ rfl; (with_reducible repeat (first | refine blk_drewN ?_ _ | refine blk_drew ?_ | refine blk_alloc ?_ _)); refine blk_put (cs := #[.int .i64 x161000_1, .int .i64 x161001_1]) ?_ 0 _ rfl; (with_reducible repeat (first | refine blk_drewN ?_ _ | refine blk_drew ?_ | refine blk_alloc ?_ _)); exact BK160.out) Tryd.underlying32 rfl (by kernel_rfl)) rfl ?_
     exact ⟨_, by first | rfl | (simp [errW_none, errW_some] <;> rfl) | (simp [*, errW_none, errW_some] <;> rfl), by (with_reducible repeat (first | apply Kd.R_alloc | apply Kd.R_drewN | apply Kd.R_drew)); exact Kd.R_mono (Kd.R_far (p := ⟨gb160, 1, none⟩) (Kd.R_far (p := ⟨gb160, 0, none⟩) (Kd.R_types HO_4.out BK160.out (by decide)) (fun _ hk => hk.2) (.int .i64 0)) (fun _ hk => hk.2) (.int .i64 0)) (fun _ hk => trivial), by repeat (first | (with_reducible first | exact HB.out | apply below_alloc | apply pw_below_drewN | apply below_drew1 | refine below_set ?_ GE160.out) | exact HB.out)⟩

/-! ### linotypelaw22_reads: function 18 -/
def linotypelaw22_reads.f (k : Nat) (a0 : ByteArray) (l1 : List (S37)) : Option (Bool) := (token_Lex.f k a0).bind fun bt173 => (if bt173.2.1 = 0 then ((linotypekit_SameTokens.f k bt173.1 l1).bind fun t179 => (some t179)) else (some false))
theorem linotypelaw22_reads.mono : ∀ a0 a1 k, LeO (linotypelaw22_reads.f k a0 a1) (linotypelaw22_reads.f (k + 1) a0 a1) := by
 intro a0 a1 k
 unfold linotypelaw22_reads.f
 repeat' first
   | (with_reducible exact linotypekit_SameTokens.mono _ _ _)
   | (with_reducible exact token_Lex.mono _ _)
   | (with_reducible exact LeO.refl _)
   | (with_reducible exact LeO.none _)
   | (with_reducible refine LeO.ite ?_ ?_)
   | (with_reducible refine LeO.bind ?_ (fun _ => ?_))
   | exact linotypekit_SameTokens.mono _ _ _
   | exact token_Lex.mono _ _
   | exact LeO.none _
   | refine LeO.ite ?_ ?_
   | refine LeO.bind ?_ (fun _ => ?_)
set_option maxHeartbeats 8000000 in
set_option maxRecDepth 100000 in
theorem linotypelaw22_reads.calls (k : Nat) (a0 : ByteArray) (A1 : Option Addr) (c1 : Nat) (l1 : List (S37)) (r : Bool) (w : World) (hr1 : Kd.C k37 w A1 l1.length l1) (hc1 : l1.length ≤ c1) (h : linotypelaw22_reads.f k a0 l1 = some r) :
  Calls Tryd.prog 18 #[.string a0, .slice A1 l1.length c1] w fun e w' => e = .returned (.bool r) ∧ Below w.heap.size w w' := by
 have hu32 := Tryd.underlying32
 have HR1 := Aside0.mk hr1
 have HC1 := Aside0.mk hc1
 clear hr1 hc1
 have HB := Aside0.mk (Below.refl w.heap.size w)
 have H : ((token_Lex.f k a0).bind fun bt173 => (if bt173.2.1 = 0 then ((linotypekit_SameTokens.f k bt173.1 l1).bind fun t179 => (some t179)) else (some false))) = some r := h
 clear h
 replace H := Option.bind_eq_some_iff.mp H
 obtain ⟨⟨t173, t176, t177⟩, A30, H⟩ := H
 replace H : (if t176 = 0 then ((linotypekit_SameTokens.f k t173 l1).bind fun t179 => (some t179)) else (some false)) = some r := H
 have A3 := Aside0.mk A30
 clear A30
 by_cases c4 : t176 = 0
 ·rw [if_pos c4] at H
  have c4b0 : (t176 == 0) = true := beq_iff_eq.mpr c4
  have c4b1 : (t176 != 0) = false := bne_eq_false_iff_eq.mpr c4
  clear c4
  replace H := Option.bind_eq_some_iff.mp H
  obtain ⟨t179, A50, H⟩ := H
  replace H : (some t179) = some r := H
  have A5 := Aside0.mk A50
  clear A50
  obtain rfl := Option.some.inj H
  go_enter Tryd.func18, Tryd.ntmps18
  go_wp2_with (first | ((with_reducible refine gate_callee (f := 13) rfl ?_); refine goesL_ (some 9) rfl rfl Tryd.func13 (by kernel_rfl) rfl #[.string a0] rfl (by (try simp only [List.map_toArray, List.map_cons, List.map_nil]); first | done | rfl | (simp only [List.length_drop, List.length_take]; rfl)) ?_; (with_reducible refine (token_Lex.calls k a0 t173 t176 t177 _ A3.out).mono ?_); rintro e w6 ⟨v174, rfl, ho0, hb⟩; refine ⟨_, rfl, ?_⟩; have n0_ := Aside0.mk (Kd.R_lower ho0 (below_size (by repeat (first | (with_reducible first | exact HB.out | apply below_alloc | apply pw_below_drewN | apply below_drew1) | exact HB.out)))); have n1_ := Aside0.mk (below_step (by repeat (first | (with_reducible first | exact HB.out | apply below_alloc | apply pw_below_drewN | apply below_drew1) | exact HB.out)) hb); clear HB; have HO175 := n0_; have HB := n1_; clear n0_ n1_; (try clear hb); (try clear hb2); (try clear hk); (try clear hi); (try clear ho0)) | ((with_reducible refine gate_dst (N := 6) rfl ?_); refine box_event ?hg (N := 6) ?hd (cs := #[.int .i64 0, .int .i64 0]) (t := 32) ?hr ?_; (case hd => rfl); (case hg => rfl); (case hr => first | (go_simp; done) | (go_simp; rfl)); intro gb178 hg w7 hbox hb; have n0_ := Aside0.mk (Kd.R_below (by (with_reducible repeat (first | apply Kd.R_alloc | apply Kd.R_drewN | apply Kd.R_drew)); exact HO175.out) hb); have n1_ := Aside0.mk (below_step (by repeat (first | (with_reducible first | exact HB.out | apply below_alloc | apply pw_below_drewN | apply below_drew1) | exact HB.out)) hb); have n2_ := Aside0.mk (hbox); have n3_ := Aside0.mk ((by rw [hg]; exact (below_size (by repeat (first | (with_reducible first | exact HB.out | apply below_alloc | apply pw_below_drewN | apply below_drew1) | exact HB.out))) : w.heap.size ≤ gb178)); have n4_ := Aside0.mk ((by rw [hg]; exact (below_size (by repeat (first | (with_reducible first | exact HB.out | apply below_alloc | apply pw_below_drewN | apply below_drew1) | exact HB.out))) : w.heap.size ≤ gb178)); clear HO175; clear HB; have HO175 := n0_; have HB := n1_; have BK178 := n2_; have GW178 := n3_; have GE178 := n4_; clear n0_ n1_ n2_ n3_ n4_; clear hb hbox hg; have hcz8_0 : w7.cell? ⟨gb178, 0, none⟩ = some (.int .i64 0) := (blk_cell BK178.out 0).trans rfl; have hcz8_1 : w7.cell? ⟨gb178, 1, none⟩ = some (.int .i64 0) := (blk_cell BK178.out 1).trans rfl; have hfz8_0 := blk_frozen BK178.out 0; have hfz8_1 := blk_frozen BK178.out 1; obtain ⟨Ao9, co9, eo9⟩ := Kd.R_slice HO175.out; subst eo9) | (go_at_call 11; (with_reducible refine (linotypekit_SameTokens.calls k _ _ t173 _ _ l1 t179 _ ?side1 ?side2 ?side3 ?side4 A5.out).mono ?_); (case side1 => refine (Kd.R_reads' (e := 37) (base := w.heap.size) (ok := fun k_ => True) (n := t173.length) (c := co9) ?_).2.2; exact (by (with_reducible repeat (first | apply Kd.R_alloc | apply Kd.R_drewN | apply Kd.R_drew)); exact (Kd.R_mono (Kd.R_far (p := ⟨gb178, 1, none⟩) (Kd.R_far (p := ⟨gb178, 0, none⟩) (Kd.R_types HO175.out BK178.out (by decide)) (fun _ hk => hk.2) (.int .i64 t176)) (fun _ hk => hk.2) (.int .i64 t177)) (fun _ h_ => h_.1)))); (case side2 => exact (Kd.R_reads' HO175.out).2.1); (case side3 => exact Kd.C_below HR1.out (by repeat (first | (with_reducible first | exact HB.out | apply below_alloc | apply pw_below_drewN | apply below_drew1 | refine below_set ?_ GE178.out) | exact HB.out))); (case side4 => exact HC1.out); rintro e w' ⟨rfl, ⟨nd, rfl⟩⟩))
  go_ret
  exact ⟨by first | rfl | (simp [errW_none, errW_some] <;> rfl) | (simp [*, errW_none, errW_some] <;> rfl), by repeat (first | (with_reducible first | exact HB.out | apply below_alloc | apply pw_below_drewN | apply below_drew1 | refine below_set ?_ GE178.out) | exact HB.out)⟩
 ·rw [if_neg c4] at H
  have c4b0 : (t176 == 0) = false := beq_eq_false_iff_ne.mpr c4
  have c4b1 : (t176 != 0) = true := bne_iff_ne.mpr c4
  obtain rfl := Option.some.inj H
  go_enter Tryd.func18, Tryd.ntmps18
  go_wp2_with (first | ((with_reducible refine gate_callee (f := 13) rfl ?_); refine goesL_ (some 9) rfl rfl Tryd.func13 (by kernel_rfl) rfl #[.string a0] rfl (by (try simp only [List.map_toArray, List.map_cons, List.map_nil]); first | done | rfl | (simp only [List.length_drop, List.length_take]; rfl)) ?_; (with_reducible refine (token_Lex.calls k a0 t173 t176 t177 _ A3.out).mono ?_); rintro e w10 ⟨v174, rfl, ho0, hb⟩; refine ⟨_, rfl, ?_⟩; have n0_ := Aside0.mk (Kd.R_lower ho0 (below_size (by repeat (first | (with_reducible first | exact HB.out | apply below_alloc | apply pw_below_drewN | apply below_drew1) | exact HB.out)))); have n1_ := Aside0.mk (below_step (by repeat (first | (with_reducible first | exact HB.out | apply below_alloc | apply pw_below_drewN | apply below_drew1) | exact HB.out)) hb); clear HB; have HO175 := n0_; have HB := n1_; clear n0_ n1_; (try clear hb); (try clear hb2); (try clear hk); (try clear hi); (try clear ho0)) | ((with_reducible refine gate_dst (N := 6) rfl ?_); refine box_event ?hg (N := 6) ?hd (cs := #[.int .i64 0, .int .i64 0]) (t := 32) ?hr ?_; (case hd => rfl); (case hg => rfl); (case hr => first | (go_simp; done) | (go_simp; rfl)); intro gb178 hg w11 hbox hb; have n0_ := Aside0.mk (Kd.R_below (by (with_reducible repeat (first | apply Kd.R_alloc | apply Kd.R_drewN | apply Kd.R_drew)); exact HO175.out) hb); have n1_ := Aside0.mk (below_step (by repeat (first | (with_reducible first | exact HB.out | apply below_alloc | apply pw_below_drewN | apply below_drew1) | exact HB.out)) hb); have n2_ := Aside0.mk (hbox); have n3_ := Aside0.mk ((by rw [hg]; exact (below_size (by repeat (first | (with_reducible first | exact HB.out | apply below_alloc | apply pw_below_drewN | apply below_drew1) | exact HB.out))) : w.heap.size ≤ gb178)); have n4_ := Aside0.mk ((by rw [hg]; exact (below_size (by repeat (first | (with_reducible first | exact HB.out | apply below_alloc | apply pw_below_drewN | apply below_drew1) | exact HB.out))) : w.heap.size ≤ gb178)); clear HO175; clear HB; have HO175 := n0_; have HB := n1_; have BK178 := n2_; have GW178 := n3_; have GE178 := n4_; clear n0_ n1_ n2_ n3_ n4_; clear hb hbox hg; have hcz12_0 : w11.cell? ⟨gb178, 0, none⟩ = some (.int .i64 0) := (blk_cell BK178.out 0).trans rfl; have hcz12_1 : w11.cell? ⟨gb178, 1, none⟩ = some (.int .i64 0) := (blk_cell BK178.out 1).trans rfl; have hfz12_0 := blk_frozen BK178.out 0; have hfz12_1 := blk_frozen BK178.out 1))
  go_ret
  exact ⟨by first | rfl | (simp [errW_none, errW_some] <;> rfl) | (simp [*, errW_none, errW_some] <;> rfl), by repeat (first | (with_reducible first | exact HB.out | apply below_alloc | apply pw_below_drewN | apply below_drew1 | refine below_set ?_ GE178.out) | exact HB.out)⟩

/-! ### linotypelaw22_awake: function 12 -/
def linotypelaw22_awake.f (k : Nat)  : Option (Bool) := (linotypelaw22_word.f (⟨#[97]⟩ : ByteArray) 0).bind fun bt180 => ((linotypelaw22_sign.f (⟨#[58]⟩ : ByteArray) 1).bind fun bt184 => ((linotypelaw22_word.f (⟨#[109, 111, 118]⟩ : ByteArray) 3).bind fun bt188 => ((linotypelaw22_word.f (⟨#[97, 108]⟩ : ByteArray) 7).bind fun bt192 => ((linotypelaw22_sign.f (⟨#[44]⟩ : ByteArray) 9).bind fun bt196 => ((linotypelaw22_sign.f (⟨#[91]⟩ : ByteArray) 10).bind fun bt200 => ((linotypelaw22_word.f (⟨#[114, 98, 120]⟩ : ByteArray) 11).bind fun bt204 => ((linotypelaw22_sign.f (⟨#[43]⟩ : ByteArray) 14).bind fun bt208 => ((linotypelaw22_number.f 16 15).bind fun bt212 => ((linotypelaw22_sign.f (⟨#[93]⟩ : ByteArray) 19).bind fun bt216 => ((linotypelaw22_reads.f k (⟨#[97, 58, 32, 109, 111, 118, 32, 97, 108, 44, 91, 114, 98, 120, 43, 48, 120, 49, 48, 93, 32, 59, 32, 120]⟩ : ByteArray) (([(⟨bt180.1, bt180.2.1, bt180.2.2.1, bt180.2.2.2⟩ : S37), (⟨bt184.1, bt184.2.1, bt184.2.2.1, bt184.2.2.2⟩ : S37), (⟨bt188.1, bt188.2.1, bt188.2.2.1, bt188.2.2.2⟩ : S37), (⟨bt192.1, bt192.2.1, bt192.2.2.1, bt192.2.2.2⟩ : S37), (⟨bt196.1, bt196.2.1, bt196.2.2.1, bt196.2.2.2⟩ : S37), (⟨bt200.1, bt200.2.1, bt200.2.2.1, bt200.2.2.2⟩ : S37), (⟨bt204.1, bt204.2.1, bt204.2.2.1, bt204.2.2.2⟩ : S37), (⟨bt208.1, bt208.2.1, bt208.2.2.1, bt208.2.2.2⟩ : S37), (⟨bt212.1, bt212.2.1, bt212.2.2.1, bt212.2.2.2⟩ : S37), (⟨bt216.1, bt216.2.1, bt216.2.2.1, bt216.2.2.2⟩ : S37)] : List (S37)))).bind fun t223 => (some t223)))))))))))
theorem linotypelaw22_awake.mono : ∀ k, LeO (linotypelaw22_awake.f k ) (linotypelaw22_awake.f (k + 1) ) := by
 intro  k
 unfold linotypelaw22_awake.f
 repeat' first
   | (with_reducible exact linotypelaw22_reads.mono _ _ _)
   | (with_reducible exact LeO.refl _)
   | (with_reducible exact LeO.none _)
   | (with_reducible refine LeO.ite ?_ ?_)
   | (with_reducible refine LeO.bind ?_ (fun _ => ?_))
   | exact linotypelaw22_reads.mono _ _ _
   | exact LeO.none _
   | refine LeO.ite ?_ ?_
   | refine LeO.bind ?_ (fun _ => ?_)
set_option maxHeartbeats 8000000 in
set_option maxRecDepth 100000 in
theorem linotypelaw22_awake.calls (k : Nat)  (r : Bool) (w : World) (h : linotypelaw22_awake.f k  = some r) :
  Calls Tryd.prog 12 #[] w fun e w' => e = .returned (.bool r) ∧ Below w.heap.size w w' := by
 have HB := Aside0.mk (Below.refl w.heap.size w)
 have H : ((linotypelaw22_word.f (⟨#[97]⟩ : ByteArray) 0).bind fun bt180 => ((linotypelaw22_sign.f (⟨#[58]⟩ : ByteArray) 1).bind fun bt184 => ((linotypelaw22_word.f (⟨#[109, 111, 118]⟩ : ByteArray) 3).bind fun bt188 => ((linotypelaw22_word.f (⟨#[97, 108]⟩ : ByteArray) 7).bind fun bt192 => ((linotypelaw22_sign.f (⟨#[44]⟩ : ByteArray) 9).bind fun bt196 => ((linotypelaw22_sign.f (⟨#[91]⟩ : ByteArray) 10).bind fun bt200 => ((linotypelaw22_word.f (⟨#[114, 98, 120]⟩ : ByteArray) 11).bind fun bt204 => ((linotypelaw22_sign.f (⟨#[43]⟩ : ByteArray) 14).bind fun bt208 => ((linotypelaw22_number.f 16 15).bind fun bt212 => ((linotypelaw22_sign.f (⟨#[93]⟩ : ByteArray) 19).bind fun bt216 => ((linotypelaw22_reads.f k (⟨#[97, 58, 32, 109, 111, 118, 32, 97, 108, 44, 91, 114, 98, 120, 43, 48, 120, 49, 48, 93, 32, 59, 32, 120]⟩ : ByteArray) (([(⟨bt180.1, bt180.2.1, bt180.2.2.1, bt180.2.2.2⟩ : S37), (⟨bt184.1, bt184.2.1, bt184.2.2.1, bt184.2.2.2⟩ : S37), (⟨bt188.1, bt188.2.1, bt188.2.2.1, bt188.2.2.2⟩ : S37), (⟨bt192.1, bt192.2.1, bt192.2.2.1, bt192.2.2.2⟩ : S37), (⟨bt196.1, bt196.2.1, bt196.2.2.1, bt196.2.2.2⟩ : S37), (⟨bt200.1, bt200.2.1, bt200.2.2.1, bt200.2.2.2⟩ : S37), (⟨bt204.1, bt204.2.1, bt204.2.2.1, bt204.2.2.2⟩ : S37), (⟨bt208.1, bt208.2.1, bt208.2.2.1, bt208.2.2.2⟩ : S37), (⟨bt212.1, bt212.2.1, bt212.2.2.1, bt212.2.2.2⟩ : S37), (⟨bt216.1, bt216.2.1, bt216.2.2.1, bt216.2.2.2⟩ : S37)] : List (S37)))).bind fun t223 => (some t223)))))))))))) = some r := h
 clear h
 replace H := Option.bind_eq_some_iff.mp H
 obtain ⟨⟨t180, t181, t182, t183⟩, A10, H⟩ := H
 replace H : ((linotypelaw22_sign.f (⟨#[58]⟩ : ByteArray) 1).bind fun bt184 => ((linotypelaw22_word.f (⟨#[109, 111, 118]⟩ : ByteArray) 3).bind fun bt188 => ((linotypelaw22_word.f (⟨#[97, 108]⟩ : ByteArray) 7).bind fun bt192 => ((linotypelaw22_sign.f (⟨#[44]⟩ : ByteArray) 9).bind fun bt196 => ((linotypelaw22_sign.f (⟨#[91]⟩ : ByteArray) 10).bind fun bt200 => ((linotypelaw22_word.f (⟨#[114, 98, 120]⟩ : ByteArray) 11).bind fun bt204 => ((linotypelaw22_sign.f (⟨#[43]⟩ : ByteArray) 14).bind fun bt208 => ((linotypelaw22_number.f 16 15).bind fun bt212 => ((linotypelaw22_sign.f (⟨#[93]⟩ : ByteArray) 19).bind fun bt216 => ((linotypelaw22_reads.f k (⟨#[97, 58, 32, 109, 111, 118, 32, 97, 108, 44, 91, 114, 98, 120, 43, 48, 120, 49, 48, 93, 32, 59, 32, 120]⟩ : ByteArray) (([(⟨t180, t181, t182, t183⟩ : S37), (⟨bt184.1, bt184.2.1, bt184.2.2.1, bt184.2.2.2⟩ : S37), (⟨bt188.1, bt188.2.1, bt188.2.2.1, bt188.2.2.2⟩ : S37), (⟨bt192.1, bt192.2.1, bt192.2.2.1, bt192.2.2.2⟩ : S37), (⟨bt196.1, bt196.2.1, bt196.2.2.1, bt196.2.2.2⟩ : S37), (⟨bt200.1, bt200.2.1, bt200.2.2.1, bt200.2.2.2⟩ : S37), (⟨bt204.1, bt204.2.1, bt204.2.2.1, bt204.2.2.2⟩ : S37), (⟨bt208.1, bt208.2.1, bt208.2.2.1, bt208.2.2.2⟩ : S37), (⟨bt212.1, bt212.2.1, bt212.2.2.1, bt212.2.2.2⟩ : S37), (⟨bt216.1, bt216.2.1, bt216.2.2.1, bt216.2.2.2⟩ : S37)] : List (S37)))).bind fun t223 => (some t223))))))))))) = some r := H
 have A1 := Aside0.mk A10
 clear A10
 replace H := Option.bind_eq_some_iff.mp H
 obtain ⟨⟨t184, t185, t186, t187⟩, A20, H⟩ := H
 replace H : ((linotypelaw22_word.f (⟨#[109, 111, 118]⟩ : ByteArray) 3).bind fun bt188 => ((linotypelaw22_word.f (⟨#[97, 108]⟩ : ByteArray) 7).bind fun bt192 => ((linotypelaw22_sign.f (⟨#[44]⟩ : ByteArray) 9).bind fun bt196 => ((linotypelaw22_sign.f (⟨#[91]⟩ : ByteArray) 10).bind fun bt200 => ((linotypelaw22_word.f (⟨#[114, 98, 120]⟩ : ByteArray) 11).bind fun bt204 => ((linotypelaw22_sign.f (⟨#[43]⟩ : ByteArray) 14).bind fun bt208 => ((linotypelaw22_number.f 16 15).bind fun bt212 => ((linotypelaw22_sign.f (⟨#[93]⟩ : ByteArray) 19).bind fun bt216 => ((linotypelaw22_reads.f k (⟨#[97, 58, 32, 109, 111, 118, 32, 97, 108, 44, 91, 114, 98, 120, 43, 48, 120, 49, 48, 93, 32, 59, 32, 120]⟩ : ByteArray) (([(⟨t180, t181, t182, t183⟩ : S37), (⟨t184, t185, t186, t187⟩ : S37), (⟨bt188.1, bt188.2.1, bt188.2.2.1, bt188.2.2.2⟩ : S37), (⟨bt192.1, bt192.2.1, bt192.2.2.1, bt192.2.2.2⟩ : S37), (⟨bt196.1, bt196.2.1, bt196.2.2.1, bt196.2.2.2⟩ : S37), (⟨bt200.1, bt200.2.1, bt200.2.2.1, bt200.2.2.2⟩ : S37), (⟨bt204.1, bt204.2.1, bt204.2.2.1, bt204.2.2.2⟩ : S37), (⟨bt208.1, bt208.2.1, bt208.2.2.1, bt208.2.2.2⟩ : S37), (⟨bt212.1, bt212.2.1, bt212.2.2.1, bt212.2.2.2⟩ : S37), (⟨bt216.1, bt216.2.1, bt216.2.2.1, bt216.2.2.2⟩ : S37)] : List (S37)))).bind fun t223 => (some t223)))))))))) = some r := H
 have A2 := Aside0.mk A20
 clear A20
 replace H := Option.bind_eq_some_iff.mp H
 obtain ⟨⟨t188, t189, t190, t191⟩, A30, H⟩ := H
 replace H : ((linotypelaw22_word.f (⟨#[97, 108]⟩ : ByteArray) 7).bind fun bt192 => ((linotypelaw22_sign.f (⟨#[44]⟩ : ByteArray) 9).bind fun bt196 => ((linotypelaw22_sign.f (⟨#[91]⟩ : ByteArray) 10).bind fun bt200 => ((linotypelaw22_word.f (⟨#[114, 98, 120]⟩ : ByteArray) 11).bind fun bt204 => ((linotypelaw22_sign.f (⟨#[43]⟩ : ByteArray) 14).bind fun bt208 => ((linotypelaw22_number.f 16 15).bind fun bt212 => ((linotypelaw22_sign.f (⟨#[93]⟩ : ByteArray) 19).bind fun bt216 => ((linotypelaw22_reads.f k (⟨#[97, 58, 32, 109, 111, 118, 32, 97, 108, 44, 91, 114, 98, 120, 43, 48, 120, 49, 48, 93, 32, 59, 32, 120]⟩ : ByteArray) (([(⟨t180, t181, t182, t183⟩ : S37), (⟨t184, t185, t186, t187⟩ : S37), (⟨t188, t189, t190, t191⟩ : S37), (⟨bt192.1, bt192.2.1, bt192.2.2.1, bt192.2.2.2⟩ : S37), (⟨bt196.1, bt196.2.1, bt196.2.2.1, bt196.2.2.2⟩ : S37), (⟨bt200.1, bt200.2.1, bt200.2.2.1, bt200.2.2.2⟩ : S37), (⟨bt204.1, bt204.2.1, bt204.2.2.1, bt204.2.2.2⟩ : S37), (⟨bt208.1, bt208.2.1, bt208.2.2.1, bt208.2.2.2⟩ : S37), (⟨bt212.1, bt212.2.1, bt212.2.2.1, bt212.2.2.2⟩ : S37), (⟨bt216.1, bt216.2.1, bt216.2.2.1, bt216.2.2.2⟩ : S37)] : List (S37)))).bind fun t223 => (some t223))))))))) = some r := H
 have A3 := Aside0.mk A30
 clear A30
 replace H := Option.bind_eq_some_iff.mp H
 obtain ⟨⟨t192, t193, t194, t195⟩, A40, H⟩ := H
 replace H : ((linotypelaw22_sign.f (⟨#[44]⟩ : ByteArray) 9).bind fun bt196 => ((linotypelaw22_sign.f (⟨#[91]⟩ : ByteArray) 10).bind fun bt200 => ((linotypelaw22_word.f (⟨#[114, 98, 120]⟩ : ByteArray) 11).bind fun bt204 => ((linotypelaw22_sign.f (⟨#[43]⟩ : ByteArray) 14).bind fun bt208 => ((linotypelaw22_number.f 16 15).bind fun bt212 => ((linotypelaw22_sign.f (⟨#[93]⟩ : ByteArray) 19).bind fun bt216 => ((linotypelaw22_reads.f k (⟨#[97, 58, 32, 109, 111, 118, 32, 97, 108, 44, 91, 114, 98, 120, 43, 48, 120, 49, 48, 93, 32, 59, 32, 120]⟩ : ByteArray) (([(⟨t180, t181, t182, t183⟩ : S37), (⟨t184, t185, t186, t187⟩ : S37), (⟨t188, t189, t190, t191⟩ : S37), (⟨t192, t193, t194, t195⟩ : S37), (⟨bt196.1, bt196.2.1, bt196.2.2.1, bt196.2.2.2⟩ : S37), (⟨bt200.1, bt200.2.1, bt200.2.2.1, bt200.2.2.2⟩ : S37), (⟨bt204.1, bt204.2.1, bt204.2.2.1, bt204.2.2.2⟩ : S37), (⟨bt208.1, bt208.2.1, bt208.2.2.1, bt208.2.2.2⟩ : S37), (⟨bt212.1, bt212.2.1, bt212.2.2.1, bt212.2.2.2⟩ : S37), (⟨bt216.1, bt216.2.1, bt216.2.2.1, bt216.2.2.2⟩ : S37)] : List (S37)))).bind fun t223 => (some t223)))))))) = some r := H
 have A4 := Aside0.mk A40
 clear A40
 replace H := Option.bind_eq_some_iff.mp H
 obtain ⟨⟨t196, t197, t198, t199⟩, A50, H⟩ := H
 replace H : ((linotypelaw22_sign.f (⟨#[91]⟩ : ByteArray) 10).bind fun bt200 => ((linotypelaw22_word.f (⟨#[114, 98, 120]⟩ : ByteArray) 11).bind fun bt204 => ((linotypelaw22_sign.f (⟨#[43]⟩ : ByteArray) 14).bind fun bt208 => ((linotypelaw22_number.f 16 15).bind fun bt212 => ((linotypelaw22_sign.f (⟨#[93]⟩ : ByteArray) 19).bind fun bt216 => ((linotypelaw22_reads.f k (⟨#[97, 58, 32, 109, 111, 118, 32, 97, 108, 44, 91, 114, 98, 120, 43, 48, 120, 49, 48, 93, 32, 59, 32, 120]⟩ : ByteArray) (([(⟨t180, t181, t182, t183⟩ : S37), (⟨t184, t185, t186, t187⟩ : S37), (⟨t188, t189, t190, t191⟩ : S37), (⟨t192, t193, t194, t195⟩ : S37), (⟨t196, t197, t198, t199⟩ : S37), (⟨bt200.1, bt200.2.1, bt200.2.2.1, bt200.2.2.2⟩ : S37), (⟨bt204.1, bt204.2.1, bt204.2.2.1, bt204.2.2.2⟩ : S37), (⟨bt208.1, bt208.2.1, bt208.2.2.1, bt208.2.2.2⟩ : S37), (⟨bt212.1, bt212.2.1, bt212.2.2.1, bt212.2.2.2⟩ : S37), (⟨bt216.1, bt216.2.1, bt216.2.2.1, bt216.2.2.2⟩ : S37)] : List (S37)))).bind fun t223 => (some t223))))))) = some r := H
 have A5 := Aside0.mk A50
 clear A50
 replace H := Option.bind_eq_some_iff.mp H
 obtain ⟨⟨t200, t201, t202, t203⟩, A60, H⟩ := H
 replace H : ((linotypelaw22_word.f (⟨#[114, 98, 120]⟩ : ByteArray) 11).bind fun bt204 => ((linotypelaw22_sign.f (⟨#[43]⟩ : ByteArray) 14).bind fun bt208 => ((linotypelaw22_number.f 16 15).bind fun bt212 => ((linotypelaw22_sign.f (⟨#[93]⟩ : ByteArray) 19).bind fun bt216 => ((linotypelaw22_reads.f k (⟨#[97, 58, 32, 109, 111, 118, 32, 97, 108, 44, 91, 114, 98, 120, 43, 48, 120, 49, 48, 93, 32, 59, 32, 120]⟩ : ByteArray) (([(⟨t180, t181, t182, t183⟩ : S37), (⟨t184, t185, t186, t187⟩ : S37), (⟨t188, t189, t190, t191⟩ : S37), (⟨t192, t193, t194, t195⟩ : S37), (⟨t196, t197, t198, t199⟩ : S37), (⟨t200, t201, t202, t203⟩ : S37), (⟨bt204.1, bt204.2.1, bt204.2.2.1, bt204.2.2.2⟩ : S37), (⟨bt208.1, bt208.2.1, bt208.2.2.1, bt208.2.2.2⟩ : S37), (⟨bt212.1, bt212.2.1, bt212.2.2.1, bt212.2.2.2⟩ : S37), (⟨bt216.1, bt216.2.1, bt216.2.2.1, bt216.2.2.2⟩ : S37)] : List (S37)))).bind fun t223 => (some t223)))))) = some r := H
 have A6 := Aside0.mk A60
 clear A60
 replace H := Option.bind_eq_some_iff.mp H
 obtain ⟨⟨t204, t205, t206, t207⟩, A70, H⟩ := H
 replace H : ((linotypelaw22_sign.f (⟨#[43]⟩ : ByteArray) 14).bind fun bt208 => ((linotypelaw22_number.f 16 15).bind fun bt212 => ((linotypelaw22_sign.f (⟨#[93]⟩ : ByteArray) 19).bind fun bt216 => ((linotypelaw22_reads.f k (⟨#[97, 58, 32, 109, 111, 118, 32, 97, 108, 44, 91, 114, 98, 120, 43, 48, 120, 49, 48, 93, 32, 59, 32, 120]⟩ : ByteArray) (([(⟨t180, t181, t182, t183⟩ : S37), (⟨t184, t185, t186, t187⟩ : S37), (⟨t188, t189, t190, t191⟩ : S37), (⟨t192, t193, t194, t195⟩ : S37), (⟨t196, t197, t198, t199⟩ : S37), (⟨t200, t201, t202, t203⟩ : S37), (⟨t204, t205, t206, t207⟩ : S37), (⟨bt208.1, bt208.2.1, bt208.2.2.1, bt208.2.2.2⟩ : S37), (⟨bt212.1, bt212.2.1, bt212.2.2.1, bt212.2.2.2⟩ : S37), (⟨bt216.1, bt216.2.1, bt216.2.2.1, bt216.2.2.2⟩ : S37)] : List (S37)))).bind fun t223 => (some t223))))) = some r := H
 have A7 := Aside0.mk A70
 clear A70
 replace H := Option.bind_eq_some_iff.mp H
 obtain ⟨⟨t208, t209, t210, t211⟩, A80, H⟩ := H
 replace H : ((linotypelaw22_number.f 16 15).bind fun bt212 => ((linotypelaw22_sign.f (⟨#[93]⟩ : ByteArray) 19).bind fun bt216 => ((linotypelaw22_reads.f k (⟨#[97, 58, 32, 109, 111, 118, 32, 97, 108, 44, 91, 114, 98, 120, 43, 48, 120, 49, 48, 93, 32, 59, 32, 120]⟩ : ByteArray) (([(⟨t180, t181, t182, t183⟩ : S37), (⟨t184, t185, t186, t187⟩ : S37), (⟨t188, t189, t190, t191⟩ : S37), (⟨t192, t193, t194, t195⟩ : S37), (⟨t196, t197, t198, t199⟩ : S37), (⟨t200, t201, t202, t203⟩ : S37), (⟨t204, t205, t206, t207⟩ : S37), (⟨t208, t209, t210, t211⟩ : S37), (⟨bt212.1, bt212.2.1, bt212.2.2.1, bt212.2.2.2⟩ : S37), (⟨bt216.1, bt216.2.1, bt216.2.2.1, bt216.2.2.2⟩ : S37)] : List (S37)))).bind fun t223 => (some t223)))) = some r := H
 have A8 := Aside0.mk A80
 clear A80
 replace H := Option.bind_eq_some_iff.mp H
 obtain ⟨⟨t212, t213, t214, t215⟩, A90, H⟩ := H
 replace H : ((linotypelaw22_sign.f (⟨#[93]⟩ : ByteArray) 19).bind fun bt216 => ((linotypelaw22_reads.f k (⟨#[97, 58, 32, 109, 111, 118, 32, 97, 108, 44, 91, 114, 98, 120, 43, 48, 120, 49, 48, 93, 32, 59, 32, 120]⟩ : ByteArray) (([(⟨t180, t181, t182, t183⟩ : S37), (⟨t184, t185, t186, t187⟩ : S37), (⟨t188, t189, t190, t191⟩ : S37), (⟨t192, t193, t194, t195⟩ : S37), (⟨t196, t197, t198, t199⟩ : S37), (⟨t200, t201, t202, t203⟩ : S37), (⟨t204, t205, t206, t207⟩ : S37), (⟨t208, t209, t210, t211⟩ : S37), (⟨t212, t213, t214, t215⟩ : S37), (⟨bt216.1, bt216.2.1, bt216.2.2.1, bt216.2.2.2⟩ : S37)] : List (S37)))).bind fun t223 => (some t223))) = some r := H
 have A9 := Aside0.mk A90
 clear A90
 replace H := Option.bind_eq_some_iff.mp H
 obtain ⟨⟨t216, t217, t218, t219⟩, A100, H⟩ := H
 replace H : ((linotypelaw22_reads.f k (⟨#[97, 58, 32, 109, 111, 118, 32, 97, 108, 44, 91, 114, 98, 120, 43, 48, 120, 49, 48, 93, 32, 59, 32, 120]⟩ : ByteArray) (([(⟨t180, t181, t182, t183⟩ : S37), (⟨t184, t185, t186, t187⟩ : S37), (⟨t188, t189, t190, t191⟩ : S37), (⟨t192, t193, t194, t195⟩ : S37), (⟨t196, t197, t198, t199⟩ : S37), (⟨t200, t201, t202, t203⟩ : S37), (⟨t204, t205, t206, t207⟩ : S37), (⟨t208, t209, t210, t211⟩ : S37), (⟨t212, t213, t214, t215⟩ : S37), (⟨t216, t217, t218, t219⟩ : S37)] : List (S37)))).bind fun t223 => (some t223)) = some r := H
 have A10 := Aside0.mk A100
 clear A100
 obtain ⟨y220, hy220⟩ : ∃ y_ : List (S37), y_ = (([(⟨t180, t181, t182, t183⟩ : S37), (⟨t184, t185, t186, t187⟩ : S37), (⟨t188, t189, t190, t191⟩ : S37), (⟨t192, t193, t194, t195⟩ : S37), (⟨t196, t197, t198, t199⟩ : S37), (⟨t200, t201, t202, t203⟩ : S37), (⟨t204, t205, t206, t207⟩ : S37), (⟨t208, t209, t210, t211⟩ : S37), (⟨t212, t213, t214, t215⟩ : S37), (⟨t216, t217, t218, t219⟩ : S37)] : List (S37))) := ⟨_, rfl⟩
 replace H : ((linotypelaw22_reads.f k (⟨#[97, 58, 32, 109, 111, 118, 32, 97, 108, 44, 91, 114, 98, 120, 43, 48, 120, 49, 48, 93, 32, 59, 32, 120]⟩ : ByteArray) y220).bind fun t223 => (some t223)) = some r := by first | (rw [hy220]; with_reducible exact H) | (have H2_ := (Option.bind_some _ _).symm.trans H; rw [hy220]; with_reducible exact H2_) | (have H2_ := (Option.bind_some _ _).symm.trans H; with_reducible exact H2_) | with_reducible exact H | (rw [hy220]; exact H) | exact H
 have Ny220 := Aside0.mk hy220
 clear hy220
 replace H := Option.bind_eq_some_iff.mp H
 obtain ⟨t223, A110, H⟩ := H
 replace H : (some t223) = some r := H
 have A11 := Aside0.mk A110
 clear A110
 obtain rfl := Option.some.inj H
 go_enter Tryd.func12, Tryd.ntmps12
 have tok1 : True := trivial
 go_wp2_with (first | ((with_reducible refine gate_callee (f := 15) rfl ?_); refine goesL_ (some 1) rfl rfl Tryd.func15 (by kernel_rfl) rfl #[.string (⟨#[97]⟩ : ByteArray), .int .i64 0] rfl (by (try simp only [List.map_toArray, List.map_cons, List.map_nil]); first | done | rfl | (simp only [List.length_drop, List.length_take]; rfl)) ?_; (with_reducible refine (linotypelaw22_word.calls (⟨#[97]⟩ : ByteArray) 0 t180 t181 t182 t183 _ A1.out).mono ?_); rintro e w12 ⟨rfl, hb⟩; refine ⟨_, rfl, ?_⟩; have n0_ := Aside0.mk (below_step (by repeat (first | (with_reducible first | exact HB.out | apply below_alloc | apply pw_below_drewN | apply below_drew1) | exact HB.out)) hb); clear HB; have HB := n0_; clear n0_; (try clear hb); (try clear hb2); (try clear hk); (try clear hi)) | ((with_reducible refine gate_callee (f := 16) rfl ?_); refine goesL_ (some 2) rfl rfl Tryd.func16 (by kernel_rfl) rfl #[.string (⟨#[58]⟩ : ByteArray), .int .i64 1] rfl (by (try simp only [List.map_toArray, List.map_cons, List.map_nil]); first | done | rfl | (simp only [List.length_drop, List.length_take]; rfl)) ?_; (with_reducible refine (linotypelaw22_sign.calls (⟨#[58]⟩ : ByteArray) 1 t184 t185 t186 t187 _ A2.out).mono ?_); rintro e w13 ⟨rfl, hb⟩; refine ⟨_, rfl, ?_⟩; have n0_ := Aside0.mk (below_step (by repeat (first | (with_reducible first | exact HB.out | apply below_alloc | apply pw_below_drewN | apply below_drew1) | exact HB.out)) hb); clear HB; have HB := n0_; clear n0_; (try clear hb); (try clear hb2); (try clear hk); (try clear hi)) | ((with_reducible refine gate_callee (f := 15) rfl ?_); refine goesL_ (some 3) rfl rfl Tryd.func15 (by kernel_rfl) rfl #[.string (⟨#[109, 111, 118]⟩ : ByteArray), .int .i64 3] rfl (by (try simp only [List.map_toArray, List.map_cons, List.map_nil]); first | done | rfl | (simp only [List.length_drop, List.length_take]; rfl)) ?_; (with_reducible refine (linotypelaw22_word.calls (⟨#[109, 111, 118]⟩ : ByteArray) 3 t188 t189 t190 t191 _ A3.out).mono ?_); rintro e w14 ⟨rfl, hb⟩; refine ⟨_, rfl, ?_⟩; have n0_ := Aside0.mk (below_step (by repeat (first | (with_reducible first | exact HB.out | apply below_alloc | apply pw_below_drewN | apply below_drew1) | exact HB.out)) hb); clear HB; have HB := n0_; clear n0_; (try clear hb); (try clear hb2); (try clear hk); (try clear hi)) | ((with_reducible refine gate_callee (f := 15) rfl ?_); refine goesL_ (some 4) rfl rfl Tryd.func15 (by kernel_rfl) rfl #[.string (⟨#[97, 108]⟩ : ByteArray), .int .i64 7] rfl (by (try simp only [List.map_toArray, List.map_cons, List.map_nil]); first | done | rfl | (simp only [List.length_drop, List.length_take]; rfl)) ?_; (with_reducible refine (linotypelaw22_word.calls (⟨#[97, 108]⟩ : ByteArray) 7 t192 t193 t194 t195 _ A4.out).mono ?_); rintro e w15 ⟨rfl, hb⟩; refine ⟨_, rfl, ?_⟩; have n0_ := Aside0.mk (below_step (by repeat (first | (with_reducible first | exact HB.out | apply below_alloc | apply pw_below_drewN | apply below_drew1) | exact HB.out)) hb); clear HB; have HB := n0_; clear n0_; (try clear hb); (try clear hb2); (try clear hk); (try clear hi)) | ((with_reducible refine gate_callee (f := 16) rfl ?_); refine goesL_ (some 5) rfl rfl Tryd.func16 (by kernel_rfl) rfl #[.string (⟨#[44]⟩ : ByteArray), .int .i64 9] rfl (by (try simp only [List.map_toArray, List.map_cons, List.map_nil]); first | done | rfl | (simp only [List.length_drop, List.length_take]; rfl)) ?_; (with_reducible refine (linotypelaw22_sign.calls (⟨#[44]⟩ : ByteArray) 9 t196 t197 t198 t199 _ A5.out).mono ?_); rintro e w16 ⟨rfl, hb⟩; refine ⟨_, rfl, ?_⟩; have n0_ := Aside0.mk (below_step (by repeat (first | (with_reducible first | exact HB.out | apply below_alloc | apply pw_below_drewN | apply below_drew1) | exact HB.out)) hb); clear HB; have HB := n0_; clear n0_; (try clear hb); (try clear hb2); (try clear hk); (try clear hi)) | ((with_reducible refine gate_callee (f := 16) rfl ?_); refine goesL_ (some 6) rfl rfl Tryd.func16 (by kernel_rfl) rfl #[.string (⟨#[91]⟩ : ByteArray), .int .i64 10] rfl (by (try simp only [List.map_toArray, List.map_cons, List.map_nil]); first | done | rfl | (simp only [List.length_drop, List.length_take]; rfl)) ?_; (with_reducible refine (linotypelaw22_sign.calls (⟨#[91]⟩ : ByteArray) 10 t200 t201 t202 t203 _ A6.out).mono ?_); rintro e w17 ⟨rfl, hb⟩; refine ⟨_, rfl, ?_⟩; have n0_ := Aside0.mk (below_step (by repeat (first | (with_reducible first | exact HB.out | apply below_alloc | apply pw_below_drewN | apply below_drew1) | exact HB.out)) hb); clear HB; have HB := n0_; clear n0_; (try clear hb); (try clear hb2); (try clear hk); (try clear hi)) | ((with_reducible refine gate_callee (f := 15) rfl ?_); refine goesL_ (some 7) rfl rfl Tryd.func15 (by kernel_rfl) rfl #[.string (⟨#[114, 98, 120]⟩ : ByteArray), .int .i64 11] rfl (by (try simp only [List.map_toArray, List.map_cons, List.map_nil]); first | done | rfl | (simp only [List.length_drop, List.length_take]; rfl)) ?_; (with_reducible refine (linotypelaw22_word.calls (⟨#[114, 98, 120]⟩ : ByteArray) 11 t204 t205 t206 t207 _ A7.out).mono ?_); rintro e w18 ⟨rfl, hb⟩; refine ⟨_, rfl, ?_⟩; have n0_ := Aside0.mk (below_step (by repeat (first | (with_reducible first | exact HB.out | apply below_alloc | apply pw_below_drewN | apply below_drew1) | exact HB.out)) hb); clear HB; have HB := n0_; clear n0_; (try clear hb); (try clear hb2); (try clear hk); (try clear hi)) | ((with_reducible refine gate_callee (f := 16) rfl ?_); refine goesL_ (some 8) rfl rfl Tryd.func16 (by kernel_rfl) rfl #[.string (⟨#[43]⟩ : ByteArray), .int .i64 14] rfl (by (try simp only [List.map_toArray, List.map_cons, List.map_nil]); first | done | rfl | (simp only [List.length_drop, List.length_take]; rfl)) ?_; (with_reducible refine (linotypelaw22_sign.calls (⟨#[43]⟩ : ByteArray) 14 t208 t209 t210 t211 _ A8.out).mono ?_); rintro e w19 ⟨rfl, hb⟩; refine ⟨_, rfl, ?_⟩; have n0_ := Aside0.mk (below_step (by repeat (first | (with_reducible first | exact HB.out | apply below_alloc | apply pw_below_drewN | apply below_drew1) | exact HB.out)) hb); clear HB; have HB := n0_; clear n0_; (try clear hb); (try clear hb2); (try clear hk); (try clear hi)) | ((with_reducible refine gate_callee (f := 17) rfl ?_); refine goesL_ (some 9) rfl rfl Tryd.func17 (by kernel_rfl) rfl #[.int .i64 16, .int .i64 15] rfl (by (try simp only [List.map_toArray, List.map_cons, List.map_nil]); first | done | rfl | (simp only [List.length_drop, List.length_take]; rfl)) ?_; (with_reducible refine (linotypelaw22_number.calls 16 15 t212 t213 t214 t215 _ A9.out).mono ?_); rintro e w20 ⟨rfl, hb⟩; refine ⟨_, rfl, ?_⟩; have n0_ := Aside0.mk (below_step (by repeat (first | (with_reducible first | exact HB.out | apply below_alloc | apply pw_below_drewN | apply below_drew1) | exact HB.out)) hb); clear HB; have HB := n0_; clear n0_; (try clear hb); (try clear hb2); (try clear hk); (try clear hi)) | ((with_reducible refine gate_callee (f := 16) rfl ?_); refine goesL_ (some 10) rfl rfl Tryd.func16 (by kernel_rfl) rfl #[.string (⟨#[93]⟩ : ByteArray), .int .i64 19] rfl (by (try simp only [List.map_toArray, List.map_cons, List.map_nil]); first | done | rfl | (simp only [List.length_drop, List.length_take]; rfl)) ?_; (with_reducible refine (linotypelaw22_sign.calls (⟨#[93]⟩ : ByteArray) 19 t216 t217 t218 t219 _ A10.out).mono ?_); rintro e w21 ⟨rfl, hb⟩; refine ⟨_, rfl, ?_⟩; have n0_ := Aside0.mk (below_step (by repeat (first | (with_reducible first | exact HB.out | apply below_alloc | apply pw_below_drewN | apply below_drew1) | exact HB.out)) hb); clear HB; have HB := n0_; clear n0_; (try clear hb); (try clear hb2); (try clear hk); (try clear hi)) | ((with_reducible refine gate_dst (N := 11) rfl ?_); refine Kd.R_lit k37 _ 37 ?hg (N := 11) ?hd (xs := ([(⟨t180, t181, t182, t183⟩ : S37), (⟨t184, t185, t186, t187⟩ : S37), (⟨t188, t189, t190, t191⟩ : S37), (⟨t192, t193, t194, t195⟩ : S37), (⟨t196, t197, t198, t199⟩ : S37), (⟨t200, t201, t202, t203⟩ : S37), (⟨t204, t205, t206, t207⟩ : S37), (⟨t208, t209, t210, t211⟩ : S37), (⟨t212, t213, t214, t215⟩ : S37), (⟨t216, t217, t218, t219⟩ : S37)] : List (S37))) (inner := [.int .i64 t180, .int .i64 t181, .string t182, .int .i64 t183, .int .i64 t184, .int .i64 t185, .string t186, .int .i64 t187, .int .i64 t188, .int .i64 t189, .string t190, .int .i64 t191, .int .i64 t192, .int .i64 t193, .string t194, .int .i64 t195, .int .i64 t196, .int .i64 t197, .string t198, .int .i64 t199, .int .i64 t200, .int .i64 t201, .string t202, .int .i64 t203, .int .i64 t204, .int .i64 t205, .string t206, .int .i64 t207, .int .i64 t208, .int .i64 t209, .string t210, .int .i64 t211, .int .i64 t212, .int .i64 t213, .string t214, .int .i64 t215, .int .i64 t216, .int .i64 t217, .string t218, .int .i64 t219]) (ok := fun _ => True) (okp := fun _ => True) ?hr ?hp (fun _ hk => hk) trivial (Below.refl _ _) (Nat.le_refl _) (by simp) ?_; (case hd => rfl); (case hg => rfl); (case hr => first | (go_simp; done) | (go_simp; rfl)); (case hp => exact (Reps.c4 (show Kd.M k37 _ _ _ (⟨t180, t181, t182, t183⟩ : S37) [.int .i64 t180, .int .i64 t181, .string t182, .int .i64 t183] from (k37_mkM _ _ _ (⟨t180, t181, t182, t183⟩ : S37) )) (Reps.c4 (show Kd.M k37 _ _ _ (⟨t184, t185, t186, t187⟩ : S37) [.int .i64 t184, .int .i64 t185, .string t186, .int .i64 t187] from (k37_mkM _ _ _ (⟨t184, t185, t186, t187⟩ : S37) )) (Reps.c4 (show Kd.M k37 _ _ _ (⟨t188, t189, t190, t191⟩ : S37) [.int .i64 t188, .int .i64 t189, .string t190, .int .i64 t191] from (k37_mkM _ _ _ (⟨t188, t189, t190, t191⟩ : S37) )) (Reps.c4 (show Kd.M k37 _ _ _ (⟨t192, t193, t194, t195⟩ : S37) [.int .i64 t192, .int .i64 t193, .string t194, .int .i64 t195] from (k37_mkM _ _ _ (⟨t192, t193, t194, t195⟩ : S37) )) (Reps.c4 (show Kd.M k37 _ _ _ (⟨t196, t197, t198, t199⟩ : S37) [.int .i64 t196, .int .i64 t197, .string t198, .int .i64 t199] from (k37_mkM _ _ _ (⟨t196, t197, t198, t199⟩ : S37) )) (Reps.c4 (show Kd.M k37 _ _ _ (⟨t200, t201, t202, t203⟩ : S37) [.int .i64 t200, .int .i64 t201, .string t202, .int .i64 t203] from (k37_mkM _ _ _ (⟨t200, t201, t202, t203⟩ : S37) )) (Reps.c4 (show Kd.M k37 _ _ _ (⟨t204, t205, t206, t207⟩ : S37) [.int .i64 t204, .int .i64 t205, .string t206, .int .i64 t207] from (k37_mkM _ _ _ (⟨t204, t205, t206, t207⟩ : S37) )) (Reps.c4 (show Kd.M k37 _ _ _ (⟨t208, t209, t210, t211⟩ : S37) [.int .i64 t208, .int .i64 t209, .string t210, .int .i64 t211] from (k37_mkM _ _ _ (⟨t208, t209, t210, t211⟩ : S37) )) (Reps.c4 (show Kd.M k37 _ _ _ (⟨t212, t213, t214, t215⟩ : S37) [.int .i64 t212, .int .i64 t213, .string t214, .int .i64 t215] from (k37_mkM _ _ _ (⟨t212, t213, t214, t215⟩ : S37) )) (Reps.c4 (show Kd.M k37 _ _ _ (⟨t216, t217, t218, t219⟩ : S37) [.int .i64 t216, .int .i64 t217, .string t218, .int .i64 t219] from (k37_mkM _ _ _ (⟨t216, t217, t218, t219⟩ : S37) )) (Reps.none _ _)))))))))))); intro v221 w22 ho23 hb hg_ hnew_; clear hg_ hnew_; (first | rw [← Ny220.out] at ho23 | (simp only [Int.reduceToNat] at ho23; rw [← Ny220.out] at ho23)); have n0_ := Aside0.mk (Kd.R_lower ho23 (below_size (by repeat (first | (with_reducible first | exact HB.out | apply below_alloc | apply pw_below_drewN | apply below_drew1) | exact HB.out)))); have n1_ := Aside0.mk (below_step (by repeat (first | (with_reducible first | exact HB.out | apply below_alloc | apply pw_below_drewN | apply below_drew1) | exact HB.out)) hb); clear HB; have HO222 := n0_; have HB := n1_; clear n0_ n1_; clear hb ho23; obtain ⟨Ao24, co24, eo24⟩ := Kd.R_slice HO222.out; subst eo24) | (go_at_call 18; have _t := tok1; (refine (linotypelaw22_reads.calls k _ _ _ y220 t223 _ ?side1 ?side2 A11.out).mono ?_); (case side1 => repeat (first | exact (Kd.R_reads' HO222.out).2.2 | (with_reducible refine Kd.C_alloc ?_ _) | (with_reducible refine Kd.C_drewN ?_ _) | (with_reducible refine Kd.C_drew ?_))); (case side2 => exact (Kd.R_reads' HO222.out).2.1); rintro e w25 ⟨rfl, hb⟩; clear tok1; have n0_ := Aside0.mk (Kd.R_below (by (with_reducible repeat (first | apply Kd.R_alloc | apply Kd.R_drewN | apply Kd.R_drew)); exact HO222.out) hb); have n1_ := Aside0.mk (below_step (by repeat (first | (with_reducible first | exact HB.out | apply below_alloc | apply pw_below_drewN | apply below_drew1) | exact HB.out)) hb); clear HO222; clear HB; have HO222 := n0_; have HB := n1_; clear n0_ n1_; (try clear hb); (try clear hb2); (try clear hk); (try clear hi)))
 go_ret
 exact ⟨by first | rfl | (simp [errW_none, errW_some] <;> rfl) | (simp [*, errW_none, errW_some] <;> rfl), by repeat (first | (with_reducible first | exact HB.out | apply below_alloc | apply pw_below_drewN | apply below_drew1) | exact HB.out)⟩

/-! ### linotypekit_AlikeTokens: function 14 -/
def linotypekit_AlikeTokens.l0 : Nat → List (S37) → List (S37) → Int → Option (Bool)
 | 0, _, _, _ => none
 | k + 1, x0, x1, x5 => if x5 < (x0.length : Int) then (if 0 ≤ x5 then (if x5 < (x1.length : Int) then (if ((rd_T37 x0 x5).f0) = ((rd_T37 x1 x5).f0) then (if ((rd_T37 x0 x5).f1) = ((rd_T37 x1 x5).f1) then (if ((rd_T37 x0 x5).f2).toList = ((rd_T37 x1 x5).f2).toList then (linotypekit_AlikeTokens.l0 k x0 x1 (wrap64 (x5 + 1))) else (some false)) else (some false)) else (some false)) else (none)) else (none)) else (some true)
def linotypekit_AlikeTokens.f (k : Nat) (l0 : List (S37)) (l1 : List (S37)) : Option (Bool) := if (l0.length : Int) = (l1.length : Int) then (linotypekit_AlikeTokens.l0 k l0 l1 0) else (some false)
theorem linotypekit_AlikeTokens.mono_l : ∀ k, (∀ y0 y1 y2, LeO (linotypekit_AlikeTokens.l0 k y0 y1 y2) (linotypekit_AlikeTokens.l0 (k + 1) y0 y1 y2))
 | 0 => fun _ _ _ r h => by simp [linotypekit_AlikeTokens.l0] at h
 | k + 1 => by
  have ih0 := linotypekit_AlikeTokens.mono_l k
  ·intro y0 y1 y2
   unfold linotypekit_AlikeTokens.l0
   repeat' first
   | (with_reducible exact ih0 _ _ _)
   | (with_reducible exact LeO.refl _)
   | (with_reducible exact LeO.none _)
   | (with_reducible refine LeO.ite ?_ ?_)
   | (with_reducible refine LeO.bind ?_ (fun _ => ?_))
   | exact ih0 _ _ _
   | exact LeO.none _
   | refine LeO.ite ?_ ?_
   | refine LeO.bind ?_ (fun _ => ?_)
theorem linotypekit_AlikeTokens.mono : ∀ a0 a1 k, LeO (linotypekit_AlikeTokens.f k a0 a1) (linotypekit_AlikeTokens.f (k + 1) a0 a1) := by
 intro a0 a1 k
 have ih0 := linotypekit_AlikeTokens.mono_l k
 unfold linotypekit_AlikeTokens.f
 repeat' first
   | (with_reducible exact ih0 _ _ _)
   | (with_reducible exact LeO.refl _)
   | (with_reducible exact LeO.none _)
   | (with_reducible refine LeO.ite ?_ ?_)
   | (with_reducible refine LeO.bind ?_ (fun _ => ?_))
   | exact ih0 _ _ _
   | exact LeO.none _
   | refine LeO.ite ?_ ?_
   | refine LeO.bind ?_ (fun _ => ?_)
set_option maxHeartbeats 8000000 in
set_option maxRecDepth 100000 in
theorem linotypekit_AlikeTokens.calls (k : Nat) (A0 : Option Addr) (c0 : Nat) (l0 : List (S37)) (A1 : Option Addr) (c1 : Nat) (l1 : List (S37)) (r : Bool) (w : World) (hr0 : Kd.C k37 w A0 l0.length l0) (hc0 : l0.length ≤ c0) (hr1 : Kd.C k37 w A1 l1.length l1) (hc1 : l1.length ≤ c1) (h : linotypekit_AlikeTokens.f k l0 l1 = some r) :
  Calls Tryd.prog 14 #[.slice A0 l0.length c0, .slice A1 l1.length c1] w fun e w' => e = .returned (.bool r) ∧ Drawn0 w w' := by
 have HR0 := Aside0.mk hr0
 have HC0 := Aside0.mk hc0
 clear hr0 hc0
 have HR1 := Aside0.mk hr1
 have HC1 := Aside0.mk hc1
 clear hr1 hc1
 have H : (if (l0.length : Int) = (l1.length : Int) then (linotypekit_AlikeTokens.l0 k l0 l1 0) else (some false)) = some r := h
 clear h
 by_cases c3 : (l0.length : Int) = (l1.length : Int)
 ·rw [if_pos c3] at H
  have c3b0 : ((l0.length : Int) == (l1.length : Int)) = true := beq_iff_eq.mpr c3
  have c3b1 : ((l0.length : Int) != (l1.length : Int)) = false := bne_eq_false_iff_eq.mpr c3
  have c3b2 : (l0.length == l1.length) = true := by first | simpa using c3 | (simp at c3 ⊢; omega)
  clear c3
  have H' := Aside0.mk H
  clear H
  go_enter Tryd.func14, Tryd.ntmps14
  go_wp2
  repeat (go_quiet (fail); try go_wp2)
  go_loopg [5] k (fun kq v5 w' => ∃ (x5_1 : Int), v5 = .int .i64 x5_1 ∧ Aside0 (linotypekit_AlikeTokens.l0 kq l0 l1 x5_1 = some r) ∧ Aside0 (kq ≤ k) ∧ Drawn0 w w')
  case atStart => exact ⟨(0), (by first | rfl | (simp; done) | (simp [*]; done)), H', ⟨Nat.le_refl _⟩, by repeat (first | exact Drawn0.refl _ | apply Drawn0.step)⟩
  case round =>
   clear H'
   try clear c1
   try clear p2
   try clear c3
   try clear c3b0
   try clear c3b1
   try clear c3b2
   obtain ⟨x5_1, rfl, HA, HK1, ⟨m1, rfl⟩⟩ := hrel
   cases gk with
   | zero => exact absurd HA.out (by simp [linotypekit_AlikeTokens.l0])
   | succ k1 =>
    have H := HA.out
    clear HA
    simp only [linotypekit_AlikeTokens.l0] at H
    by_cases c4 : x5_1 < (l0.length : Int)
    ·rw [if_pos c4] at H
     have c4b0 : decide (x5_1 < (l0.length : Int)) = true := decide_eq_true c4
     clear c4
     by_cases c5 : 0 ≤ x5_1
     ·rw [if_pos c5] at H
      have c5b0 : decide (0 ≤ x5_1) = true := decide_eq_true c5
      clear c5
      by_cases c6 : x5_1 < (l1.length : Int)
      ·rw [if_pos c6] at H
       have c6b0 : decide (x5_1 < (l1.length : Int)) = true := decide_eq_true c6
       clear c6
       by_cases c7 : ((rd_T37 l0 x5_1).f0) = ((rd_T37 l1 x5_1).f0)
       ·rw [if_pos c7] at H
        have c7b0 : (((rd_T37 l0 x5_1).f0) == ((rd_T37 l1 x5_1).f0)) = true := beq_iff_eq.mpr c7
        have c7b1 : (((rd_T37 l0 x5_1).f0) != ((rd_T37 l1 x5_1).f0)) = false := bne_eq_false_iff_eq.mpr c7
        clear c7
        by_cases c8 : ((rd_T37 l0 x5_1).f1) = ((rd_T37 l1 x5_1).f1)
        ·rw [if_pos c8] at H
         have c8b0 : (((rd_T37 l0 x5_1).f1) == ((rd_T37 l1 x5_1).f1)) = true := beq_iff_eq.mpr c8
         have c8b1 : (((rd_T37 l0 x5_1).f1) != ((rd_T37 l1 x5_1).f1)) = false := bne_eq_false_iff_eq.mpr c8
         clear c8
         by_cases c9 : ((rd_T37 l0 x5_1).f2).toList = ((rd_T37 l1 x5_1).f2).toList
         ·rw [if_pos c9] at H
          have c9b0 : (((rd_T37 l0 x5_1).f2).toList == ((rd_T37 l1 x5_1).f2).toList) = true := beq_iff_eq.mpr c9
          have c9b1 : (((rd_T37 l0 x5_1).f2).toList != ((rd_T37 l1 x5_1).f2).toList) = false := bne_eq_false_iff_eq.mpr c9
          clear c9
          have H' := Aside0.mk H
          clear H
          have p224 : 0 ≤ (x5_1 : Int) := of_decide_eq_true (by first | (with_reducible assumption) | assumption)
          have q224 : x5_1 < (l0.length : Int) := of_decide_eq_true (by first | (with_reducible assumption) | assumption)
          obtain ⟨ad224, e224, hx224_0, hx224_1, hx224_2, hx224_3⟩ := at_T37 HR0.out x5_1 p224 q224
          cases e224
          replace p224 := eq_true p224
          replace q224 := eq_true q224
          have p225 : 0 ≤ (x5_1 : Int) := of_decide_eq_true (by first | (with_reducible assumption) | assumption)
          have q225 : x5_1 < (l1.length : Int) := of_decide_eq_true (by first | (with_reducible assumption) | assumption)
          obtain ⟨ad225, e225, hx225_0, hx225_1, hx225_2, hx225_3⟩ := at_T37 HR1.out x5_1 p225 q225
          cases e225
          replace p225 := eq_true p225
          replace q225 := eq_true q225
          have p226 : 0 ≤ (x5_1 : Int) := of_decide_eq_true (by first | (with_reducible assumption) | assumption)
          have q226 : x5_1 < (l0.length : Int) := of_decide_eq_true (by first | (with_reducible assumption) | assumption)
          obtain ⟨ad226, e226, hx226_0, hx226_1, hx226_2, hx226_3⟩ := at_T37 HR0.out x5_1 p226 q226
          obtain rfl : ad224 = ad226 := (by injection e226)
          replace p226 := eq_true p226
          replace q226 := eq_true q226
          have p227 : 0 ≤ (x5_1 : Int) := of_decide_eq_true (by first | (with_reducible assumption) | assumption)
          have q227 : x5_1 < (l1.length : Int) := of_decide_eq_true (by first | (with_reducible assumption) | assumption)
          obtain ⟨ad227, e227, hx227_0, hx227_1, hx227_2, hx227_3⟩ := at_T37 HR1.out x5_1 p227 q227
          obtain rfl : ad225 = ad227 := (by injection e227)
          replace p227 := eq_true p227
          replace q227 := eq_true q227
          have p228 : 0 ≤ (x5_1 : Int) := of_decide_eq_true (by first | (with_reducible assumption) | assumption)
          have q228 : x5_1 < (l0.length : Int) := of_decide_eq_true (by first | (with_reducible assumption) | assumption)
          obtain ⟨ad228, e228, hx228_0, hx228_1, hx228_2, hx228_3⟩ := at_T37 HR0.out x5_1 p228 q228
          obtain rfl : ad224 = ad228 := (by injection e228)
          replace p228 := eq_true p228
          replace q228 := eq_true q228
          have p229 : 0 ≤ (x5_1 : Int) := of_decide_eq_true (by first | (with_reducible assumption) | assumption)
          have q229 : x5_1 < (l1.length : Int) := of_decide_eq_true (by first | (with_reducible assumption) | assumption)
          obtain ⟨ad229, e229, hx229_0, hx229_1, hx229_2, hx229_3⟩ := at_T37 HR1.out x5_1 p229 q229
          obtain rfl : ad225 = ad229 := (by injection e229)
          replace p229 := eq_true p229
          replace q229 := eq_true q229
          go_wp2
          repeat (go_quiet (fail); try go_wp2)
          go_roundg k1
          case measure => have := HK1.out; omega
          case rel => exact ⟨(wrap64 (x5_1 + 1)), (by first | rfl | (simp; done) | (simp [*]; done)), H', ⟨by have := HK1.out; omega⟩, by repeat (first | exact Drawn0.refl _ | apply Drawn0.step)⟩
         ·rw [if_neg c9] at H
          have c9b0 : (((rd_T37 l0 x5_1).f2).toList == ((rd_T37 l1 x5_1).f2).toList) = false := beq_eq_false_iff_ne.mpr c9
          have c9b1 : (((rd_T37 l0 x5_1).f2).toList != ((rd_T37 l1 x5_1).f2).toList) = true := bne_iff_ne.mpr c9
          obtain rfl := Option.some.inj H
          have p224 : 0 ≤ (x5_1 : Int) := of_decide_eq_true (by first | (with_reducible assumption) | assumption)
          have q224 : x5_1 < (l0.length : Int) := of_decide_eq_true (by first | (with_reducible assumption) | assumption)
          obtain ⟨ad224, e224, hx224_0, hx224_1, hx224_2, hx224_3⟩ := at_T37 HR0.out x5_1 p224 q224
          cases e224
          replace p224 := eq_true p224
          replace q224 := eq_true q224
          have p225 : 0 ≤ (x5_1 : Int) := of_decide_eq_true (by first | (with_reducible assumption) | assumption)
          have q225 : x5_1 < (l1.length : Int) := of_decide_eq_true (by first | (with_reducible assumption) | assumption)
          obtain ⟨ad225, e225, hx225_0, hx225_1, hx225_2, hx225_3⟩ := at_T37 HR1.out x5_1 p225 q225
          cases e225
          replace p225 := eq_true p225
          replace q225 := eq_true q225
          have p226 : 0 ≤ (x5_1 : Int) := of_decide_eq_true (by first | (with_reducible assumption) | assumption)
          have q226 : x5_1 < (l0.length : Int) := of_decide_eq_true (by first | (with_reducible assumption) | assumption)
          obtain ⟨ad226, e226, hx226_0, hx226_1, hx226_2, hx226_3⟩ := at_T37 HR0.out x5_1 p226 q226
          obtain rfl : ad224 = ad226 := (by injection e226)
          replace p226 := eq_true p226
          replace q226 := eq_true q226
          have p227 : 0 ≤ (x5_1 : Int) := of_decide_eq_true (by first | (with_reducible assumption) | assumption)
          have q227 : x5_1 < (l1.length : Int) := of_decide_eq_true (by first | (with_reducible assumption) | assumption)
          obtain ⟨ad227, e227, hx227_0, hx227_1, hx227_2, hx227_3⟩ := at_T37 HR1.out x5_1 p227 q227
          obtain rfl : ad225 = ad227 := (by injection e227)
          replace p227 := eq_true p227
          replace q227 := eq_true q227
          have p228 : 0 ≤ (x5_1 : Int) := of_decide_eq_true (by first | (with_reducible assumption) | assumption)
          have q228 : x5_1 < (l0.length : Int) := of_decide_eq_true (by first | (with_reducible assumption) | assumption)
          obtain ⟨ad228, e228, hx228_0, hx228_1, hx228_2, hx228_3⟩ := at_T37 HR0.out x5_1 p228 q228
          obtain rfl : ad224 = ad228 := (by injection e228)
          replace p228 := eq_true p228
          replace q228 := eq_true q228
          have p229 : 0 ≤ (x5_1 : Int) := of_decide_eq_true (by first | (with_reducible assumption) | assumption)
          have q229 : x5_1 < (l1.length : Int) := of_decide_eq_true (by first | (with_reducible assumption) | assumption)
          obtain ⟨ad229, e229, hx229_0, hx229_1, hx229_2, hx229_3⟩ := at_T37 HR1.out x5_1 p229 q229
          obtain rfl : ad225 = ad229 := (by injection e229)
          replace p229 := eq_true p229
          replace q229 := eq_true q229
          go_wp2
          repeat (go_quiet (fail); try go_wp2)
          go_ret
          exact ⟨by first | rfl | (simp; done) | (simp [*]; done), by repeat (first | exact Drawn0.refl _ | apply Drawn0.step)⟩
        ·rw [if_neg c8] at H
         have c8b0 : (((rd_T37 l0 x5_1).f1) == ((rd_T37 l1 x5_1).f1)) = false := beq_eq_false_iff_ne.mpr c8
         have c8b1 : (((rd_T37 l0 x5_1).f1) != ((rd_T37 l1 x5_1).f1)) = true := bne_iff_ne.mpr c8
         obtain rfl := Option.some.inj H
         have p224 : 0 ≤ (x5_1 : Int) := of_decide_eq_true (by first | (with_reducible assumption) | assumption)
         have q224 : x5_1 < (l0.length : Int) := of_decide_eq_true (by first | (with_reducible assumption) | assumption)
         obtain ⟨ad224, e224, hx224_0, hx224_1, hx224_2, hx224_3⟩ := at_T37 HR0.out x5_1 p224 q224
         cases e224
         replace p224 := eq_true p224
         replace q224 := eq_true q224
         have p225 : 0 ≤ (x5_1 : Int) := of_decide_eq_true (by first | (with_reducible assumption) | assumption)
         have q225 : x5_1 < (l1.length : Int) := of_decide_eq_true (by first | (with_reducible assumption) | assumption)
         obtain ⟨ad225, e225, hx225_0, hx225_1, hx225_2, hx225_3⟩ := at_T37 HR1.out x5_1 p225 q225
         cases e225
         replace p225 := eq_true p225
         replace q225 := eq_true q225
         have p226 : 0 ≤ (x5_1 : Int) := of_decide_eq_true (by first | (with_reducible assumption) | assumption)
         have q226 : x5_1 < (l0.length : Int) := of_decide_eq_true (by first | (with_reducible assumption) | assumption)
         obtain ⟨ad226, e226, hx226_0, hx226_1, hx226_2, hx226_3⟩ := at_T37 HR0.out x5_1 p226 q226
         obtain rfl : ad224 = ad226 := (by injection e226)
         replace p226 := eq_true p226
         replace q226 := eq_true q226
         have p227 : 0 ≤ (x5_1 : Int) := of_decide_eq_true (by first | (with_reducible assumption) | assumption)
         have q227 : x5_1 < (l1.length : Int) := of_decide_eq_true (by first | (with_reducible assumption) | assumption)
         obtain ⟨ad227, e227, hx227_0, hx227_1, hx227_2, hx227_3⟩ := at_T37 HR1.out x5_1 p227 q227
         obtain rfl : ad225 = ad227 := (by injection e227)
         replace p227 := eq_true p227
         replace q227 := eq_true q227
         go_wp2
         repeat (go_quiet (fail); try go_wp2)
         go_ret
         exact ⟨by first | rfl | (simp; done) | (simp [*]; done), by repeat (first | exact Drawn0.refl _ | apply Drawn0.step)⟩
       ·rw [if_neg c7] at H
        have c7b0 : (((rd_T37 l0 x5_1).f0) == ((rd_T37 l1 x5_1).f0)) = false := beq_eq_false_iff_ne.mpr c7
        have c7b1 : (((rd_T37 l0 x5_1).f0) != ((rd_T37 l1 x5_1).f0)) = true := bne_iff_ne.mpr c7
        obtain rfl := Option.some.inj H
        have p224 : 0 ≤ (x5_1 : Int) := of_decide_eq_true (by first | (with_reducible assumption) | assumption)
        have q224 : x5_1 < (l0.length : Int) := of_decide_eq_true (by first | (with_reducible assumption) | assumption)
        obtain ⟨ad224, e224, hx224_0, hx224_1, hx224_2, hx224_3⟩ := at_T37 HR0.out x5_1 p224 q224
        cases e224
        replace p224 := eq_true p224
        replace q224 := eq_true q224
        have p225 : 0 ≤ (x5_1 : Int) := of_decide_eq_true (by first | (with_reducible assumption) | assumption)
        have q225 : x5_1 < (l1.length : Int) := of_decide_eq_true (by first | (with_reducible assumption) | assumption)
        obtain ⟨ad225, e225, hx225_0, hx225_1, hx225_2, hx225_3⟩ := at_T37 HR1.out x5_1 p225 q225
        cases e225
        replace p225 := eq_true p225
        replace q225 := eq_true q225
        go_wp2
        repeat (go_quiet (fail); try go_wp2)
        go_ret
        exact ⟨by first | rfl | (simp; done) | (simp [*]; done), by repeat (first | exact Drawn0.refl _ | apply Drawn0.step)⟩
      ·rw [if_neg c6] at H
       exact absurd H (by simp)
     ·rw [if_neg c5] at H
      exact absurd H (by simp)
    ·rw [if_neg c4] at H
     have c4b0 : decide (x5_1 < (l0.length : Int)) = false := decide_eq_false c4
     clear c4
     obtain rfl := Option.some.inj H
     go_wp2
     repeat (go_quiet (fail); try go_wp2)
     go_ret
     exact ⟨by first | rfl | (simp; done) | (simp [*]; done), by repeat (first | exact Drawn0.refl _ | apply Drawn0.step)⟩
 ·rw [if_neg c3] at H
  have c3b0 : ((l0.length : Int) == (l1.length : Int)) = false := beq_eq_false_iff_ne.mpr c3
  have c3b1 : ((l0.length : Int) != (l1.length : Int)) = true := bne_iff_ne.mpr c3
  have c3b2 : (l0.length == l1.length) = false := by first | simpa using c3 | (simp at c3 ⊢; omega)
  obtain rfl := Option.some.inj H
  go_enter Tryd.func14, Tryd.ntmps14
  go_wp2
  repeat (go_quiet (fail); try go_wp2)
  go_ret
  exact ⟨by first | rfl | (simp; done) | (simp [*]; done), by repeat (first | exact Drawn0.refl _ | apply Drawn0.step)⟩

end Go.Proofs.YtjabjooephellaaDoor.XB
