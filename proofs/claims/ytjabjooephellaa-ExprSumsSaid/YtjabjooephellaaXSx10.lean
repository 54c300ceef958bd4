-- PRINTED by print.py (a twelfth state) out of the translation. Not trusted: Lean checks it.
import Derived.Test.YtjabjooephellaaXSx0
import Derived.Test.YtjabjooephellaaXSx1
import Derived.Test.YtjabjooephellaaXSx6
import Derived.Test.YtjabjooephellaaXSx8
import Derived.Test.YtjabjooephellaaXSx9
namespace Go.Proofs.Ytjabjooephellaa.XS
open Go.RowKit Go.Proofs.YtjabjooephellaaW.PrintWords Go.Proofs.YtjabjooephellaaW.PrintLast Go.Proofs.YtjabjooephellaaW.PrintMore
attribute [local go_sem] max2_int min2_int max_two min_two max_three min_three max_four min_four   -- for this text's walks alone
set_option linter.unusedVariables false
set_option linter.unusedSimpArgs false

attribute [local go_sem high] eqA27
/-! ### linotypelaw23_is: function 30 -/
def linotypelaw23_is.f (k : Nat) (a0 : ByteArray) (a1 : Int) : Option (Bool) := (token_Lex.f k a0).bind fun bt161 => ((expr_Parse.f k bt161.1 0).bind fun bt167 => ((expr_Eval.f k bt167.1 (([(⟨(⟨#[120]⟩ : ByteArray), 5, true⟩ : S53)] : List (S53))) 7 1).bind fun bt177 => (if bt161.2.1 = 0 then (if bt167.2.2.1 = 0 then (if bt167.2.1 = (bt161.1.length : Int) then (if bt177.2.2 = 0 then (some (bt177.1 == a1)) else (none)) else (none)) else (none)) else (none))))
theorem linotypelaw23_is.mono : ∀ a0 a1 k, LeO (linotypelaw23_is.f k a0 a1) (linotypelaw23_is.f (k + 1) a0 a1) := by
 intro a0 a1 k
 unfold linotypelaw23_is.f
 repeat' first
   | (with_reducible exact expr_Eval.mono _ _ _ _ _)
   | (with_reducible exact expr_Parse.mono _ _ _)
   | (with_reducible exact token_Lex.mono _ _)
   | (with_reducible exact LeO.refl _)
   | (with_reducible exact LeO.none _)
   | (with_reducible refine LeO.ite ?_ ?_)
   | (with_reducible refine LeO.bind ?_ (fun _ => ?_))
   | exact expr_Eval.mono _ _ _ _ _
   | exact expr_Parse.mono _ _ _
   | exact token_Lex.mono _ _
   | exact LeO.none _
   | refine LeO.ite ?_ ?_
   | refine LeO.bind ?_ (fun _ => ?_)
set_option maxHeartbeats 8000000 in
set_option maxRecDepth 100000 in
theorem linotypelaw23_is.calls (k : Nat) (a0 : ByteArray) (a1 : Int) (r : Bool) (w : World) (h : linotypelaw23_is.f k a0 a1 = some r) :
  Calls Try.prog 30 #[.string a0, .int .i64 a1] w fun e w' => e = .returned (.bool r) ∧ Below w.heap.size w w' := by
 have hu27 := Try.underlying27
 have hu53 := Try.underlying53
 have HB := Aside0.mk (Below.refl w.heap.size w)
 have H : ((token_Lex.f k a0).bind fun bt161 => ((expr_Parse.f k bt161.1 0).bind fun bt167 => ((expr_Eval.f k bt167.1 (([(⟨(⟨#[120]⟩ : ByteArray), 5, true⟩ : S53)] : List (S53))) 7 1).bind fun bt177 => (if bt161.2.1 = 0 then (if bt167.2.2.1 = 0 then (if bt167.2.1 = (bt161.1.length : Int) then (if bt177.2.2 = 0 then (some (bt177.1 == a1)) else (none)) else (none)) else (none)) else (none))))) = some r := h
 clear h
 replace H := Option.bind_eq_some_iff.mp H
 obtain ⟨⟨t161, t164, t165⟩, A30, H⟩ := H
 replace H : ((expr_Parse.f k t161 0).bind fun bt167 => ((expr_Eval.f k bt167.1 (([(⟨(⟨#[120]⟩ : ByteArray), 5, true⟩ : S53)] : List (S53))) 7 1).bind fun bt177 => (if t164 = 0 then (if bt167.2.2.1 = 0 then (if bt167.2.1 = (t161.length : Int) then (if bt177.2.2 = 0 then (some (bt177.1 == a1)) else (none)) else (none)) else (none)) else (none)))) = some r := H
 have A3 := Aside0.mk A30
 clear A30
 replace H := Option.bind_eq_some_iff.mp H
 obtain ⟨⟨t167, t170, t171, t172⟩, A40, H⟩ := H
 replace H : ((expr_Eval.f k t167 (([(⟨(⟨#[120]⟩ : ByteArray), 5, true⟩ : S53)] : List (S53))) 7 1).bind fun bt177 => (if t164 = 0 then (if t171 = 0 then (if t170 = (t161.length : Int) then (if bt177.2.2 = 0 then (some (bt177.1 == a1)) else (none)) else (none)) else (none)) else (none))) = some r := H
 have A4 := Aside0.mk A40
 clear A40
 obtain ⟨y174, hy174⟩ : ∃ y_ : List (S53), y_ = (([(⟨(⟨#[120]⟩ : ByteArray), 5, true⟩ : S53)] : List (S53))) := ⟨_, rfl⟩
 replace H : ((expr_Eval.f k t167 y174 7 1).bind fun bt177 => (if t164 = 0 then (if t171 = 0 then (if t170 = (t161.length : Int) then (if bt177.2.2 = 0 then (some (bt177.1 == a1)) else (none)) else (none)) else (none)) else (none))) = some r := by first | (rw [hy174]; with_reducible exact H) | (have H2_ := (Option.bind_some _ _).symm.trans H; rw [hy174]; with_reducible exact H2_) | (have H2_ := (Option.bind_some _ _).symm.trans H; with_reducible exact H2_) | with_reducible exact H | (rw [hy174]; exact H) | exact H
 have Ny174 := Aside0.mk hy174
 clear hy174
 replace H := Option.bind_eq_some_iff.mp H
 obtain ⟨⟨t177, t178, t179⟩, A50, H⟩ := H
 replace H : (if t164 = 0 then (if t171 = 0 then (if t170 = (t161.length : Int) then (if t179 = 0 then (some (t177 == a1)) else (none)) else (none)) else (none)) else (none)) = some r := H
 have A5 := Aside0.mk A50
 clear A50
 by_cases c6 : t164 = 0
 ·rw [if_pos c6] at H
  have c6b0 : (t164 == 0) = true := beq_iff_eq.mpr c6
  have c6b1 : (t164 != 0) = false := bne_eq_false_iff_eq.mpr c6
  clear c6
  by_cases c7 : t171 = 0
  ·rw [if_pos c7] at H
   have c7b0 : (t171 == 0) = true := beq_iff_eq.mpr c7
   have c7b1 : (t171 != 0) = false := bne_eq_false_iff_eq.mpr c7
   clear c7
   by_cases c8 : t170 = (t161.length : Int)
   ·rw [if_pos c8] at H
    have c8b0 : (t170 == (t161.length : Int)) = true := beq_iff_eq.mpr c8
    have c8b1 : (t170 != (t161.length : Int)) = false := bne_eq_false_iff_eq.mpr c8
    clear c8
    by_cases c9 : t179 = 0
    ·rw [if_pos c9] at H
     have c9b0 : (t179 == 0) = true := beq_iff_eq.mpr c9
     have c9b1 : (t179 != 0) = false := bne_eq_false_iff_eq.mpr c9
     clear c9
     obtain rfl := Option.some.inj H
     go_enter Try.func30, Try.ntmps30
     go_wp2_with (first | ((with_reducible refine gate_callee (f := 9) rfl ?_); refine goesL_ (some 15) rfl rfl Try.func9 (by kernel_rfl) rfl #[.string a0] rfl (by (try simp only [List.map_toArray, List.map_cons, List.map_nil]); first | done | rfl | (simp only [List.length_drop, List.length_take]; rfl)) ?_; (with_reducible refine (token_Lex.calls k a0 t161 t164 t165 _ A3.out).mono ?_); rintro e w10 ⟨v162, rfl, ho0, hb⟩; refine ⟨_, rfl, ?_⟩; have n0_ := Aside0.mk (Kd.R_lower ho0 (below_size (by repeat (first | (with_reducible first | exact HB.out | apply below_alloc | apply pw_below_drewN | apply below_drew1) | exact HB.out)))); have n1_ := Aside0.mk (below_step (by repeat (first | (with_reducible first | exact HB.out | apply below_alloc | apply pw_below_drewN | apply below_drew1) | exact HB.out)) hb); clear HB; have HO163 := n0_; have HB := n1_; clear n0_ n1_; (try clear hb); (try clear hb2); (try clear hk); (try clear hi); (try clear ho0)) | ((with_reducible refine gate_dst (N := 6) rfl ?_); (try (refine gate_guard (by rfl) ?_; dsimp only)); refine box_event ?hg (N := 6) ?hd (cs := #[.int .i64 0, .int .i64 0]) (t := 27) ?hr ?_; (case hd => rfl); (case hg => rfl); (case hr => first | (go_simp; done) | (go_simp; rfl)); intro gb166 hg w11 hbox hb; have n0_ := Aside0.mk (Kd.R_below (by (with_reducible repeat (first | apply Kd.R_alloc | apply Kd.R_drewN | apply Kd.R_drew)); exact HO163.out) hb); have n1_ := Aside0.mk (below_step (by repeat (first | (with_reducible first | exact HB.out | apply below_alloc | apply pw_below_drewN | apply below_drew1) | exact HB.out)) hb); have n2_ := Aside0.mk (hbox); have n3_ := Aside0.mk ((by rw [hg]; exact (below_size (by repeat (first | (with_reducible first | exact HB.out | apply below_alloc | apply pw_below_drewN | apply below_drew1) | exact HB.out))) : w.heap.size ≤ gb166)); have n4_ := Aside0.mk ((by rw [hg]; exact (below_size (by repeat (first | (with_reducible first | exact HB.out | apply below_alloc | apply pw_below_drewN | apply below_drew1) | exact HB.out))) : w.heap.size ≤ gb166)); clear HO163; clear HB; have HO163 := n0_; have HB := n1_; have BK166 := n2_; have GW166 := n3_; have GE166 := n4_; clear n0_ n1_ n2_ n3_ n4_; clear hb hbox hg; have hcz12_0 : w11.cell? ⟨gb166, 0, none⟩ = some (.int .i64 0) := (blk_cell BK166.out 0).trans rfl; have hcz12_1 : w11.cell? ⟨gb166, 1, none⟩ = some (.int .i64 0) := (blk_cell BK166.out 1).trans rfl; have hfz12_0 := blk_frozen BK166.out 0; have hfz12_1 := blk_frozen BK166.out 1; obtain ⟨Ao13, co13, eo13⟩ := Kd.R_slice HO163.out; subst eo13) | ((with_reducible refine gate_callee (f := 24) rfl ?_); refine goesL_ (some 20) rfl rfl Try.func24 (by kernel_rfl) rfl #[.slice Ao13 t161.length co13, .int .i64 0] rfl (by (try simp only [List.map_toArray, List.map_cons, List.map_nil]); first | done | rfl | (simp only [List.length_drop, List.length_take]; rfl)) ?_; (with_reducible refine (expr_Parse.calls k _ _ t161 0 t167 t170 t171 t172 _ ?side1 ?side2 A4.out).mono ?_); (case side1 => refine (Kd.R_reads' (e := 32) (base := w.heap.size) (ok := fun k_ => True) (n := t161.length) (c := co13) ?_).2.2; exact (by (with_reducible repeat (first | apply Kd.R_alloc | apply Kd.R_drewN | apply Kd.R_drew)); exact (Kd.R_mono (Kd.R_far (p := ⟨gb166, 1, none⟩) (Kd.R_far (p := ⟨gb166, 0, none⟩) (Kd.R_types HO163.out BK166.out (by decide)) (fun _ hk => hk.2) (.int .i64 t164)) (fun _ hk => hk.2) (.int .i64 t165)) (fun _ h_ => h_.1)))); (case side2 => exact (Kd.R_reads' HO163.out).2.1); rintro e w14 ⟨v168, rfl, ho0, hb⟩; refine ⟨_, rfl, ?_⟩; have n0_ := Aside0.mk (Kd.R_below (by (with_reducible repeat (first | apply Kd.R_alloc | apply Kd.R_drewN | apply Kd.R_drew)); exact (Kd.R_mono (Kd.R_far (p := ⟨gb166, 1, none⟩) (Kd.R_far (p := ⟨gb166, 0, none⟩) (Kd.R_types HO163.out BK166.out (by decide)) (fun _ hk => hk.2) (.int .i64 t164)) (fun _ hk => hk.2) (.int .i64 t165)) (fun _ h_ => h_.1))) hb); have n1_ := Aside0.mk (Kd.R_lower ho0 (below_size (by repeat (first | (with_reducible first | exact HB.out | apply below_alloc | apply pw_below_drewN | apply below_drew1 | refine below_set ?_ GE166.out) | exact HB.out)))); have n2_ := Aside0.mk (blk_below (g := gb166) (o := .cells #[.int .i64 t164, .int .i64 t165] 27 (0, 0)) (by (with_reducible repeat (first | refine blk_drewN ?_ _ | refine blk_drew ?_ | refine blk_alloc ?_ _)); refine blk_put (cs := #[.int .i64 t164, .int .i64 0]) ?_ 1 _ rfl; (with_reducible repeat (first | refine blk_drewN ?_ _ | refine blk_drew ?_ | refine blk_alloc ?_ _)); refine blk_put (cs := #[.int .i64 0, .int .i64 0]) ?_ 0 _ rfl; (with_reducible repeat (first | refine blk_drewN ?_ _ | refine blk_drew ?_ | refine blk_alloc ?_ _)); exact BK166.out) hb); have n3_ := Aside0.mk (below_step (by repeat (first | (with_reducible first | exact HB.out | apply below_alloc | apply pw_below_drewN | apply below_drew1 | refine below_set ?_ GE166.out) | exact HB.out)) hb); clear HO163; clear BK166; clear HB; have HO163 := n0_; have HO169 := n1_; have BK166 := n2_; have HB := n3_; clear n0_ n1_ n2_ n3_; (try clear hb); (try clear hb2); (try clear hk); (try clear hi); (try clear ho0)) | ((with_reducible refine gate_dst (N := 9) rfl ?_); (try (refine gate_guard (by rfl) ?_; dsimp only)); refine box_event ?hg (N := 9) ?hd (cs := #[.int .i64 0, .int .i64 0]) (t := 27) ?hr ?_; (case hd => rfl); (case hg => rfl); (case hr => first | (go_simp; done) | (go_simp; rfl)); intro gb173 hg w15 hbox hb; have n0_ := Aside0.mk (Kd.R_below (by (with_reducible repeat (first | apply Kd.R_alloc | apply Kd.R_drewN | apply Kd.R_drew)); exact HO163.out) hb); have n1_ := Aside0.mk (Kd.R_below (by (with_reducible repeat (first | apply Kd.R_alloc | apply Kd.R_drewN | apply Kd.R_drew)); exact HO169.out) hb); have n2_ := Aside0.mk (blk_below (g := gb166) (o := .cells #[.int .i64 t164, .int .i64 t165] 27 (0, 0)) (by (with_reducible repeat (first | refine blk_drewN ?_ _ | refine blk_drew ?_ | refine blk_alloc ?_ _)); exact BK166.out) hb); have n3_ := Aside0.mk (below_step (by repeat (first | (with_reducible first | exact HB.out | apply below_alloc | apply pw_below_drewN | apply below_drew1 | refine below_set ?_ GE166.out) | exact HB.out)) hb); have n4_ := Aside0.mk (hbox); have n5_ := Aside0.mk ((by rw [hg]; exact (below_size (by repeat (first | (with_reducible first | exact HB.out | apply below_alloc | apply pw_below_drewN | apply below_drew1 | refine below_set ?_ GE166.out) | exact HB.out))) : w.heap.size ≤ gb173)); have n6_ := Aside0.mk ((by rw [hg]; exact (below_size (by repeat (first | (with_reducible first | exact HB.out | apply below_alloc | apply pw_below_drewN | apply below_drew1 | refine below_set ?_ GE166.out) | exact HB.out))) : w.heap.size ≤ gb173)); have n7_ := Aside0.mk ((by rw [hg]; exact Nat.ne_of_lt (blk_lt (g := gb166) (o := .cells #[.int .i64 t164, .int .i64 t165] 27 (0, 0)) (by (with_reducible repeat (first | refine blk_drewN ?_ _ | refine blk_drew ?_ | refine blk_alloc ?_ _)); exact BK166.out)) : gb166 ≠ gb173)); have n8_ := Aside0.mk ((by rw [hg]; exact Nat.ne_of_gt (blk_lt (g := gb166) (o := .cells #[.int .i64 t164, .int .i64 t165] 27 (0, 0)) (by (with_reducible repeat (first | refine blk_drewN ?_ _ | refine blk_drew ?_ | refine blk_alloc ?_ _)); exact BK166.out)) : gb173 ≠ gb166)); clear HO163; clear HO169; clear BK166; clear HB; have HO163 := n0_; have HO169 := n1_; have BK166 := n2_; have HB := n3_; have BK173 := n4_; have GW173 := n5_; have GE173 := n6_; have NB166_173 := n7_; have NB173_166 := n8_; clear n0_ n1_ n2_ n3_ n4_ n5_ n6_ n7_ n8_; clear hb hbox hg; have hnb16 := NB173_166.out; have hnc16 := NB166_173.out; have hcz17_0 : w15.cell? ⟨gb173, 0, none⟩ = some (.int .i64 0) := (blk_cell BK173.out 0).trans rfl; have hcz17_1 : w15.cell? ⟨gb173, 1, none⟩ = some (.int .i64 0) := (blk_cell BK173.out 1).trans rfl; have hfz17_0 := blk_frozen BK173.out 0; have hfz17_1 := blk_frozen BK173.out 1) | ((with_reducible refine gate_dst (N := 27) rfl ?_); (try (refine gate_guard (by rfl) ?_; dsimp only)); refine Kd.R_lit k53 _ 53 ?hg (N := 27) ?hd (xs := ([(⟨(⟨#[120]⟩ : ByteArray), 5, true⟩ : S53)] : List (S53))) (inner := [.string (⟨#[120]⟩ : ByteArray), .int .i64 5, .bool true]) (ok := fun _ => True) (okp := fun _ => True) ?hr ?hp (fun _ hk => hk) trivial (Below.refl _ _) (Nat.le_refl _) (by simp) ?_; (case hd => rfl); (case hg => rfl); (case hr => first | (go_simp; done) | (go_simp; rfl)); (case hp => exact (Reps.c3 (show Kd.M k53 _ _ _ (⟨(⟨#[120]⟩ : ByteArray), 5, true⟩ : S53) [.string (⟨#[120]⟩ : ByteArray), .int .i64 5, .bool true] from (k53_mkM _ _ _ (⟨(⟨#[120]⟩ : ByteArray), 5, true⟩ : S53) )) (Reps.none _ _))); intro v175 w18 ho19 hb hg_ hnew_; clear hg_ hnew_; (first | rw [← Ny174.out] at ho19 | (simp only [Int.reduceToNat] at ho19; rw [← Ny174.out] at ho19)); have n0_ := Aside0.mk (Kd.R_below (by (with_reducible repeat (first | apply Kd.R_alloc | apply Kd.R_drewN | apply Kd.R_drew)); exact (Kd.R_mono (Kd.R_far (p := ⟨gb173, 1, none⟩) (Kd.R_far (p := ⟨gb173, 0, none⟩) (Kd.R_types HO163.out BK173.out (by decide)) (fun _ hk => hk.2) (.int .i64 t171)) (fun _ hk => hk.2) (.int .i64 t172)) (fun _ h_ => h_.1))) hb); have n1_ := Aside0.mk (Kd.R_below (by (with_reducible repeat (first | apply Kd.R_alloc | apply Kd.R_drewN | apply Kd.R_drew)); exact (Kd.R_mono (Kd.R_far (p := ⟨gb173, 1, none⟩) (Kd.R_far (p := ⟨gb173, 0, none⟩) (Kd.R_types HO169.out BK173.out (by decide)) (fun _ hk => hk.2) (.int .i64 t171)) (fun _ hk => hk.2) (.int .i64 t172)) (fun _ h_ => h_.1))) hb); have n2_ := Aside0.mk (Kd.R_lower ho19 (below_size (by repeat (first | (with_reducible first | exact HB.out | apply below_alloc | apply pw_below_drewN | apply below_drew1 | refine below_set ?_ GE166.out | refine below_set ?_ GE173.out) | exact HB.out)))); have n3_ := Aside0.mk (blk_below (g := gb166) (o := .cells #[.int .i64 t164, .int .i64 t165] 27 (0, 0)) (by (with_reducible repeat (first | refine blk_drewN ?_ _ | refine blk_drew ?_ | refine blk_alloc ?_ _)); refine blk_far ?_ NB166_173.out _; (with_reducible repeat (first | refine blk_drewN ?_ _ | refine blk_drew ?_ | refine blk_alloc ?_ _)); refine blk_far ?_ NB166_173.out _; (with_reducible repeat (first | refine blk_drewN ?_ _ | refine blk_drew ?_ | refine blk_alloc ?_ _)); exact BK166.out) hb); have n4_ := Aside0.mk (blk_below (g := gb173) (o := .cells #[.int .i64 t171, .int .i64 t172] 27 (0, 0)) (by (with_reducible repeat (first | refine blk_drewN ?_ _ | refine blk_drew ?_ | refine blk_alloc ?_ _)); refine blk_put (cs := #[.int .i64 t171, .int .i64 0]) ?_ 1 _ rfl; (with_reducible repeat (first | refine blk_drewN ?_ _ | refine blk_drew ?_ | refine blk_alloc ?_ _)); refine blk_put (cs := #[.int .i64 0, .int .i64 0]) ?_ 0 _ rfl; (with_reducible repeat (first | refine blk_drewN ?_ _ | refine blk_drew ?_ | refine blk_alloc ?_ _)); exact BK173.out) hb); have n5_ := Aside0.mk (below_step (by repeat (first | (with_reducible first | exact HB.out | apply below_alloc | apply pw_below_drewN | apply below_drew1 | refine below_set ?_ GE166.out | refine below_set ?_ GE173.out) | exact HB.out)) hb); clear HO163; clear HO169; clear BK166; clear BK173; clear HB; have HO163 := n0_; have HO169 := n1_; have HO176 := n2_; have BK166 := n3_; have BK173 := n4_; have HB := n5_; clear n0_ n1_ n2_ n3_ n4_ n5_; clear hb ho19; obtain ⟨Ao20, co20, eo20⟩ := Kd.R_slice HO169.out; subst eo20; obtain ⟨Ao21, co21, eo21⟩ := Kd.R_slice HO176.out; subst eo21) | ((with_reducible refine gate_callee (f := 20) rfl ?_); refine goesL_ (some 28) rfl rfl Try.func20 (by kernel_rfl) rfl #[.slice Ao20 t167.length co20, .slice Ao21 y174.length co21, .int .i64 7, .int .i64 1] rfl (by (try simp only [List.map_toArray, List.map_cons, List.map_nil]); first | done | rfl | (simp only [List.length_drop, List.length_take]; rfl)) ?_; (with_reducible refine (expr_Eval.calls k _ _ t167 _ _ y174 7 1 t177 t178 t179 _ ?side1 ?side2 ?side3 ?side4 A5.out).mono ?_); (case side1 => repeat (first | exact (Kd.R_reads' HO169.out).2.2 | (with_reducible refine Kd.C_alloc ?_ _) | (with_reducible refine Kd.C_drewN ?_ _) | (with_reducible refine Kd.C_drew ?_))); (case side2 => exact (Kd.R_reads' HO169.out).2.1); (case side3 => repeat (first | exact (Kd.R_reads' HO176.out).2.2 | (with_reducible refine Kd.C_alloc ?_ _) | (with_reducible refine Kd.C_drewN ?_ _) | (with_reducible refine Kd.C_drew ?_))); (case side4 => exact (Kd.R_reads' HO176.out).2.1); rintro e w22 ⟨rfl, hb⟩; refine ⟨_, rfl, ?_⟩; have n0_ := Aside0.mk (Kd.R_below (by (with_reducible repeat (first | apply Kd.R_alloc | apply Kd.R_drewN | apply Kd.R_drew)); exact HO163.out) hb); have n1_ := Aside0.mk (Kd.R_below (by (with_reducible repeat (first | apply Kd.R_alloc | apply Kd.R_drewN | apply Kd.R_drew)); exact HO169.out) hb); have n2_ := Aside0.mk (Kd.R_below (by (with_reducible repeat (first | apply Kd.R_alloc | apply Kd.R_drewN | apply Kd.R_drew)); exact HO176.out) hb); have n3_ := Aside0.mk (blk_below (g := gb166) (o := .cells #[.int .i64 t164, .int .i64 t165] 27 (0, 0)) (by (with_reducible repeat (first | refine blk_drewN ?_ _ | refine blk_drew ?_ | refine blk_alloc ?_ _)); exact BK166.out) hb); have n4_ := Aside0.mk (blk_below (g := gb173) (o := .cells #[.int .i64 t171, .int .i64 t172] 27 (0, 0)) (by (with_reducible repeat (first | refine blk_drewN ?_ _ | refine blk_drew ?_ | refine blk_alloc ?_ _)); exact BK173.out) hb); have n5_ := Aside0.mk (below_step (by repeat (first | (with_reducible first | exact HB.out | apply below_alloc | apply pw_below_drewN | apply below_drew1 | refine below_set ?_ GE166.out | refine below_set ?_ GE173.out) | exact HB.out)) hb); clear HO163; clear HO169; clear HO176; clear BK166; clear BK173; clear HB; have HO163 := n0_; have HO169 := n1_; have HO176 := n2_; have BK166 := n3_; have BK173 := n4_; have HB := n5_; clear n0_ n1_ n2_ n3_ n4_ n5_; (try clear hb); (try clear hb2); (try clear hk); (try clear hi); have hcz23_0 : w22.cell? ⟨gb166, 0, none⟩ = some (.int .i64 t164) := (blk_cell BK166.out 0).trans rfl; have hcz23_1 : w22.cell? ⟨gb166, 1, none⟩ = some (.int .i64 t165) := (blk_cell BK166.out 1).trans rfl; have hfz23_0 := blk_frozen BK166.out 0; have hfz23_1 := blk_frozen BK166.out 1; have hcz24_0 : w22.cell? ⟨gb173, 0, none⟩ = some (.int .i64 t171) := (blk_cell BK173.out 0).trans rfl; have hcz24_1 : w22.cell? ⟨gb173, 1, none⟩ = some (.int .i64 t172) := (blk_cell BK173.out 1).trans rfl; have hfz24_0 := blk_frozen BK173.out 0; have hfz24_1 := blk_frozen BK173.out 1))
     go_ret
     exact ⟨by first | rfl | (simp [errW_none, errW_some] <;> rfl) | (simp [*, errW_none, errW_some] <;> rfl), by repeat (first | (with_reducible first | exact HB.out | apply below_alloc | apply pw_below_drewN | apply below_drew1 | refine below_set ?_ GE166.out | refine below_set ?_ GE173.out) | exact HB.out)⟩
    ·rw [if_neg c9] at H
     exact absurd H (by simp)
   ·rw [if_neg c8] at H
    exact absurd H (by simp)
  ·rw [if_neg c7] at H
   exact absurd H (by simp)
 ·rw [if_neg c6] at H
  exact absurd H (by simp)

/-! ### linotypelaw23_fails: function 31 -/
def linotypelaw23_fails.f (k : Nat) (a0 : ByteArray) (a1 : Int) (a2 : Int) : Option (Bool) := (token_Lex.f k a0).bind fun bt180 => ((expr_Parse.f k bt180.1 0).bind fun bt186 => (if bt180.2.1 = 0 then (if (bt186.1.length : Int) = 0 then (if bt186.2.1 = 0 then (some (bt186.2.2.1 == a1 && (bt186.2.2.2 == a2))) else (none)) else (none)) else (none)))
theorem linotypelaw23_fails.mono : ∀ a0 a1 a2 k, LeO (linotypelaw23_fails.f k a0 a1 a2) (linotypelaw23_fails.f (k + 1) a0 a1 a2) := by
 intro a0 a1 a2 k
 unfold linotypelaw23_fails.f
 repeat' first
   | (with_reducible exact expr_Parse.mono _ _ _)
   | (with_reducible exact token_Lex.mono _ _)
   | (with_reducible exact LeO.refl _)
   | (with_reducible exact LeO.none _)
   | (with_reducible refine LeO.ite ?_ ?_)
   | (with_reducible refine LeO.bind ?_ (fun _ => ?_))
   | exact expr_Parse.mono _ _ _
   | exact token_Lex.mono _ _
   | exact LeO.none _
   | refine LeO.ite ?_ ?_
   | refine LeO.bind ?_ (fun _ => ?_)
set_option maxHeartbeats 8000000 in
set_option maxRecDepth 100000 in
theorem linotypelaw23_fails.calls (k : Nat) (a0 : ByteArray) (a1 : Int) (a2 : Int) (r : Bool) (w : World) (h : linotypelaw23_fails.f k a0 a1 a2 = some r) :
  Calls Try.prog 31 #[.string a0, .int .i64 a1, .int .i64 a2] w fun e w' => e = .returned (.bool r) ∧ Below w.heap.size w w' := by
 have hu27 := Try.underlying27
 have HB := Aside0.mk (Below.refl w.heap.size w)
 have H : ((token_Lex.f k a0).bind fun bt180 => ((expr_Parse.f k bt180.1 0).bind fun bt186 => (if bt180.2.1 = 0 then (if (bt186.1.length : Int) = 0 then (if bt186.2.1 = 0 then (some (bt186.2.2.1 == a1 && (bt186.2.2.2 == a2))) else (none)) else (none)) else (none)))) = some r := h
 clear h
 replace H := Option.bind_eq_some_iff.mp H
 obtain ⟨⟨t180, t183, t184⟩, A40, H⟩ := H
 replace H : ((expr_Parse.f k t180 0).bind fun bt186 => (if t183 = 0 then (if (bt186.1.length : Int) = 0 then (if bt186.2.1 = 0 then (some (bt186.2.2.1 == a1 && (bt186.2.2.2 == a2))) else (none)) else (none)) else (none))) = some r := H
 have A4 := Aside0.mk A40
 clear A40
 replace H := Option.bind_eq_some_iff.mp H
 obtain ⟨⟨t186, t189, t190, t191⟩, A50, H⟩ := H
 replace H : (if t183 = 0 then (if (t186.length : Int) = 0 then (if t189 = 0 then (some (t190 == a1 && (t191 == a2))) else (none)) else (none)) else (none)) = some r := H
 have A5 := Aside0.mk A50
 clear A50
 by_cases c6 : t183 = 0
 ·rw [if_pos c6] at H
  have c6b0 : (t183 == 0) = true := beq_iff_eq.mpr c6
  have c6b1 : (t183 != 0) = false := bne_eq_false_iff_eq.mpr c6
  clear c6
  by_cases c7 : (t186.length : Int) = 0
  ·rw [if_pos c7] at H
   have c7b0 : ((t186.length : Int) == 0) = true := beq_iff_eq.mpr c7
   have c7b1 : ((t186.length : Int) != 0) = false := bne_eq_false_iff_eq.mpr c7
   clear c7
   by_cases c8 : t189 = 0
   ·rw [if_pos c8] at H
    have c8b0 : (t189 == 0) = true := beq_iff_eq.mpr c8
    have c8b1 : (t189 != 0) = false := bne_eq_false_iff_eq.mpr c8
    clear c8
    obtain rfl := Option.some.inj H
    go_enter Try.func31, Try.ntmps31
    go_wp2_with (first | ((with_reducible refine gate_callee (f := 9) rfl ?_); refine goesL_ (some 14) rfl rfl Try.func9 (by kernel_rfl) rfl #[.string a0] rfl (by (try simp only [List.map_toArray, List.map_cons, List.map_nil]); first | done | rfl | (simp only [List.length_drop, List.length_take]; rfl)) ?_; (with_reducible refine (token_Lex.calls k a0 t180 t183 t184 _ A4.out).mono ?_); rintro e w9 ⟨v181, rfl, ho0, hb⟩; refine ⟨_, rfl, ?_⟩; have n0_ := Aside0.mk (Kd.R_lower ho0 (below_size (by repeat (first | (with_reducible first | exact HB.out | apply below_alloc | apply pw_below_drewN | apply below_drew1) | exact HB.out)))); have n1_ := Aside0.mk (below_step (by repeat (first | (with_reducible first | exact HB.out | apply below_alloc | apply pw_below_drewN | apply below_drew1) | exact HB.out)) hb); clear HB; have HO182 := n0_; have HB := n1_; clear n0_ n1_; (try clear hb); (try clear hb2); (try clear hk); (try clear hi); (try clear ho0)) | ((with_reducible refine gate_dst (N := 8) rfl ?_); (try (refine gate_guard (by rfl) ?_; dsimp only)); refine box_event ?hg (N := 8) ?hd (cs := #[.int .i64 0, .int .i64 0]) (t := 27) ?hr ?_; (case hd => rfl); (case hg => rfl); (case hr => first | (go_simp; done) | (go_simp; rfl)); intro gb185 hg w10 hbox hb; have n0_ := Aside0.mk (Kd.R_below (by (with_reducible repeat (first | apply Kd.R_alloc | apply Kd.R_drewN | apply Kd.R_drew)); exact HO182.out) hb); have n1_ := Aside0.mk (below_step (by repeat (first | (with_reducible first | exact HB.out | apply below_alloc | apply pw_below_drewN | apply below_drew1) | exact HB.out)) hb); have n2_ := Aside0.mk (hbox); have n3_ := Aside0.mk ((by rw [hg]; exact (below_size (by repeat (first | (with_reducible first | exact HB.out | apply below_alloc | apply pw_below_drewN | apply below_drew1) | exact HB.out))) : w.heap.size ≤ gb185)); have n4_ := Aside0.mk ((by rw [hg]; exact (below_size (by repeat (first | (with_reducible first | exact HB.out | apply below_alloc | apply pw_below_drewN | apply below_drew1) | exact HB.out))) : w.heap.size ≤ gb185)); clear HO182; clear HB; have HO182 := n0_; have HB := n1_; have BK185 := n2_; have GW185 := n3_; have GE185 := n4_; clear n0_ n1_ n2_ n3_ n4_; clear hb hbox hg; have hcz11_0 : w10.cell? ⟨gb185, 0, none⟩ = some (.int .i64 0) := (blk_cell BK185.out 0).trans rfl; have hcz11_1 : w10.cell? ⟨gb185, 1, none⟩ = some (.int .i64 0) := (blk_cell BK185.out 1).trans rfl; have hfz11_0 := blk_frozen BK185.out 0; have hfz11_1 := blk_frozen BK185.out 1; obtain ⟨Ao12, co12, eo12⟩ := Kd.R_slice HO182.out; subst eo12) | ((with_reducible refine gate_callee (f := 24) rfl ?_); refine goesL_ (some 19) rfl rfl Try.func24 (by kernel_rfl) rfl #[.slice Ao12 t180.length co12, .int .i64 0] rfl (by (try simp only [List.map_toArray, List.map_cons, List.map_nil]); first | done | rfl | (simp only [List.length_drop, List.length_take]; rfl)) ?_; (with_reducible refine (expr_Parse.calls k _ _ t180 0 t186 t189 t190 t191 _ ?side1 ?side2 A5.out).mono ?_); (case side1 => refine (Kd.R_reads' (e := 32) (base := w.heap.size) (ok := fun k_ => True) (n := t180.length) (c := co12) ?_).2.2; exact (by (with_reducible repeat (first | apply Kd.R_alloc | apply Kd.R_drewN | apply Kd.R_drew)); exact (Kd.R_mono (Kd.R_far (p := ⟨gb185, 1, none⟩) (Kd.R_far (p := ⟨gb185, 0, none⟩) (Kd.R_types HO182.out BK185.out (by decide)) (fun _ hk => hk.2) (.int .i64 t183)) (fun _ hk => hk.2) (.int .i64 t184)) (fun _ h_ => h_.1)))); (case side2 => exact (Kd.R_reads' HO182.out).2.1); rintro e w13 ⟨v187, rfl, ho0, hb⟩; refine ⟨_, rfl, ?_⟩; have n0_ := Aside0.mk (Kd.R_below (by (with_reducible repeat (first | apply Kd.R_alloc | apply Kd.R_drewN | apply Kd.R_drew)); exact (Kd.R_mono (Kd.R_far (p := ⟨gb185, 1, none⟩) (Kd.R_far (p := ⟨gb185, 0, none⟩) (Kd.R_types HO182.out BK185.out (by decide)) (fun _ hk => hk.2) (.int .i64 t183)) (fun _ hk => hk.2) (.int .i64 t184)) (fun _ h_ => h_.1))) hb); have n1_ := Aside0.mk (Kd.R_lower ho0 (below_size (by repeat (first | (with_reducible first | exact HB.out | apply below_alloc | apply pw_below_drewN | apply below_drew1 | refine below_set ?_ GE185.out) | exact HB.out)))); have n2_ := Aside0.mk (blk_below (g := gb185) (o := .cells #[.int .i64 t183, .int .i64 t184] 27 (0, 0)) (by (with_reducible repeat (first | refine blk_drewN ?_ _ | refine blk_drew ?_ | refine blk_alloc ?_ _)); refine blk_put (cs := #[.int .i64 t183, .int .i64 0]) ?_ 1 _ rfl; (with_reducible repeat (first | refine blk_drewN ?_ _ | refine blk_drew ?_ | refine blk_alloc ?_ _)); refine blk_put (cs := #[.int .i64 0, .int .i64 0]) ?_ 0 _ rfl; (with_reducible repeat (first | refine blk_drewN ?_ _ | refine blk_drew ?_ | refine blk_alloc ?_ _)); exact BK185.out) hb); have n3_ := Aside0.mk (below_step (by repeat (first | (with_reducible first | exact HB.out | apply below_alloc | apply pw_below_drewN | apply below_drew1 | refine below_set ?_ GE185.out) | exact HB.out)) hb); clear HO182; clear BK185; clear HB; have HO182 := n0_; have HO188 := n1_; have BK185 := n2_; have HB := n3_; clear n0_ n1_ n2_ n3_; (try clear hb); (try clear hb2); (try clear hk); (try clear hi); (try clear ho0)) | ((with_reducible refine gate_dst (N := 11) rfl ?_); (try (refine gate_guard (by rfl) ?_; dsimp only)); refine box_event ?hg (N := 11) ?hd (cs := #[.int .i64 0, .int .i64 0]) (t := 27) ?hr ?_; (case hd => rfl); (case hg => rfl); (case hr => first | (go_simp; done) | (go_simp; rfl)); intro gb192 hg w14 hbox hb; have n0_ := Aside0.mk (Kd.R_below (by (with_reducible repeat (first | apply Kd.R_alloc | apply Kd.R_drewN | apply Kd.R_drew)); exact HO182.out) hb); have n1_ := Aside0.mk (Kd.R_below (by (with_reducible repeat (first | apply Kd.R_alloc | apply Kd.R_drewN | apply Kd.R_drew)); exact HO188.out) hb); have n2_ := Aside0.mk (blk_below (g := gb185) (o := .cells #[.int .i64 t183, .int .i64 t184] 27 (0, 0)) (by (with_reducible repeat (first | refine blk_drewN ?_ _ | refine blk_drew ?_ | refine blk_alloc ?_ _)); exact BK185.out) hb); have n3_ := Aside0.mk (below_step (by repeat (first | (with_reducible first | exact HB.out | apply below_alloc | apply pw_below_drewN | apply below_drew1 | refine below_set ?_ GE185.out) | exact HB.out)) hb); have n4_ := Aside0.mk (hbox); have n5_ := Aside0.mk ((by rw [hg]; exact (below_size (by repeat (first | (with_reducible first | exact HB.out | apply below_alloc | apply pw_below_drewN | apply below_drew1 | refine below_set ?_ GE185.out) | exact HB.out))) : w.heap.size ≤ gb192)); have n6_ := Aside0.mk ((by rw [hg]; exact (below_size (by repeat (first | (with_reducible first | exact HB.out | apply below_alloc | apply pw_below_drewN | apply below_drew1 | refine below_set ?_ GE185.out) | exact HB.out))) : w.heap.size ≤ gb192)); have n7_ := Aside0.mk ((by rw [hg]; exact Nat.ne_of_lt (blk_lt (g := gb185) (o := .cells #[.int .i64 t183, .int .i64 t184] 27 (0, 0)) (by (with_reducible repeat (first | refine blk_drewN ?_ _ | refine blk_drew ?_ | refine blk_alloc ?_ _)); exact BK185.out)) : gb185 ≠ gb192)); have n8_ := Aside0.mk ((by rw [hg]; exact Nat.ne_of_gt (blk_lt (g := gb185) (o := .cells #[.int .i64 t183, .int .i64 t184] 27 (0, 0)) (by (with_reducible repeat (first | refine blk_drewN ?_ _ | refine blk_drew ?_ | refine blk_alloc ?_ _)); exact BK185.out)) : gb192 ≠ gb185)); clear HO182; clear HO188; clear BK185; clear HB; have HO182 := n0_; have HO188 := n1_; have BK185 := n2_; have HB := n3_; have BK192 := n4_; have GW192 := n5_; have GE192 := n6_; have NB185_192 := n7_; have NB192_185 := n8_; clear n0_ n1_ n2_ n3_ n4_ n5_ n6_ n7_ n8_; clear hb hbox hg; have hnb15 := NB192_185.out; have hnc15 := NB185_192.out; have hcz16_0 : w14.cell? ⟨gb192, 0, none⟩ = some (.int .i64 0) := (blk_cell BK192.out 0).trans rfl; have hcz16_1 : w14.cell? ⟨gb192, 1, none⟩ = some (.int .i64 0) := (blk_cell BK192.out 1).trans rfl; have hfz16_0 := blk_frozen BK192.out 0; have hfz16_1 := blk_frozen BK192.out 1; have hcz17_0 : w14.cell? ⟨gb185, 0, none⟩ = some (.int .i64 t183) := (blk_cell BK185.out 0).trans rfl; have hcz17_1 : w14.cell? ⟨gb185, 1, none⟩ = some (.int .i64 t184) := (blk_cell BK185.out 1).trans rfl; have hfz17_0 := blk_frozen BK185.out 0; have hfz17_1 := blk_frozen BK185.out 1; obtain ⟨Ao18, co18, eo18⟩ := Kd.R_slice HO188.out; subst eo18))
    go_ret
    exact ⟨by first | rfl | (simp [errW_none, errW_some] <;> rfl) | (simp [*, errW_none, errW_some] <;> rfl), by repeat (first | (with_reducible first | exact HB.out | apply below_alloc | apply pw_below_drewN | apply below_drew1 | refine below_set ?_ GE185.out | refine below_set ?_ GE192.out) | exact HB.out)⟩
   ·rw [if_neg c8] at H
    exact absurd H (by simp)
  ·rw [if_neg c7] at H
   exact absurd H (by simp)
 ·rw [if_neg c6] at H
  exact absurd H (by simp)

/-! ### linotypelaw23_awake: function 11 -/
def linotypelaw23_awake.f (k : Nat)  : Option (Bool) := (linotypelaw23_is.f k (⟨#[49, 32, 43, 32, 50, 32, 42, 32, 51]⟩ : ByteArray) 7).bind fun t193 => (if t193 = true then ((linotypelaw23_is.f k (⟨#[40, 49, 32, 43, 32, 50, 41, 32, 42, 32, 51]⟩ : ByteArray) 9).bind fun t194 => (if t194 = true then ((linotypelaw23_is.f k (⟨#[55, 32, 45, 32, 50, 32, 45, 32, 49]⟩ : ByteArray) 4).bind fun t195 => (if t195 = true then ((linotypelaw23_is.f k (⟨#[45, 32, 49, 32, 62, 62, 32, 54, 48]⟩ : ByteArray) 15).bind fun t196 => (if t196 = true then ((linotypelaw23_is.f k (⟨#[120, 32, 43, 32, 36]⟩ : ByteArray) 12).bind fun t197 => (if t197 = true then ((linotypelaw23_fails.f k (⟨#[49, 32, 43]⟩ : ByteArray) 4 2).bind fun t198 => (some t198)) else (none))) else (none))) else (none))) else (none))) else (none))
theorem linotypelaw23_awake.mono : ∀ k, LeO (linotypelaw23_awake.f k ) (linotypelaw23_awake.f (k + 1) ) := by
 intro  k
 unfold linotypelaw23_awake.f
 repeat' first
   | (with_reducible exact linotypelaw23_fails.mono _ _ _ _)
   | (with_reducible exact linotypelaw23_is.mono _ _ _)
   | (with_reducible exact LeO.refl _)
   | (with_reducible exact LeO.none _)
   | (with_reducible refine LeO.ite ?_ ?_)
   | (with_reducible refine LeO.bind ?_ (fun _ => ?_))
   | exact linotypelaw23_fails.mono _ _ _ _
   | exact linotypelaw23_is.mono _ _ _
   | exact LeO.none _
   | refine LeO.ite ?_ ?_
   | refine LeO.bind ?_ (fun _ => ?_)
set_option maxHeartbeats 8000000 in
set_option maxRecDepth 100000 in
theorem linotypelaw23_awake.calls (k : Nat)  (r : Bool) (w : World) (h : linotypelaw23_awake.f k  = some r) :
  Calls Try.prog 11 #[] w fun e w' => e = .returned (.bool r) ∧ Below w.heap.size w w' := by
 have HB := Aside0.mk (Below.refl w.heap.size w)
 have H : ((linotypelaw23_is.f k (⟨#[49, 32, 43, 32, 50, 32, 42, 32, 51]⟩ : ByteArray) 7).bind fun t193 => (if t193 = true then ((linotypelaw23_is.f k (⟨#[40, 49, 32, 43, 32, 50, 41, 32, 42, 32, 51]⟩ : ByteArray) 9).bind fun t194 => (if t194 = true then ((linotypelaw23_is.f k (⟨#[55, 32, 45, 32, 50, 32, 45, 32, 49]⟩ : ByteArray) 4).bind fun t195 => (if t195 = true then ((linotypelaw23_is.f k (⟨#[45, 32, 49, 32, 62, 62, 32, 54, 48]⟩ : ByteArray) 15).bind fun t196 => (if t196 = true then ((linotypelaw23_is.f k (⟨#[120, 32, 43, 32, 36]⟩ : ByteArray) 12).bind fun t197 => (if t197 = true then ((linotypelaw23_fails.f k (⟨#[49, 32, 43]⟩ : ByteArray) 4 2).bind fun t198 => (some t198)) else (none))) else (none))) else (none))) else (none))) else (none))) = some r := h
 clear h
 replace H := Option.bind_eq_some_iff.mp H
 obtain ⟨t193, A10, H⟩ := H
 replace H : (if t193 = true then ((linotypelaw23_is.f k (⟨#[40, 49, 32, 43, 32, 50, 41, 32, 42, 32, 51]⟩ : ByteArray) 9).bind fun t194 => (if t194 = true then ((linotypelaw23_is.f k (⟨#[55, 32, 45, 32, 50, 32, 45, 32, 49]⟩ : ByteArray) 4).bind fun t195 => (if t195 = true then ((linotypelaw23_is.f k (⟨#[45, 32, 49, 32, 62, 62, 32, 54, 48]⟩ : ByteArray) 15).bind fun t196 => (if t196 = true then ((linotypelaw23_is.f k (⟨#[120, 32, 43, 32, 36]⟩ : ByteArray) 12).bind fun t197 => (if t197 = true then ((linotypelaw23_fails.f k (⟨#[49, 32, 43]⟩ : ByteArray) 4 2).bind fun t198 => (some t198)) else (none))) else (none))) else (none))) else (none))) else (none)) = some r := H
 have A1 := Aside0.mk A10
 clear A10
 by_cases c2 : t193 = true
 ·subst c2
  have H1 : ((linotypelaw23_is.f k (⟨#[40, 49, 32, 43, 32, 50, 41, 32, 42, 32, 51]⟩ : ByteArray) 9).bind fun t194 => (if t194 = true then ((linotypelaw23_is.f k (⟨#[55, 32, 45, 32, 50, 32, 45, 32, 49]⟩ : ByteArray) 4).bind fun t195 => (if t195 = true then ((linotypelaw23_is.f k (⟨#[45, 32, 49, 32, 62, 62, 32, 54, 48]⟩ : ByteArray) 15).bind fun t196 => (if t196 = true then ((linotypelaw23_is.f k (⟨#[120, 32, 43, 32, 36]⟩ : ByteArray) 12).bind fun t197 => (if t197 = true then ((linotypelaw23_fails.f k (⟨#[49, 32, 43]⟩ : ByteArray) 4 2).bind fun t198 => (some t198)) else (none))) else (none))) else (none))) else (none))) = some r := by rw [if_pos rfl] at H; exact H
  clear H
  have H := H1
  clear H1
  replace H := Option.bind_eq_some_iff.mp H
  obtain ⟨t194, A30, H⟩ := H
  replace H : (if t194 = true then ((linotypelaw23_is.f k (⟨#[55, 32, 45, 32, 50, 32, 45, 32, 49]⟩ : ByteArray) 4).bind fun t195 => (if t195 = true then ((linotypelaw23_is.f k (⟨#[45, 32, 49, 32, 62, 62, 32, 54, 48]⟩ : ByteArray) 15).bind fun t196 => (if t196 = true then ((linotypelaw23_is.f k (⟨#[120, 32, 43, 32, 36]⟩ : ByteArray) 12).bind fun t197 => (if t197 = true then ((linotypelaw23_fails.f k (⟨#[49, 32, 43]⟩ : ByteArray) 4 2).bind fun t198 => (some t198)) else (none))) else (none))) else (none))) else (none)) = some r := H
  have A3 := Aside0.mk A30
  clear A30
  by_cases c4 : t194 = true
  ·subst c4
   have H1 : ((linotypelaw23_is.f k (⟨#[55, 32, 45, 32, 50, 32, 45, 32, 49]⟩ : ByteArray) 4).bind fun t195 => (if t195 = true then ((linotypelaw23_is.f k (⟨#[45, 32, 49, 32, 62, 62, 32, 54, 48]⟩ : ByteArray) 15).bind fun t196 => (if t196 = true then ((linotypelaw23_is.f k (⟨#[120, 32, 43, 32, 36]⟩ : ByteArray) 12).bind fun t197 => (if t197 = true then ((linotypelaw23_fails.f k (⟨#[49, 32, 43]⟩ : ByteArray) 4 2).bind fun t198 => (some t198)) else (none))) else (none))) else (none))) = some r := by rw [if_pos rfl] at H; exact H
   clear H
   have H := H1
   clear H1
   replace H := Option.bind_eq_some_iff.mp H
   obtain ⟨t195, A50, H⟩ := H
   replace H : (if t195 = true then ((linotypelaw23_is.f k (⟨#[45, 32, 49, 32, 62, 62, 32, 54, 48]⟩ : ByteArray) 15).bind fun t196 => (if t196 = true then ((linotypelaw23_is.f k (⟨#[120, 32, 43, 32, 36]⟩ : ByteArray) 12).bind fun t197 => (if t197 = true then ((linotypelaw23_fails.f k (⟨#[49, 32, 43]⟩ : ByteArray) 4 2).bind fun t198 => (some t198)) else (none))) else (none))) else (none)) = some r := H
   have A5 := Aside0.mk A50
   clear A50
   by_cases c6 : t195 = true
   ·subst c6
    have H1 : ((linotypelaw23_is.f k (⟨#[45, 32, 49, 32, 62, 62, 32, 54, 48]⟩ : ByteArray) 15).bind fun t196 => (if t196 = true then ((linotypelaw23_is.f k (⟨#[120, 32, 43, 32, 36]⟩ : ByteArray) 12).bind fun t197 => (if t197 = true then ((linotypelaw23_fails.f k (⟨#[49, 32, 43]⟩ : ByteArray) 4 2).bind fun t198 => (some t198)) else (none))) else (none))) = some r := by rw [if_pos rfl] at H; exact H
    clear H
    have H := H1
    clear H1
    replace H := Option.bind_eq_some_iff.mp H
    obtain ⟨t196, A70, H⟩ := H
    replace H : (if t196 = true then ((linotypelaw23_is.f k (⟨#[120, 32, 43, 32, 36]⟩ : ByteArray) 12).bind fun t197 => (if t197 = true then ((linotypelaw23_fails.f k (⟨#[49, 32, 43]⟩ : ByteArray) 4 2).bind fun t198 => (some t198)) else (none))) else (none)) = some r := H
    have A7 := Aside0.mk A70
    clear A70
    by_cases c8 : t196 = true
    ·subst c8
     have H1 : ((linotypelaw23_is.f k (⟨#[120, 32, 43, 32, 36]⟩ : ByteArray) 12).bind fun t197 => (if t197 = true then ((linotypelaw23_fails.f k (⟨#[49, 32, 43]⟩ : ByteArray) 4 2).bind fun t198 => (some t198)) else (none))) = some r := by rw [if_pos rfl] at H; exact H
     clear H
     have H := H1
     clear H1
     replace H := Option.bind_eq_some_iff.mp H
     obtain ⟨t197, A90, H⟩ := H
     replace H : (if t197 = true then ((linotypelaw23_fails.f k (⟨#[49, 32, 43]⟩ : ByteArray) 4 2).bind fun t198 => (some t198)) else (none)) = some r := H
     have A9 := Aside0.mk A90
     clear A90
     by_cases c10 : t197 = true
     ·subst c10
      have H1 : ((linotypelaw23_fails.f k (⟨#[49, 32, 43]⟩ : ByteArray) 4 2).bind fun t198 => (some t198)) = some r := by rw [if_pos rfl] at H; exact H
      clear H
      have H := H1
      clear H1
      replace H := Option.bind_eq_some_iff.mp H
      obtain ⟨t198, A110, H⟩ := H
      replace H : (some t198) = some r := H
      have A11 := Aside0.mk A110
      clear A110
      obtain rfl := Option.some.inj H
      go_enter Try.func11, Try.ntmps11
      go_wp2_with (first | ((with_reducible refine gate_callee (f := 30) rfl ?_); refine goesL_ (some 1) rfl rfl Try.func30 (by kernel_rfl) rfl #[.string (⟨#[49, 32, 43, 32, 50, 32, 42, 32, 51]⟩ : ByteArray), .int .i64 7] rfl (by (try simp only [List.map_toArray, List.map_cons, List.map_nil]); first | done | rfl | (simp only [List.length_drop, List.length_take]; rfl)) ?_; (with_reducible refine (linotypelaw23_is.calls k (⟨#[49, 32, 43, 32, 50, 32, 42, 32, 51]⟩ : ByteArray) 7 true _ A1.out).mono ?_); rintro e w12 ⟨rfl, hb⟩; refine ⟨_, rfl, ?_⟩; have n0_ := Aside0.mk (below_step (by repeat (first | (with_reducible first | exact HB.out | apply below_alloc | apply pw_below_drewN | apply below_drew1) | exact HB.out)) hb); clear HB; have HB := n0_; clear n0_; (try clear hb); (try clear hb2); (try clear hk); (try clear hi)) | (go_at_call 30; (with_reducible refine (linotypelaw23_is.calls k (⟨#[40, 49, 32, 43, 32, 50, 41, 32, 42, 32, 51]⟩ : ByteArray) 9 true _ A3.out).mono ?_); rintro e w13 ⟨rfl, hb⟩; have n0_ := Aside0.mk (below_step (by repeat (first | (with_reducible first | exact HB.out | apply below_alloc | apply pw_below_drewN | apply below_drew1) | exact HB.out)) hb); clear HB; have HB := n0_; clear n0_; (try clear hb); (try clear hb2); (try clear hk); (try clear hi)) | (go_at_call 30; (with_reducible refine (linotypelaw23_is.calls k (⟨#[55, 32, 45, 32, 50, 32, 45, 32, 49]⟩ : ByteArray) 4 true _ A5.out).mono ?_); rintro e w14 ⟨rfl, hb⟩; have n0_ := Aside0.mk (below_step (by repeat (first | (with_reducible first | exact HB.out | apply below_alloc | apply pw_below_drewN | apply below_drew1) | exact HB.out)) hb); clear HB; have HB := n0_; clear n0_; (try clear hb); (try clear hb2); (try clear hk); (try clear hi)) | (go_at_call 30; (with_reducible refine (linotypelaw23_is.calls k (⟨#[45, 32, 49, 32, 62, 62, 32, 54, 48]⟩ : ByteArray) 15 true _ A7.out).mono ?_); rintro e w15 ⟨rfl, hb⟩; have n0_ := Aside0.mk (below_step (by repeat (first | (with_reducible first | exact HB.out | apply below_alloc | apply pw_below_drewN | apply below_drew1) | exact HB.out)) hb); clear HB; have HB := n0_; clear n0_; (try clear hb); (try clear hb2); (try clear hk); (try clear hi)) | (go_at_call 30; (with_reducible refine (linotypelaw23_is.calls k (⟨#[120, 32, 43, 32, 36]⟩ : ByteArray) 12 true _ A9.out).mono ?_); rintro e w16 ⟨rfl, hb⟩; have n0_ := Aside0.mk (below_step (by repeat (first | (with_reducible first | exact HB.out | apply below_alloc | apply pw_below_drewN | apply below_drew1) | exact HB.out)) hb); clear HB; have HB := n0_; clear n0_; (try clear hb); (try clear hb2); (try clear hk); (try clear hi)) | (go_at_call 31; (with_reducible refine (linotypelaw23_fails.calls k (⟨#[49, 32, 43]⟩ : ByteArray) 4 2 t198 _ A11.out).mono ?_); rintro e w17 ⟨rfl, hb⟩; have n0_ := Aside0.mk (below_step (by repeat (first | (with_reducible first | exact HB.out | apply below_alloc | apply pw_below_drewN | apply below_drew1) | exact HB.out)) hb); clear HB; have HB := n0_; clear n0_; (try clear hb); (try clear hb2); (try clear hk); (try clear hi)))
      go_ret
      exact ⟨by first | rfl | (simp [errW_none, errW_some] <;> rfl) | (simp [*, errW_none, errW_some] <;> rfl), by repeat (first | (with_reducible first | exact HB.out | apply below_alloc | apply pw_below_drewN | apply below_drew1) | exact HB.out)⟩
     ·replace c10 := Bool.eq_false_iff.mpr c10
      subst c10
      have H1 : (none) = some r := by rw [if_neg (show ¬ (false = true) by decide)] at H; exact H
      clear H
      have H := H1
      clear H1
      exact absurd H (by simp)
    ·replace c8 := Bool.eq_false_iff.mpr c8
     subst c8
     have H1 : (none) = some r := by rw [if_neg (show ¬ (false = true) by decide)] at H; exact H
     clear H
     have H := H1
     clear H1
     exact absurd H (by simp)
   ·replace c6 := Bool.eq_false_iff.mpr c6
    subst c6
    have H1 : (none) = some r := by rw [if_neg (show ¬ (false = true) by decide)] at H; exact H
    clear H
    have H := H1
    clear H1
    exact absurd H (by simp)
  ·replace c4 := Bool.eq_false_iff.mpr c4
   subst c4
   have H1 : (none) = some r := by rw [if_neg (show ¬ (false = true) by decide)] at H; exact H
   clear H
   have H := H1
   clear H1
   exact absurd H (by simp)
 ·replace c2 := Bool.eq_false_iff.mpr c2
  subst c2
  have H1 : (none) = some r := by rw [if_neg (show ¬ (false = true) by decide)] at H; exact H
  clear H
  have H := H1
  clear H1
  exact absurd H (by simp)

/-! ### linotypekit_Pick: function 12 -/
def linotypekit_Pick.f (a0 : Int) (a1 : Int) : Option (Int) := if a1 < 1 then (some 0) else (if a1 = 0 then (none) else (if (Int.tmod a0 a1) < 0 then (some (wrap64 ((Int.tmod a0 a1) + a1))) else (some (Int.tmod a0 a1))))
set_option maxHeartbeats 8000000 in
set_option maxRecDepth 100000 in
theorem linotypekit_Pick.calls (a0 : Int) (a1 : Int) (r : Int) (w : World) (h : linotypekit_Pick.f a0 a1 = some r) :
  Calls Try.prog 12 #[.int .i64 a0, .int .i64 a1] w fun e w' => e = .returned (.int .i64 r) ∧ Drawn0 w w' := by
 have H : (if a1 < 1 then (some 0) else (if a1 = 0 then (none) else (if (Int.tmod a0 a1) < 0 then (some (wrap64 ((Int.tmod a0 a1) + a1))) else (some (Int.tmod a0 a1))))) = some r := h
 clear h
 by_cases c3 : a1 < 1
 ·rw [if_pos c3] at H
  have c3b0 : decide (a1 < 1) = true := decide_eq_true c3
  clear c3
  obtain rfl := Option.some.inj H
  go_enter Try.func12, Try.ntmps12
  go_wp2
  go_ret
  exact ⟨by first | rfl | (simp; done) | (simp [*]; done), by repeat (first | exact Drawn0.refl _ | apply Drawn0.step)⟩
 ·rw [if_neg c3] at H
  have c3b0 : decide (a1 < 1) = false := decide_eq_false c3
  clear c3
  by_cases c4 : a1 = 0
  ·rw [if_pos c4] at H
   exact absurd H (by simp)
  ·rw [if_neg c4] at H
   have c4b0 : (a1 == 0) = false := beq_eq_false_iff_ne.mpr c4
   have c4b1 : (a1 != 0) = true := bne_iff_ne.mpr c4
   by_cases c5 : (Int.tmod a0 a1) < 0
   ·rw [if_pos c5] at H
    have c5b0 : decide ((Int.tmod a0 a1) < 0) = true := decide_eq_true c5
    clear c5
    obtain rfl := Option.some.inj H
    go_enter Try.func12, Try.ntmps12
    go_wp2
    go_ret
    exact ⟨by first | rfl | (simp; done) | (simp [*]; done), by repeat (first | exact Drawn0.refl _ | apply Drawn0.step)⟩
   ·rw [if_neg c5] at H
    have c5b0 : decide ((Int.tmod a0 a1) < 0) = false := decide_eq_false c5
    clear c5
    obtain rfl := Option.some.inj H
    go_enter Try.func12, Try.ntmps12
    go_wp2
    go_ret
    exact ⟨by first | rfl | (simp; done) | (simp [*]; done), by repeat (first | exact Drawn0.refl _ | apply Drawn0.step)⟩

/-! ### linotypelaw23_tokens: function 13 -/
def linotypelaw23_tokens.f (a0 : Int) (a1 : ByteArray) (a2 : Int) (a3 : ByteArray) (a4 : Int) : Option ((List (S32))) := some (([(⟨2, a0, (⟨#[]⟩ : ByteArray), 0⟩ : S32), (⟨4, 0, a1, 0⟩ : S32), (⟨2, a2, (⟨#[]⟩ : ByteArray), 0⟩ : S32), (⟨4, 0, a3, 0⟩ : S32), (⟨2, a4, (⟨#[]⟩ : ByteArray), 0⟩ : S32)] : List (S32)))
set_option maxHeartbeats 8000000 in
set_option maxRecDepth 100000 in
theorem linotypelaw23_tokens.calls (a0 : Int) (a1 : ByteArray) (a2 : Int) (a3 : ByteArray) (a4 : Int) (r : List (S32)) (w : World) (h : linotypelaw23_tokens.f a0 a1 a2 a3 a4 = some r) :
  Calls Try.prog 13 #[.int .i64 a0, .string a1, .int .i64 a2, .string a3, .int .i64 a4] w fun e w' => ∃ v0_ : Value, e = .returned (v0_) ∧ Kd.R k32 32 w' w.heap.size (fun _ => True) v0_ r ∧ Below w.heap.size w w' := by
 have hu32 := Try.underlying32
 have HB := Aside0.mk (Below.refl w.heap.size w)
 have H : (some (([(⟨2, a0, (⟨#[]⟩ : ByteArray), 0⟩ : S32), (⟨4, 0, a1, 0⟩ : S32), (⟨2, a2, (⟨#[]⟩ : ByteArray), 0⟩ : S32), (⟨4, 0, a3, 0⟩ : S32), (⟨2, a4, (⟨#[]⟩ : ByteArray), 0⟩ : S32)] : List (S32)))) = some r := h
 clear h
 obtain ⟨y199, hy199⟩ : ∃ y_ : List (S32), y_ = (([(⟨2, a0, (⟨#[]⟩ : ByteArray), 0⟩ : S32), (⟨4, 0, a1, 0⟩ : S32), (⟨2, a2, (⟨#[]⟩ : ByteArray), 0⟩ : S32), (⟨4, 0, a3, 0⟩ : S32), (⟨2, a4, (⟨#[]⟩ : ByteArray), 0⟩ : S32)] : List (S32))) := ⟨_, rfl⟩
 replace H : (some y199) = some r := by first | (rw [hy199]; with_reducible exact H) | (have H2_ := (Option.bind_some _ _).symm.trans H; rw [hy199]; with_reducible exact H2_) | (have H2_ := (Option.bind_some _ _).symm.trans H; with_reducible exact H2_) | with_reducible exact H | (rw [hy199]; exact H) | exact H
 have Ny199 := Aside0.mk hy199
 clear hy199
 obtain rfl := Option.some.inj H
 go_enter Try.func13, Try.ntmps13
 go_wp2_with (first | ((with_reducible refine gate_dst (N := 21) rfl ?_); refine Kd.R_lit k32 _ 32 ?hg (N := 21) ?hd (xs := ([(⟨2, a0, (⟨#[]⟩ : ByteArray), 0⟩ : S32), (⟨4, 0, a1, 0⟩ : S32), (⟨2, a2, (⟨#[]⟩ : ByteArray), 0⟩ : S32), (⟨4, 0, a3, 0⟩ : S32), (⟨2, a4, (⟨#[]⟩ : ByteArray), 0⟩ : S32)] : List (S32))) (inner := [.int .i64 2, .int .i64 a0, .string (⟨#[]⟩ : ByteArray), .int .i64 0, .int .i64 4, .int .i64 0, .string a1, .int .i64 0, .int .i64 2, .int .i64 a2, .string (⟨#[]⟩ : ByteArray), .int .i64 0, .int .i64 4, .int .i64 0, .string a3, .int .i64 0, .int .i64 2, .int .i64 a4, .string (⟨#[]⟩ : ByteArray), .int .i64 0]) (ok := fun _ => True) (okp := fun _ => True) ?hr ?hp (fun _ hk => hk) trivial (Below.refl _ _) (Nat.le_refl _) (by simp) ?_; (case hd => rfl); (case hg => rfl); (case hr => first | (go_simp; done) | (go_simp; rfl)); (case hp => exact (Reps.c4 (show Kd.M k32 _ _ _ (⟨2, a0, (⟨#[]⟩ : ByteArray), 0⟩ : S32) [.int .i64 2, .int .i64 a0, .string (⟨#[]⟩ : ByteArray), .int .i64 0] from (k32_mkM _ _ _ (⟨2, a0, (⟨#[]⟩ : ByteArray), 0⟩ : S32) )) (Reps.c4 (show Kd.M k32 _ _ _ (⟨4, 0, a1, 0⟩ : S32) [.int .i64 4, .int .i64 0, .string a1, .int .i64 0] from (k32_mkM _ _ _ (⟨4, 0, a1, 0⟩ : S32) )) (Reps.c4 (show Kd.M k32 _ _ _ (⟨2, a2, (⟨#[]⟩ : ByteArray), 0⟩ : S32) [.int .i64 2, .int .i64 a2, .string (⟨#[]⟩ : ByteArray), .int .i64 0] from (k32_mkM _ _ _ (⟨2, a2, (⟨#[]⟩ : ByteArray), 0⟩ : S32) )) (Reps.c4 (show Kd.M k32 _ _ _ (⟨4, 0, a3, 0⟩ : S32) [.int .i64 4, .int .i64 0, .string a3, .int .i64 0] from (k32_mkM _ _ _ (⟨4, 0, a3, 0⟩ : S32) )) (Reps.c4 (show Kd.M k32 _ _ _ (⟨2, a4, (⟨#[]⟩ : ByteArray), 0⟩ : S32) [.int .i64 2, .int .i64 a4, .string (⟨#[]⟩ : ByteArray), .int .i64 0] from (k32_mkM _ _ _ (⟨2, a4, (⟨#[]⟩ : ByteArray), 0⟩ : S32) )) (Reps.none _ _))))))); intro v200 w6 ho7 hb hg_ hnew_; clear hg_ hnew_; (first | rw [← Ny199.out] at ho7 | (simp only [Int.reduceToNat] at ho7; rw [← Ny199.out] at ho7)); have n0_ := Aside0.mk (Kd.R_lower ho7 (below_size (by repeat (first | (with_reducible first | exact HB.out | apply below_alloc | apply pw_below_drewN | apply below_drew1) | exact HB.out)))); have n1_ := Aside0.mk (below_step (by repeat (first | (with_reducible first | exact HB.out | apply below_alloc | apply pw_below_drewN | apply below_drew1) | exact HB.out)) hb); clear HB; have HO201 := n0_; have HB := n1_; clear n0_ n1_; clear hb ho7))
 go_ret
 exact ⟨_, by first | rfl | (simp [errW_none, errW_some] <;> rfl) | (simp [*, errW_none, errW_some] <;> rfl), by (with_reducible repeat (first | apply Kd.R_alloc | apply Kd.R_drewN | apply Kd.R_drew)); exact HO201.out, by repeat (first | (with_reducible first | exact HB.out | apply below_alloc | apply pw_below_drewN | apply below_drew1) | exact HB.out)⟩

/-! ### linotypelaw23_reckon: function 14 -/
def linotypelaw23_reckon.f (a0 : Int) (a1 : Int) (a2 : Int) : Option (Int) := if a0 = 0 then (some (wrap64 (a1 + a2))) else (if a0 = 1 then (some (wrap64 (a1 - a2))) else (if a0 = 2 then (some (wrap64 (a1 * a2))) else (if a0 = 3 then (some (Go.bits .and .i64 a1 a2)) else (if a0 = 4 then (some (Go.bits .xor .i64 a1 a2)) else (some (Go.bits .or .i64 a1 a2))))))
set_option maxHeartbeats 8000000 in
set_option maxRecDepth 100000 in
theorem linotypelaw23_reckon.calls (a0 : Int) (a1 : Int) (a2 : Int) (r : Int) (w : World) (h : linotypelaw23_reckon.f a0 a1 a2 = some r) :
  Calls Try.prog 14 #[.int .i64 a0, .int .i64 a1, .int .i64 a2] w fun e w' => e = .returned (.int .i64 r) ∧ Drawn0 w w' := by
 have H : (if a0 = 0 then (some (wrap64 (a1 + a2))) else (if a0 = 1 then (some (wrap64 (a1 - a2))) else (if a0 = 2 then (some (wrap64 (a1 * a2))) else (if a0 = 3 then (some (Go.bits .and .i64 a1 a2)) else (if a0 = 4 then (some (Go.bits .xor .i64 a1 a2)) else (some (Go.bits .or .i64 a1 a2))))))) = some r := h
 clear h
 by_cases c4 : a0 = 0
 ·rw [if_pos c4] at H
  have c4b0 : (a0 == 0) = true := beq_iff_eq.mpr c4
  have c4b1 : (a0 != 0) = false := bne_eq_false_iff_eq.mpr c4
  clear c4
  obtain rfl := Option.some.inj H
  go_enter Try.func14, Try.ntmps14
  go_wp2
  go_ret
  exact ⟨by first | rfl | (simp; done) | (simp [*]; done), by repeat (first | exact Drawn0.refl _ | apply Drawn0.step)⟩
 ·rw [if_neg c4] at H
  have c4b0 : (a0 == 0) = false := beq_eq_false_iff_ne.mpr c4
  have c4b1 : (a0 != 0) = true := bne_iff_ne.mpr c4
  by_cases c5 : a0 = 1
  ·rw [if_pos c5] at H
   have c5b0 : (a0 == 1) = true := beq_iff_eq.mpr c5
   have c5b1 : (a0 != 1) = false := bne_eq_false_iff_eq.mpr c5
   clear c5
   obtain rfl := Option.some.inj H
   go_enter Try.func14, Try.ntmps14
   go_wp2
   go_ret
   exact ⟨by first | rfl | (simp; done) | (simp [*]; done), by repeat (first | exact Drawn0.refl _ | apply Drawn0.step)⟩
  ·rw [if_neg c5] at H
   have c5b0 : (a0 == 1) = false := beq_eq_false_iff_ne.mpr c5
   have c5b1 : (a0 != 1) = true := bne_iff_ne.mpr c5
   by_cases c6 : a0 = 2
   ·rw [if_pos c6] at H
    have c6b0 : (a0 == 2) = true := beq_iff_eq.mpr c6
    have c6b1 : (a0 != 2) = false := bne_eq_false_iff_eq.mpr c6
    clear c6
    obtain rfl := Option.some.inj H
    go_enter Try.func14, Try.ntmps14
    go_wp2
    go_ret
    exact ⟨by first | rfl | (simp; done) | (simp [*]; done), by repeat (first | exact Drawn0.refl _ | apply Drawn0.step)⟩
   ·rw [if_neg c6] at H
    have c6b0 : (a0 == 2) = false := beq_eq_false_iff_ne.mpr c6
    have c6b1 : (a0 != 2) = true := bne_iff_ne.mpr c6
    by_cases c7 : a0 = 3
    ·rw [if_pos c7] at H
     have c7b0 : (a0 == 3) = true := beq_iff_eq.mpr c7
     have c7b1 : (a0 != 3) = false := bne_eq_false_iff_eq.mpr c7
     clear c7
     obtain rfl := Option.some.inj H
     go_enter Try.func14, Try.ntmps14
     go_wp2
     go_ret
     exact ⟨by first | rfl | (simp; done) | (simp [*]; done), by repeat (first | exact Drawn0.refl _ | apply Drawn0.step)⟩
    ·rw [if_neg c7] at H
     have c7b0 : (a0 == 3) = false := beq_eq_false_iff_ne.mpr c7
     have c7b1 : (a0 != 3) = true := bne_iff_ne.mpr c7
     by_cases c8 : a0 = 4
     ·rw [if_pos c8] at H
      have c8b0 : (a0 == 4) = true := beq_iff_eq.mpr c8
      have c8b1 : (a0 != 4) = false := bne_eq_false_iff_eq.mpr c8
      clear c8
      obtain rfl := Option.some.inj H
      go_enter Try.func14, Try.ntmps14
      go_wp2
      go_ret
      exact ⟨by first | rfl | (simp; done) | (simp [*]; done), by repeat (first | exact Drawn0.refl _ | apply Drawn0.step)⟩
     ·rw [if_neg c8] at H
      have c8b0 : (a0 == 4) = false := beq_eq_false_iff_ne.mpr c8
      have c8b1 : (a0 != 4) = true := bne_iff_ne.mpr c8
      obtain rfl := Option.some.inj H
      go_enter Try.func14, Try.ntmps14
      go_wp2
      go_ret
      exact ⟨by first | rfl | (simp; done) | (simp [*]; done), by repeat (first | exact Drawn0.refl _ | apply Drawn0.step)⟩

/-! ### linotypelaw23_worth: function 15 -/
def linotypelaw23_worth.f (k : Nat) (l0 : List (S32)) (a1 : Int) : Option (Bool) := (expr_Parse.f k l0 0).bind fun bt202 => ((expr_Eval.f k bt202.1 ([] : List (S53)) 3 4).bind fun bt209 => (if bt202.2.2.1 = 0 then (if bt202.2.1 = (l0.length : Int) then (if bt209.2.2 = 0 then (if bt209.1 = a1 then (some (!bt209.2.1)) else (none)) else (none)) else (none)) else (none)))
theorem linotypelaw23_worth.mono : ∀ a0 a1 k, LeO (linotypelaw23_worth.f k a0 a1) (linotypelaw23_worth.f (k + 1) a0 a1) := by
 intro a0 a1 k
 unfold linotypelaw23_worth.f
 repeat' first
   | (with_reducible exact expr_Eval.mono _ _ _ _ _)
   | (with_reducible exact expr_Parse.mono _ _ _)
   | (with_reducible exact LeO.refl _)
   | (with_reducible exact LeO.none _)
   | (with_reducible refine LeO.ite ?_ ?_)
   | (with_reducible refine LeO.bind ?_ (fun _ => ?_))
   | exact expr_Eval.mono _ _ _ _ _
   | exact expr_Parse.mono _ _ _
   | exact LeO.none _
   | refine LeO.ite ?_ ?_
   | refine LeO.bind ?_ (fun _ => ?_)
set_option maxHeartbeats 8000000 in
set_option maxRecDepth 100000 in
theorem linotypelaw23_worth.calls (k : Nat) (A0 : Option Addr) (c0 : Nat) (l0 : List (S32)) (a1 : Int) (r : Bool) (w : World) (hr0 : Kd.C k32 w A0 l0.length l0) (hc0 : l0.length ≤ c0) (h : linotypelaw23_worth.f k l0 a1 = some r) :
  Calls Try.prog 15 #[.slice A0 l0.length c0, .int .i64 a1] w fun e w' => e = .returned (.bool r) ∧ Below w.heap.size w w' := by
 have hu27 := Try.underlying27
 have HR0 := Aside0.mk hr0
 have HC0 := Aside0.mk hc0
 clear hr0 hc0
 have HB := Aside0.mk (Below.refl w.heap.size w)
 have H : ((expr_Parse.f k l0 0).bind fun bt202 => ((expr_Eval.f k bt202.1 ([] : List (S53)) 3 4).bind fun bt209 => (if bt202.2.2.1 = 0 then (if bt202.2.1 = (l0.length : Int) then (if bt209.2.2 = 0 then (if bt209.1 = a1 then (some (!bt209.2.1)) else (none)) else (none)) else (none)) else (none)))) = some r := h
 clear h
 replace H := Option.bind_eq_some_iff.mp H
 obtain ⟨⟨t202, t205, t206, t207⟩, A30, H⟩ := H
 replace H : ((expr_Eval.f k t202 ([] : List (S53)) 3 4).bind fun bt209 => (if t206 = 0 then (if t205 = (l0.length : Int) then (if bt209.2.2 = 0 then (if bt209.1 = a1 then (some (!bt209.2.1)) else (none)) else (none)) else (none)) else (none))) = some r := H
 have A3 := Aside0.mk A30
 clear A30
 replace H := Option.bind_eq_some_iff.mp H
 obtain ⟨⟨t209, t210, t211⟩, A40, H⟩ := H
 replace H : (if t206 = 0 then (if t205 = (l0.length : Int) then (if t211 = 0 then (if t209 = a1 then (some (!t210)) else (none)) else (none)) else (none)) else (none)) = some r := H
 have A4 := Aside0.mk A40
 clear A40
 by_cases c5 : t206 = 0
 ·rw [if_pos c5] at H
  have c5b0 : (t206 == 0) = true := beq_iff_eq.mpr c5
  have c5b1 : (t206 != 0) = false := bne_eq_false_iff_eq.mpr c5
  clear c5
  by_cases c6 : t205 = (l0.length : Int)
  ·rw [if_pos c6] at H
   have c6b0 : (t205 == (l0.length : Int)) = true := beq_iff_eq.mpr c6
   have c6b1 : (t205 != (l0.length : Int)) = false := bne_eq_false_iff_eq.mpr c6
   clear c6
   by_cases c7 : t211 = 0
   ·rw [if_pos c7] at H
    have c7b0 : (t211 == 0) = true := beq_iff_eq.mpr c7
    have c7b1 : (t211 != 0) = false := bne_eq_false_iff_eq.mpr c7
    clear c7
    by_cases c8 : t209 = a1
    ·rw [if_pos c8] at H
     have c8b0 : (t209 == a1) = true := beq_iff_eq.mpr c8
     have c8b1 : (t209 != a1) = false := bne_eq_false_iff_eq.mpr c8
     clear c8
     obtain rfl := Option.some.inj H
     go_enter Try.func15, Try.ntmps15
     go_wp2_with (first | ((with_reducible refine gate_callee (f := 24) rfl ?_); refine goesL_ (some 13) rfl rfl Try.func24 (by kernel_rfl) rfl #[.slice A0 l0.length c0, .int .i64 0] rfl (by (try simp only [List.map_toArray, List.map_cons, List.map_nil]); first | done | rfl | (simp only [List.length_drop, List.length_take]; rfl)) ?_; (with_reducible refine (expr_Parse.calls k _ _ l0 0 t202 t205 t206 t207 _ ?side1 ?side2 A3.out).mono ?_); (case side1 => repeat (first | exact HR0.out | (with_reducible refine Kd.C_alloc ?_ _) | (with_reducible refine Kd.C_drewN ?_ _) | (with_reducible refine Kd.C_drew ?_))); (case side2 => exact HC0.out); rintro e w9 ⟨v203, rfl, ho0, hb⟩; refine ⟨_, rfl, ?_⟩; have n0_ := Aside0.mk (Kd.R_lower ho0 (below_size (by repeat (first | (with_reducible first | exact HB.out | apply below_alloc | apply pw_below_drewN | apply below_drew1) | exact HB.out)))); have n1_ := Aside0.mk (below_step (by repeat (first | (with_reducible first | exact HB.out | apply below_alloc | apply pw_below_drewN | apply below_drew1) | exact HB.out)) hb); clear HB; have HO204 := n0_; have HB := n1_; clear n0_ n1_; (try clear hb); (try clear hb2); (try clear hk); (try clear hi); (try clear ho0)) | ((with_reducible refine gate_dst (N := 7) rfl ?_); (try (refine gate_guard (by rfl) ?_; dsimp only)); refine box_event ?hg (N := 7) ?hd (cs := #[.int .i64 0, .int .i64 0]) (t := 27) ?hr ?_; (case hd => rfl); (case hg => rfl); (case hr => first | (go_simp; done) | (go_simp; rfl)); intro gb208 hg w10 hbox hb; have n0_ := Aside0.mk (Kd.R_below (by (with_reducible repeat (first | apply Kd.R_alloc | apply Kd.R_drewN | apply Kd.R_drew)); exact HO204.out) hb); have n1_ := Aside0.mk (below_step (by repeat (first | (with_reducible first | exact HB.out | apply below_alloc | apply pw_below_drewN | apply below_drew1) | exact HB.out)) hb); have n2_ := Aside0.mk (hbox); have n3_ := Aside0.mk ((by rw [hg]; exact (below_size (by repeat (first | (with_reducible first | exact HB.out | apply below_alloc | apply pw_below_drewN | apply below_drew1) | exact HB.out))) : w.heap.size ≤ gb208)); have n4_ := Aside0.mk ((by rw [hg]; exact (below_size (by repeat (first | (with_reducible first | exact HB.out | apply below_alloc | apply pw_below_drewN | apply below_drew1) | exact HB.out))) : w.heap.size ≤ gb208)); clear HO204; clear HB; have HO204 := n0_; have HB := n1_; have BK208 := n2_; have GW208 := n3_; have GE208 := n4_; clear n0_ n1_ n2_ n3_ n4_; clear hb hbox hg; have hcz11_0 : w10.cell? ⟨gb208, 0, none⟩ = some (.int .i64 0) := (blk_cell BK208.out 0).trans rfl; have hcz11_1 : w10.cell? ⟨gb208, 1, none⟩ = some (.int .i64 0) := (blk_cell BK208.out 1).trans rfl; have hfz11_0 := blk_frozen BK208.out 0; have hfz11_1 := blk_frozen BK208.out 1; obtain ⟨Ao12, co12, eo12⟩ := Kd.R_slice HO204.out; subst eo12) | ((with_reducible refine gate_callee (f := 20) rfl ?_); refine goesL_ (some 19) rfl rfl Try.func20 (by kernel_rfl) rfl #[.slice Ao12 t202.length co12, .slice none 0 0, .int .i64 3, .int .i64 4] rfl (by (try simp only [List.map_toArray, List.map_cons, List.map_nil]); first | done | rfl | (simp only [List.length_drop, List.length_take]; rfl)) ?_; (refine (expr_Eval.calls k _ _ t202 _ _ ([] : List (S53)) 3 4 t209 t210 t211 _ ?side1 ?side2 ?side3 ?side4 A4.out).mono ?_); (case side1 => refine (Kd.R_reads' (e := 48) (base := w.heap.size) (ok := fun k_ => True) (n := t202.length) (c := co12) ?_).2.2; exact (by (with_reducible repeat (first | apply Kd.R_alloc | apply Kd.R_drewN | apply Kd.R_drew)); exact (Kd.R_mono (Kd.R_far (p := ⟨gb208, 1, none⟩) (Kd.R_far (p := ⟨gb208, 0, none⟩) (Kd.R_types HO204.out BK208.out (by decide)) (fun _ hk => hk.2) (.int .i64 t206)) (fun _ hk => hk.2) (.int .i64 t207)) (fun _ h_ => h_.1)))); (case side2 => exact (Kd.R_reads' HO204.out).2.1); (case side3 => exact Kd.C_nil _ _); (case side4 => exact Nat.le_refl _); rintro e w13 ⟨rfl, hb⟩; refine ⟨_, rfl, ?_⟩; have n0_ := Aside0.mk (Kd.R_below (by (with_reducible repeat (first | apply Kd.R_alloc | apply Kd.R_drewN | apply Kd.R_drew)); exact (Kd.R_mono (Kd.R_far (p := ⟨gb208, 1, none⟩) (Kd.R_far (p := ⟨gb208, 0, none⟩) (Kd.R_types HO204.out BK208.out (by decide)) (fun _ hk => hk.2) (.int .i64 t206)) (fun _ hk => hk.2) (.int .i64 t207)) (fun _ h_ => h_.1))) hb); have n1_ := Aside0.mk (blk_below (g := gb208) (o := .cells #[.int .i64 t206, .int .i64 t207] 27 (0, 0)) (by (with_reducible repeat (first | refine blk_drewN ?_ _ | refine blk_drew ?_ | refine blk_alloc ?_ _)); refine blk_put (cs := #[.int .i64 t206, .int .i64 0]) ?_ 1 _ rfl; (with_reducible repeat (first | refine blk_drewN ?_ _ | refine blk_drew ?_ | refine blk_alloc ?_ _)); refine blk_put (cs := #[.int .i64 0, .int .i64 0]) ?_ 0 _ rfl; (with_reducible repeat (first | refine blk_drewN ?_ _ | refine blk_drew ?_ | refine blk_alloc ?_ _)); exact BK208.out) hb); have n2_ := Aside0.mk (below_step (by repeat (first | (with_reducible first | exact HB.out | apply below_alloc | apply pw_below_drewN | apply below_drew1 | refine below_set ?_ GE208.out) | exact HB.out)) hb); clear HO204; clear BK208; clear HB; have HO204 := n0_; have BK208 := n1_; have HB := n2_; clear n0_ n1_ n2_; (try clear hb); (try clear hb2); (try clear hk); (try clear hi); have hcz14_0 : w13.cell? ⟨gb208, 0, none⟩ = some (.int .i64 t206) := (blk_cell BK208.out 0).trans rfl; have hcz14_1 : w13.cell? ⟨gb208, 1, none⟩ = some (.int .i64 t207) := (blk_cell BK208.out 1).trans rfl; have hfz14_0 := blk_frozen BK208.out 0; have hfz14_1 := blk_frozen BK208.out 1))
     go_ret
     exact ⟨by first | rfl | (simp [errW_none, errW_some] <;> rfl) | (simp [*, errW_none, errW_some] <;> rfl), by repeat (first | (with_reducible first | exact HB.out | apply below_alloc | apply pw_below_drewN | apply below_drew1 | refine below_set ?_ GE208.out) | exact HB.out)⟩
    ·rw [if_neg c8] at H
     exact absurd H (by simp)
   ·rw [if_neg c7] at H
    exact absurd H (by simp)
  ·rw [if_neg c6] at H
   exact absurd H (by simp)
 ·rw [if_neg c5] at H
  exact absurd H (by simp)

end Go.Proofs.Ytjabjooephellaa.XS
