-- PRINTED by print.py (a twelfth state) out of the translation. Not trusted: Lean checks it.
import Derived.Test.YtjabjooephellaaTx0
import Derived.Test.YtjabjooephellaaTx6
namespace Go.Proofs.Ytjabjooephellaa.T
open Go.RowKit Go.Proofs.YtjabjooephellaaW.PrintWords Go.Proofs.YtjabjooephellaaW.PrintLast Go.Proofs.YtjabjooephellaaW.PrintMore
attribute [local go_sem] max2_int min2_int max_two min_two max_three min_three max_four min_four   -- for this text's walks alone
set_option linter.unusedVariables false
set_option linter.unusedSimpArgs false

/-! ### linotypelaw22_TokenParts: function 4 -/
mutual
def linotypelaw22_TokenParts.j0 : Nat → ByteArray → Bool → List (S32) → Bool → Option (Bool)
  | 0, _, _, _, _ => none
  | k + 1, x0, x3, x4, x23 => if x23 = true then (some x3) else (linotypelaw22_TokenParts.l0 k x0 x3 x4 0 0)
def linotypelaw22_TokenParts.l0 : Nat → ByteArray → Bool → List (S32) → Int → Int → Option (Bool)
  | 0, _, _, _, _, _ => none
  | k + 1, x0, x3, x4, x6, x7 => if x7 < (x4.length : Int) then (if 0 ≤ x7 then (if ((rd_T32 x4 x7).f3) < x6 then (linotypelaw22_TokenParts.j2 k x0 x3 x4 x6 x7 true ((rd_T32 x4 x7).f0) ((rd_T32 x4 x7).f1) ((rd_T32 x4 x7).f2) ((rd_T32 x4 x7).f3)) else (linotypelaw22_TokenParts.j2 k x0 x3 x4 x6 x7 (decide (((rd_T32 x4 x7).f3) ≥ (x0.size : Int))) ((rd_T32 x4 x7).f0) ((rd_T32 x4 x7).f1) ((rd_T32 x4 x7).f2) ((rd_T32 x4 x7).f3))) else (none)) else (some x3)
def linotypelaw22_TokenParts.j2 : Nat → ByteArray → Bool → List (S32) → Int → Int → Bool → Int → Int → ByteArray → Int → Option (Bool)
  | 0, _, _, _, _, _, _, _, _, _, _ => none
  | k + 1, x0, x3, x4, x6, x7, x45, x224000, x224001, x224002, x224003 => if x45 = true then (some false) else (linotypelaw22_TokenParts.l1 k x0 x3 x4 x7 x6 x224000 x224001 x224002 x224003)
def linotypelaw22_TokenParts.l1 : Nat → ByteArray → Bool → List (S32) → Int → Int → Int → Int → ByteArray → Int → Option (Bool)
  | 0, _, _, _, _, _, _, _, _, _ => none
  | k + 1, x0, x3, x4, x7, x9, x224000, x224001, x224002, x224003 => if x9 < x224003 then (if x224000 = 1 then (if x7 = 0 then (if 0 ≤ x9 then (if x9 < (x0.size : Int) then (if (bt x0 x9) = 32 then (linotypelaw22_TokenParts.l1 k x0 x3 x4 x7 (wrap64 (x9 + 1)) x224000 x224001 x224002 x224003) else (if (bt x0 x9) = 9 then (linotypelaw22_TokenParts.l1 k x0 x3 x4 x7 (wrap64 (x9 + 1)) x224000 x224001 x224002 x224003) else (some false))) else (none)) else (none)) else (linotypelaw22_TokenParts.l1 k x0 x3 x4 x7 (wrap64 (x9 + 1)) x224000 x224001 x224002 x224003)) else (if x224000 = 4 then (if x7 = 0 then (if 0 ≤ x9 then (if x9 < (x0.size : Int) then (if (bt x0 x9) = 32 then (linotypelaw22_TokenParts.l1 k x0 x3 x4 x7 (wrap64 (x9 + 1)) x224000 x224001 x224002 x224003) else (if (bt x0 x9) = 9 then (linotypelaw22_TokenParts.l1 k x0 x3 x4 x7 (wrap64 (x9 + 1)) x224000 x224001 x224002 x224003) else (some false))) else (none)) else (none)) else (linotypelaw22_TokenParts.l1 k x0 x3 x4 x7 (wrap64 (x9 + 1)) x224000 x224001 x224002 x224003)) else (linotypelaw22_TokenParts.l1 k x0 x3 x4 x7 (wrap64 (x9 + 1)) x224000 x224001 x224002 x224003))) else (if x224000 = 1 then (linotypelaw22_TokenParts.j4 k x0 x3 x4 x7 true x224000 x224001 x224002 x224003) else (linotypelaw22_TokenParts.j4 k x0 x3 x4 x7 (x224000 == 4) x224000 x224001 x224002 x224003))
def linotypelaw22_TokenParts.j4 : Nat → ByteArray → Bool → List (S32) → Int → Bool → Int → Int → ByteArray → Int → Option (Bool)
  | 0, _, _, _, _, _, _, _, _, _ => none
  | k + 1, x0, x3, x4, x7, x84, x224000, x224001, x224002, x224003 => if x84 = true then (if (wrap64 (x224003 + (x224002.size : Int))) > (x0.size : Int) then (some false) else (if 0 ≤ x224003 then (if x224003 ≤ (wrap64 (x224003 + (x224002.size : Int))) then (if (wrap64 (x224003 + (x224002.size : Int))) ≤ (x0.size : Int) then (if (x0.extract (x224003 : Int).toNat ((wrap64 (x224003 + (x224002.size : Int))) : Int).toNat).toList = x224002.toList then (if x224002.toList = ([] : List UInt8) then (some false) else (linotypelaw22_TokenParts.l0 k x0 x3 x4 (wrap64 (x224003 + (mx (x224002.size : Int) 1))) (wrap64 (x7 + 1)))) else (some false)) else (none)) else (none)) else (none))) else (linotypelaw22_TokenParts.l0 k x0 x3 x4 (wrap64 (x224003 + (mx (x224002.size : Int) 1))) (wrap64 (x7 + 1)))
end
def linotypelaw22_TokenParts.f (k : Nat) (a0 : ByteArray) : Option (Bool) := (linotypelaw22_awake.f k).bind fun t215 => ((token_Lex.f k a0).bind fun bt216 => (if (a0.size : Int) > 1000 then (linotypelaw22_TokenParts.j0 k a0 t215 bt216.1 true) else (linotypelaw22_TokenParts.j0 k a0 t215 bt216.1 (bt216.2.1 != 0))))
theorem linotypelaw22_TokenParts.mono_l : ∀ k, (∀ y0 y1 y2 y3, LeO (linotypelaw22_TokenParts.j0 k y0 y1 y2 y3) (linotypelaw22_TokenParts.j0 (k + 1) y0 y1 y2 y3)) ∧ (∀ y0 y1 y2 y3 y4, LeO (linotypelaw22_TokenParts.l0 k y0 y1 y2 y3 y4) (linotypelaw22_TokenParts.l0 (k + 1) y0 y1 y2 y3 y4)) ∧ (∀ y0 y1 y2 y3 y4 y5 y6 y7 y8 y9, LeO (linotypelaw22_TokenParts.j2 k y0 y1 y2 y3 y4 y5 y6 y7 y8 y9) (linotypelaw22_TokenParts.j2 (k + 1) y0 y1 y2 y3 y4 y5 y6 y7 y8 y9)) ∧ (∀ y0 y1 y2 y3 y4 y5 y6 y7 y8, LeO (linotypelaw22_TokenParts.l1 k y0 y1 y2 y3 y4 y5 y6 y7 y8) (linotypelaw22_TokenParts.l1 (k + 1) y0 y1 y2 y3 y4 y5 y6 y7 y8)) ∧ (∀ y0 y1 y2 y3 y4 y5 y6 y7 y8, LeO (linotypelaw22_TokenParts.j4 k y0 y1 y2 y3 y4 y5 y6 y7 y8) (linotypelaw22_TokenParts.j4 (k + 1) y0 y1 y2 y3 y4 y5 y6 y7 y8))
  | 0 => ⟨fun _ _ _ _ r h => by simp [linotypelaw22_TokenParts.j0] at h, fun _ _ _ _ _ r h => by simp [linotypelaw22_TokenParts.l0] at h, fun _ _ _ _ _ _ _ _ _ _ r h => by simp [linotypelaw22_TokenParts.j2] at h, fun _ _ _ _ _ _ _ _ _ r h => by simp [linotypelaw22_TokenParts.l1] at h, fun _ _ _ _ _ _ _ _ _ r h => by simp [linotypelaw22_TokenParts.j4] at h⟩
  | k + 1 => by
    obtain ⟨ih0, ih1, ih2, ih3, ih4⟩ := linotypelaw22_TokenParts.mono_l k
    refine ⟨?_, ?_, ?_, ?_, ?_⟩
    · intro y0 y1 y2 y3
      unfold linotypelaw22_TokenParts.j0
      repeat' first
      | (with_reducible exact ih0 _ _ _ _)
      | (with_reducible exact ih1 _ _ _ _ _)
      | (with_reducible exact ih2 _ _ _ _ _ _ _ _ _ _)
      | (with_reducible exact ih3 _ _ _ _ _ _ _ _ _)
      | (with_reducible exact ih4 _ _ _ _ _ _ _ _ _)
      | (with_reducible exact linotypelaw22_awake.mono _)
      | (with_reducible exact token_Lex.mono _ _)
      | (with_reducible exact LeO.refl _)
      | (with_reducible exact LeO.none _)
      | (with_reducible refine LeO.ite ?_ ?_)
      | (with_reducible refine LeO.bind ?_ (fun _ => ?_))
      | exact ih0 _ _ _ _
      | exact ih1 _ _ _ _ _
      | exact ih2 _ _ _ _ _ _ _ _ _ _
      | exact ih3 _ _ _ _ _ _ _ _ _
      | exact ih4 _ _ _ _ _ _ _ _ _
      | exact linotypelaw22_awake.mono _
      | exact token_Lex.mono _ _
      | exact LeO.none _
      | refine LeO.ite ?_ ?_
      | refine LeO.bind ?_ (fun _ => ?_)
    · intro y0 y1 y2 y3 y4
      unfold linotypelaw22_TokenParts.l0
      repeat' first
      | (with_reducible exact ih0 _ _ _ _)
      | (with_reducible exact ih1 _ _ _ _ _)
      | (with_reducible exact ih2 _ _ _ _ _ _ _ _ _ _)
      | (with_reducible exact ih3 _ _ _ _ _ _ _ _ _)
      | (with_reducible exact ih4 _ _ _ _ _ _ _ _ _)
      | (with_reducible exact linotypelaw22_awake.mono _)
      | (with_reducible exact token_Lex.mono _ _)
      | (with_reducible exact LeO.refl _)
      | (with_reducible exact LeO.none _)
      | (with_reducible refine LeO.ite ?_ ?_)
      | (with_reducible refine LeO.bind ?_ (fun _ => ?_))
      | exact ih0 _ _ _ _
      | exact ih1 _ _ _ _ _
      | exact ih2 _ _ _ _ _ _ _ _ _ _
      | exact ih3 _ _ _ _ _ _ _ _ _
      | exact ih4 _ _ _ _ _ _ _ _ _
      | exact linotypelaw22_awake.mono _
      | exact token_Lex.mono _ _
      | exact LeO.none _
      | refine LeO.ite ?_ ?_
      | refine LeO.bind ?_ (fun _ => ?_)
    · intro y0 y1 y2 y3 y4 y5 y6 y7 y8 y9
      unfold linotypelaw22_TokenParts.j2
      repeat' first
      | (with_reducible exact ih0 _ _ _ _)
      | (with_reducible exact ih1 _ _ _ _ _)
      | (with_reducible exact ih2 _ _ _ _ _ _ _ _ _ _)
      | (with_reducible exact ih3 _ _ _ _ _ _ _ _ _)
      | (with_reducible exact ih4 _ _ _ _ _ _ _ _ _)
      | (with_reducible exact linotypelaw22_awake.mono _)
      | (with_reducible exact token_Lex.mono _ _)
      | (with_reducible exact LeO.refl _)
      | (with_reducible exact LeO.none _)
      | (with_reducible refine LeO.ite ?_ ?_)
      | (with_reducible refine LeO.bind ?_ (fun _ => ?_))
      | exact ih0 _ _ _ _
      | exact ih1 _ _ _ _ _
      | exact ih2 _ _ _ _ _ _ _ _ _ _
      | exact ih3 _ _ _ _ _ _ _ _ _
      | exact ih4 _ _ _ _ _ _ _ _ _
      | exact linotypelaw22_awake.mono _
      | exact token_Lex.mono _ _
      | exact LeO.none _
      | refine LeO.ite ?_ ?_
      | refine LeO.bind ?_ (fun _ => ?_)
    · intro y0 y1 y2 y3 y4 y5 y6 y7 y8
      unfold linotypelaw22_TokenParts.l1
      repeat' first
      | (with_reducible exact ih0 _ _ _ _)
      | (with_reducible exact ih1 _ _ _ _ _)
      | (with_reducible exact ih2 _ _ _ _ _ _ _ _ _ _)
      | (with_reducible exact ih3 _ _ _ _ _ _ _ _ _)
      | (with_reducible exact ih4 _ _ _ _ _ _ _ _ _)
      | (with_reducible exact linotypelaw22_awake.mono _)
      | (with_reducible exact token_Lex.mono _ _)
      | (with_reducible exact LeO.refl _)
      | (with_reducible exact LeO.none _)
      | (with_reducible refine LeO.ite ?_ ?_)
      | (with_reducible refine LeO.bind ?_ (fun _ => ?_))
      | exact ih0 _ _ _ _
      | exact ih1 _ _ _ _ _
      | exact ih2 _ _ _ _ _ _ _ _ _ _
      | exact ih3 _ _ _ _ _ _ _ _ _
      | exact ih4 _ _ _ _ _ _ _ _ _
      | exact linotypelaw22_awake.mono _
      | exact token_Lex.mono _ _
      | exact LeO.none _
      | refine LeO.ite ?_ ?_
      | refine LeO.bind ?_ (fun _ => ?_)
    · intro y0 y1 y2 y3 y4 y5 y6 y7 y8
      unfold linotypelaw22_TokenParts.j4
      repeat' first
      | (with_reducible exact ih0 _ _ _ _)
      | (with_reducible exact ih1 _ _ _ _ _)
      | (with_reducible exact ih2 _ _ _ _ _ _ _ _ _ _)
      | (with_reducible exact ih3 _ _ _ _ _ _ _ _ _)
      | (with_reducible exact ih4 _ _ _ _ _ _ _ _ _)
      | (with_reducible exact linotypelaw22_awake.mono _)
      | (with_reducible exact token_Lex.mono _ _)
      | (with_reducible exact LeO.refl _)
      | (with_reducible exact LeO.none _)
      | (with_reducible refine LeO.ite ?_ ?_)
      | (with_reducible refine LeO.bind ?_ (fun _ => ?_))
      | exact ih0 _ _ _ _
      | exact ih1 _ _ _ _ _
      | exact ih2 _ _ _ _ _ _ _ _ _ _
      | exact ih3 _ _ _ _ _ _ _ _ _
      | exact ih4 _ _ _ _ _ _ _ _ _
      | exact linotypelaw22_awake.mono _
      | exact token_Lex.mono _ _
      | exact LeO.none _
      | refine LeO.ite ?_ ?_
      | refine LeO.bind ?_ (fun _ => ?_)
theorem linotypelaw22_TokenParts.mono : ∀ a0 k, LeO (linotypelaw22_TokenParts.f k a0) (linotypelaw22_TokenParts.f (k + 1) a0) := by
  intro a0 k
  obtain ⟨ih0, ih1, ih2, ih3, ih4⟩ := linotypelaw22_TokenParts.mono_l k
  unfold linotypelaw22_TokenParts.f
  repeat' first
      | (with_reducible exact ih0 _ _ _ _)
      | (with_reducible exact ih1 _ _ _ _ _)
      | (with_reducible exact ih2 _ _ _ _ _ _ _ _ _ _)
      | (with_reducible exact ih3 _ _ _ _ _ _ _ _ _)
      | (with_reducible exact ih4 _ _ _ _ _ _ _ _ _)
      | (with_reducible exact linotypelaw22_awake.mono _)
      | (with_reducible exact token_Lex.mono _ _)
      | (with_reducible exact LeO.refl _)
      | (with_reducible exact LeO.none _)
      | (with_reducible refine LeO.ite ?_ ?_)
      | (with_reducible refine LeO.bind ?_ (fun _ => ?_))
      | exact ih0 _ _ _ _
      | exact ih1 _ _ _ _ _
      | exact ih2 _ _ _ _ _ _ _ _ _ _
      | exact ih3 _ _ _ _ _ _ _ _ _
      | exact ih4 _ _ _ _ _ _ _ _ _
      | exact linotypelaw22_awake.mono _
      | exact token_Lex.mono _ _
      | exact LeO.none _
      | refine LeO.ite ?_ ?_
      | refine LeO.bind ?_ (fun _ => ?_)
set_option maxHeartbeats 8000000 in
set_option maxRecDepth 100000 in
theorem linotypelaw22_TokenParts.calls (k : Nat) (a0 : ByteArray) (r : Bool) (w : World) (h : linotypelaw22_TokenParts.f k a0 = some r) :
    Calls Try.prog 4 #[.string a0] w fun e w' => e = .returned (.bool r) ∧ Below w.heap.size w w' := by
  have hu27 := Try.underlying27
  have hu32 := Try.underlying32
  have HB := Aside0.mk (Below.refl w.heap.size w)
  have H : ((linotypelaw22_awake.f k).bind fun t215 => ((token_Lex.f k a0).bind fun bt216 => (if (a0.size : Int) > 1000 then (linotypelaw22_TokenParts.j0 k a0 t215 bt216.1 true) else (linotypelaw22_TokenParts.j0 k a0 t215 bt216.1 (bt216.2.1 != 0))))) = some r := h
  clear h
  replace H := Option.bind_eq_some_iff.mp H
  obtain ⟨t215, A20, H⟩ := H
  replace H : ((token_Lex.f k a0).bind fun bt216 => (if (a0.size : Int) > 1000 then (linotypelaw22_TokenParts.j0 k a0 t215 bt216.1 true) else (linotypelaw22_TokenParts.j0 k a0 t215 bt216.1 (bt216.2.1 != 0)))) = some r := H
  have A2 := Aside0.mk A20
  clear A20
  replace H := Option.bind_eq_some_iff.mp H
  obtain ⟨⟨t216, t219, t220⟩, A30, H⟩ := H
  replace H : (if (a0.size : Int) > 1000 then (linotypelaw22_TokenParts.j0 k a0 t215 t216 true) else (linotypelaw22_TokenParts.j0 k a0 t215 t216 (t219 != 0))) = some r := H
  have A3 := Aside0.mk A30
  clear A30
  have HC4 := Aside0.mk H
  clear H
  go_enter Try.func4, Try.ntmps4
  go_upto_region 3 with (first | (go_at_call 8; (with_reducible refine (linotypelaw22_awake.calls k  t215 _ A2.out).mono ?_); rintro e w5 ⟨rfl, hb⟩; have n0_ := Aside0.mk (below_step (by repeat (first | (with_reducible first | exact HB.out | apply below_alloc | apply pw_below_drewN | apply below_drew1) | exact HB.out)) hb); clear HB; have HB := n0_; clear n0_; (try clear hb); (try clear hb2); (try clear hk); (try clear hi)) | (go_at_call 9; (with_reducible refine (token_Lex.calls k a0 t216 t219 t220 _ A3.out).mono ?_); rintro e w6 ⟨v217, rfl, ho0, hb⟩; have n0_ := Aside0.mk (Kd.R_lower ho0 (below_size (by repeat (first | (with_reducible first | exact HB.out | apply below_alloc | apply pw_below_drewN | apply below_drew1) | exact HB.out)))); have n1_ := Aside0.mk (below_step (by repeat (first | (with_reducible first | exact HB.out | apply below_alloc | apply pw_below_drewN | apply below_drew1) | exact HB.out)) hb); clear HB; have HO218 := n0_; have HB := n1_; clear n0_ n1_; (try clear hb); (try clear hb2); (try clear hk); (try clear hi); (try clear ho0)) | ((with_reducible refine gate_dst (N := 5) rfl ?_); (try (refine gate_guard (by rfl) ?_; dsimp only)); refine box_event ?hg (N := 5) ?hd (cs := #[.int .i64 0, .int .i64 0]) (t := 27) ?hr ?_; (case hd => rfl); (case hg => rfl); (case hr => first | (go_simp; done) | (go_simp; rfl)); intro gb221 hg w7 hbox hb; have n0_ := Aside0.mk (Kd.R_below (by (with_reducible repeat (first | apply Kd.R_alloc | apply Kd.R_drewN | apply Kd.R_drew)); exact HO218.out) hb); have n1_ := Aside0.mk (below_step (by repeat (first | (with_reducible first | exact HB.out | apply below_alloc | apply pw_below_drewN | apply below_drew1) | exact HB.out)) hb); have n2_ := Aside0.mk (hbox); have n3_ := Aside0.mk ((by rw [hg]; exact (below_size (by repeat (first | (with_reducible first | exact HB.out | apply below_alloc | apply pw_below_drewN | apply below_drew1) | exact HB.out))) : w.heap.size ≤ gb221)); have n4_ := Aside0.mk ((by rw [hg]; exact (below_size (by repeat (first | (with_reducible first | exact HB.out | apply below_alloc | apply pw_below_drewN | apply below_drew1) | exact HB.out))) : w.heap.size ≤ gb221)); clear HO218; clear HB; have HO218 := n0_; have HB := n1_; have BK221 := n2_; have GW221 := n3_; have GE221 := n4_; clear n0_ n1_ n2_ n3_ n4_; clear hb hbox hg; have hcz8_0 : w7.cell? ⟨gb221, 0, none⟩ = some (.int .i64 0) := (blk_cell BK221.out 0).trans rfl; have hcz8_1 : w7.cell? ⟨gb221, 1, none⟩ = some (.int .i64 0) := (blk_cell BK221.out 1).trans rfl; have hfz8_0 := blk_frozen BK221.out 0; have hfz8_1 := blk_frozen BK221.out 1))
  repeat (go_quiet (first | (go_at_call 8; (with_reducible refine (linotypelaw22_awake.calls k  t215 _ A2.out).mono ?_); rintro e w5 ⟨rfl, hb⟩; have n0_ := Aside0.mk (below_step (by repeat (first | (with_reducible first | exact HB.out | apply below_alloc | apply pw_below_drewN | apply below_drew1) | exact HB.out)) hb); clear HB; have HB := n0_; clear n0_; (try clear hb); (try clear hb2); (try clear hk); (try clear hi)) | (go_at_call 9; (with_reducible refine (token_Lex.calls k a0 t216 t219 t220 _ A3.out).mono ?_); rintro e w6 ⟨v217, rfl, ho0, hb⟩; have n0_ := Aside0.mk (Kd.R_lower ho0 (below_size (by repeat (first | (with_reducible first | exact HB.out | apply below_alloc | apply pw_below_drewN | apply below_drew1) | exact HB.out)))); have n1_ := Aside0.mk (below_step (by repeat (first | (with_reducible first | exact HB.out | apply below_alloc | apply pw_below_drewN | apply below_drew1) | exact HB.out)) hb); clear HB; have HO218 := n0_; have HB := n1_; clear n0_ n1_; (try clear hb); (try clear hb2); (try clear hk); (try clear hi); (try clear ho0)) | ((with_reducible refine gate_dst (N := 5) rfl ?_); (try (refine gate_guard (by rfl) ?_; dsimp only)); refine box_event ?hg (N := 5) ?hd (cs := #[.int .i64 0, .int .i64 0]) (t := 27) ?hr ?_; (case hd => rfl); (case hg => rfl); (case hr => first | (go_simp; done) | (go_simp; rfl)); intro gb221 hg w7 hbox hb; have n0_ := Aside0.mk (Kd.R_below (by (with_reducible repeat (first | apply Kd.R_alloc | apply Kd.R_drewN | apply Kd.R_drew)); exact HO218.out) hb); have n1_ := Aside0.mk (below_step (by repeat (first | (with_reducible first | exact HB.out | apply below_alloc | apply pw_below_drewN | apply below_drew1) | exact HB.out)) hb); have n2_ := Aside0.mk (hbox); have n3_ := Aside0.mk ((by rw [hg]; exact (below_size (by repeat (first | (with_reducible first | exact HB.out | apply below_alloc | apply pw_below_drewN | apply below_drew1) | exact HB.out))) : w.heap.size ≤ gb221)); have n4_ := Aside0.mk ((by rw [hg]; exact (below_size (by repeat (first | (with_reducible first | exact HB.out | apply below_alloc | apply pw_below_drewN | apply below_drew1) | exact HB.out))) : w.heap.size ≤ gb221)); clear HO218; clear HB; have HO218 := n0_; have HB := n1_; have BK221 := n2_; have GW221 := n3_; have GE221 := n4_; clear n0_ n1_ n2_ n3_ n4_; clear hb hbox hg; have hcz8_0 : w7.cell? ⟨gb221, 0, none⟩ = some (.int .i64 0) := (blk_cell BK221.out 0).trans rfl; have hcz8_1 : w7.cell? ⟨gb221, 1, none⟩ = some (.int .i64 0) := (blk_cell BK221.out 1).trans rfl; have hfz8_0 := blk_frozen BK221.out 0; have hfz8_1 := blk_frozen BK221.out 1)); go_upto_region 3 with (first | (go_at_call 8; (with_reducible refine (linotypelaw22_awake.calls k  t215 _ A2.out).mono ?_); rintro e w5 ⟨rfl, hb⟩; have n0_ := Aside0.mk (below_step (by repeat (first | (with_reducible first | exact HB.out | apply below_alloc | apply pw_below_drewN | apply below_drew1) | exact HB.out)) hb); clear HB; have HB := n0_; clear n0_; (try clear hb); (try clear hb2); (try clear hk); (try clear hi)) | (go_at_call 9; (with_reducible refine (token_Lex.calls k a0 t216 t219 t220 _ A3.out).mono ?_); rintro e w6 ⟨v217, rfl, ho0, hb⟩; have n0_ := Aside0.mk (Kd.R_lower ho0 (below_size (by repeat (first | (with_reducible first | exact HB.out | apply below_alloc | apply pw_below_drewN | apply below_drew1) | exact HB.out)))); have n1_ := Aside0.mk (below_step (by repeat (first | (with_reducible first | exact HB.out | apply below_alloc | apply pw_below_drewN | apply below_drew1) | exact HB.out)) hb); clear HB; have HO218 := n0_; have HB := n1_; clear n0_ n1_; (try clear hb); (try clear hb2); (try clear hk); (try clear hi); (try clear ho0)) | ((with_reducible refine gate_dst (N := 5) rfl ?_); (try (refine gate_guard (by rfl) ?_; dsimp only)); refine box_event ?hg (N := 5) ?hd (cs := #[.int .i64 0, .int .i64 0]) (t := 27) ?hr ?_; (case hd => rfl); (case hg => rfl); (case hr => first | (go_simp; done) | (go_simp; rfl)); intro gb221 hg w7 hbox hb; have n0_ := Aside0.mk (Kd.R_below (by (with_reducible repeat (first | apply Kd.R_alloc | apply Kd.R_drewN | apply Kd.R_drew)); exact HO218.out) hb); have n1_ := Aside0.mk (below_step (by repeat (first | (with_reducible first | exact HB.out | apply below_alloc | apply pw_below_drewN | apply below_drew1) | exact HB.out)) hb); have n2_ := Aside0.mk (hbox); have n3_ := Aside0.mk ((by rw [hg]; exact (below_size (by repeat (first | (with_reducible first | exact HB.out | apply below_alloc | apply pw_below_drewN | apply below_drew1) | exact HB.out))) : w.heap.size ≤ gb221)); have n4_ := Aside0.mk ((by rw [hg]; exact (below_size (by repeat (first | (with_reducible first | exact HB.out | apply below_alloc | apply pw_below_drewN | apply below_drew1) | exact HB.out))) : w.heap.size ≤ gb221)); clear HO218; clear HB; have HO218 := n0_; have HB := n1_; have BK221 := n2_; have GW221 := n3_; have GE221 := n4_; clear n0_ n1_ n2_ n3_ n4_; clear hb hbox hg; have hcz8_0 : w7.cell? ⟨gb221, 0, none⟩ = some (.int .i64 0) := (blk_cell BK221.out 0).trans rfl; have hcz8_1 : w7.cell? ⟨gb221, 1, none⟩ = some (.int .i64 0) := (blk_cell BK221.out 1).trans rfl; have hfz8_0 := blk_frozen BK221.out 0; have hfz8_1 := blk_frozen BK221.out 1)))
  (try simp only [Act.put, List.setIfInBounds_toArray, List.set_cons_zero, List.set_cons_succ])
  go_cut [23] (fun v23 wc => ∃ (kq : Nat) (x23_3 : Bool), v23 = .bool x23_3 ∧ Aside0 (linotypelaw22_TokenParts.j0 kq a0 t215 t216 x23_3 = some r) ∧ Aside0 (kq ≤ k) ∧ Aside0 (Kd.R k32 32 wc w.heap.size (fun _ => True) v217 t216) ∧ Aside0 (wc.heap[gb221]? = some (.cells #[.int .i64 t219, .int .i64 t220] 27 (0, 0))) ∧ Aside0 (Below w.heap.size w wc))
  case first =>
    have H := HC4.out
    clear HC4
    by_cases c9 : (a0.size : Int) > 1000
    · rw [if_pos c9] at H
      have c9b0 : decide (1000 < (a0.size : Int)) = true := decide_eq_true c9
      have c9b1 : decide (1000 < a0.size) = true := decide_eq_true (by omega)
      clear c9
      (first | rw [c9b0] | (simp only [i64_w, i32_w]; rw [c9b0]) | skip)
      have H' := Aside0.mk H
      clear H
      go_wp2
      repeat (go_quiet (fail); try go_wp2)
      go_meet
      case rel => exact ⟨_, (true), (by first | rfl | (simp; done) | (simp [*]; done)), H', ⟨by first | omega | exact Nat.le_refl _⟩, ⟨by (with_reducible repeat (first | apply Kd.R_alloc | apply Kd.R_drewN | apply Kd.R_drew)); exact Kd.R_mono (Kd.R_far (p := ⟨gb221, 1, none⟩) (Kd.R_far (p := ⟨gb221, 0, none⟩) (Kd.R_types HO218.out BK221.out (by decide)) (fun _ hk => hk.2) (.int .i64 t219)) (fun _ hk => hk.2) (.int .i64 t220)) (fun _ hk => trivial)⟩, ⟨by (with_reducible repeat (first | refine blk_drewN ?_ _ | refine blk_drew ?_ | refine blk_alloc ?_ _)); refine blk_put (cs := #[.int .i64 t219, .int .i64 0]) ?_ 1 _ rfl; (with_reducible repeat (first | refine blk_drewN ?_ _ | refine blk_drew ?_ | refine blk_alloc ?_ _)); refine blk_put (cs := #[.int .i64 0, .int .i64 0]) ?_ 0 _ rfl; (with_reducible repeat (first | refine blk_drewN ?_ _ | refine blk_drew ?_ | refine blk_alloc ?_ _)); exact BK221.out⟩, ⟨by repeat (first | (with_reducible first | exact HB.out | apply below_alloc | apply pw_below_drewN | apply below_drew1 | refine below_set ?_ GE221.out) | exact HB.out)⟩⟩
    · rw [if_neg c9] at H
      have c9b0 : decide (1000 < (a0.size : Int)) = false := decide_eq_false c9
      have c9b1 : decide (1000 < a0.size) = false := decide_eq_false (by omega)
      clear c9
      (first | rw [c9b0] | (simp only [i64_w, i32_w]; rw [c9b0]) | skip)
      have H' := Aside0.mk H
      clear H
      have hcz10_0 : w7.cell? ⟨gb221, 0, none⟩ = some (.int .i64 0) := (blk_cell BK221.out 0).trans rfl
      have hcz10_1 : w7.cell? ⟨gb221, 1, none⟩ = some (.int .i64 0) := (blk_cell BK221.out 1).trans rfl
      have hfz10_0 := blk_frozen BK221.out 0
      have hfz10_1 := blk_frozen BK221.out 1
      go_wp2
      repeat (go_quiet (fail); try go_wp2)
      go_meet
      case rel => exact ⟨_, ((t219 != 0)), (by first | rfl | (simp; done) | (simp [*]; done)), H', ⟨by first | omega | exact Nat.le_refl _⟩, ⟨by (with_reducible repeat (first | apply Kd.R_alloc | apply Kd.R_drewN | apply Kd.R_drew)); exact Kd.R_mono (Kd.R_far (p := ⟨gb221, 1, none⟩) (Kd.R_far (p := ⟨gb221, 0, none⟩) (Kd.R_types HO218.out BK221.out (by decide)) (fun _ hk => hk.2) (.int .i64 t219)) (fun _ hk => hk.2) (.int .i64 t220)) (fun _ hk => trivial)⟩, ⟨by (with_reducible repeat (first | refine blk_drewN ?_ _ | refine blk_drew ?_ | refine blk_alloc ?_ _)); refine blk_put (cs := #[.int .i64 t219, .int .i64 0]) ?_ 1 _ rfl; (with_reducible repeat (first | refine blk_drewN ?_ _ | refine blk_drew ?_ | refine blk_alloc ?_ _)); refine blk_put (cs := #[.int .i64 0, .int .i64 0]) ?_ 0 _ rfl; (with_reducible repeat (first | refine blk_drewN ?_ _ | refine blk_drew ?_ | refine blk_alloc ?_ _)); exact BK221.out⟩, ⟨by repeat (first | (with_reducible first | exact HB.out | apply below_alloc | apply pw_below_drewN | apply below_drew1 | refine below_set ?_ GE221.out) | exact HB.out)⟩⟩
  case rest =>
    clear HC4
    try clear p2
    try clear c4
    try clear c9
    try clear c9b0
    try clear c9b1
    try clear hcz10_0
    try clear hcz10_1
    try clear hcz8_0
    try clear hcz8_1
    try clear hfz10_0
    try clear hfz10_1
    try clear hfz8_0
    try clear hfz8_1
    obtain ⟨kq, x23_3, rfl, HA, HJ3, HO_4, BK221, HB⟩ := hcut
    cases kq with
    | zero => exact absurd HA.out (by simp [linotypelaw22_TokenParts.j0])
    | succ kj3 =>
      have H := HA.out
      clear HA
      simp only [linotypelaw22_TokenParts.j0] at H
      by_cases c11 : x23_3 = true
      · subst c11
        have H1 : (some t215) = some r := by rw [if_pos rfl] at H; exact H
        clear H
        have H := H1
        clear H1
        obtain rfl := Option.some.inj H
        go_wp2
        repeat (go_quiet (fail); try go_wp2)
        go_ret
        exact ⟨by first | rfl | (simp [errW_none, errW_some] <;> rfl) | (simp [*, errW_none, errW_some] <;> rfl), by repeat (first | (with_reducible first | exact HB.out | apply below_alloc | apply pw_below_drewN | apply below_drew1 | refine below_set ?_ GE221.out) | exact HB.out)⟩
      · replace c11 := Bool.eq_false_iff.mpr c11
        subst c11
        have H1 : (linotypelaw22_TokenParts.l0 kj3 a0 t215 t216 0 0) = some r := by rw [if_neg (show ¬ (false = true) by decide)] at H; exact H
        clear H
        have H := H1
        clear H1
        have H' := Aside0.mk H
        clear H
        go_wp2
        repeat (go_quiet (fail); try go_wp2)
        go_loopg [6, 7] kj3 (fun kq v6 v7 w' => ∃ (x6_2 : Int) (x7_2 : Int), v6 = .int .i64 x6_2 ∧ v7 = .int .i64 x7_2 ∧ Aside0 (linotypelaw22_TokenParts.l0 kq a0 t215 t216 x6_2 x7_2 = some r) ∧ Aside0 (kq ≤ kj3) ∧ Aside0 (Kd.R k32 32 w' w.heap.size (fun _ => True) v217 t216) ∧ Aside0 (w'.heap[gb221]? = some (.cells #[.int .i64 t219, .int .i64 t220] 27 (0, 0))) ∧ Aside0 (Below w.heap.size w w'))
        case atStart => exact ⟨(0), (0), (by first | rfl | (simp; done) | (simp [*]; done)), (by first | rfl | (simp; done) | (simp [*]; done)), H', ⟨Nat.le_refl _⟩, ⟨by (with_reducible repeat (first | apply Kd.R_alloc | apply Kd.R_drewN | apply Kd.R_drew)); exact HO_4.out⟩, ⟨by (with_reducible repeat (first | refine blk_drewN ?_ _ | refine blk_drew ?_ | refine blk_alloc ?_ _)); exact BK221.out⟩, ⟨by repeat (first | (with_reducible first | exact HB.out | apply below_alloc | apply pw_below_drewN | apply below_drew1 | refine below_set ?_ GE221.out) | exact HB.out)⟩⟩
        case round =>
          clear H'
          try clear c1
          try clear p2
          try clear c4
          try clear c9
          try clear c9b0
          try clear c9b1
          try clear c11
          try clear hcz10_0
          try clear hcz10_1
          try clear hcz8_0
          try clear hcz8_1
          try clear hfz10_0
          try clear hfz10_1
          try clear hfz8_0
          try clear hfz8_1
          try clear p2
          obtain ⟨x6_2, x7_2, rfl, rfl, HA, HK2, HO_4, BK221, HB⟩ := hrel
          cases gk with
          | zero => exact absurd HA.out (by simp [linotypelaw22_TokenParts.l0])
          | succ k2 =>
            have H := HA.out
            clear HA
            simp only [linotypelaw22_TokenParts.l0] at H
            by_cases c12 : x7_2 < (t216.length : Int)
            · rw [if_pos c12] at H
              have c12b0 : decide (x7_2 < (t216.length : Int)) = true := decide_eq_true c12
              clear c12
              by_cases c13 : 0 ≤ x7_2
              · rw [if_pos c13] at H
                have c13b0 : decide (0 ≤ x7_2) = true := decide_eq_true c13
                clear c13
                have HC14 := Aside0.mk H
                clear H
                obtain ⟨Ao15, co15, eo15⟩ := Kd.R_slice HO_4.out
                subst eo15
                have p222 : 0 ≤ (x7_2 : Int) := of_decide_eq_true (by first | (with_reducible assumption) | assumption)
                have q222 : x7_2 < (t216.length : Int) := of_decide_eq_true (by first | (with_reducible assumption) | assumption)
                obtain ⟨ad222, e222, hx222_0, hx222_1, hx222_2, hx222_3⟩ := at_T32 (Kd.R_reads' HO_4.out).2.2 x7_2 p222 q222
                cases e222
                replace p222 := eq_true p222
                replace q222 := eq_true q222
                go_upto_region 10 with (first | ((with_reducible refine gate_dst (N := 8) rfl ?_); (try (refine gate_guard (by rfl) ?_; dsimp only)); refine box_event ?hg (N := 8) ?hd (cs := #[.int .i64 0, .int .i64 0, .string (⟨#[]⟩ : ByteArray), .int .i64 0]) (t := 32) ?hr ?_; (case hd => rfl); (case hg => rfl); (case hr => first | (go_simp; done) | (go_simp; rfl)); intro gb223 hg w16 hbox hb; have n0_ := Aside0.mk (Kd.R_below (Kd.R_elderB (by (with_reducible repeat (first | apply Kd.R_alloc | apply Kd.R_drewN | apply Kd.R_drew)); exact HO_4.out) gb223 (Nat.le_of_eq hg.symm)) hb); have n1_ := Aside0.mk (blk_below (g := gb221) (o := .cells #[.int .i64 t219, .int .i64 t220] 27 (0, 0)) (by (with_reducible repeat (first | refine blk_drewN ?_ _ | refine blk_drew ?_ | refine blk_alloc ?_ _)); exact BK221.out) hb); have n2_ := Aside0.mk (below_step (by repeat (first | (with_reducible first | exact HB.out | apply below_alloc | apply pw_below_drewN | apply below_drew1 | refine below_set ?_ GE221.out) | exact HB.out)) hb); have n3_ := Aside0.mk (hbox); have n4_ := Aside0.mk ((by rw [hg]; exact (below_size (by repeat (first | (with_reducible first | exact HB.out | apply below_alloc | apply pw_below_drewN | apply below_drew1 | refine below_set ?_ GE221.out) | exact HB.out))) : w.heap.size ≤ gb223)); have n5_ := Aside0.mk ((by rw [hg]; exact (below_size (by repeat (first | (with_reducible first | exact HB.out | apply below_alloc | apply pw_below_drewN | apply below_drew1 | refine below_set ?_ GE221.out) | exact HB.out))) : w.heap.size ≤ gb223)); have n6_ := Aside0.mk ((by rw [hg]; exact Nat.ne_of_lt (blk_lt (g := gb221) (o := .cells #[.int .i64 t219, .int .i64 t220] 27 (0, 0)) (by (with_reducible repeat (first | refine blk_drewN ?_ _ | refine blk_drew ?_ | refine blk_alloc ?_ _)); exact BK221.out)) : gb221 ≠ gb223)); have n7_ := Aside0.mk ((by rw [hg]; exact Nat.ne_of_gt (blk_lt (g := gb221) (o := .cells #[.int .i64 t219, .int .i64 t220] 27 (0, 0)) (by (with_reducible repeat (first | refine blk_drewN ?_ _ | refine blk_drew ?_ | refine blk_alloc ?_ _)); exact BK221.out)) : gb223 ≠ gb221)); clear HO_4; clear BK221; clear HB; have HO_4 := n0_; have BK221 := n1_; have HB := n2_; have BK223 := n3_; have GW223 := n4_; have GE223 := n5_; have NB221_223 := n6_; have NB223_221 := n7_; clear n0_ n1_ n2_ n3_ n4_ n5_ n6_ n7_; clear hb hbox hg; have hnb17 := NB223_221.out; have hnc17 := NB221_223.out; have hcz18_0 : w16.cell? ⟨gb223, 0, none⟩ = some (.int .i64 0) := (blk_cell BK223.out 0).trans rfl; have hcz18_1 : w16.cell? ⟨gb223, 1, none⟩ = some (.int .i64 0) := (blk_cell BK223.out 1).trans rfl; have hcz18_2 : w16.cell? ⟨gb223, 2, none⟩ = some (.string (⟨#[]⟩ : ByteArray)) := (blk_cell BK223.out 2).trans rfl; have hcz18_3 : w16.cell? ⟨gb223, 3, none⟩ = some (.int .i64 0) := (blk_cell BK223.out 3).trans rfl; have hfz18_0 := blk_frozen BK223.out 0; have hfz18_1 := blk_frozen BK223.out 1; have hfz18_2 := blk_frozen BK223.out 2; have hfz18_3 := blk_frozen BK223.out 3))
                repeat (go_quiet (first | ((with_reducible refine gate_dst (N := 8) rfl ?_); (try (refine gate_guard (by rfl) ?_; dsimp only)); refine box_event ?hg (N := 8) ?hd (cs := #[.int .i64 0, .int .i64 0, .string (⟨#[]⟩ : ByteArray), .int .i64 0]) (t := 32) ?hr ?_; (case hd => rfl); (case hg => rfl); (case hr => first | (go_simp; done) | (go_simp; rfl)); intro gb223 hg w16 hbox hb; have n0_ := Aside0.mk (Kd.R_below (Kd.R_elderB (by (with_reducible repeat (first | apply Kd.R_alloc | apply Kd.R_drewN | apply Kd.R_drew)); exact HO_4.out) gb223 (Nat.le_of_eq hg.symm)) hb); have n1_ := Aside0.mk (blk_below (g := gb221) (o := .cells #[.int .i64 t219, .int .i64 t220] 27 (0, 0)) (by (with_reducible repeat (first | refine blk_drewN ?_ _ | refine blk_drew ?_ | refine blk_alloc ?_ _)); exact BK221.out) hb); have n2_ := Aside0.mk (below_step (by repeat (first | (with_reducible first | exact HB.out | apply below_alloc | apply pw_below_drewN | apply below_drew1 | refine below_set ?_ GE221.out) | exact HB.out)) hb); have n3_ := Aside0.mk (hbox); have n4_ := Aside0.mk ((by rw [hg]; exact (below_size (by repeat (first | (with_reducible first | exact HB.out | apply below_alloc | apply pw_below_drewN | apply below_drew1 | refine below_set ?_ GE221.out) | exact HB.out))) : w.heap.size ≤ gb223)); have n5_ := Aside0.mk ((by rw [hg]; exact (below_size (by repeat (first | (with_reducible first | exact HB.out | apply below_alloc | apply pw_below_drewN | apply below_drew1 | refine below_set ?_ GE221.out) | exact HB.out))) : w.heap.size ≤ gb223)); have n6_ := Aside0.mk ((by rw [hg]; exact Nat.ne_of_lt (blk_lt (g := gb221) (o := .cells #[.int .i64 t219, .int .i64 t220] 27 (0, 0)) (by (with_reducible repeat (first | refine blk_drewN ?_ _ | refine blk_drew ?_ | refine blk_alloc ?_ _)); exact BK221.out)) : gb221 ≠ gb223)); have n7_ := Aside0.mk ((by rw [hg]; exact Nat.ne_of_gt (blk_lt (g := gb221) (o := .cells #[.int .i64 t219, .int .i64 t220] 27 (0, 0)) (by (with_reducible repeat (first | refine blk_drewN ?_ _ | refine blk_drew ?_ | refine blk_alloc ?_ _)); exact BK221.out)) : gb223 ≠ gb221)); clear HO_4; clear BK221; clear HB; have HO_4 := n0_; have BK221 := n1_; have HB := n2_; have BK223 := n3_; have GW223 := n4_; have GE223 := n5_; have NB221_223 := n6_; have NB223_221 := n7_; clear n0_ n1_ n2_ n3_ n4_ n5_ n6_ n7_; clear hb hbox hg; have hnb17 := NB223_221.out; have hnc17 := NB221_223.out; have hcz18_0 : w16.cell? ⟨gb223, 0, none⟩ = some (.int .i64 0) := (blk_cell BK223.out 0).trans rfl; have hcz18_1 : w16.cell? ⟨gb223, 1, none⟩ = some (.int .i64 0) := (blk_cell BK223.out 1).trans rfl; have hcz18_2 : w16.cell? ⟨gb223, 2, none⟩ = some (.string (⟨#[]⟩ : ByteArray)) := (blk_cell BK223.out 2).trans rfl; have hcz18_3 : w16.cell? ⟨gb223, 3, none⟩ = some (.int .i64 0) := (blk_cell BK223.out 3).trans rfl; have hfz18_0 := blk_frozen BK223.out 0; have hfz18_1 := blk_frozen BK223.out 1; have hfz18_2 := blk_frozen BK223.out 2; have hfz18_3 := blk_frozen BK223.out 3)); go_upto_region 10 with (first | ((with_reducible refine gate_dst (N := 8) rfl ?_); (try (refine gate_guard (by rfl) ?_; dsimp only)); refine box_event ?hg (N := 8) ?hd (cs := #[.int .i64 0, .int .i64 0, .string (⟨#[]⟩ : ByteArray), .int .i64 0]) (t := 32) ?hr ?_; (case hd => rfl); (case hg => rfl); (case hr => first | (go_simp; done) | (go_simp; rfl)); intro gb223 hg w16 hbox hb; have n0_ := Aside0.mk (Kd.R_below (Kd.R_elderB (by (with_reducible repeat (first | apply Kd.R_alloc | apply Kd.R_drewN | apply Kd.R_drew)); exact HO_4.out) gb223 (Nat.le_of_eq hg.symm)) hb); have n1_ := Aside0.mk (blk_below (g := gb221) (o := .cells #[.int .i64 t219, .int .i64 t220] 27 (0, 0)) (by (with_reducible repeat (first | refine blk_drewN ?_ _ | refine blk_drew ?_ | refine blk_alloc ?_ _)); exact BK221.out) hb); have n2_ := Aside0.mk (below_step (by repeat (first | (with_reducible first | exact HB.out | apply below_alloc | apply pw_below_drewN | apply below_drew1 | refine below_set ?_ GE221.out) | exact HB.out)) hb); have n3_ := Aside0.mk (hbox); have n4_ := Aside0.mk ((by rw [hg]; exact (below_size (by repeat (first | (with_reducible first | exact HB.out | apply below_alloc | apply pw_below_drewN | apply below_drew1 | refine below_set ?_ GE221.out) | exact HB.out))) : w.heap.size ≤ gb223)); have n5_ := Aside0.mk ((by rw [hg]; exact (below_size (by repeat (first | (with_reducible first | exact HB.out | apply below_alloc | apply pw_below_drewN | apply below_drew1 | refine below_set ?_ GE221.out) | exact HB.out))) : w.heap.size ≤ gb223)); have n6_ := Aside0.mk ((by rw [hg]; exact Nat.ne_of_lt (blk_lt (g := gb221) (o := .cells #[.int .i64 t219, .int .i64 t220] 27 (0, 0)) (by (with_reducible repeat (first | refine blk_drewN ?_ _ | refine blk_drew ?_ | refine blk_alloc ?_ _)); exact BK221.out)) : gb221 ≠ gb223)); have n7_ := Aside0.mk ((by rw [hg]; exact Nat.ne_of_gt (blk_lt (g := gb221) (o := .cells #[.int .i64 t219, .int .i64 t220] 27 (0, 0)) (by (with_reducible repeat (first | refine blk_drewN ?_ _ | refine blk_drew ?_ | refine blk_alloc ?_ _)); exact BK221.out)) : gb223 ≠ gb221)); clear HO_4; clear BK221; clear HB; have HO_4 := n0_; have BK221 := n1_; have HB := n2_; have BK223 := n3_; have GW223 := n4_; have GE223 := n5_; have NB221_223 := n6_; have NB223_221 := n7_; clear n0_ n1_ n2_ n3_ n4_ n5_ n6_ n7_; clear hb hbox hg; have hnb17 := NB223_221.out; have hnc17 := NB221_223.out; have hcz18_0 : w16.cell? ⟨gb223, 0, none⟩ = some (.int .i64 0) := (blk_cell BK223.out 0).trans rfl; have hcz18_1 : w16.cell? ⟨gb223, 1, none⟩ = some (.int .i64 0) := (blk_cell BK223.out 1).trans rfl; have hcz18_2 : w16.cell? ⟨gb223, 2, none⟩ = some (.string (⟨#[]⟩ : ByteArray)) := (blk_cell BK223.out 2).trans rfl; have hcz18_3 : w16.cell? ⟨gb223, 3, none⟩ = some (.int .i64 0) := (blk_cell BK223.out 3).trans rfl; have hfz18_0 := blk_frozen BK223.out 0; have hfz18_1 := blk_frozen BK223.out 1; have hfz18_2 := blk_frozen BK223.out 2; have hfz18_3 := blk_frozen BK223.out 3)))
                (try simp only [Act.put, List.setIfInBounds_toArray, List.set_cons_zero, List.set_cons_succ])
                go_cut [45] (fun v45 wc => ∃ (kq : Nat) (x45_13 : Bool), v45 = .bool x45_13 ∧ Aside0 (linotypelaw22_TokenParts.j2 kq a0 t215 t216 x6_2 x7_2 x45_13 ((rd_T32 t216 x7_2).f0) ((rd_T32 t216 x7_2).f1) ((rd_T32 t216 x7_2).f2) ((rd_T32 t216 x7_2).f3) = some r) ∧ Aside0 (kq ≤ k2) ∧ Aside0 (Kd.R k32 32 wc w.heap.size (fun k_ => k_ ≠ gb223) (.slice (some ad222) t216.length co15) t216) ∧ Aside0 (wc.heap[gb221]? = some (.cells #[.int .i64 t219, .int .i64 t220] 27 (0, 0))) ∧ Aside0 (wc.heap[gb223]? = some (.cells #[.int .i64 ((rd_T32 t216 x7_2).f0), .int .i64 ((rd_T32 t216 x7_2).f1), .string ((rd_T32 t216 x7_2).f2), .int .i64 ((rd_T32 t216 x7_2).f3)] 32 (0, 0))) ∧ Aside0 (Below w.heap.size w wc))
                case first =>
                  have H := HC14.out
                  clear HC14
                  by_cases c19 : ((rd_T32 t216 x7_2).f3) < x6_2
                  · rw [if_pos c19] at H
                    have c19b0 : decide (((rd_T32 t216 x7_2).f3) < x6_2) = true := decide_eq_true c19
                    clear c19
                    (first | rw [c19b0] | (simp only [i64_w, i32_w]; rw [c19b0]) | skip)
                    have H' := Aside0.mk H
                    clear H
                    have hnb20 := NB223_221.out
                    have hnc20 := NB221_223.out
                    have hcz21_0 : w16.cell? ⟨gb223, 0, none⟩ = some (.int .i64 0) := (blk_cell BK223.out 0).trans rfl
                    have hcz21_1 : w16.cell? ⟨gb223, 1, none⟩ = some (.int .i64 0) := (blk_cell BK223.out 1).trans rfl
                    have hcz21_2 : w16.cell? ⟨gb223, 2, none⟩ = some (.string (⟨#[]⟩ : ByteArray)) := (blk_cell BK223.out 2).trans rfl
                    have hcz21_3 : w16.cell? ⟨gb223, 3, none⟩ = some (.int .i64 0) := (blk_cell BK223.out 3).trans rfl
                    have hfz21_0 := blk_frozen BK223.out 0
                    have hfz21_1 := blk_frozen BK223.out 1
                    have hfz21_2 := blk_frozen BK223.out 2
                    have hfz21_3 := blk_frozen BK223.out 3
                    go_wp2
                    repeat (go_quiet (fail); try go_wp2)
                    go_meet
                    case rel => exact ⟨_, (true), (by first | rfl | (simp; done) | (simp [*]; done)), H', ⟨by have := HJ3.out; have := HK2.out; first | omega | exact Nat.le_refl _⟩, ⟨by (with_reducible repeat (first | apply Kd.R_alloc | apply Kd.R_drewN | apply Kd.R_drew)); exact Kd.R_mono (Kd.R_far (p := ⟨gb223, 3, none⟩) (Kd.R_far (p := ⟨gb223, 2, none⟩) (Kd.R_far (p := ⟨gb223, 1, none⟩) (Kd.R_far (p := ⟨gb223, 0, none⟩) (Kd.R_mono HO_4.out (fun k_ hk => (⟨hk, hk.2⟩ : _ ∧ k_ ≠ gb223))) (fun _ hk => hk.2) (.int .i64 ((rd_T32 t216 x7_2).f0))) (fun _ hk => hk.2) (.int .i64 ((rd_T32 t216 x7_2).f1))) (fun _ hk => hk.2) (.string ((rd_T32 t216 x7_2).f2))) (fun _ hk => hk.2) (.int .i64 ((rd_T32 t216 x7_2).f3))) (fun _ hk => hk.1.2)⟩, ⟨by (with_reducible repeat (first | refine blk_drewN ?_ _ | refine blk_drew ?_ | refine blk_alloc ?_ _)); refine blk_far ?_ NB221_223.out _; (with_reducible repeat (first | refine blk_drewN ?_ _ | refine blk_drew ?_ | refine blk_alloc ?_ _)); refine blk_far ?_ NB221_223.out _; (with_reducible repeat (first | refine blk_drewN ?_ _ | refine blk_drew ?_ | refine blk_alloc ?_ _)); refine blk_far ?_ NB221_223.out _; (with_reducible repeat (first | refine blk_drewN ?_ _ | refine blk_drew ?_ | refine blk_alloc ?_ _)); refine blk_far ?_ NB221_223.out _; (with_reducible repeat (first | refine blk_drewN ?_ _ | refine blk_drew ?_ | refine blk_alloc ?_ _)); exact BK221.out⟩, ⟨by (with_reducible repeat (first | refine blk_drewN ?_ _ | refine blk_drew ?_ | refine blk_alloc ?_ _)); refine blk_put (cs := #[.int .i64 ((rd_T32 t216 x7_2).f0), .int .i64 ((rd_T32 t216 x7_2).f1), .string ((rd_T32 t216 x7_2).f2), .int .i64 0]) ?_ 3 _ rfl; (with_reducible repeat (first | refine blk_drewN ?_ _ | refine blk_drew ?_ | refine blk_alloc ?_ _)); refine blk_put (cs := #[.int .i64 ((rd_T32 t216 x7_2).f0), .int .i64 ((rd_T32 t216 x7_2).f1), .string (⟨#[]⟩ : ByteArray), .int .i64 0]) ?_ 2 _ rfl; (with_reducible repeat (first | refine blk_drewN ?_ _ | refine blk_drew ?_ | refine blk_alloc ?_ _)); refine blk_put (cs := #[.int .i64 ((rd_T32 t216 x7_2).f0), .int .i64 0, .string (⟨#[]⟩ : ByteArray), .int .i64 0]) ?_ 1 _ rfl; (with_reducible repeat (first | refine blk_drewN ?_ _ | refine blk_drew ?_ | refine blk_alloc ?_ _)); refine blk_put (cs := #[.int .i64 0, .int .i64 0, .string (⟨#[]⟩ : ByteArray), .int .i64 0]) ?_ 0 _ rfl; (with_reducible repeat (first | refine blk_drewN ?_ _ | refine blk_drew ?_ | refine blk_alloc ?_ _)); exact BK223.out⟩, ⟨by repeat (first | (with_reducible first | exact HB.out | apply below_alloc | apply pw_below_drewN | apply below_drew1 | refine below_set ?_ GE221.out | refine below_set ?_ GE223.out) | exact HB.out)⟩⟩
                  · rw [if_neg c19] at H
                    have c19b0 : decide (((rd_T32 t216 x7_2).f3) < x6_2) = false := decide_eq_false c19
                    clear c19
                    (first | rw [c19b0] | (simp only [i64_w, i32_w]; rw [c19b0]) | skip)
                    have H' := Aside0.mk H
                    clear H
                    have hnb22 := NB223_221.out
                    have hnc22 := NB221_223.out
                    have hcz23_0 : w16.cell? ⟨gb223, 0, none⟩ = some (.int .i64 0) := (blk_cell BK223.out 0).trans rfl
                    have hcz23_1 : w16.cell? ⟨gb223, 1, none⟩ = some (.int .i64 0) := (blk_cell BK223.out 1).trans rfl
                    have hcz23_2 : w16.cell? ⟨gb223, 2, none⟩ = some (.string (⟨#[]⟩ : ByteArray)) := (blk_cell BK223.out 2).trans rfl
                    have hcz23_3 : w16.cell? ⟨gb223, 3, none⟩ = some (.int .i64 0) := (blk_cell BK223.out 3).trans rfl
                    have hfz23_0 := blk_frozen BK223.out 0
                    have hfz23_1 := blk_frozen BK223.out 1
                    have hfz23_2 := blk_frozen BK223.out 2
                    have hfz23_3 := blk_frozen BK223.out 3
                    go_wp2
                    repeat (go_quiet (fail); try go_wp2)
                    go_meet
                    case rel => exact ⟨_, (decide (((rd_T32 t216 x7_2).f3) ≥ (a0.size : Int))), (by first | rfl | (simp; done) | (simp [*]; done)), H', ⟨by have := HJ3.out; have := HK2.out; first | omega | exact Nat.le_refl _⟩, ⟨by (with_reducible repeat (first | apply Kd.R_alloc | apply Kd.R_drewN | apply Kd.R_drew)); exact Kd.R_mono (Kd.R_far (p := ⟨gb223, 3, none⟩) (Kd.R_far (p := ⟨gb223, 2, none⟩) (Kd.R_far (p := ⟨gb223, 1, none⟩) (Kd.R_far (p := ⟨gb223, 0, none⟩) (Kd.R_mono HO_4.out (fun k_ hk => (⟨hk, hk.2⟩ : _ ∧ k_ ≠ gb223))) (fun _ hk => hk.2) (.int .i64 ((rd_T32 t216 x7_2).f0))) (fun _ hk => hk.2) (.int .i64 ((rd_T32 t216 x7_2).f1))) (fun _ hk => hk.2) (.string ((rd_T32 t216 x7_2).f2))) (fun _ hk => hk.2) (.int .i64 ((rd_T32 t216 x7_2).f3))) (fun _ hk => hk.1.2)⟩, ⟨by (with_reducible repeat (first | refine blk_drewN ?_ _ | refine blk_drew ?_ | refine blk_alloc ?_ _)); refine blk_far ?_ NB221_223.out _; (with_reducible repeat (first | refine blk_drewN ?_ _ | refine blk_drew ?_ | refine blk_alloc ?_ _)); refine blk_far ?_ NB221_223.out _; (with_reducible repeat (first | refine blk_drewN ?_ _ | refine blk_drew ?_ | refine blk_alloc ?_ _)); refine blk_far ?_ NB221_223.out _; (with_reducible repeat (first | refine blk_drewN ?_ _ | refine blk_drew ?_ | refine blk_alloc ?_ _)); refine blk_far ?_ NB221_223.out _; (with_reducible repeat (first | refine blk_drewN ?_ _ | refine blk_drew ?_ | refine blk_alloc ?_ _)); exact BK221.out⟩, ⟨by (with_reducible repeat (first | refine blk_drewN ?_ _ | refine blk_drew ?_ | refine blk_alloc ?_ _)); refine blk_put (cs := #[.int .i64 ((rd_T32 t216 x7_2).f0), .int .i64 ((rd_T32 t216 x7_2).f1), .string ((rd_T32 t216 x7_2).f2), .int .i64 0]) ?_ 3 _ rfl; (with_reducible repeat (first | refine blk_drewN ?_ _ | refine blk_drew ?_ | refine blk_alloc ?_ _)); refine blk_put (cs := #[.int .i64 ((rd_T32 t216 x7_2).f0), .int .i64 ((rd_T32 t216 x7_2).f1), .string (⟨#[]⟩ : ByteArray), .int .i64 0]) ?_ 2 _ rfl; (with_reducible repeat (first | refine blk_drewN ?_ _ | refine blk_drew ?_ | refine blk_alloc ?_ _)); refine blk_put (cs := #[.int .i64 ((rd_T32 t216 x7_2).f0), .int .i64 0, .string (⟨#[]⟩ : ByteArray), .int .i64 0]) ?_ 1 _ rfl; (with_reducible repeat (first | refine blk_drewN ?_ _ | refine blk_drew ?_ | refine blk_alloc ?_ _)); refine blk_put (cs := #[.int .i64 0, .int .i64 0, .string (⟨#[]⟩ : ByteArray), .int .i64 0]) ?_ 0 _ rfl; (with_reducible repeat (first | refine blk_drewN ?_ _ | refine blk_drew ?_ | refine blk_alloc ?_ _)); exact BK223.out⟩, ⟨by repeat (first | (with_reducible first | exact HB.out | apply below_alloc | apply pw_below_drewN | apply below_drew1 | refine below_set ?_ GE221.out | refine below_set ?_ GE223.out) | exact HB.out)⟩⟩
                case rest =>
                  clear HC14
                  try clear c1
                  try clear c2
                  try clear p2
                  try clear q2
                  try clear hx2
                  try clear c4
                  try clear c9
                  try clear c9b0
                  try clear c9b1
                  try clear c11
                  try clear c12
                  try clear c12b0
                  try clear c13
                  try clear c13b0
                  try clear c17
                  try clear c19
                  try clear c19b0
                  try clear c20
                  try clear c22
                  try clear p22
                  try clear q22
                  try clear hx22
                  try clear hcz10_0
                  try clear hcz10_1
                  try clear hcz18_0
                  try clear hcz18_1
                  try clear hcz18_2
                  try clear hcz18_3
                  try clear hcz21_0
                  try clear hcz21_1
                  try clear hcz21_2
                  try clear hcz21_3
                  try clear hcz23_0
                  try clear hcz23_1
                  try clear hcz23_2
                  try clear hcz23_3
                  try clear hcz8_0
                  try clear hcz8_1
                  try clear hfz10_0
                  try clear hfz10_1
                  try clear hfz18_0
                  try clear hfz18_1
                  try clear hfz18_2
                  try clear hfz18_3
                  try clear hfz21_0
                  try clear hfz21_1
                  try clear hfz21_2
                  try clear hfz21_3
                  try clear hfz23_0
                  try clear hfz23_1
                  try clear hfz23_2
                  try clear hfz23_3
                  try clear hfz8_0
                  try clear hfz8_1
                  try clear hx222_0
                  try clear hx222_1
                  try clear hx222_2
                  try clear hx222_3
                  try clear p2
                  try clear p222
                  try clear q222
                  obtain ⟨kq, x45_13, rfl, HA, HJ13, HO_4, BK221, BK223, HB⟩ := hcut
                  cases kq with
                  | zero => exact absurd HA.out (by simp [linotypelaw22_TokenParts.j2])
                  | succ kj13 =>
                    have H := HA.out
                    clear HA
                    simp only [linotypelaw22_TokenParts.j2] at H
                    by_cases c24 : x45_13 = true
                    · subst c24
                      have H1 : (some false) = some r := by rw [if_pos rfl] at H; exact H
                      clear H
                      have H := H1
                      clear H1
                      obtain rfl := Option.some.inj H
                      go_wp2
                      repeat (go_quiet (fail); try go_wp2)
                      go_ret
                      exact ⟨by first | rfl | (simp [errW_none, errW_some] <;> rfl) | (simp [*, errW_none, errW_some] <;> rfl), by repeat (first | (with_reducible first | exact HB.out | apply below_alloc | apply pw_below_drewN | apply below_drew1 | refine below_set ?_ GE221.out | refine below_set ?_ GE223.out) | exact HB.out)⟩
                    · replace c24 := Bool.eq_false_iff.mpr c24
                      subst c24
                      have H1 : (linotypelaw22_TokenParts.l1 kj13 a0 t215 t216 x7_2 x6_2 ((rd_T32 t216 x7_2).f0) ((rd_T32 t216 x7_2).f1) ((rd_T32 t216 x7_2).f2) ((rd_T32 t216 x7_2).f3)) = some r := by rw [if_neg (show ¬ (false = true) by decide)] at H; exact H
                      clear H
                      have H := H1
                      clear H1
                      have H' := Aside0.mk H
                      clear H
                      go_wp2
                      repeat (go_quiet (fail); try go_wp2)
                      go_loopg [9] kj13 (fun kq v9 w' => ∃ (x9_4 : Int), v9 = .int .i64 x9_4 ∧ Aside0 (linotypelaw22_TokenParts.l1 kq a0 t215 t216 x7_2 x9_4 ((rd_T32 t216 x7_2).f0) ((rd_T32 t216 x7_2).f1) ((rd_T32 t216 x7_2).f2) ((rd_T32 t216 x7_2).f3) = some r) ∧ Aside0 (kq ≤ kj13) ∧ Aside0 (Kd.R k32 32 w' w.heap.size (fun k_ => k_ ≠ gb223) (.slice (some ad222) t216.length co15) t216) ∧ Aside0 (w'.heap[gb221]? = some (.cells #[.int .i64 t219, .int .i64 t220] 27 (0, 0))) ∧ Aside0 (w'.heap[gb223]? = some (.cells #[.int .i64 ((rd_T32 t216 x7_2).f0), .int .i64 ((rd_T32 t216 x7_2).f1), .string ((rd_T32 t216 x7_2).f2), .int .i64 ((rd_T32 t216 x7_2).f3)] 32 (0, 0))) ∧ Aside0 (Below w.heap.size w w'))
                      case atStart => exact ⟨(x6_2), (by first | rfl | (simp; done) | (simp [*]; done)), H', ⟨Nat.le_refl _⟩, ⟨by (with_reducible repeat (first | apply Kd.R_alloc | apply Kd.R_drewN | apply Kd.R_drew)); exact HO_4.out⟩, ⟨by (with_reducible repeat (first | refine blk_drewN ?_ _ | refine blk_drew ?_ | refine blk_alloc ?_ _)); exact BK221.out⟩, ⟨by (with_reducible repeat (first | refine blk_drewN ?_ _ | refine blk_drew ?_ | refine blk_alloc ?_ _)); exact BK223.out⟩, ⟨by repeat (first | (with_reducible first | exact HB.out | apply below_alloc | apply pw_below_drewN | apply below_drew1 | refine below_set ?_ GE221.out | refine below_set ?_ GE223.out) | exact HB.out)⟩⟩
                      case round =>
                        clear H'
                        try clear c1
                        try clear c2
                        try clear p2
                        try clear q2
                        try clear hx2
                        try clear c4
                        try clear c9
                        try clear c9b0
                        try clear c9b1
                        try clear c11
                        try clear c12
                        try clear c12b0
                        try clear c13
                        try clear c13b0
                        try clear c17
                        try clear c19
                        try clear c19b0
                        try clear c20
                        try clear c22
                        try clear p22
                        try clear q22
                        try clear hx22
                        try clear c24
                        try clear hcz10_0
                        try clear hcz10_1
                        try clear hcz18_0
                        try clear hcz18_1
                        try clear hcz18_2
                        try clear hcz18_3
                        try clear hcz21_0
                        try clear hcz21_1
                        try clear hcz21_2
                        try clear hcz21_3
                        try clear hcz23_0
                        try clear hcz23_1
                        try clear hcz23_2
                        try clear hcz23_3
                        try clear hcz8_0
                        try clear hcz8_1
                        try clear hfz10_0
                        try clear hfz10_1
                        try clear hfz18_0
                        try clear hfz18_1
                        try clear hfz18_2
                        try clear hfz18_3
                        try clear hfz21_0
                        try clear hfz21_1
                        try clear hfz21_2
                        try clear hfz21_3
                        try clear hfz23_0
                        try clear hfz23_1
                        try clear hfz23_2
                        try clear hfz23_3
                        try clear hfz8_0
                        try clear hfz8_1
                        try clear hx222_0
                        try clear hx222_1
                        try clear hx222_2
                        try clear hx222_3
                        try clear p2
                        try clear p22
                        try clear p222
                        try clear q2
                        try clear q22
                        try clear q222
                        obtain ⟨x9_4, rfl, HA, HK4, HO_4, BK221, BK223, HB⟩ := hrel
                        cases gk with
                        | zero => exact absurd HA.out (by simp [linotypelaw22_TokenParts.l1])
                        | succ k4 =>
                          have H := HA.out
                          clear HA
                          simp only [linotypelaw22_TokenParts.l1] at H
                          by_cases c25 : x9_4 < ((rd_T32 t216 x7_2).f3)
                          · rw [if_pos c25] at H
                            have c25b0 : decide (x9_4 < ((rd_T32 t216 x7_2).f3)) = true := decide_eq_true c25
                            clear c25
                            by_cases c26 : ((rd_T32 t216 x7_2).f0) = 1
                            · rw [if_pos c26] at H
                              have c26b0 : (((rd_T32 t216 x7_2).f0) == 1) = true := beq_iff_eq.mpr c26
                              have c26b1 : (((rd_T32 t216 x7_2).f0) != 1) = false := bne_eq_false_iff_eq.mpr c26
                              clear c26
                              by_cases c27 : x7_2 = 0
                              · rw [if_pos c27] at H
                                have c27b0 : (x7_2 == 0) = true := beq_iff_eq.mpr c27
                                have c27b1 : (x7_2 != 0) = false := bne_eq_false_iff_eq.mpr c27
                                clear c27
                                by_cases c28 : 0 ≤ x9_4
                                · rw [if_pos c28] at H
                                  have c28b0 : decide (0 ≤ x9_4) = true := decide_eq_true c28
                                  clear c28
                                  by_cases c29 : x9_4 < (a0.size : Int)
                                  · rw [if_pos c29] at H
                                    have c29b0 : decide (x9_4 < (a0.size : Int)) = true := decide_eq_true c29
                                    clear c29
                                    by_cases c31 : (bt a0 x9_4) = 32
                                    · rw [if_pos c31] at H
                                      have c31b0 : ((bt a0 x9_4) == 32) = true := beq_iff_eq.mpr c31
                                      have c31b1 : ((bt a0 x9_4) != 32) = false := bne_eq_false_iff_eq.mpr c31
                                      clear c31
                                      have H' := Aside0.mk H
                                      clear H
                                      have hnb32 := NB223_221.out
                                      have hnc32 := NB221_223.out
                                      have hcz33_0 : wr.cell? ⟨gb223, 0, none⟩ = some (.int .i64 ((rd_T32 t216 x7_2).f0)) := (blk_cell BK223.out 0).trans rfl
                                      have hcz33_1 : wr.cell? ⟨gb223, 1, none⟩ = some (.int .i64 ((rd_T32 t216 x7_2).f1)) := (blk_cell BK223.out 1).trans rfl
                                      have hcz33_2 : wr.cell? ⟨gb223, 2, none⟩ = some (.string ((rd_T32 t216 x7_2).f2)) := (blk_cell BK223.out 2).trans rfl
                                      have hcz33_3 : wr.cell? ⟨gb223, 3, none⟩ = some (.int .i64 ((rd_T32 t216 x7_2).f3)) := (blk_cell BK223.out 3).trans rfl
                                      have hfz33_0 := blk_frozen BK223.out 0
                                      have hfz33_1 := blk_frozen BK223.out 1
                                      have hfz33_2 := blk_frozen BK223.out 2
                                      have hfz33_3 := blk_frozen BK223.out 3
                                      have p30 : 0 ≤ (x9_4 : Int) := of_decide_eq_true (by first | (with_reducible assumption) | assumption)
                                      have q30 : x9_4 < (a0.size : Int) := of_decide_eq_true (by first | (with_reducible assumption) | assumption)
                                      have hx30 := bt_at a0 x9_4
                                      replace p30 := eq_true p30
                                      replace q30 := eq_true q30
                                      go_wp2
                                      repeat (go_quiet (fail); try go_wp2)
                                      go_roundg k4
                                      case measure => have := HJ3.out; have := HK2.out; have := HJ13.out; have := HK4.out; omega
                                      case rel => exact ⟨(wrap64 (x9_4 + 1)), (by first | rfl | (simp; done) | (simp [*]; done)), H', ⟨by have := HJ3.out; have := HK2.out; have := HJ13.out; have := HK4.out; omega⟩, ⟨by (with_reducible repeat (first | apply Kd.R_alloc | apply Kd.R_drewN | apply Kd.R_drew)); exact HO_4.out⟩, ⟨by (with_reducible repeat (first | refine blk_drewN ?_ _ | refine blk_drew ?_ | refine blk_alloc ?_ _)); exact BK221.out⟩, ⟨by (with_reducible repeat (first | refine blk_drewN ?_ _ | refine blk_drew ?_ | refine blk_alloc ?_ _)); exact BK223.out⟩, ⟨by repeat (first | (with_reducible first | exact HB.out | apply below_alloc | apply pw_below_drewN | apply below_drew1 | refine below_set ?_ GE221.out | refine below_set ?_ GE223.out) | exact HB.out)⟩⟩
                                    · rw [if_neg c31] at H
                                      have c31b0 : ((bt a0 x9_4) == 32) = false := beq_eq_false_iff_ne.mpr c31
                                      have c31b1 : ((bt a0 x9_4) != 32) = true := bne_iff_ne.mpr c31
                                      by_cases c35 : (bt a0 x9_4) = 9
                                      · rw [if_pos c35] at H
                                        have c35b0 : ((bt a0 x9_4) == 9) = true := beq_iff_eq.mpr c35
                                        have c35b1 : ((bt a0 x9_4) != 9) = false := bne_eq_false_iff_eq.mpr c35
                                        clear c35
                                        have H' := Aside0.mk H
                                        clear H
                                        have hnb36 := NB223_221.out
                                        have hnc36 := NB221_223.out
                                        have hcz37_0 : wr.cell? ⟨gb223, 0, none⟩ = some (.int .i64 ((rd_T32 t216 x7_2).f0)) := (blk_cell BK223.out 0).trans rfl
                                        have hcz37_1 : wr.cell? ⟨gb223, 1, none⟩ = some (.int .i64 ((rd_T32 t216 x7_2).f1)) := (blk_cell BK223.out 1).trans rfl
                                        have hcz37_2 : wr.cell? ⟨gb223, 2, none⟩ = some (.string ((rd_T32 t216 x7_2).f2)) := (blk_cell BK223.out 2).trans rfl
                                        have hcz37_3 : wr.cell? ⟨gb223, 3, none⟩ = some (.int .i64 ((rd_T32 t216 x7_2).f3)) := (blk_cell BK223.out 3).trans rfl
                                        have hfz37_0 := blk_frozen BK223.out 0
                                        have hfz37_1 := blk_frozen BK223.out 1
                                        have hfz37_2 := blk_frozen BK223.out 2
                                        have hfz37_3 := blk_frozen BK223.out 3
                                        have p30 : 0 ≤ (x9_4 : Int) := of_decide_eq_true (by first | (with_reducible assumption) | assumption)
                                        have q30 : x9_4 < (a0.size : Int) := of_decide_eq_true (by first | (with_reducible assumption) | assumption)
                                        have hx30 := bt_at a0 x9_4
                                        replace p30 := eq_true p30
                                        replace q30 := eq_true q30
                                        have p34 : 0 ≤ (x9_4 : Int) := of_decide_eq_true (by first | (with_reducible assumption) | assumption)
                                        have q34 : x9_4 < (a0.size : Int) := of_decide_eq_true (by first | (with_reducible assumption) | assumption)
                                        have hx34 := bt_at a0 x9_4
                                        replace p34 := eq_true p34
                                        replace q34 := eq_true q34
                                        go_wp2
                                        repeat (go_quiet (fail); try go_wp2)
                                        go_roundg k4
                                        case measure => have := HJ3.out; have := HK2.out; have := HJ13.out; have := HK4.out; omega
                                        case rel => exact ⟨(wrap64 (x9_4 + 1)), (by first | rfl | (simp; done) | (simp [*]; done)), H', ⟨by have := HJ3.out; have := HK2.out; have := HJ13.out; have := HK4.out; omega⟩, ⟨by (with_reducible repeat (first | apply Kd.R_alloc | apply Kd.R_drewN | apply Kd.R_drew)); exact HO_4.out⟩, ⟨by (with_reducible repeat (first | refine blk_drewN ?_ _ | refine blk_drew ?_ | refine blk_alloc ?_ _)); exact BK221.out⟩, ⟨by (with_reducible repeat (first | refine blk_drewN ?_ _ | refine blk_drew ?_ | refine blk_alloc ?_ _)); exact BK223.out⟩, ⟨by repeat (first | (with_reducible first | exact HB.out | apply below_alloc | apply pw_below_drewN | apply below_drew1 | refine below_set ?_ GE221.out | refine below_set ?_ GE223.out) | exact HB.out)⟩⟩
                                      · rw [if_neg c35] at H
                                        have c35b0 : ((bt a0 x9_4) == 9) = false := beq_eq_false_iff_ne.mpr c35
                                        have c35b1 : ((bt a0 x9_4) != 9) = true := bne_iff_ne.mpr c35
                                        obtain rfl := Option.some.inj H
                                        have hnb38 := NB223_221.out
                                        have hnc38 := NB221_223.out
                                        have hcz39_0 : wr.cell? ⟨gb223, 0, none⟩ = some (.int .i64 ((rd_T32 t216 x7_2).f0)) := (blk_cell BK223.out 0).trans rfl
                                        have hcz39_1 : wr.cell? ⟨gb223, 1, none⟩ = some (.int .i64 ((rd_T32 t216 x7_2).f1)) := (blk_cell BK223.out 1).trans rfl
                                        have hcz39_2 : wr.cell? ⟨gb223, 2, none⟩ = some (.string ((rd_T32 t216 x7_2).f2)) := (blk_cell BK223.out 2).trans rfl
                                        have hcz39_3 : wr.cell? ⟨gb223, 3, none⟩ = some (.int .i64 ((rd_T32 t216 x7_2).f3)) := (blk_cell BK223.out 3).trans rfl
                                        have hfz39_0 := blk_frozen BK223.out 0
                                        have hfz39_1 := blk_frozen BK223.out 1
                                        have hfz39_2 := blk_frozen BK223.out 2
                                        have hfz39_3 := blk_frozen BK223.out 3
                                        have p30 : 0 ≤ (x9_4 : Int) := of_decide_eq_true (by first | (with_reducible assumption) | assumption)
                                        have q30 : x9_4 < (a0.size : Int) := of_decide_eq_true (by first | (with_reducible assumption) | assumption)
                                        have hx30 := bt_at a0 x9_4
                                        replace p30 := eq_true p30
                                        replace q30 := eq_true q30
                                        have p34 : 0 ≤ (x9_4 : Int) := of_decide_eq_true (by first | (with_reducible assumption) | assumption)
                                        have q34 : x9_4 < (a0.size : Int) := of_decide_eq_true (by first | (with_reducible assumption) | assumption)
                                        have hx34 := bt_at a0 x9_4
                                        replace p34 := eq_true p34
                                        replace q34 := eq_true q34
                                        go_wp2
                                        repeat (go_quiet (fail); try go_wp2)
                                        go_ret
                                        exact ⟨by first | rfl | (simp [errW_none, errW_some] <;> rfl) | (simp [*, errW_none, errW_some] <;> rfl), by repeat (first | (with_reducible first | exact HB.out | apply below_alloc | apply pw_below_drewN | apply below_drew1 | refine below_set ?_ GE221.out | refine below_set ?_ GE223.out) | exact HB.out)⟩
                                  · rw [if_neg c29] at H
                                    exact absurd H (by simp)
                                · rw [if_neg c28] at H
                                  exact absurd H (by simp)
                              · rw [if_neg c27] at H
                                have c27b0 : (x7_2 == 0) = false := beq_eq_false_iff_ne.mpr c27
                                have c27b1 : (x7_2 != 0) = true := bne_iff_ne.mpr c27
                                have H' := Aside0.mk H
                                clear H
                                have hnb40 := NB223_221.out
                                have hnc40 := NB221_223.out
                                have hcz41_0 : wr.cell? ⟨gb223, 0, none⟩ = some (.int .i64 ((rd_T32 t216 x7_2).f0)) := (blk_cell BK223.out 0).trans rfl
                                have hcz41_1 : wr.cell? ⟨gb223, 1, none⟩ = some (.int .i64 ((rd_T32 t216 x7_2).f1)) := (blk_cell BK223.out 1).trans rfl
                                have hcz41_2 : wr.cell? ⟨gb223, 2, none⟩ = some (.string ((rd_T32 t216 x7_2).f2)) := (blk_cell BK223.out 2).trans rfl
                                have hcz41_3 : wr.cell? ⟨gb223, 3, none⟩ = some (.int .i64 ((rd_T32 t216 x7_2).f3)) := (blk_cell BK223.out 3).trans rfl
                                have hfz41_0 := blk_frozen BK223.out 0
                                have hfz41_1 := blk_frozen BK223.out 1
                                have hfz41_2 := blk_frozen BK223.out 2
                                have hfz41_3 := blk_frozen BK223.out 3
                                go_wp2
                                repeat (go_quiet (fail); try go_wp2)
                                go_roundg k4
                                case measure => have := HJ3.out; have := HK2.out; have := HJ13.out; have := HK4.out; omega
                                case rel => exact ⟨(wrap64 (x9_4 + 1)), (by first | rfl | (simp; done) | (simp [*]; done)), H', ⟨by have := HJ3.out; have := HK2.out; have := HJ13.out; have := HK4.out; omega⟩, ⟨by (with_reducible repeat (first | apply Kd.R_alloc | apply Kd.R_drewN | apply Kd.R_drew)); exact HO_4.out⟩, ⟨by (with_reducible repeat (first | refine blk_drewN ?_ _ | refine blk_drew ?_ | refine blk_alloc ?_ _)); exact BK221.out⟩, ⟨by (with_reducible repeat (first | refine blk_drewN ?_ _ | refine blk_drew ?_ | refine blk_alloc ?_ _)); exact BK223.out⟩, ⟨by repeat (first | (with_reducible first | exact HB.out | apply below_alloc | apply pw_below_drewN | apply below_drew1 | refine below_set ?_ GE221.out | refine below_set ?_ GE223.out) | exact HB.out)⟩⟩
                            · rw [if_neg c26] at H
                              have c26b0 : (((rd_T32 t216 x7_2).f0) == 1) = false := beq_eq_false_iff_ne.mpr c26
                              have c26b1 : (((rd_T32 t216 x7_2).f0) != 1) = true := bne_iff_ne.mpr c26
                              by_cases c42 : ((rd_T32 t216 x7_2).f0) = 4
                              · rw [if_pos c42] at H
                                have c42b0 : (((rd_T32 t216 x7_2).f0) == 4) = true := beq_iff_eq.mpr c42
                                have c42b1 : (((rd_T32 t216 x7_2).f0) != 4) = false := bne_eq_false_iff_eq.mpr c42
                                clear c42
                                by_cases c43 : x7_2 = 0
                                · rw [if_pos c43] at H
                                  have c43b0 : (x7_2 == 0) = true := beq_iff_eq.mpr c43
                                  have c43b1 : (x7_2 != 0) = false := bne_eq_false_iff_eq.mpr c43
                                  clear c43
                                  by_cases c44 : 0 ≤ x9_4
                                  · rw [if_pos c44] at H
                                    have c44b0 : decide (0 ≤ x9_4) = true := decide_eq_true c44
                                    clear c44
                                    by_cases c45 : x9_4 < (a0.size : Int)
                                    · rw [if_pos c45] at H
                                      have c45b0 : decide (x9_4 < (a0.size : Int)) = true := decide_eq_true c45
                                      clear c45
                                      by_cases c47 : (bt a0 x9_4) = 32
                                      · rw [if_pos c47] at H
                                        have c47b0 : ((bt a0 x9_4) == 32) = true := beq_iff_eq.mpr c47
                                        have c47b1 : ((bt a0 x9_4) != 32) = false := bne_eq_false_iff_eq.mpr c47
                                        clear c47
                                        have H' := Aside0.mk H
                                        clear H
                                        have hnb48 := NB223_221.out
                                        have hnc48 := NB221_223.out
                                        have hcz49_0 : wr.cell? ⟨gb223, 0, none⟩ = some (.int .i64 ((rd_T32 t216 x7_2).f0)) := (blk_cell BK223.out 0).trans rfl
                                        have hcz49_1 : wr.cell? ⟨gb223, 1, none⟩ = some (.int .i64 ((rd_T32 t216 x7_2).f1)) := (blk_cell BK223.out 1).trans rfl
                                        have hcz49_2 : wr.cell? ⟨gb223, 2, none⟩ = some (.string ((rd_T32 t216 x7_2).f2)) := (blk_cell BK223.out 2).trans rfl
                                        have hcz49_3 : wr.cell? ⟨gb223, 3, none⟩ = some (.int .i64 ((rd_T32 t216 x7_2).f3)) := (blk_cell BK223.out 3).trans rfl
                                        have hfz49_0 := blk_frozen BK223.out 0
                                        have hfz49_1 := blk_frozen BK223.out 1
                                        have hfz49_2 := blk_frozen BK223.out 2
                                        have hfz49_3 := blk_frozen BK223.out 3
                                        have p46 : 0 ≤ (x9_4 : Int) := of_decide_eq_true (by first | (with_reducible assumption) | assumption)
                                        have q46 : x9_4 < (a0.size : Int) := of_decide_eq_true (by first | (with_reducible assumption) | assumption)
                                        have hx46 := bt_at a0 x9_4
                                        replace p46 := eq_true p46
                                        replace q46 := eq_true q46
                                        go_wp2
                                        repeat (go_quiet (fail); try go_wp2)
                                        go_roundg k4
                                        case measure => have := HJ3.out; have := HK2.out; have := HJ13.out; have := HK4.out; omega
                                        case rel => exact ⟨(wrap64 (x9_4 + 1)), (by first | rfl | (simp; done) | (simp [*]; done)), H', ⟨by have := HJ3.out; have := HK2.out; have := HJ13.out; have := HK4.out; omega⟩, ⟨by (with_reducible repeat (first | apply Kd.R_alloc | apply Kd.R_drewN | apply Kd.R_drew)); exact HO_4.out⟩, ⟨by (with_reducible repeat (first | refine blk_drewN ?_ _ | refine blk_drew ?_ | refine blk_alloc ?_ _)); exact BK221.out⟩, ⟨by (with_reducible repeat (first | refine blk_drewN ?_ _ | refine blk_drew ?_ | refine blk_alloc ?_ _)); exact BK223.out⟩, ⟨by repeat (first | (with_reducible first | exact HB.out | apply below_alloc | apply pw_below_drewN | apply below_drew1 | refine below_set ?_ GE221.out | refine below_set ?_ GE223.out) | exact HB.out)⟩⟩
                                      · rw [if_neg c47] at H
                                        have c47b0 : ((bt a0 x9_4) == 32) = false := beq_eq_false_iff_ne.mpr c47
                                        have c47b1 : ((bt a0 x9_4) != 32) = true := bne_iff_ne.mpr c47
                                        by_cases c51 : (bt a0 x9_4) = 9
                                        · rw [if_pos c51] at H
                                          have c51b0 : ((bt a0 x9_4) == 9) = true := beq_iff_eq.mpr c51
                                          have c51b1 : ((bt a0 x9_4) != 9) = false := bne_eq_false_iff_eq.mpr c51
                                          clear c51
                                          have H' := Aside0.mk H
                                          clear H
                                          have hnb52 := NB223_221.out
                                          have hnc52 := NB221_223.out
                                          have hcz53_0 : wr.cell? ⟨gb223, 0, none⟩ = some (.int .i64 ((rd_T32 t216 x7_2).f0)) := (blk_cell BK223.out 0).trans rfl
                                          have hcz53_1 : wr.cell? ⟨gb223, 1, none⟩ = some (.int .i64 ((rd_T32 t216 x7_2).f1)) := (blk_cell BK223.out 1).trans rfl
                                          have hcz53_2 : wr.cell? ⟨gb223, 2, none⟩ = some (.string ((rd_T32 t216 x7_2).f2)) := (blk_cell BK223.out 2).trans rfl
                                          have hcz53_3 : wr.cell? ⟨gb223, 3, none⟩ = some (.int .i64 ((rd_T32 t216 x7_2).f3)) := (blk_cell BK223.out 3).trans rfl
                                          have hfz53_0 := blk_frozen BK223.out 0
                                          have hfz53_1 := blk_frozen BK223.out 1
                                          have hfz53_2 := blk_frozen BK223.out 2
                                          have hfz53_3 := blk_frozen BK223.out 3
                                          have p46 : 0 ≤ (x9_4 : Int) := of_decide_eq_true (by first | (with_reducible assumption) | assumption)
                                          have q46 : x9_4 < (a0.size : Int) := of_decide_eq_true (by first | (with_reducible assumption) | assumption)
                                          have hx46 := bt_at a0 x9_4
                                          replace p46 := eq_true p46
                                          replace q46 := eq_true q46
                                          have p50 : 0 ≤ (x9_4 : Int) := of_decide_eq_true (by first | (with_reducible assumption) | assumption)
                                          have q50 : x9_4 < (a0.size : Int) := of_decide_eq_true (by first | (with_reducible assumption) | assumption)
                                          have hx50 := bt_at a0 x9_4
                                          replace p50 := eq_true p50
                                          replace q50 := eq_true q50
                                          go_wp2
                                          repeat (go_quiet (fail); try go_wp2)
                                          go_roundg k4
                                          case measure => have := HJ3.out; have := HK2.out; have := HJ13.out; have := HK4.out; omega
                                          case rel => exact ⟨(wrap64 (x9_4 + 1)), (by first | rfl | (simp; done) | (simp [*]; done)), H', ⟨by have := HJ3.out; have := HK2.out; have := HJ13.out; have := HK4.out; omega⟩, ⟨by (with_reducible repeat (first | apply Kd.R_alloc | apply Kd.R_drewN | apply Kd.R_drew)); exact HO_4.out⟩, ⟨by (with_reducible repeat (first | refine blk_drewN ?_ _ | refine blk_drew ?_ | refine blk_alloc ?_ _)); exact BK221.out⟩, ⟨by (with_reducible repeat (first | refine blk_drewN ?_ _ | refine blk_drew ?_ | refine blk_alloc ?_ _)); exact BK223.out⟩, ⟨by repeat (first | (with_reducible first | exact HB.out | apply below_alloc | apply pw_below_drewN | apply below_drew1 | refine below_set ?_ GE221.out | refine below_set ?_ GE223.out) | exact HB.out)⟩⟩
                                        · rw [if_neg c51] at H
                                          have c51b0 : ((bt a0 x9_4) == 9) = false := beq_eq_false_iff_ne.mpr c51
                                          have c51b1 : ((bt a0 x9_4) != 9) = true := bne_iff_ne.mpr c51
                                          obtain rfl := Option.some.inj H
                                          have hnb54 := NB223_221.out
                                          have hnc54 := NB221_223.out
                                          have hcz55_0 : wr.cell? ⟨gb223, 0, none⟩ = some (.int .i64 ((rd_T32 t216 x7_2).f0)) := (blk_cell BK223.out 0).trans rfl
                                          have hcz55_1 : wr.cell? ⟨gb223, 1, none⟩ = some (.int .i64 ((rd_T32 t216 x7_2).f1)) := (blk_cell BK223.out 1).trans rfl
                                          have hcz55_2 : wr.cell? ⟨gb223, 2, none⟩ = some (.string ((rd_T32 t216 x7_2).f2)) := (blk_cell BK223.out 2).trans rfl
                                          have hcz55_3 : wr.cell? ⟨gb223, 3, none⟩ = some (.int .i64 ((rd_T32 t216 x7_2).f3)) := (blk_cell BK223.out 3).trans rfl
                                          have hfz55_0 := blk_frozen BK223.out 0
                                          have hfz55_1 := blk_frozen BK223.out 1
                                          have hfz55_2 := blk_frozen BK223.out 2
                                          have hfz55_3 := blk_frozen BK223.out 3
                                          have p46 : 0 ≤ (x9_4 : Int) := of_decide_eq_true (by first | (with_reducible assumption) | assumption)
                                          have q46 : x9_4 < (a0.size : Int) := of_decide_eq_true (by first | (with_reducible assumption) | assumption)
                                          have hx46 := bt_at a0 x9_4
                                          replace p46 := eq_true p46
                                          replace q46 := eq_true q46
                                          have p50 : 0 ≤ (x9_4 : Int) := of_decide_eq_true (by first | (with_reducible assumption) | assumption)
                                          have q50 : x9_4 < (a0.size : Int) := of_decide_eq_true (by first | (with_reducible assumption) | assumption)
                                          have hx50 := bt_at a0 x9_4
                                          replace p50 := eq_true p50
                                          replace q50 := eq_true q50
                                          go_wp2
                                          repeat (go_quiet (fail); try go_wp2)
                                          go_ret
                                          exact ⟨by first | rfl | (simp [errW_none, errW_some] <;> rfl) | (simp [*, errW_none, errW_some] <;> rfl), by repeat (first | (with_reducible first | exact HB.out | apply below_alloc | apply pw_below_drewN | apply below_drew1 | refine below_set ?_ GE221.out | refine below_set ?_ GE223.out) | exact HB.out)⟩
                                    · rw [if_neg c45] at H
                                      exact absurd H (by simp)
                                  · rw [if_neg c44] at H
                                    exact absurd H (by simp)
                                · rw [if_neg c43] at H
                                  have c43b0 : (x7_2 == 0) = false := beq_eq_false_iff_ne.mpr c43
                                  have c43b1 : (x7_2 != 0) = true := bne_iff_ne.mpr c43
                                  have H' := Aside0.mk H
                                  clear H
                                  have hnb56 := NB223_221.out
                                  have hnc56 := NB221_223.out
                                  have hcz57_0 : wr.cell? ⟨gb223, 0, none⟩ = some (.int .i64 ((rd_T32 t216 x7_2).f0)) := (blk_cell BK223.out 0).trans rfl
                                  have hcz57_1 : wr.cell? ⟨gb223, 1, none⟩ = some (.int .i64 ((rd_T32 t216 x7_2).f1)) := (blk_cell BK223.out 1).trans rfl
                                  have hcz57_2 : wr.cell? ⟨gb223, 2, none⟩ = some (.string ((rd_T32 t216 x7_2).f2)) := (blk_cell BK223.out 2).trans rfl
                                  have hcz57_3 : wr.cell? ⟨gb223, 3, none⟩ = some (.int .i64 ((rd_T32 t216 x7_2).f3)) := (blk_cell BK223.out 3).trans rfl
                                  have hfz57_0 := blk_frozen BK223.out 0
                                  have hfz57_1 := blk_frozen BK223.out 1
                                  have hfz57_2 := blk_frozen BK223.out 2
                                  have hfz57_3 := blk_frozen BK223.out 3
                                  go_wp2
                                  repeat (go_quiet (fail); try go_wp2)
                                  go_roundg k4
                                  case measure => have := HJ3.out; have := HK2.out; have := HJ13.out; have := HK4.out; omega
                                  case rel => exact ⟨(wrap64 (x9_4 + 1)), (by first | rfl | (simp; done) | (simp [*]; done)), H', ⟨by have := HJ3.out; have := HK2.out; have := HJ13.out; have := HK4.out; omega⟩, ⟨by (with_reducible repeat (first | apply Kd.R_alloc | apply Kd.R_drewN | apply Kd.R_drew)); exact HO_4.out⟩, ⟨by (with_reducible repeat (first | refine blk_drewN ?_ _ | refine blk_drew ?_ | refine blk_alloc ?_ _)); exact BK221.out⟩, ⟨by (with_reducible repeat (first | refine blk_drewN ?_ _ | refine blk_drew ?_ | refine blk_alloc ?_ _)); exact BK223.out⟩, ⟨by repeat (first | (with_reducible first | exact HB.out | apply below_alloc | apply pw_below_drewN | apply below_drew1 | refine below_set ?_ GE221.out | refine below_set ?_ GE223.out) | exact HB.out)⟩⟩
                              · rw [if_neg c42] at H
                                have c42b0 : (((rd_T32 t216 x7_2).f0) == 4) = false := beq_eq_false_iff_ne.mpr c42
                                have c42b1 : (((rd_T32 t216 x7_2).f0) != 4) = true := bne_iff_ne.mpr c42
                                have H' := Aside0.mk H
                                clear H
                                have hnb58 := NB223_221.out
                                have hnc58 := NB221_223.out
                                have hcz59_0 : wr.cell? ⟨gb223, 0, none⟩ = some (.int .i64 ((rd_T32 t216 x7_2).f0)) := (blk_cell BK223.out 0).trans rfl
                                have hcz59_1 : wr.cell? ⟨gb223, 1, none⟩ = some (.int .i64 ((rd_T32 t216 x7_2).f1)) := (blk_cell BK223.out 1).trans rfl
                                have hcz59_2 : wr.cell? ⟨gb223, 2, none⟩ = some (.string ((rd_T32 t216 x7_2).f2)) := (blk_cell BK223.out 2).trans rfl
                                have hcz59_3 : wr.cell? ⟨gb223, 3, none⟩ = some (.int .i64 ((rd_T32 t216 x7_2).f3)) := (blk_cell BK223.out 3).trans rfl
                                have hfz59_0 := blk_frozen BK223.out 0
                                have hfz59_1 := blk_frozen BK223.out 1
                                have hfz59_2 := blk_frozen BK223.out 2
                                have hfz59_3 := blk_frozen BK223.out 3
                                go_wp2
                                repeat (go_quiet (fail); try go_wp2)
                                go_roundg k4
                                case measure => have := HJ3.out; have := HK2.out; have := HJ13.out; have := HK4.out; omega
                                case rel => exact ⟨(wrap64 (x9_4 + 1)), (by first | rfl | (simp; done) | (simp [*]; done)), H', ⟨by have := HJ3.out; have := HK2.out; have := HJ13.out; have := HK4.out; omega⟩, ⟨by (with_reducible repeat (first | apply Kd.R_alloc | apply Kd.R_drewN | apply Kd.R_drew)); exact HO_4.out⟩, ⟨by (with_reducible repeat (first | refine blk_drewN ?_ _ | refine blk_drew ?_ | refine blk_alloc ?_ _)); exact BK221.out⟩, ⟨by (with_reducible repeat (first | refine blk_drewN ?_ _ | refine blk_drew ?_ | refine blk_alloc ?_ _)); exact BK223.out⟩, ⟨by repeat (first | (with_reducible first | exact HB.out | apply below_alloc | apply pw_below_drewN | apply below_drew1 | refine below_set ?_ GE221.out | refine below_set ?_ GE223.out) | exact HB.out)⟩⟩
                          · rw [if_neg c25] at H
                            have c25b0 : decide (x9_4 < ((rd_T32 t216 x7_2).f3)) = false := decide_eq_false c25
                            clear c25
                            have HC60 := Aside0.mk H
                            clear H
                            have hnb61 := NB223_221.out
                            have hnc61 := NB221_223.out
                            have hcz62_0 : wr.cell? ⟨gb223, 0, none⟩ = some (.int .i64 ((rd_T32 t216 x7_2).f0)) := (blk_cell BK223.out 0).trans rfl
                            have hcz62_1 : wr.cell? ⟨gb223, 1, none⟩ = some (.int .i64 ((rd_T32 t216 x7_2).f1)) := (blk_cell BK223.out 1).trans rfl
                            have hcz62_2 : wr.cell? ⟨gb223, 2, none⟩ = some (.string ((rd_T32 t216 x7_2).f2)) := (blk_cell BK223.out 2).trans rfl
                            have hcz62_3 : wr.cell? ⟨gb223, 3, none⟩ = some (.int .i64 ((rd_T32 t216 x7_2).f3)) := (blk_cell BK223.out 3).trans rfl
                            have hfz62_0 := blk_frozen BK223.out 0
                            have hfz62_1 := blk_frozen BK223.out 1
                            have hfz62_2 := blk_frozen BK223.out 2
                            have hfz62_3 := blk_frozen BK223.out 3
                            go_upto_region 17 with (fail)
                            repeat (go_quiet (fail); go_upto_region 17 with (fail))
                            go_cut [84] (fun v84 wc => ∃ (kq : Nat) (x84_59 : Bool), v84 = .bool x84_59 ∧ Aside0 (linotypelaw22_TokenParts.j4 kq a0 t215 t216 x7_2 x84_59 ((rd_T32 t216 x7_2).f0) ((rd_T32 t216 x7_2).f1) ((rd_T32 t216 x7_2).f2) ((rd_T32 t216 x7_2).f3) = some r) ∧ Aside0 (kq ≤ k4) ∧ Aside0 (Kd.R k32 32 wc w.heap.size (fun k_ => k_ ≠ gb223) (.slice (some ad222) t216.length co15) t216) ∧ Aside0 (wc.heap[gb221]? = some (.cells #[.int .i64 t219, .int .i64 t220] 27 (0, 0))) ∧ Aside0 (wc.heap[gb223]? = some (.cells #[.int .i64 ((rd_T32 t216 x7_2).f0), .int .i64 ((rd_T32 t216 x7_2).f1), .string ((rd_T32 t216 x7_2).f2), .int .i64 ((rd_T32 t216 x7_2).f3)] 32 (0, 0))) ∧ Aside0 (Below w.heap.size w wc))
                            case first =>
                              have H := HC60.out
                              clear HC60
                              by_cases c63 : ((rd_T32 t216 x7_2).f0) = 1
                              · rw [if_pos c63] at H
                                have c63b0 : (((rd_T32 t216 x7_2).f0) == 1) = true := beq_iff_eq.mpr c63
                                have c63b1 : (((rd_T32 t216 x7_2).f0) != 1) = false := bne_eq_false_iff_eq.mpr c63
                                clear c63
                                (first | rw [c63b0] | (simp only [i64_w, i32_w]; rw [c63b0]) | skip)
                                have H' := Aside0.mk H
                                clear H
                                have hnb64 := NB223_221.out
                                have hnc64 := NB221_223.out
                                have hcz65_0 : wr.cell? ⟨gb223, 0, none⟩ = some (.int .i64 ((rd_T32 t216 x7_2).f0)) := (blk_cell BK223.out 0).trans rfl
                                have hcz65_1 : wr.cell? ⟨gb223, 1, none⟩ = some (.int .i64 ((rd_T32 t216 x7_2).f1)) := (blk_cell BK223.out 1).trans rfl
                                have hcz65_2 : wr.cell? ⟨gb223, 2, none⟩ = some (.string ((rd_T32 t216 x7_2).f2)) := (blk_cell BK223.out 2).trans rfl
                                have hcz65_3 : wr.cell? ⟨gb223, 3, none⟩ = some (.int .i64 ((rd_T32 t216 x7_2).f3)) := (blk_cell BK223.out 3).trans rfl
                                have hfz65_0 := blk_frozen BK223.out 0
                                have hfz65_1 := blk_frozen BK223.out 1
                                have hfz65_2 := blk_frozen BK223.out 2
                                have hfz65_3 := blk_frozen BK223.out 3
                                go_wp2
                                repeat (go_quiet (fail); try go_wp2)
                                go_meet
                                case rel => exact ⟨_, (true), (by first | rfl | (simp; done) | (simp [*]; done)), H', ⟨by have := HJ3.out; have := HK2.out; have := HJ13.out; have := HK4.out; first | omega | exact Nat.le_refl _⟩, ⟨by (with_reducible repeat (first | apply Kd.R_alloc | apply Kd.R_drewN | apply Kd.R_drew)); exact HO_4.out⟩, ⟨by (with_reducible repeat (first | refine blk_drewN ?_ _ | refine blk_drew ?_ | refine blk_alloc ?_ _)); exact BK221.out⟩, ⟨by (with_reducible repeat (first | refine blk_drewN ?_ _ | refine blk_drew ?_ | refine blk_alloc ?_ _)); exact BK223.out⟩, ⟨by repeat (first | (with_reducible first | exact HB.out | apply below_alloc | apply pw_below_drewN | apply below_drew1 | refine below_set ?_ GE221.out | refine below_set ?_ GE223.out) | exact HB.out)⟩⟩
                              · rw [if_neg c63] at H
                                have c63b0 : (((rd_T32 t216 x7_2).f0) == 1) = false := beq_eq_false_iff_ne.mpr c63
                                have c63b1 : (((rd_T32 t216 x7_2).f0) != 1) = true := bne_iff_ne.mpr c63
                                (first | rw [c63b0] | (simp only [i64_w, i32_w]; rw [c63b0]) | skip)
                                have H' := Aside0.mk H
                                clear H
                                have hnb66 := NB223_221.out
                                have hnc66 := NB221_223.out
                                have hcz67_0 : wr.cell? ⟨gb223, 0, none⟩ = some (.int .i64 ((rd_T32 t216 x7_2).f0)) := (blk_cell BK223.out 0).trans rfl
                                have hcz67_1 : wr.cell? ⟨gb223, 1, none⟩ = some (.int .i64 ((rd_T32 t216 x7_2).f1)) := (blk_cell BK223.out 1).trans rfl
                                have hcz67_2 : wr.cell? ⟨gb223, 2, none⟩ = some (.string ((rd_T32 t216 x7_2).f2)) := (blk_cell BK223.out 2).trans rfl
                                have hcz67_3 : wr.cell? ⟨gb223, 3, none⟩ = some (.int .i64 ((rd_T32 t216 x7_2).f3)) := (blk_cell BK223.out 3).trans rfl
                                have hfz67_0 := blk_frozen BK223.out 0
                                have hfz67_1 := blk_frozen BK223.out 1
                                have hfz67_2 := blk_frozen BK223.out 2
                                have hfz67_3 := blk_frozen BK223.out 3
                                go_wp2
                                repeat (go_quiet (fail); try go_wp2)
                                go_meet
                                case rel => exact ⟨_, ((((rd_T32 t216 x7_2).f0) == 4)), (by first | rfl | (simp; done) | (simp [*]; done)), H', ⟨by have := HJ3.out; have := HK2.out; have := HJ13.out; have := HK4.out; first | omega | exact Nat.le_refl _⟩, ⟨by (with_reducible repeat (first | apply Kd.R_alloc | apply Kd.R_drewN | apply Kd.R_drew)); exact HO_4.out⟩, ⟨by (with_reducible repeat (first | refine blk_drewN ?_ _ | refine blk_drew ?_ | refine blk_alloc ?_ _)); exact BK221.out⟩, ⟨by (with_reducible repeat (first | refine blk_drewN ?_ _ | refine blk_drew ?_ | refine blk_alloc ?_ _)); exact BK223.out⟩, ⟨by repeat (first | (with_reducible first | exact HB.out | apply below_alloc | apply pw_below_drewN | apply below_drew1 | refine below_set ?_ GE221.out | refine below_set ?_ GE223.out) | exact HB.out)⟩⟩
                            case rest =>
                              clear HC60
                              try clear c1
                              try clear c2
                              try clear p2
                              try clear q2
                              try clear hx2
                              try clear c3
                              try clear p3
                              try clear q3
                              try clear hx3
                              try clear c4
                              try clear p4
                              try clear q4
                              try clear hx4
                              try clear c5
                              try clear p5
                              try clear q5
                              try clear hx5
                              try clear c6
                              try clear p6
                              try clear c9
                              try clear c9b0
                              try clear c9b1
                              try clear c11
                              try clear c12
                              try clear c12b0
                              try clear c13
                              try clear c13b0
                              try clear c17
                              try clear c19
                              try clear c19b0
                              try clear c20
                              try clear c22
                              try clear p22
                              try clear q22
                              try clear hx22
                              try clear c24
                              try clear c25
                              try clear c25b0
                              try clear c26
                              try clear c26b0
                              try clear c26b1
                              try clear c27
                              try clear c27b0
                              try clear c27b1
                              try clear c28
                              try clear c28b0
                              try clear c29
                              try clear c29b0
                              try clear p30
                              try clear q30
                              try clear hx30
                              try clear c31
                              try clear c31b0
                              try clear c31b1
                              try clear c32
                              try clear p34
                              try clear q34
                              try clear hx34
                              try clear c35
                              try clear c35b0
                              try clear c35b1
                              try clear c36
                              try clear c38
                              try clear c40
                              try clear c42
                              try clear c42b0
                              try clear c42b1
                              try clear c43
                              try clear c43b0
                              try clear c43b1
                              try clear c44
                              try clear c44b0
                              try clear c45
                              try clear c45b0
                              try clear p46
                              try clear q46
                              try clear hx46
                              try clear c47
                              try clear c47b0
                              try clear c47b1
                              try clear c48
                              try clear p50
                              try clear q50
                              try clear hx50
                              try clear c51
                              try clear c51b0
                              try clear c51b1
                              try clear c52
                              try clear c54
                              try clear c56
                              try clear c58
                              try clear c61
                              try clear c63
                              try clear c63b0
                              try clear c63b1
                              try clear c64
                              try clear p64
                              try clear c66
                              try clear hcz10_0
                              try clear hcz10_1
                              try clear hcz18_0
                              try clear hcz18_1
                              try clear hcz18_2
                              try clear hcz18_3
                              try clear hcz21_0
                              try clear hcz21_1
                              try clear hcz21_2
                              try clear hcz21_3
                              try clear hcz23_0
                              try clear hcz23_1
                              try clear hcz23_2
                              try clear hcz23_3
                              try clear hcz33_0
                              try clear hcz33_1
                              try clear hcz33_2
                              try clear hcz33_3
                              try clear hcz37_0
                              try clear hcz37_1
                              try clear hcz37_2
                              try clear hcz37_3
                              try clear hcz39_0
                              try clear hcz39_1
                              try clear hcz39_2
                              try clear hcz39_3
                              try clear hcz41_0
                              try clear hcz41_1
                              try clear hcz41_2
                              try clear hcz41_3
                              try clear hcz49_0
                              try clear hcz49_1
                              try clear hcz49_2
                              try clear hcz49_3
                              try clear hcz53_0
                              try clear hcz53_1
                              try clear hcz53_2
                              try clear hcz53_3
                              try clear hcz55_0
                              try clear hcz55_1
                              try clear hcz55_2
                              try clear hcz55_3
                              try clear hcz57_0
                              try clear hcz57_1
                              try clear hcz57_2
                              try clear hcz57_3
                              try clear hcz59_0
                              try clear hcz59_1
                              try clear hcz59_2
                              try clear hcz59_3
                              try clear hcz62_0
                              try clear hcz62_1
                              try clear hcz62_2
                              try clear hcz62_3
                              try clear hcz65_0
                              try clear hcz65_1
                              try clear hcz65_2
                              try clear hcz65_3
                              try clear hcz67_0
                              try clear hcz67_1
                              try clear hcz67_2
                              try clear hcz67_3
                              try clear hcz8_0
                              try clear hcz8_1
                              try clear hfz10_0
                              try clear hfz10_1
                              try clear hfz18_0
                              try clear hfz18_1
                              try clear hfz18_2
                              try clear hfz18_3
                              try clear hfz21_0
                              try clear hfz21_1
                              try clear hfz21_2
                              try clear hfz21_3
                              try clear hfz23_0
                              try clear hfz23_1
                              try clear hfz23_2
                              try clear hfz23_3
                              try clear hfz33_0
                              try clear hfz33_1
                              try clear hfz33_2
                              try clear hfz33_3
                              try clear hfz37_0
                              try clear hfz37_1
                              try clear hfz37_2
                              try clear hfz37_3
                              try clear hfz39_0
                              try clear hfz39_1
                              try clear hfz39_2
                              try clear hfz39_3
                              try clear hfz41_0
                              try clear hfz41_1
                              try clear hfz41_2
                              try clear hfz41_3
                              try clear hfz49_0
                              try clear hfz49_1
                              try clear hfz49_2
                              try clear hfz49_3
                              try clear hfz53_0
                              try clear hfz53_1
                              try clear hfz53_2
                              try clear hfz53_3
                              try clear hfz55_0
                              try clear hfz55_1
                              try clear hfz55_2
                              try clear hfz55_3
                              try clear hfz57_0
                              try clear hfz57_1
                              try clear hfz57_2
                              try clear hfz57_3
                              try clear hfz59_0
                              try clear hfz59_1
                              try clear hfz59_2
                              try clear hfz59_3
                              try clear hfz62_0
                              try clear hfz62_1
                              try clear hfz62_2
                              try clear hfz62_3
                              try clear hfz65_0
                              try clear hfz65_1
                              try clear hfz65_2
                              try clear hfz65_3
                              try clear hfz67_0
                              try clear hfz67_1
                              try clear hfz67_2
                              try clear hfz67_3
                              try clear hfz8_0
                              try clear hfz8_1
                              try clear hx222_0
                              try clear hx222_1
                              try clear hx222_2
                              try clear hx222_3
                              try clear p2
                              try clear p22
                              try clear p222
                              try clear p30
                              try clear p34
                              try clear p46
                              try clear p50
                              try clear q2
                              try clear q22
                              try clear q222
                              try clear q30
                              try clear q34
                              try clear q46
                              try clear q50
                              obtain ⟨kq, x84_59, rfl, HA, HJ59, HO_4, BK221, BK223, HB⟩ := hcut
                              cases kq with
                              | zero => exact absurd HA.out (by simp [linotypelaw22_TokenParts.j4])
                              | succ kj59 =>
                                have H := HA.out
                                clear HA
                                simp only [linotypelaw22_TokenParts.j4] at H
                                by_cases c68 : x84_59 = true
                                · subst c68
                                  have H1 : (if (wrap64 (((rd_T32 t216 x7_2).f3) + (((rd_T32 t216 x7_2).f2).size : Int))) > (a0.size : Int) then (some false) else (if 0 ≤ ((rd_T32 t216 x7_2).f3) then (if ((rd_T32 t216 x7_2).f3) ≤ (wrap64 (((rd_T32 t216 x7_2).f3) + (((rd_T32 t216 x7_2).f2).size : Int))) then (if (wrap64 (((rd_T32 t216 x7_2).f3) + (((rd_T32 t216 x7_2).f2).size : Int))) ≤ (a0.size : Int) then (if (a0.extract (((rd_T32 t216 x7_2).f3) : Int).toNat ((wrap64 (((rd_T32 t216 x7_2).f3) + (((rd_T32 t216 x7_2).f2).size : Int))) : Int).toNat).toList = ((rd_T32 t216 x7_2).f2).toList then (if ((rd_T32 t216 x7_2).f2).toList = ([] : List UInt8) then (some false) else (linotypelaw22_TokenParts.l0 kj59 a0 t215 t216 (wrap64 (((rd_T32 t216 x7_2).f3) + (mx (((rd_T32 t216 x7_2).f2).size : Int) 1))) (wrap64 (x7_2 + 1)))) else (some false)) else (none)) else (none)) else (none))) = some r := by rw [if_pos rfl] at H; exact H
                                  clear H
                                  have H := H1
                                  clear H1
                                  by_cases c69 : (wrap64 (((rd_T32 t216 x7_2).f3) + (((rd_T32 t216 x7_2).f2).size : Int))) > (a0.size : Int)
                                  · rw [if_pos c69] at H
                                    have c69b0 : decide ((a0.size : Int) < (wrap64 (((rd_T32 t216 x7_2).f3) + (((rd_T32 t216 x7_2).f2).size : Int)))) = true := decide_eq_true c69
                                    clear c69
                                    obtain rfl := Option.some.inj H
                                    have hnb70 := NB223_221.out
                                    have hnc70 := NB221_223.out
                                    have hcz71_0 : wc.cell? ⟨gb223, 0, none⟩ = some (.int .i64 ((rd_T32 t216 x7_2).f0)) := (blk_cell BK223.out 0).trans rfl
                                    have hcz71_1 : wc.cell? ⟨gb223, 1, none⟩ = some (.int .i64 ((rd_T32 t216 x7_2).f1)) := (blk_cell BK223.out 1).trans rfl
                                    have hcz71_2 : wc.cell? ⟨gb223, 2, none⟩ = some (.string ((rd_T32 t216 x7_2).f2)) := (blk_cell BK223.out 2).trans rfl
                                    have hcz71_3 : wc.cell? ⟨gb223, 3, none⟩ = some (.int .i64 ((rd_T32 t216 x7_2).f3)) := (blk_cell BK223.out 3).trans rfl
                                    have hfz71_0 := blk_frozen BK223.out 0
                                    have hfz71_1 := blk_frozen BK223.out 1
                                    have hfz71_2 := blk_frozen BK223.out 2
                                    have hfz71_3 := blk_frozen BK223.out 3
                                    go_wp2
                                    repeat (go_quiet (fail); try go_wp2)
                                    go_ret
                                    exact ⟨by first | rfl | (simp [errW_none, errW_some] <;> rfl) | (simp [*, errW_none, errW_some] <;> rfl), by repeat (first | (with_reducible first | exact HB.out | apply below_alloc | apply pw_below_drewN | apply below_drew1 | refine below_set ?_ GE221.out | refine below_set ?_ GE223.out) | exact HB.out)⟩
                                  · rw [if_neg c69] at H
                                    have c69b0 : decide ((a0.size : Int) < (wrap64 (((rd_T32 t216 x7_2).f3) + (((rd_T32 t216 x7_2).f2).size : Int)))) = false := decide_eq_false c69
                                    clear c69
                                    by_cases c72 : 0 ≤ ((rd_T32 t216 x7_2).f3)
                                    · rw [if_pos c72] at H
                                      have c72b0 := eq_true c72
                                      have c72b1 : decide (0 ≤ ((rd_T32 t216 x7_2).f3)) = true := decide_eq_true c72
                                      clear c72
                                      by_cases c73 : ((rd_T32 t216 x7_2).f3) ≤ (wrap64 (((rd_T32 t216 x7_2).f3) + (((rd_T32 t216 x7_2).f2).size : Int)))
                                      · rw [if_pos c73] at H
                                        have c73b0 := eq_true c73
                                        have c73b1 : decide (((rd_T32 t216 x7_2).f3) ≤ (wrap64 (((rd_T32 t216 x7_2).f3) + (((rd_T32 t216 x7_2).f2).size : Int)))) = true := decide_eq_true c73
                                        by_cases c74 : (wrap64 (((rd_T32 t216 x7_2).f3) + (((rd_T32 t216 x7_2).f2).size : Int))) ≤ (a0.size : Int)
                                        · rw [if_pos c74] at H
                                          have c74b0 := eq_true c74
                                          have c74b1 : decide ((wrap64 (((rd_T32 t216 x7_2).f3) + (((rd_T32 t216 x7_2).f2).size : Int))) ≤ (a0.size : Int)) = true := decide_eq_true c74
                                          by_cases c75 : (a0.extract (((rd_T32 t216 x7_2).f3) : Int).toNat ((wrap64 (((rd_T32 t216 x7_2).f3) + (((rd_T32 t216 x7_2).f2).size : Int))) : Int).toNat).toList = ((rd_T32 t216 x7_2).f2).toList
                                          · rw [if_pos c75] at H
                                            have c75b0 : ((a0.extract (((rd_T32 t216 x7_2).f3) : Int).toNat ((wrap64 (((rd_T32 t216 x7_2).f3) + (((rd_T32 t216 x7_2).f2).size : Int))) : Int).toNat).toList == ((rd_T32 t216 x7_2).f2).toList) = true := beq_iff_eq.mpr c75
                                            have c75b1 : ((a0.extract (((rd_T32 t216 x7_2).f3) : Int).toNat ((wrap64 (((rd_T32 t216 x7_2).f3) + (((rd_T32 t216 x7_2).f2).size : Int))) : Int).toNat).toList != ((rd_T32 t216 x7_2).f2).toList) = false := bne_eq_false_iff_eq.mpr c75
                                            clear c75
                                            by_cases c76 : ((rd_T32 t216 x7_2).f2).toList = ([] : List UInt8)
                                            · rw [if_pos c76] at H
                                              have c76b0 : (((rd_T32 t216 x7_2).f2).toList == ([] : List UInt8)) = true := beq_iff_eq.mpr c76
                                              have c76b1 : (((rd_T32 t216 x7_2).f2).toList != ([] : List UInt8)) = false := bne_eq_false_iff_eq.mpr c76
                                              clear c76
                                              obtain rfl := Option.some.inj H
                                              have hnb77 := NB223_221.out
                                              have hnc77 := NB221_223.out
                                              have hcz78_0 : wc.cell? ⟨gb223, 0, none⟩ = some (.int .i64 ((rd_T32 t216 x7_2).f0)) := (blk_cell BK223.out 0).trans rfl
                                              have hcz78_1 : wc.cell? ⟨gb223, 1, none⟩ = some (.int .i64 ((rd_T32 t216 x7_2).f1)) := (blk_cell BK223.out 1).trans rfl
                                              have hcz78_2 : wc.cell? ⟨gb223, 2, none⟩ = some (.string ((rd_T32 t216 x7_2).f2)) := (blk_cell BK223.out 2).trans rfl
                                              have hcz78_3 : wc.cell? ⟨gb223, 3, none⟩ = some (.int .i64 ((rd_T32 t216 x7_2).f3)) := (blk_cell BK223.out 3).trans rfl
                                              have hfz78_0 := blk_frozen BK223.out 0
                                              have hfz78_1 := blk_frozen BK223.out 1
                                              have hfz78_2 := blk_frozen BK223.out 2
                                              have hfz78_3 := blk_frozen BK223.out 3
                                              go_wp2
                                              repeat (go_quiet (fail); try go_wp2)
                                              go_ret
                                              exact ⟨by first | rfl | (simp [errW_none, errW_some] <;> rfl) | (simp [*, errW_none, errW_some] <;> rfl), by repeat (first | (with_reducible first | exact HB.out | apply below_alloc | apply pw_below_drewN | apply below_drew1 | refine below_set ?_ GE221.out | refine below_set ?_ GE223.out) | exact HB.out)⟩
                                            · rw [if_neg c76] at H
                                              have c76b0 : (((rd_T32 t216 x7_2).f2).toList == ([] : List UInt8)) = false := beq_eq_false_iff_ne.mpr c76
                                              have c76b1 : (((rd_T32 t216 x7_2).f2).toList != ([] : List UInt8)) = true := bne_iff_ne.mpr c76
                                              obtain ⟨ji79, hji79⟩ : ∃ j_ : Int, (mx (((rd_T32 t216 x7_2).f2).size : Int) 1) = j_ := ⟨_, rfl⟩
                                              replace H : (linotypelaw22_TokenParts.l0 kj59 a0 t215 t216 (wrap64 (((rd_T32 t216 x7_2).f3) + (ji79))) (wrap64 (x7_2 + 1))) = some r := by first | (rw [hji79] at H; exact H) | (simp only [hji79] at H ⊢; exact H)
                                              have hji79_ : (if (((rd_T32 t216 x7_2).f2).size : Int) < 1 then 1 else (((rd_T32 t216 x7_2).f2).size : Int)) = ji79 := hji79
                                              have H' := Aside0.mk H
                                              clear H
                                              have hnb80 := NB223_221.out
                                              have hnc80 := NB221_223.out
                                              have hcz81_0 : wc.cell? ⟨gb223, 0, none⟩ = some (.int .i64 ((rd_T32 t216 x7_2).f0)) := (blk_cell BK223.out 0).trans rfl
                                              have hcz81_1 : wc.cell? ⟨gb223, 1, none⟩ = some (.int .i64 ((rd_T32 t216 x7_2).f1)) := (blk_cell BK223.out 1).trans rfl
                                              have hcz81_2 : wc.cell? ⟨gb223, 2, none⟩ = some (.string ((rd_T32 t216 x7_2).f2)) := (blk_cell BK223.out 2).trans rfl
                                              have hcz81_3 : wc.cell? ⟨gb223, 3, none⟩ = some (.int .i64 ((rd_T32 t216 x7_2).f3)) := (blk_cell BK223.out 3).trans rfl
                                              have hfz81_0 := blk_frozen BK223.out 0
                                              have hfz81_1 := blk_frozen BK223.out 1
                                              have hfz81_2 := blk_frozen BK223.out 2
                                              have hfz81_3 := blk_frozen BK223.out 3
                                              go_wp2
                                              repeat (go_quiet (fail); try go_wp2)
                                              go_roundg kj59
                                              case measure => have := HJ3.out; have := HK2.out; have := HJ13.out; have := HK4.out; have := HJ59.out; omega
                                              case rel => exact ⟨(wrap64 (((rd_T32 t216 x7_2).f3) + (ji79))), (wrap64 (x7_2 + 1)), (by first | rfl | (simp; done) | (simp only [← hji79] <;> (first | rfl | simp)) | (simp [*]; done)), (by first | rfl | (simp; done) | (simp [*]; done)), H', ⟨by have := HJ3.out; have := HK2.out; have := HJ13.out; have := HK4.out; have := HJ59.out; omega⟩, ⟨by (with_reducible repeat (first | apply Kd.R_alloc | apply Kd.R_drewN | apply Kd.R_drew)); exact Kd.R_mono HO_4.out (fun _ hk => trivial)⟩, ⟨by (with_reducible repeat (first | refine blk_drewN ?_ _ | refine blk_drew ?_ | refine blk_alloc ?_ _)); exact BK221.out⟩, ⟨by repeat (first | (with_reducible first | exact HB.out | apply below_alloc | apply pw_below_drewN | apply below_drew1 | refine below_set ?_ GE221.out | refine below_set ?_ GE223.out) | exact HB.out)⟩⟩
                                          · rw [if_neg c75] at H
                                            have c75b0 : ((a0.extract (((rd_T32 t216 x7_2).f3) : Int).toNat ((wrap64 (((rd_T32 t216 x7_2).f3) + (((rd_T32 t216 x7_2).f2).size : Int))) : Int).toNat).toList == ((rd_T32 t216 x7_2).f2).toList) = false := beq_eq_false_iff_ne.mpr c75
                                            have c75b1 : ((a0.extract (((rd_T32 t216 x7_2).f3) : Int).toNat ((wrap64 (((rd_T32 t216 x7_2).f3) + (((rd_T32 t216 x7_2).f2).size : Int))) : Int).toNat).toList != ((rd_T32 t216 x7_2).f2).toList) = true := bne_iff_ne.mpr c75
                                            obtain rfl := Option.some.inj H
                                            have hnb82 := NB223_221.out
                                            have hnc82 := NB221_223.out
                                            have hcz83_0 : wc.cell? ⟨gb223, 0, none⟩ = some (.int .i64 ((rd_T32 t216 x7_2).f0)) := (blk_cell BK223.out 0).trans rfl
                                            have hcz83_1 : wc.cell? ⟨gb223, 1, none⟩ = some (.int .i64 ((rd_T32 t216 x7_2).f1)) := (blk_cell BK223.out 1).trans rfl
                                            have hcz83_2 : wc.cell? ⟨gb223, 2, none⟩ = some (.string ((rd_T32 t216 x7_2).f2)) := (blk_cell BK223.out 2).trans rfl
                                            have hcz83_3 : wc.cell? ⟨gb223, 3, none⟩ = some (.int .i64 ((rd_T32 t216 x7_2).f3)) := (blk_cell BK223.out 3).trans rfl
                                            have hfz83_0 := blk_frozen BK223.out 0
                                            have hfz83_1 := blk_frozen BK223.out 1
                                            have hfz83_2 := blk_frozen BK223.out 2
                                            have hfz83_3 := blk_frozen BK223.out 3
                                            go_wp2
                                            repeat (go_quiet (fail); try go_wp2)
                                            go_ret
                                            exact ⟨by first | rfl | (simp [errW_none, errW_some] <;> rfl) | (simp [*, errW_none, errW_some] <;> rfl), by repeat (first | (with_reducible first | exact HB.out | apply below_alloc | apply pw_below_drewN | apply below_drew1 | refine below_set ?_ GE221.out | refine below_set ?_ GE223.out) | exact HB.out)⟩
                                        · rw [if_neg c74] at H
                                          exact absurd H (by simp)
                                      · rw [if_neg c73] at H
                                        exact absurd H (by simp)
                                    · rw [if_neg c72] at H
                                      exact absurd H (by simp)
                                · replace c68 := Bool.eq_false_iff.mpr c68
                                  subst c68
                                  have H1 : (linotypelaw22_TokenParts.l0 kj59 a0 t215 t216 (wrap64 (((rd_T32 t216 x7_2).f3) + (mx (((rd_T32 t216 x7_2).f2).size : Int) 1))) (wrap64 (x7_2 + 1))) = some r := by rw [if_neg (show ¬ (false = true) by decide)] at H; exact H
                                  clear H
                                  have H := H1
                                  clear H1
                                  obtain ⟨ji84, hji84⟩ : ∃ j_ : Int, (mx (((rd_T32 t216 x7_2).f2).size : Int) 1) = j_ := ⟨_, rfl⟩
                                  replace H : (linotypelaw22_TokenParts.l0 kj59 a0 t215 t216 (wrap64 (((rd_T32 t216 x7_2).f3) + (ji84))) (wrap64 (x7_2 + 1))) = some r := by first | (rw [hji84] at H; exact H) | (simp only [hji84] at H ⊢; exact H)
                                  have hji84_ : (if (((rd_T32 t216 x7_2).f2).size : Int) < 1 then 1 else (((rd_T32 t216 x7_2).f2).size : Int)) = ji84 := hji84
                                  have H' := Aside0.mk H
                                  clear H
                                  have hnb85 := NB223_221.out
                                  have hnc85 := NB221_223.out
                                  have hcz86_0 : wc.cell? ⟨gb223, 0, none⟩ = some (.int .i64 ((rd_T32 t216 x7_2).f0)) := (blk_cell BK223.out 0).trans rfl
                                  have hcz86_1 : wc.cell? ⟨gb223, 1, none⟩ = some (.int .i64 ((rd_T32 t216 x7_2).f1)) := (blk_cell BK223.out 1).trans rfl
                                  have hcz86_2 : wc.cell? ⟨gb223, 2, none⟩ = some (.string ((rd_T32 t216 x7_2).f2)) := (blk_cell BK223.out 2).trans rfl
                                  have hcz86_3 : wc.cell? ⟨gb223, 3, none⟩ = some (.int .i64 ((rd_T32 t216 x7_2).f3)) := (blk_cell BK223.out 3).trans rfl
                                  have hfz86_0 := blk_frozen BK223.out 0
                                  have hfz86_1 := blk_frozen BK223.out 1
                                  have hfz86_2 := blk_frozen BK223.out 2
                                  have hfz86_3 := blk_frozen BK223.out 3
                                  go_wp2
                                  repeat (go_quiet (fail); try go_wp2)
                                  go_roundg kj59
                                  case measure => have := HJ3.out; have := HK2.out; have := HJ13.out; have := HK4.out; have := HJ59.out; omega
                                  case rel => exact ⟨(wrap64 (((rd_T32 t216 x7_2).f3) + (ji84))), (wrap64 (x7_2 + 1)), (by first | rfl | (simp; done) | (simp only [← hji84] <;> (first | rfl | simp)) | (simp [*]; done)), (by first | rfl | (simp; done) | (simp [*]; done)), H', ⟨by have := HJ3.out; have := HK2.out; have := HJ13.out; have := HK4.out; have := HJ59.out; omega⟩, ⟨by (with_reducible repeat (first | apply Kd.R_alloc | apply Kd.R_drewN | apply Kd.R_drew)); exact Kd.R_mono HO_4.out (fun _ hk => trivial)⟩, ⟨by (with_reducible repeat (first | refine blk_drewN ?_ _ | refine blk_drew ?_ | refine blk_alloc ?_ _)); exact BK221.out⟩, ⟨by repeat (first | (with_reducible first | exact HB.out | apply below_alloc | apply pw_below_drewN | apply below_drew1 | refine below_set ?_ GE221.out | refine below_set ?_ GE223.out) | exact HB.out)⟩⟩
              · rw [if_neg c13] at H
                exact absurd H (by simp)
            · rw [if_neg c12] at H
              have c12b0 : decide (x7_2 < (t216.length : Int)) = false := decide_eq_false c12
              clear c12
              obtain rfl := Option.some.inj H
              obtain ⟨Ao87, co87, eo87⟩ := Kd.R_slice HO_4.out
              subst eo87
              go_wp2
              repeat (go_quiet (fail); try go_wp2)
              go_ret
              exact ⟨by first | rfl | (simp [errW_none, errW_some] <;> rfl) | (simp [*, errW_none, errW_some] <;> rfl), by repeat (first | (with_reducible first | exact HB.out | apply below_alloc | apply pw_below_drewN | apply below_drew1 | refine below_set ?_ GE221.out) | exact HB.out)⟩

/-- THE ONE PURE STATEMENT of linotypelaw22_TokenParts: yours. -/
def linotypelaw22_TokenParts.Pure : Prop := ∀ (a0 : ByteArray), a0.size ≤ 140737488351232 → ∃ k, linotypelaw22_TokenParts.f k a0 = some true
theorem linotypelaw22_TokenParts.walk (P : linotypelaw22_TokenParts.Pure) (a0 : ByteArray) (w : World) (w0 : a0.size ≤ 140737488351232) :
    Calls Try.prog 4 #[.string a0] w fun e w' => e = .returned (.bool true) ∧ Below w.heap.size w w' := by
  obtain ⟨k, h⟩ := P a0 w0
  refine (linotypelaw22_TokenParts.calls k a0 true w h).mono ?_
  rintro e w' ⟨rfl, hd⟩
  exact ⟨rfl, hd⟩

end Go.Proofs.Ytjabjooephellaa.T
