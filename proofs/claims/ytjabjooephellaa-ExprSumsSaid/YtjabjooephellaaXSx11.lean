-- PRINTED by print.py (a twelfth state) out of the translation. Not trusted: Lean checks it.
import Derived.Test.YtjabjooephellaaXSx0
import Derived.Test.YtjabjooephellaaXSx10
namespace Go.Proofs.Ytjabjooephellaa.XS
open Go.RowKit Go.Proofs.YtjabjooephellaaW.PrintWords Go.Proofs.YtjabjooephellaaW.PrintLast Go.Proofs.YtjabjooephellaaW.PrintMore
attribute [local go_sem] max2_int min2_int max_two min_two max_three min_three max_four min_four   -- for this text's walks alone
set_option linter.unusedVariables false
set_option linter.unusedSimpArgs false

/-! ### linotypelaw23_ExprSums: function 5 -/
def linotypelaw23_ExprSums.j0 : Nat → Bool → List (S32) → Int → Int → Int → Option (Bool)
 | 0, _, _, _, _, _ => none
 | k + 1, x11, x14, x15, x16, x17 => (some (([(⟨4, 0, (⟨#[40]⟩ : ByteArray), 0⟩ : S32)] : List (S32)) : List (S32))).bind fun y234 => (if 3 ≤ (x14.length : Int) then ((some (x14.take 3 : List (S32))).bind fun y237 => (if y234.length + y237.length < 3518437208883 then ((some (y234 ++ y237 : List (S32))).bind fun y241 => ((some (([(⟨4, 0, (⟨#[41]⟩ : ByteArray), 0⟩ : S32)] : List (S32)) : List (S32))).bind fun y244 => (if y241.length + y244.length < 3518437208883 then ((some (y241 ++ y244 : List (S32))).bind fun y247 => ((some (x14.drop 3 : List (S32))).bind fun y250 => (if y247.length + y250.length < 3518437208883 then ((some (([] : List (S32)) : List (S32))).bind fun y257 => (if 2 ≤ (x14.length : Int) then ((some (x14.take 2 : List (S32))).bind fun y260 => (if y257.length + y260.length < 3518437208883 then ((some (y257 ++ y260 : List (S32))).bind fun y264 => ((some (([(⟨4, 0, (⟨#[40]⟩ : ByteArray), 0⟩ : S32)] : List (S32)) : List (S32))).bind fun y267 => (if y264.length + y267.length < 3518437208883 then ((some (y264 ++ y267 : List (S32))).bind fun y270 => ((some (x14.drop 2 : List (S32))).bind fun y273 => (if y270.length + y273.length < 3518437208883 then ((some (y270 ++ y273 : List (S32))).bind fun y277 => ((some (([(⟨4, 0, (⟨#[41]⟩ : ByteArray), 0⟩ : S32)] : List (S32)) : List (S32))).bind fun y280 => (if y277.length + y280.length < 3518437208883 then (if x11 = true then ((linotypelaw23_worth.f k x14 x17).bind fun t286 => (if t286 = true then ((linotypelaw23_worth.f k (y247 ++ y250) x15).bind fun t287 => (if t287 = true then ((linotypelaw23_worth.f k (y277 ++ y280) x16).bind fun t288 => (some t288)) else (none))) else (none))) else (none)) else (none)))) else (none)))) else (none)))) else (none))) else (none))) else (none)))) else (none)))) else (none))) else (none))
def linotypelaw23_ExprSums.f (k : Nat) (a0 : Int) (a1 : Int) (a2 : Int) (a3 : Int) (a4 : Int) : Option (Bool) := (linotypelaw23_awake.f k).bind fun t212 => ((linotypekit_Pick.f a3 6).bind fun t213 => ((linotypekit_Pick.f a4 6).bind fun t214 => ((some (([(⟨#[43]⟩ : ByteArray), (⟨#[45]⟩ : ByteArray), (⟨#[42]⟩ : ByteArray), (⟨#[38]⟩ : ByteArray), (⟨#[94]⟩ : ByteArray), (⟨#[124]⟩ : ByteArray)] : List ByteArray) : List ByteArray)).bind fun y215 => ((some (([2, 2, 3, 1, 0, (-1)] : List Int) : List Int)).bind fun y218 => (if 0 ≤ t213 then (if t213 < (y215.length : Int) then (if 0 ≤ t214 then (if t214 < (y215.length : Int) then ((linotypelaw23_tokens.f a0 (rdOf ByteArray.empty y215 t213) a1 (rdOf ByteArray.empty y215 t214) a2).bind fun t223 => ((linotypelaw23_reckon.f t213 a0 a1).bind fun t226 => ((linotypelaw23_reckon.f t214 t226 a2).bind fun t227 => ((linotypelaw23_reckon.f t214 a1 a2).bind fun t228 => ((linotypelaw23_reckon.f t213 a0 t228).bind fun t229 => (if t214 < (y218.length : Int) then (if t213 < (y218.length : Int) then (if (rd y218 t214) > (rd y218 t213) then (linotypelaw23_ExprSums.j0 k t212 t223 t227 t229 t229) else (linotypelaw23_ExprSums.j0 k t212 t223 t227 t229 t227)) else (none)) else (none))))))) else (none)) else (none)) else (none)) else (none))))))
theorem linotypelaw23_ExprSums.mono_l : ∀ k, (∀ y0 y1 y2 y3 y4, LeO (linotypelaw23_ExprSums.j0 k y0 y1 y2 y3 y4) (linotypelaw23_ExprSums.j0 (k + 1) y0 y1 y2 y3 y4))
 | 0 => fun _ _ _ _ _ r h => by simp [linotypelaw23_ExprSums.j0] at h
 | k + 1 => by
  have ih0 := linotypelaw23_ExprSums.mono_l k
  ·intro y0 y1 y2 y3 y4
   unfold linotypelaw23_ExprSums.j0
   repeat' first
   | (with_reducible exact ih0 _ _ _ _ _)
   | (with_reducible exact linotypelaw23_awake.mono _)
   | (with_reducible exact linotypelaw23_worth.mono _ _ _)
   | (with_reducible exact LeO.refl _)
   | (with_reducible exact LeO.none _)
   | (with_reducible refine LeO.ite ?_ ?_)
   | (with_reducible refine LeO.bind ?_ (fun _ => ?_))
   | exact ih0 _ _ _ _ _
   | exact linotypelaw23_awake.mono _
   | exact linotypelaw23_worth.mono _ _ _
   | exact LeO.none _
   | refine LeO.ite ?_ ?_
   | refine LeO.bind ?_ (fun _ => ?_)
theorem linotypelaw23_ExprSums.mono : ∀ a0 a1 a2 a3 a4 k, LeO (linotypelaw23_ExprSums.f k a0 a1 a2 a3 a4) (linotypelaw23_ExprSums.f (k + 1) a0 a1 a2 a3 a4) := by
 intro a0 a1 a2 a3 a4 k
 have ih0 := linotypelaw23_ExprSums.mono_l k
 unfold linotypelaw23_ExprSums.f
 repeat' first
   | (with_reducible exact ih0 _ _ _ _ _)
   | (with_reducible exact linotypelaw23_awake.mono _)
   | (with_reducible exact linotypelaw23_worth.mono _ _ _)
   | (with_reducible exact LeO.refl _)
   | (with_reducible exact LeO.none _)
   | (with_reducible refine LeO.ite ?_ ?_)
   | (with_reducible refine LeO.bind ?_ (fun _ => ?_))
   | exact ih0 _ _ _ _ _
   | exact linotypelaw23_awake.mono _
   | exact linotypelaw23_worth.mono _ _ _
   | exact LeO.none _
   | refine LeO.ite ?_ ?_
   | refine LeO.bind ?_ (fun _ => ?_)
def linotypelaw23_ExprSums.T5 : Bool × List (List Nat × List Nat) := (true, [([], []), ([], []), ([], []), ([1, 2], [1, 2]), ([3], [3]), ([], []), ([], []), ([], []), ([6, 7], [6, 7]), ([8], [8]), ([], []), ([0, 4, 5, 9, 10], [0, 4, 5, 9, 10]), ([11, 11, 0, 1, 2, 3, 4, 5, 6, 7, 8, 9, 10, 11], [11])])
def linotypelaw23_ExprSums.B5 : List Nat := [0, 0, 0, 6, 14, 0, 0, 0, 192, 448, 0, 2047, 4095]
theorem linotypelaw23_ExprSums.tab5 : rtab .any (opsOf Try.f5 5) = linotypelaw23_ExprSums.T5 := by kernel_rfl
theorem linotypelaw23_ExprSums.bits5 : waitsOk linotypelaw23_ExprSums.T5.2 linotypelaw23_ExprSums.B5 = true := by kernel_rfl
def linotypelaw23_ExprSums.T9 : Bool × List (List Nat × List Nat) := (true, [([], []), ([], []), ([0, 1], [0, 1]), ([2], [2]), ([], []), ([], []), ([4, 5], [4, 5]), ([6], [6]), ([3, 7], [3, 7])])
def linotypelaw23_ExprSums.B9 : List Nat := [0, 0, 3, 7, 0, 0, 48, 112, 255]
theorem linotypelaw23_ExprSums.tab9 : rtab .any (opsOf Try.f5 9) = linotypelaw23_ExprSums.T9 := by kernel_rfl
theorem linotypelaw23_ExprSums.bits9 : waitsOk linotypelaw23_ExprSums.T9.2 linotypelaw23_ExprSums.B9 = true := by kernel_rfl
def linotypelaw23_ExprSums.T13 : Bool × List (List Nat × List Nat) := (true, [([], []), ([], []), ([1], [1]), ([0, 2], [0, 2]), ([], []), ([4], [4]), ([3, 5, 3], [3, 5]), ([6, 6, 0, 1, 2, 3, 4, 5, 6], [0, 6])])
def linotypelaw23_ExprSums.B13 : List Nat := [0, 0, 2, 7, 0, 16, 63, 127]
theorem linotypelaw23_ExprSums.tab13 : rtab .any (opsOf Try.f5 13) = linotypelaw23_ExprSums.T13 := by kernel_rfl
theorem linotypelaw23_ExprSums.bits13 : waitsOk linotypelaw23_ExprSums.T13.2 linotypelaw23_ExprSums.B13 = true := by kernel_rfl
def linotypelaw23_ExprSums.T14 : Bool × List (List Nat × List Nat) := (true, [([], []), ([], []), ([1], [1]), ([0, 2], [0, 2]), ([], []), ([4], [4]), ([3, 5, 3], [3, 5]), ([6, 6, 0, 1, 2, 3, 4, 5, 6], [6])])
def linotypelaw23_ExprSums.B14 : List Nat := [0, 0, 2, 7, 0, 16, 63, 127]
theorem linotypelaw23_ExprSums.tab14 : rtab .any (opsOf Try.f5 14) = linotypelaw23_ExprSums.T14 := by kernel_rfl
theorem linotypelaw23_ExprSums.bits14 : waitsOk linotypelaw23_ExprSums.T14.2 linotypelaw23_ExprSums.B14 = true := by kernel_rfl
def linotypelaw23_ExprSums.T15 : Bool × List (List Nat × List Nat) := (true, [([], []), ([], []), ([1], [1]), ([0, 2], [0, 2]), ([], []), ([4], [4]), ([3, 5, 3], [3, 5]), ([6, 6, 0, 1, 2, 3, 4, 5, 6], [0, 6])])
def linotypelaw23_ExprSums.B15 : List Nat := [0, 0, 2, 7, 0, 16, 63, 127]
theorem linotypelaw23_ExprSums.tab15 : rtab .any (opsOf Try.f5 15) = linotypelaw23_ExprSums.T15 := by kernel_rfl
theorem linotypelaw23_ExprSums.bits15 : waitsOk linotypelaw23_ExprSums.T15.2 linotypelaw23_ExprSums.B15 = true := by kernel_rfl
set_option maxHeartbeats 8000000 in
set_option maxRecDepth 100000 in
theorem linotypelaw23_ExprSums.calls (k : Nat) (a0 : Int) (a1 : Int) (a2 : Int) (a3 : Int) (a4 : Int) (r : Bool) (w : World) (h : linotypelaw23_ExprSums.f k a0 a1 a2 a3 a4 = some r) :
  Calls Try.prog 5 #[.int .i64 a0, .int .i64 a1, .int .i64 a2, .int .i64 a3, .int .i64 a4] w fun e w' => e = .returned (.bool r) ∧ Below w.heap.size w w' := by
 have hu32 := Try.underlying32
 have HB := Aside0.mk (Below.refl w.heap.size w)
 have H : ((linotypelaw23_awake.f k).bind fun t212 => ((linotypekit_Pick.f a3 6).bind fun t213 => ((linotypekit_Pick.f a4 6).bind fun t214 => ((some (([(⟨#[43]⟩ : ByteArray), (⟨#[45]⟩ : ByteArray), (⟨#[42]⟩ : ByteArray), (⟨#[38]⟩ : ByteArray), (⟨#[94]⟩ : ByteArray), (⟨#[124]⟩ : ByteArray)] : List ByteArray) : List ByteArray)).bind fun y215 => ((some (([2, 2, 3, 1, 0, (-1)] : List Int) : List Int)).bind fun y218 => (if 0 ≤ t213 then (if t213 < (y215.length : Int) then (if 0 ≤ t214 then (if t214 < (y215.length : Int) then ((linotypelaw23_tokens.f a0 (rdOf ByteArray.empty y215 t213) a1 (rdOf ByteArray.empty y215 t214) a2).bind fun t223 => ((linotypelaw23_reckon.f t213 a0 a1).bind fun t226 => ((linotypelaw23_reckon.f t214 t226 a2).bind fun t227 => ((linotypelaw23_reckon.f t214 a1 a2).bind fun t228 => ((linotypelaw23_reckon.f t213 a0 t228).bind fun t229 => (if t214 < (y218.length : Int) then (if t213 < (y218.length : Int) then (if (rd y218 t214) > (rd y218 t213) then (linotypelaw23_ExprSums.j0 k t212 t223 t227 t229 t229) else (linotypelaw23_ExprSums.j0 k t212 t223 t227 t229 t227)) else (none)) else (none))))))) else (none)) else (none)) else (none)) else (none))))))) = some r := h
 clear h
 replace H := Option.bind_eq_some_iff.mp H
 obtain ⟨t212, A60, H⟩ := H
 replace H : ((linotypekit_Pick.f a3 6).bind fun t213 => ((linotypekit_Pick.f a4 6).bind fun t214 => ((some (([(⟨#[43]⟩ : ByteArray), (⟨#[45]⟩ : ByteArray), (⟨#[42]⟩ : ByteArray), (⟨#[38]⟩ : ByteArray), (⟨#[94]⟩ : ByteArray), (⟨#[124]⟩ : ByteArray)] : List ByteArray) : List ByteArray)).bind fun y215 => ((some (([2, 2, 3, 1, 0, (-1)] : List Int) : List Int)).bind fun y218 => (if 0 ≤ t213 then (if t213 < (y215.length : Int) then (if 0 ≤ t214 then (if t214 < (y215.length : Int) then ((linotypelaw23_tokens.f a0 (rdOf ByteArray.empty y215 t213) a1 (rdOf ByteArray.empty y215 t214) a2).bind fun t223 => ((linotypelaw23_reckon.f t213 a0 a1).bind fun t226 => ((linotypelaw23_reckon.f t214 t226 a2).bind fun t227 => ((linotypelaw23_reckon.f t214 a1 a2).bind fun t228 => ((linotypelaw23_reckon.f t213 a0 t228).bind fun t229 => (if t214 < (y218.length : Int) then (if t213 < (y218.length : Int) then (if (rd y218 t214) > (rd y218 t213) then (linotypelaw23_ExprSums.j0 k t212 t223 t227 t229 t229) else (linotypelaw23_ExprSums.j0 k t212 t223 t227 t229 t227)) else (none)) else (none))))))) else (none)) else (none)) else (none)) else (none)))))) = some r := H
 have A6 := Aside0.mk A60
 clear A60
 replace H := Option.bind_eq_some_iff.mp H
 obtain ⟨t213, A70, H⟩ := H
 replace H : ((linotypekit_Pick.f a4 6).bind fun t214 => ((some (([(⟨#[43]⟩ : ByteArray), (⟨#[45]⟩ : ByteArray), (⟨#[42]⟩ : ByteArray), (⟨#[38]⟩ : ByteArray), (⟨#[94]⟩ : ByteArray), (⟨#[124]⟩ : ByteArray)] : List ByteArray) : List ByteArray)).bind fun y215 => ((some (([2, 2, 3, 1, 0, (-1)] : List Int) : List Int)).bind fun y218 => (if 0 ≤ t213 then (if t213 < (y215.length : Int) then (if 0 ≤ t214 then (if t214 < (y215.length : Int) then ((linotypelaw23_tokens.f a0 (rdOf ByteArray.empty y215 t213) a1 (rdOf ByteArray.empty y215 t214) a2).bind fun t223 => ((linotypelaw23_reckon.f t213 a0 a1).bind fun t226 => ((linotypelaw23_reckon.f t214 t226 a2).bind fun t227 => ((linotypelaw23_reckon.f t214 a1 a2).bind fun t228 => ((linotypelaw23_reckon.f t213 a0 t228).bind fun t229 => (if t214 < (y218.length : Int) then (if t213 < (y218.length : Int) then (if (rd y218 t214) > (rd y218 t213) then (linotypelaw23_ExprSums.j0 k t212 t223 t227 t229 t229) else (linotypelaw23_ExprSums.j0 k t212 t223 t227 t229 t227)) else (none)) else (none))))))) else (none)) else (none)) else (none)) else (none))))) = some r := H
 have A7 := Aside0.mk A70
 clear A70
 replace H := Option.bind_eq_some_iff.mp H
 obtain ⟨t214, A80, H⟩ := H
 replace H : ((some (([(⟨#[43]⟩ : ByteArray), (⟨#[45]⟩ : ByteArray), (⟨#[42]⟩ : ByteArray), (⟨#[38]⟩ : ByteArray), (⟨#[94]⟩ : ByteArray), (⟨#[124]⟩ : ByteArray)] : List ByteArray) : List ByteArray)).bind fun y215 => ((some (([2, 2, 3, 1, 0, (-1)] : List Int) : List Int)).bind fun y218 => (if 0 ≤ t213 then (if t213 < (y215.length : Int) then (if 0 ≤ t214 then (if t214 < (y215.length : Int) then ((linotypelaw23_tokens.f a0 (rdOf ByteArray.empty y215 t213) a1 (rdOf ByteArray.empty y215 t214) a2).bind fun t223 => ((linotypelaw23_reckon.f t213 a0 a1).bind fun t226 => ((linotypelaw23_reckon.f t214 t226 a2).bind fun t227 => ((linotypelaw23_reckon.f t214 a1 a2).bind fun t228 => ((linotypelaw23_reckon.f t213 a0 t228).bind fun t229 => (if t214 < (y218.length : Int) then (if t213 < (y218.length : Int) then (if (rd y218 t214) > (rd y218 t213) then (linotypelaw23_ExprSums.j0 k t212 t223 t227 t229 t229) else (linotypelaw23_ExprSums.j0 k t212 t223 t227 t229 t227)) else (none)) else (none))))))) else (none)) else (none)) else (none)) else (none)))) = some r := H
 have A8 := Aside0.mk A80
 clear A80
 obtain ⟨y215, hy215⟩ : ∃ y_ : List ByteArray, y_ = (([(⟨#[43]⟩ : ByteArray), (⟨#[45]⟩ : ByteArray), (⟨#[42]⟩ : ByteArray), (⟨#[38]⟩ : ByteArray), (⟨#[94]⟩ : ByteArray), (⟨#[124]⟩ : ByteArray)] : List ByteArray)) := ⟨_, rfl⟩
 replace H : ((some (([2, 2, 3, 1, 0, (-1)] : List Int) : List Int)).bind fun y218 => (if 0 ≤ t213 then (if t213 < (y215.length : Int) then (if 0 ≤ t214 then (if t214 < (y215.length : Int) then ((linotypelaw23_tokens.f a0 (rdOf ByteArray.empty y215 t213) a1 (rdOf ByteArray.empty y215 t214) a2).bind fun t223 => ((linotypelaw23_reckon.f t213 a0 a1).bind fun t226 => ((linotypelaw23_reckon.f t214 t226 a2).bind fun t227 => ((linotypelaw23_reckon.f t214 a1 a2).bind fun t228 => ((linotypelaw23_reckon.f t213 a0 t228).bind fun t229 => (if t214 < (y218.length : Int) then (if t213 < (y218.length : Int) then (if (rd y218 t214) > (rd y218 t213) then (linotypelaw23_ExprSums.j0 k t212 t223 t227 t229 t229) else (linotypelaw23_ExprSums.j0 k t212 t223 t227 t229 t227)) else (none)) else (none))))))) else (none)) else (none)) else (none)) else (none))) = some r := by first | (rw [hy215]; with_reducible exact H) | (have H2_ := (Option.bind_some _ _).symm.trans H; rw [hy215]; with_reducible exact H2_) | (have H2_ := (Option.bind_some _ _).symm.trans H; with_reducible exact H2_) | with_reducible exact H | (rw [hy215]; exact H) | exact H
 have Ny215 := Aside0.mk hy215
 clear hy215
 obtain ⟨y218, hy218⟩ : ∃ y_ : List Int, y_ = (([2, 2, 3, 1, 0, (-1)] : List Int)) := ⟨_, rfl⟩
 replace H : (if 0 ≤ t213 then (if t213 < (y215.length : Int) then (if 0 ≤ t214 then (if t214 < (y215.length : Int) then ((linotypelaw23_tokens.f a0 (rdOf ByteArray.empty y215 t213) a1 (rdOf ByteArray.empty y215 t214) a2).bind fun t223 => ((linotypelaw23_reckon.f t213 a0 a1).bind fun t226 => ((linotypelaw23_reckon.f t214 t226 a2).bind fun t227 => ((linotypelaw23_reckon.f t214 a1 a2).bind fun t228 => ((linotypelaw23_reckon.f t213 a0 t228).bind fun t229 => (if t214 < (y218.length : Int) then (if t213 < (y218.length : Int) then (if (rd y218 t214) > (rd y218 t213) then (linotypelaw23_ExprSums.j0 k t212 t223 t227 t229 t229) else (linotypelaw23_ExprSums.j0 k t212 t223 t227 t229 t227)) else (none)) else (none))))))) else (none)) else (none)) else (none)) else (none)) = some r := by first | (rw [hy218]; with_reducible exact H) | (have H2_ := (Option.bind_some _ _).symm.trans H; rw [hy218]; with_reducible exact H2_) | (have H2_ := (Option.bind_some _ _).symm.trans H; with_reducible exact H2_) | with_reducible exact H | (rw [hy218]; exact H) | exact H
 have Ny218 := Aside0.mk hy218
 clear hy218
 by_cases c9 : 0 ≤ t213
 ·rw [if_pos c9] at H
  have c9b0 : decide (0 ≤ t213) = true := decide_eq_true c9
  clear c9
  by_cases c10 : t213 < (y215.length : Int)
  ·rw [if_pos c10] at H
   have c10b0 : decide (t213 < (y215.length : Int)) = true := decide_eq_true c10
   clear c10
   by_cases c11 : 0 ≤ t214
   ·rw [if_pos c11] at H
    have c11b0 : decide (0 ≤ t214) = true := decide_eq_true c11
    clear c11
    by_cases c12 : t214 < (y215.length : Int)
    ·rw [if_pos c12] at H
     have c12b0 : decide (t214 < (y215.length : Int)) = true := decide_eq_true c12
     clear c12
     replace H := Option.bind_eq_some_iff.mp H
     obtain ⟨t223, A130, H⟩ := H
     replace H : ((linotypelaw23_reckon.f t213 a0 a1).bind fun t226 => ((linotypelaw23_reckon.f t214 t226 a2).bind fun t227 => ((linotypelaw23_reckon.f t214 a1 a2).bind fun t228 => ((linotypelaw23_reckon.f t213 a0 t228).bind fun t229 => (if t214 < (y218.length : Int) then (if t213 < (y218.length : Int) then (if (rd y218 t214) > (rd y218 t213) then (linotypelaw23_ExprSums.j0 k t212 t223 t227 t229 t229) else (linotypelaw23_ExprSums.j0 k t212 t223 t227 t229 t227)) else (none)) else (none)))))) = some r := H
     have A13 := Aside0.mk A130
     clear A130
     replace H := Option.bind_eq_some_iff.mp H
     obtain ⟨t226, A140, H⟩ := H
     replace H : ((linotypelaw23_reckon.f t214 t226 a2).bind fun t227 => ((linotypelaw23_reckon.f t214 a1 a2).bind fun t228 => ((linotypelaw23_reckon.f t213 a0 t228).bind fun t229 => (if t214 < (y218.length : Int) then (if t213 < (y218.length : Int) then (if (rd y218 t214) > (rd y218 t213) then (linotypelaw23_ExprSums.j0 k t212 t223 t227 t229 t229) else (linotypelaw23_ExprSums.j0 k t212 t223 t227 t229 t227)) else (none)) else (none))))) = some r := H
     have A14 := Aside0.mk A140
     clear A140
     replace H := Option.bind_eq_some_iff.mp H
     obtain ⟨t227, A150, H⟩ := H
     replace H : ((linotypelaw23_reckon.f t214 a1 a2).bind fun t228 => ((linotypelaw23_reckon.f t213 a0 t228).bind fun t229 => (if t214 < (y218.length : Int) then (if t213 < (y218.length : Int) then (if (rd y218 t214) > (rd y218 t213) then (linotypelaw23_ExprSums.j0 k t212 t223 t227 t229 t229) else (linotypelaw23_ExprSums.j0 k t212 t223 t227 t229 t227)) else (none)) else (none)))) = some r := H
     have A15 := Aside0.mk A150
     clear A150
     replace H := Option.bind_eq_some_iff.mp H
     obtain ⟨t228, A160, H⟩ := H
     replace H : ((linotypelaw23_reckon.f t213 a0 t228).bind fun t229 => (if t214 < (y218.length : Int) then (if t213 < (y218.length : Int) then (if (rd y218 t214) > (rd y218 t213) then (linotypelaw23_ExprSums.j0 k t212 t223 t227 t229 t229) else (linotypelaw23_ExprSums.j0 k t212 t223 t227 t229 t227)) else (none)) else (none))) = some r := H
     have A16 := Aside0.mk A160
     clear A160
     replace H := Option.bind_eq_some_iff.mp H
     obtain ⟨t229, A170, H⟩ := H
     replace H : (if t214 < (y218.length : Int) then (if t213 < (y218.length : Int) then (if (rd y218 t214) > (rd y218 t213) then (linotypelaw23_ExprSums.j0 k t212 t223 t227 t229 t229) else (linotypelaw23_ExprSums.j0 k t212 t223 t227 t229 t227)) else (none)) else (none)) = some r := H
     have A17 := Aside0.mk A170
     clear A170
     by_cases c18 : t214 < (y218.length : Int)
     ·rw [if_pos c18] at H
      have c18b0 : decide (t214 < (y218.length : Int)) = true := decide_eq_true c18
      clear c18
      by_cases c19 : t213 < (y218.length : Int)
      ·rw [if_pos c19] at H
       have c19b0 : decide (t213 < (y218.length : Int)) = true := decide_eq_true c19
       clear c19
       have HC20 := Aside0.mk H
       clear H
       go_enter Try.func5, Try.ntmps5
       try go_wp2_with (first | ((with_reducible refine gate_callee (f := 11) rfl ?_); refine goesL_ (some 22) rfl rfl Try.func11 (by kernel_rfl) rfl #[] rfl (by (try simp only [List.map_toArray, List.map_cons, List.map_nil]); first | done | rfl | (simp only [List.length_drop, List.length_take]; rfl)) ?_; (with_reducible refine (linotypelaw23_awake.calls k  t212 _ A6.out).mono ?_); rintro e w21 ⟨rfl, hb⟩; refine ⟨_, rfl, ?_⟩; have n0_ := Aside0.mk (below_step (by repeat (first | (with_reducible first | exact HB.out | apply below_alloc | apply pw_below_drewN | apply below_drew1) | exact HB.out)) hb); clear HB; have HB := n0_; clear n0_; (try clear hb); (try clear hb2); (try clear hk); (try clear hi)) | ((with_reducible refine gate_callee (f := 12) rfl ?_); refine goesL_ (some 24) rfl rfl Try.func12 (by kernel_rfl) rfl #[.int .i64 a3, .int .i64 6] rfl (by (try simp only [List.map_toArray, List.map_cons, List.map_nil]); first | done | rfl | (simp only [List.length_drop, List.length_take]; rfl)) ?_; (with_reducible refine (linotypekit_Pick.calls a3 6 t213 _ A7.out).mono ?_); rintro e w' ⟨rfl, ⟨nd, rfl⟩⟩; refine ⟨_, rfl, ?_⟩) | ((with_reducible refine gate_callee (f := 12) rfl ?_); refine goesL_ (some 26) rfl rfl Try.func12 (by kernel_rfl) rfl #[.int .i64 a4, .int .i64 6] rfl (by (try simp only [List.map_toArray, List.map_cons, List.map_nil]); first | done | rfl | (simp only [List.length_drop, List.length_take]; rfl)) ?_; (with_reducible refine (linotypekit_Pick.calls a4 6 t214 _ A8.out).mono ?_); rintro e w' ⟨rfl, ⟨nd, rfl⟩⟩; refine ⟨_, rfl, ?_⟩) | ((with_reducible refine gate_dst (N := 27) rfl ?_); refine Kd.R_lit Kd.string _ 9 ?hg (N := 27) ?hd (xs := ([(⟨#[43]⟩ : ByteArray), (⟨#[45]⟩ : ByteArray), (⟨#[42]⟩ : ByteArray), (⟨#[38]⟩ : ByteArray), (⟨#[94]⟩ : ByteArray), (⟨#[124]⟩ : ByteArray)] : List ByteArray)) (inner := [.string (⟨#[43]⟩ : ByteArray), .string (⟨#[45]⟩ : ByteArray), .string (⟨#[42]⟩ : ByteArray), .string (⟨#[38]⟩ : ByteArray), .string (⟨#[94]⟩ : ByteArray), .string (⟨#[124]⟩ : ByteArray)]) (ok := fun _ => True) (okp := fun _ => True) ?hr ?hp (fun _ hk => hk) trivial (Below.refl _ _) (Nat.le_refl _) (by simp) ?_; (case hd => rfl); (case hg => rfl); (case hr => first | (go_simp; done) | (go_simp; rfl)); (case hp => exact (Reps.one (show Kd.M Kd.string _ _ _ (⟨#[43]⟩ : ByteArray) [.string (⟨#[43]⟩ : ByteArray)] from rfl) (Reps.one (show Kd.M Kd.string _ _ _ (⟨#[45]⟩ : ByteArray) [.string (⟨#[45]⟩ : ByteArray)] from rfl) (Reps.one (show Kd.M Kd.string _ _ _ (⟨#[42]⟩ : ByteArray) [.string (⟨#[42]⟩ : ByteArray)] from rfl) (Reps.one (show Kd.M Kd.string _ _ _ (⟨#[38]⟩ : ByteArray) [.string (⟨#[38]⟩ : ByteArray)] from rfl) (Reps.one (show Kd.M Kd.string _ _ _ (⟨#[94]⟩ : ByteArray) [.string (⟨#[94]⟩ : ByteArray)] from rfl) (Reps.one (show Kd.M Kd.string _ _ _ (⟨#[124]⟩ : ByteArray) [.string (⟨#[124]⟩ : ByteArray)] from rfl) (Reps.none _ _)))))))); intro v216 w22 ho23 hb hg_ hnew_; clear hg_ hnew_; (first | rw [← Ny215.out] at ho23 | (simp only [Int.reduceToNat] at ho23; rw [← Ny215.out] at ho23)); have n0_ := Aside0.mk (Kd.R_lower ho23 (below_size (by repeat (first | (with_reducible first | exact HB.out | apply below_alloc | apply pw_below_drewN | apply below_drew1) | exact HB.out)))); have n1_ := Aside0.mk (below_step (by repeat (first | (with_reducible first | exact HB.out | apply below_alloc | apply pw_below_drewN | apply below_drew1) | exact HB.out)) hb); clear HB; have HO217 := n0_; have HB := n1_; clear n0_ n1_; clear hb ho23) | ((with_reducible refine gate_dst (N := 28) rfl ?_); refine Kd.R_lit (Kd.int .i64) _ 3 ?hg (N := 28) ?hd (xs := ([2, 2, 3, 1, 0, (-1)] : List Int)) (inner := [.int .i64 2, .int .i64 2, .int .i64 3, .int .i64 1, .int .i64 0, .int .i64 (-1)]) (ok := fun _ => True) (okp := fun _ => True) ?hr ?hp (fun _ hk => hk) trivial (Below.refl _ _) (Nat.le_refl _) (by simp) ?_; (case hd => rfl); (case hg => rfl); (case hr => first | (go_simp; done) | (go_simp; rfl)); (case hp => exact (Reps.one (show Kd.M (Kd.int .i64) _ _ _ 2 [.int .i64 2] from rfl) (Reps.one (show Kd.M (Kd.int .i64) _ _ _ 2 [.int .i64 2] from rfl) (Reps.one (show Kd.M (Kd.int .i64) _ _ _ 3 [.int .i64 3] from rfl) (Reps.one (show Kd.M (Kd.int .i64) _ _ _ 1 [.int .i64 1] from rfl) (Reps.one (show Kd.M (Kd.int .i64) _ _ _ 0 [.int .i64 0] from rfl) (Reps.one (show Kd.M (Kd.int .i64) _ _ _ (-1) [.int .i64 (-1)] from rfl) (Reps.none _ _)))))))); intro v219 w24 ho25 hb hg_ hnew_; clear hg_ hnew_; (first | rw [← Ny218.out] at ho25 | (simp only [Int.reduceToNat] at ho25; rw [← Ny218.out] at ho25)); have n0_ := Aside0.mk (Kd.R_below (by (with_reducible repeat (first | apply Kd.R_alloc | apply Kd.R_drewN | apply Kd.R_drew)); exact HO217.out) hb); have n1_ := Aside0.mk (Kd.R_lower ho25 (below_size (by repeat (first | (with_reducible first | exact HB.out | apply below_alloc | apply pw_below_drewN | apply below_drew1) | exact HB.out)))); have n2_ := Aside0.mk (below_step (by repeat (first | (with_reducible first | exact HB.out | apply below_alloc | apply pw_below_drewN | apply below_drew1) | exact HB.out)) hb); clear HO217; clear HB; have HO217 := n0_; have HO220 := n1_; have HB := n2_; clear n0_ n1_ n2_; clear hb ho25))
       have n0_ := Aside0.mk (Kd.R_drew HO217.out)
       have n1_ := Aside0.mk (Kd.R_drew HO220.out)
       have n2_ := Aside0.mk (below_drew1 HB.out)
       clear HO217
       clear HO220
       clear HB
       have HO217 := n0_
       have HO220 := n1_
       have HB := n2_
       clear n0_ n1_ n2_
       obtain ⟨Ao27, co27, eo27⟩ := Kd.R_slice HO217.out
       (first | subst eo27 | (injection eo27 with f1_ f2_ f3_; have f4_ := f1_.symm; have f5_ := f3_.symm; clear f1_ f2_ f3_; subst f4_; subst f5_))
       have p221 : 0 ≤ (t213 : Int) := of_decide_eq_true (by first | (with_reducible assumption) | assumption)
       have q221 : t213 < (y215.length : Int) := of_decide_eq_true (by first | (with_reducible assumption) | assumption)
       obtain ⟨ad221, e221, hx221_0⟩ := Kd.at_string (Kd.R_reads' HO217.out).2.2 t213 p221 q221
       cases e221
       replace p221 := eq_true p221
       replace q221 := eq_true q221
       have p222 : 0 ≤ (t214 : Int) := of_decide_eq_true (by first | (with_reducible assumption) | assumption)
       have q222 : t214 < (y215.length : Int) := of_decide_eq_true (by first | (with_reducible assumption) | assumption)
       obtain ⟨ad222, e222, hx222_0⟩ := Kd.at_string (Kd.R_reads' HO217.out).2.2 t214 p222 q222
       obtain rfl : ad221 = ad222 := (by injection e222)
       replace p222 := eq_true p222
       replace q222 := eq_true q222
       refine start_ (n := 13) (S := fun w' => w'.cell? (ad221.add (t213).toNat) = some (.string (rdOf ByteArray.empty y215 t213)) ∧ w'.cell? (ad221.add (t214).toNat) = some (.string (rdOf ByteArray.empty y215 t214))) (ds := []) #[false, false, false, false, false, false, false, false, false, false, false, false, false] (by kernel_rfl) rfl rfl ⟨hx221_0, hx222_0⟩ (fun hHeld => ?_); refine with_tabW linotypelaw23_ExprSums.tab5 linotypelaw23_ExprSums.bits5 (fun HT_ HW_ => ?_)
       generalize w24.drew = w26 at HO217 HO220 HB hx221_0 hx222_0 hHeld ⊢
       refine pure_ (i := 0) (N := some 29) (v := ?_) (a' := ?_) #[true, false, false, false, false, false, false, false, false, false, false, false, false] rfl rfl (any_of HT_.out (by kernel_rfl)) (fun _ _ _ h => h) (Or.inl ⟨by rfl, ?_⟩) ?_ ?_
       rotate_left
       ·intro w'
        go_simp
        with_reducible rfl
       rotate_left
       ·simp only [Act.put, List.setIfInBounds_toArray, List.set_cons_zero, List.set_cons_succ, i64_w, i32_w]
        rfl
       refine pure_ (i := 1) (N := some 30) (v := ?_) (a' := ?_) #[true, true, false, false, false, false, false, false, false, false, false, false, false] rfl rfl (any_of HT_.out (by kernel_rfl)) (fun _ _ _ h => h) (Or.inl ⟨by rfl, ?_⟩) ?_ ?_
       rotate_left
       ·intro w'
        go_simp
        with_reducible rfl
       rotate_left
       ·simp only [Act.put, List.setIfInBounds_toArray, List.set_cons_zero, List.set_cons_succ, i64_w, i32_w]
        rfl
       refine pure_ (i := 2) (N := some 31) (v := ?_) (a' := ?_) #[true, true, true, false, false, false, false, false, false, false, false, false, false] rfl rfl (any_of HT_.out (by kernel_rfl)) (fun _ _ _ h => h) (Or.inl ⟨by rfl, ?_⟩) ?_ ?_
       rotate_left
       ·intro w'
        go_simp
        with_reducible rfl
       rotate_left
       ·simp only [Act.put, List.setIfInBounds_toArray, List.set_cons_zero, List.set_cons_succ, i64_w, i32_w]
        rfl
       refine pure_ (i := 3) (N := some 32) (v := ?_) (a' := ?_) #[true, true, true, true, false, false, false, false, false, false, false, false, false] rfl rfl (any_of HT_.out (by kernel_rfl)) (fun _ _ _ h => h) (Or.inl ⟨by rfl, ?_⟩) ?_ ?_
       rotate_left
       ·intro w'
        go_simp
        with_reducible rfl
       rotate_left
       ·simp only [Act.put, List.setIfInBounds_toArray, List.set_cons_zero, List.set_cons_succ, i64_w, i32_w]
        rfl
       refine pure_ (i := 5) (N := some 34) (v := ?_) (a' := ?_) #[true, true, true, true, false, true, false, false, false, false, false, false, false] rfl rfl (any_of HT_.out (by kernel_rfl)) (fun _ _ _ h => h) (Or.inl ⟨by rfl, ?_⟩) ?_ ?_
       rotate_left
       ·intro w'
        go_simp
        with_reducible rfl
       rotate_left
       ·simp only [Act.put, List.setIfInBounds_toArray, List.set_cons_zero, List.set_cons_succ, i64_w, i32_w]
        rfl
       refine pure_ (i := 6) (N := some 35) (v := ?_) (a' := ?_) #[true, true, true, true, false, true, true, false, false, false, false, false, false] rfl rfl (any_of HT_.out (by kernel_rfl)) (fun _ _ _ h => h) (Or.inl ⟨by rfl, ?_⟩) ?_ ?_
       rotate_left
       ·intro w'
        go_simp
        with_reducible rfl
       rotate_left
       ·simp only [Act.put, List.setIfInBounds_toArray, List.set_cons_zero, List.set_cons_succ, i64_w, i32_w]
        rfl
       refine pure_ (i := 7) (N := some 36) (v := ?_) (a' := ?_) #[true, true, true, true, false, true, true, true, false, false, false, false, false] rfl rfl (any_of HT_.out (by kernel_rfl)) (fun _ _ _ h => h) (Or.inl ⟨by rfl, ?_⟩) ?_ ?_
       rotate_left
       ·intro w'
        go_simp
        with_reducible rfl
       rotate_left
       ·simp only [Act.put, List.setIfInBounds_toArray, List.set_cons_zero, List.set_cons_succ, i64_w, i32_w]
        rfl
       refine pure_ (i := 8) (N := some 37) (v := ?_) (a' := ?_) #[true, true, true, true, false, true, true, true, true, false, false, false, false] rfl rfl (any_of HT_.out (by kernel_rfl)) (fun _ _ _ h => h) (Or.inl ⟨by rfl, ?_⟩) ?_ ?_
       rotate_left
       ·intro w'
        go_simp
        with_reducible rfl
       rotate_left
       ·simp only [Act.put, List.setIfInBounds_toArray, List.set_cons_zero, List.set_cons_succ, i64_w, i32_w]
        rfl
       refine pure_ (i := 10) (N := some 39) (v := ?_) (a' := ?_) #[true, true, true, true, false, true, true, true, true, false, true, false, false] rfl rfl (any_of HT_.out (by kernel_rfl)) (fun _ _ _ h => h) (Or.inl ⟨by rfl, ?_⟩) ?_ ?_
       rotate_left
       ·intro w'
        go_simp
        with_reducible rfl
       rotate_left
       ·simp only [Act.put, List.setIfInBounds_toArray, List.set_cons_zero, List.set_cons_succ, i64_w, i32_w]
        rfl
       refine take_ (i := 4) (N := some 33) (v := ?_) (a' := ?_) #[true, true, true, true, true, true, true, true, true, false, true, false, false] rfl rfl (take_ofW HT_.out HW_.out (by kernel_rfl)) (fun _ _ _ h => h) (Or.inl ⟨by rfl, ?_⟩) hHeld ?_ ?_
       rotate_left
       ·rintro w' ⟨s0, s1⟩
        go_simp
        with_reducible rfl
       rotate_left
       ·simp only [Act.put, List.setIfInBounds_toArray, List.set_cons_zero, List.set_cons_succ, i64_w, i32_w]
        rfl
       refine take_ (i := 9) (N := some 38) (v := ?_) (a' := ?_) #[true, true, true, true, true, true, true, true, true, true, true, false, false] rfl rfl (take_ofW HT_.out HW_.out (by kernel_rfl)) (fun _ _ _ h => h) (Or.inl ⟨by rfl, ?_⟩) hHeld ?_ ?_
       rotate_left
       ·rintro w' ⟨s0, s1⟩
        go_simp
        with_reducible rfl
       rotate_left
       ·simp only [Act.put, List.setIfInBounds_toArray, List.set_cons_zero, List.set_cons_succ, i64_w, i32_w]
        rfl
       refine one_ (i := 11) (N := some 40) #[true, true, true, true, true, true, true, true, true, true, true, true, false] rfl rfl (one_of HT_.out (by kernel_rfl)) (by decide) (fun K hK => ?_)
       refine goes_ Try.func13 (by kernel_rfl) rfl #[.int .i64 a0, .string (rdOf ByteArray.empty y215 t213), .int .i64 a1, .string (rdOf ByteArray.empty y215 t214), .int .i64 a2] (by rfl) rfl rfl (by (try simp only [List.map_toArray, List.map_cons, List.map_nil]); first | done | rfl | (simp only [List.length_drop, List.length_take]; rfl)) ?_
       with_reducible refine (linotypelaw23_tokens.calls a0 (rdOf ByteArray.empty y215 t213) a1 (rdOf ByteArray.empty y215 t214) a2 t223 _ A13.out).mono ?_
       rintro e w28 ⟨v224, rfl, ho0, hb⟩
       have HS0_ := (hb.cell (World.block_lt_of_cell? _ _ (hHeld.1))).trans (hHeld.1)
       have HS1_ := (hb.cell (World.block_lt_of_cell? _ _ (hHeld.2))).trans (hHeld.2)
       refine ⟨_, rfl, ?_⟩
       have n0_ := Aside0.mk (Kd.R_below (by (with_reducible repeat (first | apply Kd.R_alloc | apply Kd.R_drewN | apply Kd.R_drew)); exact HO217.out) hb)
       have n1_ := Aside0.mk (Kd.R_below (by (with_reducible repeat (first | apply Kd.R_alloc | apply Kd.R_drewN | apply Kd.R_drew)); exact HO220.out) hb)
       have n2_ := Aside0.mk (Kd.R_lower ho0 (below_size (by repeat (first | (with_reducible first | exact HB.out | apply below_alloc | apply pw_below_drewN | apply below_drew1) | exact HB.out))))
       have n3_ := Aside0.mk (below_step (by repeat (first | (with_reducible first | exact HB.out | apply below_alloc | apply pw_below_drewN | apply below_drew1) | exact HB.out)) hb)
       clear HO217
       clear HO220
       clear HB
       have HO217 := n0_
       have HO220 := n1_
       have HO225 := n2_
       have HB := n3_
       clear n0_ n1_ n2_ n3_
       (try clear hb)
       (try clear hb2)
       (try clear hk)
       (try clear hi)
       (try clear ho0)
       refine hK.out _ _ ⟨HS0_, HS1_⟩ (fun hHeld => ?_)
       clear hK K
       refine norm_ (a' := ?_) ?_ ?_
       rotate_left
       ·show Act.put _ (some 40) _ = _
        simp only [Act.put, List.setIfInBounds_toArray, List.set_cons_zero, List.set_cons_succ, i64_w, i32_w]
        rfl
       refine pure_ (i := 12) (N := some 14) (v := ?_) (a' := ?_) #[true, true, true, true, true, true, true, true, true, true, true, true, true] rfl rfl (any_of HT_.out (by kernel_rfl)) (fun _ _ _ h => h) (Or.inl ⟨by rfl, ?_⟩) ?_ ?_
       rotate_left
       ·intro w'
        go_simp
        with_reducible rfl
       rotate_left
       ·simp only [Act.put, List.setIfInBounds_toArray, List.set_cons_zero, List.set_cons_succ, i64_w, i32_w]
        rfl
       refine done_ (done_of HT_.out (by kernel_rfl)) ?_
       try go_wp2_with (first | ((with_reducible refine gate_callee (f := 14) rfl ?_); refine goesL_ (some 45) rfl rfl Try.func14 (by kernel_rfl) rfl #[.int .i64 t213, .int .i64 a0, .int .i64 a1] rfl (by (try simp only [List.map_toArray, List.map_cons, List.map_nil]); first | done | rfl | (simp only [List.length_drop, List.length_take]; rfl)) ?_; (with_reducible refine (linotypelaw23_reckon.calls t213 a0 a1 t226 _ A14.out).mono ?_); rintro e w' ⟨rfl, ⟨nd, rfl⟩⟩; refine ⟨_, rfl, ?_⟩) | ((with_reducible refine gate_callee (f := 14) rfl ?_); refine goesL_ (some 47) rfl rfl Try.func14 (by kernel_rfl) rfl #[.int .i64 t214, .int .i64 t226, .int .i64 a2] rfl (by (try simp only [List.map_toArray, List.map_cons, List.map_nil]); first | done | rfl | (simp only [List.length_drop, List.length_take]; rfl)) ?_; (with_reducible refine (linotypelaw23_reckon.calls t214 t226 a2 t227 _ A15.out).mono ?_); rintro e w' ⟨rfl, ⟨nd, rfl⟩⟩; refine ⟨_, rfl, ?_⟩) | ((with_reducible refine gate_callee (f := 14) rfl ?_); refine goesL_ (some 53) rfl rfl Try.func14 (by kernel_rfl) rfl #[.int .i64 t214, .int .i64 a1, .int .i64 a2] rfl (by (try simp only [List.map_toArray, List.map_cons, List.map_nil]); first | done | rfl | (simp only [List.length_drop, List.length_take]; rfl)) ?_; (with_reducible refine (linotypelaw23_reckon.calls t214 a1 a2 t228 _ A16.out).mono ?_); rintro e w' ⟨rfl, ⟨nd, rfl⟩⟩; refine ⟨_, rfl, ?_⟩) | ((with_reducible refine gate_callee (f := 14) rfl ?_); refine goesL_ (some 54) rfl rfl Try.func14 (by kernel_rfl) rfl #[.int .i64 t213, .int .i64 a0, .int .i64 t228] rfl (by (try simp only [List.map_toArray, List.map_cons, List.map_nil]); first | done | rfl | (simp only [List.length_drop, List.length_take]; rfl)) ?_; (with_reducible refine (linotypelaw23_reckon.calls t213 a0 t228 t229 _ A17.out).mono ?_); rintro e w' ⟨rfl, ⟨nd, rfl⟩⟩; refine ⟨_, rfl, ?_⟩))
       (try (rw [drewN_self w28]; generalize hq_ : World.drewN w28 _ = w28; have n0_ : Aside0 (Kd.R Kd.string 9 w28 w.heap.size (fun _ => True) (.slice (some ad221) y215.length co27) y215) := ⟨by rw [← hq_]; exact (by (with_reducible repeat (first | apply Kd.R_alloc | apply Kd.R_drewN | apply Kd.R_drew)); exact HO217.out)⟩; have n1_ : Aside0 (Kd.R (Kd.int .i64) 3 w28 w.heap.size (fun _ => True) v219 y218) := ⟨by rw [← hq_]; exact (by (with_reducible repeat (first | apply Kd.R_alloc | apply Kd.R_drewN | apply Kd.R_drew)); exact HO220.out)⟩; have n2_ : Aside0 (Kd.R k32 32 w28 w.heap.size (fun _ => True) v224 t223) := ⟨by rw [← hq_]; exact (by (with_reducible repeat (first | apply Kd.R_alloc | apply Kd.R_drewN | apply Kd.R_drew)); exact HO225.out)⟩; have n3_ : Aside0 (Below w.heap.size w w28) := ⟨by rw [← hq_]; exact (by repeat (first | (with_reducible first | exact HB.out | apply below_alloc | apply pw_below_drewN | apply below_drew1) | exact HB.out))⟩; clear HO217 HO220 HO225 HB hq_; have HO217 := n0_; have HO220 := n1_; have HO225 := n2_; have HB := n3_; clear n0_ n1_ n2_ n3_))
       have n0_ := Aside0.mk (Kd.R_drew HO217.out)
       have n1_ := Aside0.mk (Kd.R_drew HO220.out)
       have n2_ := Aside0.mk (Kd.R_drew HO225.out)
       have n3_ := Aside0.mk (below_drew1 HB.out)
       clear HO217
       clear HO220
       clear HO225
       clear HB
       have HO217 := n0_
       have HO220 := n1_
       have HO225 := n2_
       have HB := n3_
       clear n0_ n1_ n2_ n3_
       obtain ⟨Ao30, co30, eo30⟩ := Kd.R_slice HO220.out
       (first | subst eo30 | (injection eo30 with f1_ f2_ f3_; have f4_ := f1_.symm; have f5_ := f3_.symm; clear f1_ f2_ f3_; subst f4_; subst f5_))
       have p230 : 0 ≤ (t214 : Int) := of_decide_eq_true (by first | (with_reducible assumption) | assumption)
       have q230 : t214 < (y218.length : Int) := of_decide_eq_true (by first | (with_reducible assumption) | assumption)
       obtain ⟨ad230, e230, hx230_0⟩ := Kd.at_int (Kd.R_reads' HO220.out).2.2 t214 p230 q230
       cases e230
       replace p230 := eq_true p230
       replace q230 := eq_true q230
       have p231 : 0 ≤ (t213 : Int) := of_decide_eq_true (by first | (with_reducible assumption) | assumption)
       have q231 : t213 < (y218.length : Int) := of_decide_eq_true (by first | (with_reducible assumption) | assumption)
       obtain ⟨ad231, e231, hx231_0⟩ := Kd.at_int (Kd.R_reads' HO220.out).2.2 t213 p231 q231
       obtain rfl : ad230 = ad231 := (by injection e231)
       replace p231 := eq_true p231
       replace q231 := eq_true q231
       refine start_ (n := 9) (S := fun w' => w'.cell? (ad230.add (t214).toNat) = some (.int .i64 (rd y218 t214)) ∧ w'.cell? (ad230.add (t213).toNat) = some (.int .i64 (rd y218 t213))) (ds := []) #[false, false, false, false, false, false, false, false, false] (by kernel_rfl) rfl rfl ⟨hx230_0, hx231_0⟩ (fun hHeld => ?_); refine with_tabW linotypelaw23_ExprSums.tab9 linotypelaw23_ExprSums.bits9 (fun HT_ HW_ => ?_)
       generalize w28.drew = w29 at HO217 HO220 HO225 HB hx230_0 hx231_0 hHeld ⊢
       refine pure_ (i := 0) (N := some 56) (v := ?_) (a' := ?_) #[true, false, false, false, false, false, false, false, false] rfl rfl (any_of HT_.out (by kernel_rfl)) (fun _ _ _ h => h) (Or.inl ⟨by rfl, ?_⟩) ?_ ?_
       rotate_left
       ·intro w'
        go_simp
        with_reducible rfl
       rotate_left
       ·simp only [Act.put, List.setIfInBounds_toArray, List.set_cons_zero, List.set_cons_succ, i64_w, i32_w]
        rfl
       refine pure_ (i := 1) (N := some 57) (v := ?_) (a' := ?_) #[true, true, false, false, false, false, false, false, false] rfl rfl (any_of HT_.out (by kernel_rfl)) (fun _ _ _ h => h) (Or.inl ⟨by rfl, ?_⟩) ?_ ?_
       rotate_left
       ·intro w'
        go_simp
        with_reducible rfl
       rotate_left
       ·simp only [Act.put, List.setIfInBounds_toArray, List.set_cons_zero, List.set_cons_succ, i64_w, i32_w]
        rfl
       refine pure_ (i := 2) (N := some 58) (v := ?_) (a' := ?_) #[true, true, true, false, false, false, false, false, false] rfl rfl (any_of HT_.out (by kernel_rfl)) (fun _ _ _ h => h) (Or.inl ⟨by rfl, ?_⟩) ?_ ?_
       rotate_left
       ·intro w'
        go_simp
        with_reducible rfl
       rotate_left
       ·simp only [Act.put, List.setIfInBounds_toArray, List.set_cons_zero, List.set_cons_succ, i64_w, i32_w]
        rfl
       refine pure_ (i := 4) (N := some 60) (v := ?_) (a' := ?_) #[true, true, true, false, true, false, false, false, false] rfl rfl (any_of HT_.out (by kernel_rfl)) (fun _ _ _ h => h) (Or.inl ⟨by rfl, ?_⟩) ?_ ?_
       rotate_left
       ·intro w'
        go_simp
        with_reducible rfl
       rotate_left
       ·simp only [Act.put, List.setIfInBounds_toArray, List.set_cons_zero, List.set_cons_succ, i64_w, i32_w]
        rfl
       refine pure_ (i := 5) (N := some 61) (v := ?_) (a' := ?_) #[true, true, true, false, true, true, false, false, false] rfl rfl (any_of HT_.out (by kernel_rfl)) (fun _ _ _ h => h) (Or.inl ⟨by rfl, ?_⟩) ?_ ?_
       rotate_left
       ·intro w'
        go_simp
        with_reducible rfl
       rotate_left
       ·simp only [Act.put, List.setIfInBounds_toArray, List.set_cons_zero, List.set_cons_succ, i64_w, i32_w]
        rfl
       refine pure_ (i := 6) (N := some 62) (v := ?_) (a' := ?_) #[true, true, true, false, true, true, true, false, false] rfl rfl (any_of HT_.out (by kernel_rfl)) (fun _ _ _ h => h) (Or.inl ⟨by rfl, ?_⟩) ?_ ?_
       rotate_left
       ·intro w'
        go_simp
        with_reducible rfl
       rotate_left
       ·simp only [Act.put, List.setIfInBounds_toArray, List.set_cons_zero, List.set_cons_succ, i64_w, i32_w]
        rfl
       refine take_ (i := 3) (N := some 59) (v := ?_) (a' := ?_) #[true, true, true, true, true, true, true, false, false] rfl rfl (take_ofW HT_.out HW_.out (by kernel_rfl)) (fun _ _ _ h => h) (Or.inl ⟨by rfl, ?_⟩) hHeld ?_ ?_
       rotate_left
       ·rintro w' ⟨s0, s1⟩
        go_simp
        with_reducible rfl
       rotate_left
       ·simp only [Act.put, List.setIfInBounds_toArray, List.set_cons_zero, List.set_cons_succ, i64_w, i32_w]
        rfl
       refine take_ (i := 7) (N := some 63) (v := ?_) (a' := ?_) #[true, true, true, true, true, true, true, true, false] rfl rfl (take_ofW HT_.out HW_.out (by kernel_rfl)) (fun _ _ _ h => h) (Or.inl ⟨by rfl, ?_⟩) hHeld ?_ ?_
       rotate_left
       ·rintro w' ⟨s0, s1⟩
        go_simp
        with_reducible rfl
       rotate_left
       ·simp only [Act.put, List.setIfInBounds_toArray, List.set_cons_zero, List.set_cons_succ, i64_w, i32_w]
        rfl
       refine pure_ (i := 8) (N := some 64) (v := ?_) (a' := ?_) #[true, true, true, true, true, true, true, true, true] rfl rfl (any_of HT_.out (by kernel_rfl)) (fun _ _ _ h => h) (Or.inl ⟨by rfl, ?_⟩) ?_ ?_
       rotate_left
       ·intro w'
        go_simp
        with_reducible rfl
       rotate_left
       ·simp only [Act.put, List.setIfInBounds_toArray, List.set_cons_zero, List.set_cons_succ, i64_w, i32_w]
        rfl
       refine done_ (done_of HT_.out (by kernel_rfl)) ?_
       go_upto_if 64 with (fail)
       go_cut [17] (fun v17 wc => ∃ (kq : Nat) (x17_19 : Int), v17 = .int .i64 x17_19 ∧ Aside0 (linotypelaw23_ExprSums.j0 kq t212 t223 t227 t229 x17_19 = some r) ∧ Aside0 (kq ≤ k) ∧ Aside0 (Kd.R k32 32 wc w.heap.size (fun _ => True) v224 t223) ∧ Aside0 (Below w.heap.size w wc))
       case first =>
        have H := HC20.out
        clear HC20
        by_cases c31 : (rd y218 t214) > (rd y218 t213)
        ·rw [if_pos c31] at H
         have c31b0 : decide ((rd y218 t213) < (rd y218 t214)) = true := decide_eq_true c31
         clear c31
         (first | rw [c31b0] | (simp only [i64_w, i32_w]; rw [c31b0]) | skip)
         have H' := Aside0.mk H
         clear H
         go_wp2
         go_meet
         case rel => exact ⟨_, (t229), (by first | rfl | (simp; done) | (simp [*]; done)), H', ⟨by first | omega | exact Nat.le_refl _⟩, ⟨by (with_reducible repeat (first | apply Kd.R_alloc | apply Kd.R_drewN | apply Kd.R_drew)); exact HO225.out⟩, ⟨by repeat (first | (with_reducible first | exact HB.out | apply below_alloc | apply pw_below_drewN | apply below_drew1) | exact HB.out)⟩⟩
        ·rw [if_neg c31] at H
         have c31b0 : decide ((rd y218 t213) < (rd y218 t214)) = false := decide_eq_false c31
         clear c31
         (first | rw [c31b0] | (simp only [i64_w, i32_w]; rw [c31b0]) | skip)
         have H' := Aside0.mk H
         clear H
         go_wp2
         go_meet
         case rel => exact ⟨_, (t227), (by first | rfl | (simp; done) | (simp [*]; done)), H', ⟨by first | omega | exact Nat.le_refl _⟩, ⟨by (with_reducible repeat (first | apply Kd.R_alloc | apply Kd.R_drewN | apply Kd.R_drew)); exact HO225.out⟩, ⟨by repeat (first | (with_reducible first | exact HB.out | apply below_alloc | apply pw_below_drewN | apply below_drew1) | exact HB.out)⟩⟩
       case rest =>
        clear HC20
        try clear c1
        try clear p2
        try clear q2
        try clear hx2
        try clear c3
        try clear c5
        try clear c9
        try clear c9b0
        try clear c10
        try clear c10b0
        try clear c11
        try clear c11b0
        try clear c12
        try clear c12b0
        try clear c13
        try clear c14
        try clear c18
        try clear c18b0
        try clear c19
        try clear c19b0
        try clear p22
        try clear q22
        try clear hx22
        try clear p23
        try clear q23
        try clear hx23
        try clear c31
        try clear c31b0
        try clear hx221_0
        try clear hx222_0
        try clear hx230_0
        try clear hx231_0
        try clear p221
        try clear p222
        try clear p230
        try clear p231
        try clear q221
        try clear q222
        try clear q230
        try clear q231
        obtain ⟨kq, x17_19, rfl, HA, HJ19, HO_14, HB⟩ := hcut
        cases kq with
        | zero => exact absurd HA.out (by simp [linotypelaw23_ExprSums.j0])
        | succ kj19 =>
         have H := HA.out
         clear HA
         simp only [linotypelaw23_ExprSums.j0] at H
         obtain ⟨y234, hy234⟩ : ∃ y_ : List (S32), y_ = (([(⟨4, 0, (⟨#[40]⟩ : ByteArray), 0⟩ : S32)] : List (S32))) := ⟨_, rfl⟩
         replace H : (if 3 ≤ (t223.length : Int) then ((some (t223.take 3 : List (S32))).bind fun y237 => (if y234.length + y237.length < 3518437208883 then ((some (y234 ++ y237 : List (S32))).bind fun y241 => ((some (([(⟨4, 0, (⟨#[41]⟩ : ByteArray), 0⟩ : S32)] : List (S32)) : List (S32))).bind fun y244 => (if y241.length + y244.length < 3518437208883 then ((some (y241 ++ y244 : List (S32))).bind fun y247 => ((some (t223.drop 3 : List (S32))).bind fun y250 => (if y247.length + y250.length < 3518437208883 then ((some (([] : List (S32)) : List (S32))).bind fun y257 => (if 2 ≤ (t223.length : Int) then ((some (t223.take 2 : List (S32))).bind fun y260 => (if y257.length + y260.length < 3518437208883 then ((some (y257 ++ y260 : List (S32))).bind fun y264 => ((some (([(⟨4, 0, (⟨#[40]⟩ : ByteArray), 0⟩ : S32)] : List (S32)) : List (S32))).bind fun y267 => (if y264.length + y267.length < 3518437208883 then ((some (y264 ++ y267 : List (S32))).bind fun y270 => ((some (t223.drop 2 : List (S32))).bind fun y273 => (if y270.length + y273.length < 3518437208883 then ((some (y270 ++ y273 : List (S32))).bind fun y277 => ((some (([(⟨4, 0, (⟨#[41]⟩ : ByteArray), 0⟩ : S32)] : List (S32)) : List (S32))).bind fun y280 => (if y277.length + y280.length < 3518437208883 then (if t212 = true then ((linotypelaw23_worth.f kj19 t223 x17_19).bind fun t286 => (if t286 = true then ((linotypelaw23_worth.f kj19 (y247 ++ y250) t227).bind fun t287 => (if t287 = true then ((linotypelaw23_worth.f kj19 (y277 ++ y280) t229).bind fun t288 => (some t288)) else (none))) else (none))) else (none)) else (none)))) else (none)))) else (none)))) else (none))) else (none))) else (none)))) else (none)))) else (none))) else (none)) = some r := by first | (rw [hy234]; with_reducible exact H) | (have H2_ := (Option.bind_some _ _).symm.trans H; rw [hy234]; with_reducible exact H2_) | (have H2_ := (Option.bind_some _ _).symm.trans H; with_reducible exact H2_) | with_reducible exact H | (rw [hy234]; exact H) | exact H
         have Ny234 := Aside0.mk hy234
         clear hy234
         by_cases c32 : 3 ≤ (t223.length : Int)
         ·rw [if_pos c32] at H
          have c32b0 := eq_true c32
          have c32b1 : decide (3 ≤ (t223.length : Int)) = true := decide_eq_true c32
          clear c32
          obtain ⟨y237, hy237⟩ : ∃ y_ : List (S32), y_ = (t223.take 3) := ⟨_, rfl⟩
          replace H : (if y234.length + y237.length < 3518437208883 then ((some (y234 ++ y237 : List (S32))).bind fun y241 => ((some (([(⟨4, 0, (⟨#[41]⟩ : ByteArray), 0⟩ : S32)] : List (S32)) : List (S32))).bind fun y244 => (if y241.length + y244.length < 3518437208883 then ((some (y241 ++ y244 : List (S32))).bind fun y247 => ((some (t223.drop 3 : List (S32))).bind fun y250 => (if y247.length + y250.length < 3518437208883 then ((some (([] : List (S32)) : List (S32))).bind fun y257 => (if 2 ≤ (t223.length : Int) then ((some (t223.take 2 : List (S32))).bind fun y260 => (if y257.length + y260.length < 3518437208883 then ((some (y257 ++ y260 : List (S32))).bind fun y264 => ((some (([(⟨4, 0, (⟨#[40]⟩ : ByteArray), 0⟩ : S32)] : List (S32)) : List (S32))).bind fun y267 => (if y264.length + y267.length < 3518437208883 then ((some (y264 ++ y267 : List (S32))).bind fun y270 => ((some (t223.drop 2 : List (S32))).bind fun y273 => (if y270.length + y273.length < 3518437208883 then ((some (y270 ++ y273 : List (S32))).bind fun y277 => ((some (([(⟨4, 0, (⟨#[41]⟩ : ByteArray), 0⟩ : S32)] : List (S32)) : List (S32))).bind fun y280 => (if y277.length + y280.length < 3518437208883 then (if t212 = true then ((linotypelaw23_worth.f kj19 t223 x17_19).bind fun t286 => (if t286 = true then ((linotypelaw23_worth.f kj19 (y247 ++ y250) t227).bind fun t287 => (if t287 = true then ((linotypelaw23_worth.f kj19 (y277 ++ y280) t229).bind fun t288 => (some t288)) else (none))) else (none))) else (none)) else (none)))) else (none)))) else (none)))) else (none))) else (none))) else (none)))) else (none)))) else (none)) = some r := by first | (rw [hy237]; with_reducible exact H) | (have H2_ := (Option.bind_some _ _).symm.trans H; rw [hy237]; with_reducible exact H2_) | (have H2_ := (Option.bind_some _ _).symm.trans H; with_reducible exact H2_) | with_reducible exact H | (rw [hy237]; exact H) | exact H
          have Ny237 := Aside0.mk hy237
          clear hy237
          by_cases c33 : y234.length + y237.length < 3518437208883
          ·rw [if_pos c33] at H
           have LMc33 := Aside0.mk c33
           clear c33
           obtain ⟨y241, hy241⟩ : ∃ y_ : List (S32), y_ = (y234 ++ y237) := ⟨_, rfl⟩
           replace H : ((some (([(⟨4, 0, (⟨#[41]⟩ : ByteArray), 0⟩ : S32)] : List (S32)) : List (S32))).bind fun y244 => (if y241.length + y244.length < 3518437208883 then ((some (y241 ++ y244 : List (S32))).bind fun y247 => ((some (t223.drop 3 : List (S32))).bind fun y250 => (if y247.length + y250.length < 3518437208883 then ((some (([] : List (S32)) : List (S32))).bind fun y257 => (if 2 ≤ (t223.length : Int) then ((some (t223.take 2 : List (S32))).bind fun y260 => (if y257.length + y260.length < 3518437208883 then ((some (y257 ++ y260 : List (S32))).bind fun y264 => ((some (([(⟨4, 0, (⟨#[40]⟩ : ByteArray), 0⟩ : S32)] : List (S32)) : List (S32))).bind fun y267 => (if y264.length + y267.length < 3518437208883 then ((some (y264 ++ y267 : List (S32))).bind fun y270 => ((some (t223.drop 2 : List (S32))).bind fun y273 => (if y270.length + y273.length < 3518437208883 then ((some (y270 ++ y273 : List (S32))).bind fun y277 => ((some (([(⟨4, 0, (⟨#[41]⟩ : ByteArray), 0⟩ : S32)] : List (S32)) : List (S32))).bind fun y280 => (if y277.length + y280.length < 3518437208883 then (if t212 = true then ((linotypelaw23_worth.f kj19 t223 x17_19).bind fun t286 => (if t286 = true then ((linotypelaw23_worth.f kj19 (y247 ++ y250) t227).bind fun t287 => (if t287 = true then ((linotypelaw23_worth.f kj19 (y277 ++ y280) t229).bind fun t288 => (some t288)) else (none))) else (none))) else (none)) else (none)))) else (none)))) else (none)))) else (none))) else (none))) else (none)))) else (none))) = some r := by first | (rw [hy241]; with_reducible exact H) | (have H2_ := (Option.bind_some _ _).symm.trans H; rw [hy241]; with_reducible exact H2_) | (have H2_ := (Option.bind_some _ _).symm.trans H; with_reducible exact H2_) | with_reducible exact H | (rw [hy241]; exact H) | exact H
           have Ny241 := Aside0.mk hy241
           clear hy241
           obtain ⟨y244, hy244⟩ : ∃ y_ : List (S32), y_ = (([(⟨4, 0, (⟨#[41]⟩ : ByteArray), 0⟩ : S32)] : List (S32))) := ⟨_, rfl⟩
           replace H : (if y241.length + y244.length < 3518437208883 then ((some (y241 ++ y244 : List (S32))).bind fun y247 => ((some (t223.drop 3 : List (S32))).bind fun y250 => (if y247.length + y250.length < 3518437208883 then ((some (([] : List (S32)) : List (S32))).bind fun y257 => (if 2 ≤ (t223.length : Int) then ((some (t223.take 2 : List (S32))).bind fun y260 => (if y257.length + y260.length < 3518437208883 then ((some (y257 ++ y260 : List (S32))).bind fun y264 => ((some (([(⟨4, 0, (⟨#[40]⟩ : ByteArray), 0⟩ : S32)] : List (S32)) : List (S32))).bind fun y267 => (if y264.length + y267.length < 3518437208883 then ((some (y264 ++ y267 : List (S32))).bind fun y270 => ((some (t223.drop 2 : List (S32))).bind fun y273 => (if y270.length + y273.length < 3518437208883 then ((some (y270 ++ y273 : List (S32))).bind fun y277 => ((some (([(⟨4, 0, (⟨#[41]⟩ : ByteArray), 0⟩ : S32)] : List (S32)) : List (S32))).bind fun y280 => (if y277.length + y280.length < 3518437208883 then (if t212 = true then ((linotypelaw23_worth.f kj19 t223 x17_19).bind fun t286 => (if t286 = true then ((linotypelaw23_worth.f kj19 (y247 ++ y250) t227).bind fun t287 => (if t287 = true then ((linotypelaw23_worth.f kj19 (y277 ++ y280) t229).bind fun t288 => (some t288)) else (none))) else (none))) else (none)) else (none)))) else (none)))) else (none)))) else (none))) else (none))) else (none)))) else (none)) = some r := by first | (rw [hy244]; with_reducible exact H) | (have H2_ := (Option.bind_some _ _).symm.trans H; rw [hy244]; with_reducible exact H2_) | (have H2_ := (Option.bind_some _ _).symm.trans H; with_reducible exact H2_) | with_reducible exact H | (rw [hy244]; exact H) | exact H
           have Ny244 := Aside0.mk hy244
           clear hy244
           by_cases c34 : y241.length + y244.length < 3518437208883
           ·rw [if_pos c34] at H
            have LMc34 := Aside0.mk c34
            clear c34
            obtain ⟨y247, hy247⟩ : ∃ y_ : List (S32), y_ = (y241 ++ y244) := ⟨_, rfl⟩
            replace H : ((some (t223.drop 3 : List (S32))).bind fun y250 => (if y247.length + y250.length < 3518437208883 then ((some (([] : List (S32)) : List (S32))).bind fun y257 => (if 2 ≤ (t223.length : Int) then ((some (t223.take 2 : List (S32))).bind fun y260 => (if y257.length + y260.length < 3518437208883 then ((some (y257 ++ y260 : List (S32))).bind fun y264 => ((some (([(⟨4, 0, (⟨#[40]⟩ : ByteArray), 0⟩ : S32)] : List (S32)) : List (S32))).bind fun y267 => (if y264.length + y267.length < 3518437208883 then ((some (y264 ++ y267 : List (S32))).bind fun y270 => ((some (t223.drop 2 : List (S32))).bind fun y273 => (if y270.length + y273.length < 3518437208883 then ((some (y270 ++ y273 : List (S32))).bind fun y277 => ((some (([(⟨4, 0, (⟨#[41]⟩ : ByteArray), 0⟩ : S32)] : List (S32)) : List (S32))).bind fun y280 => (if y277.length + y280.length < 3518437208883 then (if t212 = true then ((linotypelaw23_worth.f kj19 t223 x17_19).bind fun t286 => (if t286 = true then ((linotypelaw23_worth.f kj19 (y247 ++ y250) t227).bind fun t287 => (if t287 = true then ((linotypelaw23_worth.f kj19 (y277 ++ y280) t229).bind fun t288 => (some t288)) else (none))) else (none))) else (none)) else (none)))) else (none)))) else (none)))) else (none))) else (none))) else (none))) = some r := by first | (rw [hy247]; with_reducible exact H) | (have H2_ := (Option.bind_some _ _).symm.trans H; rw [hy247]; with_reducible exact H2_) | (have H2_ := (Option.bind_some _ _).symm.trans H; with_reducible exact H2_) | with_reducible exact H | (rw [hy247]; exact H) | exact H
            have Ny247 := Aside0.mk hy247
            clear hy247
            have c35b0 := eq_true (of_decide_eq_true (by first | (with_reducible assumption) | assumption) : 3 ≤ (t223.length : Int))
            obtain ⟨y250, hy250⟩ : ∃ y_ : List (S32), y_ = (t223.drop 3) := ⟨_, rfl⟩
            replace H : (if y247.length + y250.length < 3518437208883 then ((some (([] : List (S32)) : List (S32))).bind fun y257 => (if 2 ≤ (t223.length : Int) then ((some (t223.take 2 : List (S32))).bind fun y260 => (if y257.length + y260.length < 3518437208883 then ((some (y257 ++ y260 : List (S32))).bind fun y264 => ((some (([(⟨4, 0, (⟨#[40]⟩ : ByteArray), 0⟩ : S32)] : List (S32)) : List (S32))).bind fun y267 => (if y264.length + y267.length < 3518437208883 then ((some (y264 ++ y267 : List (S32))).bind fun y270 => ((some (t223.drop 2 : List (S32))).bind fun y273 => (if y270.length + y273.length < 3518437208883 then ((some (y270 ++ y273 : List (S32))).bind fun y277 => ((some (([(⟨4, 0, (⟨#[41]⟩ : ByteArray), 0⟩ : S32)] : List (S32)) : List (S32))).bind fun y280 => (if y277.length + y280.length < 3518437208883 then (if t212 = true then ((linotypelaw23_worth.f kj19 t223 x17_19).bind fun t286 => (if t286 = true then ((linotypelaw23_worth.f kj19 (y247 ++ y250) t227).bind fun t287 => (if t287 = true then ((linotypelaw23_worth.f kj19 (y277 ++ y280) t229).bind fun t288 => (some t288)) else (none))) else (none))) else (none)) else (none)))) else (none)))) else (none)))) else (none))) else (none))) else (none)) = some r := by first | (rw [hy250]; with_reducible exact H) | (have H2_ := (Option.bind_some _ _).symm.trans H; rw [hy250]; with_reducible exact H2_) | (have H2_ := (Option.bind_some _ _).symm.trans H; with_reducible exact H2_) | with_reducible exact H | (rw [hy250]; exact H) | exact H
            have Ny250 := Aside0.mk hy250
            clear hy250
            by_cases c36 : y247.length + y250.length < 3518437208883
            ·rw [if_pos c36] at H
             have LMc36 := Aside0.mk c36
             clear c36
             obtain ⟨y254, hy254⟩ : ∃ y_ : List (S32), y_ = (y247 ++ y250) := ⟨_, rfl⟩
             replace H : ((some (([] : List (S32)) : List (S32))).bind fun y257 => (if 2 ≤ (t223.length : Int) then ((some (t223.take 2 : List (S32))).bind fun y260 => (if y257.length + y260.length < 3518437208883 then ((some (y257 ++ y260 : List (S32))).bind fun y264 => ((some (([(⟨4, 0, (⟨#[40]⟩ : ByteArray), 0⟩ : S32)] : List (S32)) : List (S32))).bind fun y267 => (if y264.length + y267.length < 3518437208883 then ((some (y264 ++ y267 : List (S32))).bind fun y270 => ((some (t223.drop 2 : List (S32))).bind fun y273 => (if y270.length + y273.length < 3518437208883 then ((some (y270 ++ y273 : List (S32))).bind fun y277 => ((some (([(⟨4, 0, (⟨#[41]⟩ : ByteArray), 0⟩ : S32)] : List (S32)) : List (S32))).bind fun y280 => (if y277.length + y280.length < 3518437208883 then (if t212 = true then ((linotypelaw23_worth.f kj19 t223 x17_19).bind fun t286 => (if t286 = true then ((linotypelaw23_worth.f kj19 y254 t227).bind fun t287 => (if t287 = true then ((linotypelaw23_worth.f kj19 (y277 ++ y280) t229).bind fun t288 => (some t288)) else (none))) else (none))) else (none)) else (none)))) else (none)))) else (none)))) else (none))) else (none))) = some r := by first | (rw [hy254]; with_reducible exact H) | (have H2_ := (Option.bind_some _ _).symm.trans H; rw [hy254]; with_reducible exact H2_) | (have H2_ := (Option.bind_some _ _).symm.trans H; with_reducible exact H2_) | with_reducible exact H | (rw [hy254]; exact H) | exact H
             have Ny254 := Aside0.mk hy254
             clear hy254
             obtain ⟨y257, hy257⟩ : ∃ y_ : List (S32), y_ = (([] : List (S32))) := ⟨_, rfl⟩
             replace H : (if 2 ≤ (t223.length : Int) then ((some (t223.take 2 : List (S32))).bind fun y260 => (if y257.length + y260.length < 3518437208883 then ((some (y257 ++ y260 : List (S32))).bind fun y264 => ((some (([(⟨4, 0, (⟨#[40]⟩ : ByteArray), 0⟩ : S32)] : List (S32)) : List (S32))).bind fun y267 => (if y264.length + y267.length < 3518437208883 then ((some (y264 ++ y267 : List (S32))).bind fun y270 => ((some (t223.drop 2 : List (S32))).bind fun y273 => (if y270.length + y273.length < 3518437208883 then ((some (y270 ++ y273 : List (S32))).bind fun y277 => ((some (([(⟨4, 0, (⟨#[41]⟩ : ByteArray), 0⟩ : S32)] : List (S32)) : List (S32))).bind fun y280 => (if y277.length + y280.length < 3518437208883 then (if t212 = true then ((linotypelaw23_worth.f kj19 t223 x17_19).bind fun t286 => (if t286 = true then ((linotypelaw23_worth.f kj19 y254 t227).bind fun t287 => (if t287 = true then ((linotypelaw23_worth.f kj19 (y277 ++ y280) t229).bind fun t288 => (some t288)) else (none))) else (none))) else (none)) else (none)))) else (none)))) else (none)))) else (none))) else (none)) = some r := by first | (rw [hy257]; with_reducible exact H) | (have H2_ := (Option.bind_some _ _).symm.trans H; rw [hy257]; with_reducible exact H2_) | (have H2_ := (Option.bind_some _ _).symm.trans H; with_reducible exact H2_) | with_reducible exact H | (rw [hy257]; exact H) | exact H
             have Ny257 := Aside0.mk hy257
             clear hy257
             by_cases c37 : 2 ≤ (t223.length : Int)
             ·rw [if_pos c37] at H
              have c37b0 := eq_true c37
              have c37b1 : decide (2 ≤ (t223.length : Int)) = true := decide_eq_true c37
              clear c37
              obtain ⟨y260, hy260⟩ : ∃ y_ : List (S32), y_ = (t223.take 2) := ⟨_, rfl⟩
              replace H : (if y257.length + y260.length < 3518437208883 then ((some (y257 ++ y260 : List (S32))).bind fun y264 => ((some (([(⟨4, 0, (⟨#[40]⟩ : ByteArray), 0⟩ : S32)] : List (S32)) : List (S32))).bind fun y267 => (if y264.length + y267.length < 3518437208883 then ((some (y264 ++ y267 : List (S32))).bind fun y270 => ((some (t223.drop 2 : List (S32))).bind fun y273 => (if y270.length + y273.length < 3518437208883 then ((some (y270 ++ y273 : List (S32))).bind fun y277 => ((some (([(⟨4, 0, (⟨#[41]⟩ : ByteArray), 0⟩ : S32)] : List (S32)) : List (S32))).bind fun y280 => (if y277.length + y280.length < 3518437208883 then (if t212 = true then ((linotypelaw23_worth.f kj19 t223 x17_19).bind fun t286 => (if t286 = true then ((linotypelaw23_worth.f kj19 y254 t227).bind fun t287 => (if t287 = true then ((linotypelaw23_worth.f kj19 (y277 ++ y280) t229).bind fun t288 => (some t288)) else (none))) else (none))) else (none)) else (none)))) else (none)))) else (none)))) else (none)) = some r := by first | (rw [hy260]; with_reducible exact H) | (have H2_ := (Option.bind_some _ _).symm.trans H; rw [hy260]; with_reducible exact H2_) | (have H2_ := (Option.bind_some _ _).symm.trans H; with_reducible exact H2_) | with_reducible exact H | (rw [hy260]; exact H) | exact H
              have Ny260 := Aside0.mk hy260
              clear hy260
              by_cases c38 : y257.length + y260.length < 3518437208883
              ·rw [if_pos c38] at H
               have LMc38 := Aside0.mk c38
               clear c38
               obtain ⟨y264, hy264⟩ : ∃ y_ : List (S32), y_ = (y257 ++ y260) := ⟨_, rfl⟩
               replace H : ((some (([(⟨4, 0, (⟨#[40]⟩ : ByteArray), 0⟩ : S32)] : List (S32)) : List (S32))).bind fun y267 => (if y264.length + y267.length < 3518437208883 then ((some (y264 ++ y267 : List (S32))).bind fun y270 => ((some (t223.drop 2 : List (S32))).bind fun y273 => (if y270.length + y273.length < 3518437208883 then ((some (y270 ++ y273 : List (S32))).bind fun y277 => ((some (([(⟨4, 0, (⟨#[41]⟩ : ByteArray), 0⟩ : S32)] : List (S32)) : List (S32))).bind fun y280 => (if y277.length + y280.length < 3518437208883 then (if t212 = true then ((linotypelaw23_worth.f kj19 t223 x17_19).bind fun t286 => (if t286 = true then ((linotypelaw23_worth.f kj19 y254 t227).bind fun t287 => (if t287 = true then ((linotypelaw23_worth.f kj19 (y277 ++ y280) t229).bind fun t288 => (some t288)) else (none))) else (none))) else (none)) else (none)))) else (none)))) else (none))) = some r := by first | (rw [hy264]; with_reducible exact H) | (have H2_ := (Option.bind_some _ _).symm.trans H; rw [hy264]; with_reducible exact H2_) | (have H2_ := (Option.bind_some _ _).symm.trans H; with_reducible exact H2_) | with_reducible exact H | (rw [hy264]; exact H) | exact H
               have Ny264 := Aside0.mk hy264
               clear hy264
               obtain ⟨y267, hy267⟩ : ∃ y_ : List (S32), y_ = (([(⟨4, 0, (⟨#[40]⟩ : ByteArray), 0⟩ : S32)] : List (S32))) := ⟨_, rfl⟩
               replace H : (if y264.length + y267.length < 3518437208883 then ((some (y264 ++ y267 : List (S32))).bind fun y270 => ((some (t223.drop 2 : List (S32))).bind fun y273 => (if y270.length + y273.length < 3518437208883 then ((some (y270 ++ y273 : List (S32))).bind fun y277 => ((some (([(⟨4, 0, (⟨#[41]⟩ : ByteArray), 0⟩ : S32)] : List (S32)) : List (S32))).bind fun y280 => (if y277.length + y280.length < 3518437208883 then (if t212 = true then ((linotypelaw23_worth.f kj19 t223 x17_19).bind fun t286 => (if t286 = true then ((linotypelaw23_worth.f kj19 y254 t227).bind fun t287 => (if t287 = true then ((linotypelaw23_worth.f kj19 (y277 ++ y280) t229).bind fun t288 => (some t288)) else (none))) else (none))) else (none)) else (none)))) else (none)))) else (none)) = some r := by first | (rw [hy267]; with_reducible exact H) | (have H2_ := (Option.bind_some _ _).symm.trans H; rw [hy267]; with_reducible exact H2_) | (have H2_ := (Option.bind_some _ _).symm.trans H; with_reducible exact H2_) | with_reducible exact H | (rw [hy267]; exact H) | exact H
               have Ny267 := Aside0.mk hy267
               clear hy267
               by_cases c39 : y264.length + y267.length < 3518437208883
               ·rw [if_pos c39] at H
                have LMc39 := Aside0.mk c39
                clear c39
                obtain ⟨y270, hy270⟩ : ∃ y_ : List (S32), y_ = (y264 ++ y267) := ⟨_, rfl⟩
                replace H : ((some (t223.drop 2 : List (S32))).bind fun y273 => (if y270.length + y273.length < 3518437208883 then ((some (y270 ++ y273 : List (S32))).bind fun y277 => ((some (([(⟨4, 0, (⟨#[41]⟩ : ByteArray), 0⟩ : S32)] : List (S32)) : List (S32))).bind fun y280 => (if y277.length + y280.length < 3518437208883 then (if t212 = true then ((linotypelaw23_worth.f kj19 t223 x17_19).bind fun t286 => (if t286 = true then ((linotypelaw23_worth.f kj19 y254 t227).bind fun t287 => (if t287 = true then ((linotypelaw23_worth.f kj19 (y277 ++ y280) t229).bind fun t288 => (some t288)) else (none))) else (none))) else (none)) else (none)))) else (none))) = some r := by first | (rw [hy270]; with_reducible exact H) | (have H2_ := (Option.bind_some _ _).symm.trans H; rw [hy270]; with_reducible exact H2_) | (have H2_ := (Option.bind_some _ _).symm.trans H; with_reducible exact H2_) | with_reducible exact H | (rw [hy270]; exact H) | exact H
                have Ny270 := Aside0.mk hy270
                clear hy270
                have c40b0 := eq_true (of_decide_eq_true (by first | (with_reducible assumption) | assumption) : 2 ≤ (t223.length : Int))
                obtain ⟨y273, hy273⟩ : ∃ y_ : List (S32), y_ = (t223.drop 2) := ⟨_, rfl⟩
                replace H : (if y270.length + y273.length < 3518437208883 then ((some (y270 ++ y273 : List (S32))).bind fun y277 => ((some (([(⟨4, 0, (⟨#[41]⟩ : ByteArray), 0⟩ : S32)] : List (S32)) : List (S32))).bind fun y280 => (if y277.length + y280.length < 3518437208883 then (if t212 = true then ((linotypelaw23_worth.f kj19 t223 x17_19).bind fun t286 => (if t286 = true then ((linotypelaw23_worth.f kj19 y254 t227).bind fun t287 => (if t287 = true then ((linotypelaw23_worth.f kj19 (y277 ++ y280) t229).bind fun t288 => (some t288)) else (none))) else (none))) else (none)) else (none)))) else (none)) = some r := by first | (rw [hy273]; with_reducible exact H) | (have H2_ := (Option.bind_some _ _).symm.trans H; rw [hy273]; with_reducible exact H2_) | (have H2_ := (Option.bind_some _ _).symm.trans H; with_reducible exact H2_) | with_reducible exact H | (rw [hy273]; exact H) | exact H
                have Ny273 := Aside0.mk hy273
                clear hy273
                by_cases c41 : y270.length + y273.length < 3518437208883
                ·rw [if_pos c41] at H
                 have LMc41 := Aside0.mk c41
                 clear c41
                 obtain ⟨y277, hy277⟩ : ∃ y_ : List (S32), y_ = (y270 ++ y273) := ⟨_, rfl⟩
                 replace H : ((some (([(⟨4, 0, (⟨#[41]⟩ : ByteArray), 0⟩ : S32)] : List (S32)) : List (S32))).bind fun y280 => (if y277.length + y280.length < 3518437208883 then (if t212 = true then ((linotypelaw23_worth.f kj19 t223 x17_19).bind fun t286 => (if t286 = true then ((linotypelaw23_worth.f kj19 y254 t227).bind fun t287 => (if t287 = true then ((linotypelaw23_worth.f kj19 (y277 ++ y280) t229).bind fun t288 => (some t288)) else (none))) else (none))) else (none)) else (none))) = some r := by first | (rw [hy277]; with_reducible exact H) | (have H2_ := (Option.bind_some _ _).symm.trans H; rw [hy277]; with_reducible exact H2_) | (have H2_ := (Option.bind_some _ _).symm.trans H; with_reducible exact H2_) | with_reducible exact H | (rw [hy277]; exact H) | exact H
                 have Ny277 := Aside0.mk hy277
                 clear hy277
                 obtain ⟨y280, hy280⟩ : ∃ y_ : List (S32), y_ = (([(⟨4, 0, (⟨#[41]⟩ : ByteArray), 0⟩ : S32)] : List (S32))) := ⟨_, rfl⟩
                 replace H : (if y277.length + y280.length < 3518437208883 then (if t212 = true then ((linotypelaw23_worth.f kj19 t223 x17_19).bind fun t286 => (if t286 = true then ((linotypelaw23_worth.f kj19 y254 t227).bind fun t287 => (if t287 = true then ((linotypelaw23_worth.f kj19 (y277 ++ y280) t229).bind fun t288 => (some t288)) else (none))) else (none))) else (none)) else (none)) = some r := by first | (rw [hy280]; with_reducible exact H) | (have H2_ := (Option.bind_some _ _).symm.trans H; rw [hy280]; with_reducible exact H2_) | (have H2_ := (Option.bind_some _ _).symm.trans H; with_reducible exact H2_) | with_reducible exact H | (rw [hy280]; exact H) | exact H
                 have Ny280 := Aside0.mk hy280
                 clear hy280
                 by_cases c42 : y277.length + y280.length < 3518437208883
                 ·rw [if_pos c42] at H
                  have LMc42 := Aside0.mk c42
                  clear c42
                  obtain ⟨y283, hy283⟩ : ∃ y_ : List (S32), y_ = (y277 ++ y280) := ⟨_, rfl⟩
                  replace H : (if t212 = true then ((linotypelaw23_worth.f kj19 t223 x17_19).bind fun t286 => (if t286 = true then ((linotypelaw23_worth.f kj19 y254 t227).bind fun t287 => (if t287 = true then ((linotypelaw23_worth.f kj19 y283 t229).bind fun t288 => (some t288)) else (none))) else (none))) else (none)) = some r := by first | (rw [hy283]; with_reducible exact H) | (have H2_ := (Option.bind_some _ _).symm.trans H; rw [hy283]; with_reducible exact H2_) | (have H2_ := (Option.bind_some _ _).symm.trans H; with_reducible exact H2_) | with_reducible exact H | (rw [hy283]; exact H) | exact H
                  have Ny283 := Aside0.mk hy283
                  clear hy283
                  by_cases c43 : t212 = true
                  ·subst c43
                   have H1 : ((linotypelaw23_worth.f kj19 t223 x17_19).bind fun t286 => (if t286 = true then ((linotypelaw23_worth.f kj19 y254 t227).bind fun t287 => (if t287 = true then ((linotypelaw23_worth.f kj19 y283 t229).bind fun t288 => (some t288)) else (none))) else (none))) = some r := by rw [if_pos rfl] at H; exact H
                   clear H
                   have H := H1
                   clear H1
                   replace H := Option.bind_eq_some_iff.mp H
                   obtain ⟨t286, A440, H⟩ := H
                   replace H : (if t286 = true then ((linotypelaw23_worth.f kj19 y254 t227).bind fun t287 => (if t287 = true then ((linotypelaw23_worth.f kj19 y283 t229).bind fun t288 => (some t288)) else (none))) else (none)) = some r := H
                   have A44 := Aside0.mk A440
                   clear A440
                   by_cases c45 : t286 = true
                   ·subst c45
                    have H1 : ((linotypelaw23_worth.f kj19 y254 t227).bind fun t287 => (if t287 = true then ((linotypelaw23_worth.f kj19 y283 t229).bind fun t288 => (some t288)) else (none))) = some r := by rw [if_pos rfl] at H; exact H
                    clear H
                    have H := H1
                    clear H1
                    replace H := Option.bind_eq_some_iff.mp H
                    obtain ⟨t287, A460, H⟩ := H
                    replace H : (if t287 = true then ((linotypelaw23_worth.f kj19 y283 t229).bind fun t288 => (some t288)) else (none)) = some r := H
                    have A46 := Aside0.mk A460
                    clear A460
                    by_cases c47 : t287 = true
                    ·subst c47
                     have H1 : ((linotypelaw23_worth.f kj19 y283 t229).bind fun t288 => (some t288)) = some r := by rw [if_pos rfl] at H; exact H
                     clear H
                     have H := H1
                     clear H1
                     replace H := Option.bind_eq_some_iff.mp H
                     obtain ⟨t288, A480, H⟩ := H
                     replace H : (some t288) = some r := H
                     have A48 := Aside0.mk A480
                     clear A480
                     obtain rfl := Option.some.inj H
                     try go_wp2_with (first | ((with_reducible refine gate_dst (N := 18) rfl ?_); refine box_event ?hg (N := 18) ?hd (cs := #[.int .i64 0, .int .i64 0, .string (⟨#[]⟩ : ByteArray), .int .i64 0]) (t := 32) ?hr ?_; (case hd => rfl); (case hg => rfl); (case hr => first | (go_simp; done) | (go_simp; rfl)); intro gb232 hg w49 hbox hb; have n0_ := Aside0.mk (Kd.R_below (Kd.R_elderB (by (with_reducible repeat (first | apply Kd.R_alloc | apply Kd.R_drewN | apply Kd.R_drew)); exact HO_14.out) gb232 (Nat.le_of_eq hg.symm)) hb); have n1_ := Aside0.mk (below_step (by repeat (first | (with_reducible first | exact HB.out | apply below_alloc | apply pw_below_drewN | apply below_drew1) | exact HB.out)) hb); have n2_ := Aside0.mk (hbox); have n3_ := Aside0.mk ((by rw [hg]; exact (below_size (by repeat (first | (with_reducible first | exact HB.out | apply below_alloc | apply pw_below_drewN | apply below_drew1) | exact HB.out))) : w.heap.size ≤ gb232)); have n4_ := Aside0.mk ((by rw [hg]; exact (below_size (by repeat (first | (with_reducible first | exact HB.out | apply below_alloc | apply pw_below_drewN | apply below_drew1) | exact HB.out))) : w.heap.size ≤ gb232)); clear HO_14; clear HB; have HO_14 := n0_; have HB := n1_; have BK232 := n2_; have GW232 := n3_; have GE232 := n4_; clear n0_ n1_ n2_ n3_ n4_; clear hb hbox hg) | ((with_reducible refine gate_dst (N := 19) rfl ?_); refine box_event ?hg (N := 19) ?hd (cs := #[.int .i64 0, .int .i64 0, .string (⟨#[]⟩ : ByteArray), .int .i64 0]) (t := 32) ?hr ?_; (case hd => rfl); (case hg => rfl); (case hr => first | (go_simp; done) | (go_simp; rfl)); intro gb233 hg w50 hbox hb; have n0_ := Aside0.mk (Kd.R_below (Kd.R_elderB (by (with_reducible repeat (first | apply Kd.R_alloc | apply Kd.R_drewN | apply Kd.R_drew)); exact HO_14.out) gb233 (Nat.le_of_eq hg.symm)) hb); have n1_ := Aside0.mk (blk_below (g := gb232) (o := .cells #[.int .i64 0, .int .i64 0, .string (⟨#[]⟩ : ByteArray), .int .i64 0] 32 (0, 0)) (by (with_reducible repeat (first | refine blk_drewN ?_ _ | refine blk_drew ?_ | refine blk_alloc ?_ _)); exact BK232.out) hb); have n2_ := Aside0.mk (below_step (by repeat (first | (with_reducible first | exact HB.out | apply below_alloc | apply pw_below_drewN | apply below_drew1 | refine below_set ?_ GE232.out) | exact HB.out)) hb); have n3_ := Aside0.mk (hbox); have n4_ := Aside0.mk ((by rw [hg]; exact (below_size (by repeat (first | (with_reducible first | exact HB.out | apply below_alloc | apply pw_below_drewN | apply below_drew1 | refine below_set ?_ GE232.out) | exact HB.out))) : w.heap.size ≤ gb233)); have n5_ := Aside0.mk ((by rw [hg]; exact (below_size (by repeat (first | (with_reducible first | exact HB.out | apply below_alloc | apply pw_below_drewN | apply below_drew1 | refine below_set ?_ GE232.out) | exact HB.out))) : w.heap.size ≤ gb233)); have n6_ := Aside0.mk ((by rw [hg]; exact Nat.ne_of_lt (blk_lt (g := gb232) (o := .cells #[.int .i64 0, .int .i64 0, .string (⟨#[]⟩ : ByteArray), .int .i64 0] 32 (0, 0)) (by (with_reducible repeat (first | refine blk_drewN ?_ _ | refine blk_drew ?_ | refine blk_alloc ?_ _)); exact BK232.out)) : gb232 ≠ gb233)); have n7_ := Aside0.mk ((by rw [hg]; exact Nat.ne_of_gt (blk_lt (g := gb232) (o := .cells #[.int .i64 0, .int .i64 0, .string (⟨#[]⟩ : ByteArray), .int .i64 0] 32 (0, 0)) (by (with_reducible repeat (first | refine blk_drewN ?_ _ | refine blk_drew ?_ | refine blk_alloc ?_ _)); exact BK232.out)) : gb233 ≠ gb232)); clear HO_14; clear BK232; clear HB; have HO_14 := n0_; have BK232 := n1_; have HB := n2_; have BK233 := n3_; have GW233 := n4_; have GE233 := n5_; have NB232_233 := n6_; have NB233_232 := n7_; clear n0_ n1_ n2_ n3_ n4_ n5_ n6_ n7_; clear hb hbox hg; have hnb51 := NB232_233.out; have hnc51 := NB233_232.out; have hcz52_0 : w50.cell? ⟨gb232, 0, none⟩ = some (.int .i64 0) := (blk_cell BK232.out 0).trans rfl; have hcz52_1 : w50.cell? ⟨gb232, 1, none⟩ = some (.int .i64 0) := (blk_cell BK232.out 1).trans rfl; have hcz52_2 : w50.cell? ⟨gb232, 2, none⟩ = some (.string (⟨#[]⟩ : ByteArray)) := (blk_cell BK232.out 2).trans rfl; have hcz52_3 : w50.cell? ⟨gb232, 3, none⟩ = some (.int .i64 0) := (blk_cell BK232.out 3).trans rfl; have hfz52_0 := blk_frozen BK232.out 0; have hfz52_1 := blk_frozen BK232.out 1; have hfz52_2 := blk_frozen BK232.out 2; have hfz52_3 := blk_frozen BK232.out 3; have hcz53_0 : w50.cell? ⟨gb233, 0, none⟩ = some (.int .i64 0) := (blk_cell BK233.out 0).trans rfl; have hcz53_1 : w50.cell? ⟨gb233, 1, none⟩ = some (.int .i64 0) := (blk_cell BK233.out 1).trans rfl; have hcz53_2 : w50.cell? ⟨gb233, 2, none⟩ = some (.string (⟨#[]⟩ : ByteArray)) := (blk_cell BK233.out 2).trans rfl; have hcz53_3 : w50.cell? ⟨gb233, 3, none⟩ = some (.int .i64 0) := (blk_cell BK233.out 3).trans rfl; have hfz53_0 := blk_frozen BK233.out 0; have hfz53_1 := blk_frozen BK233.out 1; have hfz53_2 := blk_frozen BK233.out 2; have hfz53_3 := blk_frozen BK233.out 3))
                     have n0_ : Aside0 (Kd.R k32 32 ((((((((w50.setCell ⟨gb232, 0, none⟩ (.int .i64 4)).setCell ⟨gb232, 1, none⟩ (.int .i64 0)).setCell ⟨gb232, 2, none⟩ (.string (⟨#[40]⟩ : ByteArray))).setCell ⟨gb232, 3, none⟩ (.int .i64 0)).setCell ⟨gb233, 0, none⟩ (.int .i64 4)).setCell ⟨gb233, 1, none⟩ (.int .i64 0)).setCell ⟨gb233, 2, none⟩ (.string (⟨#[41]⟩ : ByteArray))).setCell ⟨gb233, 3, none⟩ (.int .i64 0)) w.heap.size (fun k_ => k_ ≠ gb232 ∧ k_ ≠ gb233) v224 t223) := ⟨by (with_reducible repeat (first | apply Kd.R_alloc | apply Kd.R_drewN | apply Kd.R_drew)); exact Kd.R_mono (Kd.R_far (p := ⟨gb233, 3, none⟩) (Kd.R_far (p := ⟨gb233, 2, none⟩) (Kd.R_far (p := ⟨gb233, 1, none⟩) (Kd.R_far (p := ⟨gb233, 0, none⟩) (Kd.R_far (p := ⟨gb232, 3, none⟩) (Kd.R_far (p := ⟨gb232, 2, none⟩) (Kd.R_far (p := ⟨gb232, 1, none⟩) (Kd.R_far (p := ⟨gb232, 0, none⟩) (Kd.R_mono (Kd.R_mono HO_14.out (fun k_ hk => (⟨hk, hk.1.2⟩ : _ ∧ k_ ≠ gb232))) (fun k_ hk => (⟨hk, hk.1.2⟩ : _ ∧ k_ ≠ gb233))) (fun _ hk => hk.1.2) (.int .i64 4)) (fun _ hk => hk.1.2) (.int .i64 0)) (fun _ hk => hk.1.2) (.string (⟨#[40]⟩ : ByteArray))) (fun _ hk => hk.1.2) (.int .i64 0)) (fun _ hk => hk.2) (.int .i64 4)) (fun _ hk => hk.2) (.int .i64 0)) (fun _ hk => hk.2) (.string (⟨#[41]⟩ : ByteArray))) (fun _ hk => hk.2) (.int .i64 0)) (fun _ hk => ⟨hk.1.1.1.2, hk.1.1.2⟩)⟩
                     have n1_ : Aside0 (((((((((w50.setCell ⟨gb232, 0, none⟩ (.int .i64 4)).setCell ⟨gb232, 1, none⟩ (.int .i64 0)).setCell ⟨gb232, 2, none⟩ (.string (⟨#[40]⟩ : ByteArray))).setCell ⟨gb232, 3, none⟩ (.int .i64 0)).setCell ⟨gb233, 0, none⟩ (.int .i64 4)).setCell ⟨gb233, 1, none⟩ (.int .i64 0)).setCell ⟨gb233, 2, none⟩ (.string (⟨#[41]⟩ : ByteArray))).setCell ⟨gb233, 3, none⟩ (.int .i64 0)).heap[gb232]? = some (.cells #[.int .i64 4, .int .i64 0, .string (⟨#[40]⟩ : ByteArray), .int .i64 0] 32 (0, 0))) := ⟨by (with_reducible repeat (first | refine blk_drewN ?_ _ | refine blk_drew ?_ | refine blk_alloc ?_ _)); refine blk_far ?_ NB232_233.out _; (with_reducible repeat (first | refine blk_drewN ?_ _ | refine blk_drew ?_ | refine blk_alloc ?_ _)); refine blk_far ?_ NB232_233.out _; (with_reducible repeat (first | refine blk_drewN ?_ _ | refine blk_drew ?_ | refine blk_alloc ?_ _)); refine blk_far ?_ NB232_233.out _; (with_reducible repeat (first | refine blk_drewN ?_ _ | refine blk_drew ?_ | refine blk_alloc ?_ _)); refine blk_far ?_ NB232_233.out _; (with_reducible repeat (first | refine blk_drewN ?_ _ | refine blk_drew ?_ | refine blk_alloc ?_ _)); refine blk_put (cs := #[.int .i64 4, .int .i64 0, .string (⟨#[40]⟩ : ByteArray), .int .i64 0]) ?_ 3 _ rfl; (with_reducible repeat (first | refine blk_drewN ?_ _ | refine blk_drew ?_ | refine blk_alloc ?_ _)); refine blk_put (cs := #[.int .i64 4, .int .i64 0, .string (⟨#[]⟩ : ByteArray), .int .i64 0]) ?_ 2 _ rfl; (with_reducible repeat (first | refine blk_drewN ?_ _ | refine blk_drew ?_ | refine blk_alloc ?_ _)); refine blk_put (cs := #[.int .i64 4, .int .i64 0, .string (⟨#[]⟩ : ByteArray), .int .i64 0]) ?_ 1 _ rfl; (with_reducible repeat (first | refine blk_drewN ?_ _ | refine blk_drew ?_ | refine blk_alloc ?_ _)); refine blk_put (cs := #[.int .i64 0, .int .i64 0, .string (⟨#[]⟩ : ByteArray), .int .i64 0]) ?_ 0 _ rfl; (with_reducible repeat (first | refine blk_drewN ?_ _ | refine blk_drew ?_ | refine blk_alloc ?_ _)); exact BK232.out⟩
                     have n2_ : Aside0 (((((((((w50.setCell ⟨gb232, 0, none⟩ (.int .i64 4)).setCell ⟨gb232, 1, none⟩ (.int .i64 0)).setCell ⟨gb232, 2, none⟩ (.string (⟨#[40]⟩ : ByteArray))).setCell ⟨gb232, 3, none⟩ (.int .i64 0)).setCell ⟨gb233, 0, none⟩ (.int .i64 4)).setCell ⟨gb233, 1, none⟩ (.int .i64 0)).setCell ⟨gb233, 2, none⟩ (.string (⟨#[41]⟩ : ByteArray))).setCell ⟨gb233, 3, none⟩ (.int .i64 0)).heap[gb233]? = some (.cells #[.int .i64 4, .int .i64 0, .string (⟨#[41]⟩ : ByteArray), .int .i64 0] 32 (0, 0))) := ⟨by (with_reducible repeat (first | refine blk_drewN ?_ _ | refine blk_drew ?_ | refine blk_alloc ?_ _)); refine blk_put (cs := #[.int .i64 4, .int .i64 0, .string (⟨#[41]⟩ : ByteArray), .int .i64 0]) ?_ 3 _ rfl; (with_reducible repeat (first | refine blk_drewN ?_ _ | refine blk_drew ?_ | refine blk_alloc ?_ _)); refine blk_put (cs := #[.int .i64 4, .int .i64 0, .string (⟨#[]⟩ : ByteArray), .int .i64 0]) ?_ 2 _ rfl; (with_reducible repeat (first | refine blk_drewN ?_ _ | refine blk_drew ?_ | refine blk_alloc ?_ _)); refine blk_put (cs := #[.int .i64 4, .int .i64 0, .string (⟨#[]⟩ : ByteArray), .int .i64 0]) ?_ 1 _ rfl; (with_reducible repeat (first | refine blk_drewN ?_ _ | refine blk_drew ?_ | refine blk_alloc ?_ _)); refine blk_put (cs := #[.int .i64 0, .int .i64 0, .string (⟨#[]⟩ : ByteArray), .int .i64 0]) ?_ 0 _ rfl; (with_reducible repeat (first | refine blk_drewN ?_ _ | refine blk_drew ?_ | refine blk_alloc ?_ _)); refine blk_far ?_ NB233_232.out _; (with_reducible repeat (first | refine blk_drewN ?_ _ | refine blk_drew ?_ | refine blk_alloc ?_ _)); refine blk_far ?_ NB233_232.out _; (with_reducible repeat (first | refine blk_drewN ?_ _ | refine blk_drew ?_ | refine blk_alloc ?_ _)); refine blk_far ?_ NB233_232.out _; (with_reducible repeat (first | refine blk_drewN ?_ _ | refine blk_drew ?_ | refine blk_alloc ?_ _)); refine blk_far ?_ NB233_232.out _; (with_reducible repeat (first | refine blk_drewN ?_ _ | refine blk_drew ?_ | refine blk_alloc ?_ _)); exact BK233.out⟩
                     have n3_ : Aside0 (Below w.heap.size w ((((((((w50.setCell ⟨gb232, 0, none⟩ (.int .i64 4)).setCell ⟨gb232, 1, none⟩ (.int .i64 0)).setCell ⟨gb232, 2, none⟩ (.string (⟨#[40]⟩ : ByteArray))).setCell ⟨gb232, 3, none⟩ (.int .i64 0)).setCell ⟨gb233, 0, none⟩ (.int .i64 4)).setCell ⟨gb233, 1, none⟩ (.int .i64 0)).setCell ⟨gb233, 2, none⟩ (.string (⟨#[41]⟩ : ByteArray))).setCell ⟨gb233, 3, none⟩ (.int .i64 0))) := ⟨by repeat (first | (with_reducible first | exact HB.out | apply below_alloc | apply pw_below_drewN | apply below_drew1 | refine below_set ?_ GE232.out | refine below_set ?_ GE233.out) | exact HB.out)⟩
                     (try clear HO_14)
                     (try clear BK232)
                     (try clear BK233)
                     (try clear HB)
                     generalize ((((((((w50.setCell ⟨gb232, 0, none⟩ (.int .i64 4)).setCell ⟨gb232, 1, none⟩ (.int .i64 0)).setCell ⟨gb232, 2, none⟩ (.string (⟨#[40]⟩ : ByteArray))).setCell ⟨gb232, 3, none⟩ (.int .i64 0)).setCell ⟨gb233, 0, none⟩ (.int .i64 4)).setCell ⟨gb233, 1, none⟩ (.int .i64 0)).setCell ⟨gb233, 2, none⟩ (.string (⟨#[41]⟩ : ByteArray))).setCell ⟨gb233, 3, none⟩ (.int .i64 0)) = w54 at n0_ n1_ n2_ n3_ ⊢
                     have HO_14 := n0_
                     have BK232 := n1_
                     have BK233 := n2_
                     have HB := n3_
                     clear n0_ n1_ n2_ n3_
                     have n0_ := Aside0.mk (Kd.R_drew HO_14.out)
                     have n1_ := Aside0.mk (blk_drew BK232.out)
                     have n2_ := Aside0.mk (blk_drew BK233.out)
                     have n3_ := Aside0.mk (below_drew1 HB.out)
                     clear HO_14
                     clear BK232
                     clear BK233
                     clear HB
                     have HO_14 := n0_
                     have BK232 := n1_
                     have BK233 := n2_
                     have HB := n3_
                     clear n0_ n1_ n2_ n3_
                     obtain ⟨Ao57, co57, eo57⟩ := Kd.R_slice HO_14.out
                     (first | subst eo57 | (injection eo57 with f1_ f2_ f3_; have f4_ := f1_.symm; have f5_ := f3_.symm; clear f1_ f2_ f3_; subst f4_; subst f5_))
                     have q56 : (3 : Int) ≤ ((t223.length : Int) : Int) := of_decide_eq_true (by first | (with_reducible assumption) | assumption)
                     obtain ⟨i056, hi056, _, hsz56, _⟩ := info_parts info32
                     have hroom56 : t223.length ≤ co57 := (Kd.R_reads' HO_14.out).2.1
                     have hC56 : Kd.C k32 _ Ao57 t223.length t223 := (Kd.R_reads' HO_14.out).2.2
                     have hcut56 := cut_to (P := Try.prog) 24 32 .i64 Try.underlying24 hi056 Ao57 t223.length co57 3 (by omega) q56 hroom56
                     have hr56 := Kd.C_take (m := 3) hC56 (by omega)
                     have hy56 : y237.length = (3 : Int).toNat := (by rw [Ny237.out, List.length_take]; omega)
                     rw [← Ny237.out] at hr56
                     rw [← hy56] at hcut56
                     have HR240 := Aside0.mk hr56
                     have HC240 := Aside0.mk (show y237.length ≤ co57 from by omega)
                     clear hr56 hC56 hroom56 hi056 hsz56
                     have KY56 := Aside0.mk hy56
                     clear hy56
                     have KL56 := Aside0.mk (show 3 ≤ t223.length from by omega)
                     replace q56 := eq_true q56
                     refine start_ (n := 6) (S := fun w' => w'.cell? ⟨gb232, 0, none⟩ = some (.int .i64 4) ∧ w'.cell? ⟨gb232, 1, none⟩ = some (.int .i64 0) ∧ w'.cell? ⟨gb232, 2, none⟩ = some (.string (⟨#[40]⟩ : ByteArray)) ∧ w'.cell? ⟨gb232, 3, none⟩ = some (.int .i64 0)) (ds := []) #[false, false, false, false, false, false] (by kernel_rfl) rfl rfl ⟨(blk_cell BK232.out 0).trans rfl, (blk_cell BK232.out 1).trans rfl, (blk_cell BK232.out 2).trans rfl, (blk_cell BK232.out 3).trans rfl⟩ (fun hHeld => ?_)
                     generalize w54.drew = w55 at HO_14 BK232 BK233 HB HR240 hHeld ⊢
                     refine pure_ (i := 2) (N := some 70) (v := ?_) (a' := ?_) #[false, false, true, false, false, false] rfl rfl (by kernel_rfl) (fun _ _ _ h => h) (Or.inl ⟨by rfl, ?_⟩) ?_ ?_
                     rotate_left
                     ·intro w'
                      go_simp
                      with_reducible rfl
                     rotate_left
                     ·simp only [Act.put, List.setIfInBounds_toArray, List.set_cons_zero, List.set_cons_succ, i64_w, i32_w]
                      rfl
                     refine pure_ (i := 3) (N := some 71) (v := ?_) (a' := ?_) #[false, false, true, true, false, false] rfl rfl (by kernel_rfl) (fun _ _ _ h => h) (Or.inl ⟨by rfl, ?_⟩) ?_ ?_
                     rotate_left
                     ·intro w'
                      go_simp
                      with_reducible rfl
                     rotate_left
                     ·simp only [Act.put, List.setIfInBounds_toArray, List.set_cons_zero, List.set_cons_succ, i64_w, i32_w]
                      rfl
                     refine take_ (i := 0) (N := some 68) (v := ?_) (a' := ?_) #[true, false, true, true, false, false] rfl rfl (by kernel_rfl) (fun _ _ _ h => h) (Or.inl ⟨by rfl, ?_⟩) hHeld ?_ ?_
                     rotate_left
                     ·rintro w' ⟨s0, s1, s2, s3⟩
                      go_simp
                      with_reducible rfl
                     rotate_left
                     ·simp only [Act.put, List.setIfInBounds_toArray, List.set_cons_zero, List.set_cons_succ, i64_w, i32_w]
                      rfl
                     refine one_ (i := 1) (N := some 69) #[true, true, true, true, false, false] rfl rfl (by kernel_rfl) (by decide) (fun K hK => ?_)
                     refine Kd.R_lit_step k32 _ 32 ?hg (N := 69) ?hd (xs := ([(⟨4, 0, (⟨#[40]⟩ : ByteArray), 0⟩ : S32)] : List (S32))) (inner := [.int .i64 4, .int .i64 0, .string (⟨#[40]⟩ : ByteArray), .int .i64 0]) (ok := fun _ => True) (okp := fun _ => True) ?hr ?hp (fun _ hk => hk) trivial (Below.refl _ _) (Nat.le_refl _) (by simp) ?_; (case hd => rfl); (case hg => rfl); (case hr => first | (go_simp; done) | (go_simp; rfl)); (case hp => exact (Reps.c4 (show Kd.M k32 _ _ _ (⟨4, 0, (⟨#[40]⟩ : ByteArray), 0⟩ : S32) [.int .i64 4, .int .i64 0, .string (⟨#[40]⟩ : ByteArray), .int .i64 0] from (k32_mkM _ _ _ (⟨4, 0, (⟨#[40]⟩ : ByteArray), 0⟩ : S32) )) (Reps.none _ _)))
                     intro v235 w58 ho59 hb hg_ hnew_
                     clear hg_ hnew_
                     (first | rw [← Ny234.out] at ho59 | (simp only [Int.reduceToNat] at ho59; rw [← Ny234.out] at ho59))
                     have n0_ := Aside0.mk (Kd.R_elder' (by (with_reducible repeat (first | apply Kd.R_alloc | apply Kd.R_drewN | apply Kd.R_drew)); exact HO_14.out) (Kd.R_base ho59) hb)
                     have n1_ := Aside0.mk (Kd.R_lower (Kd.R_newB (Kd.R_newB (Kd.R_new' ho59 (Kd.R_lt (by (with_reducible repeat (first | apply Kd.R_alloc | apply Kd.R_drewN | apply Kd.R_drew)); exact HO_14.out))) (g := gb232) (o := .cells #[.int .i64 4, .int .i64 0, .string (⟨#[40]⟩ : ByteArray), .int .i64 0] 32 (0, 0)) (by (with_reducible repeat (first | refine blk_drewN ?_ _ | refine blk_drew ?_ | refine blk_alloc ?_ _)); exact BK232.out)) (g := gb233) (o := .cells #[.int .i64 4, .int .i64 0, .string (⟨#[41]⟩ : ByteArray), .int .i64 0] 32 (0, 0)) (by (with_reducible repeat (first | refine blk_drewN ?_ _ | refine blk_drew ?_ | refine blk_alloc ?_ _)); exact BK233.out)) (below_size (by repeat (first | (with_reducible first | exact HB.out | apply below_alloc | apply pw_below_drewN | apply below_drew1 | refine below_set ?_ GE232.out | refine below_set ?_ GE233.out) | exact HB.out))))
                     have n2_ := Aside0.mk (blk_below (g := gb232) (o := .cells #[.int .i64 4, .int .i64 0, .string (⟨#[40]⟩ : ByteArray), .int .i64 0] 32 (0, 0)) (by (with_reducible repeat (first | refine blk_drewN ?_ _ | refine blk_drew ?_ | refine blk_alloc ?_ _)); exact BK232.out) hb)
                     have n3_ := Aside0.mk (blk_below (g := gb233) (o := .cells #[.int .i64 4, .int .i64 0, .string (⟨#[41]⟩ : ByteArray), .int .i64 0] 32 (0, 0)) (by (with_reducible repeat (first | refine blk_drewN ?_ _ | refine blk_drew ?_ | refine blk_alloc ?_ _)); exact BK233.out) hb)
                     have n4_ := Aside0.mk (Kd.C_below (by repeat (first | (with_reducible exact HR240.out) | (with_reducible refine Kd.C_alloc ?_ _) | (with_reducible refine Kd.C_drewN ?_ _) | (with_reducible refine Kd.C_drew ?_) | exact HR240.out)) hb)
                     have n5_ := Aside0.mk (below_step (by repeat (first | (with_reducible first | exact HB.out | apply below_alloc | apply pw_below_drewN | apply below_drew1 | refine below_set ?_ GE232.out | refine below_set ?_ GE233.out) | exact HB.out)) hb)
                     clear HO_14
                     clear BK232
                     clear BK233
                     clear HR240
                     clear HB
                     have HO_14 := n0_
                     have HO236 := n1_
                     have BK232 := n2_
                     have BK233 := n3_
                     have HR240 := n4_
                     have HB := n5_
                     clear n0_ n1_ n2_ n3_ n4_ n5_
                     clear hb ho59
                     refine hK.out _ _ ⟨(blk_cell BK232.out 0).trans rfl, (blk_cell BK232.out 1).trans rfl, (blk_cell BK232.out 2).trans rfl, (blk_cell BK232.out 3).trans rfl⟩ (fun hHeld => ?_)
                     clear hK K
                     refine norm_ (a' := ?_) ?_ ?_
                     rotate_left
                     ·show Act.put _ (some 69) _ = _
                      simp only [Act.put, List.setIfInBounds_toArray, List.set_cons_zero, List.set_cons_succ, i64_w, i32_w]
                      rfl
                     refine one_ (i := 4) (N := some 72) #[true, true, true, true, true, false] rfl rfl (by kernel_rfl) (by decide) (fun K hK => ?_)
                     refine Kd.R_append_rows_step k32 (w0 := w) w.heap.size (by rfl) (.tmp 69) (.tmp 71) 24 32 (.agg #[(.int .i64 0), (.int .i64 0), (.string ⟨#[]⟩), (.int .i64 0)]) 40 rfl Try.underlying24 info32 rfl (by decide) (by omega) v235 y234 y237 _ _ _ (fun k_ => some k_ ≠ (.slice Ao57 t223.length co57 : Value).ownBlock ∧ k_ ≠ gb232 ∧ k_ ≠ gb233) (fun _ => False) rfl rfl ?aO ?aR (fun _ _ h => h) (fun _ h => h.elim) ?aF ?aB ?aS ?aL ?_
                     (case aR => repeat (first | exact (by repeat (first | (with_reducible exact HR240.out) | (with_reducible refine Kd.C_alloc ?_ _) | (with_reducible refine Kd.C_drewN ?_ _) | (with_reducible refine Kd.C_drew ?_) | exact HR240.out)) | (with_reducible refine Kd.C_alloc ?_ _) | (with_reducible refine Kd.C_drewN ?_ _) | (with_reducible refine Kd.C_drew ?_)))
                     (case aB => exact (by repeat (first | (with_reducible first | exact HB.out | apply below_alloc | apply pw_below_drewN | apply below_drew1 | refine below_set ?_ GE232.out | refine below_set ?_ GE233.out) | exact HB.out)))
                     (case aF => exact (fun k_ hk => ⟨Kd.fresh' (Kd.R_lt (by (with_reducible repeat (first | apply Kd.R_alloc | apply Kd.R_drewN | apply Kd.R_drew)); exact HO_14.out)) k_ hk, Kd.freshB (g := gb232) (o := .cells #[.int .i64 4, .int .i64 0, .string (⟨#[40]⟩ : ByteArray), .int .i64 0] 32 (0, 0)) (by (with_reducible repeat (first | refine blk_drewN ?_ _ | refine blk_drew ?_ | refine blk_alloc ?_ _)); exact BK232.out) k_ hk, Kd.freshB (g := gb233) (o := .cells #[.int .i64 4, .int .i64 0, .string (⟨#[41]⟩ : ByteArray), .int .i64 0] 32 (0, 0)) (by (with_reducible repeat (first | refine blk_drewN ?_ _ | refine blk_drew ?_ | refine blk_alloc ?_ _)); exact BK233.out) k_ hk⟩))
                     (case aO => exact (by (with_reducible repeat (first | apply Kd.R_alloc | apply Kd.R_drewN | apply Kd.R_drew)); exact Kd.R_mono HO236.out (fun _ hk => ⟨hk.1.1.2, ⟨hk.1.2, hk.2⟩⟩)))
                     (case aS => exact (below_size (by repeat (first | (with_reducible first | exact HB.out | apply below_alloc | apply pw_below_drewN | apply below_drew1 | refine below_set ?_ GE232.out | refine below_set ?_ GE233.out) | exact HB.out))))
                     (case aL => have := LMc33.out; omega)
                     intro v242 w60 ho hb hg hat
                     rw [← Ny241.out] at ho
                     have n0_ := Aside0.mk (Kd.R_after (ok := (fun k_ => k_ ≠ gb232 ∧ k_ ≠ gb233)) (by (with_reducible repeat (first | apply Kd.R_alloc | apply Kd.R_drewN | apply Kd.R_drew)); exact HO_14.out) hg hat)
                     have n1_ := Aside0.mk (blk_grown (g := gb232) (o := .cells #[.int .i64 4, .int .i64 0, .string (⟨#[40]⟩ : ByteArray), .int .i64 0] 32 (0, 0)) (by (with_reducible repeat (first | refine blk_drewN ?_ _ | refine blk_drew ?_ | refine blk_alloc ?_ _)); exact BK232.out) hg (Kd.R_away HO236.out (fun _ hk => hk.1.2)))
                     have n2_ := Aside0.mk (blk_grown (g := gb233) (o := .cells #[.int .i64 4, .int .i64 0, .string (⟨#[41]⟩ : ByteArray), .int .i64 0] 32 (0, 0)) (by (with_reducible repeat (first | refine blk_drewN ?_ _ | refine blk_drew ?_ | refine blk_alloc ?_ _)); exact BK233.out) hg (Kd.R_away HO236.out (fun _ hk => hk.2)))
                     have n3_ := Aside0.mk (hb)
                     have n4_ := Aside0.mk ((show Kd.C k32 w60 Ao57 y237.length y237 from by rw [Ny237.out]; exact Kd.C_take (m := 3) ((Kd.R_reads' (Kd.R_after (ok := (fun k_ => k_ ≠ gb232 ∧ k_ ≠ gb233)) (by (with_reducible repeat (first | apply Kd.R_alloc | apply Kd.R_drewN | apply Kd.R_drew)); exact HO_14.out) hg hat)).2.2) KL56.out))
                     have n5_ := Aside0.mk (ho)
                     clear HO_14
                     clear BK232
                     clear BK233
                     clear HB
                     clear HR240
                     clear HO236
                     have HO_14 := n0_
                     have BK232 := n1_
                     have BK233 := n2_
                     have HB := n3_
                     have HR240 := n4_
                     have HO243 := n5_
                     clear n0_ n1_ n2_ n3_ n4_ n5_
                     clear ho hb hg hat
                     refine hK.out _ _ ⟨(blk_cell BK232.out 0).trans rfl, (blk_cell BK232.out 1).trans rfl, (blk_cell BK232.out 2).trans rfl, (blk_cell BK232.out 3).trans rfl⟩ (fun hHeld => ?_)
                     clear hK K
                     refine norm_ (a' := ?_) ?_ ?_
                     rotate_left
                     ·show Act.put _ (some 72) _ = _
                      simp only [Act.put, List.setIfInBounds_toArray, List.set_cons_zero, List.set_cons_succ, i64_w, i32_w]
                      rfl
                     refine pure_ (i := 5) (N := some 20) (v := ?_) (a' := ?_) #[true, true, true, true, true, true] rfl rfl (by kernel_rfl) (fun _ _ _ h => h) (Or.inl ⟨by rfl, ?_⟩) ?_ ?_
                     rotate_left
                     ·intro w'
                      go_simp
                      with_reducible rfl
                     rotate_left
                     ·simp only [Act.put, List.setIfInBounds_toArray, List.set_cons_zero, List.set_cons_succ, i64_w, i32_w]
                      rfl
                     refine done_ (by kernel_rfl) ?_
                     try go_wp2
                     have n0_ := Aside0.mk (Kd.R_drew HO_14.out)
                     have n1_ := Aside0.mk (Kd.R_drew HO243.out)
                     have n2_ := Aside0.mk (blk_drew BK232.out)
                     have n3_ := Aside0.mk (blk_drew BK233.out)
                     have n4_ := Aside0.mk (Kd.C_drew HR240.out)
                     have n5_ := Aside0.mk (below_drew1 HB.out)
                     clear HO_14
                     clear HO243
                     clear BK232
                     clear BK233
                     clear HR240
                     clear HB
                     have HO_14 := n0_
                     have HO243 := n1_
                     have BK232 := n2_
                     have BK233 := n3_
                     have HR240 := n4_
                     have HB := n5_
                     clear n0_ n1_ n2_ n3_ n4_ n5_
                     have q62 : (3 : Int) ≤ ((t223.length : Int) : Int) := of_decide_eq_true (by first | (with_reducible assumption) | assumption)
                     obtain ⟨i062, hi062, _, hsz62, _⟩ := info_parts info32
                     have hroom62 : t223.length ≤ co57 := (Kd.R_reads' HO_14.out).2.1
                     have hC62 : Kd.C k32 _ Ao57 t223.length t223 := (Kd.R_reads' HO_14.out).2.2
                     have hcut62 := cut_from (P := Try.prog) 24 32 .i64 Try.underlying24 hi062 4 hsz62 Ao57 t223.length co57 3 (by omega) q62
                     have hr62 := Kd.C_drop (m := (3 : Int).toNat) (c := co57) hC62 (by omega) hroom62
                     obtain ⟨A62, hA62⟩ : ∃ A1, A1 = (if co57 = (3 : Int).toNat then Ao57 else (Ao57 : Option Addr).map (·.add ((3 : Int).toNat * 4))) := ⟨_, rfl⟩
                     obtain ⟨c62, hc62⟩ : ∃ c1, c1 = co57 - (3 : Int).toNat := ⟨_, rfl⟩
                     have hy62 : y250.length = t223.length - (3 : Int).toNat := (by rw [Ny250.out, List.length_drop] <;> omega)
                     rw [show (t223).drop (3 : Int).toNat = y250 from Ny250.out.symm] at hr62
                     replace hr62 : Kd.C k32 _ A62 y250.length y250 := (by rw [hA62]; exact hr62)
                     rw [← hy62, ← hA62, ← hc62] at hcut62
                     have HR253 := Aside0.mk hr62
                     have HC253 := Aside0.mk (show y250.length ≤ c62 from by rw [hy62, hc62]; exact Nat.sub_le_sub_right hroom62 _)
                     clear hr62 hC62 hroom62 hi062 hsz62 hc62
                     have KY62 := Aside0.mk hy62
                     have KA62 := Aside0.mk hA62
                     clear hy62 hA62
                     have KL62 := Aside0.mk (show 3 ≤ t223.length from by omega)
                     replace q62 := eq_true q62
                     refine start_ (n := 8) (S := fun w' => w'.cell? ⟨gb233, 0, none⟩ = some (.int .i64 4) ∧ w'.cell? ⟨gb233, 1, none⟩ = some (.int .i64 0) ∧ w'.cell? ⟨gb233, 2, none⟩ = some (.string (⟨#[41]⟩ : ByteArray)) ∧ w'.cell? ⟨gb233, 3, none⟩ = some (.int .i64 0)) (ds := []) #[false, false, false, false, false, false, false, false] (by kernel_rfl) rfl rfl ⟨(blk_cell BK233.out 0).trans rfl, (blk_cell BK233.out 1).trans rfl, (blk_cell BK233.out 2).trans rfl, (blk_cell BK233.out 3).trans rfl⟩ (fun hHeld => ?_); refine with_tabW linotypelaw23_ExprSums.tab13 linotypelaw23_ExprSums.bits13 (fun HT_ HW_ => ?_)
                     generalize w60.drew = w61 at HO_14 HO243 BK232 BK233 HR240 HB HR253 hHeld ⊢
                     refine pure_ (i := 0) (N := some 73) (v := ?_) (a' := ?_) #[true, false, false, false, false, false, false, false] rfl rfl (any_of HT_.out (by kernel_rfl)) (fun _ _ _ h => h) (Or.inl ⟨by rfl, ?_⟩) ?_ ?_
                     rotate_left
                     ·intro w'
                      go_simp
                      with_reducible rfl
                     rotate_left
                     ·simp only [Act.put, List.setIfInBounds_toArray, List.set_cons_zero, List.set_cons_succ, i64_w, i32_w]
                      rfl
                     refine pure_ (i := 4) (N := some 77) (v := ?_) (a' := ?_) #[true, false, false, false, true, false, false, false] rfl rfl (any_of HT_.out (by kernel_rfl)) (fun _ _ _ h => h) (Or.inl ⟨by rfl, ?_⟩) ?_ ?_
                     rotate_left
                     ·intro w'
                      go_simp
                      with_reducible rfl
                     rotate_left
                     ·simp only [Act.put, List.setIfInBounds_toArray, List.set_cons_zero, List.set_cons_succ, i64_w, i32_w]
                      rfl
                     refine pure_ (i := 5) (N := some 78) (v := ?_) (a' := ?_) #[true, false, false, false, true, true, false, false] rfl rfl (any_of HT_.out (by kernel_rfl)) (fun _ _ _ h => h) (Or.inl ⟨by rfl, ?_⟩) ?_ ?_
                     rotate_left
                     ·intro w'
                      go_simp
                      with_reducible rfl
                     rotate_left
                     ·simp only [Act.put, List.setIfInBounds_toArray, List.set_cons_zero, List.set_cons_succ, i64_w, i32_w]
                      rfl
                     refine take_ (i := 1) (N := some 74) (v := ?_) (a' := ?_) #[true, true, false, false, true, true, false, false] rfl rfl (take_ofW HT_.out HW_.out (by kernel_rfl)) (fun _ _ _ h => h) (Or.inl ⟨by rfl, ?_⟩) hHeld ?_ ?_
                     rotate_left
                     ·rintro w' ⟨s0, s1, s2, s3⟩
                      go_simp
                      with_reducible rfl
                     rotate_left
                     ·simp only [Act.put, List.setIfInBounds_toArray, List.set_cons_zero, List.set_cons_succ, i64_w, i32_w]
                      rfl
                     refine one_ (i := 2) (N := some 75) #[true, true, true, false, true, true, false, false] rfl rfl (one_of HT_.out (by kernel_rfl)) (by decide) (fun K hK => ?_)
                     refine Kd.R_lit_step k32 _ 32 ?hg (N := 75) ?hd (xs := ([(⟨4, 0, (⟨#[41]⟩ : ByteArray), 0⟩ : S32)] : List (S32))) (inner := [.int .i64 4, .int .i64 0, .string (⟨#[41]⟩ : ByteArray), .int .i64 0]) (ok := fun _ => True) (okp := fun _ => True) ?hr ?hp (fun _ hk => hk) trivial (Below.refl _ _) (Nat.le_refl _) (by simp) ?_; (case hd => rfl); (case hg => rfl); (case hr => first | (go_simp; done) | (go_simp; rfl)); (case hp => exact (Reps.c4 (show Kd.M k32 _ _ _ (⟨4, 0, (⟨#[41]⟩ : ByteArray), 0⟩ : S32) [.int .i64 4, .int .i64 0, .string (⟨#[41]⟩ : ByteArray), .int .i64 0] from (k32_mkM _ _ _ (⟨4, 0, (⟨#[41]⟩ : ByteArray), 0⟩ : S32) )) (Reps.none _ _)))
                     intro v245 w63 ho64 hb hg_ hnew_
                     clear hg_ hnew_
                     (first | rw [← Ny244.out] at ho64 | (simp only [Int.reduceToNat] at ho64; rw [← Ny244.out] at ho64))
                     have n0_ := Aside0.mk (Kd.R_elder' (by (with_reducible repeat (first | apply Kd.R_alloc | apply Kd.R_drewN | apply Kd.R_drew)); exact HO_14.out) (Kd.R_base ho64) hb)
                     have n1_ := Aside0.mk (Kd.R_elder' (by (with_reducible repeat (first | apply Kd.R_alloc | apply Kd.R_drewN | apply Kd.R_drew)); exact HO243.out) (Kd.R_base ho64) hb)
                     have n2_ := Aside0.mk (Kd.R_lower (Kd.R_newB (Kd.R_newB (Kd.R_new' (Kd.R_new' ho64 (Kd.R_lt (by (with_reducible repeat (first | apply Kd.R_alloc | apply Kd.R_drewN | apply Kd.R_drew)); exact HO_14.out))) (Kd.R_lt (by (with_reducible repeat (first | apply Kd.R_alloc | apply Kd.R_drewN | apply Kd.R_drew)); exact HO243.out))) (g := gb232) (o := .cells #[.int .i64 4, .int .i64 0, .string (⟨#[40]⟩ : ByteArray), .int .i64 0] 32 (0, 0)) (by (with_reducible repeat (first | refine blk_drewN ?_ _ | refine blk_drew ?_ | refine blk_alloc ?_ _)); exact BK232.out)) (g := gb233) (o := .cells #[.int .i64 4, .int .i64 0, .string (⟨#[41]⟩ : ByteArray), .int .i64 0] 32 (0, 0)) (by (with_reducible repeat (first | refine blk_drewN ?_ _ | refine blk_drew ?_ | refine blk_alloc ?_ _)); exact BK233.out)) (below_size (by repeat (first | (with_reducible first | exact HB.out | apply below_alloc | apply pw_below_drewN | apply below_drew1 | refine below_set ?_ GE232.out | refine below_set ?_ GE233.out) | exact HB.out))))
                     have n3_ := Aside0.mk (blk_below (g := gb232) (o := .cells #[.int .i64 4, .int .i64 0, .string (⟨#[40]⟩ : ByteArray), .int .i64 0] 32 (0, 0)) (by (with_reducible repeat (first | refine blk_drewN ?_ _ | refine blk_drew ?_ | refine blk_alloc ?_ _)); exact BK232.out) hb)
                     have n4_ := Aside0.mk (blk_below (g := gb233) (o := .cells #[.int .i64 4, .int .i64 0, .string (⟨#[41]⟩ : ByteArray), .int .i64 0] 32 (0, 0)) (by (with_reducible repeat (first | refine blk_drewN ?_ _ | refine blk_drew ?_ | refine blk_alloc ?_ _)); exact BK233.out) hb)
                     have n5_ := Aside0.mk (Kd.C_below (by repeat (first | (with_reducible exact HR240.out) | (with_reducible refine Kd.C_alloc ?_ _) | (with_reducible refine Kd.C_drewN ?_ _) | (with_reducible refine Kd.C_drew ?_) | exact HR240.out)) hb)
                     have n6_ := Aside0.mk (Kd.C_below (by repeat (first | (with_reducible exact HR253.out) | (with_reducible refine Kd.C_alloc ?_ _) | (with_reducible refine Kd.C_drewN ?_ _) | (with_reducible refine Kd.C_drew ?_) | exact HR253.out)) hb)
                     have n7_ := Aside0.mk (below_step (by repeat (first | (with_reducible first | exact HB.out | apply below_alloc | apply pw_below_drewN | apply below_drew1 | refine below_set ?_ GE232.out | refine below_set ?_ GE233.out) | exact HB.out)) hb)
                     clear HO_14
                     clear HO243
                     clear BK232
                     clear BK233
                     clear HR240
                     clear HR253
                     clear HB
                     have HO_14 := n0_
                     have HO243 := n1_
                     have HO246 := n2_
                     have BK232 := n3_
                     have BK233 := n4_
                     have HR240 := n5_
                     have HR253 := n6_
                     have HB := n7_
                     clear n0_ n1_ n2_ n3_ n4_ n5_ n6_ n7_
                     clear hb ho64
                     obtain ⟨Ao66, co66, eo66⟩ := Kd.R_slice HO246.out
                     (first | subst eo66 | (injection eo66 with f1_ f2_ f3_; have f4_ := f1_.symm; have f5_ := f3_.symm; clear f1_ f2_ f3_; subst f4_; subst f5_))
                     refine hK.out _ _ ⟨(blk_cell BK233.out 0).trans rfl, (blk_cell BK233.out 1).trans rfl, (blk_cell BK233.out 2).trans rfl, (blk_cell BK233.out 3).trans rfl⟩ (fun hHeld => ?_)
                     clear hK K
                     refine norm_ (a' := ?_) ?_ ?_
                     rotate_left
                     ·show Act.put _ (some 75) _ = _
                      simp only [Act.put, List.setIfInBounds_toArray, List.set_cons_zero, List.set_cons_succ, i64_w, i32_w]
                      rfl
                     refine one_ (i := 3) (N := some 76) #[true, true, true, true, true, true, false, false] rfl rfl (one_of HT_.out (by kernel_rfl)) (by decide) (fun K hK => ?_)
                     refine Kd.R_append_rows_step k32 (w0 := w) w.heap.size (by rfl) (.tmp 73) (.tmp 75) 24 32 (.agg #[(.int .i64 0), (.int .i64 0), (.string ⟨#[]⟩), (.int .i64 0)]) 40 rfl Try.underlying24 info32 rfl (by decide) (by omega) v242 y241 y244 _ _ _ (fun k_ => some k_ ≠ (.slice Ao57 t223.length co57 : Value).ownBlock ∧ some k_ ≠ (.slice Ao66 y244.length co66 : Value).ownBlock ∧ k_ ≠ gb232 ∧ k_ ≠ gb233) (fun _ => False) rfl rfl ?aO ?aR (fun _ _ h => h) (fun _ h => h.elim) ?aF ?aB ?aS ?aL ?_
                     (case aR => repeat (first | exact (Kd.R_reads' HO246.out).2.2 | (with_reducible refine Kd.C_alloc ?_ _) | (with_reducible refine Kd.C_drewN ?_ _) | (with_reducible refine Kd.C_drew ?_)))
                     (case aB => exact (by repeat (first | (with_reducible first | exact HB.out | apply below_alloc | apply pw_below_drewN | apply below_drew1 | refine below_set ?_ GE232.out | refine below_set ?_ GE233.out) | exact HB.out)))
                     (case aF => exact (fun k_ hk => ⟨Kd.fresh' (Kd.R_lt (by (with_reducible repeat (first | apply Kd.R_alloc | apply Kd.R_drewN | apply Kd.R_drew)); exact HO_14.out)) k_ hk, Kd.fresh' (Kd.R_lt (by (with_reducible repeat (first | apply Kd.R_alloc | apply Kd.R_drewN | apply Kd.R_drew)); exact HO246.out)) k_ hk, Kd.freshB (g := gb232) (o := .cells #[.int .i64 4, .int .i64 0, .string (⟨#[40]⟩ : ByteArray), .int .i64 0] 32 (0, 0)) (by (with_reducible repeat (first | refine blk_drewN ?_ _ | refine blk_drew ?_ | refine blk_alloc ?_ _)); exact BK232.out) k_ hk, Kd.freshB (g := gb233) (o := .cells #[.int .i64 4, .int .i64 0, .string (⟨#[41]⟩ : ByteArray), .int .i64 0] 32 (0, 0)) (by (with_reducible repeat (first | refine blk_drewN ?_ _ | refine blk_drew ?_ | refine blk_alloc ?_ _)); exact BK233.out) k_ hk⟩))
                     (case aO => exact (by (with_reducible repeat (first | apply Kd.R_alloc | apply Kd.R_drewN | apply Kd.R_drew)); exact Kd.R_mono HO243.out (fun _ hk => ⟨hk.1.1, ⟨hk.2, ⟨hk.1.2.1, hk.1.2.2⟩⟩⟩)))
                     (case aS => exact (below_size (by repeat (first | (with_reducible first | exact HB.out | apply below_alloc | apply pw_below_drewN | apply below_drew1 | refine below_set ?_ GE232.out | refine below_set ?_ GE233.out) | exact HB.out))))
                     (case aL => have := LMc34.out; omega)
                     intro v248 w65 ho hb hg hat
                     rw [← Ny247.out] at ho
                     have n0_ := Aside0.mk (Kd.R_after (ok := (fun k_ => some k_ ≠ (.slice Ao66 y244.length co66 : Value).ownBlock ∧ k_ ≠ gb232 ∧ k_ ≠ gb233)) (by (with_reducible repeat (first | apply Kd.R_alloc | apply Kd.R_drewN | apply Kd.R_drew)); exact Kd.R_mono HO_14.out (fun _ hk => ⟨⟨hk.2, ⟨hk.1.1.1, hk.1.1.2⟩⟩, hk.1.2⟩)) hg hat)
                     have n1_ := Aside0.mk (blk_grown (g := gb232) (o := .cells #[.int .i64 4, .int .i64 0, .string (⟨#[40]⟩ : ByteArray), .int .i64 0] 32 (0, 0)) (by (with_reducible repeat (first | refine blk_drewN ?_ _ | refine blk_drew ?_ | refine blk_alloc ?_ _)); exact BK232.out) hg (Kd.R_away HO243.out (fun _ hk => hk.1.2.1)))
                     have n2_ := Aside0.mk (blk_grown (g := gb233) (o := .cells #[.int .i64 4, .int .i64 0, .string (⟨#[41]⟩ : ByteArray), .int .i64 0] 32 (0, 0)) (by (with_reducible repeat (first | refine blk_drewN ?_ _ | refine blk_drew ?_ | refine blk_alloc ?_ _)); exact BK233.out) hg (Kd.R_away HO243.out (fun _ hk => hk.1.2.2)))
                     have n3_ := Aside0.mk (Kd.R_after (ok := (fun k_ => some k_ ≠ (.slice Ao57 t223.length co57 : Value).ownBlock ∧ k_ ≠ gb232 ∧ k_ ≠ gb233)) (by (with_reducible repeat (first | apply Kd.R_alloc | apply Kd.R_drewN | apply Kd.R_drew)); exact Kd.R_mono HO246.out (fun _ hk => ⟨⟨hk.1.1.1.2, ⟨hk.1.2, hk.2⟩⟩, hk.1.1.2⟩)) hg hat)
                     have n4_ := Aside0.mk (hb)
                     have n5_ := Aside0.mk ((show Kd.C k32 w65 Ao57 y237.length y237 from by rw [Ny237.out]; exact Kd.C_take (m := 3) ((Kd.R_reads' (Kd.R_after (ok := (fun k_ => some k_ ≠ (.slice Ao66 y244.length co66 : Value).ownBlock ∧ k_ ≠ gb232 ∧ k_ ≠ gb233)) (by (with_reducible repeat (first | apply Kd.R_alloc | apply Kd.R_drewN | apply Kd.R_drew)); exact Kd.R_mono HO_14.out (fun _ hk => ⟨⟨hk.2, ⟨hk.1.1.1, hk.1.1.2⟩⟩, hk.1.2⟩)) hg hat)).2.2) KL56.out))
                     have n6_ := Aside0.mk ((show Kd.C k32 w65 A62 y250.length y250 from by rw [Ny250.out, KA62.out]; exact Kd.C_drop (m := 3) (c := co57) ((Kd.R_reads' (Kd.R_after (ok := (fun k_ => some k_ ≠ (.slice Ao66 y244.length co66 : Value).ownBlock ∧ k_ ≠ gb232 ∧ k_ ≠ gb233)) (by (with_reducible repeat (first | apply Kd.R_alloc | apply Kd.R_drewN | apply Kd.R_drew)); exact Kd.R_mono HO_14.out (fun _ hk => ⟨⟨hk.2, ⟨hk.1.1.1, hk.1.1.2⟩⟩, hk.1.2⟩)) hg hat)).2.2) KL62.out ((Kd.R_reads' (Kd.R_after (ok := (fun k_ => some k_ ≠ (.slice Ao66 y244.length co66 : Value).ownBlock ∧ k_ ≠ gb232 ∧ k_ ≠ gb233)) (by (with_reducible repeat (first | apply Kd.R_alloc | apply Kd.R_drewN | apply Kd.R_drew)); exact Kd.R_mono HO_14.out (fun _ hk => ⟨⟨hk.2, ⟨hk.1.1.1, hk.1.1.2⟩⟩, hk.1.2⟩)) hg hat)).2.1)))
                     have n7_ := Aside0.mk (ho)
                     clear HO_14
                     clear BK232
                     clear BK233
                     clear HO246
                     clear HB
                     clear HR240
                     clear HR253
                     clear HO243
                     have HO_14 := n0_
                     have BK232 := n1_
                     have BK233 := n2_
                     have HO246 := n3_
                     have HB := n4_
                     have HR240 := n5_
                     have HR253 := n6_
                     have HO249 := n7_
                     clear n0_ n1_ n2_ n3_ n4_ n5_ n6_ n7_
                     clear ho hb hg hat
                     refine hK.out _ _ ⟨(blk_cell BK233.out 0).trans rfl, (blk_cell BK233.out 1).trans rfl, (blk_cell BK233.out 2).trans rfl, (blk_cell BK233.out 3).trans rfl⟩ (fun hHeld => ?_)
                     clear hK K
                     refine norm_ (a' := ?_) ?_ ?_
                     rotate_left
                     ·show Act.put _ (some 76) _ = _
                      simp only [Act.put, List.setIfInBounds_toArray, List.set_cons_zero, List.set_cons_succ, i64_w, i32_w]
                      rfl
                     refine one_ (i := 6) (N := some 79) #[true, true, true, true, true, true, true, false] rfl rfl (one_of HT_.out (by kernel_rfl)) (by decide) (fun K hK => ?_)
                     refine Kd.R_append_rows_step k32 (w0 := w) w.heap.size (by rfl) (.tmp 76) (.tmp 78) 24 32 (.agg #[(.int .i64 0), (.int .i64 0), (.string ⟨#[]⟩), (.int .i64 0)]) 40 rfl Try.underlying24 info32 rfl (by decide) (by omega) v248 y247 y250 _ _ _ (fun k_ => some k_ ≠ (.slice Ao57 t223.length co57 : Value).ownBlock ∧ some k_ ≠ (.slice Ao66 y244.length co66 : Value).ownBlock ∧ k_ ≠ gb232 ∧ k_ ≠ gb233) (fun _ => False) rfl rfl ?aO ?aR (fun _ _ h => h) (fun _ h => h.elim) ?aF ?aB ?aS ?aL ?_
                     (case aR => repeat (first | exact (by repeat (first | (with_reducible exact HR253.out) | (with_reducible refine Kd.C_alloc ?_ _) | (with_reducible refine Kd.C_drewN ?_ _) | (with_reducible refine Kd.C_drew ?_) | exact HR253.out)) | (with_reducible refine Kd.C_alloc ?_ _) | (with_reducible refine Kd.C_drewN ?_ _) | (with_reducible refine Kd.C_drew ?_)))
                     (case aB => exact (by repeat (first | (with_reducible first | exact HB.out | apply below_alloc | apply pw_below_drewN | apply below_drew1 | refine below_set ?_ GE232.out | refine below_set ?_ GE233.out) | exact HB.out)))
                     (case aF => exact (fun k_ hk => ⟨Kd.fresh' (Kd.R_lt (by (with_reducible repeat (first | apply Kd.R_alloc | apply Kd.R_drewN | apply Kd.R_drew)); exact HO_14.out)) k_ hk, Kd.fresh' (Kd.R_lt (by (with_reducible repeat (first | apply Kd.R_alloc | apply Kd.R_drewN | apply Kd.R_drew)); exact HO246.out)) k_ hk, Kd.freshB (g := gb232) (o := .cells #[.int .i64 4, .int .i64 0, .string (⟨#[40]⟩ : ByteArray), .int .i64 0] 32 (0, 0)) (by (with_reducible repeat (first | refine blk_drewN ?_ _ | refine blk_drew ?_ | refine blk_alloc ?_ _)); exact BK232.out) k_ hk, Kd.freshB (g := gb233) (o := .cells #[.int .i64 4, .int .i64 0, .string (⟨#[41]⟩ : ByteArray), .int .i64 0] 32 (0, 0)) (by (with_reducible repeat (first | refine blk_drewN ?_ _ | refine blk_drew ?_ | refine blk_alloc ?_ _)); exact BK233.out) k_ hk⟩))
                     (case aO => exact (by (with_reducible repeat (first | apply Kd.R_alloc | apply Kd.R_drewN | apply Kd.R_drew)); exact HO249.out))
                     (case aS => exact (below_size (by repeat (first | (with_reducible first | exact HB.out | apply below_alloc | apply pw_below_drewN | apply below_drew1 | refine below_set ?_ GE232.out | refine below_set ?_ GE233.out) | exact HB.out))))
                     (case aL => have := LMc36.out; omega)
                     intro v255 w67 ho hb hg hat
                     rw [← Ny254.out] at ho
                     have n0_ := Aside0.mk (Kd.R_after (ok := (fun k_ => some k_ ≠ (.slice Ao66 y244.length co66 : Value).ownBlock ∧ k_ ≠ gb232 ∧ k_ ≠ gb233)) (by (with_reducible repeat (first | apply Kd.R_alloc | apply Kd.R_drewN | apply Kd.R_drew)); exact HO_14.out) hg hat)
                     have n1_ := Aside0.mk (blk_grown (g := gb232) (o := .cells #[.int .i64 4, .int .i64 0, .string (⟨#[40]⟩ : ByteArray), .int .i64 0] 32 (0, 0)) (by (with_reducible repeat (first | refine blk_drewN ?_ _ | refine blk_drew ?_ | refine blk_alloc ?_ _)); exact BK232.out) hg (Kd.R_away HO249.out (fun _ hk => hk.2.2.1)))
                     have n2_ := Aside0.mk (blk_grown (g := gb233) (o := .cells #[.int .i64 4, .int .i64 0, .string (⟨#[41]⟩ : ByteArray), .int .i64 0] 32 (0, 0)) (by (with_reducible repeat (first | refine blk_drewN ?_ _ | refine blk_drew ?_ | refine blk_alloc ?_ _)); exact BK233.out) hg (Kd.R_away HO249.out (fun _ hk => hk.2.2.2)))
                     have n3_ := Aside0.mk (Kd.R_after (ok := (fun k_ => some k_ ≠ (.slice Ao57 t223.length co57 : Value).ownBlock ∧ k_ ≠ gb232 ∧ k_ ≠ gb233)) (by (with_reducible repeat (first | apply Kd.R_alloc | apply Kd.R_drewN | apply Kd.R_drew)); exact HO246.out) hg hat)
                     have n4_ := Aside0.mk (hb)
                     have n5_ := Aside0.mk ((show Kd.C k32 w67 Ao57 y237.length y237 from by rw [Ny237.out]; exact Kd.C_take (m := 3) ((Kd.R_reads' (Kd.R_after (ok := (fun k_ => some k_ ≠ (.slice Ao66 y244.length co66 : Value).ownBlock ∧ k_ ≠ gb232 ∧ k_ ≠ gb233)) (by (with_reducible repeat (first | apply Kd.R_alloc | apply Kd.R_drewN | apply Kd.R_drew)); exact HO_14.out) hg hat)).2.2) KL56.out))
                     have n6_ := Aside0.mk ((show Kd.C k32 w67 A62 y250.length y250 from by rw [Ny250.out, KA62.out]; exact Kd.C_drop (m := 3) (c := co57) ((Kd.R_reads' (Kd.R_after (ok := (fun k_ => some k_ ≠ (.slice Ao66 y244.length co66 : Value).ownBlock ∧ k_ ≠ gb232 ∧ k_ ≠ gb233)) (by (with_reducible repeat (first | apply Kd.R_alloc | apply Kd.R_drewN | apply Kd.R_drew)); exact HO_14.out) hg hat)).2.2) KL62.out ((Kd.R_reads' (Kd.R_after (ok := (fun k_ => some k_ ≠ (.slice Ao66 y244.length co66 : Value).ownBlock ∧ k_ ≠ gb232 ∧ k_ ≠ gb233)) (by (with_reducible repeat (first | apply Kd.R_alloc | apply Kd.R_drewN | apply Kd.R_drew)); exact HO_14.out) hg hat)).2.1)))
                     have n7_ := Aside0.mk (ho)
                     clear HO_14
                     clear BK232
                     clear BK233
                     clear HO246
                     clear HB
                     clear HR240
                     clear HR253
                     clear HO249
                     have HO_14 := n0_
                     have BK232 := n1_
                     have BK233 := n2_
                     have HO246 := n3_
                     have HB := n4_
                     have HR240 := n5_
                     have HR253 := n6_
                     have HO256 := n7_
                     clear n0_ n1_ n2_ n3_ n4_ n5_ n6_ n7_
                     clear ho hb hg hat
                     refine hK.out _ _ ⟨(blk_cell BK233.out 0).trans rfl, (blk_cell BK233.out 1).trans rfl, (blk_cell BK233.out 2).trans rfl, (blk_cell BK233.out 3).trans rfl⟩ (fun hHeld => ?_)
                     clear hK K
                     refine norm_ (a' := ?_) ?_ ?_
                     rotate_left
                     ·show Act.put _ (some 79) _ = _
                      simp only [Act.put, List.setIfInBounds_toArray, List.set_cons_zero, List.set_cons_succ, i64_w, i32_w]
                      rfl
                     refine pure_ (i := 7) (N := some 20) (v := ?_) (a' := ?_) #[true, true, true, true, true, true, true, true] rfl rfl (any_of HT_.out (by kernel_rfl)) (fun _ _ _ h => h) (Or.inl ⟨by rfl, ?_⟩) ?_ ?_
                     rotate_left
                     ·intro w'
                      go_simp
                      with_reducible rfl
                     rotate_left
                     ·simp only [Act.put, List.setIfInBounds_toArray, List.set_cons_zero, List.set_cons_succ, i64_w, i32_w]
                      rfl
                     refine done_ (done_of HT_.out (by kernel_rfl)) ?_
                     try go_wp2
                     have n0_ := Aside0.mk (Kd.R_drew HO_14.out)
                     have n1_ := Aside0.mk (Kd.R_drew HO246.out)
                     have n2_ := Aside0.mk (Kd.R_drew HO256.out)
                     have n3_ := Aside0.mk (blk_drew BK232.out)
                     have n4_ := Aside0.mk (blk_drew BK233.out)
                     have n5_ := Aside0.mk (Kd.C_drew HR240.out)
                     have n6_ := Aside0.mk (Kd.C_drew HR253.out)
                     have n7_ := Aside0.mk (below_drew1 HB.out)
                     clear HO_14
                     clear HO246
                     clear HO256
                     clear BK232
                     clear BK233
                     clear HR240
                     clear HR253
                     clear HB
                     have HO_14 := n0_
                     have HO246 := n1_
                     have HO256 := n2_
                     have BK232 := n3_
                     have BK233 := n4_
                     have HR240 := n5_
                     have HR253 := n6_
                     have HB := n7_
                     clear n0_ n1_ n2_ n3_ n4_ n5_ n6_ n7_
                     have q69 : (2 : Int) ≤ ((t223.length : Int) : Int) := of_decide_eq_true (by first | (with_reducible assumption) | assumption)
                     obtain ⟨i069, hi069, _, hsz69, _⟩ := info_parts info32
                     have hroom69 : t223.length ≤ co57 := (Kd.R_reads' HO_14.out).2.1
                     have hC69 : Kd.C k32 _ Ao57 t223.length t223 := (Kd.R_reads' HO_14.out).2.2
                     have hcut69 := cut_to (P := Try.prog) 24 32 .i64 Try.underlying24 hi069 Ao57 t223.length co57 2 (by omega) q69 hroom69
                     have hr69 := Kd.C_take (m := 2) hC69 (by omega)
                     have hy69 : y260.length = (2 : Int).toNat := (by rw [Ny260.out, List.length_take]; omega)
                     rw [← Ny260.out] at hr69
                     rw [← hy69] at hcut69
                     have HR263 := Aside0.mk hr69
                     have HC263 := Aside0.mk (show y260.length ≤ co57 from by omega)
                     clear hr69 hC69 hroom69 hi069 hsz69
                     have KY69 := Aside0.mk hy69
                     clear hy69
                     have KL69 := Aside0.mk (show 2 ≤ t223.length from by omega)
                     replace q69 := eq_true q69
                     refine start_ (n := 8) (S := fun w' => w'.cell? ⟨gb232, 0, none⟩ = some (.int .i64 4) ∧ w'.cell? ⟨gb232, 1, none⟩ = some (.int .i64 0) ∧ w'.cell? ⟨gb232, 2, none⟩ = some (.string (⟨#[40]⟩ : ByteArray)) ∧ w'.cell? ⟨gb232, 3, none⟩ = some (.int .i64 0)) (ds := []) #[false, false, false, false, false, false, false, false] (by kernel_rfl) rfl rfl ⟨(blk_cell BK232.out 0).trans rfl, (blk_cell BK232.out 1).trans rfl, (blk_cell BK232.out 2).trans rfl, (blk_cell BK232.out 3).trans rfl⟩ (fun hHeld => ?_); refine with_tabW linotypelaw23_ExprSums.tab14 linotypelaw23_ExprSums.bits14 (fun HT_ HW_ => ?_)
                     generalize w67.drew = w68 at HO_14 HO246 HO256 BK232 BK233 HR240 HR253 HB HR263 hHeld ⊢
                     refine pure_ (i := 1) (N := some 81) (v := ?_) (a' := ?_) #[false, true, false, false, false, false, false, false] rfl rfl (any_of HT_.out (by kernel_rfl)) (fun _ _ _ h => h) (Or.inl ⟨by rfl, ?_⟩) ?_ ?_
                     rotate_left
                     ·intro w'
                      go_simp
                      with_reducible rfl
                     rotate_left
                     ·simp only [Act.put, List.setIfInBounds_toArray, List.set_cons_zero, List.set_cons_succ, i64_w, i32_w]
                      rfl
                     refine pure_ (i := 2) (N := some 82) (v := ?_) (a' := ?_) #[false, true, true, false, false, false, false, false] rfl rfl (any_of HT_.out (by kernel_rfl)) (fun _ _ _ h => h) (Or.inl ⟨by rfl, ?_⟩) ?_ ?_
                     rotate_left
                     ·intro w'
                      go_simp
                      with_reducible rfl
                     rotate_left
                     ·simp only [Act.put, List.setIfInBounds_toArray, List.set_cons_zero, List.set_cons_succ, i64_w, i32_w]
                      rfl
                     refine take_ (i := 4) (N := some 84) (v := ?_) (a' := ?_) #[false, true, true, false, true, false, false, false] rfl rfl (take_ofW HT_.out HW_.out (by kernel_rfl)) (fun _ _ _ h => h) (Or.inl ⟨by rfl, ?_⟩) hHeld ?_ ?_
                     rotate_left
                     ·rintro w' ⟨s0, s1, s2, s3⟩
                      go_simp
                      with_reducible rfl
                     rotate_left
                     ·simp only [Act.put, List.setIfInBounds_toArray, List.set_cons_zero, List.set_cons_succ, i64_w, i32_w]
                      rfl
                     refine join_ (σ := Value × Value × Value) 2 #[true, true, true, true, true, true, false, false] (fun s_ => [(80, s_.1), (83, s_.2.1), (85, s_.2.2)]) (fun s_ w' => (w'.cell? ⟨gb232, 0, none⟩ = some (.int .i64 4) ∧ w'.cell? ⟨gb232, 1, none⟩ = some (.int .i64 0) ∧ w'.cell? ⟨gb232, 2, none⟩ = some (.string (⟨#[40]⟩ : ByteArray)) ∧ w'.cell? ⟨gb232, 3, none⟩ = some (.int .i64 0)) ∧ (Kd.R k32 32 w' w.heap.size (fun k_ => some k_ ≠ (v255 : Value).ownBlock ∧ some k_ ≠ (s_.2.1 : Value).ownBlock ∧ some k_ ≠ (s_.2.2 : Value).ownBlock ∧ some k_ ≠ (.slice Ao57 t223.length co57 : Value).ownBlock ∧ k_ ≠ gb232 ∧ k_ ≠ gb233) (.slice Ao66 y244.length co66) y244) ∧ (Kd.R k32 32 w' w.heap.size (fun k_ => some k_ ≠ (.slice Ao66 y244.length co66 : Value).ownBlock ∧ some k_ ≠ (s_.2.1 : Value).ownBlock ∧ some k_ ≠ (s_.2.2 : Value).ownBlock ∧ some k_ ≠ (.slice Ao57 t223.length co57 : Value).ownBlock ∧ k_ ≠ gb232 ∧ k_ ≠ gb233) v255 y254) ∧ (Kd.R k32 32 w' w.heap.size (fun k_ => some k_ ≠ (.slice Ao66 y244.length co66 : Value).ownBlock ∧ some k_ ≠ (v255 : Value).ownBlock ∧ some k_ ≠ (s_.2.2 : Value).ownBlock ∧ some k_ ≠ (.slice Ao57 t223.length co57 : Value).ownBlock ∧ k_ ≠ gb232 ∧ k_ ≠ gb233) s_.2.1 y264) ∧ (Kd.R k32 32 w' w.heap.size (fun k_ => some k_ ≠ (.slice Ao66 y244.length co66 : Value).ownBlock ∧ some k_ ≠ (v255 : Value).ownBlock ∧ some k_ ≠ (s_.2.1 : Value).ownBlock ∧ some k_ ≠ (.slice Ao57 t223.length co57 : Value).ownBlock ∧ k_ ≠ gb232 ∧ k_ ≠ gb233) s_.2.2 y267) ∧ (Kd.R k32 32 w' w.heap.size (fun k_ => some k_ ≠ (.slice Ao66 y244.length co66 : Value).ownBlock ∧ some k_ ≠ (v255 : Value).ownBlock ∧ some k_ ≠ (s_.2.1 : Value).ownBlock ∧ some k_ ≠ (s_.2.2 : Value).ownBlock ∧ k_ ≠ gb232 ∧ k_ ≠ gb233) (.slice Ao57 t223.length co57) t223) ∧ (w'.heap[gb232]? = some (.cells #[.int .i64 4, .int .i64 0, .string (⟨#[40]⟩ : ByteArray), .int .i64 0] 32 (0, 0))) ∧ (w'.heap[gb233]? = some (.cells #[.int .i64 4, .int .i64 0, .string (⟨#[41]⟩ : ByteArray), .int .i64 0] 32 (0, 0))) ∧ (Below w.heap.size w w')) ?_ ?_
                     rotate_left
                     ·intro hCont
                      refine two_ (i := 0) (j := 5) (Ni := some 80) (Nj := some 85) #[true, true, true, false, true, false, false, false] #[false, true, true, false, true, true, false, false] rfl rfl rfl rfl (two_of HT_.out (by kernel_rfl)) (by decide) (by decide) (fun K hK => ?_) (fun K hK => ?_)
                      ·skip
                       refine Kd.R_lit_step k32 _ 32 ?hg (N := 80) ?hd (xs := ([] : List (S32))) (inner := []) (ok := fun _ => True) (okp := fun _ => True) ?hr ?hp (fun _ hk => hk) trivial (Below.refl _ _) (Nat.le_refl _) (by simp) ?_; (case hd => rfl); (case hg => rfl); (case hr => first | (go_simp; done) | (go_simp; rfl)); (case hp => exact (Reps.none _ _))
                       intro v258 w70 ho71 hb hg_ hnew_
                       clear hg_ hnew_
                       (first | rw [← Ny257.out] at ho71 | (simp only [Int.reduceToNat] at ho71; rw [← Ny257.out] at ho71))
                       have n0_ := Aside0.mk (Kd.R_elder' (by (with_reducible repeat (first | apply Kd.R_alloc | apply Kd.R_drewN | apply Kd.R_drew)); exact HO_14.out) (Kd.R_base ho71) hb)
                       have n1_ := Aside0.mk (Kd.R_elder' (by (with_reducible repeat (first | apply Kd.R_alloc | apply Kd.R_drewN | apply Kd.R_drew)); exact HO246.out) (Kd.R_base ho71) hb)
                       have n2_ := Aside0.mk (Kd.R_elder' (by (with_reducible repeat (first | apply Kd.R_alloc | apply Kd.R_drewN | apply Kd.R_drew)); exact HO256.out) (Kd.R_base ho71) hb)
                       have n3_ := Aside0.mk (Kd.R_lower (Kd.R_newB (Kd.R_newB (Kd.R_new' (Kd.R_new' (Kd.R_new' ho71 (Kd.R_lt (by (with_reducible repeat (first | apply Kd.R_alloc | apply Kd.R_drewN | apply Kd.R_drew)); exact HO_14.out))) (Kd.R_lt (by (with_reducible repeat (first | apply Kd.R_alloc | apply Kd.R_drewN | apply Kd.R_drew)); exact HO246.out))) (Kd.R_lt (by (with_reducible repeat (first | apply Kd.R_alloc | apply Kd.R_drewN | apply Kd.R_drew)); exact HO256.out))) (g := gb232) (o := .cells #[.int .i64 4, .int .i64 0, .string (⟨#[40]⟩ : ByteArray), .int .i64 0] 32 (0, 0)) (by (with_reducible repeat (first | refine blk_drewN ?_ _ | refine blk_drew ?_ | refine blk_alloc ?_ _)); exact BK232.out)) (g := gb233) (o := .cells #[.int .i64 4, .int .i64 0, .string (⟨#[41]⟩ : ByteArray), .int .i64 0] 32 (0, 0)) (by (with_reducible repeat (first | refine blk_drewN ?_ _ | refine blk_drew ?_ | refine blk_alloc ?_ _)); exact BK233.out)) (below_size (by repeat (first | (with_reducible first | exact HB.out | apply below_alloc | apply pw_below_drewN | apply below_drew1 | refine below_set ?_ GE232.out | refine below_set ?_ GE233.out) | exact HB.out))))
                       have n4_ := Aside0.mk (blk_below (g := gb232) (o := .cells #[.int .i64 4, .int .i64 0, .string (⟨#[40]⟩ : ByteArray), .int .i64 0] 32 (0, 0)) (by (with_reducible repeat (first | refine blk_drewN ?_ _ | refine blk_drew ?_ | refine blk_alloc ?_ _)); exact BK232.out) hb)
                       have n5_ := Aside0.mk (blk_below (g := gb233) (o := .cells #[.int .i64 4, .int .i64 0, .string (⟨#[41]⟩ : ByteArray), .int .i64 0] 32 (0, 0)) (by (with_reducible repeat (first | refine blk_drewN ?_ _ | refine blk_drew ?_ | refine blk_alloc ?_ _)); exact BK233.out) hb)
                       have n6_ := Aside0.mk (Kd.C_below (by repeat (first | (with_reducible exact HR240.out) | (with_reducible refine Kd.C_alloc ?_ _) | (with_reducible refine Kd.C_drewN ?_ _) | (with_reducible refine Kd.C_drew ?_) | exact HR240.out)) hb)
                       have n7_ := Aside0.mk (Kd.C_below (by repeat (first | (with_reducible exact HR253.out) | (with_reducible refine Kd.C_alloc ?_ _) | (with_reducible refine Kd.C_drewN ?_ _) | (with_reducible refine Kd.C_drew ?_) | exact HR253.out)) hb)
                       have n8_ := Aside0.mk (Kd.C_below (by repeat (first | (with_reducible exact HR263.out) | (with_reducible refine Kd.C_alloc ?_ _) | (with_reducible refine Kd.C_drewN ?_ _) | (with_reducible refine Kd.C_drew ?_) | exact HR263.out)) hb)
                       have n9_ := Aside0.mk (below_step (by repeat (first | (with_reducible first | exact HB.out | apply below_alloc | apply pw_below_drewN | apply below_drew1 | refine below_set ?_ GE232.out | refine below_set ?_ GE233.out) | exact HB.out)) hb)
                       clear HO_14
                       clear HO246
                       clear HO256
                       clear BK232
                       clear BK233
                       clear HR240
                       clear HR253
                       clear HR263
                       clear HB
                       have HO_14 := n0_
                       have HO246 := n1_
                       have HO256 := n2_
                       have HO259 := n3_
                       have BK232 := n4_
                       have BK233 := n5_
                       have HR240 := n6_
                       have HR253 := n7_
                       have HR263 := n8_
                       have HB := n9_
                       clear n0_ n1_ n2_ n3_ n4_ n5_ n6_ n7_ n8_ n9_
                       clear hb ho71
                       refine hK.out _ _ ⟨(blk_cell BK232.out 0).trans rfl, (blk_cell BK232.out 1).trans rfl, (blk_cell BK232.out 2).trans rfl, (blk_cell BK232.out 3).trans rfl⟩ (fun hHeld => ?_)
                       clear hK K
                       refine norm_ (a' := ?_) ?_ ?_
                       rotate_left
                       ·show Act.put _ (some 80) _ = _
                        simp only [Act.put, List.setIfInBounds_toArray, List.set_cons_zero, List.set_cons_succ, i64_w, i32_w]
                        rfl
                       refine two_ (i := 3) (j := 5) (Ni := some 83) (Nj := some 85) #[true, true, true, true, true, false, false, false] #[true, true, true, false, true, true, false, false] rfl rfl rfl rfl (two_of HT_.out (by kernel_rfl)) (by decide) (by decide) (fun K hK => ?_) (fun K hK => ?_)
                       ·skip
                        refine Kd.R_append_rows_step k32 (w0 := w) w.heap.size (by rfl) (.tmp 80) (.tmp 82) 24 32 (.agg #[(.int .i64 0), (.int .i64 0), (.string ⟨#[]⟩), (.int .i64 0)]) 40 rfl Try.underlying24 info32 rfl (by decide) (by omega) v258 y257 y260 _ _ _ (fun k_ => some k_ ≠ (.slice Ao57 t223.length co57 : Value).ownBlock ∧ some k_ ≠ (.slice Ao66 y244.length co66 : Value).ownBlock ∧ some k_ ≠ (v255 : Value).ownBlock ∧ k_ ≠ gb232 ∧ k_ ≠ gb233) (fun _ => False) rfl rfl ?aO ?aR (fun _ _ h => h) (fun _ h => h.elim) ?aF ?aB ?aS ?aL ?_
                        (case aR => repeat (first | exact (by repeat (first | (with_reducible exact HR263.out) | (with_reducible refine Kd.C_alloc ?_ _) | (with_reducible refine Kd.C_drewN ?_ _) | (with_reducible refine Kd.C_drew ?_) | exact HR263.out)) | (with_reducible refine Kd.C_alloc ?_ _) | (with_reducible refine Kd.C_drewN ?_ _) | (with_reducible refine Kd.C_drew ?_)))
                        (case aB => exact (by repeat (first | (with_reducible first | exact HB.out | apply below_alloc | apply pw_below_drewN | apply below_drew1 | refine below_set ?_ GE232.out | refine below_set ?_ GE233.out) | exact HB.out)))
                        (case aF => exact (fun k_ hk => ⟨Kd.fresh' (Kd.R_lt (by (with_reducible repeat (first | apply Kd.R_alloc | apply Kd.R_drewN | apply Kd.R_drew)); exact HO_14.out)) k_ hk, Kd.fresh' (Kd.R_lt (by (with_reducible repeat (first | apply Kd.R_alloc | apply Kd.R_drewN | apply Kd.R_drew)); exact HO246.out)) k_ hk, Kd.fresh' (Kd.R_lt (by (with_reducible repeat (first | apply Kd.R_alloc | apply Kd.R_drewN | apply Kd.R_drew)); exact HO256.out)) k_ hk, Kd.freshB (g := gb232) (o := .cells #[.int .i64 4, .int .i64 0, .string (⟨#[40]⟩ : ByteArray), .int .i64 0] 32 (0, 0)) (by (with_reducible repeat (first | refine blk_drewN ?_ _ | refine blk_drew ?_ | refine blk_alloc ?_ _)); exact BK232.out) k_ hk, Kd.freshB (g := gb233) (o := .cells #[.int .i64 4, .int .i64 0, .string (⟨#[41]⟩ : ByteArray), .int .i64 0] 32 (0, 0)) (by (with_reducible repeat (first | refine blk_drewN ?_ _ | refine blk_drew ?_ | refine blk_alloc ?_ _)); exact BK233.out) k_ hk⟩))
                        (case aO => exact (by (with_reducible repeat (first | apply Kd.R_alloc | apply Kd.R_drewN | apply Kd.R_drew)); exact Kd.R_mono HO259.out (fun _ hk => ⟨hk.1.1.1.1.2, ⟨hk.1.1.1.2, ⟨hk.1.1.2, ⟨hk.1.2, hk.2⟩⟩⟩⟩)))
                        (case aS => exact (below_size (by repeat (first | (with_reducible first | exact HB.out | apply below_alloc | apply pw_below_drewN | apply below_drew1 | refine below_set ?_ GE232.out | refine below_set ?_ GE233.out) | exact HB.out))))
                        (case aL => have := LMc38.out; omega)
                        intro v265 w72 ho hb hg hat
                        rw [← Ny264.out] at ho
                        have n0_ := Aside0.mk (Kd.R_after (ok := (fun k_ => some k_ ≠ (.slice Ao66 y244.length co66 : Value).ownBlock ∧ some k_ ≠ (v255 : Value).ownBlock ∧ k_ ≠ gb232 ∧ k_ ≠ gb233)) (by (with_reducible repeat (first | apply Kd.R_alloc | apply Kd.R_drewN | apply Kd.R_drew)); exact Kd.R_mono HO_14.out (fun _ hk => ⟨⟨hk.1.1.1, ⟨hk.1.2, ⟨hk.1.1.2.1, hk.1.1.2.2⟩⟩⟩, hk.2⟩)) hg hat)
                        have n1_ := Aside0.mk (blk_grown (g := gb232) (o := .cells #[.int .i64 4, .int .i64 0, .string (⟨#[40]⟩ : ByteArray), .int .i64 0] 32 (0, 0)) (by (with_reducible repeat (first | refine blk_drewN ?_ _ | refine blk_drew ?_ | refine blk_alloc ?_ _)); exact BK232.out) hg (Kd.R_away HO259.out (fun _ hk => hk.1.2)))
                        have n2_ := Aside0.mk (blk_grown (g := gb233) (o := .cells #[.int .i64 4, .int .i64 0, .string (⟨#[41]⟩ : ByteArray), .int .i64 0] 32 (0, 0)) (by (with_reducible repeat (first | refine blk_drewN ?_ _ | refine blk_drew ?_ | refine blk_alloc ?_ _)); exact BK233.out) hg (Kd.R_away HO259.out (fun _ hk => hk.2)))
                        have n3_ := Aside0.mk (Kd.R_after (ok := (fun k_ => some k_ ≠ (.slice Ao57 t223.length co57 : Value).ownBlock ∧ some k_ ≠ (v255 : Value).ownBlock ∧ k_ ≠ gb232 ∧ k_ ≠ gb233)) (by (with_reducible repeat (first | apply Kd.R_alloc | apply Kd.R_drewN | apply Kd.R_drew)); exact Kd.R_mono HO246.out (fun _ hk => ⟨⟨hk.1.1.1, ⟨hk.1.2, ⟨hk.1.1.2.1, hk.1.1.2.2⟩⟩⟩, hk.2⟩)) hg hat)
                        have n4_ := Aside0.mk (Kd.R_after (ok := (fun k_ => some k_ ≠ (.slice Ao57 t223.length co57 : Value).ownBlock ∧ some k_ ≠ (.slice Ao66 y244.length co66 : Value).ownBlock ∧ k_ ≠ gb232 ∧ k_ ≠ gb233)) (by (with_reducible repeat (first | apply Kd.R_alloc | apply Kd.R_drewN | apply Kd.R_drew)); exact HO256.out) hg hat)
                        have n5_ := Aside0.mk (hb)
                        have n6_ := Aside0.mk ((show Kd.C k32 w72 Ao57 y237.length y237 from by rw [Ny237.out]; exact Kd.C_take (m := 3) ((Kd.R_reads' (Kd.R_after (ok := (fun k_ => some k_ ≠ (.slice Ao66 y244.length co66 : Value).ownBlock ∧ some k_ ≠ (v255 : Value).ownBlock ∧ k_ ≠ gb232 ∧ k_ ≠ gb233)) (by (with_reducible repeat (first | apply Kd.R_alloc | apply Kd.R_drewN | apply Kd.R_drew)); exact Kd.R_mono HO_14.out (fun _ hk => ⟨⟨hk.1.1.1, ⟨hk.1.2, ⟨hk.1.1.2.1, hk.1.1.2.2⟩⟩⟩, hk.2⟩)) hg hat)).2.2) KL56.out))
                        have n7_ := Aside0.mk ((show Kd.C k32 w72 A62 y250.length y250 from by rw [Ny250.out, KA62.out]; exact Kd.C_drop (m := 3) (c := co57) ((Kd.R_reads' (Kd.R_after (ok := (fun k_ => some k_ ≠ (.slice Ao66 y244.length co66 : Value).ownBlock ∧ some k_ ≠ (v255 : Value).ownBlock ∧ k_ ≠ gb232 ∧ k_ ≠ gb233)) (by (with_reducible repeat (first | apply Kd.R_alloc | apply Kd.R_drewN | apply Kd.R_drew)); exact Kd.R_mono HO_14.out (fun _ hk => ⟨⟨hk.1.1.1, ⟨hk.1.2, ⟨hk.1.1.2.1, hk.1.1.2.2⟩⟩⟩, hk.2⟩)) hg hat)).2.2) KL62.out ((Kd.R_reads' (Kd.R_after (ok := (fun k_ => some k_ ≠ (.slice Ao66 y244.length co66 : Value).ownBlock ∧ some k_ ≠ (v255 : Value).ownBlock ∧ k_ ≠ gb232 ∧ k_ ≠ gb233)) (by (with_reducible repeat (first | apply Kd.R_alloc | apply Kd.R_drewN | apply Kd.R_drew)); exact Kd.R_mono HO_14.out (fun _ hk => ⟨⟨hk.1.1.1, ⟨hk.1.2, ⟨hk.1.1.2.1, hk.1.1.2.2⟩⟩⟩, hk.2⟩)) hg hat)).2.1)))
                        have n8_ := Aside0.mk ((show Kd.C k32 w72 Ao57 y260.length y260 from by rw [Ny260.out]; exact Kd.C_take (m := 2) ((Kd.R_reads' (Kd.R_after (ok := (fun k_ => some k_ ≠ (.slice Ao66 y244.length co66 : Value).ownBlock ∧ some k_ ≠ (v255 : Value).ownBlock ∧ k_ ≠ gb232 ∧ k_ ≠ gb233)) (by (with_reducible repeat (first | apply Kd.R_alloc | apply Kd.R_drewN | apply Kd.R_drew)); exact Kd.R_mono HO_14.out (fun _ hk => ⟨⟨hk.1.1.1, ⟨hk.1.2, ⟨hk.1.1.2.1, hk.1.1.2.2⟩⟩⟩, hk.2⟩)) hg hat)).2.2) KL69.out))
                        have n9_ := Aside0.mk (ho)
                        clear HO_14
                        clear BK232
                        clear BK233
                        clear HO246
                        clear HO256
                        clear HB
                        clear HR240
                        clear HR253
                        clear HR263
                        clear HO259
                        have HO_14 := n0_
                        have BK232 := n1_
                        have BK233 := n2_
                        have HO246 := n3_
                        have HO256 := n4_
                        have HB := n5_
                        have HR240 := n6_
                        have HR253 := n7_
                        have HR263 := n8_
                        have HO266 := n9_
                        clear n0_ n1_ n2_ n3_ n4_ n5_ n6_ n7_ n8_ n9_
                        clear ho hb hg hat
                        refine hK.out _ _ ⟨(blk_cell BK232.out 0).trans rfl, (blk_cell BK232.out 1).trans rfl, (blk_cell BK232.out 2).trans rfl, (blk_cell BK232.out 3).trans rfl⟩ (fun hHeld => ?_)
                        clear hK K
                        refine norm_ (a' := ?_) ?_ ?_
                        rotate_left
                        ·show Act.put _ (some 83) _ = _
                         simp only [Act.put, List.setIfInBounds_toArray, List.set_cons_zero, List.set_cons_succ, i64_w, i32_w]
                         rfl
                        refine one_ (i := 5) (N := some 85) #[true, true, true, true, true, true, false, false] rfl rfl (one_of HT_.out (by kernel_rfl)) (by decide) (fun K hK => ?_)
                        refine Kd.R_lit_step k32 _ 32 ?hg (N := 85) ?hd (xs := ([(⟨4, 0, (⟨#[40]⟩ : ByteArray), 0⟩ : S32)] : List (S32))) (inner := [.int .i64 4, .int .i64 0, .string (⟨#[40]⟩ : ByteArray), .int .i64 0]) (ok := fun _ => True) (okp := fun _ => True) ?hr ?hp (fun _ hk => hk) trivial (Below.refl _ _) (Nat.le_refl _) (by simp) ?_; (case hd => rfl); (case hg => rfl); (case hr => first | (go_simp; done) | (go_simp; rfl)); (case hp => exact (Reps.c4 (show Kd.M k32 _ _ _ (⟨4, 0, (⟨#[40]⟩ : ByteArray), 0⟩ : S32) [.int .i64 4, .int .i64 0, .string (⟨#[40]⟩ : ByteArray), .int .i64 0] from (k32_mkM _ _ _ (⟨4, 0, (⟨#[40]⟩ : ByteArray), 0⟩ : S32) )) (Reps.none _ _)))
                        intro v268 w73 ho74 hb hg_ hnew_
                        clear hg_ hnew_
                        (first | rw [← Ny267.out] at ho74 | (simp only [Int.reduceToNat] at ho74; rw [← Ny267.out] at ho74))
                        have n0_ := Aside0.mk (Kd.R_elder' (by (with_reducible repeat (first | apply Kd.R_alloc | apply Kd.R_drewN | apply Kd.R_drew)); exact HO_14.out) (Kd.R_base ho74) hb)
                        have n1_ := Aside0.mk (Kd.R_elder' (by (with_reducible repeat (first | apply Kd.R_alloc | apply Kd.R_drewN | apply Kd.R_drew)); exact HO246.out) (Kd.R_base ho74) hb)
                        have n2_ := Aside0.mk (Kd.R_elder' (by (with_reducible repeat (first | apply Kd.R_alloc | apply Kd.R_drewN | apply Kd.R_drew)); exact HO256.out) (Kd.R_base ho74) hb)
                        have n3_ := Aside0.mk (Kd.R_elder' (by (with_reducible repeat (first | apply Kd.R_alloc | apply Kd.R_drewN | apply Kd.R_drew)); exact HO266.out) (Kd.R_base ho74) hb)
                        have n4_ := Aside0.mk (Kd.R_lower (Kd.R_newB (Kd.R_newB (Kd.R_new' (Kd.R_new' (Kd.R_new' (Kd.R_new' ho74 (Kd.R_lt (by (with_reducible repeat (first | apply Kd.R_alloc | apply Kd.R_drewN | apply Kd.R_drew)); exact HO_14.out))) (Kd.R_lt (by (with_reducible repeat (first | apply Kd.R_alloc | apply Kd.R_drewN | apply Kd.R_drew)); exact HO246.out))) (Kd.R_lt (by (with_reducible repeat (first | apply Kd.R_alloc | apply Kd.R_drewN | apply Kd.R_drew)); exact HO256.out))) (Kd.R_lt (by (with_reducible repeat (first | apply Kd.R_alloc | apply Kd.R_drewN | apply Kd.R_drew)); exact HO266.out))) (g := gb232) (o := .cells #[.int .i64 4, .int .i64 0, .string (⟨#[40]⟩ : ByteArray), .int .i64 0] 32 (0, 0)) (by (with_reducible repeat (first | refine blk_drewN ?_ _ | refine blk_drew ?_ | refine blk_alloc ?_ _)); exact BK232.out)) (g := gb233) (o := .cells #[.int .i64 4, .int .i64 0, .string (⟨#[41]⟩ : ByteArray), .int .i64 0] 32 (0, 0)) (by (with_reducible repeat (first | refine blk_drewN ?_ _ | refine blk_drew ?_ | refine blk_alloc ?_ _)); exact BK233.out)) (below_size (by repeat (first | (with_reducible first | exact HB.out | apply below_alloc | apply pw_below_drewN | apply below_drew1 | refine below_set ?_ GE232.out | refine below_set ?_ GE233.out) | exact HB.out))))
                        have n5_ := Aside0.mk (blk_below (g := gb232) (o := .cells #[.int .i64 4, .int .i64 0, .string (⟨#[40]⟩ : ByteArray), .int .i64 0] 32 (0, 0)) (by (with_reducible repeat (first | refine blk_drewN ?_ _ | refine blk_drew ?_ | refine blk_alloc ?_ _)); exact BK232.out) hb)
                        have n6_ := Aside0.mk (blk_below (g := gb233) (o := .cells #[.int .i64 4, .int .i64 0, .string (⟨#[41]⟩ : ByteArray), .int .i64 0] 32 (0, 0)) (by (with_reducible repeat (first | refine blk_drewN ?_ _ | refine blk_drew ?_ | refine blk_alloc ?_ _)); exact BK233.out) hb)
                        have n7_ := Aside0.mk (Kd.C_below (by repeat (first | (with_reducible exact HR240.out) | (with_reducible refine Kd.C_alloc ?_ _) | (with_reducible refine Kd.C_drewN ?_ _) | (with_reducible refine Kd.C_drew ?_) | exact HR240.out)) hb)
                        have n8_ := Aside0.mk (Kd.C_below (by repeat (first | (with_reducible exact HR253.out) | (with_reducible refine Kd.C_alloc ?_ _) | (with_reducible refine Kd.C_drewN ?_ _) | (with_reducible refine Kd.C_drew ?_) | exact HR253.out)) hb)
                        have n9_ := Aside0.mk (Kd.C_below (by repeat (first | (with_reducible exact HR263.out) | (with_reducible refine Kd.C_alloc ?_ _) | (with_reducible refine Kd.C_drewN ?_ _) | (with_reducible refine Kd.C_drew ?_) | exact HR263.out)) hb)
                        have n10_ := Aside0.mk (below_step (by repeat (first | (with_reducible first | exact HB.out | apply below_alloc | apply pw_below_drewN | apply below_drew1 | refine below_set ?_ GE232.out | refine below_set ?_ GE233.out) | exact HB.out)) hb)
                        clear HO_14
                        clear HO246
                        clear HO256
                        clear HO266
                        clear BK232
                        clear BK233
                        clear HR240
                        clear HR253
                        clear HR263
                        clear HB
                        have HO_14 := n0_
                        have HO246 := n1_
                        have HO256 := n2_
                        have HO266 := n3_
                        have HO269 := n4_
                        have BK232 := n5_
                        have BK233 := n6_
                        have HR240 := n7_
                        have HR253 := n8_
                        have HR263 := n9_
                        have HB := n10_
                        clear n0_ n1_ n2_ n3_ n4_ n5_ n6_ n7_ n8_ n9_ n10_
                        clear hb ho74
                        refine hK.out _ _ ⟨(blk_cell BK232.out 0).trans rfl, (blk_cell BK232.out 1).trans rfl, (blk_cell BK232.out 2).trans rfl, (blk_cell BK232.out 3).trans rfl⟩ (fun hHeld => ?_)
                        clear hK K
                        refine norm_ (a' := ?_) ?_ ?_
                        rotate_left
                        ·show Act.put _ (some 85) _ = _
                         simp only [Act.put, List.setIfInBounds_toArray, List.set_cons_zero, List.set_cons_succ, i64_w, i32_w]
                         rfl
                        exact norm_ (by simp only [putAll, Act.put, List.setIfInBounds_toArray, List.set_cons_zero, List.set_cons_succ]) (hCont (v258, v265, v268) _ ⟨hHeld, (by (with_reducible repeat (first | apply Kd.R_alloc | apply Kd.R_drewN | apply Kd.R_drew)); exact Kd.R_mono HO246.out (fun _ hk => ⟨hk.1.1.2.1, ⟨hk.1.2, ⟨hk.2, ⟨hk.1.1.1, ⟨hk.1.1.2.2.1, hk.1.1.2.2.2⟩⟩⟩⟩⟩)), (by (with_reducible repeat (first | apply Kd.R_alloc | apply Kd.R_drewN | apply Kd.R_drew)); exact Kd.R_mono HO256.out (fun _ hk => ⟨hk.1.1.2.1, ⟨hk.1.2, ⟨hk.2, ⟨hk.1.1.1, ⟨hk.1.1.2.2.1, hk.1.1.2.2.2⟩⟩⟩⟩⟩)), (by (with_reducible repeat (first | apply Kd.R_alloc | apply Kd.R_drewN | apply Kd.R_drew)); exact Kd.R_mono HO266.out (fun _ hk => ⟨hk.1.2.1, ⟨hk.1.2.2.1, ⟨hk.2, ⟨hk.1.1, ⟨hk.1.2.2.2.1, hk.1.2.2.2.2⟩⟩⟩⟩⟩)), (by (with_reducible repeat (first | apply Kd.R_alloc | apply Kd.R_drewN | apply Kd.R_drew)); exact Kd.R_mono HO269.out (fun _ hk => ⟨hk.1.1.1.1.2, ⟨hk.1.1.1.2, ⟨hk.1.1.2, ⟨hk.1.1.1.1.1.2, ⟨hk.1.2, hk.2⟩⟩⟩⟩⟩)), (by (with_reducible repeat (first | apply Kd.R_alloc | apply Kd.R_drewN | apply Kd.R_drew)); exact Kd.R_mono HO_14.out (fun _ hk => ⟨hk.1.1.1, ⟨hk.1.1.2.1, ⟨hk.1.2, ⟨hk.2, ⟨hk.1.1.2.2.1, hk.1.1.2.2.2⟩⟩⟩⟩⟩)), (by (with_reducible repeat (first | refine blk_drewN ?_ _ | refine blk_drew ?_ | refine blk_alloc ?_ _)); exact BK232.out), (by (with_reducible repeat (first | refine blk_drewN ?_ _ | refine blk_drew ?_ | refine blk_alloc ?_ _)); exact BK233.out), (by repeat (first | (with_reducible first | exact HB.out | apply below_alloc | apply pw_below_drewN | apply below_drew1 | refine below_set ?_ GE232.out | refine below_set ?_ GE233.out) | exact HB.out))⟩)
                       ·skip
                        refine Kd.R_lit_step k32 _ 32 ?hg (N := 85) ?hd (xs := ([(⟨4, 0, (⟨#[40]⟩ : ByteArray), 0⟩ : S32)] : List (S32))) (inner := [.int .i64 4, .int .i64 0, .string (⟨#[40]⟩ : ByteArray), .int .i64 0]) (ok := fun _ => True) (okp := fun _ => True) ?hr ?hp (fun _ hk => hk) trivial (Below.refl _ _) (Nat.le_refl _) (by simp) ?_; (case hd => rfl); (case hg => rfl); (case hr => first | (go_simp; done) | (go_simp; rfl)); (case hp => exact (Reps.c4 (show Kd.M k32 _ _ _ (⟨4, 0, (⟨#[40]⟩ : ByteArray), 0⟩ : S32) [.int .i64 4, .int .i64 0, .string (⟨#[40]⟩ : ByteArray), .int .i64 0] from (k32_mkM _ _ _ (⟨4, 0, (⟨#[40]⟩ : ByteArray), 0⟩ : S32) )) (Reps.none _ _)))
                        intro v268 w72 ho73 hb hg_ hnew_
                        clear hg_ hnew_
                        (first | rw [← Ny267.out] at ho73 | (simp only [Int.reduceToNat] at ho73; rw [← Ny267.out] at ho73))
                        have n0_ := Aside0.mk (Kd.R_elder' (by (with_reducible repeat (first | apply Kd.R_alloc | apply Kd.R_drewN | apply Kd.R_drew)); exact HO_14.out) (Kd.R_base ho73) hb)
                        have n1_ := Aside0.mk (Kd.R_elder' (by (with_reducible repeat (first | apply Kd.R_alloc | apply Kd.R_drewN | apply Kd.R_drew)); exact HO246.out) (Kd.R_base ho73) hb)
                        have n2_ := Aside0.mk (Kd.R_elder' (by (with_reducible repeat (first | apply Kd.R_alloc | apply Kd.R_drewN | apply Kd.R_drew)); exact HO256.out) (Kd.R_base ho73) hb)
                        have n3_ := Aside0.mk (Kd.R_elder' (by (with_reducible repeat (first | apply Kd.R_alloc | apply Kd.R_drewN | apply Kd.R_drew)); exact HO259.out) (Kd.R_base ho73) hb)
                        have n4_ := Aside0.mk (Kd.R_lower (Kd.R_newB (Kd.R_newB (Kd.R_new' (Kd.R_new' (Kd.R_new' (Kd.R_new' ho73 (Kd.R_lt (by (with_reducible repeat (first | apply Kd.R_alloc | apply Kd.R_drewN | apply Kd.R_drew)); exact HO_14.out))) (Kd.R_lt (by (with_reducible repeat (first | apply Kd.R_alloc | apply Kd.R_drewN | apply Kd.R_drew)); exact HO246.out))) (Kd.R_lt (by (with_reducible repeat (first | apply Kd.R_alloc | apply Kd.R_drewN | apply Kd.R_drew)); exact HO256.out))) (Kd.R_lt (by (with_reducible repeat (first | apply Kd.R_alloc | apply Kd.R_drewN | apply Kd.R_drew)); exact HO259.out))) (g := gb232) (o := .cells #[.int .i64 4, .int .i64 0, .string (⟨#[40]⟩ : ByteArray), .int .i64 0] 32 (0, 0)) (by (with_reducible repeat (first | refine blk_drewN ?_ _ | refine blk_drew ?_ | refine blk_alloc ?_ _)); exact BK232.out)) (g := gb233) (o := .cells #[.int .i64 4, .int .i64 0, .string (⟨#[41]⟩ : ByteArray), .int .i64 0] 32 (0, 0)) (by (with_reducible repeat (first | refine blk_drewN ?_ _ | refine blk_drew ?_ | refine blk_alloc ?_ _)); exact BK233.out)) (below_size (by repeat (first | (with_reducible first | exact HB.out | apply below_alloc | apply pw_below_drewN | apply below_drew1 | refine below_set ?_ GE232.out | refine below_set ?_ GE233.out) | exact HB.out))))
                        have n5_ := Aside0.mk (blk_below (g := gb232) (o := .cells #[.int .i64 4, .int .i64 0, .string (⟨#[40]⟩ : ByteArray), .int .i64 0] 32 (0, 0)) (by (with_reducible repeat (first | refine blk_drewN ?_ _ | refine blk_drew ?_ | refine blk_alloc ?_ _)); exact BK232.out) hb)
                        have n6_ := Aside0.mk (blk_below (g := gb233) (o := .cells #[.int .i64 4, .int .i64 0, .string (⟨#[41]⟩ : ByteArray), .int .i64 0] 32 (0, 0)) (by (with_reducible repeat (first | refine blk_drewN ?_ _ | refine blk_drew ?_ | refine blk_alloc ?_ _)); exact BK233.out) hb)
                        have n7_ := Aside0.mk (Kd.C_below (by repeat (first | (with_reducible exact HR240.out) | (with_reducible refine Kd.C_alloc ?_ _) | (with_reducible refine Kd.C_drewN ?_ _) | (with_reducible refine Kd.C_drew ?_) | exact HR240.out)) hb)
                        have n8_ := Aside0.mk (Kd.C_below (by repeat (first | (with_reducible exact HR253.out) | (with_reducible refine Kd.C_alloc ?_ _) | (with_reducible refine Kd.C_drewN ?_ _) | (with_reducible refine Kd.C_drew ?_) | exact HR253.out)) hb)
                        have n9_ := Aside0.mk (Kd.C_below (by repeat (first | (with_reducible exact HR263.out) | (with_reducible refine Kd.C_alloc ?_ _) | (with_reducible refine Kd.C_drewN ?_ _) | (with_reducible refine Kd.C_drew ?_) | exact HR263.out)) hb)
                        have n10_ := Aside0.mk (below_step (by repeat (first | (with_reducible first | exact HB.out | apply below_alloc | apply pw_below_drewN | apply below_drew1 | refine below_set ?_ GE232.out | refine below_set ?_ GE233.out) | exact HB.out)) hb)
                        clear HO_14
                        clear HO246
                        clear HO256
                        clear HO259
                        clear BK232
                        clear BK233
                        clear HR240
                        clear HR253
                        clear HR263
                        clear HB
                        have HO_14 := n0_
                        have HO246 := n1_
                        have HO256 := n2_
                        have HO259 := n3_
                        have HO269 := n4_
                        have BK232 := n5_
                        have BK233 := n6_
                        have HR240 := n7_
                        have HR253 := n8_
                        have HR263 := n9_
                        have HB := n10_
                        clear n0_ n1_ n2_ n3_ n4_ n5_ n6_ n7_ n8_ n9_ n10_
                        clear hb ho73
                        refine hK.out _ _ ⟨(blk_cell BK232.out 0).trans rfl, (blk_cell BK232.out 1).trans rfl, (blk_cell BK232.out 2).trans rfl, (blk_cell BK232.out 3).trans rfl⟩ (fun hHeld => ?_)
                        clear hK K
                        refine norm_ (a' := ?_) ?_ ?_
                        rotate_left
                        ·show Act.put _ (some 85) _ = _
                         simp only [Act.put, List.setIfInBounds_toArray, List.set_cons_zero, List.set_cons_succ, i64_w, i32_w]
                         rfl
                        refine one_ (i := 3) (N := some 83) #[true, true, true, true, true, true, false, false] rfl rfl (one_of HT_.out (by kernel_rfl)) (by decide) (fun K hK => ?_)
                        refine Kd.R_append_rows_step k32 (w0 := w) w.heap.size (by rfl) (.tmp 80) (.tmp 82) 24 32 (.agg #[(.int .i64 0), (.int .i64 0), (.string ⟨#[]⟩), (.int .i64 0)]) 40 rfl Try.underlying24 info32 rfl (by decide) (by omega) v258 y257 y260 _ _ _ (fun k_ => some k_ ≠ (.slice Ao57 t223.length co57 : Value).ownBlock ∧ some k_ ≠ (.slice Ao66 y244.length co66 : Value).ownBlock ∧ some k_ ≠ (v255 : Value).ownBlock ∧ some k_ ≠ (v268 : Value).ownBlock ∧ k_ ≠ gb232 ∧ k_ ≠ gb233) (fun _ => False) rfl rfl ?aO ?aR (fun _ _ h => h) (fun _ h => h.elim) ?aF ?aB ?aS ?aL ?_
                        (case aR => repeat (first | exact (by repeat (first | (with_reducible exact HR263.out) | (with_reducible refine Kd.C_alloc ?_ _) | (with_reducible refine Kd.C_drewN ?_ _) | (with_reducible refine Kd.C_drew ?_) | exact HR263.out)) | (with_reducible refine Kd.C_alloc ?_ _) | (with_reducible refine Kd.C_drewN ?_ _) | (with_reducible refine Kd.C_drew ?_)))
                        (case aB => exact (by repeat (first | (with_reducible first | exact HB.out | apply below_alloc | apply pw_below_drewN | apply below_drew1 | refine below_set ?_ GE232.out | refine below_set ?_ GE233.out) | exact HB.out)))
                        (case aF => exact (fun k_ hk => ⟨Kd.fresh' (Kd.R_lt (by (with_reducible repeat (first | apply Kd.R_alloc | apply Kd.R_drewN | apply Kd.R_drew)); exact HO_14.out)) k_ hk, Kd.fresh' (Kd.R_lt (by (with_reducible repeat (first | apply Kd.R_alloc | apply Kd.R_drewN | apply Kd.R_drew)); exact HO246.out)) k_ hk, Kd.fresh' (Kd.R_lt (by (with_reducible repeat (first | apply Kd.R_alloc | apply Kd.R_drewN | apply Kd.R_drew)); exact HO256.out)) k_ hk, Kd.fresh' (Kd.R_lt (by (with_reducible repeat (first | apply Kd.R_alloc | apply Kd.R_drewN | apply Kd.R_drew)); exact HO269.out)) k_ hk, Kd.freshB (g := gb232) (o := .cells #[.int .i64 4, .int .i64 0, .string (⟨#[40]⟩ : ByteArray), .int .i64 0] 32 (0, 0)) (by (with_reducible repeat (first | refine blk_drewN ?_ _ | refine blk_drew ?_ | refine blk_alloc ?_ _)); exact BK232.out) k_ hk, Kd.freshB (g := gb233) (o := .cells #[.int .i64 4, .int .i64 0, .string (⟨#[41]⟩ : ByteArray), .int .i64 0] 32 (0, 0)) (by (with_reducible repeat (first | refine blk_drewN ?_ _ | refine blk_drew ?_ | refine blk_alloc ?_ _)); exact BK233.out) k_ hk⟩))
                        (case aO => exact (by (with_reducible repeat (first | apply Kd.R_alloc | apply Kd.R_drewN | apply Kd.R_drew)); exact Kd.R_mono HO259.out (fun _ hk => ⟨hk.1.1.1.1.1.2, ⟨hk.1.1.1.1.2, ⟨hk.1.1.1.2, ⟨hk.2, ⟨hk.1.1.2, hk.1.2⟩⟩⟩⟩⟩)))
                        (case aS => exact (below_size (by repeat (first | (with_reducible first | exact HB.out | apply below_alloc | apply pw_below_drewN | apply below_drew1 | refine below_set ?_ GE232.out | refine below_set ?_ GE233.out) | exact HB.out))))
                        (case aL => have := LMc38.out; omega)
                        intro v265 w74 ho hb hg hat
                        rw [← Ny264.out] at ho
                        have n0_ := Aside0.mk (Kd.R_after (ok := (fun k_ => some k_ ≠ (.slice Ao66 y244.length co66 : Value).ownBlock ∧ some k_ ≠ (v255 : Value).ownBlock ∧ some k_ ≠ (v268 : Value).ownBlock ∧ k_ ≠ gb232 ∧ k_ ≠ gb233)) (by (with_reducible repeat (first | apply Kd.R_alloc | apply Kd.R_drewN | apply Kd.R_drew)); exact Kd.R_mono HO_14.out (fun _ hk => ⟨⟨hk.1.1.1.1, ⟨hk.1.1.2, ⟨hk.2, ⟨hk.1.1.1.2.1, hk.1.1.1.2.2⟩⟩⟩⟩, hk.1.2⟩)) hg hat)
                        have n1_ := Aside0.mk (blk_grown (g := gb232) (o := .cells #[.int .i64 4, .int .i64 0, .string (⟨#[40]⟩ : ByteArray), .int .i64 0] 32 (0, 0)) (by (with_reducible repeat (first | refine blk_drewN ?_ _ | refine blk_drew ?_ | refine blk_alloc ?_ _)); exact BK232.out) hg (Kd.R_away HO259.out (fun _ hk => hk.1.1.2)))
                        have n2_ := Aside0.mk (blk_grown (g := gb233) (o := .cells #[.int .i64 4, .int .i64 0, .string (⟨#[41]⟩ : ByteArray), .int .i64 0] 32 (0, 0)) (by (with_reducible repeat (first | refine blk_drewN ?_ _ | refine blk_drew ?_ | refine blk_alloc ?_ _)); exact BK233.out) hg (Kd.R_away HO259.out (fun _ hk => hk.1.2)))
                        have n3_ := Aside0.mk (Kd.R_after (ok := (fun k_ => some k_ ≠ (.slice Ao57 t223.length co57 : Value).ownBlock ∧ some k_ ≠ (v255 : Value).ownBlock ∧ some k_ ≠ (v268 : Value).ownBlock ∧ k_ ≠ gb232 ∧ k_ ≠ gb233)) (by (with_reducible repeat (first | apply Kd.R_alloc | apply Kd.R_drewN | apply Kd.R_drew)); exact Kd.R_mono HO246.out (fun _ hk => ⟨⟨hk.1.1.1.1, ⟨hk.1.1.2, ⟨hk.2, ⟨hk.1.1.1.2.1, hk.1.1.1.2.2⟩⟩⟩⟩, hk.1.2⟩)) hg hat)
                        have n4_ := Aside0.mk (Kd.R_after (ok := (fun k_ => some k_ ≠ (.slice Ao57 t223.length co57 : Value).ownBlock ∧ some k_ ≠ (.slice Ao66 y244.length co66 : Value).ownBlock ∧ some k_ ≠ (v268 : Value).ownBlock ∧ k_ ≠ gb232 ∧ k_ ≠ gb233)) (by (with_reducible repeat (first | apply Kd.R_alloc | apply Kd.R_drewN | apply Kd.R_drew)); exact Kd.R_mono HO256.out (fun _ hk => ⟨⟨hk.1.1.1, ⟨hk.1.1.2.1, ⟨hk.2, ⟨hk.1.1.2.2.1, hk.1.1.2.2.2⟩⟩⟩⟩, hk.1.2⟩)) hg hat)
                        have n5_ := Aside0.mk (Kd.R_after (ok := (fun k_ => some k_ ≠ (.slice Ao57 t223.length co57 : Value).ownBlock ∧ some k_ ≠ (.slice Ao66 y244.length co66 : Value).ownBlock ∧ some k_ ≠ (v255 : Value).ownBlock ∧ k_ ≠ gb232 ∧ k_ ≠ gb233)) (by (with_reducible repeat (first | apply Kd.R_alloc | apply Kd.R_drewN | apply Kd.R_drew)); exact Kd.R_mono HO269.out (fun _ hk => ⟨⟨hk.1.1.1.1.1.2, ⟨hk.1.1.1.1.2, ⟨hk.1.1.1.2, ⟨hk.1.2, hk.2⟩⟩⟩⟩, hk.1.1.2⟩)) hg hat)
                        have n6_ := Aside0.mk (hb)
                        have n7_ := Aside0.mk ((show Kd.C k32 w74 Ao57 y237.length y237 from by rw [Ny237.out]; exact Kd.C_take (m := 3) ((Kd.R_reads' (Kd.R_after (ok := (fun k_ => some k_ ≠ (.slice Ao66 y244.length co66 : Value).ownBlock ∧ some k_ ≠ (v255 : Value).ownBlock ∧ some k_ ≠ (v268 : Value).ownBlock ∧ k_ ≠ gb232 ∧ k_ ≠ gb233)) (by (with_reducible repeat (first | apply Kd.R_alloc | apply Kd.R_drewN | apply Kd.R_drew)); exact Kd.R_mono HO_14.out (fun _ hk => ⟨⟨hk.1.1.1.1, ⟨hk.1.1.2, ⟨hk.2, ⟨hk.1.1.1.2.1, hk.1.1.1.2.2⟩⟩⟩⟩, hk.1.2⟩)) hg hat)).2.2) KL56.out))
                        have n8_ := Aside0.mk ((show Kd.C k32 w74 A62 y250.length y250 from by rw [Ny250.out, KA62.out]; exact Kd.C_drop (m := 3) (c := co57) ((Kd.R_reads' (Kd.R_after (ok := (fun k_ => some k_ ≠ (.slice Ao66 y244.length co66 : Value).ownBlock ∧ some k_ ≠ (v255 : Value).ownBlock ∧ some k_ ≠ (v268 : Value).ownBlock ∧ k_ ≠ gb232 ∧ k_ ≠ gb233)) (by (with_reducible repeat (first | apply Kd.R_alloc | apply Kd.R_drewN | apply Kd.R_drew)); exact Kd.R_mono HO_14.out (fun _ hk => ⟨⟨hk.1.1.1.1, ⟨hk.1.1.2, ⟨hk.2, ⟨hk.1.1.1.2.1, hk.1.1.1.2.2⟩⟩⟩⟩, hk.1.2⟩)) hg hat)).2.2) KL62.out ((Kd.R_reads' (Kd.R_after (ok := (fun k_ => some k_ ≠ (.slice Ao66 y244.length co66 : Value).ownBlock ∧ some k_ ≠ (v255 : Value).ownBlock ∧ some k_ ≠ (v268 : Value).ownBlock ∧ k_ ≠ gb232 ∧ k_ ≠ gb233)) (by (with_reducible repeat (first | apply Kd.R_alloc | apply Kd.R_drewN | apply Kd.R_drew)); exact Kd.R_mono HO_14.out (fun _ hk => ⟨⟨hk.1.1.1.1, ⟨hk.1.1.2, ⟨hk.2, ⟨hk.1.1.1.2.1, hk.1.1.1.2.2⟩⟩⟩⟩, hk.1.2⟩)) hg hat)).2.1)))
                        have n9_ := Aside0.mk ((show Kd.C k32 w74 Ao57 y260.length y260 from by rw [Ny260.out]; exact Kd.C_take (m := 2) ((Kd.R_reads' (Kd.R_after (ok := (fun k_ => some k_ ≠ (.slice Ao66 y244.length co66 : Value).ownBlock ∧ some k_ ≠ (v255 : Value).ownBlock ∧ some k_ ≠ (v268 : Value).ownBlock ∧ k_ ≠ gb232 ∧ k_ ≠ gb233)) (by (with_reducible repeat (first | apply Kd.R_alloc | apply Kd.R_drewN | apply Kd.R_drew)); exact Kd.R_mono HO_14.out (fun _ hk => ⟨⟨hk.1.1.1.1, ⟨hk.1.1.2, ⟨hk.2, ⟨hk.1.1.1.2.1, hk.1.1.1.2.2⟩⟩⟩⟩, hk.1.2⟩)) hg hat)).2.2) KL69.out))
                        have n10_ := Aside0.mk (ho)
                        clear HO_14
                        clear BK232
                        clear BK233
                        clear HO246
                        clear HO256
                        clear HO269
                        clear HB
                        clear HR240
                        clear HR253
                        clear HR263
                        clear HO259
                        have HO_14 := n0_
                        have BK232 := n1_
                        have BK233 := n2_
                        have HO246 := n3_
                        have HO256 := n4_
                        have HO269 := n5_
                        have HB := n6_
                        have HR240 := n7_
                        have HR253 := n8_
                        have HR263 := n9_
                        have HO266 := n10_
                        clear n0_ n1_ n2_ n3_ n4_ n5_ n6_ n7_ n8_ n9_ n10_
                        clear ho hb hg hat
                        refine hK.out _ _ ⟨(blk_cell BK232.out 0).trans rfl, (blk_cell BK232.out 1).trans rfl, (blk_cell BK232.out 2).trans rfl, (blk_cell BK232.out 3).trans rfl⟩ (fun hHeld => ?_)
                        clear hK K
                        refine norm_ (a' := ?_) ?_ ?_
                        rotate_left
                        ·show Act.put _ (some 83) _ = _
                         simp only [Act.put, List.setIfInBounds_toArray, List.set_cons_zero, List.set_cons_succ, i64_w, i32_w]
                         rfl
                        exact norm_ (by simp only [putAll, Act.put, List.setIfInBounds_toArray, List.set_cons_zero, List.set_cons_succ]) (hCont (v258, v265, v268) _ ⟨hHeld, (by (with_reducible repeat (first | apply Kd.R_alloc | apply Kd.R_drewN | apply Kd.R_drew)); exact Kd.R_mono HO246.out (fun _ hk => ⟨hk.1.2.1, ⟨hk.2, ⟨hk.1.2.2.1, ⟨hk.1.1, ⟨hk.1.2.2.2.1, hk.1.2.2.2.2⟩⟩⟩⟩⟩)), (by (with_reducible repeat (first | apply Kd.R_alloc | apply Kd.R_drewN | apply Kd.R_drew)); exact Kd.R_mono HO256.out (fun _ hk => ⟨hk.1.2.1, ⟨hk.2, ⟨hk.1.2.2.1, ⟨hk.1.1, ⟨hk.1.2.2.2.1, hk.1.2.2.2.2⟩⟩⟩⟩⟩)), (by (with_reducible repeat (first | apply Kd.R_alloc | apply Kd.R_drewN | apply Kd.R_drew)); exact Kd.R_mono HO266.out (fun _ hk => ⟨hk.2.1, ⟨hk.2.2.1, ⟨hk.2.2.2.1, ⟨hk.1, ⟨hk.2.2.2.2.1, hk.2.2.2.2.2⟩⟩⟩⟩⟩)), (by (with_reducible repeat (first | apply Kd.R_alloc | apply Kd.R_drewN | apply Kd.R_drew)); exact Kd.R_mono HO269.out (fun _ hk => ⟨hk.1.2.1, ⟨hk.1.2.2.1, ⟨hk.2, ⟨hk.1.1, ⟨hk.1.2.2.2.1, hk.1.2.2.2.2⟩⟩⟩⟩⟩)), (by (with_reducible repeat (first | apply Kd.R_alloc | apply Kd.R_drewN | apply Kd.R_drew)); exact Kd.R_mono HO_14.out (fun _ hk => ⟨hk.1.1, ⟨hk.1.2.1, ⟨hk.2, ⟨hk.1.2.2.1, ⟨hk.1.2.2.2.1, hk.1.2.2.2.2⟩⟩⟩⟩⟩)), (by (with_reducible repeat (first | refine blk_drewN ?_ _ | refine blk_drew ?_ | refine blk_alloc ?_ _)); exact BK232.out), (by (with_reducible repeat (first | refine blk_drewN ?_ _ | refine blk_drew ?_ | refine blk_alloc ?_ _)); exact BK233.out), (by repeat (first | (with_reducible first | exact HB.out | apply below_alloc | apply pw_below_drewN | apply below_drew1 | refine below_set ?_ GE232.out | refine below_set ?_ GE233.out) | exact HB.out))⟩)
                      ·skip
                       refine Kd.R_lit_step k32 _ 32 ?hg (N := 85) ?hd (xs := ([(⟨4, 0, (⟨#[40]⟩ : ByteArray), 0⟩ : S32)] : List (S32))) (inner := [.int .i64 4, .int .i64 0, .string (⟨#[40]⟩ : ByteArray), .int .i64 0]) (ok := fun _ => True) (okp := fun _ => True) ?hr ?hp (fun _ hk => hk) trivial (Below.refl _ _) (Nat.le_refl _) (by simp) ?_; (case hd => rfl); (case hg => rfl); (case hr => first | (go_simp; done) | (go_simp; rfl)); (case hp => exact (Reps.c4 (show Kd.M k32 _ _ _ (⟨4, 0, (⟨#[40]⟩ : ByteArray), 0⟩ : S32) [.int .i64 4, .int .i64 0, .string (⟨#[40]⟩ : ByteArray), .int .i64 0] from (k32_mkM _ _ _ (⟨4, 0, (⟨#[40]⟩ : ByteArray), 0⟩ : S32) )) (Reps.none _ _)))
                       intro v268 w70 ho71 hb hg_ hnew_
                       clear hg_ hnew_
                       (first | rw [← Ny267.out] at ho71 | (simp only [Int.reduceToNat] at ho71; rw [← Ny267.out] at ho71))
                       have n0_ := Aside0.mk (Kd.R_elder' (by (with_reducible repeat (first | apply Kd.R_alloc | apply Kd.R_drewN | apply Kd.R_drew)); exact HO_14.out) (Kd.R_base ho71) hb)
                       have n1_ := Aside0.mk (Kd.R_elder' (by (with_reducible repeat (first | apply Kd.R_alloc | apply Kd.R_drewN | apply Kd.R_drew)); exact HO246.out) (Kd.R_base ho71) hb)
                       have n2_ := Aside0.mk (Kd.R_elder' (by (with_reducible repeat (first | apply Kd.R_alloc | apply Kd.R_drewN | apply Kd.R_drew)); exact HO256.out) (Kd.R_base ho71) hb)
                       have n3_ := Aside0.mk (Kd.R_lower (Kd.R_newB (Kd.R_newB (Kd.R_new' (Kd.R_new' (Kd.R_new' ho71 (Kd.R_lt (by (with_reducible repeat (first | apply Kd.R_alloc | apply Kd.R_drewN | apply Kd.R_drew)); exact HO_14.out))) (Kd.R_lt (by (with_reducible repeat (first | apply Kd.R_alloc | apply Kd.R_drewN | apply Kd.R_drew)); exact HO246.out))) (Kd.R_lt (by (with_reducible repeat (first | apply Kd.R_alloc | apply Kd.R_drewN | apply Kd.R_drew)); exact HO256.out))) (g := gb232) (o := .cells #[.int .i64 4, .int .i64 0, .string (⟨#[40]⟩ : ByteArray), .int .i64 0] 32 (0, 0)) (by (with_reducible repeat (first | refine blk_drewN ?_ _ | refine blk_drew ?_ | refine blk_alloc ?_ _)); exact BK232.out)) (g := gb233) (o := .cells #[.int .i64 4, .int .i64 0, .string (⟨#[41]⟩ : ByteArray), .int .i64 0] 32 (0, 0)) (by (with_reducible repeat (first | refine blk_drewN ?_ _ | refine blk_drew ?_ | refine blk_alloc ?_ _)); exact BK233.out)) (below_size (by repeat (first | (with_reducible first | exact HB.out | apply below_alloc | apply pw_below_drewN | apply below_drew1 | refine below_set ?_ GE232.out | refine below_set ?_ GE233.out) | exact HB.out))))
                       have n4_ := Aside0.mk (blk_below (g := gb232) (o := .cells #[.int .i64 4, .int .i64 0, .string (⟨#[40]⟩ : ByteArray), .int .i64 0] 32 (0, 0)) (by (with_reducible repeat (first | refine blk_drewN ?_ _ | refine blk_drew ?_ | refine blk_alloc ?_ _)); exact BK232.out) hb)
                       have n5_ := Aside0.mk (blk_below (g := gb233) (o := .cells #[.int .i64 4, .int .i64 0, .string (⟨#[41]⟩ : ByteArray), .int .i64 0] 32 (0, 0)) (by (with_reducible repeat (first | refine blk_drewN ?_ _ | refine blk_drew ?_ | refine blk_alloc ?_ _)); exact BK233.out) hb)
                       have n6_ := Aside0.mk (Kd.C_below (by repeat (first | (with_reducible exact HR240.out) | (with_reducible refine Kd.C_alloc ?_ _) | (with_reducible refine Kd.C_drewN ?_ _) | (with_reducible refine Kd.C_drew ?_) | exact HR240.out)) hb)
                       have n7_ := Aside0.mk (Kd.C_below (by repeat (first | (with_reducible exact HR253.out) | (with_reducible refine Kd.C_alloc ?_ _) | (with_reducible refine Kd.C_drewN ?_ _) | (with_reducible refine Kd.C_drew ?_) | exact HR253.out)) hb)
                       have n8_ := Aside0.mk (Kd.C_below (by repeat (first | (with_reducible exact HR263.out) | (with_reducible refine Kd.C_alloc ?_ _) | (with_reducible refine Kd.C_drewN ?_ _) | (with_reducible refine Kd.C_drew ?_) | exact HR263.out)) hb)
                       have n9_ := Aside0.mk (below_step (by repeat (first | (with_reducible first | exact HB.out | apply below_alloc | apply pw_below_drewN | apply below_drew1 | refine below_set ?_ GE232.out | refine below_set ?_ GE233.out) | exact HB.out)) hb)
                       clear HO_14
                       clear HO246
                       clear HO256
                       clear BK232
                       clear BK233
                       clear HR240
                       clear HR253
                       clear HR263
                       clear HB
                       have HO_14 := n0_
                       have HO246 := n1_
                       have HO256 := n2_
                       have HO269 := n3_
                       have BK232 := n4_
                       have BK233 := n5_
                       have HR240 := n6_
                       have HR253 := n7_
                       have HR263 := n8_
                       have HB := n9_
                       clear n0_ n1_ n2_ n3_ n4_ n5_ n6_ n7_ n8_ n9_
                       clear hb ho71
                       refine hK.out _ _ ⟨(blk_cell BK232.out 0).trans rfl, (blk_cell BK232.out 1).trans rfl, (blk_cell BK232.out 2).trans rfl, (blk_cell BK232.out 3).trans rfl⟩ (fun hHeld => ?_)
                       clear hK K
                       refine norm_ (a' := ?_) ?_ ?_
                       rotate_left
                       ·show Act.put _ (some 85) _ = _
                        simp only [Act.put, List.setIfInBounds_toArray, List.set_cons_zero, List.set_cons_succ, i64_w, i32_w]
                        rfl
                       refine one_ (i := 0) (N := some 80) #[true, true, true, false, true, true, false, false] rfl rfl (one_of HT_.out (by kernel_rfl)) (by decide) (fun K hK => ?_)
                       refine Kd.R_lit_step k32 _ 32 ?hg (N := 80) ?hd (xs := ([] : List (S32))) (inner := []) (ok := fun _ => True) (okp := fun _ => True) ?hr ?hp (fun _ hk => hk) trivial (Below.refl _ _) (Nat.le_refl _) (by simp) ?_; (case hd => rfl); (case hg => rfl); (case hr => first | (go_simp; done) | (go_simp; rfl)); (case hp => exact (Reps.none _ _))
                       intro v258 w72 ho73 hb hg_ hnew_
                       clear hg_ hnew_
                       (first | rw [← Ny257.out] at ho73 | (simp only [Int.reduceToNat] at ho73; rw [← Ny257.out] at ho73))
                       have n0_ := Aside0.mk (Kd.R_elder' (by (with_reducible repeat (first | apply Kd.R_alloc | apply Kd.R_drewN | apply Kd.R_drew)); exact HO_14.out) (Kd.R_base ho73) hb)
                       have n1_ := Aside0.mk (Kd.R_elder' (by (with_reducible repeat (first | apply Kd.R_alloc | apply Kd.R_drewN | apply Kd.R_drew)); exact HO246.out) (Kd.R_base ho73) hb)
                       have n2_ := Aside0.mk (Kd.R_elder' (by (with_reducible repeat (first | apply Kd.R_alloc | apply Kd.R_drewN | apply Kd.R_drew)); exact HO256.out) (Kd.R_base ho73) hb)
                       have n3_ := Aside0.mk (Kd.R_elder' (by (with_reducible repeat (first | apply Kd.R_alloc | apply Kd.R_drewN | apply Kd.R_drew)); exact HO269.out) (Kd.R_base ho73) hb)
                       have n4_ := Aside0.mk (Kd.R_lower (Kd.R_newB (Kd.R_newB (Kd.R_new' (Kd.R_new' (Kd.R_new' (Kd.R_new' ho73 (Kd.R_lt (by (with_reducible repeat (first | apply Kd.R_alloc | apply Kd.R_drewN | apply Kd.R_drew)); exact HO_14.out))) (Kd.R_lt (by (with_reducible repeat (first | apply Kd.R_alloc | apply Kd.R_drewN | apply Kd.R_drew)); exact HO246.out))) (Kd.R_lt (by (with_reducible repeat (first | apply Kd.R_alloc | apply Kd.R_drewN | apply Kd.R_drew)); exact HO256.out))) (Kd.R_lt (by (with_reducible repeat (first | apply Kd.R_alloc | apply Kd.R_drewN | apply Kd.R_drew)); exact HO269.out))) (g := gb232) (o := .cells #[.int .i64 4, .int .i64 0, .string (⟨#[40]⟩ : ByteArray), .int .i64 0] 32 (0, 0)) (by (with_reducible repeat (first | refine blk_drewN ?_ _ | refine blk_drew ?_ | refine blk_alloc ?_ _)); exact BK232.out)) (g := gb233) (o := .cells #[.int .i64 4, .int .i64 0, .string (⟨#[41]⟩ : ByteArray), .int .i64 0] 32 (0, 0)) (by (with_reducible repeat (first | refine blk_drewN ?_ _ | refine blk_drew ?_ | refine blk_alloc ?_ _)); exact BK233.out)) (below_size (by repeat (first | (with_reducible first | exact HB.out | apply below_alloc | apply pw_below_drewN | apply below_drew1 | refine below_set ?_ GE232.out | refine below_set ?_ GE233.out) | exact HB.out))))
                       have n5_ := Aside0.mk (blk_below (g := gb232) (o := .cells #[.int .i64 4, .int .i64 0, .string (⟨#[40]⟩ : ByteArray), .int .i64 0] 32 (0, 0)) (by (with_reducible repeat (first | refine blk_drewN ?_ _ | refine blk_drew ?_ | refine blk_alloc ?_ _)); exact BK232.out) hb)
                       have n6_ := Aside0.mk (blk_below (g := gb233) (o := .cells #[.int .i64 4, .int .i64 0, .string (⟨#[41]⟩ : ByteArray), .int .i64 0] 32 (0, 0)) (by (with_reducible repeat (first | refine blk_drewN ?_ _ | refine blk_drew ?_ | refine blk_alloc ?_ _)); exact BK233.out) hb)
                       have n7_ := Aside0.mk (Kd.C_below (by repeat (first | (with_reducible exact HR240.out) | (with_reducible refine Kd.C_alloc ?_ _) | (with_reducible refine Kd.C_drewN ?_ _) | (with_reducible refine Kd.C_drew ?_) | exact HR240.out)) hb)
                       have n8_ := Aside0.mk (Kd.C_below (by repeat (first | (with_reducible exact HR253.out) | (with_reducible refine Kd.C_alloc ?_ _) | (with_reducible refine Kd.C_drewN ?_ _) | (with_reducible refine Kd.C_drew ?_) | exact HR253.out)) hb)
                       have n9_ := Aside0.mk (Kd.C_below (by repeat (first | (with_reducible exact HR263.out) | (with_reducible refine Kd.C_alloc ?_ _) | (with_reducible refine Kd.C_drewN ?_ _) | (with_reducible refine Kd.C_drew ?_) | exact HR263.out)) hb)
                       have n10_ := Aside0.mk (below_step (by repeat (first | (with_reducible first | exact HB.out | apply below_alloc | apply pw_below_drewN | apply below_drew1 | refine below_set ?_ GE232.out | refine below_set ?_ GE233.out) | exact HB.out)) hb)
                       clear HO_14
                       clear HO246
                       clear HO256
                       clear HO269
                       clear BK232
                       clear BK233
                       clear HR240
                       clear HR253
                       clear HR263
                       clear HB
                       have HO_14 := n0_
                       have HO246 := n1_
                       have HO256 := n2_
                       have HO269 := n3_
                       have HO259 := n4_
                       have BK232 := n5_
                       have BK233 := n6_
                       have HR240 := n7_
                       have HR253 := n8_
                       have HR263 := n9_
                       have HB := n10_
                       clear n0_ n1_ n2_ n3_ n4_ n5_ n6_ n7_ n8_ n9_ n10_
                       clear hb ho73
                       refine hK.out _ _ ⟨(blk_cell BK232.out 0).trans rfl, (blk_cell BK232.out 1).trans rfl, (blk_cell BK232.out 2).trans rfl, (blk_cell BK232.out 3).trans rfl⟩ (fun hHeld => ?_)
                       clear hK K
                       refine norm_ (a' := ?_) ?_ ?_
                       rotate_left
                       ·show Act.put _ (some 80) _ = _
                        simp only [Act.put, List.setIfInBounds_toArray, List.set_cons_zero, List.set_cons_succ, i64_w, i32_w]
                        rfl
                       refine one_ (i := 3) (N := some 83) #[true, true, true, true, true, true, false, false] rfl rfl (one_of HT_.out (by kernel_rfl)) (by decide) (fun K hK => ?_)
                       refine Kd.R_append_rows_step k32 (w0 := w) w.heap.size (by rfl) (.tmp 80) (.tmp 82) 24 32 (.agg #[(.int .i64 0), (.int .i64 0), (.string ⟨#[]⟩), (.int .i64 0)]) 40 rfl Try.underlying24 info32 rfl (by decide) (by omega) v258 y257 y260 _ _ _ (fun k_ => some k_ ≠ (.slice Ao57 t223.length co57 : Value).ownBlock ∧ some k_ ≠ (.slice Ao66 y244.length co66 : Value).ownBlock ∧ some k_ ≠ (v255 : Value).ownBlock ∧ some k_ ≠ (v268 : Value).ownBlock ∧ k_ ≠ gb232 ∧ k_ ≠ gb233) (fun _ => False) rfl rfl ?aO ?aR (fun _ _ h => h) (fun _ h => h.elim) ?aF ?aB ?aS ?aL ?_
                       (case aR => repeat (first | exact (by repeat (first | (with_reducible exact HR263.out) | (with_reducible refine Kd.C_alloc ?_ _) | (with_reducible refine Kd.C_drewN ?_ _) | (with_reducible refine Kd.C_drew ?_) | exact HR263.out)) | (with_reducible refine Kd.C_alloc ?_ _) | (with_reducible refine Kd.C_drewN ?_ _) | (with_reducible refine Kd.C_drew ?_)))
                       (case aB => exact (by repeat (first | (with_reducible first | exact HB.out | apply below_alloc | apply pw_below_drewN | apply below_drew1 | refine below_set ?_ GE232.out | refine below_set ?_ GE233.out) | exact HB.out)))
                       (case aF => exact (fun k_ hk => ⟨Kd.fresh' (Kd.R_lt (by (with_reducible repeat (first | apply Kd.R_alloc | apply Kd.R_drewN | apply Kd.R_drew)); exact HO_14.out)) k_ hk, Kd.fresh' (Kd.R_lt (by (with_reducible repeat (first | apply Kd.R_alloc | apply Kd.R_drewN | apply Kd.R_drew)); exact HO246.out)) k_ hk, Kd.fresh' (Kd.R_lt (by (with_reducible repeat (first | apply Kd.R_alloc | apply Kd.R_drewN | apply Kd.R_drew)); exact HO256.out)) k_ hk, Kd.fresh' (Kd.R_lt (by (with_reducible repeat (first | apply Kd.R_alloc | apply Kd.R_drewN | apply Kd.R_drew)); exact HO269.out)) k_ hk, Kd.freshB (g := gb232) (o := .cells #[.int .i64 4, .int .i64 0, .string (⟨#[40]⟩ : ByteArray), .int .i64 0] 32 (0, 0)) (by (with_reducible repeat (first | refine blk_drewN ?_ _ | refine blk_drew ?_ | refine blk_alloc ?_ _)); exact BK232.out) k_ hk, Kd.freshB (g := gb233) (o := .cells #[.int .i64 4, .int .i64 0, .string (⟨#[41]⟩ : ByteArray), .int .i64 0] 32 (0, 0)) (by (with_reducible repeat (first | refine blk_drewN ?_ _ | refine blk_drew ?_ | refine blk_alloc ?_ _)); exact BK233.out) k_ hk⟩))
                       (case aO => exact (by (with_reducible repeat (first | apply Kd.R_alloc | apply Kd.R_drewN | apply Kd.R_drew)); exact Kd.R_mono HO259.out (fun _ hk => ⟨hk.1.1.1.1.1.2, ⟨hk.1.1.1.1.2, ⟨hk.1.1.1.2, ⟨hk.1.1.2, ⟨hk.1.2, hk.2⟩⟩⟩⟩⟩)))
                       (case aS => exact (below_size (by repeat (first | (with_reducible first | exact HB.out | apply below_alloc | apply pw_below_drewN | apply below_drew1 | refine below_set ?_ GE232.out | refine below_set ?_ GE233.out) | exact HB.out))))
                       (case aL => have := LMc38.out; omega)
                       intro v265 w74 ho hb hg hat
                       rw [← Ny264.out] at ho
                       have n0_ := Aside0.mk (Kd.R_after (ok := (fun k_ => some k_ ≠ (.slice Ao66 y244.length co66 : Value).ownBlock ∧ some k_ ≠ (v255 : Value).ownBlock ∧ some k_ ≠ (v268 : Value).ownBlock ∧ k_ ≠ gb232 ∧ k_ ≠ gb233)) (by (with_reducible repeat (first | apply Kd.R_alloc | apply Kd.R_drewN | apply Kd.R_drew)); exact Kd.R_mono HO_14.out (fun _ hk => ⟨⟨hk.1.1.1.1, ⟨hk.1.1.2, ⟨hk.1.2, ⟨hk.1.1.1.2.1, hk.1.1.1.2.2⟩⟩⟩⟩, hk.2⟩)) hg hat)
                       have n1_ := Aside0.mk (blk_grown (g := gb232) (o := .cells #[.int .i64 4, .int .i64 0, .string (⟨#[40]⟩ : ByteArray), .int .i64 0] 32 (0, 0)) (by (with_reducible repeat (first | refine blk_drewN ?_ _ | refine blk_drew ?_ | refine blk_alloc ?_ _)); exact BK232.out) hg (Kd.R_away HO259.out (fun _ hk => hk.1.2)))
                       have n2_ := Aside0.mk (blk_grown (g := gb233) (o := .cells #[.int .i64 4, .int .i64 0, .string (⟨#[41]⟩ : ByteArray), .int .i64 0] 32 (0, 0)) (by (with_reducible repeat (first | refine blk_drewN ?_ _ | refine blk_drew ?_ | refine blk_alloc ?_ _)); exact BK233.out) hg (Kd.R_away HO259.out (fun _ hk => hk.2)))
                       have n3_ := Aside0.mk (Kd.R_after (ok := (fun k_ => some k_ ≠ (.slice Ao57 t223.length co57 : Value).ownBlock ∧ some k_ ≠ (v255 : Value).ownBlock ∧ some k_ ≠ (v268 : Value).ownBlock ∧ k_ ≠ gb232 ∧ k_ ≠ gb233)) (by (with_reducible repeat (first | apply Kd.R_alloc | apply Kd.R_drewN | apply Kd.R_drew)); exact Kd.R_mono HO246.out (fun _ hk => ⟨⟨hk.1.1.1.1, ⟨hk.1.1.2, ⟨hk.1.2, ⟨hk.1.1.1.2.1, hk.1.1.1.2.2⟩⟩⟩⟩, hk.2⟩)) hg hat)
                       have n4_ := Aside0.mk (Kd.R_after (ok := (fun k_ => some k_ ≠ (.slice Ao57 t223.length co57 : Value).ownBlock ∧ some k_ ≠ (.slice Ao66 y244.length co66 : Value).ownBlock ∧ some k_ ≠ (v268 : Value).ownBlock ∧ k_ ≠ gb232 ∧ k_ ≠ gb233)) (by (with_reducible repeat (first | apply Kd.R_alloc | apply Kd.R_drewN | apply Kd.R_drew)); exact Kd.R_mono HO256.out (fun _ hk => ⟨⟨hk.1.1.1, ⟨hk.1.1.2.1, ⟨hk.1.2, ⟨hk.1.1.2.2.1, hk.1.1.2.2.2⟩⟩⟩⟩, hk.2⟩)) hg hat)
                       have n5_ := Aside0.mk (Kd.R_after (ok := (fun k_ => some k_ ≠ (.slice Ao57 t223.length co57 : Value).ownBlock ∧ some k_ ≠ (.slice Ao66 y244.length co66 : Value).ownBlock ∧ some k_ ≠ (v255 : Value).ownBlock ∧ k_ ≠ gb232 ∧ k_ ≠ gb233)) (by (with_reducible repeat (first | apply Kd.R_alloc | apply Kd.R_drewN | apply Kd.R_drew)); exact Kd.R_mono HO269.out (fun _ hk => ⟨⟨hk.1.1.1.1.1.2, ⟨hk.1.1.1.1.2, ⟨hk.1.1.1.2, ⟨hk.1.1.2, hk.1.2⟩⟩⟩⟩, hk.2⟩)) hg hat)
                       have n6_ := Aside0.mk (hb)
                       have n7_ := Aside0.mk ((show Kd.C k32 w74 Ao57 y237.length y237 from by rw [Ny237.out]; exact Kd.C_take (m := 3) ((Kd.R_reads' (Kd.R_after (ok := (fun k_ => some k_ ≠ (.slice Ao66 y244.length co66 : Value).ownBlock ∧ some k_ ≠ (v255 : Value).ownBlock ∧ some k_ ≠ (v268 : Value).ownBlock ∧ k_ ≠ gb232 ∧ k_ ≠ gb233)) (by (with_reducible repeat (first | apply Kd.R_alloc | apply Kd.R_drewN | apply Kd.R_drew)); exact Kd.R_mono HO_14.out (fun _ hk => ⟨⟨hk.1.1.1.1, ⟨hk.1.1.2, ⟨hk.1.2, ⟨hk.1.1.1.2.1, hk.1.1.1.2.2⟩⟩⟩⟩, hk.2⟩)) hg hat)).2.2) KL56.out))
                       have n8_ := Aside0.mk ((show Kd.C k32 w74 A62 y250.length y250 from by rw [Ny250.out, KA62.out]; exact Kd.C_drop (m := 3) (c := co57) ((Kd.R_reads' (Kd.R_after (ok := (fun k_ => some k_ ≠ (.slice Ao66 y244.length co66 : Value).ownBlock ∧ some k_ ≠ (v255 : Value).ownBlock ∧ some k_ ≠ (v268 : Value).ownBlock ∧ k_ ≠ gb232 ∧ k_ ≠ gb233)) (by (with_reducible repeat (first | apply Kd.R_alloc | apply Kd.R_drewN | apply Kd.R_drew)); exact Kd.R_mono HO_14.out (fun _ hk => ⟨⟨hk.1.1.1.1, ⟨hk.1.1.2, ⟨hk.1.2, ⟨hk.1.1.1.2.1, hk.1.1.1.2.2⟩⟩⟩⟩, hk.2⟩)) hg hat)).2.2) KL62.out ((Kd.R_reads' (Kd.R_after (ok := (fun k_ => some k_ ≠ (.slice Ao66 y244.length co66 : Value).ownBlock ∧ some k_ ≠ (v255 : Value).ownBlock ∧ some k_ ≠ (v268 : Value).ownBlock ∧ k_ ≠ gb232 ∧ k_ ≠ gb233)) (by (with_reducible repeat (first | apply Kd.R_alloc | apply Kd.R_drewN | apply Kd.R_drew)); exact Kd.R_mono HO_14.out (fun _ hk => ⟨⟨hk.1.1.1.1, ⟨hk.1.1.2, ⟨hk.1.2, ⟨hk.1.1.1.2.1, hk.1.1.1.2.2⟩⟩⟩⟩, hk.2⟩)) hg hat)).2.1)))
                       have n9_ := Aside0.mk ((show Kd.C k32 w74 Ao57 y260.length y260 from by rw [Ny260.out]; exact Kd.C_take (m := 2) ((Kd.R_reads' (Kd.R_after (ok := (fun k_ => some k_ ≠ (.slice Ao66 y244.length co66 : Value).ownBlock ∧ some k_ ≠ (v255 : Value).ownBlock ∧ some k_ ≠ (v268 : Value).ownBlock ∧ k_ ≠ gb232 ∧ k_ ≠ gb233)) (by (with_reducible repeat (first | apply Kd.R_alloc | apply Kd.R_drewN | apply Kd.R_drew)); exact Kd.R_mono HO_14.out (fun _ hk => ⟨⟨hk.1.1.1.1, ⟨hk.1.1.2, ⟨hk.1.2, ⟨hk.1.1.1.2.1, hk.1.1.1.2.2⟩⟩⟩⟩, hk.2⟩)) hg hat)).2.2) KL69.out))
                       have n10_ := Aside0.mk (ho)
                       clear HO_14
                       clear BK232
                       clear BK233
                       clear HO246
                       clear HO256
                       clear HO269
                       clear HB
                       clear HR240
                       clear HR253
                       clear HR263
                       clear HO259
                       have HO_14 := n0_
                       have BK232 := n1_
                       have BK233 := n2_
                       have HO246 := n3_
                       have HO256 := n4_
                       have HO269 := n5_
                       have HB := n6_
                       have HR240 := n7_
                       have HR253 := n8_
                       have HR263 := n9_
                       have HO266 := n10_
                       clear n0_ n1_ n2_ n3_ n4_ n5_ n6_ n7_ n8_ n9_ n10_
                       clear ho hb hg hat
                       refine hK.out _ _ ⟨(blk_cell BK232.out 0).trans rfl, (blk_cell BK232.out 1).trans rfl, (blk_cell BK232.out 2).trans rfl, (blk_cell BK232.out 3).trans rfl⟩ (fun hHeld => ?_)
                       clear hK K
                       refine norm_ (a' := ?_) ?_ ?_
                       rotate_left
                       ·show Act.put _ (some 83) _ = _
                        simp only [Act.put, List.setIfInBounds_toArray, List.set_cons_zero, List.set_cons_succ, i64_w, i32_w]
                        rfl
                       exact norm_ (by simp only [putAll, Act.put, List.setIfInBounds_toArray, List.set_cons_zero, List.set_cons_succ]) (hCont (v258, v265, v268) _ ⟨hHeld, (by (with_reducible repeat (first | apply Kd.R_alloc | apply Kd.R_drewN | apply Kd.R_drew)); exact Kd.R_mono HO246.out (fun _ hk => ⟨hk.1.2.1, ⟨hk.2, ⟨hk.1.2.2.1, ⟨hk.1.1, ⟨hk.1.2.2.2.1, hk.1.2.2.2.2⟩⟩⟩⟩⟩)), (by (with_reducible repeat (first | apply Kd.R_alloc | apply Kd.R_drewN | apply Kd.R_drew)); exact Kd.R_mono HO256.out (fun _ hk => ⟨hk.1.2.1, ⟨hk.2, ⟨hk.1.2.2.1, ⟨hk.1.1, ⟨hk.1.2.2.2.1, hk.1.2.2.2.2⟩⟩⟩⟩⟩)), (by (with_reducible repeat (first | apply Kd.R_alloc | apply Kd.R_drewN | apply Kd.R_drew)); exact Kd.R_mono HO266.out (fun _ hk => ⟨hk.2.1, ⟨hk.2.2.1, ⟨hk.2.2.2.1, ⟨hk.1, ⟨hk.2.2.2.2.1, hk.2.2.2.2.2⟩⟩⟩⟩⟩)), (by (with_reducible repeat (first | apply Kd.R_alloc | apply Kd.R_drewN | apply Kd.R_drew)); exact Kd.R_mono HO269.out (fun _ hk => ⟨hk.1.2.1, ⟨hk.1.2.2.1, ⟨hk.2, ⟨hk.1.1, ⟨hk.1.2.2.2.1, hk.1.2.2.2.2⟩⟩⟩⟩⟩)), (by (with_reducible repeat (first | apply Kd.R_alloc | apply Kd.R_drewN | apply Kd.R_drew)); exact Kd.R_mono HO_14.out (fun _ hk => ⟨hk.1.1, ⟨hk.1.2.1, ⟨hk.2, ⟨hk.1.2.2.1, ⟨hk.1.2.2.2.1, hk.1.2.2.2.2⟩⟩⟩⟩⟩)), (by (with_reducible repeat (first | refine blk_drewN ?_ _ | refine blk_drew ?_ | refine blk_alloc ?_ _)); exact BK232.out), (by (with_reducible repeat (first | refine blk_drewN ?_ _ | refine blk_drew ?_ | refine blk_alloc ?_ _)); exact BK233.out), (by repeat (first | (with_reducible first | exact HB.out | apply below_alloc | apply pw_below_drewN | apply below_drew1 | refine below_set ?_ GE232.out | refine below_set ?_ GE233.out) | exact HB.out))⟩)
                     rintro ⟨v258, v265, v268⟩ w75 ⟨hS_, h0_, h1_, h2_, h3_, h4_, h5_, h6_, h7_⟩
                     have n0_ : Aside0 (Kd.R k32 32 w75 w.heap.size (fun k_ => some k_ ≠ (v255 : Value).ownBlock ∧ some k_ ≠ (v265 : Value).ownBlock ∧ some k_ ≠ (v268 : Value).ownBlock ∧ some k_ ≠ (.slice Ao57 t223.length co57 : Value).ownBlock ∧ k_ ≠ gb232 ∧ k_ ≠ gb233) (.slice Ao66 y244.length co66) y244) := ⟨h0_⟩
                     have n1_ : Aside0 (Kd.R k32 32 w75 w.heap.size (fun k_ => some k_ ≠ (.slice Ao66 y244.length co66 : Value).ownBlock ∧ some k_ ≠ (v265 : Value).ownBlock ∧ some k_ ≠ (v268 : Value).ownBlock ∧ some k_ ≠ (.slice Ao57 t223.length co57 : Value).ownBlock ∧ k_ ≠ gb232 ∧ k_ ≠ gb233) v255 y254) := ⟨h1_⟩
                     have n2_ : Aside0 (Kd.R k32 32 w75 w.heap.size (fun k_ => some k_ ≠ (.slice Ao66 y244.length co66 : Value).ownBlock ∧ some k_ ≠ (v255 : Value).ownBlock ∧ some k_ ≠ (v268 : Value).ownBlock ∧ some k_ ≠ (.slice Ao57 t223.length co57 : Value).ownBlock ∧ k_ ≠ gb232 ∧ k_ ≠ gb233) v265 y264) := ⟨h2_⟩
                     have n3_ : Aside0 (Kd.R k32 32 w75 w.heap.size (fun k_ => some k_ ≠ (.slice Ao66 y244.length co66 : Value).ownBlock ∧ some k_ ≠ (v255 : Value).ownBlock ∧ some k_ ≠ (v265 : Value).ownBlock ∧ some k_ ≠ (.slice Ao57 t223.length co57 : Value).ownBlock ∧ k_ ≠ gb232 ∧ k_ ≠ gb233) v268 y267) := ⟨h3_⟩
                     have n4_ : Aside0 (Kd.R k32 32 w75 w.heap.size (fun k_ => some k_ ≠ (.slice Ao66 y244.length co66 : Value).ownBlock ∧ some k_ ≠ (v255 : Value).ownBlock ∧ some k_ ≠ (v265 : Value).ownBlock ∧ some k_ ≠ (v268 : Value).ownBlock ∧ k_ ≠ gb232 ∧ k_ ≠ gb233) (.slice Ao57 t223.length co57) t223) := ⟨h4_⟩
                     have n5_ : Aside0 (w75.heap[gb232]? = some (.cells #[.int .i64 4, .int .i64 0, .string (⟨#[40]⟩ : ByteArray), .int .i64 0] 32 (0, 0))) := ⟨h5_⟩
                     have n6_ : Aside0 (w75.heap[gb233]? = some (.cells #[.int .i64 4, .int .i64 0, .string (⟨#[41]⟩ : ByteArray), .int .i64 0] 32 (0, 0))) := ⟨h6_⟩
                     have n7_ : Aside0 (Below w.heap.size w w75) := ⟨h7_⟩
                     clear HO_14
                     clear HO246
                     clear HO256
                     clear BK232
                     clear BK233
                     clear HR240
                     clear HR253
                     clear HB
                     clear h0_ h1_ h2_ h3_ h4_ h5_ h6_ h7_
                     have HO246 := n0_
                     have HO256 := n1_
                     have HO266 := n2_
                     have HO269 := n3_
                     have HO_14 := n4_
                     have BK232 := n5_
                     have BK233 := n6_
                     have HB := n7_
                     clear n0_ n1_ n2_ n3_ n4_ n5_ n6_ n7_
                     have hHeld : w75.cell? ⟨gb232, 0, none⟩ = some (.int .i64 4) ∧ w75.cell? ⟨gb232, 1, none⟩ = some (.int .i64 0) ∧ w75.cell? ⟨gb232, 2, none⟩ = some (.string (⟨#[40]⟩ : ByteArray)) ∧ w75.cell? ⟨gb232, 3, none⟩ = some (.int .i64 0) := hS_
                     obtain ⟨Ao77, co77, eo77⟩ := Kd.R_slice HO269.out
                     (first | subst eo77 | (injection eo77 with f1_ f2_ f3_; have f4_ := f1_.symm; have f5_ := f3_.symm; clear f1_ f2_ f3_; subst f4_; subst f5_))
                     refine norm_ (a' := ?_) ?_ ?_
                     rotate_left
                     ·simp only [putAll, Act.put, List.setIfInBounds_toArray, List.set_cons_zero, List.set_cons_succ]
                      rfl
                     refine one_ (i := 6) (N := some 86) #[true, true, true, true, true, true, true, false] rfl rfl (one_of HT_.out (by kernel_rfl)) (by decide) (fun K hK => ?_)
                     refine Kd.R_append_rows_step k32 (w0 := w) w.heap.size (by rfl) (.tmp 83) (.tmp 85) 24 32 (.agg #[(.int .i64 0), (.int .i64 0), (.string ⟨#[]⟩), (.int .i64 0)]) 40 rfl Try.underlying24 info32 rfl (by decide) (by omega) v265 y264 y267 _ _ _ (fun k_ => some k_ ≠ (.slice Ao57 t223.length co57 : Value).ownBlock ∧ some k_ ≠ (.slice Ao66 y244.length co66 : Value).ownBlock ∧ some k_ ≠ (v255 : Value).ownBlock ∧ some k_ ≠ (.slice Ao77 y267.length co77 : Value).ownBlock ∧ k_ ≠ gb232 ∧ k_ ≠ gb233) (fun _ => False) rfl rfl ?aO ?aR (fun _ _ h => h) (fun _ h => h.elim) ?aF ?aB ?aS ?aL ?_
                     (case aR => repeat (first | exact (Kd.R_reads' HO269.out).2.2 | (with_reducible refine Kd.C_alloc ?_ _) | (with_reducible refine Kd.C_drewN ?_ _) | (with_reducible refine Kd.C_drew ?_)))
                     (case aB => exact (by repeat (first | (with_reducible first | exact HB.out | apply below_alloc | apply pw_below_drewN | apply below_drew1 | refine below_set ?_ GE232.out | refine below_set ?_ GE233.out) | exact HB.out)))
                     (case aF => exact (fun k_ hk => ⟨Kd.fresh' (Kd.R_lt (by (with_reducible repeat (first | apply Kd.R_alloc | apply Kd.R_drewN | apply Kd.R_drew)); exact HO_14.out)) k_ hk, Kd.fresh' (Kd.R_lt (by (with_reducible repeat (first | apply Kd.R_alloc | apply Kd.R_drewN | apply Kd.R_drew)); exact HO246.out)) k_ hk, Kd.fresh' (Kd.R_lt (by (with_reducible repeat (first | apply Kd.R_alloc | apply Kd.R_drewN | apply Kd.R_drew)); exact HO256.out)) k_ hk, Kd.fresh' (Kd.R_lt (by (with_reducible repeat (first | apply Kd.R_alloc | apply Kd.R_drewN | apply Kd.R_drew)); exact HO269.out)) k_ hk, Kd.freshB (g := gb232) (o := .cells #[.int .i64 4, .int .i64 0, .string (⟨#[40]⟩ : ByteArray), .int .i64 0] 32 (0, 0)) (by (with_reducible repeat (first | refine blk_drewN ?_ _ | refine blk_drew ?_ | refine blk_alloc ?_ _)); exact BK232.out) k_ hk, Kd.freshB (g := gb233) (o := .cells #[.int .i64 4, .int .i64 0, .string (⟨#[41]⟩ : ByteArray), .int .i64 0] 32 (0, 0)) (by (with_reducible repeat (first | refine blk_drewN ?_ _ | refine blk_drew ?_ | refine blk_alloc ?_ _)); exact BK233.out) k_ hk⟩))
                     (case aO => exact (by (with_reducible repeat (first | apply Kd.R_alloc | apply Kd.R_drewN | apply Kd.R_drew)); exact Kd.R_mono HO266.out (fun _ hk => ⟨hk.2.2.2.1, ⟨hk.1, ⟨hk.2.1, ⟨hk.2.2.1, ⟨hk.2.2.2.2.1, hk.2.2.2.2.2⟩⟩⟩⟩⟩)))
                     (case aS => exact (below_size (by repeat (first | (with_reducible first | exact HB.out | apply below_alloc | apply pw_below_drewN | apply below_drew1 | refine below_set ?_ GE232.out | refine below_set ?_ GE233.out) | exact HB.out))))
                     (case aL => have := LMc39.out; omega)
                     intro v271 w76 ho hb hg hat
                     rw [← Ny270.out] at ho
                     have n0_ := Aside0.mk (Kd.R_after (ok := (fun k_ => some k_ ≠ (.slice Ao66 y244.length co66 : Value).ownBlock ∧ some k_ ≠ (v255 : Value).ownBlock ∧ some k_ ≠ (.slice Ao77 y267.length co77 : Value).ownBlock ∧ k_ ≠ gb232 ∧ k_ ≠ gb233)) (by (with_reducible repeat (first | apply Kd.R_alloc | apply Kd.R_drewN | apply Kd.R_drew)); exact Kd.R_mono HO_14.out (fun _ hk => ⟨⟨hk.1, ⟨hk.2.1, ⟨hk.2.2.2.1, ⟨hk.2.2.2.2.1, hk.2.2.2.2.2⟩⟩⟩⟩, hk.2.2.1⟩)) hg hat)
                     have n1_ := Aside0.mk (blk_grown (g := gb232) (o := .cells #[.int .i64 4, .int .i64 0, .string (⟨#[40]⟩ : ByteArray), .int .i64 0] 32 (0, 0)) (by (with_reducible repeat (first | refine blk_drewN ?_ _ | refine blk_drew ?_ | refine blk_alloc ?_ _)); exact BK232.out) hg (Kd.R_away HO266.out (fun _ hk => hk.2.2.2.2.1)))
                     have n2_ := Aside0.mk (blk_grown (g := gb233) (o := .cells #[.int .i64 4, .int .i64 0, .string (⟨#[41]⟩ : ByteArray), .int .i64 0] 32 (0, 0)) (by (with_reducible repeat (first | refine blk_drewN ?_ _ | refine blk_drew ?_ | refine blk_alloc ?_ _)); exact BK233.out) hg (Kd.R_away HO266.out (fun _ hk => hk.2.2.2.2.2)))
                     have n3_ := Aside0.mk (Kd.R_after (ok := (fun k_ => some k_ ≠ (.slice Ao57 t223.length co57 : Value).ownBlock ∧ some k_ ≠ (v255 : Value).ownBlock ∧ some k_ ≠ (.slice Ao77 y267.length co77 : Value).ownBlock ∧ k_ ≠ gb232 ∧ k_ ≠ gb233)) (by (with_reducible repeat (first | apply Kd.R_alloc | apply Kd.R_drewN | apply Kd.R_drew)); exact Kd.R_mono HO246.out (fun _ hk => ⟨⟨hk.2.2.2.1, ⟨hk.1, ⟨hk.2.2.1, ⟨hk.2.2.2.2.1, hk.2.2.2.2.2⟩⟩⟩⟩, hk.2.1⟩)) hg hat)
                     have n4_ := Aside0.mk (Kd.R_after (ok := (fun k_ => some k_ ≠ (.slice Ao57 t223.length co57 : Value).ownBlock ∧ some k_ ≠ (.slice Ao66 y244.length co66 : Value).ownBlock ∧ some k_ ≠ (.slice Ao77 y267.length co77 : Value).ownBlock ∧ k_ ≠ gb232 ∧ k_ ≠ gb233)) (by (with_reducible repeat (first | apply Kd.R_alloc | apply Kd.R_drewN | apply Kd.R_drew)); exact Kd.R_mono HO256.out (fun _ hk => ⟨⟨hk.2.2.2.1, ⟨hk.1, ⟨hk.2.2.1, ⟨hk.2.2.2.2.1, hk.2.2.2.2.2⟩⟩⟩⟩, hk.2.1⟩)) hg hat)
                     have n5_ := Aside0.mk (Kd.R_after (ok := (fun k_ => some k_ ≠ (.slice Ao57 t223.length co57 : Value).ownBlock ∧ some k_ ≠ (.slice Ao66 y244.length co66 : Value).ownBlock ∧ some k_ ≠ (v255 : Value).ownBlock ∧ k_ ≠ gb232 ∧ k_ ≠ gb233)) (by (with_reducible repeat (first | apply Kd.R_alloc | apply Kd.R_drewN | apply Kd.R_drew)); exact Kd.R_mono HO269.out (fun _ hk => ⟨⟨hk.2.2.2.1, ⟨hk.1, ⟨hk.2.1, ⟨hk.2.2.2.2.1, hk.2.2.2.2.2⟩⟩⟩⟩, hk.2.2.1⟩)) hg hat)
                     have n6_ := Aside0.mk (hb)
                     have n7_ := Aside0.mk (ho)
                     clear HO_14
                     clear BK232
                     clear BK233
                     clear HO246
                     clear HO256
                     clear HO269
                     clear HB
                     clear HO266
                     have HO_14 := n0_
                     have BK232 := n1_
                     have BK233 := n2_
                     have HO246 := n3_
                     have HO256 := n4_
                     have HO269 := n5_
                     have HB := n6_
                     have HO272 := n7_
                     clear n0_ n1_ n2_ n3_ n4_ n5_ n6_ n7_
                     clear ho hb hg hat
                     refine hK.out _ _ ⟨(blk_cell BK232.out 0).trans rfl, (blk_cell BK232.out 1).trans rfl, (blk_cell BK232.out 2).trans rfl, (blk_cell BK232.out 3).trans rfl⟩ (fun hHeld => ?_)
                     clear hK K
                     refine norm_ (a' := ?_) ?_ ?_
                     rotate_left
                     ·show Act.put _ (some 86) _ = _
                      simp only [Act.put, List.setIfInBounds_toArray, List.set_cons_zero, List.set_cons_succ, i64_w, i32_w]
                      rfl
                     refine pure_ (i := 7) (N := some 21) (v := ?_) (a' := ?_) #[true, true, true, true, true, true, true, true] rfl rfl (any_of HT_.out (by kernel_rfl)) (fun _ _ _ h => h) (Or.inl ⟨by rfl, ?_⟩) ?_ ?_
                     rotate_left
                     ·intro w'
                      go_simp
                      with_reducible rfl
                     rotate_left
                     ·simp only [Act.put, List.setIfInBounds_toArray, List.set_cons_zero, List.set_cons_succ, i64_w, i32_w]
                      rfl
                     refine done_ (done_of HT_.out (by kernel_rfl)) ?_
                     obtain ⟨Ao78, co78, eo78⟩ := Kd.R_slice HO272.out
                     subst eo78
                     try go_wp2
                     have n0_ := Aside0.mk (Kd.R_drew HO_14.out)
                     have n1_ := Aside0.mk (Kd.R_drew HO246.out)
                     have n2_ := Aside0.mk (Kd.R_drew HO256.out)
                     have n3_ := Aside0.mk (Kd.R_drew HO269.out)
                     have n4_ := Aside0.mk (Kd.R_drew HO272.out)
                     have n5_ := Aside0.mk (blk_drew BK232.out)
                     have n6_ := Aside0.mk (blk_drew BK233.out)
                     have n7_ := Aside0.mk (below_drew1 HB.out)
                     clear HO_14
                     clear HO246
                     clear HO256
                     clear HO269
                     clear HO272
                     clear BK232
                     clear BK233
                     clear HB
                     have HO_14 := n0_
                     have HO246 := n1_
                     have HO256 := n2_
                     have HO269 := n3_
                     have HO272 := n4_
                     have BK232 := n5_
                     have BK233 := n6_
                     have HB := n7_
                     clear n0_ n1_ n2_ n3_ n4_ n5_ n6_ n7_
                     have q80 : (2 : Int) ≤ ((t223.length : Int) : Int) := of_decide_eq_true (by first | (with_reducible assumption) | assumption)
                     obtain ⟨i080, hi080, _, hsz80, _⟩ := info_parts info32
                     have hroom80 : t223.length ≤ co57 := (Kd.R_reads' HO_14.out).2.1
                     have hC80 : Kd.C k32 _ Ao57 t223.length t223 := (Kd.R_reads' HO_14.out).2.2
                     have hcut80 := cut_from (P := Try.prog) 24 32 .i64 Try.underlying24 hi080 4 hsz80 Ao57 t223.length co57 2 (by omega) q80
                     have hr80 := Kd.C_drop (m := (2 : Int).toNat) (c := co57) hC80 (by omega) hroom80
                     obtain ⟨A80, hA80⟩ : ∃ A1, A1 = (if co57 = (2 : Int).toNat then Ao57 else (Ao57 : Option Addr).map (·.add ((2 : Int).toNat * 4))) := ⟨_, rfl⟩
                     obtain ⟨c80, hc80⟩ : ∃ c1, c1 = co57 - (2 : Int).toNat := ⟨_, rfl⟩
                     have hy80 : y273.length = t223.length - (2 : Int).toNat := (by rw [Ny273.out, List.length_drop] <;> omega)
                     rw [show (t223).drop (2 : Int).toNat = y273 from Ny273.out.symm] at hr80
                     replace hr80 : Kd.C k32 _ A80 y273.length y273 := (by rw [hA80]; exact hr80)
                     rw [← hy80, ← hA80, ← hc80] at hcut80
                     have HR276 := Aside0.mk hr80
                     have HC276 := Aside0.mk (show y273.length ≤ c80 from by rw [hy80, hc80]; exact Nat.sub_le_sub_right hroom80 _)
                     clear hr80 hC80 hroom80 hi080 hsz80 hc80
                     have KY80 := Aside0.mk hy80
                     have KA80 := Aside0.mk hA80
                     clear hy80 hA80
                     have KL80 := Aside0.mk (show 2 ≤ t223.length from by omega)
                     replace q80 := eq_true q80
                     refine start_ (n := 8) (S := fun w' => w'.cell? ⟨gb233, 0, none⟩ = some (.int .i64 4) ∧ w'.cell? ⟨gb233, 1, none⟩ = some (.int .i64 0) ∧ w'.cell? ⟨gb233, 2, none⟩ = some (.string (⟨#[41]⟩ : ByteArray)) ∧ w'.cell? ⟨gb233, 3, none⟩ = some (.int .i64 0)) (ds := []) #[false, false, false, false, false, false, false, false] (by kernel_rfl) rfl rfl ⟨(blk_cell BK233.out 0).trans rfl, (blk_cell BK233.out 1).trans rfl, (blk_cell BK233.out 2).trans rfl, (blk_cell BK233.out 3).trans rfl⟩ (fun hHeld => ?_); refine with_tabW linotypelaw23_ExprSums.tab15 linotypelaw23_ExprSums.bits15 (fun HT_ HW_ => ?_)
                     generalize w76.drew = w79 at HO_14 HO246 HO256 HO269 HO272 BK232 BK233 HB HR276 hHeld ⊢
                     refine pure_ (i := 0) (N := some 87) (v := ?_) (a' := ?_) #[true, false, false, false, false, false, false, false] rfl rfl (any_of HT_.out (by kernel_rfl)) (fun _ _ _ h => h) (Or.inl ⟨by rfl, ?_⟩) ?_ ?_
                     rotate_left
                     ·intro w'
                      go_simp
                      with_reducible rfl
                     rotate_left
                     ·simp only [Act.put, List.setIfInBounds_toArray, List.set_cons_zero, List.set_cons_succ, i64_w, i32_w]
                      rfl
                     refine pure_ (i := 1) (N := some 88) (v := ?_) (a' := ?_) #[true, true, false, false, false, false, false, false] rfl rfl (any_of HT_.out (by kernel_rfl)) (fun _ _ _ h => h) (Or.inl ⟨by rfl, ?_⟩) ?_ ?_
                     rotate_left
                     ·intro w'
                      go_simp
                      with_reducible rfl
                     rotate_left
                     ·simp only [Act.put, List.setIfInBounds_toArray, List.set_cons_zero, List.set_cons_succ, i64_w, i32_w]
                      rfl
                     refine pure_ (i := 2) (N := some 89) (v := ?_) (a' := ?_) #[true, true, true, false, false, false, false, false] rfl rfl (any_of HT_.out (by kernel_rfl)) (fun _ _ _ h => h) (Or.inl ⟨by rfl, ?_⟩) ?_ ?_
                     rotate_left
                     ·intro w'
                      go_simp
                      with_reducible rfl
                     rotate_left
                     ·simp only [Act.put, List.setIfInBounds_toArray, List.set_cons_zero, List.set_cons_succ, i64_w, i32_w]
                      rfl
                     refine take_ (i := 4) (N := some 91) (v := ?_) (a' := ?_) #[true, true, true, false, true, false, false, false] rfl rfl (take_ofW HT_.out HW_.out (by kernel_rfl)) (fun _ _ _ h => h) (Or.inl ⟨by rfl, ?_⟩) hHeld ?_ ?_
                     rotate_left
                     ·rintro w' ⟨s0, s1, s2, s3⟩
                      go_simp
                      with_reducible rfl
                     rotate_left
                     ·simp only [Act.put, List.setIfInBounds_toArray, List.set_cons_zero, List.set_cons_succ, i64_w, i32_w]
                      rfl
                     refine join_ (σ := Value × Value) 2 #[true, true, true, true, true, true, false, false] (fun s_ => [(90, s_.1), (92, s_.2)]) (fun s_ w' => (w'.cell? ⟨gb233, 0, none⟩ = some (.int .i64 4) ∧ w'.cell? ⟨gb233, 1, none⟩ = some (.int .i64 0) ∧ w'.cell? ⟨gb233, 2, none⟩ = some (.string (⟨#[41]⟩ : ByteArray)) ∧ w'.cell? ⟨gb233, 3, none⟩ = some (.int .i64 0)) ∧ (Kd.R k32 32 w' w.heap.size (fun k_ => some k_ ≠ (v255 : Value).ownBlock ∧ some k_ ≠ (.slice Ao77 y267.length co77 : Value).ownBlock ∧ some k_ ≠ (s_.1 : Value).ownBlock ∧ some k_ ≠ (s_.2 : Value).ownBlock ∧ some k_ ≠ (.slice Ao57 t223.length co57 : Value).ownBlock ∧ k_ ≠ gb232 ∧ k_ ≠ gb233) (.slice Ao66 y244.length co66) y244) ∧ (Kd.R k32 32 w' w.heap.size (fun k_ => some k_ ≠ (.slice Ao66 y244.length co66 : Value).ownBlock ∧ some k_ ≠ (.slice Ao77 y267.length co77 : Value).ownBlock ∧ some k_ ≠ (s_.1 : Value).ownBlock ∧ some k_ ≠ (s_.2 : Value).ownBlock ∧ some k_ ≠ (.slice Ao57 t223.length co57 : Value).ownBlock ∧ k_ ≠ gb232 ∧ k_ ≠ gb233) v255 y254) ∧ (Kd.R k32 32 w' w.heap.size (fun k_ => some k_ ≠ (.slice Ao66 y244.length co66 : Value).ownBlock ∧ some k_ ≠ (v255 : Value).ownBlock ∧ some k_ ≠ (s_.1 : Value).ownBlock ∧ some k_ ≠ (s_.2 : Value).ownBlock ∧ some k_ ≠ (.slice Ao57 t223.length co57 : Value).ownBlock ∧ k_ ≠ gb232 ∧ k_ ≠ gb233) (.slice Ao77 y267.length co77) y267) ∧ (Kd.R k32 32 w' w.heap.size (fun k_ => some k_ ≠ (.slice Ao66 y244.length co66 : Value).ownBlock ∧ some k_ ≠ (v255 : Value).ownBlock ∧ some k_ ≠ (.slice Ao77 y267.length co77 : Value).ownBlock ∧ some k_ ≠ (s_.2 : Value).ownBlock ∧ some k_ ≠ (.slice Ao57 t223.length co57 : Value).ownBlock ∧ k_ ≠ gb232 ∧ k_ ≠ gb233) s_.1 y277) ∧ (Kd.R k32 32 w' w.heap.size (fun k_ => some k_ ≠ (.slice Ao66 y244.length co66 : Value).ownBlock ∧ some k_ ≠ (v255 : Value).ownBlock ∧ some k_ ≠ (.slice Ao77 y267.length co77 : Value).ownBlock ∧ some k_ ≠ (s_.1 : Value).ownBlock ∧ some k_ ≠ (.slice Ao57 t223.length co57 : Value).ownBlock ∧ k_ ≠ gb232 ∧ k_ ≠ gb233) s_.2 y280) ∧ (Kd.R k32 32 w' w.heap.size (fun k_ => some k_ ≠ (.slice Ao66 y244.length co66 : Value).ownBlock ∧ some k_ ≠ (v255 : Value).ownBlock ∧ some k_ ≠ (.slice Ao77 y267.length co77 : Value).ownBlock ∧ some k_ ≠ (s_.1 : Value).ownBlock ∧ some k_ ≠ (s_.2 : Value).ownBlock ∧ k_ ≠ gb232 ∧ k_ ≠ gb233) (.slice Ao57 t223.length co57) t223) ∧ (w'.heap[gb232]? = some (.cells #[.int .i64 4, .int .i64 0, .string (⟨#[40]⟩ : ByteArray), .int .i64 0] 32 (0, 0))) ∧ (w'.heap[gb233]? = some (.cells #[.int .i64 4, .int .i64 0, .string (⟨#[41]⟩ : ByteArray), .int .i64 0] 32 (0, 0))) ∧ (Below w.heap.size w w')) ?_ ?_
                     rotate_left
                     ·intro hCont
                      refine two_ (i := 3) (j := 5) (Ni := some 90) (Nj := some 92) #[true, true, true, true, true, false, false, false] #[true, true, true, false, true, true, false, false] rfl rfl rfl rfl (two_of HT_.out (by kernel_rfl)) (by decide) (by decide) (fun K hK => ?_) (fun K hK => ?_)
                      ·skip
                       refine Kd.R_append_rows_step k32 (w0 := w) w.heap.size (by rfl) (.tmp 87) (.tmp 89) 24 32 (.agg #[(.int .i64 0), (.int .i64 0), (.string ⟨#[]⟩), (.int .i64 0)]) 40 rfl Try.underlying24 info32 rfl (by decide) (by omega) (.slice Ao78 y270.length co78) y270 y273 _ _ _ (fun k_ => some k_ ≠ (.slice Ao57 t223.length co57 : Value).ownBlock ∧ some k_ ≠ (.slice Ao66 y244.length co66 : Value).ownBlock ∧ some k_ ≠ (v255 : Value).ownBlock ∧ some k_ ≠ (.slice Ao77 y267.length co77 : Value).ownBlock ∧ k_ ≠ gb232 ∧ k_ ≠ gb233) (fun _ => False) rfl rfl ?aO ?aR (fun _ _ h => h) (fun _ h => h.elim) ?aF ?aB ?aS ?aL ?_
                       (case aR => repeat (first | exact (by repeat (first | (with_reducible exact HR276.out) | (with_reducible refine Kd.C_alloc ?_ _) | (with_reducible refine Kd.C_drewN ?_ _) | (with_reducible refine Kd.C_drew ?_) | exact HR276.out)) | (with_reducible refine Kd.C_alloc ?_ _) | (with_reducible refine Kd.C_drewN ?_ _) | (with_reducible refine Kd.C_drew ?_)))
                       (case aB => exact (by repeat (first | (with_reducible first | exact HB.out | apply below_alloc | apply pw_below_drewN | apply below_drew1 | refine below_set ?_ GE232.out | refine below_set ?_ GE233.out) | exact HB.out)))
                       (case aF => exact (fun k_ hk => ⟨Kd.fresh' (Kd.R_lt (by (with_reducible repeat (first | apply Kd.R_alloc | apply Kd.R_drewN | apply Kd.R_drew)); exact HO_14.out)) k_ hk, Kd.fresh' (Kd.R_lt (by (with_reducible repeat (first | apply Kd.R_alloc | apply Kd.R_drewN | apply Kd.R_drew)); exact HO246.out)) k_ hk, Kd.fresh' (Kd.R_lt (by (with_reducible repeat (first | apply Kd.R_alloc | apply Kd.R_drewN | apply Kd.R_drew)); exact HO256.out)) k_ hk, Kd.fresh' (Kd.R_lt (by (with_reducible repeat (first | apply Kd.R_alloc | apply Kd.R_drewN | apply Kd.R_drew)); exact HO269.out)) k_ hk, Kd.freshB (g := gb232) (o := .cells #[.int .i64 4, .int .i64 0, .string (⟨#[40]⟩ : ByteArray), .int .i64 0] 32 (0, 0)) (by (with_reducible repeat (first | refine blk_drewN ?_ _ | refine blk_drew ?_ | refine blk_alloc ?_ _)); exact BK232.out) k_ hk, Kd.freshB (g := gb233) (o := .cells #[.int .i64 4, .int .i64 0, .string (⟨#[41]⟩ : ByteArray), .int .i64 0] 32 (0, 0)) (by (with_reducible repeat (first | refine blk_drewN ?_ _ | refine blk_drew ?_ | refine blk_alloc ?_ _)); exact BK233.out) k_ hk⟩))
                       (case aO => exact (by (with_reducible repeat (first | apply Kd.R_alloc | apply Kd.R_drewN | apply Kd.R_drew)); exact HO272.out))
                       (case aS => exact (below_size (by repeat (first | (with_reducible first | exact HB.out | apply below_alloc | apply pw_below_drewN | apply below_drew1 | refine below_set ?_ GE232.out | refine below_set ?_ GE233.out) | exact HB.out))))
                       (case aL => have := LMc41.out; omega)
                       intro v278 w81 ho hb hg hat
                       rw [← Ny277.out] at ho
                       have n0_ := Aside0.mk (Kd.R_after (ok := (fun k_ => some k_ ≠ (.slice Ao66 y244.length co66 : Value).ownBlock ∧ some k_ ≠ (v255 : Value).ownBlock ∧ some k_ ≠ (.slice Ao77 y267.length co77 : Value).ownBlock ∧ k_ ≠ gb232 ∧ k_ ≠ gb233)) (by (with_reducible repeat (first | apply Kd.R_alloc | apply Kd.R_drewN | apply Kd.R_drew)); exact HO_14.out) hg hat)
                       have n1_ := Aside0.mk (blk_grown (g := gb232) (o := .cells #[.int .i64 4, .int .i64 0, .string (⟨#[40]⟩ : ByteArray), .int .i64 0] 32 (0, 0)) (by (with_reducible repeat (first | refine blk_drewN ?_ _ | refine blk_drew ?_ | refine blk_alloc ?_ _)); exact BK232.out) hg (Kd.R_away HO272.out (fun _ hk => hk.2.2.2.2.1)))
                       have n2_ := Aside0.mk (blk_grown (g := gb233) (o := .cells #[.int .i64 4, .int .i64 0, .string (⟨#[41]⟩ : ByteArray), .int .i64 0] 32 (0, 0)) (by (with_reducible repeat (first | refine blk_drewN ?_ _ | refine blk_drew ?_ | refine blk_alloc ?_ _)); exact BK233.out) hg (Kd.R_away HO272.out (fun _ hk => hk.2.2.2.2.2)))
                       have n3_ := Aside0.mk (Kd.R_after (ok := (fun k_ => some k_ ≠ (.slice Ao57 t223.length co57 : Value).ownBlock ∧ some k_ ≠ (v255 : Value).ownBlock ∧ some k_ ≠ (.slice Ao77 y267.length co77 : Value).ownBlock ∧ k_ ≠ gb232 ∧ k_ ≠ gb233)) (by (with_reducible repeat (first | apply Kd.R_alloc | apply Kd.R_drewN | apply Kd.R_drew)); exact HO246.out) hg hat)
                       have n4_ := Aside0.mk (Kd.R_after (ok := (fun k_ => some k_ ≠ (.slice Ao57 t223.length co57 : Value).ownBlock ∧ some k_ ≠ (.slice Ao66 y244.length co66 : Value).ownBlock ∧ some k_ ≠ (.slice Ao77 y267.length co77 : Value).ownBlock ∧ k_ ≠ gb232 ∧ k_ ≠ gb233)) (by (with_reducible repeat (first | apply Kd.R_alloc | apply Kd.R_drewN | apply Kd.R_drew)); exact HO256.out) hg hat)
                       have n5_ := Aside0.mk (Kd.R_after (ok := (fun k_ => some k_ ≠ (.slice Ao57 t223.length co57 : Value).ownBlock ∧ some k_ ≠ (.slice Ao66 y244.length co66 : Value).ownBlock ∧ some k_ ≠ (v255 : Value).ownBlock ∧ k_ ≠ gb232 ∧ k_ ≠ gb233)) (by (with_reducible repeat (first | apply Kd.R_alloc | apply Kd.R_drewN | apply Kd.R_drew)); exact HO269.out) hg hat)
                       have n6_ := Aside0.mk (hb)
                       have n7_ := Aside0.mk ((show Kd.C k32 w81 A80 y273.length y273 from by rw [Ny273.out, KA80.out]; exact Kd.C_drop (m := 2) (c := co57) ((Kd.R_reads' (Kd.R_after (ok := (fun k_ => some k_ ≠ (.slice Ao66 y244.length co66 : Value).ownBlock ∧ some k_ ≠ (v255 : Value).ownBlock ∧ some k_ ≠ (.slice Ao77 y267.length co77 : Value).ownBlock ∧ k_ ≠ gb232 ∧ k_ ≠ gb233)) (by (with_reducible repeat (first | apply Kd.R_alloc | apply Kd.R_drewN | apply Kd.R_drew)); exact HO_14.out) hg hat)).2.2) KL80.out ((Kd.R_reads' (Kd.R_after (ok := (fun k_ => some k_ ≠ (.slice Ao66 y244.length co66 : Value).ownBlock ∧ some k_ ≠ (v255 : Value).ownBlock ∧ some k_ ≠ (.slice Ao77 y267.length co77 : Value).ownBlock ∧ k_ ≠ gb232 ∧ k_ ≠ gb233)) (by (with_reducible repeat (first | apply Kd.R_alloc | apply Kd.R_drewN | apply Kd.R_drew)); exact HO_14.out) hg hat)).2.1)))
                       have n8_ := Aside0.mk (ho)
                       clear HO_14
                       clear BK232
                       clear BK233
                       clear HO246
                       clear HO256
                       clear HO269
                       clear HB
                       clear HR276
                       clear HO272
                       have HO_14 := n0_
                       have BK232 := n1_
                       have BK233 := n2_
                       have HO246 := n3_
                       have HO256 := n4_
                       have HO269 := n5_
                       have HB := n6_
                       have HR276 := n7_
                       have HO279 := n8_
                       clear n0_ n1_ n2_ n3_ n4_ n5_ n6_ n7_ n8_
                       clear ho hb hg hat
                       refine hK.out _ _ ⟨(blk_cell BK233.out 0).trans rfl, (blk_cell BK233.out 1).trans rfl, (blk_cell BK233.out 2).trans rfl, (blk_cell BK233.out 3).trans rfl⟩ (fun hHeld => ?_)
                       clear hK K
                       refine norm_ (a' := ?_) ?_ ?_
                       rotate_left
                       ·show Act.put _ (some 90) _ = _
                        simp only [Act.put, List.setIfInBounds_toArray, List.set_cons_zero, List.set_cons_succ, i64_w, i32_w]
                        rfl
                       refine one_ (i := 5) (N := some 92) #[true, true, true, true, true, true, false, false] rfl rfl (one_of HT_.out (by kernel_rfl)) (by decide) (fun K hK => ?_)
                       refine Kd.R_lit_step k32 _ 32 ?hg (N := 92) ?hd (xs := ([(⟨4, 0, (⟨#[41]⟩ : ByteArray), 0⟩ : S32)] : List (S32))) (inner := [.int .i64 4, .int .i64 0, .string (⟨#[41]⟩ : ByteArray), .int .i64 0]) (ok := fun _ => True) (okp := fun _ => True) ?hr ?hp (fun _ hk => hk) trivial (Below.refl _ _) (Nat.le_refl _) (by simp) ?_; (case hd => rfl); (case hg => rfl); (case hr => first | (go_simp; done) | (go_simp; rfl)); (case hp => exact (Reps.c4 (show Kd.M k32 _ _ _ (⟨4, 0, (⟨#[41]⟩ : ByteArray), 0⟩ : S32) [.int .i64 4, .int .i64 0, .string (⟨#[41]⟩ : ByteArray), .int .i64 0] from (k32_mkM _ _ _ (⟨4, 0, (⟨#[41]⟩ : ByteArray), 0⟩ : S32) )) (Reps.none _ _)))
                       intro v281 w82 ho83 hb hg_ hnew_
                       clear hg_ hnew_
                       (first | rw [← Ny280.out] at ho83 | (simp only [Int.reduceToNat] at ho83; rw [← Ny280.out] at ho83))
                       have n0_ := Aside0.mk (Kd.R_elder' (by (with_reducible repeat (first | apply Kd.R_alloc | apply Kd.R_drewN | apply Kd.R_drew)); exact HO_14.out) (Kd.R_base ho83) hb)
                       have n1_ := Aside0.mk (Kd.R_elder' (by (with_reducible repeat (first | apply Kd.R_alloc | apply Kd.R_drewN | apply Kd.R_drew)); exact HO246.out) (Kd.R_base ho83) hb)
                       have n2_ := Aside0.mk (Kd.R_elder' (by (with_reducible repeat (first | apply Kd.R_alloc | apply Kd.R_drewN | apply Kd.R_drew)); exact HO256.out) (Kd.R_base ho83) hb)
                       have n3_ := Aside0.mk (Kd.R_elder' (by (with_reducible repeat (first | apply Kd.R_alloc | apply Kd.R_drewN | apply Kd.R_drew)); exact HO269.out) (Kd.R_base ho83) hb)
                       have n4_ := Aside0.mk (Kd.R_elder' (by (with_reducible repeat (first | apply Kd.R_alloc | apply Kd.R_drewN | apply Kd.R_drew)); exact HO279.out) (Kd.R_base ho83) hb)
                       have n5_ := Aside0.mk (Kd.R_lower (Kd.R_newB (Kd.R_newB (Kd.R_new' (Kd.R_new' (Kd.R_new' (Kd.R_new' (Kd.R_new' ho83 (Kd.R_lt (by (with_reducible repeat (first | apply Kd.R_alloc | apply Kd.R_drewN | apply Kd.R_drew)); exact HO_14.out))) (Kd.R_lt (by (with_reducible repeat (first | apply Kd.R_alloc | apply Kd.R_drewN | apply Kd.R_drew)); exact HO246.out))) (Kd.R_lt (by (with_reducible repeat (first | apply Kd.R_alloc | apply Kd.R_drewN | apply Kd.R_drew)); exact HO256.out))) (Kd.R_lt (by (with_reducible repeat (first | apply Kd.R_alloc | apply Kd.R_drewN | apply Kd.R_drew)); exact HO269.out))) (Kd.R_lt (by (with_reducible repeat (first | apply Kd.R_alloc | apply Kd.R_drewN | apply Kd.R_drew)); exact HO279.out))) (g := gb232) (o := .cells #[.int .i64 4, .int .i64 0, .string (⟨#[40]⟩ : ByteArray), .int .i64 0] 32 (0, 0)) (by (with_reducible repeat (first | refine blk_drewN ?_ _ | refine blk_drew ?_ | refine blk_alloc ?_ _)); exact BK232.out)) (g := gb233) (o := .cells #[.int .i64 4, .int .i64 0, .string (⟨#[41]⟩ : ByteArray), .int .i64 0] 32 (0, 0)) (by (with_reducible repeat (first | refine blk_drewN ?_ _ | refine blk_drew ?_ | refine blk_alloc ?_ _)); exact BK233.out)) (below_size (by repeat (first | (with_reducible first | exact HB.out | apply below_alloc | apply pw_below_drewN | apply below_drew1 | refine below_set ?_ GE232.out | refine below_set ?_ GE233.out) | exact HB.out))))
                       have n6_ := Aside0.mk (blk_below (g := gb232) (o := .cells #[.int .i64 4, .int .i64 0, .string (⟨#[40]⟩ : ByteArray), .int .i64 0] 32 (0, 0)) (by (with_reducible repeat (first | refine blk_drewN ?_ _ | refine blk_drew ?_ | refine blk_alloc ?_ _)); exact BK232.out) hb)
                       have n7_ := Aside0.mk (blk_below (g := gb233) (o := .cells #[.int .i64 4, .int .i64 0, .string (⟨#[41]⟩ : ByteArray), .int .i64 0] 32 (0, 0)) (by (with_reducible repeat (first | refine blk_drewN ?_ _ | refine blk_drew ?_ | refine blk_alloc ?_ _)); exact BK233.out) hb)
                       have n8_ := Aside0.mk (Kd.C_below (by repeat (first | (with_reducible exact HR276.out) | (with_reducible refine Kd.C_alloc ?_ _) | (with_reducible refine Kd.C_drewN ?_ _) | (with_reducible refine Kd.C_drew ?_) | exact HR276.out)) hb)
                       have n9_ := Aside0.mk (below_step (by repeat (first | (with_reducible first | exact HB.out | apply below_alloc | apply pw_below_drewN | apply below_drew1 | refine below_set ?_ GE232.out | refine below_set ?_ GE233.out) | exact HB.out)) hb)
                       clear HO_14
                       clear HO246
                       clear HO256
                       clear HO269
                       clear HO279
                       clear BK232
                       clear BK233
                       clear HR276
                       clear HB
                       have HO_14 := n0_
                       have HO246 := n1_
                       have HO256 := n2_
                       have HO269 := n3_
                       have HO279 := n4_
                       have HO282 := n5_
                       have BK232 := n6_
                       have BK233 := n7_
                       have HR276 := n8_
                       have HB := n9_
                       clear n0_ n1_ n2_ n3_ n4_ n5_ n6_ n7_ n8_ n9_
                       clear hb ho83
                       refine hK.out _ _ ⟨(blk_cell BK233.out 0).trans rfl, (blk_cell BK233.out 1).trans rfl, (blk_cell BK233.out 2).trans rfl, (blk_cell BK233.out 3).trans rfl⟩ (fun hHeld => ?_)
                       clear hK K
                       refine norm_ (a' := ?_) ?_ ?_
                       rotate_left
                       ·show Act.put _ (some 92) _ = _
                        simp only [Act.put, List.setIfInBounds_toArray, List.set_cons_zero, List.set_cons_succ, i64_w, i32_w]
                        rfl
                       exact norm_ (by simp only [putAll, Act.put, List.setIfInBounds_toArray, List.set_cons_zero, List.set_cons_succ]) (hCont (v278, v281) _ ⟨hHeld, (by (with_reducible repeat (first | apply Kd.R_alloc | apply Kd.R_drewN | apply Kd.R_drew)); exact Kd.R_mono HO246.out (fun _ hk => ⟨hk.1.1.2.1, ⟨hk.1.1.2.2.1, ⟨hk.1.2, ⟨hk.2, ⟨hk.1.1.1, ⟨hk.1.1.2.2.2.1, hk.1.1.2.2.2.2⟩⟩⟩⟩⟩⟩)), (by (with_reducible repeat (first | apply Kd.R_alloc | apply Kd.R_drewN | apply Kd.R_drew)); exact Kd.R_mono HO256.out (fun _ hk => ⟨hk.1.1.2.1, ⟨hk.1.1.2.2.1, ⟨hk.1.2, ⟨hk.2, ⟨hk.1.1.1, ⟨hk.1.1.2.2.2.1, hk.1.1.2.2.2.2⟩⟩⟩⟩⟩⟩)), (by (with_reducible repeat (first | apply Kd.R_alloc | apply Kd.R_drewN | apply Kd.R_drew)); exact Kd.R_mono HO269.out (fun _ hk => ⟨hk.1.1.2.1, ⟨hk.1.1.2.2.1, ⟨hk.1.2, ⟨hk.2, ⟨hk.1.1.1, ⟨hk.1.1.2.2.2.1, hk.1.1.2.2.2.2⟩⟩⟩⟩⟩⟩)), (by (with_reducible repeat (first | apply Kd.R_alloc | apply Kd.R_drewN | apply Kd.R_drew)); exact Kd.R_mono HO279.out (fun _ hk => ⟨hk.1.2.1, ⟨hk.1.2.2.1, ⟨hk.1.2.2.2.1, ⟨hk.2, ⟨hk.1.1, ⟨hk.1.2.2.2.2.1, hk.1.2.2.2.2.2⟩⟩⟩⟩⟩⟩)), (by (with_reducible repeat (first | apply Kd.R_alloc | apply Kd.R_drewN | apply Kd.R_drew)); exact Kd.R_mono HO282.out (fun _ hk => ⟨hk.1.1.1.1.1.2, ⟨hk.1.1.1.1.2, ⟨hk.1.1.1.2, ⟨hk.1.1.2, ⟨hk.1.1.1.1.1.1.2, ⟨hk.1.2, hk.2⟩⟩⟩⟩⟩⟩)), (by (with_reducible repeat (first | apply Kd.R_alloc | apply Kd.R_drewN | apply Kd.R_drew)); exact Kd.R_mono HO_14.out (fun _ hk => ⟨hk.1.1.1, ⟨hk.1.1.2.1, ⟨hk.1.1.2.2.1, ⟨hk.1.2, ⟨hk.2, ⟨hk.1.1.2.2.2.1, hk.1.1.2.2.2.2⟩⟩⟩⟩⟩⟩)), (by (with_reducible repeat (first | refine blk_drewN ?_ _ | refine blk_drew ?_ | refine blk_alloc ?_ _)); exact BK232.out), (by (with_reducible repeat (first | refine blk_drewN ?_ _ | refine blk_drew ?_ | refine blk_alloc ?_ _)); exact BK233.out), (by repeat (first | (with_reducible first | exact HB.out | apply below_alloc | apply pw_below_drewN | apply below_drew1 | refine below_set ?_ GE232.out | refine below_set ?_ GE233.out) | exact HB.out))⟩)
                      ·skip
                       refine Kd.R_lit_step k32 _ 32 ?hg (N := 92) ?hd (xs := ([(⟨4, 0, (⟨#[41]⟩ : ByteArray), 0⟩ : S32)] : List (S32))) (inner := [.int .i64 4, .int .i64 0, .string (⟨#[41]⟩ : ByteArray), .int .i64 0]) (ok := fun _ => True) (okp := fun _ => True) ?hr ?hp (fun _ hk => hk) trivial (Below.refl _ _) (Nat.le_refl _) (by simp) ?_; (case hd => rfl); (case hg => rfl); (case hr => first | (go_simp; done) | (go_simp; rfl)); (case hp => exact (Reps.c4 (show Kd.M k32 _ _ _ (⟨4, 0, (⟨#[41]⟩ : ByteArray), 0⟩ : S32) [.int .i64 4, .int .i64 0, .string (⟨#[41]⟩ : ByteArray), .int .i64 0] from (k32_mkM _ _ _ (⟨4, 0, (⟨#[41]⟩ : ByteArray), 0⟩ : S32) )) (Reps.none _ _)))
                       intro v281 w81 ho82 hb hg_ hnew_
                       clear hg_ hnew_
                       (first | rw [← Ny280.out] at ho82 | (simp only [Int.reduceToNat] at ho82; rw [← Ny280.out] at ho82))
                       have n0_ := Aside0.mk (Kd.R_elder' (by (with_reducible repeat (first | apply Kd.R_alloc | apply Kd.R_drewN | apply Kd.R_drew)); exact HO_14.out) (Kd.R_base ho82) hb)
                       have n1_ := Aside0.mk (Kd.R_elder' (by (with_reducible repeat (first | apply Kd.R_alloc | apply Kd.R_drewN | apply Kd.R_drew)); exact HO246.out) (Kd.R_base ho82) hb)
                       have n2_ := Aside0.mk (Kd.R_elder' (by (with_reducible repeat (first | apply Kd.R_alloc | apply Kd.R_drewN | apply Kd.R_drew)); exact HO256.out) (Kd.R_base ho82) hb)
                       have n3_ := Aside0.mk (Kd.R_elder' (by (with_reducible repeat (first | apply Kd.R_alloc | apply Kd.R_drewN | apply Kd.R_drew)); exact HO269.out) (Kd.R_base ho82) hb)
                       have n4_ := Aside0.mk (Kd.R_elder' (by (with_reducible repeat (first | apply Kd.R_alloc | apply Kd.R_drewN | apply Kd.R_drew)); exact HO272.out) (Kd.R_base ho82) hb)
                       have n5_ := Aside0.mk (Kd.R_lower (Kd.R_newB (Kd.R_newB (Kd.R_new' (Kd.R_new' (Kd.R_new' (Kd.R_new' (Kd.R_new' ho82 (Kd.R_lt (by (with_reducible repeat (first | apply Kd.R_alloc | apply Kd.R_drewN | apply Kd.R_drew)); exact HO_14.out))) (Kd.R_lt (by (with_reducible repeat (first | apply Kd.R_alloc | apply Kd.R_drewN | apply Kd.R_drew)); exact HO246.out))) (Kd.R_lt (by (with_reducible repeat (first | apply Kd.R_alloc | apply Kd.R_drewN | apply Kd.R_drew)); exact HO256.out))) (Kd.R_lt (by (with_reducible repeat (first | apply Kd.R_alloc | apply Kd.R_drewN | apply Kd.R_drew)); exact HO269.out))) (Kd.R_lt (by (with_reducible repeat (first | apply Kd.R_alloc | apply Kd.R_drewN | apply Kd.R_drew)); exact HO272.out))) (g := gb232) (o := .cells #[.int .i64 4, .int .i64 0, .string (⟨#[40]⟩ : ByteArray), .int .i64 0] 32 (0, 0)) (by (with_reducible repeat (first | refine blk_drewN ?_ _ | refine blk_drew ?_ | refine blk_alloc ?_ _)); exact BK232.out)) (g := gb233) (o := .cells #[.int .i64 4, .int .i64 0, .string (⟨#[41]⟩ : ByteArray), .int .i64 0] 32 (0, 0)) (by (with_reducible repeat (first | refine blk_drewN ?_ _ | refine blk_drew ?_ | refine blk_alloc ?_ _)); exact BK233.out)) (below_size (by repeat (first | (with_reducible first | exact HB.out | apply below_alloc | apply pw_below_drewN | apply below_drew1 | refine below_set ?_ GE232.out | refine below_set ?_ GE233.out) | exact HB.out))))
                       have n6_ := Aside0.mk (blk_below (g := gb232) (o := .cells #[.int .i64 4, .int .i64 0, .string (⟨#[40]⟩ : ByteArray), .int .i64 0] 32 (0, 0)) (by (with_reducible repeat (first | refine blk_drewN ?_ _ | refine blk_drew ?_ | refine blk_alloc ?_ _)); exact BK232.out) hb)
                       have n7_ := Aside0.mk (blk_below (g := gb233) (o := .cells #[.int .i64 4, .int .i64 0, .string (⟨#[41]⟩ : ByteArray), .int .i64 0] 32 (0, 0)) (by (with_reducible repeat (first | refine blk_drewN ?_ _ | refine blk_drew ?_ | refine blk_alloc ?_ _)); exact BK233.out) hb)
                       have n8_ := Aside0.mk (Kd.C_below (by repeat (first | (with_reducible exact HR276.out) | (with_reducible refine Kd.C_alloc ?_ _) | (with_reducible refine Kd.C_drewN ?_ _) | (with_reducible refine Kd.C_drew ?_) | exact HR276.out)) hb)
                       have n9_ := Aside0.mk (below_step (by repeat (first | (with_reducible first | exact HB.out | apply below_alloc | apply pw_below_drewN | apply below_drew1 | refine below_set ?_ GE232.out | refine below_set ?_ GE233.out) | exact HB.out)) hb)
                       clear HO_14
                       clear HO246
                       clear HO256
                       clear HO269
                       clear HO272
                       clear BK232
                       clear BK233
                       clear HR276
                       clear HB
                       have HO_14 := n0_
                       have HO246 := n1_
                       have HO256 := n2_
                       have HO269 := n3_
                       have HO272 := n4_
                       have HO282 := n5_
                       have BK232 := n6_
                       have BK233 := n7_
                       have HR276 := n8_
                       have HB := n9_
                       clear n0_ n1_ n2_ n3_ n4_ n5_ n6_ n7_ n8_ n9_
                       clear hb ho82
                       refine hK.out _ _ ⟨(blk_cell BK233.out 0).trans rfl, (blk_cell BK233.out 1).trans rfl, (blk_cell BK233.out 2).trans rfl, (blk_cell BK233.out 3).trans rfl⟩ (fun hHeld => ?_)
                       clear hK K
                       refine norm_ (a' := ?_) ?_ ?_
                       rotate_left
                       ·show Act.put _ (some 92) _ = _
                        simp only [Act.put, List.setIfInBounds_toArray, List.set_cons_zero, List.set_cons_succ, i64_w, i32_w]
                        rfl
                       refine one_ (i := 3) (N := some 90) #[true, true, true, true, true, true, false, false] rfl rfl (one_of HT_.out (by kernel_rfl)) (by decide) (fun K hK => ?_)
                       refine Kd.R_append_rows_step k32 (w0 := w) w.heap.size (by rfl) (.tmp 87) (.tmp 89) 24 32 (.agg #[(.int .i64 0), (.int .i64 0), (.string ⟨#[]⟩), (.int .i64 0)]) 40 rfl Try.underlying24 info32 rfl (by decide) (by omega) (.slice Ao78 y270.length co78) y270 y273 _ _ _ (fun k_ => some k_ ≠ (.slice Ao57 t223.length co57 : Value).ownBlock ∧ some k_ ≠ (.slice Ao66 y244.length co66 : Value).ownBlock ∧ some k_ ≠ (v255 : Value).ownBlock ∧ some k_ ≠ (.slice Ao77 y267.length co77 : Value).ownBlock ∧ some k_ ≠ (v281 : Value).ownBlock ∧ k_ ≠ gb232 ∧ k_ ≠ gb233) (fun _ => False) rfl rfl ?aO ?aR (fun _ _ h => h) (fun _ h => h.elim) ?aF ?aB ?aS ?aL ?_
                       (case aR => repeat (first | exact (by repeat (first | (with_reducible exact HR276.out) | (with_reducible refine Kd.C_alloc ?_ _) | (with_reducible refine Kd.C_drewN ?_ _) | (with_reducible refine Kd.C_drew ?_) | exact HR276.out)) | (with_reducible refine Kd.C_alloc ?_ _) | (with_reducible refine Kd.C_drewN ?_ _) | (with_reducible refine Kd.C_drew ?_)))
                       (case aB => exact (by repeat (first | (with_reducible first | exact HB.out | apply below_alloc | apply pw_below_drewN | apply below_drew1 | refine below_set ?_ GE232.out | refine below_set ?_ GE233.out) | exact HB.out)))
                       (case aF => exact (fun k_ hk => ⟨Kd.fresh' (Kd.R_lt (by (with_reducible repeat (first | apply Kd.R_alloc | apply Kd.R_drewN | apply Kd.R_drew)); exact HO_14.out)) k_ hk, Kd.fresh' (Kd.R_lt (by (with_reducible repeat (first | apply Kd.R_alloc | apply Kd.R_drewN | apply Kd.R_drew)); exact HO246.out)) k_ hk, Kd.fresh' (Kd.R_lt (by (with_reducible repeat (first | apply Kd.R_alloc | apply Kd.R_drewN | apply Kd.R_drew)); exact HO256.out)) k_ hk, Kd.fresh' (Kd.R_lt (by (with_reducible repeat (first | apply Kd.R_alloc | apply Kd.R_drewN | apply Kd.R_drew)); exact HO269.out)) k_ hk, Kd.fresh' (Kd.R_lt (by (with_reducible repeat (first | apply Kd.R_alloc | apply Kd.R_drewN | apply Kd.R_drew)); exact HO282.out)) k_ hk, Kd.freshB (g := gb232) (o := .cells #[.int .i64 4, .int .i64 0, .string (⟨#[40]⟩ : ByteArray), .int .i64 0] 32 (0, 0)) (by (with_reducible repeat (first | refine blk_drewN ?_ _ | refine blk_drew ?_ | refine blk_alloc ?_ _)); exact BK232.out) k_ hk, Kd.freshB (g := gb233) (o := .cells #[.int .i64 4, .int .i64 0, .string (⟨#[41]⟩ : ByteArray), .int .i64 0] 32 (0, 0)) (by (with_reducible repeat (first | refine blk_drewN ?_ _ | refine blk_drew ?_ | refine blk_alloc ?_ _)); exact BK233.out) k_ hk⟩))
                       (case aO => exact (by (with_reducible repeat (first | apply Kd.R_alloc | apply Kd.R_drewN | apply Kd.R_drew)); exact Kd.R_mono HO272.out (fun _ hk => ⟨hk.1.1, ⟨hk.1.2.1, ⟨hk.1.2.2.1, ⟨hk.1.2.2.2.1, ⟨hk.2, ⟨hk.1.2.2.2.2.1, hk.1.2.2.2.2.2⟩⟩⟩⟩⟩⟩)))
                       (case aS => exact (below_size (by repeat (first | (with_reducible first | exact HB.out | apply below_alloc | apply pw_below_drewN | apply below_drew1 | refine below_set ?_ GE232.out | refine below_set ?_ GE233.out) | exact HB.out))))
                       (case aL => have := LMc41.out; omega)
                       intro v278 w83 ho hb hg hat
                       rw [← Ny277.out] at ho
                       have n0_ := Aside0.mk (Kd.R_after (ok := (fun k_ => some k_ ≠ (.slice Ao66 y244.length co66 : Value).ownBlock ∧ some k_ ≠ (v255 : Value).ownBlock ∧ some k_ ≠ (.slice Ao77 y267.length co77 : Value).ownBlock ∧ some k_ ≠ (v281 : Value).ownBlock ∧ k_ ≠ gb232 ∧ k_ ≠ gb233)) (by (with_reducible repeat (first | apply Kd.R_alloc | apply Kd.R_drewN | apply Kd.R_drew)); exact Kd.R_mono HO_14.out (fun _ hk => ⟨⟨hk.1.1.1, ⟨hk.1.1.2.1, ⟨hk.1.1.2.2.1, ⟨hk.2, ⟨hk.1.1.2.2.2.1, hk.1.1.2.2.2.2⟩⟩⟩⟩⟩, hk.1.2⟩)) hg hat)
                       have n1_ := Aside0.mk (blk_grown (g := gb232) (o := .cells #[.int .i64 4, .int .i64 0, .string (⟨#[40]⟩ : ByteArray), .int .i64 0] 32 (0, 0)) (by (with_reducible repeat (first | refine blk_drewN ?_ _ | refine blk_drew ?_ | refine blk_alloc ?_ _)); exact BK232.out) hg (Kd.R_away HO272.out (fun _ hk => hk.1.2.2.2.2.1)))
                       have n2_ := Aside0.mk (blk_grown (g := gb233) (o := .cells #[.int .i64 4, .int .i64 0, .string (⟨#[41]⟩ : ByteArray), .int .i64 0] 32 (0, 0)) (by (with_reducible repeat (first | refine blk_drewN ?_ _ | refine blk_drew ?_ | refine blk_alloc ?_ _)); exact BK233.out) hg (Kd.R_away HO272.out (fun _ hk => hk.1.2.2.2.2.2)))
                       have n3_ := Aside0.mk (Kd.R_after (ok := (fun k_ => some k_ ≠ (.slice Ao57 t223.length co57 : Value).ownBlock ∧ some k_ ≠ (v255 : Value).ownBlock ∧ some k_ ≠ (.slice Ao77 y267.length co77 : Value).ownBlock ∧ some k_ ≠ (v281 : Value).ownBlock ∧ k_ ≠ gb232 ∧ k_ ≠ gb233)) (by (with_reducible repeat (first | apply Kd.R_alloc | apply Kd.R_drewN | apply Kd.R_drew)); exact Kd.R_mono HO246.out (fun _ hk => ⟨⟨hk.1.1.1, ⟨hk.1.1.2.1, ⟨hk.1.1.2.2.1, ⟨hk.2, ⟨hk.1.1.2.2.2.1, hk.1.1.2.2.2.2⟩⟩⟩⟩⟩, hk.1.2⟩)) hg hat)
                       have n4_ := Aside0.mk (Kd.R_after (ok := (fun k_ => some k_ ≠ (.slice Ao57 t223.length co57 : Value).ownBlock ∧ some k_ ≠ (.slice Ao66 y244.length co66 : Value).ownBlock ∧ some k_ ≠ (.slice Ao77 y267.length co77 : Value).ownBlock ∧ some k_ ≠ (v281 : Value).ownBlock ∧ k_ ≠ gb232 ∧ k_ ≠ gb233)) (by (with_reducible repeat (first | apply Kd.R_alloc | apply Kd.R_drewN | apply Kd.R_drew)); exact Kd.R_mono HO256.out (fun _ hk => ⟨⟨hk.1.1.1, ⟨hk.1.1.2.1, ⟨hk.1.1.2.2.1, ⟨hk.2, ⟨hk.1.1.2.2.2.1, hk.1.1.2.2.2.2⟩⟩⟩⟩⟩, hk.1.2⟩)) hg hat)
                       have n5_ := Aside0.mk (Kd.R_after (ok := (fun k_ => some k_ ≠ (.slice Ao57 t223.length co57 : Value).ownBlock ∧ some k_ ≠ (.slice Ao66 y244.length co66 : Value).ownBlock ∧ some k_ ≠ (v255 : Value).ownBlock ∧ some k_ ≠ (v281 : Value).ownBlock ∧ k_ ≠ gb232 ∧ k_ ≠ gb233)) (by (with_reducible repeat (first | apply Kd.R_alloc | apply Kd.R_drewN | apply Kd.R_drew)); exact Kd.R_mono HO269.out (fun _ hk => ⟨⟨hk.1.1.1, ⟨hk.1.1.2.1, ⟨hk.1.1.2.2.1, ⟨hk.2, ⟨hk.1.1.2.2.2.1, hk.1.1.2.2.2.2⟩⟩⟩⟩⟩, hk.1.2⟩)) hg hat)
                       have n6_ := Aside0.mk (Kd.R_after (ok := (fun k_ => some k_ ≠ (.slice Ao57 t223.length co57 : Value).ownBlock ∧ some k_ ≠ (.slice Ao66 y244.length co66 : Value).ownBlock ∧ some k_ ≠ (v255 : Value).ownBlock ∧ some k_ ≠ (.slice Ao77 y267.length co77 : Value).ownBlock ∧ k_ ≠ gb232 ∧ k_ ≠ gb233)) (by (with_reducible repeat (first | apply Kd.R_alloc | apply Kd.R_drewN | apply Kd.R_drew)); exact Kd.R_mono HO282.out (fun _ hk => ⟨⟨hk.1.1.1.1.1.1.2, ⟨hk.1.1.1.1.1.2, ⟨hk.1.1.1.1.2, ⟨hk.1.1.1.2, ⟨hk.1.2, hk.2⟩⟩⟩⟩⟩, hk.1.1.2⟩)) hg hat)
                       have n7_ := Aside0.mk (hb)
                       have n8_ := Aside0.mk ((show Kd.C k32 w83 A80 y273.length y273 from by rw [Ny273.out, KA80.out]; exact Kd.C_drop (m := 2) (c := co57) ((Kd.R_reads' (Kd.R_after (ok := (fun k_ => some k_ ≠ (.slice Ao66 y244.length co66 : Value).ownBlock ∧ some k_ ≠ (v255 : Value).ownBlock ∧ some k_ ≠ (.slice Ao77 y267.length co77 : Value).ownBlock ∧ some k_ ≠ (v281 : Value).ownBlock ∧ k_ ≠ gb232 ∧ k_ ≠ gb233)) (by (with_reducible repeat (first | apply Kd.R_alloc | apply Kd.R_drewN | apply Kd.R_drew)); exact Kd.R_mono HO_14.out (fun _ hk => ⟨⟨hk.1.1.1, ⟨hk.1.1.2.1, ⟨hk.1.1.2.2.1, ⟨hk.2, ⟨hk.1.1.2.2.2.1, hk.1.1.2.2.2.2⟩⟩⟩⟩⟩, hk.1.2⟩)) hg hat)).2.2) KL80.out ((Kd.R_reads' (Kd.R_after (ok := (fun k_ => some k_ ≠ (.slice Ao66 y244.length co66 : Value).ownBlock ∧ some k_ ≠ (v255 : Value).ownBlock ∧ some k_ ≠ (.slice Ao77 y267.length co77 : Value).ownBlock ∧ some k_ ≠ (v281 : Value).ownBlock ∧ k_ ≠ gb232 ∧ k_ ≠ gb233)) (by (with_reducible repeat (first | apply Kd.R_alloc | apply Kd.R_drewN | apply Kd.R_drew)); exact Kd.R_mono HO_14.out (fun _ hk => ⟨⟨hk.1.1.1, ⟨hk.1.1.2.1, ⟨hk.1.1.2.2.1, ⟨hk.2, ⟨hk.1.1.2.2.2.1, hk.1.1.2.2.2.2⟩⟩⟩⟩⟩, hk.1.2⟩)) hg hat)).2.1)))
                       have n9_ := Aside0.mk (ho)
                       clear HO_14
                       clear BK232
                       clear BK233
                       clear HO246
                       clear HO256
                       clear HO269
                       clear HO282
                       clear HB
                       clear HR276
                       clear HO272
                       have HO_14 := n0_
                       have BK232 := n1_
                       have BK233 := n2_
                       have HO246 := n3_
                       have HO256 := n4_
                       have HO269 := n5_
                       have HO282 := n6_
                       have HB := n7_
                       have HR276 := n8_
                       have HO279 := n9_
                       clear n0_ n1_ n2_ n3_ n4_ n5_ n6_ n7_ n8_ n9_
                       clear ho hb hg hat
                       refine hK.out _ _ ⟨(blk_cell BK233.out 0).trans rfl, (blk_cell BK233.out 1).trans rfl, (blk_cell BK233.out 2).trans rfl, (blk_cell BK233.out 3).trans rfl⟩ (fun hHeld => ?_)
                       clear hK K
                       refine norm_ (a' := ?_) ?_ ?_
                       rotate_left
                       ·show Act.put _ (some 90) _ = _
                        simp only [Act.put, List.setIfInBounds_toArray, List.set_cons_zero, List.set_cons_succ, i64_w, i32_w]
                        rfl
                       exact norm_ (by simp only [putAll, Act.put, List.setIfInBounds_toArray, List.set_cons_zero, List.set_cons_succ]) (hCont (v278, v281) _ ⟨hHeld, (by (with_reducible repeat (first | apply Kd.R_alloc | apply Kd.R_drewN | apply Kd.R_drew)); exact Kd.R_mono HO246.out (fun _ hk => ⟨hk.1.2.1, ⟨hk.1.2.2.1, ⟨hk.2, ⟨hk.1.2.2.2.1, ⟨hk.1.1, ⟨hk.1.2.2.2.2.1, hk.1.2.2.2.2.2⟩⟩⟩⟩⟩⟩)), (by (with_reducible repeat (first | apply Kd.R_alloc | apply Kd.R_drewN | apply Kd.R_drew)); exact Kd.R_mono HO256.out (fun _ hk => ⟨hk.1.2.1, ⟨hk.1.2.2.1, ⟨hk.2, ⟨hk.1.2.2.2.1, ⟨hk.1.1, ⟨hk.1.2.2.2.2.1, hk.1.2.2.2.2.2⟩⟩⟩⟩⟩⟩)), (by (with_reducible repeat (first | apply Kd.R_alloc | apply Kd.R_drewN | apply Kd.R_drew)); exact Kd.R_mono HO269.out (fun _ hk => ⟨hk.1.2.1, ⟨hk.1.2.2.1, ⟨hk.2, ⟨hk.1.2.2.2.1, ⟨hk.1.1, ⟨hk.1.2.2.2.2.1, hk.1.2.2.2.2.2⟩⟩⟩⟩⟩⟩)), (by (with_reducible repeat (first | apply Kd.R_alloc | apply Kd.R_drewN | apply Kd.R_drew)); exact Kd.R_mono HO279.out (fun _ hk => ⟨hk.2.1, ⟨hk.2.2.1, ⟨hk.2.2.2.1, ⟨hk.2.2.2.2.1, ⟨hk.1, ⟨hk.2.2.2.2.2.1, hk.2.2.2.2.2.2⟩⟩⟩⟩⟩⟩)), (by (with_reducible repeat (first | apply Kd.R_alloc | apply Kd.R_drewN | apply Kd.R_drew)); exact Kd.R_mono HO282.out (fun _ hk => ⟨hk.1.2.1, ⟨hk.1.2.2.1, ⟨hk.1.2.2.2.1, ⟨hk.2, ⟨hk.1.1, ⟨hk.1.2.2.2.2.1, hk.1.2.2.2.2.2⟩⟩⟩⟩⟩⟩)), (by (with_reducible repeat (first | apply Kd.R_alloc | apply Kd.R_drewN | apply Kd.R_drew)); exact Kd.R_mono HO_14.out (fun _ hk => ⟨hk.1.1, ⟨hk.1.2.1, ⟨hk.1.2.2.1, ⟨hk.2, ⟨hk.1.2.2.2.1, ⟨hk.1.2.2.2.2.1, hk.1.2.2.2.2.2⟩⟩⟩⟩⟩⟩)), (by (with_reducible repeat (first | refine blk_drewN ?_ _ | refine blk_drew ?_ | refine blk_alloc ?_ _)); exact BK232.out), (by (with_reducible repeat (first | refine blk_drewN ?_ _ | refine blk_drew ?_ | refine blk_alloc ?_ _)); exact BK233.out), (by repeat (first | (with_reducible first | exact HB.out | apply below_alloc | apply pw_below_drewN | apply below_drew1 | refine below_set ?_ GE232.out | refine below_set ?_ GE233.out) | exact HB.out))⟩)
                     rintro ⟨v278, v281⟩ w84 ⟨hS_, h0_, h1_, h2_, h3_, h4_, h5_, h6_, h7_, h8_⟩
                     have n0_ : Aside0 (Kd.R k32 32 w84 w.heap.size (fun k_ => some k_ ≠ (v255 : Value).ownBlock ∧ some k_ ≠ (.slice Ao77 y267.length co77 : Value).ownBlock ∧ some k_ ≠ (v278 : Value).ownBlock ∧ some k_ ≠ (v281 : Value).ownBlock ∧ some k_ ≠ (.slice Ao57 t223.length co57 : Value).ownBlock ∧ k_ ≠ gb232 ∧ k_ ≠ gb233) (.slice Ao66 y244.length co66) y244) := ⟨h0_⟩
                     have n1_ : Aside0 (Kd.R k32 32 w84 w.heap.size (fun k_ => some k_ ≠ (.slice Ao66 y244.length co66 : Value).ownBlock ∧ some k_ ≠ (.slice Ao77 y267.length co77 : Value).ownBlock ∧ some k_ ≠ (v278 : Value).ownBlock ∧ some k_ ≠ (v281 : Value).ownBlock ∧ some k_ ≠ (.slice Ao57 t223.length co57 : Value).ownBlock ∧ k_ ≠ gb232 ∧ k_ ≠ gb233) v255 y254) := ⟨h1_⟩
                     have n2_ : Aside0 (Kd.R k32 32 w84 w.heap.size (fun k_ => some k_ ≠ (.slice Ao66 y244.length co66 : Value).ownBlock ∧ some k_ ≠ (v255 : Value).ownBlock ∧ some k_ ≠ (v278 : Value).ownBlock ∧ some k_ ≠ (v281 : Value).ownBlock ∧ some k_ ≠ (.slice Ao57 t223.length co57 : Value).ownBlock ∧ k_ ≠ gb232 ∧ k_ ≠ gb233) (.slice Ao77 y267.length co77) y267) := ⟨h2_⟩
                     have n3_ : Aside0 (Kd.R k32 32 w84 w.heap.size (fun k_ => some k_ ≠ (.slice Ao66 y244.length co66 : Value).ownBlock ∧ some k_ ≠ (v255 : Value).ownBlock ∧ some k_ ≠ (.slice Ao77 y267.length co77 : Value).ownBlock ∧ some k_ ≠ (v281 : Value).ownBlock ∧ some k_ ≠ (.slice Ao57 t223.length co57 : Value).ownBlock ∧ k_ ≠ gb232 ∧ k_ ≠ gb233) v278 y277) := ⟨h3_⟩
                     have n4_ : Aside0 (Kd.R k32 32 w84 w.heap.size (fun k_ => some k_ ≠ (.slice Ao66 y244.length co66 : Value).ownBlock ∧ some k_ ≠ (v255 : Value).ownBlock ∧ some k_ ≠ (.slice Ao77 y267.length co77 : Value).ownBlock ∧ some k_ ≠ (v278 : Value).ownBlock ∧ some k_ ≠ (.slice Ao57 t223.length co57 : Value).ownBlock ∧ k_ ≠ gb232 ∧ k_ ≠ gb233) v281 y280) := ⟨h4_⟩
                     have n5_ : Aside0 (Kd.R k32 32 w84 w.heap.size (fun k_ => some k_ ≠ (.slice Ao66 y244.length co66 : Value).ownBlock ∧ some k_ ≠ (v255 : Value).ownBlock ∧ some k_ ≠ (.slice Ao77 y267.length co77 : Value).ownBlock ∧ some k_ ≠ (v278 : Value).ownBlock ∧ some k_ ≠ (v281 : Value).ownBlock ∧ k_ ≠ gb232 ∧ k_ ≠ gb233) (.slice Ao57 t223.length co57) t223) := ⟨h5_⟩
                     have n6_ : Aside0 (w84.heap[gb232]? = some (.cells #[.int .i64 4, .int .i64 0, .string (⟨#[40]⟩ : ByteArray), .int .i64 0] 32 (0, 0))) := ⟨h6_⟩
                     have n7_ : Aside0 (w84.heap[gb233]? = some (.cells #[.int .i64 4, .int .i64 0, .string (⟨#[41]⟩ : ByteArray), .int .i64 0] 32 (0, 0))) := ⟨h7_⟩
                     have n8_ : Aside0 (Below w.heap.size w w84) := ⟨h8_⟩
                     clear HO_14
                     clear HO246
                     clear HO256
                     clear HO269
                     clear HO272
                     clear BK232
                     clear BK233
                     clear HB
                     clear h0_ h1_ h2_ h3_ h4_ h5_ h6_ h7_ h8_
                     have HO246 := n0_
                     have HO256 := n1_
                     have HO269 := n2_
                     have HO279 := n3_
                     have HO282 := n4_
                     have HO_14 := n5_
                     have BK232 := n6_
                     have BK233 := n7_
                     have HB := n8_
                     clear n0_ n1_ n2_ n3_ n4_ n5_ n6_ n7_ n8_
                     have hHeld : w84.cell? ⟨gb233, 0, none⟩ = some (.int .i64 4) ∧ w84.cell? ⟨gb233, 1, none⟩ = some (.int .i64 0) ∧ w84.cell? ⟨gb233, 2, none⟩ = some (.string (⟨#[41]⟩ : ByteArray)) ∧ w84.cell? ⟨gb233, 3, none⟩ = some (.int .i64 0) := hS_
                     obtain ⟨Ao86, co86, eo86⟩ := Kd.R_slice HO282.out
                     (first | subst eo86 | (injection eo86 with f1_ f2_ f3_; have f4_ := f1_.symm; have f5_ := f3_.symm; clear f1_ f2_ f3_; subst f4_; subst f5_))
                     refine norm_ (a' := ?_) ?_ ?_
                     rotate_left
                     ·simp only [putAll, Act.put, List.setIfInBounds_toArray, List.set_cons_zero, List.set_cons_succ]
                      rfl
                     refine one_ (i := 6) (N := some 93) #[true, true, true, true, true, true, true, false] rfl rfl (one_of HT_.out (by kernel_rfl)) (by decide) (fun K hK => ?_)
                     refine Kd.R_append_rows_step k32 (w0 := w) w.heap.size (by rfl) (.tmp 90) (.tmp 92) 24 32 (.agg #[(.int .i64 0), (.int .i64 0), (.string ⟨#[]⟩), (.int .i64 0)]) 40 rfl Try.underlying24 info32 rfl (by decide) (by omega) v278 y277 y280 _ _ _ (fun k_ => some k_ ≠ (.slice Ao57 t223.length co57 : Value).ownBlock ∧ some k_ ≠ (.slice Ao66 y244.length co66 : Value).ownBlock ∧ some k_ ≠ (v255 : Value).ownBlock ∧ some k_ ≠ (.slice Ao77 y267.length co77 : Value).ownBlock ∧ some k_ ≠ (.slice Ao86 y280.length co86 : Value).ownBlock ∧ k_ ≠ gb232 ∧ k_ ≠ gb233) (fun _ => False) rfl rfl ?aO ?aR (fun _ _ h => h) (fun _ h => h.elim) ?aF ?aB ?aS ?aL ?_
                     (case aR => repeat (first | exact (Kd.R_reads' HO282.out).2.2 | (with_reducible refine Kd.C_alloc ?_ _) | (with_reducible refine Kd.C_drewN ?_ _) | (with_reducible refine Kd.C_drew ?_)))
                     (case aB => exact (by repeat (first | (with_reducible first | exact HB.out | apply below_alloc | apply pw_below_drewN | apply below_drew1 | refine below_set ?_ GE232.out | refine below_set ?_ GE233.out) | exact HB.out)))
                     (case aF => exact (fun k_ hk => ⟨Kd.fresh' (Kd.R_lt (by (with_reducible repeat (first | apply Kd.R_alloc | apply Kd.R_drewN | apply Kd.R_drew)); exact HO_14.out)) k_ hk, Kd.fresh' (Kd.R_lt (by (with_reducible repeat (first | apply Kd.R_alloc | apply Kd.R_drewN | apply Kd.R_drew)); exact HO246.out)) k_ hk, Kd.fresh' (Kd.R_lt (by (with_reducible repeat (first | apply Kd.R_alloc | apply Kd.R_drewN | apply Kd.R_drew)); exact HO256.out)) k_ hk, Kd.fresh' (Kd.R_lt (by (with_reducible repeat (first | apply Kd.R_alloc | apply Kd.R_drewN | apply Kd.R_drew)); exact HO269.out)) k_ hk, Kd.fresh' (Kd.R_lt (by (with_reducible repeat (first | apply Kd.R_alloc | apply Kd.R_drewN | apply Kd.R_drew)); exact HO282.out)) k_ hk, Kd.freshB (g := gb232) (o := .cells #[.int .i64 4, .int .i64 0, .string (⟨#[40]⟩ : ByteArray), .int .i64 0] 32 (0, 0)) (by (with_reducible repeat (first | refine blk_drewN ?_ _ | refine blk_drew ?_ | refine blk_alloc ?_ _)); exact BK232.out) k_ hk, Kd.freshB (g := gb233) (o := .cells #[.int .i64 4, .int .i64 0, .string (⟨#[41]⟩ : ByteArray), .int .i64 0] 32 (0, 0)) (by (with_reducible repeat (first | refine blk_drewN ?_ _ | refine blk_drew ?_ | refine blk_alloc ?_ _)); exact BK233.out) k_ hk⟩))
                     (case aO => exact (by (with_reducible repeat (first | apply Kd.R_alloc | apply Kd.R_drewN | apply Kd.R_drew)); exact Kd.R_mono HO279.out (fun _ hk => ⟨hk.2.2.2.2.1, ⟨hk.1, ⟨hk.2.1, ⟨hk.2.2.1, ⟨hk.2.2.2.1, ⟨hk.2.2.2.2.2.1, hk.2.2.2.2.2.2⟩⟩⟩⟩⟩⟩)))
                     (case aS => exact (below_size (by repeat (first | (with_reducible first | exact HB.out | apply below_alloc | apply pw_below_drewN | apply below_drew1 | refine below_set ?_ GE232.out | refine below_set ?_ GE233.out) | exact HB.out))))
                     (case aL => have := LMc42.out; omega)
                     intro v284 w85 ho hb hg hat
                     rw [← Ny283.out] at ho
                     have n0_ := Aside0.mk (Kd.R_after (ok := (fun k_ => some k_ ≠ (.slice Ao66 y244.length co66 : Value).ownBlock ∧ some k_ ≠ (v255 : Value).ownBlock ∧ some k_ ≠ (.slice Ao77 y267.length co77 : Value).ownBlock ∧ some k_ ≠ (.slice Ao86 y280.length co86 : Value).ownBlock ∧ k_ ≠ gb232 ∧ k_ ≠ gb233)) (by (with_reducible repeat (first | apply Kd.R_alloc | apply Kd.R_drewN | apply Kd.R_drew)); exact Kd.R_mono HO_14.out (fun _ hk => ⟨⟨hk.1, ⟨hk.2.1, ⟨hk.2.2.1, ⟨hk.2.2.2.2.1, ⟨hk.2.2.2.2.2.1, hk.2.2.2.2.2.2⟩⟩⟩⟩⟩, hk.2.2.2.1⟩)) hg hat)
                     have n1_ := Aside0.mk (blk_grown (g := gb232) (o := .cells #[.int .i64 4, .int .i64 0, .string (⟨#[40]⟩ : ByteArray), .int .i64 0] 32 (0, 0)) (by (with_reducible repeat (first | refine blk_drewN ?_ _ | refine blk_drew ?_ | refine blk_alloc ?_ _)); exact BK232.out) hg (Kd.R_away HO279.out (fun _ hk => hk.2.2.2.2.2.1)))
                     have n2_ := Aside0.mk (blk_grown (g := gb233) (o := .cells #[.int .i64 4, .int .i64 0, .string (⟨#[41]⟩ : ByteArray), .int .i64 0] 32 (0, 0)) (by (with_reducible repeat (first | refine blk_drewN ?_ _ | refine blk_drew ?_ | refine blk_alloc ?_ _)); exact BK233.out) hg (Kd.R_away HO279.out (fun _ hk => hk.2.2.2.2.2.2)))
                     have n3_ := Aside0.mk (Kd.R_after (ok := (fun k_ => some k_ ≠ (.slice Ao57 t223.length co57 : Value).ownBlock ∧ some k_ ≠ (v255 : Value).ownBlock ∧ some k_ ≠ (.slice Ao77 y267.length co77 : Value).ownBlock ∧ some k_ ≠ (.slice Ao86 y280.length co86 : Value).ownBlock ∧ k_ ≠ gb232 ∧ k_ ≠ gb233)) (by (with_reducible repeat (first | apply Kd.R_alloc | apply Kd.R_drewN | apply Kd.R_drew)); exact Kd.R_mono HO246.out (fun _ hk => ⟨⟨hk.2.2.2.2.1, ⟨hk.1, ⟨hk.2.1, ⟨hk.2.2.2.1, ⟨hk.2.2.2.2.2.1, hk.2.2.2.2.2.2⟩⟩⟩⟩⟩, hk.2.2.1⟩)) hg hat)
                     have n4_ := Aside0.mk (Kd.R_after (ok := (fun k_ => some k_ ≠ (.slice Ao57 t223.length co57 : Value).ownBlock ∧ some k_ ≠ (.slice Ao66 y244.length co66 : Value).ownBlock ∧ some k_ ≠ (.slice Ao77 y267.length co77 : Value).ownBlock ∧ some k_ ≠ (.slice Ao86 y280.length co86 : Value).ownBlock ∧ k_ ≠ gb232 ∧ k_ ≠ gb233)) (by (with_reducible repeat (first | apply Kd.R_alloc | apply Kd.R_drewN | apply Kd.R_drew)); exact Kd.R_mono HO256.out (fun _ hk => ⟨⟨hk.2.2.2.2.1, ⟨hk.1, ⟨hk.2.1, ⟨hk.2.2.2.1, ⟨hk.2.2.2.2.2.1, hk.2.2.2.2.2.2⟩⟩⟩⟩⟩, hk.2.2.1⟩)) hg hat)
                     have n5_ := Aside0.mk (Kd.R_after (ok := (fun k_ => some k_ ≠ (.slice Ao57 t223.length co57 : Value).ownBlock ∧ some k_ ≠ (.slice Ao66 y244.length co66 : Value).ownBlock ∧ some k_ ≠ (v255 : Value).ownBlock ∧ some k_ ≠ (.slice Ao86 y280.length co86 : Value).ownBlock ∧ k_ ≠ gb232 ∧ k_ ≠ gb233)) (by (with_reducible repeat (first | apply Kd.R_alloc | apply Kd.R_drewN | apply Kd.R_drew)); exact Kd.R_mono HO269.out (fun _ hk => ⟨⟨hk.2.2.2.2.1, ⟨hk.1, ⟨hk.2.1, ⟨hk.2.2.2.1, ⟨hk.2.2.2.2.2.1, hk.2.2.2.2.2.2⟩⟩⟩⟩⟩, hk.2.2.1⟩)) hg hat)
                     have n6_ := Aside0.mk (Kd.R_after (ok := (fun k_ => some k_ ≠ (.slice Ao57 t223.length co57 : Value).ownBlock ∧ some k_ ≠ (.slice Ao66 y244.length co66 : Value).ownBlock ∧ some k_ ≠ (v255 : Value).ownBlock ∧ some k_ ≠ (.slice Ao77 y267.length co77 : Value).ownBlock ∧ k_ ≠ gb232 ∧ k_ ≠ gb233)) (by (with_reducible repeat (first | apply Kd.R_alloc | apply Kd.R_drewN | apply Kd.R_drew)); exact Kd.R_mono HO282.out (fun _ hk => ⟨⟨hk.2.2.2.2.1, ⟨hk.1, ⟨hk.2.1, ⟨hk.2.2.1, ⟨hk.2.2.2.2.2.1, hk.2.2.2.2.2.2⟩⟩⟩⟩⟩, hk.2.2.2.1⟩)) hg hat)
                     have n7_ := Aside0.mk (hb)
                     have n8_ := Aside0.mk (ho)
                     clear HO_14
                     clear BK232
                     clear BK233
                     clear HO246
                     clear HO256
                     clear HO269
                     clear HO282
                     clear HB
                     clear HO279
                     have HO_14 := n0_
                     have BK232 := n1_
                     have BK233 := n2_
                     have HO246 := n3_
                     have HO256 := n4_
                     have HO269 := n5_
                     have HO282 := n6_
                     have HB := n7_
                     have HO285 := n8_
                     clear n0_ n1_ n2_ n3_ n4_ n5_ n6_ n7_ n8_
                     clear ho hb hg hat
                     refine hK.out _ _ ⟨(blk_cell BK233.out 0).trans rfl, (blk_cell BK233.out 1).trans rfl, (blk_cell BK233.out 2).trans rfl, (blk_cell BK233.out 3).trans rfl⟩ (fun hHeld => ?_)
                     clear hK K
                     refine norm_ (a' := ?_) ?_ ?_
                     rotate_left
                     ·show Act.put _ (some 93) _ = _
                      simp only [Act.put, List.setIfInBounds_toArray, List.set_cons_zero, List.set_cons_succ, i64_w, i32_w]
                      rfl
                     refine pure_ (i := 7) (N := some 21) (v := ?_) (a' := ?_) #[true, true, true, true, true, true, true, true] rfl rfl (any_of HT_.out (by kernel_rfl)) (fun _ _ _ h => h) (Or.inl ⟨by rfl, ?_⟩) ?_ ?_
                     rotate_left
                     ·intro w'
                      go_simp
                      with_reducible rfl
                     rotate_left
                     ·simp only [Act.put, List.setIfInBounds_toArray, List.set_cons_zero, List.set_cons_succ, i64_w, i32_w]
                      rfl
                     refine done_ (done_of HT_.out (by kernel_rfl)) ?_
                     try go_wp2_with (first | (go_at_call 15; (with_reducible refine (linotypelaw23_worth.calls kj19 _ _ t223 x17_19 true _ ?side1 ?side2 A44.out).mono ?_); (case side1 => repeat (first | exact (Kd.R_reads' HO_14.out).2.2 | (with_reducible refine Kd.C_alloc ?_ _) | (with_reducible refine Kd.C_drewN ?_ _) | (with_reducible refine Kd.C_drew ?_))); (case side2 => exact (Kd.R_reads' HO_14.out).2.1); rintro e w87 ⟨rfl, hb⟩; have n0_ := Aside0.mk (Kd.R_below (by (with_reducible repeat (first | apply Kd.R_alloc | apply Kd.R_drewN | apply Kd.R_drew)); exact HO_14.out) hb); have n1_ := Aside0.mk (Kd.R_below (by (with_reducible repeat (first | apply Kd.R_alloc | apply Kd.R_drewN | apply Kd.R_drew)); exact HO246.out) hb); have n2_ := Aside0.mk (Kd.R_below (by (with_reducible repeat (first | apply Kd.R_alloc | apply Kd.R_drewN | apply Kd.R_drew)); exact HO256.out) hb); have n3_ := Aside0.mk (Kd.R_below (by (with_reducible repeat (first | apply Kd.R_alloc | apply Kd.R_drewN | apply Kd.R_drew)); exact HO269.out) hb); have n4_ := Aside0.mk (Kd.R_below (by (with_reducible repeat (first | apply Kd.R_alloc | apply Kd.R_drewN | apply Kd.R_drew)); exact HO282.out) hb); have n5_ := Aside0.mk (Kd.R_below (by (with_reducible repeat (first | apply Kd.R_alloc | apply Kd.R_drewN | apply Kd.R_drew)); exact HO285.out) hb); have n6_ := Aside0.mk (blk_below (g := gb232) (o := .cells #[.int .i64 4, .int .i64 0, .string (⟨#[40]⟩ : ByteArray), .int .i64 0] 32 (0, 0)) (by (with_reducible repeat (first | refine blk_drewN ?_ _ | refine blk_drew ?_ | refine blk_alloc ?_ _)); exact BK232.out) hb); have n7_ := Aside0.mk (blk_below (g := gb233) (o := .cells #[.int .i64 4, .int .i64 0, .string (⟨#[41]⟩ : ByteArray), .int .i64 0] 32 (0, 0)) (by (with_reducible repeat (first | refine blk_drewN ?_ _ | refine blk_drew ?_ | refine blk_alloc ?_ _)); exact BK233.out) hb); have n8_ := Aside0.mk (below_step (by repeat (first | (with_reducible first | exact HB.out | apply below_alloc | apply pw_below_drewN | apply below_drew1 | refine below_set ?_ GE232.out | refine below_set ?_ GE233.out) | exact HB.out)) hb); clear HO_14; clear HO246; clear HO256; clear HO269; clear HO282; clear HO285; clear BK232; clear BK233; clear HB; have HO_14 := n0_; have HO246 := n1_; have HO256 := n2_; have HO269 := n3_; have HO282 := n4_; have HO285 := n5_; have BK232 := n6_; have BK233 := n7_; have HB := n8_; clear n0_ n1_ n2_ n3_ n4_ n5_ n6_ n7_ n8_; (try clear hb); (try clear hb2); (try clear hk); (try clear hi); obtain ⟨Ao88, co88, eo88⟩ := Kd.R_slice HO256.out; subst eo88) | (go_at_call 15; (with_reducible refine (linotypelaw23_worth.calls kj19 _ _ y254 t227 true _ ?side1 ?side2 A46.out).mono ?_); (case side1 => repeat (first | exact (Kd.R_reads' HO256.out).2.2 | (with_reducible refine Kd.C_alloc ?_ _) | (with_reducible refine Kd.C_drewN ?_ _) | (with_reducible refine Kd.C_drew ?_))); (case side2 => exact (Kd.R_reads' HO256.out).2.1); rintro e w89 ⟨rfl, hb⟩; have n0_ := Aside0.mk (Kd.R_below (by (with_reducible repeat (first | apply Kd.R_alloc | apply Kd.R_drewN | apply Kd.R_drew)); exact HO_14.out) hb); have n1_ := Aside0.mk (Kd.R_below (by (with_reducible repeat (first | apply Kd.R_alloc | apply Kd.R_drewN | apply Kd.R_drew)); exact HO246.out) hb); have n2_ := Aside0.mk (Kd.R_below (by (with_reducible repeat (first | apply Kd.R_alloc | apply Kd.R_drewN | apply Kd.R_drew)); exact HO256.out) hb); have n3_ := Aside0.mk (Kd.R_below (by (with_reducible repeat (first | apply Kd.R_alloc | apply Kd.R_drewN | apply Kd.R_drew)); exact HO269.out) hb); have n4_ := Aside0.mk (Kd.R_below (by (with_reducible repeat (first | apply Kd.R_alloc | apply Kd.R_drewN | apply Kd.R_drew)); exact HO282.out) hb); have n5_ := Aside0.mk (Kd.R_below (by (with_reducible repeat (first | apply Kd.R_alloc | apply Kd.R_drewN | apply Kd.R_drew)); exact HO285.out) hb); have n6_ := Aside0.mk (blk_below (g := gb232) (o := .cells #[.int .i64 4, .int .i64 0, .string (⟨#[40]⟩ : ByteArray), .int .i64 0] 32 (0, 0)) (by (with_reducible repeat (first | refine blk_drewN ?_ _ | refine blk_drew ?_ | refine blk_alloc ?_ _)); exact BK232.out) hb); have n7_ := Aside0.mk (blk_below (g := gb233) (o := .cells #[.int .i64 4, .int .i64 0, .string (⟨#[41]⟩ : ByteArray), .int .i64 0] 32 (0, 0)) (by (with_reducible repeat (first | refine blk_drewN ?_ _ | refine blk_drew ?_ | refine blk_alloc ?_ _)); exact BK233.out) hb); have n8_ := Aside0.mk (below_step (by repeat (first | (with_reducible first | exact HB.out | apply below_alloc | apply pw_below_drewN | apply below_drew1 | refine below_set ?_ GE232.out | refine below_set ?_ GE233.out) | exact HB.out)) hb); clear HO_14; clear HO246; clear HO256; clear HO269; clear HO282; clear HO285; clear BK232; clear BK233; clear HB; have HO_14 := n0_; have HO246 := n1_; have HO256 := n2_; have HO269 := n3_; have HO282 := n4_; have HO285 := n5_; have BK232 := n6_; have BK233 := n7_; have HB := n8_; clear n0_ n1_ n2_ n3_ n4_ n5_ n6_ n7_ n8_; (try clear hb); (try clear hb2); (try clear hk); (try clear hi); obtain ⟨Ao90, co90, eo90⟩ := Kd.R_slice HO285.out; subst eo90) | (go_at_call 15; (with_reducible refine (linotypelaw23_worth.calls kj19 _ _ y283 t229 t288 _ ?side1 ?side2 A48.out).mono ?_); (case side1 => repeat (first | exact (Kd.R_reads' HO285.out).2.2 | (with_reducible refine Kd.C_alloc ?_ _) | (with_reducible refine Kd.C_drewN ?_ _) | (with_reducible refine Kd.C_drew ?_))); (case side2 => exact (Kd.R_reads' HO285.out).2.1); rintro e w91 ⟨rfl, hb⟩; have n0_ := Aside0.mk (Kd.R_below (by (with_reducible repeat (first | apply Kd.R_alloc | apply Kd.R_drewN | apply Kd.R_drew)); exact HO_14.out) hb); have n1_ := Aside0.mk (Kd.R_below (by (with_reducible repeat (first | apply Kd.R_alloc | apply Kd.R_drewN | apply Kd.R_drew)); exact HO246.out) hb); have n2_ := Aside0.mk (Kd.R_below (by (with_reducible repeat (first | apply Kd.R_alloc | apply Kd.R_drewN | apply Kd.R_drew)); exact HO256.out) hb); have n3_ := Aside0.mk (Kd.R_below (by (with_reducible repeat (first | apply Kd.R_alloc | apply Kd.R_drewN | apply Kd.R_drew)); exact HO269.out) hb); have n4_ := Aside0.mk (Kd.R_below (by (with_reducible repeat (first | apply Kd.R_alloc | apply Kd.R_drewN | apply Kd.R_drew)); exact HO282.out) hb); have n5_ := Aside0.mk (Kd.R_below (by (with_reducible repeat (first | apply Kd.R_alloc | apply Kd.R_drewN | apply Kd.R_drew)); exact HO285.out) hb); have n6_ := Aside0.mk (blk_below (g := gb232) (o := .cells #[.int .i64 4, .int .i64 0, .string (⟨#[40]⟩ : ByteArray), .int .i64 0] 32 (0, 0)) (by (with_reducible repeat (first | refine blk_drewN ?_ _ | refine blk_drew ?_ | refine blk_alloc ?_ _)); exact BK232.out) hb); have n7_ := Aside0.mk (blk_below (g := gb233) (o := .cells #[.int .i64 4, .int .i64 0, .string (⟨#[41]⟩ : ByteArray), .int .i64 0] 32 (0, 0)) (by (with_reducible repeat (first | refine blk_drewN ?_ _ | refine blk_drew ?_ | refine blk_alloc ?_ _)); exact BK233.out) hb); have n8_ := Aside0.mk (below_step (by repeat (first | (with_reducible first | exact HB.out | apply below_alloc | apply pw_below_drewN | apply below_drew1 | refine below_set ?_ GE232.out | refine below_set ?_ GE233.out) | exact HB.out)) hb); clear HO_14; clear HO246; clear HO256; clear HO269; clear HO282; clear HO285; clear BK232; clear BK233; clear HB; have HO_14 := n0_; have HO246 := n1_; have HO256 := n2_; have HO269 := n3_; have HO282 := n4_; have HO285 := n5_; have BK232 := n6_; have BK233 := n7_; have HB := n8_; clear n0_ n1_ n2_ n3_ n4_ n5_ n6_ n7_ n8_; (try clear hb); (try clear hb2); (try clear hk); (try clear hi)))
                     go_ret
                     exact ⟨by first | rfl | (simp [errW_none, errW_some] <;> rfl) | (simp [*, errW_none, errW_some] <;> rfl), by repeat (first | (with_reducible first | exact HB.out | apply below_alloc | apply pw_below_drewN | apply below_drew1 | refine below_set ?_ GE232.out | refine below_set ?_ GE233.out) | exact HB.out)⟩
                    ·replace c47 := Bool.eq_false_iff.mpr c47
                     subst c47
                     have H1 : (none) = some r := by rw [if_neg (show ¬ (false = true) by decide)] at H; exact H
                     clear H
                     have H := H1
                     clear H1
                     exact absurd H (by simp)
                   ·replace c45 := Bool.eq_false_iff.mpr c45
                    subst c45
                    have H1 : (none) = some r := by rw [if_neg (show ¬ (false = true) by decide)] at H; exact H
                    clear H
                    have H := H1
                    clear H1
                    exact absurd H (by simp)
                  ·replace c43 := Bool.eq_false_iff.mpr c43
                   subst c43
                   have H1 : (none) = some r := by rw [if_neg (show ¬ (false = true) by decide)] at H; exact H
                   clear H
                   have H := H1
                   clear H1
                   exact absurd H (by simp)
                 ·rw [if_neg c42] at H
                  exact absurd H (by simp)
                ·rw [if_neg c41] at H
                 exact absurd H (by simp)
               ·rw [if_neg c39] at H
                exact absurd H (by simp)
              ·rw [if_neg c38] at H
               exact absurd H (by simp)
             ·rw [if_neg c37] at H
              exact absurd H (by simp)
            ·rw [if_neg c36] at H
             exact absurd H (by simp)
           ·rw [if_neg c34] at H
            exact absurd H (by simp)
          ·rw [if_neg c33] at H
           exact absurd H (by simp)
         ·rw [if_neg c32] at H
          exact absurd H (by simp)
      ·rw [if_neg c19] at H
       exact absurd H (by simp)
     ·rw [if_neg c18] at H
      exact absurd H (by simp)
    ·rw [if_neg c12] at H
     exact absurd H (by simp)
   ·rw [if_neg c11] at H
    exact absurd H (by simp)
  ·rw [if_neg c10] at H
   exact absurd H (by simp)
 ·rw [if_neg c9] at H
  exact absurd H (by simp)

/-- THE ONE PURE STATEMENT of linotypelaw23_ExprSums: yours. -/
def linotypelaw23_ExprSums.Pure : Prop := ∀ (a0 : Int) (a1 : Int) (a2 : Int) (a3 : Int) (a4 : Int), (Lit.int .i64 a0).wf = true → (Lit.int .i64 a1).wf = true → (Lit.int .i64 a2).wf = true → (Lit.int .i64 a3).wf = true → (Lit.int .i64 a4).wf = true → ∃ k, linotypelaw23_ExprSums.f k a0 a1 a2 a3 a4 = some true
theorem linotypelaw23_ExprSums.walk (P : linotypelaw23_ExprSums.Pure) (a0 : Int) (a1 : Int) (a2 : Int) (a3 : Int) (a4 : Int) (w : World) (w0 : (Lit.int .i64 a0).wf = true) (w1 : (Lit.int .i64 a1).wf = true) (w2 : (Lit.int .i64 a2).wf = true) (w3 : (Lit.int .i64 a3).wf = true) (w4 : (Lit.int .i64 a4).wf = true) :
  Calls Try.prog 5 #[.int .i64 a0, .int .i64 a1, .int .i64 a2, .int .i64 a3, .int .i64 a4] w fun e w' => e = .returned (.bool true) ∧ Below w.heap.size w w' := by
 obtain ⟨k, h⟩ := P a0 a1 a2 a3 a4 w0 w1 w2 w3 w4
 refine (linotypelaw23_ExprSums.calls k a0 a1 a2 a3 a4 true w h).mono ?_
 rintro e w' ⟨rfl, hd⟩
 exact ⟨rfl, hd⟩

end Go.Proofs.Ytjabjooephellaa.XS
