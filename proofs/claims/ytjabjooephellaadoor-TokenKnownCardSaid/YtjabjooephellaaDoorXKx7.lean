-- PRINTED by print.py (a twelfth state) out of the translation. Not trusted: Lean checks it.
import Derived.Test.YtjabjooephellaaDoorXKx0
import Derived.Test.YtjabjooephellaaDoorXKx6
namespace Go.Proofs.YtjabjooephellaaDoor.XK
open Go.RowKit Go.Proofs.YtjabjooephellaaDoorW.PrintWords Go.Proofs.YtjabjooephellaaDoorW.PrintLast Go.Proofs.YtjabjooephellaaDoorW.PrintMore
attribute [local go_sem] max2_int min2_int max_two min_two max_three min_three max_four min_four   -- for this text's walks alone
set_option linter.unusedVariables false
set_option linter.unusedSimpArgs false

/-! ### literal_shape: function 91 -/
def litTwo (a0 : ByteArray) (c : Int) : Bool := decide (2 < a0.size) && (bt a0 0 == 48 && (Go.bits .or .u8 (bt a0 1) 32 == c))
set_option maxHeartbeats 2000000 in
set_option maxRecDepth 100000 in
theorem literal_two_calls (a0 : ByteArray) (c : Int) (b : Bool) (g : Nat) (w : World) (hc : w.cell? ⟨g, 0, none⟩ = some (.string a0)) (h : litTwo a0 c = b) :
  Calls Tryd.prog 104 #[.int .u8 c, .pointer (some ⟨g, 0, none⟩)] w fun e w' => e = .returned (.bool b) ∧ Drawn0 w w' := by
 unfold litTwo at h
 have h0 : ∀ h : 0 < a0.size, ((a0[0]'h).toNat : Int) = bt a0 0 := bt_at a0 0
 have h1 : ∀ h : 1 < a0.size, ((a0[1]'h).toNat : Int) = bt a0 1 := bt_at a0 1
 by_cases c1 : 2 < a0.size
 ·have p1 : decide ((2 : Int) < (a0.size : Int)) = true := by simp; omega
  have p2 : (0 : Nat) < a0.size := by omega
  have p3 : (1 : Nat) < a0.size := by omega
  by_cases c2 : bt a0 0 = 48
  ·have p4 : (bt a0 0 == 48) = true := by simp [c2]
   have hb : (Go.bits .or .u8 (bt a0 1) 32 == c) = b := by simpa [c1, c2] using h
   have HB := Aside0.mk hb
   clear h hb c2 c1
   go_enter Tryd.func104, Tryd.ntmps104
   go_wp2
   go_ret
   exact ⟨by rw [← HB.out]; rfl, Drawn0.refl _⟩
  ·have p4 : (bt a0 0 == 48) = false := by simp [c2]
   have hb : b = false := by rw [← h]; simp [c2]
   subst hb
   clear h c2 c1
   go_enter Tryd.func104, Tryd.ntmps104
   go_wp2
   go_ret
   exact ⟨rfl, Drawn0.refl _⟩
 ·have p1 : decide ((2 : Int) < (a0.size : Int)) = false := by simp; omega
  have hb : b = false := by rw [← h]; simp [c1]
  subst hb
  clear h c1
  go_enter Tryd.func104, Tryd.ntmps104
  go_wp2
  go_ret
  exact ⟨rfl, Drawn0.refl _⟩
def shapeOf (a0 : ByteArray) : Int × Int × Int :=
 if litTwo a0 120 = true then (16, 2, (a0.size : Int))
 else if Go.bits .or .u8 (bt a0 ((a0.size : Int) - 1)) 32 = 104 then (16, 0, (a0.size : Int) - 1)
 else if litTwo a0 98 = true then (2, 2, (a0.size : Int))
 else if litTwo a0 111 = true then (8, 2, (a0.size : Int))
 else (10, 0, (a0.size : Int))
def literal_shape.f (a0 : ByteArray) : Option (Int × Int × Int) := if 0 < a0.size ∧ a0.size ≤ 9223372036854775807 then some (shapeOf a0) else none
theorem shape_last (a0 : ByteArray) (hs : 0 < a0.size) : ∀ h : a0.size - 1 < a0.size, ((a0[a0.size - 1]'h).toNat : Int) = bt a0 ((a0.size : Int) - 1) := by
 intro h
 have := bt_at a0 ((a0.size : Int) - 1)
 have e : ((a0.size : Int) - 1).toNat = a0.size - 1 := by omega
 simp only [e] at this
 exact this h
set_option maxHeartbeats 4000000 in
set_option maxRecDepth 100000 in
theorem literal_shape_x (a0 : ByteArray) (w : World) (hs0 : 0 < a0.size) (hs1 : a0.size ≤ 9223372036854775807) (K1 : litTwo a0 120 = true) :
  Calls Tryd.prog 91 #[.string a0] w fun e w' => e = .returned (.tuple #[.int .i64 16, .int .i64 2, .int .i64 (a0.size : Int)]) ∧ Below w.heap.size w w' := by
 have hl := shape_last a0 hs0
 have hq : a0.size - 1 < a0.size := by omega
 have HB := Aside0.mk ((Below.refl w.heap.size w).alloc (Nat.le_refl _) (.cells #[.string a0] 9))
 go_enter Tryd.func91, Tryd.ntmps91
 go_wp2_with (go_at_call 104; refine (literal_two_calls a0 _ _ _ _ ?_ rfl).mono ?_; (· go_simp); rintro e w2 ⟨rfl, ⟨nd, rfl⟩⟩)
 repeat (go_quiet (fail); try go_wp2)
 go_ret3
 exact ⟨rfl, by repeat (first | exact HB.out | apply pw_below_drewN)⟩
set_option maxHeartbeats 4000000 in
set_option maxRecDepth 100000 in
theorem literal_shape_h (a0 : ByteArray) (w : World) (hs0 : 0 < a0.size) (hs1 : a0.size ≤ 9223372036854775807) (K1 : litTwo a0 120 = false) (K2 : (Go.bits .or .u8 (bt a0 ((a0.size : Int) - 1)) 32 == 104) = true) :
  Calls Tryd.prog 91 #[.string a0] w fun e w' => e = .returned (.tuple #[.int .i64 16, .int .i64 0, .int .i64 ((a0.size : Int) - 1)]) ∧ Below w.heap.size w w' := by
 have hl := shape_last a0 hs0
 have hq : a0.size - 1 < a0.size := by omega
 have HB := Aside0.mk ((Below.refl w.heap.size w).alloc (Nat.le_refl _) (.cells #[.string a0] 9))
 go_enter Tryd.func91, Tryd.ntmps91
 go_wp2_with (go_at_call 104; refine (literal_two_calls a0 _ _ _ _ ?_ rfl).mono ?_; (· go_simp); rintro e w2 ⟨rfl, ⟨nd, rfl⟩⟩)
 repeat (go_quiet (fail); try go_wp2)
 go_ret3
 exact ⟨rfl, by repeat (first | exact HB.out | apply pw_below_drewN)⟩
set_option maxHeartbeats 4000000 in
set_option maxRecDepth 100000 in
theorem literal_shape_b (a0 : ByteArray) (w : World) (hs0 : 0 < a0.size) (hs1 : a0.size ≤ 9223372036854775807) (K1 : litTwo a0 120 = false) (K2 : (Go.bits .or .u8 (bt a0 ((a0.size : Int) - 1)) 32 == 104) = false) (K3 : litTwo a0 98 = true) :
  Calls Tryd.prog 91 #[.string a0] w fun e w' => e = .returned (.tuple #[.int .i64 2, .int .i64 2, .int .i64 (a0.size : Int)]) ∧ Below w.heap.size w w' := by
 have hl := shape_last a0 hs0
 have hq : a0.size - 1 < a0.size := by omega
 have HB := Aside0.mk ((Below.refl w.heap.size w).alloc (Nat.le_refl _) (.cells #[.string a0] 9))
 go_enter Tryd.func91, Tryd.ntmps91
 go_wp2_with (go_at_call 104; refine (literal_two_calls a0 _ _ _ _ ?_ rfl).mono ?_; (· go_simp); rintro e w2 ⟨rfl, ⟨nd, rfl⟩⟩)
 repeat (go_quiet (fail); try go_wp2)
 go_ret3
 exact ⟨rfl, by repeat (first | exact HB.out | apply pw_below_drewN)⟩
set_option maxHeartbeats 4000000 in
set_option maxRecDepth 100000 in
theorem literal_shape_o (a0 : ByteArray) (w : World) (hs0 : 0 < a0.size) (hs1 : a0.size ≤ 9223372036854775807) (K1 : litTwo a0 120 = false) (K2 : (Go.bits .or .u8 (bt a0 ((a0.size : Int) - 1)) 32 == 104) = false) (K3 : litTwo a0 98 = false) (K4 : litTwo a0 111 = true) :
  Calls Tryd.prog 91 #[.string a0] w fun e w' => e = .returned (.tuple #[.int .i64 8, .int .i64 2, .int .i64 (a0.size : Int)]) ∧ Below w.heap.size w w' := by
 have hl := shape_last a0 hs0
 have hq : a0.size - 1 < a0.size := by omega
 have HB := Aside0.mk ((Below.refl w.heap.size w).alloc (Nat.le_refl _) (.cells #[.string a0] 9))
 go_enter Tryd.func91, Tryd.ntmps91
 go_wp2_with (go_at_call 104; refine (literal_two_calls a0 _ _ _ _ ?_ rfl).mono ?_; (· go_simp); rintro e w2 ⟨rfl, ⟨nd, rfl⟩⟩)
 repeat (go_quiet (fail); try go_wp2)
 go_ret3
 exact ⟨rfl, by repeat (first | exact HB.out | apply pw_below_drewN)⟩
set_option maxHeartbeats 4000000 in
set_option maxRecDepth 100000 in
theorem literal_shape_n (a0 : ByteArray) (w : World) (hs0 : 0 < a0.size) (hs1 : a0.size ≤ 9223372036854775807) (K1 : litTwo a0 120 = false) (K2 : (Go.bits .or .u8 (bt a0 ((a0.size : Int) - 1)) 32 == 104) = false) (K3 : litTwo a0 98 = false) (K4 : litTwo a0 111 = false) :
  Calls Tryd.prog 91 #[.string a0] w fun e w' => e = .returned (.tuple #[.int .i64 10, .int .i64 0, .int .i64 (a0.size : Int)]) ∧ Below w.heap.size w w' := by
 have hl := shape_last a0 hs0
 have hq : a0.size - 1 < a0.size := by omega
 have HB := Aside0.mk ((Below.refl w.heap.size w).alloc (Nat.le_refl _) (.cells #[.string a0] 9))
 go_enter Tryd.func91, Tryd.ntmps91
 go_wp2_with (go_at_call 104; refine (literal_two_calls a0 _ _ _ _ ?_ rfl).mono ?_; (· go_simp); rintro e w2 ⟨rfl, ⟨nd, rfl⟩⟩)
 repeat (go_quiet (fail); try go_wp2)
 go_ret3
 exact ⟨rfl, by repeat (first | exact HB.out | apply pw_below_drewN)⟩
theorem literal_shape.calls (a0 : ByteArray) (r1 r2 r3 : Int) (w : World) (h : literal_shape.f a0 = some (r1, r2, r3)) :
  Calls Tryd.prog 91 #[.string a0] w fun e w' => e = .returned (.tuple #[.int .i64 r1, .int .i64 r2, .int .i64 r3]) ∧ Below w.heap.size w w' := by
 unfold literal_shape.f at h
 by_cases hs : 0 < a0.size ∧ a0.size ≤ 9223372036854775807
 ·rw [if_pos hs] at h
  obtain ⟨hs0, hs1⟩ := hs
  replace h := Option.some.inj h
  unfold shapeOf at h
  cases h1 : litTwo a0 120 with
  | true =>
   rw [if_pos h1] at h
   injection h with e1 h; injection h with e2 e3
   subst e1; subst e2; subst e3
   exact literal_shape_x a0 w hs0 hs1 h1
  | false =>
   rw [if_neg (by rw [h1]; decide)] at h
   by_cases h2 : Go.bits .or .u8 (bt a0 ((a0.size : Int) - 1)) 32 = 104
   ·rw [if_pos h2] at h
    injection h with e1 h; injection h with e2 e3
    subst e1; subst e2; subst e3
    exact literal_shape_h a0 w hs0 hs1 h1 (beq_iff_eq.2 h2)
   ·rw [if_neg h2] at h
    cases h3 : litTwo a0 98 with
    | true =>
     rw [if_pos h3] at h
     injection h with e1 h; injection h with e2 e3
     subst e1; subst e2; subst e3
     exact literal_shape_b a0 w hs0 hs1 h1 (beq_eq_false_iff_ne.2 h2) h3
    | false =>
     rw [if_neg (by rw [h3]; decide)] at h
     cases h4 : litTwo a0 111 with
     | true =>
      rw [if_pos h4] at h
      injection h with e1 h; injection h with e2 e3
      subst e1; subst e2; subst e3
      exact literal_shape_o a0 w hs0 hs1 h1 (beq_eq_false_iff_ne.2 h2) h3 h4
     | false =>
      rw [if_neg (by rw [h4]; decide)] at h
      injection h with e1 h; injection h with e2 e3
      subst e1; subst e2; subst e3
      exact literal_shape_n a0 w hs0 hs1 h1 (beq_eq_false_iff_ne.2 h2) h3 h4
 ·rw [if_neg hs] at h
  cases h

/-! ### literal_value: function 92 -/
def literal_value.f (a0 : Int) : Option (Int) := (literal_digit.f a0).bind fun t125 => (if t125 = true then (some ((a0 - 48) % 256)) else (if (Go.bits .or .u8 a0 32) ≥ 97 then (if (Go.bits .or .u8 a0 32) ≤ 102 then (some ((((Go.bits .or .u8 a0 32) - 97) % 256) + 10)) else (some 99)) else (some 99)))
set_option maxHeartbeats 8000000 in
set_option maxRecDepth 100000 in
theorem literal_value.calls (a0 : Int) (r : Int) (w : World) (h : literal_value.f a0 = some r) :
  Calls Tryd.prog 92 #[.int .u8 a0] w fun e w' => e = .returned (.int .i64 r) ∧ Drawn0 w w' := by
 have H : ((literal_digit.f a0).bind fun t125 => (if t125 = true then (some ((a0 - 48) % 256)) else (if (Go.bits .or .u8 a0 32) ≥ 97 then (if (Go.bits .or .u8 a0 32) ≤ 102 then (some ((((Go.bits .or .u8 a0 32) - 97) % 256) + 10)) else (some 99)) else (some 99)))) = some r := h
 clear h
 replace H := Option.bind_eq_some_iff.mp H
 obtain ⟨t125, A20, H⟩ := H
 replace H : (if t125 = true then (some ((a0 - 48) % 256)) else (if (Go.bits .or .u8 a0 32) ≥ 97 then (if (Go.bits .or .u8 a0 32) ≤ 102 then (some ((((Go.bits .or .u8 a0 32) - 97) % 256) + 10)) else (some 99)) else (some 99))) = some r := H
 have A2 := Aside0.mk A20
 clear A20
 by_cases c3 : t125 = true
 ·subst c3
  have H1 : (some ((a0 - 48) % 256)) = some r := by rw [if_pos rfl] at H; exact H
  clear H
  have H := H1
  clear H1
  obtain rfl := Option.some.inj H
  go_enter Tryd.func92, Tryd.ntmps92
  go_wp2_with (first | ((with_reducible refine gate_callee (f := 75) rfl ?_); refine goesL_ (some 5) rfl rfl Tryd.func75 (by kernel_rfl) rfl #[.int .u8 a0] rfl (by (try simp only [List.map_toArray, List.map_cons, List.map_nil]); first | done | rfl | (simp only [List.length_drop, List.length_take]; rfl)) ?_; (with_reducible refine (literal_digit.calls a0 true _ A2.out).mono ?_); rintro e w' ⟨rfl, ⟨nd, rfl⟩⟩; refine ⟨_, rfl, ?_⟩))
  go_ret
  exact ⟨by first | rfl | (simp; done) | (simp [*]; done), by repeat (first | exact Drawn0.refl _ | apply Drawn0.step)⟩
 ·replace c3 := Bool.eq_false_iff.mpr c3
  subst c3
  have H1 : (if (Go.bits .or .u8 a0 32) ≥ 97 then (if (Go.bits .or .u8 a0 32) ≤ 102 then (some ((((Go.bits .or .u8 a0 32) - 97) % 256) + 10)) else (some 99)) else (some 99)) = some r := by rw [if_neg (show ¬ (false = true) by decide)] at H; exact H
  clear H
  have H := H1
  clear H1
  by_cases c4 : (Go.bits .or .u8 a0 32) ≥ 97
  ·rw [if_pos c4] at H
   have c4b0 : decide (97 ≤ (Go.bits .or .u8 a0 32)) = true := decide_eq_true c4
   clear c4
   by_cases c5 : (Go.bits .or .u8 a0 32) ≤ 102
   ·rw [if_pos c5] at H
    have c5b0 : decide ((Go.bits .or .u8 a0 32) ≤ 102) = true := decide_eq_true c5
    clear c5
    obtain rfl := Option.some.inj H
    go_enter Tryd.func92, Tryd.ntmps92
    go_wp2_with (first | ((with_reducible refine gate_callee (f := 75) rfl ?_); refine goesL_ (some 5) rfl rfl Tryd.func75 (by kernel_rfl) rfl #[.int .u8 a0] rfl (by (try simp only [List.map_toArray, List.map_cons, List.map_nil]); first | done | rfl | (simp only [List.length_drop, List.length_take]; rfl)) ?_; (with_reducible refine (literal_digit.calls a0 false _ A2.out).mono ?_); rintro e w' ⟨rfl, ⟨nd, rfl⟩⟩; refine ⟨_, rfl, ?_⟩))
    go_ret
    exact ⟨by first | rfl | (simp; done) | (simp [*]; done), by repeat (first | exact Drawn0.refl _ | apply Drawn0.step)⟩
   ·rw [if_neg c5] at H
    have c5b0 : decide ((Go.bits .or .u8 a0 32) ≤ 102) = false := decide_eq_false c5
    clear c5
    obtain rfl := Option.some.inj H
    go_enter Tryd.func92, Tryd.ntmps92
    go_wp2_with (first | ((with_reducible refine gate_callee (f := 75) rfl ?_); refine goesL_ (some 5) rfl rfl Tryd.func75 (by kernel_rfl) rfl #[.int .u8 a0] rfl (by (try simp only [List.map_toArray, List.map_cons, List.map_nil]); first | done | rfl | (simp only [List.length_drop, List.length_take]; rfl)) ?_; (with_reducible refine (literal_digit.calls a0 false _ A2.out).mono ?_); rintro e w' ⟨rfl, ⟨nd, rfl⟩⟩; refine ⟨_, rfl, ?_⟩))
    go_ret
    exact ⟨by first | rfl | (simp; done) | (simp [*]; done), by repeat (first | exact Drawn0.refl _ | apply Drawn0.step)⟩
  ·rw [if_neg c4] at H
   have c4b0 : decide (97 ≤ (Go.bits .or .u8 a0 32)) = false := decide_eq_false c4
   clear c4
   obtain rfl := Option.some.inj H
   go_enter Tryd.func92, Tryd.ntmps92
   go_wp2_with (first | ((with_reducible refine gate_callee (f := 75) rfl ?_); refine goesL_ (some 5) rfl rfl Tryd.func75 (by kernel_rfl) rfl #[.int .u8 a0] rfl (by (try simp only [List.map_toArray, List.map_cons, List.map_nil]); first | done | rfl | (simp only [List.length_drop, List.length_take]; rfl)) ?_; (with_reducible refine (literal_digit.calls a0 false _ A2.out).mono ?_); rintro e w' ⟨rfl, ⟨nd, rfl⟩⟩; refine ⟨_, rfl, ?_⟩))
   go_ret
   exact ⟨by first | rfl | (simp; done) | (simp [*]; done), by repeat (first | exact Drawn0.refl _ | apply Drawn0.step)⟩

/-! ### bits_Mul64: function 93 -/
def bits_Mul64.f (a0 : Int) (a1 : Int) : Option (Int × Int) := some (IntKind.u64.wrap ((IntKind.u64.wrap ((IntKind.u64.wrap ((a0 / 4294967296) * (a1 / 4294967296))) + ((IntKind.u64.wrap ((IntKind.u64.wrap ((a0 / 4294967296) * (Go.bits .and .u64 a1 4294967295))) + ((IntKind.u64.wrap ((Go.bits .and .u64 a0 4294967295) * (Go.bits .and .u64 a1 4294967295))) / 4294967296))) / 4294967296))) + ((IntKind.u64.wrap ((Go.bits .and .u64 (IntKind.u64.wrap ((IntKind.u64.wrap ((a0 / 4294967296) * (Go.bits .and .u64 a1 4294967295))) + ((IntKind.u64.wrap ((Go.bits .and .u64 a0 4294967295) * (Go.bits .and .u64 a1 4294967295))) / 4294967296))) 4294967295) + (IntKind.u64.wrap ((Go.bits .and .u64 a0 4294967295) * (a1 / 4294967296))))) / 4294967296)), IntKind.u64.wrap (a0 * a1))
set_option maxHeartbeats 8000000 in
set_option maxRecDepth 100000 in
theorem bits_Mul64.calls (a0 : Int) (a1 : Int) (r1 : Int) (r2 : Int) (w : World) (h : bits_Mul64.f a0 a1 = some (r1, r2)) :
  Calls Tryd.prog 93 #[.int .u64 a0, .int .u64 a1] w fun e w' => e = .returned (.tuple #[.int .u64 r1, .int .u64 r2]) ∧ Drawn0 w w' := by
 have H : (some (IntKind.u64.wrap ((IntKind.u64.wrap ((IntKind.u64.wrap ((a0 / 4294967296) * (a1 / 4294967296))) + ((IntKind.u64.wrap ((IntKind.u64.wrap ((a0 / 4294967296) * (Go.bits .and .u64 a1 4294967295))) + ((IntKind.u64.wrap ((Go.bits .and .u64 a0 4294967295) * (Go.bits .and .u64 a1 4294967295))) / 4294967296))) / 4294967296))) + ((IntKind.u64.wrap ((Go.bits .and .u64 (IntKind.u64.wrap ((IntKind.u64.wrap ((a0 / 4294967296) * (Go.bits .and .u64 a1 4294967295))) + ((IntKind.u64.wrap ((Go.bits .and .u64 a0 4294967295) * (Go.bits .and .u64 a1 4294967295))) / 4294967296))) 4294967295) + (IntKind.u64.wrap ((Go.bits .and .u64 a0 4294967295) * (a1 / 4294967296))))) / 4294967296)), IntKind.u64.wrap (a0 * a1))) = some (r1, r2) := h
 clear h
 simp only [Option.some.injEq, Prod.mk.injEq] at H
 obtain ⟨rfl, rfl⟩ := H
 go_enter Tryd.func93, Tryd.ntmps93
 go_wp2
 go_ret2
 exact ⟨by first | rfl | (simp; done) | (simp [*]; done), by repeat (first | exact Drawn0.refl _ | apply Drawn0.step)⟩

-- NOT PRINTED: function 94 (bits_Add64)

/-! ### literal_word: function 77 -/
theorem wp_scope_label {P : Program} {a : Act} {w : World} {Q : Exit → Act → World → Prop} {c R : Code} (l : Nat) (J : Act → World → Prop) (μ : Act → World → Nat) (hf : findLabel c l = some (.seq .skip R))
  (pass : ∀ a w, J a w → R.wp P (Exit.jump l (fun a' w' => J a' w' ∧ μ a' w' < μ a w) Q) a w)
  (first : Aside0 (∀ a w, J a w → R.wp P (Exit.jump l J Q) a w) → c.wp P (Exit.jump l J Q) a w) : (Code.scope c).wp P Q a w := by
 refine wp_scope_jumps l J μ hf (first ⟨fun a w hJ => Code.wp_mono (fun e a' w' h => ?_) (pass a w hJ)⟩) (fun a w hJ => wp_seq (wp_skip (Code.wp_mono (fun e a' w' h => ?_) (pass a w hJ))))
 ·cases e <;> first | exact h | exact ⟨h.1, h.2.1⟩
 ·cases e <;> exact h

def litValue (c : Int) : Int :=
 if 48 ≤ c ∧ c ≤ 57 then c - 48
 else if 97 ≤ Go.bits .or .u8 c 32 ∧ Go.bits .or .u8 c 32 ≤ 102 then Go.bits .or .u8 c 32 - 97 + 10 else 99
theorem litValue_f (c : Int) (h0 : 0 ≤ c) (h1 : c ≤ 255) : literal_value.f c = some (litValue c) := by
 have e1 : 48 ≤ c → c ≤ 57 → (c - 48) % 256 = c - 48 := fun h h' => Int.emod_eq_of_lt (by omega) (by omega)
 have e2 : 97 ≤ Go.bits .or .u8 c 32 → Go.bits .or .u8 c 32 ≤ 102 → (Go.bits .or .u8 c 32 - 97) % 256 = Go.bits .or .u8 c 32 - 97 := fun h h' => Int.emod_eq_of_lt (by omega) (by omega)
 unfold literal_value.f literal_digit.f litValue
 by_cases d0 : 48 ≤ c <;> by_cases d1 : c ≤ 57 <;> by_cases d2 : 97 ≤ Go.bits .or .u8 c 32 <;> by_cases d3 : Go.bits .or .u8 c 32 ≤ 102 <;> simp [d0, d1, d2, d3]
 all_goals first | exact e1 d0 d1 | (have := e2 d2 d3; omega)
theorem litValue_bd (c : Int) : 0 ≤ litValue c ∧ litValue c ≤ 99 := by
 unfold litValue
 split
 ·omega
 ·split <;> omega
theorem mul64_f (x y : Int) (hx0 : 0 ≤ x) (hx : x < 18446744073709551616) (hy0 : 0 ≤ y) (hy : y < 18446744073709551616) :
  bits_Mul64.f x y = some (x * y / 18446744073709551616, x * y % 18446744073709551616) := by
 have h := mul64_arith x y hx0 hx hy0 hy
 unfold bits_Mul64.f
 have w : ∀ z : Int, IntKind.u64.wrap z = z % 18446744073709551616 := fun z => rfl
 rw [and_low32 x hx0 hx, and_low32 y hy0 hy]
 simp only [w]
 rw [and_low32 _ (by omega) (by omega)]
 rw [h]

def wordL (s : ByteArray) (a1 base low : Int) : Nat → Int → Bool → Int → Int × Int × Int
 | 0, _, over, n => if over = true then (0, 5, a1) else (wrap64 n, 0, 0)
 | d + 1, i, over, n =>
  if bt s i = 95 then
   if i = low ∨ d = 0 ∨ bt s (i - 1) = 95 then (0, 4, a1 + i) else wordL s a1 base low d (i + 1) over n
  else if base ≤ litValue (bt s i) then (0, 4, a1 + i)
  else wordL s a1 base low d (i + 1) (over || (decide (0 < n * base / 18446744073709551616) || decide (0 < (n * base % 18446744073709551616 + litValue (bt s i)) / 18446744073709551616))) ((n * base % 18446744073709551616 + litValue (bt s i)) % 18446744073709551616)
def wordOf (s : ByteArray) (a1 : Int) : Int × Int × Int :=
 if (shapeOf s).2.1 = (shapeOf s).2.2 then (0, 4, a1 + (shapeOf s).2.2)
 else wordL s a1 (shapeOf s).1 (shapeOf s).2.1 ((shapeOf s).2.2 - (shapeOf s).2.1).toNat (shapeOf s).2.1 false 0
def literal_word.f (a0 : ByteArray) (a1 : Int) : Option (Int × Int × Int) :=
 if 0 < a0.size ∧ a0.size ≤ 1073741824 ∧ 0 ≤ a1 ∧ a1 ≤ 1073741824 then some (wordOf a0 a1) else none
theorem shapeOf_bd (s : ByteArray) (hs : 0 < s.size) : 2 ≤ (shapeOf s).1 ∧ (shapeOf s).1 ≤ 16 ∧ 0 ≤ (shapeOf s).2.1 ∧ (shapeOf s).2.1 ≤ (shapeOf s).2.2 ∧ (shapeOf s).2.2 ≤ s.size := by
 have two : ∀ c, litTwo s c = true → 2 < s.size := by
  intro c h
  simp only [litTwo, Bool.and_eq_true, decide_eq_true_eq] at h
  exact h.1
 unfold shapeOf
 split
 ·rename_i h; have := two _ h; simp only; omega
 ·split
  ·simp only; omega
  ·split
   ·rename_i h; have := two _ h; simp only; omega
   ·split
    ·rename_i h; have := two _ h; simp only; omega
    ·simp only; omega

theorem add64_any (x y : Int) (hx : 0 ≤ x) (hy : 0 ≤ y) : ∀ W : World, (callFunc 94 #[.int .u64 x, .int .u64 y, .int .u64 0]).run Tryd.prog W = .ok (.value (.tuple #[.int .u64 ((x + y) % 18446744073709551616), .int .u64 ((x + y) / 18446744073709551616)])) W := by
 intro W
 rw [run_callFunc_extern Tryd.func94 (by kernel_rfl) (by kernel_rfl) (by kernel_rfl) (e := add64Entry) (by kernel_rfl), run_add64 x y 0 hx hy (by decide) (by decide)]
 simp only [Result.andThen, Int.add_zero]
def WordJ (w : World) (g : Nat) (a0 : ByteArray) (a1 base high low : Int) (r : Int × Int × Int) (a' : Act) (w' : World) : Prop :=
 ∃ (i n : Int) (over : Bool) (u : Nat → Value), a' = ⟨#[.string a0, .int .i64 a1, undef, undef, .int .i64 0, .pointer (some ⟨g, 0, none⟩), .int .i64 base, .int .i64 i, .int .i64 high, .int .i64 low, .bool over, .int .u64 n, u 12, u 13, u 14, u 15, u 16, u 17, u 18, u 19, u 20, u 21, u 22, u 23, u 24, u 25, u 26, u 27, u 28, u 29, u 30, u 31, u 32, u 33, u 34, u 35, u 36, u 37, u 38, u 39, u 40, u 41, u 42, u 43, u 44, u 45, u 46, u 47, u 48, u 49, u 50, u 51, u 52, u 53, u 54, u 55, u 56, u 57, u 58, u 59, u 60, u 61, u 62, u 63, u 64, u 65, u 66, u 67, u 68, u 69, u 70, u 71, u 72, u 73, u 74, u 75, u 76, u 77, u 78, u 79, u 80, u 81, u 82, u 83, u 84, u 85, u 86, u 87, u 88, u 89, u 90, u 91, u 92, u 93, u 94, u 95, u 96, u 97, u 98, u 99, u 100, u 101, u 102], []⟩ ∧
  w'.heap[g]? = some (.cells #[.int .i64 0, .int .i64 0] 32) ∧ Below w.heap.size w w' ∧ low ≤ i ∧ i ≤ high ∧ 0 ≤ n ∧ n < 18446744073709551616 ∧ wordL a0 a1 base low (high - i).toNat i over n = r
def wordMu (a' : Act) (_ : World) : Nat := (match a'.tmps.getD 8 undef, a'.tmps.getD 7 undef with | .int _ h, .int _ i => (h - i).toNat | _, _ => 0)
theorem WordJ.mk' {w : World} {g : Nat} {a0 : ByteArray} {a1 base high low : Int} {r : Int × Int × Int} {a' : Act} {w' : World} (i n : Int) (over : Bool)
  (ha : a' = ⟨#[.string a0, .int .i64 a1, undef, undef, .int .i64 0, .pointer (some ⟨g, 0, none⟩), .int .i64 base, .int .i64 i, .int .i64 high, .int .i64 low, .bool over, .int .u64 n, a'.tmps.getD 12 undef, a'.tmps.getD 13 undef, a'.tmps.getD 14 undef, a'.tmps.getD 15 undef, a'.tmps.getD 16 undef, a'.tmps.getD 17 undef, a'.tmps.getD 18 undef, a'.tmps.getD 19 undef, a'.tmps.getD 20 undef, a'.tmps.getD 21 undef, a'.tmps.getD 22 undef, a'.tmps.getD 23 undef, a'.tmps.getD 24 undef, a'.tmps.getD 25 undef, a'.tmps.getD 26 undef, a'.tmps.getD 27 undef, a'.tmps.getD 28 undef, a'.tmps.getD 29 undef, a'.tmps.getD 30 undef, a'.tmps.getD 31 undef, a'.tmps.getD 32 undef, a'.tmps.getD 33 undef, a'.tmps.getD 34 undef, a'.tmps.getD 35 undef, a'.tmps.getD 36 undef, a'.tmps.getD 37 undef, a'.tmps.getD 38 undef, a'.tmps.getD 39 undef, a'.tmps.getD 40 undef, a'.tmps.getD 41 undef, a'.tmps.getD 42 undef, a'.tmps.getD 43 undef, a'.tmps.getD 44 undef, a'.tmps.getD 45 undef, a'.tmps.getD 46 undef, a'.tmps.getD 47 undef, a'.tmps.getD 48 undef, a'.tmps.getD 49 undef, a'.tmps.getD 50 undef, a'.tmps.getD 51 undef, a'.tmps.getD 52 undef, a'.tmps.getD 53 undef, a'.tmps.getD 54 undef, a'.tmps.getD 55 undef, a'.tmps.getD 56 undef, a'.tmps.getD 57 undef, a'.tmps.getD 58 undef, a'.tmps.getD 59 undef, a'.tmps.getD 60 undef, a'.tmps.getD 61 undef, a'.tmps.getD 62 undef, a'.tmps.getD 63 undef, a'.tmps.getD 64 undef, a'.tmps.getD 65 undef, a'.tmps.getD 66 undef, a'.tmps.getD 67 undef, a'.tmps.getD 68 undef, a'.tmps.getD 69 undef, a'.tmps.getD 70 undef, a'.tmps.getD 71 undef, a'.tmps.getD 72 undef, a'.tmps.getD 73 undef, a'.tmps.getD 74 undef, a'.tmps.getD 75 undef, a'.tmps.getD 76 undef, a'.tmps.getD 77 undef, a'.tmps.getD 78 undef, a'.tmps.getD 79 undef, a'.tmps.getD 80 undef, a'.tmps.getD 81 undef, a'.tmps.getD 82 undef, a'.tmps.getD 83 undef, a'.tmps.getD 84 undef, a'.tmps.getD 85 undef, a'.tmps.getD 86 undef, a'.tmps.getD 87 undef, a'.tmps.getD 88 undef, a'.tmps.getD 89 undef, a'.tmps.getD 90 undef, a'.tmps.getD 91 undef, a'.tmps.getD 92 undef, a'.tmps.getD 93 undef, a'.tmps.getD 94 undef, a'.tmps.getD 95 undef, a'.tmps.getD 96 undef, a'.tmps.getD 97 undef, a'.tmps.getD 98 undef, a'.tmps.getD 99 undef, a'.tmps.getD 100 undef, a'.tmps.getD 101 undef, a'.tmps.getD 102 undef], []⟩)
  (bk : w'.heap[g]? = some (.cells #[.int .i64 0, .int .i64 0] 32)) (hb : Below w.heap.size w w') (h1 : low ≤ i) (h2 : i ≤ high) (h3 : 0 ≤ n) (h4 : n < 18446744073709551616) (h5 : wordL a0 a1 base low (high - i).toNat i over n = r) :
  WordJ w g a0 a1 base high low r a' w' := ⟨i, n, over, fun k => a'.tmps.getD k undef, ha, bk, hb, h1, h2, h3, h4, h5⟩
set_option maxHeartbeats 8000000 in
set_option maxRecDepth 1000000 in
theorem literal_word.calls (a0 : ByteArray) (a1 r1 r2 r3 : Int) (w : World) (h : literal_word.f a0 a1 = some (r1, r2, r3)) :
  Calls Tryd.prog 77 #[.string a0, .int .i64 a1] w fun e w' => e = .returned (.tuple #[.int .i64 r1, .agg #[.int .i64 r2, .int .i64 r3]]) ∧ Below w.heap.size w w' := by
 have hu27 := Tryd.underlying32
 unfold literal_word.f at h
 by_cases hs : 0 < a0.size ∧ a0.size ≤ 1073741824 ∧ 0 ≤ a1 ∧ a1 ≤ 1073741824
 ·rw [if_pos hs] at h
  obtain ⟨hs0, hs1, ha0, ha1⟩ := hs
  replace h := Option.some.inj h
  have hbd := shapeOf_bd a0 hs0
  have hsh : literal_shape.f a0 = some ((shapeOf a0).1, (shapeOf a0).2.1, (shapeOf a0).2.2) := by unfold literal_shape.f; rw [if_pos ⟨hs0, by omega⟩]
  unfold wordOf at h
  generalize (shapeOf a0).1 = base at *
  generalize (shapeOf a0).2.1 = low at *
  generalize (shapeOf a0).2.2 = high at *
  obtain ⟨b1, b2, b3, b4, b5⟩ := hbd
  have HSH := Aside0.mk hsh
  have H := Aside0.mk h
  clear h hsh
  go_enter Tryd.func77, Tryd.ntmps77
  go_wp2
  refine wp_scope_label 0 (WordJ w w.heap.size a0 a1 base high low (r1, r2, r3)) wordMu rfl ?pass ?first
  case first =>
   intro HR
   have ARM : ∀ e w1, e = Ending.returned (.tuple #[.int .i64 base, .int .i64 low, .int .i64 high]) ∧ Below (w.alloc (.cells #[.int .i64 0, .int .i64 0] 32)).heap.size (w.alloc (.cells #[.int .i64 0, .int .i64 0] 32)) w1 → w1.heap[w.heap.size]? = some (.cells #[.int .i64 0, .int .i64 0] 32) ∧ Below w.heap.size w w1 := by
    rintro e w1 ⟨_, hb1⟩
    refine ⟨blk_below (blk_new w _) hb1, ?_⟩
    exact below_then ((Below.refl _ _).alloc (Nat.le_refl _) _) (by simp) hb1
   have ARM' := Aside0.mk ARM
   clear ARM
   by_cases hlh : low = high
   ·have t1 : (low == high) = true := beq_iff_eq.2 hlh
    have hr := H.out
    rw [if_pos hlh] at hr
    injection hr with e1 hr
    injection hr with e2 e3
    subst e1; subst e2; subst e3
    clear hlh
    go_wp2_with (go_at_call 91; refine (literal_shape.calls a0 base low high _ HSH.out).mono ?_; rintro e w1 hew; have BK := Aside0.mk (ARM'.out e w1 hew).1; have HB := Aside0.mk (ARM'.out e w1 hew).2; obtain ⟨rfl, _⟩ := hew; have hc0 : w1.cell? ⟨w.heap.size, 0, none⟩ = some (.int .i64 0) := (blk_cell BK.out 0).trans rfl; have hc1 : w1.cell? ⟨w.heap.size, 1, none⟩ = some (.int .i64 0) := (blk_cell BK.out 1).trans rfl; have hf0 := blk_frozen BK.out 0; have hf1 := blk_frozen BK.out 1)
    (try simp only [Exit.jump])
    refine bodyPost_ret (results_tc rfl _ _ w.heap.size 32 #[.int .i64 4, .int .i64 (a1 + high)] (0, 0) _ rfl (by (with_reducible repeat (first | refine blk_drewN ?_ _ | refine blk_drew ?_ | refine blk_alloc ?_ _)); refine blk_put (cs := #[.int .i64 4, .int .i64 0]) ?_ 1 _ rfl; (with_reducible repeat (first | refine blk_drewN ?_ _ | refine blk_drew ?_ | refine blk_alloc ?_ _)); refine blk_put (cs := #[.int .i64 0, .int .i64 0]) ?_ 0 _ rfl; (with_reducible repeat (first | refine blk_drewN ?_ _ | refine blk_drew ?_ | refine blk_alloc ?_ _)); exact BK.out) hu27 rfl (by kernel_rfl)) rfl ?_
    exact ⟨by first | rfl | (simp; done), by repeat (first | (with_reducible first | exact HB.out | apply below_alloc | apply pw_below_drewN | apply below_drew1 | refine below_set ?_ (Nat.le_refl _)) | exact HB.out)⟩
   ·have t1 : (low == high) = false := beq_eq_false_iff_ne.2 hlh
    have hr := H.out
    rw [if_neg hlh] at hr
    have HR2 := Aside0.mk hr
    clear hlh hr
    go_wp2_with (go_at_call 91; refine (literal_shape.calls a0 base low high _ HSH.out).mono ?_; rintro e w1 hew; have BK := Aside0.mk (ARM'.out e w1 hew).1; have HB := Aside0.mk (ARM'.out e w1 hew).2; obtain ⟨rfl, _⟩ := hew)
    go_step3
    simp only [Exit.then]
    refine ‹∀ (a : Act) (w_1 : World), _ → _› _ _ (HR.out _ _ ?_)
    exact WordJ.mk' low 0 false rfl BK.out HB.out (Int.le_refl _) b4 (Int.le_refl _) (by decide) HR2.out
  case pass =>
   intro a' w' hJ
   obtain ⟨i, n, over, u, rfl, bk, hb, i1, i2, n1, n2, hr⟩ := hJ
   have BK := Aside0.mk bk
   have HB := Aside0.mk hb
   have hc0 : w'.cell? ⟨w.heap.size, 0, none⟩ = some (.int .i64 0) := (blk_cell BK.out 0).trans rfl
   have hc1 : w'.cell? ⟨w.heap.size, 1, none⟩ = some (.int .i64 0) := (blk_cell BK.out 1).trans rfl
   have hf0 := blk_frozen BK.out 0
   have hf1 := blk_frozen BK.out 1
   have HR := Aside0.mk hr
   clear bk hb hr HSH H
   by_cases hih : i = high
   ·have t1 : (i == high) = true := beq_iff_eq.2 hih
    have hr := HR.out
    rw [show (high - i).toNat = 0 from by omega] at hr
    simp only [wordL] at hr
    clear hih HR
    cases over with
    | false =>
     rw [if_neg (by decide)] at hr
     injection hr with e1 hr
     injection hr with e2 e3
     subst e1; subst e2; subst e3
     go_wp2
     (try simp only [Exit.jump])
     refine bodyPost_ret (results_tc rfl _ _ w.heap.size 32 #[.int .i64 0, .int .i64 0] (0, 0) _ rfl (by (with_reducible repeat (first | refine blk_drewN ?_ _ | refine blk_drew ?_ | refine blk_alloc ?_ _)); refine blk_put (cs := #[.int .i64 0, .int .i64 0]) ?_ 1 _ rfl; (with_reducible repeat (first | refine blk_drewN ?_ _ | refine blk_drew ?_ | refine blk_alloc ?_ _)); refine blk_put (cs := #[.int .i64 0, .int .i64 0]) ?_ 0 _ rfl; (with_reducible repeat (first | refine blk_drewN ?_ _ | refine blk_drew ?_ | refine blk_alloc ?_ _)); exact BK.out) hu27 rfl (by kernel_rfl)) rfl ?_
     exact ⟨by first | rfl | (simp; done), by repeat (first | (with_reducible first | exact HB.out | apply below_alloc | apply pw_below_drewN | apply below_drew1 | refine below_set ?_ (Nat.le_refl _)) | exact HB.out)⟩
    | true =>
     rw [if_pos rfl] at hr
     injection hr with e1 hr
     injection hr with e2 e3
     subst e1; subst e2; subst e3
     go_wp2
     (try simp only [Exit.jump])
     refine bodyPost_ret (results_tc rfl _ _ w.heap.size 32 #[.int .i64 5, .int .i64 a1] (0, 0) _ rfl (by (with_reducible repeat (first | refine blk_drewN ?_ _ | refine blk_drew ?_ | refine blk_alloc ?_ _)); refine blk_put (cs := #[.int .i64 5, .int .i64 0]) ?_ 1 _ rfl; (with_reducible repeat (first | refine blk_drewN ?_ _ | refine blk_drew ?_ | refine blk_alloc ?_ _)); refine blk_put (cs := #[.int .i64 0, .int .i64 0]) ?_ 0 _ rfl; (with_reducible repeat (first | refine blk_drewN ?_ _ | refine blk_drew ?_ | refine blk_alloc ?_ _)); exact BK.out) hu27 rfl (by kernel_rfl)) rfl ?_
     exact ⟨by first | rfl | (simp; done), by repeat (first | (with_reducible first | exact HB.out | apply below_alloc | apply pw_below_drewN | apply below_drew1 | refine below_set ?_ (Nat.le_refl _)) | exact HB.out)⟩
   ·have t1 : (i == high) = false := beq_eq_false_iff_ne.2 hih
    obtain ⟨d, hd⟩ : ∃ d, (high - i).toNat = d + 1 := ⟨(high - i).toNat - 1, by omega⟩
    have hd' : (high - (i + 1)).toNat = d := by omega
    have hmu : (high - (i + 1)).toNat < (high - i).toNat := by omega
    have HMU := Aside0.mk hmu
    have hr := HR.out
    rw [hd] at hr
    simp only [wordL] at hr
    have hx := bt_at a0 i
    have hi0 : 0 ≤ i := by omega
    have hi1 : i < (a0.size : Int) := by omega
    have hi2 : i < high := by omega
    have p5 := eq_true hi0
    have q5 := eq_true hi1
    have bd := bt_range a0 i
    have HD := Aside0.mk hd'
    clear hih HR hd hd' hmu
    by_cases h95 : bt a0 i = 95
    ·have t2 : (bt a0 i == 95) = true := beq_iff_eq.2 h95
     rw [if_pos h95] at hr
     clear h95
     by_cases hil : i = low
     ·have t3 : (i == low) = true := beq_iff_eq.2 hil
      rw [if_pos (Or.inl hil)] at hr
      injection hr with e1 hr
      injection hr with e2 e3
      subst e1; subst e2; subst e3
      clear hil
      go_wp2
      (try simp only [Exit.jump])
      refine bodyPost_ret (results_tc rfl _ _ w.heap.size 32 #[.int .i64 4, .int .i64 (a1 + i)] (0, 0) _ rfl (by (with_reducible repeat (first | refine blk_drewN ?_ _ | refine blk_drew ?_ | refine blk_alloc ?_ _)); refine blk_put (cs := #[.int .i64 4, .int .i64 0]) ?_ 1 _ rfl; (with_reducible repeat (first | refine blk_drewN ?_ _ | refine blk_drew ?_ | refine blk_alloc ?_ _)); refine blk_put (cs := #[.int .i64 0, .int .i64 0]) ?_ 0 _ rfl; (with_reducible repeat (first | refine blk_drewN ?_ _ | refine blk_drew ?_ | refine blk_alloc ?_ _)); exact BK.out) hu27 rfl (by kernel_rfl)) rfl ?_
      exact ⟨by first | rfl | (simp; done), by repeat (first | (with_reducible first | exact HB.out | apply below_alloc | apply pw_below_drewN | apply below_drew1 | refine below_set ?_ (Nat.le_refl _)) | exact HB.out)⟩
     ·have t3 : (i == low) = false := beq_eq_false_iff_ne.2 hil
      by_cases hd0 : i + 1 = high
      ·have t4 : (i + 1 == high) = true := beq_iff_eq.2 hd0
       rw [if_pos (Or.inr (Or.inl (by have := HD.out; omega)))] at hr
       injection hr with e1 hr
       injection hr with e2 e3
       subst e1; subst e2; subst e3
       clear hil hd0
       go_wp2
       (try simp only [Exit.jump])
       refine bodyPost_ret (results_tc rfl _ _ w.heap.size 32 #[.int .i64 4, .int .i64 (a1 + i)] (0, 0) _ rfl (by (with_reducible repeat (first | refine blk_drewN ?_ _ | refine blk_drew ?_ | refine blk_alloc ?_ _)); refine blk_put (cs := #[.int .i64 4, .int .i64 0]) ?_ 1 _ rfl; (with_reducible repeat (first | refine blk_drewN ?_ _ | refine blk_drew ?_ | refine blk_alloc ?_ _)); refine blk_put (cs := #[.int .i64 0, .int .i64 0]) ?_ 0 _ rfl; (with_reducible repeat (first | refine blk_drewN ?_ _ | refine blk_drew ?_ | refine blk_alloc ?_ _)); exact BK.out) hu27 rfl (by kernel_rfl)) rfl ?_
       exact ⟨by first | rfl | (simp; done), by repeat (first | (with_reducible first | exact HB.out | apply below_alloc | apply pw_below_drewN | apply below_drew1 | refine below_set ?_ (Nat.le_refl _)) | exact HB.out)⟩
      ·have t4 : (i + 1 == high) = false := beq_eq_false_iff_ne.2 hd0
       have hx2 : ∀ h : i.toNat - 1 < a0.size, ((a0[i.toNat - 1]'h).toNat : Int) = bt a0 (i - 1) := by
        have e : (i - 1).toNat = i.toNat - 1 := by omega
        have z := bt_at a0 (i - 1)
        simp only [e] at z
        exact z
       have hi3 : 0 ≤ i - 1 := by omega
       have hi4 : i - 1 < (a0.size : Int) := by omega
       have hi5 : 1 ≤ i := by omega
       by_cases hp : bt a0 (i - 1) = 95
       ·have t5 : (bt a0 (i - 1) == 95) = true := beq_iff_eq.2 hp
        rw [if_pos (Or.inr (Or.inr hp))] at hr
        injection hr with e1 hr
        injection hr with e2 e3
        subst e1; subst e2; subst e3
        clear hil hd0 hp
        go_wp2
        (try simp only [Exit.jump])
        refine bodyPost_ret (results_tc rfl _ _ w.heap.size 32 #[.int .i64 4, .int .i64 (a1 + i)] (0, 0) _ rfl (by (with_reducible repeat (first | refine blk_drewN ?_ _ | refine blk_drew ?_ | refine blk_alloc ?_ _)); refine blk_put (cs := #[.int .i64 4, .int .i64 0]) ?_ 1 _ rfl; (with_reducible repeat (first | refine blk_drewN ?_ _ | refine blk_drew ?_ | refine blk_alloc ?_ _)); refine blk_put (cs := #[.int .i64 0, .int .i64 0]) ?_ 0 _ rfl; (with_reducible repeat (first | refine blk_drewN ?_ _ | refine blk_drew ?_ | refine blk_alloc ?_ _)); exact BK.out) hu27 rfl (by kernel_rfl)) rfl ?_
        exact ⟨by first | rfl | (simp; done), by repeat (first | (with_reducible first | exact HB.out | apply below_alloc | apply pw_below_drewN | apply below_drew1 | refine below_set ?_ (Nat.le_refl _)) | exact HB.out)⟩
       ·have t5 : (bt a0 (i - 1) == 95) = false := beq_eq_false_iff_ne.2 hp
        rw [if_neg (by have := HD.out; rintro (q | q | q); exact hil q; omega; exact hp q)] at hr
        have HR2 := Aside0.mk hr
        clear hil hd0 hp hr
        go_wp2
        go_step3
        exact ⟨rfl, WordJ.mk' (i + 1) n over rfl BK.out HB.out (by omega) (by omega) n1 n2 (by rw [HD.out]; exact HR2.out), HMU.out⟩
    ·have t2 : (bt a0 i == 95) = false := beq_eq_false_iff_ne.2 h95
     rw [if_neg h95] at hr
     clear h95
     have hv := litValue_f (bt a0 i) bd.1 bd.2
     have hvb := litValue_bd (bt a0 i)
     generalize litValue (bt a0 i) = v at *
     have HV := Aside0.mk hv
     obtain ⟨v0, v1⟩ := hvb
     clear hv
     by_cases hge : base ≤ v
     ·rw [if_pos hge] at hr
      injection hr with e1 hr
      injection hr with e2 e3
      subst e1; subst e2; subst e3
      go_wp2_with (go_at_call 92; refine (literal_value.calls _ v _ HV.out).mono ?_; rintro e w2 ⟨rfl, ⟨nd, rfl⟩⟩)
      (try simp only [Exit.jump])
      refine bodyPost_ret (results_tc rfl _ _ w.heap.size 32 #[.int .i64 4, .int .i64 (a1 + i)] (0, 0) _ rfl (by (with_reducible repeat (first | refine blk_drewN ?_ _ | refine blk_drew ?_ | refine blk_alloc ?_ _)); refine blk_put (cs := #[.int .i64 4, .int .i64 0]) ?_ 1 _ rfl; (with_reducible repeat (first | refine blk_drewN ?_ _ | refine blk_drew ?_ | refine blk_alloc ?_ _)); refine blk_put (cs := #[.int .i64 0, .int .i64 0]) ?_ 0 _ rfl; (with_reducible repeat (first | refine blk_drewN ?_ _ | refine blk_drew ?_ | refine blk_alloc ?_ _)); exact BK.out) hu27 rfl (by kernel_rfl)) rfl ?_
      exact ⟨by first | rfl | (simp; done), by repeat (first | (with_reducible first | exact HB.out | apply below_alloc | apply pw_below_drewN | apply below_drew1 | refine below_set ?_ (Nat.le_refl _)) | exact HB.out)⟩
     ·rw [if_neg hge] at hr
      have hmul := mul64_f n base n1 n2 (by omega) (by omega)
      have l0 : 0 ≤ n * base % 18446744073709551616 := Int.emod_nonneg _ (by decide)
      have l1 : n * base % 18446744073709551616 < 18446744073709551616 := Int.emod_lt_of_pos _ (by decide)
      have HR2 := Aside0.mk hr
      clear hr
      generalize n * base / 18446744073709551616 = hi at *
      generalize n * base % 18446744073709551616 = lo at *
      have hadd := add64_any lo v l0 v0
      have s0 : 0 ≤ (lo + v) % 18446744073709551616 := Int.emod_nonneg _ (by decide)
      have s1 : (lo + v) % 18446744073709551616 < 18446744073709551616 := Int.emod_lt_of_pos _ (by decide)
      generalize (lo + v) % 18446744073709551616 = sm at *
      generalize (lo + v) / 18446744073709551616 = cy at *
      have HM := Aside0.mk hmul
      have S0 := Aside0.mk s0
      have S1 := Aside0.mk s1
      clear hmul l0 l1 s0 s1
      cases over with
      | true =>
       go_wp2_with (first | (go_at_call 92; refine (literal_value.calls _ v _ HV.out).mono ?_; rintro e w2 ⟨rfl, ⟨nd, rfl⟩⟩) | (go_at_call 93; refine (bits_Mul64.calls n base _ _ _ HM.out).mono ?_; rintro e w2 ⟨rfl, ⟨nd, rfl⟩⟩))
       go_step3
       exact ⟨rfl, WordJ.mk' (i + 1) sm true rfl (by first | exact BK.out | (repeat (first | exact BK.out | refine blk_drewN ?_ _))) (by first | exact HB.out | (repeat (first | exact HB.out | apply pw_below_drewN))) (by omega) (by omega) S0.out S1.out (by rw [HD.out]; have z := HR2.out; exact z), HMU.out⟩
      | false =>
       by_cases g1 : 0 < hi
       ·have g1' : decide (0 < hi) = true := decide_eq_true g1
        clear g1
        go_wp2_with (first | (go_at_call 92; refine (literal_value.calls _ v _ HV.out).mono ?_; rintro e w2 ⟨rfl, ⟨nd, rfl⟩⟩) | (go_at_call 93; refine (bits_Mul64.calls n base _ _ _ HM.out).mono ?_; rintro e w2 ⟨rfl, ⟨nd, rfl⟩⟩))
        go_step3
        exact ⟨rfl, WordJ.mk' (i + 1) sm true rfl (by first | exact BK.out | (repeat (first | exact BK.out | refine blk_drewN ?_ _))) (by first | exact HB.out | (repeat (first | exact HB.out | apply pw_below_drewN))) (by omega) (by omega) S0.out S1.out (by rw [HD.out]; have z := HR2.out; rw [g1'] at z; exact z), HMU.out⟩
       ·have g1' : decide (0 < hi) = false := decide_eq_false g1
        clear g1
        by_cases g2 : 0 < cy
        ·have g2' : decide (0 < cy) = true := decide_eq_true g2
         clear g2
         go_wp2_with (first | (go_at_call 92; refine (literal_value.calls _ v _ HV.out).mono ?_; rintro e w2 ⟨rfl, ⟨nd, rfl⟩⟩) | (go_at_call 93; refine (bits_Mul64.calls n base _ _ _ HM.out).mono ?_; rintro e w2 ⟨rfl, ⟨nd, rfl⟩⟩))
         go_step3
         exact ⟨rfl, WordJ.mk' (i + 1) sm true rfl (by first | exact BK.out | (repeat (first | exact BK.out | refine blk_drewN ?_ _))) (by first | exact HB.out | (repeat (first | exact HB.out | apply pw_below_drewN))) (by omega) (by omega) S0.out S1.out (by rw [HD.out]; have z := HR2.out; rw [g1', g2'] at z; exact z), HMU.out⟩
        ·have g2' : decide (0 < cy) = false := decide_eq_false g2
         clear g2
         go_wp2_with (first | (go_at_call 92; refine (literal_value.calls _ v _ HV.out).mono ?_; rintro e w2 ⟨rfl, ⟨nd, rfl⟩⟩) | (go_at_call 93; refine (bits_Mul64.calls n base _ _ _ HM.out).mono ?_; rintro e w2 ⟨rfl, ⟨nd, rfl⟩⟩))
         go_step3
         exact ⟨rfl, WordJ.mk' (i + 1) sm false rfl (by first | exact BK.out | (repeat (first | exact BK.out | refine blk_drewN ?_ _))) (by first | exact HB.out | (repeat (first | exact HB.out | apply pw_below_drewN))) (by omega) (by omega) S0.out S1.out (by rw [HD.out]; have z := HR2.out; rw [g1', g2'] at z; exact z), HMU.out⟩
 ·rw [if_neg hs] at h
  cases h

end Go.Proofs.YtjabjooephellaaDoor.XK
