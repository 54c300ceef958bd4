-- PRINTED by print.py (a twelfth state) out of the translation. Not trusted: Lean checks it.
import Derived.Test.YtjabjooephellaaDoorXEx0
import Derived.Test.YtjabjooephellaaDoorXEx1
import Derived.Test.YtjabjooephellaaDoorXEx9
import Derived.Test.YtjabjooephellaaDoorXEx10
import Derived.Test.YtjabjooephellaaDoorXEx11
import Derived.Test.YtjabjooephellaaDoorXEx12
namespace Go.Proofs.YtjabjooephellaaDoor.XE
open Go.RowKit Go.Proofs.YtjabjooephellaaDoorW.PrintWords Go.Proofs.YtjabjooephellaaDoorW.PrintLast Go.Proofs.YtjabjooephellaaDoorW.PrintMore
attribute [local go_sem] max2_int min2_int max_two min_two max_three min_three max_four min_four   -- for this text's walks alone
set_option linter.unusedVariables false
set_option linter.unusedSimpArgs false

attribute [local go_sem high] eqA32
/-! ### expr_Eval: function 24 -/
def EB (w : World) (b : Nat) (v : List Int) : Prop := w.heap[b]? = some (.cells (v.map (Value.int .i64)).toArray 78 (0, 0)) ∧ v.length = 200
section
variable {w w1 : World} {b : Nat} {v : List Int}
theorem EB.lt (h : EB w b v) : b < w.heap.size := blk_lt h.1
theorem EB.below (h : EB w b v) (hb : Below w.heap.size w w1) : EB w1 b v := ⟨(hb.block _ h.lt).trans h.1, h.2⟩
theorem EB.alloc (h : EB w b v) (o : Obj) : EB (w.alloc o) b v := ⟨blk_alloc h.1 o, h.2⟩
theorem EB.drewN (h : EB w b v) (n : Nat) : EB (w.drewN n) b v := h
theorem EB.drew (h : EB w b v) : EB w.drew b v := h
theorem EB.cell (h : EB w b v) (i : Int) (h0 : 0 ≤ i) (h1 : i < 200) : w.cell? ⟨b, i.toNat, none⟩ = some (.int .i64 (rdI v i)) := by
 refine (blk_cell h.1 i.toNat).trans ?_
 have hl : i.toNat < v.length := by rw [h.2]; omega
 unfold rdI rdOf
 simp [List.getElem?_eq_getElem hl, List.getD]
theorem EB.free (h : EB w b v) (i : Nat) : w.frozen? ⟨b, i, none⟩ = false := blk_frozen h.1 i
theorem EB.set (h : EB w b v) (i : Int) (x : Int) : EB (w.setCell ⟨b, i.toNat, none⟩ (.int .i64 x)) b (v.set i.toNat x) := by
 refine ⟨?_, by rw [List.length_set]; exact h.2⟩
 have z := blk_set h.1 i.toNat (.int .i64 x)
 rw [z]
 simp [List.map_set]
end
def lookR (l : List S80) (s : ByteArray) : Nat → Int → Int → Int
 | 0, _, at_ => at_
 | k + 1, i, at_ => lookR l s k (i + 1) (if (rd_T80 l i).f0.toList = s.toList then i else at_)
def evL (K : Nat) (x : List S47) (l : List S80) (here start : Int) : Nat → Int → List Int → Bool → Option (Int × Bool × Int)
 | 0, _, _, _ => none
 | k + 1, i, v, hg => if i < (x.length : Int) then (
   if (rd_T47 x i).f0 = 1 then evL K x l here start k (i + 1) (v.set i.toNat (rd_T47 x i).f1) hg
   else if (rd_T47 x i).f0 = 2 then (
    if lookR l (rd_T47 x i).f2 l.length 0 (-1) < 0 then some (0, false, 6)
    else if lookR l (rd_T47 x i).f2 l.length 0 (-1) < (l.length : Int) then evL K x l here start k (i + 1) (v.set i.toNat (rd_T80 l (lookR l (rd_T47 x i).f2 l.length 0 (-1))).f1) (hg || (rd_T80 l (lookR l (rd_T47 x i).f2 l.length 0 (-1))).f2)
    else none)
   else if (rd_T47 x i).f0 = 3 then evL K x l here start k (i + 1) (v.set i.toNat here) true
   else if (rd_T47 x i).f0 = 4 then evL K x l here start k (i + 1) (v.set i.toNat start) true
   else if 0 ≤ (rd_T47 x i).f3 ∧ (rd_T47 x i).f3 < 200 then (
    if (rd_T47 x i).f0 = 5 then evL K x l here start k (i + 1) (v.set i.toNat (wrap64 (-(rdI v (rd_T47 x i).f3)))) hg
    else if (rd_T47 x i).f0 = 6 then evL K x l here start k (i + 1) (v.set i.toNat (bits BinOp.xor IntKind.i64 (-1) (rdI v (rd_T47 x i).f3))) hg
    else if 0 ≤ (rd_T47 x i).f4 ∧ (rd_T47 x i).f4 < 200 then
     ((expr_two.f K (rd_T47 x i).f0 (rdI v (rd_T47 x i).f3) (rdI v (rd_T47 x i).f4)).bind fun p => if p.2 = 0 then evL K x l here start k (i + 1) (v.set i.toNat p.1) hg else some (0, false, p.2))
    else none)
   else none)
  else if 0 < x.length then some (rdI v ((x.length : Int) - 1), hg, 0) else none
def expr_Eval.f (k : Nat) (l0 : List S47) (l1 : List S80) (a2 a3 : Int) : Option (Int × Bool × Int) :=
 if (l1.length : Int) < 4611686018427387904 then ((expr_Check.f k l0).bind fun e => if e = 0 then evL k l0 l1 a2 a3 (l0.length + 1) 0 (List.replicate 200 0) false else some (0, false, e)) else none
theorem two_quiet {k : Nat} {a b c r e : Int} (h : expr_two.f k a b c = some (r, e)) (w : World) (n : Nat) :
  Calls Tryd.prog 43 #[.int .i64 a, .int .i64 b, .int .i64 c] (w.drewN n) fun e' w'' => e' = .returned (.tuple #[.int .i64 r, .int .i64 e]) ∧ ∃ m, w'' = w.drewN m := by
 refine Calls.quiet_of ((expr_two.calls k a b c r e _ h).mono ?_)
 rintro e' w3 ⟨he, hd⟩
 obtain ⟨nd, rfl⟩ := hd
 exact ⟨he, nd, rfl⟩
theorem chk_short {k : Nat} {l0 : List S47} (h : expr_Check.f k l0 = some 0) : (l0.length : Int) ≤ 200 := by
 unfold expr_Check.f at h
 by_cases c : 200 < (l0.length : Int)
 ·rw [if_pos c] at h
  exact absurd (Option.some.inj h) (by decide)
 ·omega
set_option maxHeartbeats 8000000 in
set_option maxRecDepth 100000 in
theorem expr_Eval.calls (k : Nat) (A0 : Option Addr) (c0 : Nat) (l0 : List S47) (A1 : Option Addr) (c1 : Nat) (l1 : List S80) (a2 a3 : Int) (r1 : Int) (r2 : Bool) (r3 : Int) (w : World) (hr0 : Kd.C k47 w A0 l0.length l0) (hc0 : l0.length ≤ c0) (hr1 : Kd.C k80 w A1 l1.length l1) (hc1 : l1.length ≤ c1) (h : expr_Eval.f k l0 l1 a2 a3 = some (r1, r2, r3)) :
  Calls Tryd.prog 24 #[.slice A0 l0.length c0, .slice A1 l1.length c1, .int .i64 a2, .int .i64 a3] w fun e w' => e = .returned (.tuple #[.int .i64 r1, .bool r2, .int .i64 r3]) ∧ Below w.heap.size w w' := by
 have hu := Tryd.underlying47
 have hu53 := Tryd.underlying80
 have hu72 := Tryd.underlying78
 unfold expr_Eval.f at h
 by_cases hl1 : (l1.length : Int) < 4611686018427387904
 case neg => rw [if_neg hl1] at h; exact absurd h (by simp)
 rw [if_pos hl1] at h
 have HL1 := Aside0.mk hl1
 clear hl1
 obtain ⟨ee, hchk, h⟩ := Option.bind_eq_some_iff.1 h
 by_cases d1 : ee = 0
 ·rw [if_pos d1] at h
  subst d1
  have hlen := chk_short hchk
  have HK := Aside0.mk hchk
  have HH := Aside0.mk h
  have HC0 := Aside0.mk hr0
  have HC1 := Aside0.mk hr1
  clear h hr0 hr1 hchk
  go_enter Tryd.func24, Tryd.ntmps24
  go_wp2_with (first | (go_at_call 41; refine (expr_Check.calls k A0 c0 l0 0 w HC0.out hc0 HK.out).mono ?_; rintro e w1 ⟨rfl, hb⟩; have B1 := Aside0.mk hb; clear hb) | ((with_reducible refine gate_dst (N := 12) rfl ?_); refine box_event ?hg (N := 12) ?hd (cs := ((List.replicate 200 0).map (Value.int .i64)).toArray) (t := 78) ?hr ?_; (case hd => rfl); (case hg => rfl); (case hr => kernel_rfl); intro bb hg w2 hbox hb; have B2 := Aside0.mk (below_step B1.out hb); have GE := Aside0.mk (show w.heap.size ≤ bb from by rw [hg]; exact B1.out.size); have E2 : Aside0 (EB w2 bb (List.replicate 200 0)) := ⟨⟨hbox, List.length_replicate⟩⟩; clear hg hbox hb))
  go_loopg [13, 28] (l0.length + 1) (fun kq v13 v28 w' => ∃ (v : List Int) (hg : Bool) (i : Int), v13 = .bool hg ∧ v28 = .int .i64 i ∧ Aside0 (evL k l0 l1 a2 a3 kq i v hg = some (r1, r2, r3)) ∧ 0 ≤ i ∧ i ≤ (l0.length : Int) ∧ Aside0 (EB w' bb v) ∧ Aside0 (Below w.heap.size w w'))
  case atStart => exact ⟨_, _, _, rfl, rfl, HH, by omega, by omega, E2, B2⟩
  case round =>
   clear HH E2 B2 B1 HK
   try clear p2
   obtain ⟨v, hg, i, rfl, rfl, HA, hi0, hi1, HE, HB⟩ := hrel
   cases gk with
   | zero => exact absurd HA.out (by simp [evL])
   | succ k1 =>
    have hA := HA.out
    clear HA
    rw [evL] at hA
    by_cases c2 : i < (l0.length : Int)
    ·rw [if_pos c2] at hA
     have c2b : decide (i < (l0.length : Int)) = true := decide_eq_true c2
     obtain ⟨ad, ead, t0, t1, t2, t3, t4⟩ := at_T47 (Kd.C_below HC0.out HB.out) i hi0 c2
     cases ead
     have hp := eq_true hi0
     have hq := eq_true c2
     have hq2 : (i < 200) = True := eq_true (by omega)
     have hi2 : i < 200 := by omega
     generalize hn : rd_T47 l0 i = n at hA t0 t1 t2 t3 t4
     clear hn
     have hB1 := Aside0.mk (below_step HB.out (below_alloc (Below.refl wr.heap.size wr) (.cells #[.int .i64 n.f0, .int .i64 n.f1, .string n.f2, .int .i64 n.f3, .int .i64 n.f4] 47)))
     have hE1 := Aside0.mk (HE.out.alloc (.cells #[.int .i64 n.f0, .int .i64 n.f1, .string n.f2, .int .i64 n.f3, .int .i64 n.f4] 47))
     have y0 := HE.out.alloc (.cells #[.int .i64 n.f0, .int .i64 n.f1, .string n.f2, .int .i64 n.f3, .int .i64 n.f4] 47) |>.cell i hi0 hi2
     have y1 := HE.out.alloc (.cells #[.int .i64 n.f0, .int .i64 n.f1, .string n.f2, .int .i64 n.f3, .int .i64 n.f4] 47) |>.free i.toNat
     by_cases e1 : n.f0 = 1
     ·rw [if_pos e1] at hA
      have e1b : (n.f0 == 1) = true := by simp [e1]
      have HA := Aside0.mk hA
      clear hA e1
      go_wp2_with fail
      go_roundg k1
      case measure => omega
      case rel => exact ⟨_, _, i + 1, rfl, rfl, HA, by omega, by omega, ⟨hE1.out.set i _⟩, ⟨below_set hB1.out GE.out⟩⟩
     ·rw [if_neg e1] at hA
      have e1b : (n.f0 == 1) = false := by simp [e1]
      clear e1
      by_cases e2 : n.f0 = 2
      ·rw [if_pos e2] at hA
       have e2b : (n.f0 == 2) = true := by simp [e2]
       have HA := Aside0.mk hA
       clear hA e2
       have N0 := Aside0.mk (blk_new wr (.cells #[.int .i64 n.f0, .int .i64 n.f1, .string n.f2, .int .i64 n.f3, .int .i64 n.f4] 47))
       go_wp2_with fail
       go_loopg [16, 65] l1.length (fun kq2 v16 v65 w' => ∃ (at_ i2 : Int), v16 = .int .i64 at_ ∧ v65 = .int .i64 i2 ∧ Aside0 (lookR l1 n.f2 kq2 i2 at_ = lookR l1 n.f2 l1.length 0 (-1)) ∧ (kq2 : Int) + i2 = (l1.length : Int) ∧ 0 ≤ i2 ∧ -1 ≤ at_ ∧ Aside0 (EB w' bb v) ∧ Aside0 (Below w.heap.size w w') ∧ Aside0 (w'.heap[wr.heap.size]? = some (.cells #[.int .i64 n.f0, .int .i64 n.f1, .string n.f2, .int .i64 n.f3, .int .i64 n.f4] 47)))
       case atStart => exact ⟨-1, 0, rfl, rfl, ⟨rfl⟩, by omega, by omega, by omega, hE1, hB1, N0⟩
       case round =>
        clear hE1 hB1 N0 y0 y1 HE HB t0 t1 t2 t3 t4
        try clear p2
        obtain ⟨at_, i2, rfl, rfl, HL, hk2, hi20, hat, HE, HB, HN⟩ := hrel
        skip
        cases gk with
        | zero =>
         have c8b : decide (i2 < (l1.length : Int)) = false := decide_eq_false (by omega)
         have hz := HL.out
         simp only [lookR] at hz
         have hA := HA.out
         rw [← hz] at hA
         have yn0 := HE.out.cell i hi0 hi2
         have yn1 := HE.out.free i.toNat
         by_cases g1 : at_ < 0
         ·rw [if_pos g1] at hA
          simp only [Option.some.injEq, Prod.mk.injEq] at hA
          obtain ⟨rfl, rfl, rfl⟩ := hA
          have g1b : decide (at_ < 0) = true := decide_eq_true g1
          clear HA HL hz
          go_wp2
          refine bodyPost_ret (results_list (rs := [.tmp 8, .tmp 9, .tmp 10]) rfl (by simp) (.tmp (.tmp (.tmp .nil)))) rfl ?_
          exact ⟨by rfl, by first | exact HB.out | exact pw_below_drewN HB.out _⟩
         ·rw [if_neg g1] at hA
          have g1b : decide (at_ < 0) = false := decide_eq_false g1
          by_cases g2 : at_ < (l1.length : Int)
          ·rw [if_pos g2] at hA
           obtain ⟨ad2, ead2, s0, s1, s2⟩ := at_T80 (Kd.C_below HC1.out HB.out) at_ (by omega) g2
           obtain ⟨ad3, ead3, _, s5, s6⟩ := at_T80 (Kd.C_below HC1.out (show Below w.heap.size w (wr.setCell ⟨bb, i.toNat, none⟩ (.int .i64 (rd_T80 l1 at_).f1)) from below_set HB.out GE.out)) at_ (by omega) g2
           cases ead2
           cases ead3
           have g3 := eq_true (show 0 ≤ at_ by omega)
           have g4 := eq_true g2
           generalize rd_T80 l1 at_ = sy at hA s0 s1 s2 s5 s6
           have HA' := Aside0.mk hA
           clear HA HL hz hA g1 g2
           cases hg with
           | true =>
            go_wp2_with fail
            clear s0 c8b hk2 hat hi20 e1b e2b c2b
            go_big_region
            go_wp2_with fail
            go_roundg k1
            case measure => omega
            case rel => exact ⟨_, _, i + 1, rfl, rfl, HA', by omega, by omega, ⟨HE.out.set i _⟩, ⟨below_drew (below_set HB.out GE.out)⟩⟩
           | false =>
            go_wp2_with fail
            clear s0 c8b hk2 hat hi20 e1b e2b c2b
            go_big_region
            go_wp2_with fail
            go_roundg k1
            case measure => omega
            case rel => exact ⟨_, _, i + 1, rfl, rfl, HA', by omega, by omega, ⟨HE.out.set i _⟩, ⟨below_drew (below_set HB.out GE.out)⟩⟩
          ·rw [if_neg g2] at hA
           exact absurd hA (by simp)
        | succ k2 =>
         have g0 : i2 < (l1.length : Int) := by omega
         have c8b : decide (i2 < (l1.length : Int)) = true := decide_eq_true g0
         have hz := HL.out
         simp only [lookR] at hz
         obtain ⟨ad2, ead2, s0, s1, s2⟩ := at_T80 (Kd.C_below HC1.out HB.out) i2 hi20 g0
         cases ead2
         have hw1 : Go.RowKit.wrap64 (i2 + 1) = i2 + 1 := by have := HL1.out; unfold Go.RowKit.wrap64; omega
         have g3 := eq_true hi20
         have g4 := eq_true g0
         generalize rd_T80 l1 i2 = q at hz s0 s1 s2
         have hBq := Aside0.mk (below_step HB.out (below_alloc (Below.refl wr.heap.size wr) (.cells #[.string q.f0, .int .i64 q.f1, .bool q.f2] 80)))
         have hEq := Aside0.mk (HE.out.alloc (.cells #[.string q.f0, .int .i64 q.f1, .bool q.f2] 80))
         have hNq := Aside0.mk (blk_alloc HN.out (.cells #[.string q.f0, .int .i64 q.f1, .bool q.f2] 80))
         have q2 := (blk_cell hNq.out 2).trans rfl
         by_cases g5 : q.f0.toList = n.f2.toList
         ·rw [if_pos g5] at hz
          have g5b : (q.f0.toList == n.f2.toList) = true := beq_iff_eq.mpr g5
          have HZ := Aside0.mk hz
          clear hz HL g5
          go_wp2_with fail
          go_roundg k2
          case measure => omega
          case rel => exact ⟨i2, i2 + 1, rfl, by rw [hw1], HZ, by omega, by omega, by omega, hEq, hBq, hNq⟩
         ·rw [if_neg g5] at hz
          have g5b : (q.f0.toList == n.f2.toList) = false := beq_eq_false_iff_ne.mpr g5
          have HZ := Aside0.mk hz
          clear hz HL g5
          go_wp2_with fail
          go_roundg k2
          case measure => omega
          case rel => exact ⟨at_, i2 + 1, rfl, by rw [hw1], HZ, by omega, by omega, by omega, hEq, hBq, hNq⟩
      ·rw [if_neg e2] at hA
       have e2b : (n.f0 == 2) = false := by simp [e2]
       clear e2
       by_cases e3 : n.f0 = 3
       ·rw [if_pos e3] at hA
        have e3b : (n.f0 == 3) = true := by simp [e3]
        have HA := Aside0.mk hA
        clear hA e3
        go_wp2_with fail
        go_roundg k1
        case measure => omega
        case rel => exact ⟨_, _, i + 1, rfl, rfl, HA, by omega, by omega, ⟨hE1.out.set i _⟩, ⟨below_set hB1.out GE.out⟩⟩
       ·rw [if_neg e3] at hA
        have e3b : (n.f0 == 3) = false := by simp [e3]
        clear e3
        by_cases e4 : n.f0 = 4
        ·rw [if_pos e4] at hA
         have e4b : (n.f0 == 4) = true := by simp [e4]
         have HA := Aside0.mk hA
         clear hA e4
         go_wp2_with fail
         go_roundg k1
         case measure => omega
         case rel => exact ⟨_, _, i + 1, rfl, rfl, HA, by omega, by omega, ⟨hE1.out.set i _⟩, ⟨below_set hB1.out GE.out⟩⟩
        ·rw [if_neg e4] at hA
         have e4b : (n.f0 == 4) = false := by simp [e4]
         clear e4
         by_cases b5 : 0 ≤ n.f3 ∧ n.f3 < 200
         ·rw [if_pos b5] at hA
          obtain ⟨b0, b1⟩ := b5
          by_cases e5 : n.f0 = 5
          ·rw [if_pos e5] at hA
           have e5b : (n.f0 == 5) = true := by simp [e5]
           have HA := Aside0.mk hA
           clear hA e5
           have y3 := HE.out.alloc (.cells #[.int .i64 n.f0, .int .i64 n.f1, .string n.f2, .int .i64 n.f3, .int .i64 n.f4] 47) |>.cell n.f3 b0 b1
           go_wp2_with fail
           go_roundg k1
           case measure => omega
           case rel => exact ⟨_, _, i + 1, rfl, rfl, HA, by omega, by omega, ⟨hE1.out.set i _⟩, ⟨below_set hB1.out GE.out⟩⟩
          ·rw [if_neg e5] at hA
           have e5b : (n.f0 == 5) = false := by simp [e5]
           clear e5
           by_cases e6 : n.f0 = 6
           ·rw [if_pos e6] at hA
            have e6b : (n.f0 == 6) = true := by simp [e6]
            have HA := Aside0.mk hA
            clear hA e6
            have y3 := HE.out.alloc (.cells #[.int .i64 n.f0, .int .i64 n.f1, .string n.f2, .int .i64 n.f3, .int .i64 n.f4] 47) |>.cell n.f3 b0 b1
            go_wp2_with fail
            go_roundg k1
            case measure => omega
            case rel => exact ⟨_, _, i + 1, rfl, rfl, HA, by omega, by omega, ⟨hE1.out.set i _⟩, ⟨below_set hB1.out GE.out⟩⟩
           ·rw [if_neg e6] at hA
            have e6b : (n.f0 == 6) = false := by simp [e6]
            clear e6
            by_cases b4 : 0 ≤ n.f4 ∧ n.f4 < 200
            ·rw [if_pos b4] at hA
             obtain ⟨b2, b3⟩ := b4
             obtain ⟨p, hp2, hA⟩ := Option.bind_eq_some_iff.1 hA
             have HP := Aside0.mk hp2
             clear hp2
             have y3 := HE.out.alloc (.cells #[.int .i64 n.f0, .int .i64 n.f1, .string n.f2, .int .i64 n.f3, .int .i64 n.f4] 47) |>.cell n.f3 b0 b1
             have y4 := HE.out.alloc (.cells #[.int .i64 n.f0, .int .i64 n.f1, .string n.f2, .int .i64 n.f3, .int .i64 n.f4] 47) |>.cell n.f4 b2 b3
             have b0p := eq_true b0
             have b1p := eq_true b1
             have b2p := eq_true b2
             have b3p := eq_true b3
             by_cases e7 : p.2 = 0
             ·rw [if_pos e7] at hA
              have e7b : (p.2 == 0) = true := by simp [e7]
              have HA := Aside0.mk hA
              clear hA e7
              go_wp2_with fail
              go_quiet (first | (go_at_call 43; exact two_quiet HP.out _ _))
              go_wp2_with fail
              go_roundg k1
              case measure => omega
              case rel => exact ⟨_, _, i + 1, rfl, rfl, HA, by omega, by omega, ⟨(hE1.out.drewN _).set i _⟩, ⟨below_set (pw_below_drewN hB1.out _) GE.out⟩⟩
             ·rw [if_neg e7] at hA
              have e7b : (p.2 == 0) = false := by simp [e7]
              simp only [Option.some.injEq, Prod.mk.injEq] at hA
              obtain ⟨rfl, rfl, rfl⟩ := hA
              clear e7
              go_wp2_with fail
              go_quiet (first | (go_at_call 43; exact two_quiet HP.out _ _))
              go_wp2
              refine bodyPost_ret (results_list (rs := [.tmp 8, .tmp 9, .tmp 10]) rfl (by simp) (.tmp (.tmp (.tmp .nil)))) rfl ?_
              exact ⟨by rfl, pw_below_drewN hB1.out _⟩
            ·rw [if_neg b4] at hA
             exact absurd hA (by simp)
         ·rw [if_neg b5] at hA
          exact absurd hA (by simp)
    ·rw [if_neg c2] at hA
     have c2b : decide (i < (l0.length : Int)) = false := decide_eq_false c2
     by_cases c9 : 0 < l0.length
     ·rw [if_pos c9] at hA
      simp only [Option.some.injEq, Prod.mk.injEq] at hA
      obtain ⟨rfl, rfl, rfl⟩ := hA
      have y3 := HE.out.cell ((l0.length : Int) - 1) (by omega) (by omega)
      have y4 : wr.cell? ⟨bb, l0.length - 1, none⟩ = some (.int .i64 (rdI v ((l0.length : Int) - 1))) := by rw [show l0.length - 1 = ((l0.length : Int) - 1).toNat by omega]; exact y3
      have hwr : IntKind.i64.wrap ((l0.length : Int) - 1) = (l0.length : Int) - 1 := by rw [i64_w]; unfold Go.RowKit.wrap64; omega
      have z0 : (0 ≤ (l0.length : Int) - 1) = True := eq_true (by omega)
      have z1 : ((l0.length : Int) - 1 < 200) = True := eq_true (by omega)
      go_wp2
      refine bodyPost_ret (results_list (rs := [.tmp 8, .tmp 9, .tmp 10]) rfl (by simp) (.tmp (.tmp (.tmp .nil)))) rfl ?_
      exact ⟨by rfl, by first | exact HB.out | exact pw_below_drewN HB.out _⟩
     ·rw [if_neg c9] at hA
      exact absurd hA (by simp)
 ·rw [if_neg d1] at h
  simp only [Option.some.injEq, Prod.mk.injEq] at h
  obtain ⟨rfl, rfl, rfl⟩ := h
  have d1b : (ee == 0) = false := by simp [d1]
  have HK := Aside0.mk hchk
  clear hchk d1
  go_enter Tryd.func24, Tryd.ntmps24
  go_wp2_with (go_at_call 41; refine (expr_Check.calls k A0 c0 l0 ee w hr0 hc0 HK.out).mono ?_; rintro e w1 ⟨rfl, hb⟩; have B1 := Aside0.mk hb; clear hb)
  refine bodyPost_ret (results_list (rs := [.tmp 8, .tmp 9, .tmp 10]) rfl (by simp) (.tmp (.tmp (.tmp .nil)))) rfl ?_
  exact ⟨by rfl, by first | exact B1.out | exact pw_below_drewN B1.out _⟩
theorem evL_mono (K : Nat) (x : List S47) (l : List S80) (here start : Int) : ∀ k i v hg, LeO (evL K x l here start k i v hg) (evL (K + 1) x l here start k i v hg)
 | 0, _, _, _ => LeO.refl _
 | k + 1, i, v, hg => by
  rw [evL, evL]
  repeat' first
   | exact LeO.refl _
   | exact expr_two.mono _ _ _ _
   | exact evL_mono K x l here start k _ _ _
   | refine LeO.ite ?_ ?_
   | refine LeO.bind ?_ (fun _ => ?_)
theorem expr_Eval.mono : ∀ l0 l1 a2 a3 k, LeO (expr_Eval.f k l0 l1 a2 a3) (expr_Eval.f (k + 1) l0 l1 a2 a3) := by
 intro l0 l1 a2 a3 k
 unfold expr_Eval.f
 exact LeO.ite (LeO.bind (expr_Check.mono _ _) (fun _ => LeO.ite (evL_mono k l0 l1 a2 a3 _ _ _ _) (LeO.refl _))) (LeO.refl _)

/-! ### linotypelaw23_fails: function 26 -/
def linotypelaw23_fails.f (k : Nat) (a0 : ByteArray) (a1 : Int) (a2 : Int) : Option (Bool) := (token_Lex.f k a0).bind fun bt178 => ((expr_Parse.f k bt178.1 0).bind fun bt184 => (if bt178.2.1 = 0 then (if (bt184.1.length : Int) = 0 then (if bt184.2.1 = 0 then (some (bt184.2.2.1 == a1 && (bt184.2.2.2 == a2))) else (none)) else (none)) else (none)))
theorem linotypelaw23_fails.mono : ∀ a0 a1 a2 k, LeO (linotypelaw23_fails.f k a0 a1 a2) (linotypelaw23_fails.f (k + 1) a0 a1 a2) := by
 intro a0 a1 a2 k
 unfold linotypelaw23_fails.f
 repeat' first
   | (with_reducible exact expr_Parse.mono _ _ _)
   | (with_reducible exact token_Lex.mono _ _)
   | (with_reducible exact LeO.refl _)
   | (with_reducible exact LeO.none _)
   | (with_reducible refine LeO.ite ?_ ?_)
   | (with_reducible refine LeO.bind ?_ (fun _ => ?_))
   | exact expr_Parse.mono _ _ _
   | exact token_Lex.mono _ _
   | exact LeO.none _
   | refine LeO.ite ?_ ?_
   | refine LeO.bind ?_ (fun _ => ?_)
set_option maxHeartbeats 8000000 in
set_option maxRecDepth 100000 in
theorem linotypelaw23_fails.calls (k : Nat) (a0 : ByteArray) (a1 : Int) (a2 : Int) (r : Bool) (w : World) (h : linotypelaw23_fails.f k a0 a1 a2 = some r) :
  Calls Tryd.prog 26 #[.string a0, .int .i64 a1, .int .i64 a2] w fun e w' => e = .returned (.bool r) ∧ Below w.heap.size w w' := by
 have hu32 := Tryd.underlying32
 have HB := Aside0.mk (Below.refl w.heap.size w)
 have H : ((token_Lex.f k a0).bind fun bt178 => ((expr_Parse.f k bt178.1 0).bind fun bt184 => (if bt178.2.1 = 0 then (if (bt184.1.length : Int) = 0 then (if bt184.2.1 = 0 then (some (bt184.2.2.1 == a1 && (bt184.2.2.2 == a2))) else (none)) else (none)) else (none)))) = some r := h
 clear h
 replace H := Option.bind_eq_some_iff.mp H
 obtain ⟨⟨t178, t181, t182⟩, A40, H⟩ := H
 replace H : ((expr_Parse.f k t178 0).bind fun bt184 => (if t181 = 0 then (if (bt184.1.length : Int) = 0 then (if bt184.2.1 = 0 then (some (bt184.2.2.1 == a1 && (bt184.2.2.2 == a2))) else (none)) else (none)) else (none))) = some r := H
 have A4 := Aside0.mk A40
 clear A40
 replace H := Option.bind_eq_some_iff.mp H
 obtain ⟨⟨t184, t187, t188, t189⟩, A50, H⟩ := H
 replace H : (if t181 = 0 then (if (t184.length : Int) = 0 then (if t187 = 0 then (some (t188 == a1 && (t189 == a2))) else (none)) else (none)) else (none)) = some r := H
 have A5 := Aside0.mk A50
 clear A50
 by_cases c6 : t181 = 0
 ·rw [if_pos c6] at H
  have c6b0 : (t181 == 0) = true := beq_iff_eq.mpr c6
  have c6b1 : (t181 != 0) = false := bne_eq_false_iff_eq.mpr c6
  clear c6
  by_cases c7 : (t184.length : Int) = 0
  ·rw [if_pos c7] at H
   have c7b0 : ((t184.length : Int) == 0) = true := beq_iff_eq.mpr c7
   have c7b1 : ((t184.length : Int) != 0) = false := bne_eq_false_iff_eq.mpr c7
   clear c7
   by_cases c8 : t187 = 0
   ·rw [if_pos c8] at H
    have c8b0 : (t187 == 0) = true := beq_iff_eq.mpr c8
    have c8b1 : (t187 != 0) = false := bne_eq_false_iff_eq.mpr c8
    clear c8
    obtain rfl := Option.some.inj H
    go_enter Tryd.func26, Tryd.ntmps26
    go_wp2_with (first | ((with_reducible refine gate_callee (f := 13) rfl ?_); refine goesL_ (some 14) rfl rfl Tryd.func13 (by kernel_rfl) rfl #[.string a0] rfl (by (try simp only [List.map_toArray, List.map_cons, List.map_nil]); first | done | rfl | (simp only [List.length_drop, List.length_take]; rfl)) ?_; (with_reducible refine (token_Lex.calls k a0 t178 t181 t182 _ A4.out).mono ?_); rintro e w9 ⟨v179, rfl, ho0, hb⟩; refine ⟨_, rfl, ?_⟩; have n0_ := Aside0.mk (Kd.R_lower ho0 (below_size (by repeat (first | (with_reducible first | exact HB.out | apply below_alloc | apply pw_below_drewN | apply below_drew1) | exact HB.out)))); have n1_ := Aside0.mk (below_step (by repeat (first | (with_reducible first | exact HB.out | apply below_alloc | apply pw_below_drewN | apply below_drew1) | exact HB.out)) hb); clear HB; have HO180 := n0_; have HB := n1_; clear n0_ n1_; (try clear hb); (try clear hb2); (try clear hk); (try clear hi); (try clear ho0)) | ((with_reducible refine gate_dst (N := 8) rfl ?_); (try (refine gate_guard (by rfl) ?_; dsimp only)); refine box_event ?hg (N := 8) ?hd (cs := #[.int .i64 0, .int .i64 0]) (t := 32) ?hr ?_; (case hd => rfl); (case hg => rfl); (case hr => first | (go_simp; done) | (go_simp; rfl)); intro gb183 hg w10 hbox hb; have n0_ := Aside0.mk (Kd.R_below (by (with_reducible repeat (first | apply Kd.R_alloc | apply Kd.R_drewN | apply Kd.R_drew)); exact HO180.out) hb); have n1_ := Aside0.mk (below_step (by repeat (first | (with_reducible first | exact HB.out | apply below_alloc | apply pw_below_drewN | apply below_drew1) | exact HB.out)) hb); have n2_ := Aside0.mk (hbox); have n3_ := Aside0.mk ((by rw [hg]; exact (below_size (by repeat (first | (with_reducible first | exact HB.out | apply below_alloc | apply pw_below_drewN | apply below_drew1) | exact HB.out))) : w.heap.size ≤ gb183)); have n4_ := Aside0.mk ((by rw [hg]; exact (below_size (by repeat (first | (with_reducible first | exact HB.out | apply below_alloc | apply pw_below_drewN | apply below_drew1) | exact HB.out))) : w.heap.size ≤ gb183)); clear HO180; clear HB; have HO180 := n0_; have HB := n1_; have BK183 := n2_; have GW183 := n3_; have GE183 := n4_; clear n0_ n1_ n2_ n3_ n4_; clear hb hbox hg; have hcz11_0 : w10.cell? ⟨gb183, 0, none⟩ = some (.int .i64 0) := (blk_cell BK183.out 0).trans rfl; have hcz11_1 : w10.cell? ⟨gb183, 1, none⟩ = some (.int .i64 0) := (blk_cell BK183.out 1).trans rfl; have hfz11_0 := blk_frozen BK183.out 0; have hfz11_1 := blk_frozen BK183.out 1; obtain ⟨Ao12, co12, eo12⟩ := Kd.R_slice HO180.out; subst eo12) | ((with_reducible refine gate_callee (f := 21) rfl ?_); refine goesL_ (some 19) rfl rfl Tryd.func21 (by kernel_rfl) rfl #[.slice Ao12 t178.length co12, .int .i64 0] rfl (by (try simp only [List.map_toArray, List.map_cons, List.map_nil]); first | done | rfl | (simp only [List.length_drop, List.length_take]; rfl)) ?_; (with_reducible refine (expr_Parse.calls k _ _ t178 0 t184 t187 t188 t189 _ ?side1 ?side2 A5.out).mono ?_); (case side1 => refine (Kd.R_reads' (e := 37) (base := w.heap.size) (ok := fun k_ => True) (n := t178.length) (c := co12) ?_).2.2; exact (by (with_reducible repeat (first | apply Kd.R_alloc | apply Kd.R_drewN | apply Kd.R_drew)); exact (Kd.R_mono (Kd.R_far (p := ⟨gb183, 1, none⟩) (Kd.R_far (p := ⟨gb183, 0, none⟩) (Kd.R_types HO180.out BK183.out (by decide)) (fun _ hk => hk.2) (.int .i64 t181)) (fun _ hk => hk.2) (.int .i64 t182)) (fun _ h_ => h_.1)))); (case side2 => exact (Kd.R_reads' HO180.out).2.1); rintro e w13 ⟨v185, rfl, ho0, hb⟩; refine ⟨_, rfl, ?_⟩; have n0_ := Aside0.mk (Kd.R_below (by (with_reducible repeat (first | apply Kd.R_alloc | apply Kd.R_drewN | apply Kd.R_drew)); exact (Kd.R_mono (Kd.R_far (p := ⟨gb183, 1, none⟩) (Kd.R_far (p := ⟨gb183, 0, none⟩) (Kd.R_types HO180.out BK183.out (by decide)) (fun _ hk => hk.2) (.int .i64 t181)) (fun _ hk => hk.2) (.int .i64 t182)) (fun _ h_ => h_.1))) hb); have n1_ := Aside0.mk (Kd.R_lower ho0 (below_size (by repeat (first | (with_reducible first | exact HB.out | apply below_alloc | apply pw_below_drewN | apply below_drew1 | refine below_set ?_ GE183.out) | exact HB.out)))); have n2_ := Aside0.mk (blk_below (g := gb183) (o := .cells #[.int .i64 t181, .int .i64 t182] 32 (0, 0)) (by (with_reducible repeat (first | refine blk_drewN ?_ _ | refine blk_drew ?_ | refine blk_alloc ?_ _)); refine blk_put (cs := #[.int .i64 t181, .int .i64 0]) ?_ 1 _ rfl; (with_reducible repeat (first | refine blk_drewN ?_ _ | refine blk_drew ?_ | refine blk_alloc ?_ _)); refine blk_put (cs := #[.int .i64 0, .int .i64 0]) ?_ 0 _ rfl; (with_reducible repeat (first | refine blk_drewN ?_ _ | refine blk_drew ?_ | refine blk_alloc ?_ _)); exact BK183.out) hb); have n3_ := Aside0.mk (below_step (by repeat (first | (with_reducible first | exact HB.out | apply below_alloc | apply pw_below_drewN | apply below_drew1 | refine below_set ?_ GE183.out) | exact HB.out)) hb); clear HO180; clear BK183; clear HB; have HO180 := n0_; have HO186 := n1_; have BK183 := n2_; have HB := n3_; clear n0_ n1_ n2_ n3_; (try clear hb); (try clear hb2); (try clear hk); (try clear hi); (try clear ho0)) | ((with_reducible refine gate_dst (N := 11) rfl ?_); (try (refine gate_guard (by rfl) ?_; dsimp only)); refine box_event ?hg (N := 11) ?hd (cs := #[.int .i64 0, .int .i64 0]) (t := 32) ?hr ?_; (case hd => rfl); (case hg => rfl); (case hr => first | (go_simp; done) | (go_simp; rfl)); intro gb190 hg w14 hbox hb; have n0_ := Aside0.mk (Kd.R_below (by (with_reducible repeat (first | apply Kd.R_alloc | apply Kd.R_drewN | apply Kd.R_drew)); exact HO180.out) hb); have n1_ := Aside0.mk (Kd.R_below (by (with_reducible repeat (first | apply Kd.R_alloc | apply Kd.R_drewN | apply Kd.R_drew)); exact HO186.out) hb); have n2_ := Aside0.mk (blk_below (g := gb183) (o := .cells #[.int .i64 t181, .int .i64 t182] 32 (0, 0)) (by (with_reducible repeat (first | refine blk_drewN ?_ _ | refine blk_drew ?_ | refine blk_alloc ?_ _)); exact BK183.out) hb); have n3_ := Aside0.mk (below_step (by repeat (first | (with_reducible first | exact HB.out | apply below_alloc | apply pw_below_drewN | apply below_drew1 | refine below_set ?_ GE183.out) | exact HB.out)) hb); have n4_ := Aside0.mk (hbox); have n5_ := Aside0.mk ((by rw [hg]; exact (below_size (by repeat (first | (with_reducible first | exact HB.out | apply below_alloc | apply pw_below_drewN | apply below_drew1 | refine below_set ?_ GE183.out) | exact HB.out))) : w.heap.size ≤ gb190)); have n6_ := Aside0.mk ((by rw [hg]; exact (below_size (by repeat (first | (with_reducible first | exact HB.out | apply below_alloc | apply pw_below_drewN | apply below_drew1 | refine below_set ?_ GE183.out) | exact HB.out))) : w.heap.size ≤ gb190)); have n7_ := Aside0.mk ((by rw [hg]; exact Nat.ne_of_lt (blk_lt (g := gb183) (o := .cells #[.int .i64 t181, .int .i64 t182] 32 (0, 0)) (by (with_reducible repeat (first | refine blk_drewN ?_ _ | refine blk_drew ?_ | refine blk_alloc ?_ _)); exact BK183.out)) : gb183 ≠ gb190)); have n8_ := Aside0.mk ((by rw [hg]; exact Nat.ne_of_gt (blk_lt (g := gb183) (o := .cells #[.int .i64 t181, .int .i64 t182] 32 (0, 0)) (by (with_reducible repeat (first | refine blk_drewN ?_ _ | refine blk_drew ?_ | refine blk_alloc ?_ _)); exact BK183.out)) : gb190 ≠ gb183)); clear HO180; clear HO186; clear BK183; clear HB; have HO180 := n0_; have HO186 := n1_; have BK183 := n2_; have HB := n3_; have BK190 := n4_; have GW190 := n5_; have GE190 := n6_; have NB183_190 := n7_; have NB190_183 := n8_; clear n0_ n1_ n2_ n3_ n4_ n5_ n6_ n7_ n8_; clear hb hbox hg; have hnb15 := NB190_183.out; have hnc15 := NB183_190.out; have hcz16_0 : w14.cell? ⟨gb190, 0, none⟩ = some (.int .i64 0) := (blk_cell BK190.out 0).trans rfl; have hcz16_1 : w14.cell? ⟨gb190, 1, none⟩ = some (.int .i64 0) := (blk_cell BK190.out 1).trans rfl; have hfz16_0 := blk_frozen BK190.out 0; have hfz16_1 := blk_frozen BK190.out 1; have hcz17_0 : w14.cell? ⟨gb183, 0, none⟩ = some (.int .i64 t181) := (blk_cell BK183.out 0).trans rfl; have hcz17_1 : w14.cell? ⟨gb183, 1, none⟩ = some (.int .i64 t182) := (blk_cell BK183.out 1).trans rfl; have hfz17_0 := blk_frozen BK183.out 0; have hfz17_1 := blk_frozen BK183.out 1; obtain ⟨Ao18, co18, eo18⟩ := Kd.R_slice HO186.out; subst eo18))
    go_ret
    exact ⟨by first | rfl | (simp [errW_none, errW_some] <;> rfl) | (simp [*, errW_none, errW_some] <;> rfl), by repeat (first | (with_reducible first | exact HB.out | apply below_alloc | apply pw_below_drewN | apply below_drew1 | refine below_set ?_ GE183.out | refine below_set ?_ GE190.out) | exact HB.out)⟩
   ·rw [if_neg c8] at H
    exact absurd H (by simp)
  ·rw [if_neg c7] at H
   exact absurd H (by simp)
 ·rw [if_neg c6] at H
  exact absurd H (by simp)

/-! ### linotypelaw23_is: function 44 -/
def linotypelaw23_is.f (k : Nat) (a0 : ByteArray) (a1 : Int) : Option (Bool) := (token_Lex.f k a0).bind fun bt191 => ((expr_Parse.f k bt191.1 0).bind fun bt197 => ((expr_Eval.f k bt197.1 (([(⟨(⟨#[120]⟩ : ByteArray), 5, true⟩ : S80)] : List (S80))) 7 1).bind fun bt207 => (if bt191.2.1 = 0 then (if bt197.2.2.1 = 0 then (if bt197.2.1 = (bt191.1.length : Int) then (if bt207.2.2 = 0 then (some (bt207.1 == a1)) else (none)) else (none)) else (none)) else (none))))
theorem linotypelaw23_is.mono : ∀ a0 a1 k, LeO (linotypelaw23_is.f k a0 a1) (linotypelaw23_is.f (k + 1) a0 a1) := by
 intro a0 a1 k
 unfold linotypelaw23_is.f
 repeat' first
   | (with_reducible exact expr_Eval.mono _ _ _ _ _)
   | (with_reducible exact expr_Parse.mono _ _ _)
   | (with_reducible exact token_Lex.mono _ _)
   | (with_reducible exact LeO.refl _)
   | (with_reducible exact LeO.none _)
   | (with_reducible refine LeO.ite ?_ ?_)
   | (with_reducible refine LeO.bind ?_ (fun _ => ?_))
   | exact expr_Eval.mono _ _ _ _ _
   | exact expr_Parse.mono _ _ _
   | exact token_Lex.mono _ _
   | exact LeO.none _
   | refine LeO.ite ?_ ?_
   | refine LeO.bind ?_ (fun _ => ?_)
set_option maxHeartbeats 8000000 in
set_option maxRecDepth 100000 in
theorem linotypelaw23_is.calls (k : Nat) (a0 : ByteArray) (a1 : Int) (r : Bool) (w : World) (h : linotypelaw23_is.f k a0 a1 = some r) :
  Calls Tryd.prog 44 #[.string a0, .int .i64 a1] w fun e w' => e = .returned (.bool r) ∧ Below w.heap.size w w' := by
 have hu32 := Tryd.underlying32
 have hu80 := Tryd.underlying80
 have HB := Aside0.mk (Below.refl w.heap.size w)
 have H : ((token_Lex.f k a0).bind fun bt191 => ((expr_Parse.f k bt191.1 0).bind fun bt197 => ((expr_Eval.f k bt197.1 (([(⟨(⟨#[120]⟩ : ByteArray), 5, true⟩ : S80)] : List (S80))) 7 1).bind fun bt207 => (if bt191.2.1 = 0 then (if bt197.2.2.1 = 0 then (if bt197.2.1 = (bt191.1.length : Int) then (if bt207.2.2 = 0 then (some (bt207.1 == a1)) else (none)) else (none)) else (none)) else (none))))) = some r := h
 clear h
 replace H := Option.bind_eq_some_iff.mp H
 obtain ⟨⟨t191, t194, t195⟩, A30, H⟩ := H
 replace H : ((expr_Parse.f k t191 0).bind fun bt197 => ((expr_Eval.f k bt197.1 (([(⟨(⟨#[120]⟩ : ByteArray), 5, true⟩ : S80)] : List (S80))) 7 1).bind fun bt207 => (if t194 = 0 then (if bt197.2.2.1 = 0 then (if bt197.2.1 = (t191.length : Int) then (if bt207.2.2 = 0 then (some (bt207.1 == a1)) else (none)) else (none)) else (none)) else (none)))) = some r := H
 have A3 := Aside0.mk A30
 clear A30
 replace H := Option.bind_eq_some_iff.mp H
 obtain ⟨⟨t197, t200, t201, t202⟩, A40, H⟩ := H
 replace H : ((expr_Eval.f k t197 (([(⟨(⟨#[120]⟩ : ByteArray), 5, true⟩ : S80)] : List (S80))) 7 1).bind fun bt207 => (if t194 = 0 then (if t201 = 0 then (if t200 = (t191.length : Int) then (if bt207.2.2 = 0 then (some (bt207.1 == a1)) else (none)) else (none)) else (none)) else (none))) = some r := H
 have A4 := Aside0.mk A40
 clear A40
 obtain ⟨y204, hy204⟩ : ∃ y_ : List (S80), y_ = (([(⟨(⟨#[120]⟩ : ByteArray), 5, true⟩ : S80)] : List (S80))) := ⟨_, rfl⟩
 replace H : ((expr_Eval.f k t197 y204 7 1).bind fun bt207 => (if t194 = 0 then (if t201 = 0 then (if t200 = (t191.length : Int) then (if bt207.2.2 = 0 then (some (bt207.1 == a1)) else (none)) else (none)) else (none)) else (none))) = some r := by first | (rw [hy204]; with_reducible exact H) | (have H2_ := (Option.bind_some _ _).symm.trans H; rw [hy204]; with_reducible exact H2_) | (have H2_ := (Option.bind_some _ _).symm.trans H; with_reducible exact H2_) | with_reducible exact H | (rw [hy204]; exact H) | exact H
 have Ny204 := Aside0.mk hy204
 clear hy204
 replace H := Option.bind_eq_some_iff.mp H
 obtain ⟨⟨t207, t208, t209⟩, A50, H⟩ := H
 replace H : (if t194 = 0 then (if t201 = 0 then (if t200 = (t191.length : Int) then (if t209 = 0 then (some (t207 == a1)) else (none)) else (none)) else (none)) else (none)) = some r := H
 have A5 := Aside0.mk A50
 clear A50
 by_cases c6 : t194 = 0
 ·rw [if_pos c6] at H
  have c6b0 : (t194 == 0) = true := beq_iff_eq.mpr c6
  have c6b1 : (t194 != 0) = false := bne_eq_false_iff_eq.mpr c6
  clear c6
  by_cases c7 : t201 = 0
  ·rw [if_pos c7] at H
   have c7b0 : (t201 == 0) = true := beq_iff_eq.mpr c7
   have c7b1 : (t201 != 0) = false := bne_eq_false_iff_eq.mpr c7
   clear c7
   by_cases c8 : t200 = (t191.length : Int)
   ·rw [if_pos c8] at H
    have c8b0 : (t200 == (t191.length : Int)) = true := beq_iff_eq.mpr c8
    have c8b1 : (t200 != (t191.length : Int)) = false := bne_eq_false_iff_eq.mpr c8
    clear c8
    by_cases c9 : t209 = 0
    ·rw [if_pos c9] at H
     have c9b0 : (t209 == 0) = true := beq_iff_eq.mpr c9
     have c9b1 : (t209 != 0) = false := bne_eq_false_iff_eq.mpr c9
     clear c9
     obtain rfl := Option.some.inj H
     go_enter Tryd.func44, Tryd.ntmps44
     go_wp2_with (first | ((with_reducible refine gate_callee (f := 13) rfl ?_); refine goesL_ (some 15) rfl rfl Tryd.func13 (by kernel_rfl) rfl #[.string a0] rfl (by (try simp only [List.map_toArray, List.map_cons, List.map_nil]); first | done | rfl | (simp only [List.length_drop, List.length_take]; rfl)) ?_; (with_reducible refine (token_Lex.calls k a0 t191 t194 t195 _ A3.out).mono ?_); rintro e w10 ⟨v192, rfl, ho0, hb⟩; refine ⟨_, rfl, ?_⟩; have n0_ := Aside0.mk (Kd.R_lower ho0 (below_size (by repeat (first | (with_reducible first | exact HB.out | apply below_alloc | apply pw_below_drewN | apply below_drew1) | exact HB.out)))); have n1_ := Aside0.mk (below_step (by repeat (first | (with_reducible first | exact HB.out | apply below_alloc | apply pw_below_drewN | apply below_drew1) | exact HB.out)) hb); clear HB; have HO193 := n0_; have HB := n1_; clear n0_ n1_; (try clear hb); (try clear hb2); (try clear hk); (try clear hi); (try clear ho0)) | ((with_reducible refine gate_dst (N := 6) rfl ?_); (try (refine gate_guard (by rfl) ?_; dsimp only)); refine box_event ?hg (N := 6) ?hd (cs := #[.int .i64 0, .int .i64 0]) (t := 32) ?hr ?_; (case hd => rfl); (case hg => rfl); (case hr => first | (go_simp; done) | (go_simp; rfl)); intro gb196 hg w11 hbox hb; have n0_ := Aside0.mk (Kd.R_below (by (with_reducible repeat (first | apply Kd.R_alloc | apply Kd.R_drewN | apply Kd.R_drew)); exact HO193.out) hb); have n1_ := Aside0.mk (below_step (by repeat (first | (with_reducible first | exact HB.out | apply below_alloc | apply pw_below_drewN | apply below_drew1) | exact HB.out)) hb); have n2_ := Aside0.mk (hbox); have n3_ := Aside0.mk ((by rw [hg]; exact (below_size (by repeat (first | (with_reducible first | exact HB.out | apply below_alloc | apply pw_below_drewN | apply below_drew1) | exact HB.out))) : w.heap.size ≤ gb196)); have n4_ := Aside0.mk ((by rw [hg]; exact (below_size (by repeat (first | (with_reducible first | exact HB.out | apply below_alloc | apply pw_below_drewN | apply below_drew1) | exact HB.out))) : w.heap.size ≤ gb196)); clear HO193; clear HB; have HO193 := n0_; have HB := n1_; have BK196 := n2_; have GW196 := n3_; have GE196 := n4_; clear n0_ n1_ n2_ n3_ n4_; clear hb hbox hg; have hcz12_0 : w11.cell? ⟨gb196, 0, none⟩ = some (.int .i64 0) := (blk_cell BK196.out 0).trans rfl; have hcz12_1 : w11.cell? ⟨gb196, 1, none⟩ = some (.int .i64 0) := (blk_cell BK196.out 1).trans rfl; have hfz12_0 := blk_frozen BK196.out 0; have hfz12_1 := blk_frozen BK196.out 1; obtain ⟨Ao13, co13, eo13⟩ := Kd.R_slice HO193.out; subst eo13) | ((with_reducible refine gate_callee (f := 21) rfl ?_); refine goesL_ (some 20) rfl rfl Tryd.func21 (by kernel_rfl) rfl #[.slice Ao13 t191.length co13, .int .i64 0] rfl (by (try simp only [List.map_toArray, List.map_cons, List.map_nil]); first | done | rfl | (simp only [List.length_drop, List.length_take]; rfl)) ?_; (with_reducible refine (expr_Parse.calls k _ _ t191 0 t197 t200 t201 t202 _ ?side1 ?side2 A4.out).mono ?_); (case side1 => refine (Kd.R_reads' (e := 37) (base := w.heap.size) (ok := fun k_ => True) (n := t191.length) (c := co13) ?_).2.2; exact (by (with_reducible repeat (first | apply Kd.R_alloc | apply Kd.R_drewN | apply Kd.R_drew)); exact (Kd.R_mono (Kd.R_far (p := ⟨gb196, 1, none⟩) (Kd.R_far (p := ⟨gb196, 0, none⟩) (Kd.R_types HO193.out BK196.out (by decide)) (fun _ hk => hk.2) (.int .i64 t194)) (fun _ hk => hk.2) (.int .i64 t195)) (fun _ h_ => h_.1)))); (case side2 => exact (Kd.R_reads' HO193.out).2.1); rintro e w14 ⟨v198, rfl, ho0, hb⟩; refine ⟨_, rfl, ?_⟩; have n0_ := Aside0.mk (Kd.R_below (by (with_reducible repeat (first | apply Kd.R_alloc | apply Kd.R_drewN | apply Kd.R_drew)); exact (Kd.R_mono (Kd.R_far (p := ⟨gb196, 1, none⟩) (Kd.R_far (p := ⟨gb196, 0, none⟩) (Kd.R_types HO193.out BK196.out (by decide)) (fun _ hk => hk.2) (.int .i64 t194)) (fun _ hk => hk.2) (.int .i64 t195)) (fun _ h_ => h_.1))) hb); have n1_ := Aside0.mk (Kd.R_lower ho0 (below_size (by repeat (first | (with_reducible first | exact HB.out | apply below_alloc | apply pw_below_drewN | apply below_drew1 | refine below_set ?_ GE196.out) | exact HB.out)))); have n2_ := Aside0.mk (blk_below (g := gb196) (o := .cells #[.int .i64 t194, .int .i64 t195] 32 (0, 0)) (by (with_reducible repeat (first | refine blk_drewN ?_ _ | refine blk_drew ?_ | refine blk_alloc ?_ _)); refine blk_put (cs := #[.int .i64 t194, .int .i64 0]) ?_ 1 _ rfl; (with_reducible repeat (first | refine blk_drewN ?_ _ | refine blk_drew ?_ | refine blk_alloc ?_ _)); refine blk_put (cs := #[.int .i64 0, .int .i64 0]) ?_ 0 _ rfl; (with_reducible repeat (first | refine blk_drewN ?_ _ | refine blk_drew ?_ | refine blk_alloc ?_ _)); exact BK196.out) hb); have n3_ := Aside0.mk (below_step (by repeat (first | (with_reducible first | exact HB.out | apply below_alloc | apply pw_below_drewN | apply below_drew1 | refine below_set ?_ GE196.out) | exact HB.out)) hb); clear HO193; clear BK196; clear HB; have HO193 := n0_; have HO199 := n1_; have BK196 := n2_; have HB := n3_; clear n0_ n1_ n2_ n3_; (try clear hb); (try clear hb2); (try clear hk); (try clear hi); (try clear ho0)) | ((with_reducible refine gate_dst (N := 9) rfl ?_); (try (refine gate_guard (by rfl) ?_; dsimp only)); refine box_event ?hg (N := 9) ?hd (cs := #[.int .i64 0, .int .i64 0]) (t := 32) ?hr ?_; (case hd => rfl); (case hg => rfl); (case hr => first | (go_simp; done) | (go_simp; rfl)); intro gb203 hg w15 hbox hb; have n0_ := Aside0.mk (Kd.R_below (by (with_reducible repeat (first | apply Kd.R_alloc | apply Kd.R_drewN | apply Kd.R_drew)); exact HO193.out) hb); have n1_ := Aside0.mk (Kd.R_below (by (with_reducible repeat (first | apply Kd.R_alloc | apply Kd.R_drewN | apply Kd.R_drew)); exact HO199.out) hb); have n2_ := Aside0.mk (blk_below (g := gb196) (o := .cells #[.int .i64 t194, .int .i64 t195] 32 (0, 0)) (by (with_reducible repeat (first | refine blk_drewN ?_ _ | refine blk_drew ?_ | refine blk_alloc ?_ _)); exact BK196.out) hb); have n3_ := Aside0.mk (below_step (by repeat (first | (with_reducible first | exact HB.out | apply below_alloc | apply pw_below_drewN | apply below_drew1 | refine below_set ?_ GE196.out) | exact HB.out)) hb); have n4_ := Aside0.mk (hbox); have n5_ := Aside0.mk ((by rw [hg]; exact (below_size (by repeat (first | (with_reducible first | exact HB.out | apply below_alloc | apply pw_below_drewN | apply below_drew1 | refine below_set ?_ GE196.out) | exact HB.out))) : w.heap.size ≤ gb203)); have n6_ := Aside0.mk ((by rw [hg]; exact (below_size (by repeat (first | (with_reducible first | exact HB.out | apply below_alloc | apply pw_below_drewN | apply below_drew1 | refine below_set ?_ GE196.out) | exact HB.out))) : w.heap.size ≤ gb203)); have n7_ := Aside0.mk ((by rw [hg]; exact Nat.ne_of_lt (blk_lt (g := gb196) (o := .cells #[.int .i64 t194, .int .i64 t195] 32 (0, 0)) (by (with_reducible repeat (first | refine blk_drewN ?_ _ | refine blk_drew ?_ | refine blk_alloc ?_ _)); exact BK196.out)) : gb196 ≠ gb203)); have n8_ := Aside0.mk ((by rw [hg]; exact Nat.ne_of_gt (blk_lt (g := gb196) (o := .cells #[.int .i64 t194, .int .i64 t195] 32 (0, 0)) (by (with_reducible repeat (first | refine blk_drewN ?_ _ | refine blk_drew ?_ | refine blk_alloc ?_ _)); exact BK196.out)) : gb203 ≠ gb196)); clear HO193; clear HO199; clear BK196; clear HB; have HO193 := n0_; have HO199 := n1_; have BK196 := n2_; have HB := n3_; have BK203 := n4_; have GW203 := n5_; have GE203 := n6_; have NB196_203 := n7_; have NB203_196 := n8_; clear n0_ n1_ n2_ n3_ n4_ n5_ n6_ n7_ n8_; clear hb hbox hg; have hnb16 := NB203_196.out; have hnc16 := NB196_203.out; have hcz17_0 : w15.cell? ⟨gb203, 0, none⟩ = some (.int .i64 0) := (blk_cell BK203.out 0).trans rfl; have hcz17_1 : w15.cell? ⟨gb203, 1, none⟩ = some (.int .i64 0) := (blk_cell BK203.out 1).trans rfl; have hfz17_0 := blk_frozen BK203.out 0; have hfz17_1 := blk_frozen BK203.out 1) | ((with_reducible refine gate_dst (N := 27) rfl ?_); (try (refine gate_guard (by rfl) ?_; dsimp only)); refine Kd.R_lit k80 _ 80 ?hg (N := 27) ?hd (xs := ([(⟨(⟨#[120]⟩ : ByteArray), 5, true⟩ : S80)] : List (S80))) (inner := [.string (⟨#[120]⟩ : ByteArray), .int .i64 5, .bool true]) (ok := fun _ => True) (okp := fun _ => True) ?hr ?hp (fun _ hk => hk) trivial (Below.refl _ _) (Nat.le_refl _) (by simp) ?_; (case hd => rfl); (case hg => rfl); (case hr => first | (go_simp; done) | (go_simp; rfl)); (case hp => exact (Reps.c3 (show Kd.M k80 _ _ _ (⟨(⟨#[120]⟩ : ByteArray), 5, true⟩ : S80) [.string (⟨#[120]⟩ : ByteArray), .int .i64 5, .bool true] from (k80_mkM _ _ _ (⟨(⟨#[120]⟩ : ByteArray), 5, true⟩ : S80) )) (Reps.none _ _))); intro v205 w18 ho19 hb hg_ hnew_; clear hg_ hnew_; (first | rw [← Ny204.out] at ho19 | (simp only [Int.reduceToNat] at ho19; rw [← Ny204.out] at ho19)); have n0_ := Aside0.mk (Kd.R_below (by (with_reducible repeat (first | apply Kd.R_alloc | apply Kd.R_drewN | apply Kd.R_drew)); exact (Kd.R_mono (Kd.R_far (p := ⟨gb203, 1, none⟩) (Kd.R_far (p := ⟨gb203, 0, none⟩) (Kd.R_types HO193.out BK203.out (by decide)) (fun _ hk => hk.2) (.int .i64 t201)) (fun _ hk => hk.2) (.int .i64 t202)) (fun _ h_ => h_.1))) hb); have n1_ := Aside0.mk (Kd.R_below (by (with_reducible repeat (first | apply Kd.R_alloc | apply Kd.R_drewN | apply Kd.R_drew)); exact (Kd.R_mono (Kd.R_far (p := ⟨gb203, 1, none⟩) (Kd.R_far (p := ⟨gb203, 0, none⟩) (Kd.R_types HO199.out BK203.out (by decide)) (fun _ hk => hk.2) (.int .i64 t201)) (fun _ hk => hk.2) (.int .i64 t202)) (fun _ h_ => h_.1))) hb); have n2_ := Aside0.mk (Kd.R_lower ho19 (below_size (by repeat (first | (with_reducible first | exact HB.out | apply below_alloc | apply pw_below_drewN | apply below_drew1 | refine below_set ?_ GE196.out | refine below_set ?_ GE203.out) | exact HB.out)))); have n3_ := Aside0.mk (blk_below (g := gb196) (o := .cells #[.int .i64 t194, .int .i64 t195] 32 (0, 0)) (by (with_reducible repeat (first | refine blk_drewN ?_ _ | refine blk_drew ?_ | refine blk_alloc ?_ _)); refine blk_far ?_ NB196_203.out _; (with_reducible repeat (first | refine blk_drewN ?_ _ | refine blk_drew ?_ | refine blk_alloc ?_ _)); refine blk_far ?_ NB196_203.out _; (with_reducible repeat (first | refine blk_drewN ?_ _ | refine blk_drew ?_ | refine blk_alloc ?_ _)); exact BK196.out) hb); have n4_ := Aside0.mk (blk_below (g := gb203) (o := .cells #[.int .i64 t201, .int .i64 t202] 32 (0, 0)) (by (with_reducible repeat (first | refine blk_drewN ?_ _ | refine blk_drew ?_ | refine blk_alloc ?_ _)); refine blk_put (cs := #[.int .i64 t201, .int .i64 0]) ?_ 1 _ rfl; (with_reducible repeat (first | refine blk_drewN ?_ _ | refine blk_drew ?_ | refine blk_alloc ?_ _)); refine blk_put (cs := #[.int .i64 0, .int .i64 0]) ?_ 0 _ rfl; (with_reducible repeat (first | refine blk_drewN ?_ _ | refine blk_drew ?_ | refine blk_alloc ?_ _)); exact BK203.out) hb); have n5_ := Aside0.mk (below_step (by repeat (first | (with_reducible first | exact HB.out | apply below_alloc | apply pw_below_drewN | apply below_drew1 | refine below_set ?_ GE196.out | refine below_set ?_ GE203.out) | exact HB.out)) hb); clear HO193; clear HO199; clear BK196; clear BK203; clear HB; have HO193 := n0_; have HO199 := n1_; have HO206 := n2_; have BK196 := n3_; have BK203 := n4_; have HB := n5_; clear n0_ n1_ n2_ n3_ n4_ n5_; clear hb ho19; obtain ⟨Ao20, co20, eo20⟩ := Kd.R_slice HO199.out; subst eo20; obtain ⟨Ao21, co21, eo21⟩ := Kd.R_slice HO206.out; subst eo21) | ((with_reducible refine gate_callee (f := 24) rfl ?_); refine goesL_ (some 28) rfl rfl Tryd.func24 (by kernel_rfl) rfl #[.slice Ao20 t197.length co20, .slice Ao21 y204.length co21, .int .i64 7, .int .i64 1] rfl (by (try simp only [List.map_toArray, List.map_cons, List.map_nil]); first | done | rfl | (simp only [List.length_drop, List.length_take]; rfl)) ?_; (with_reducible refine (expr_Eval.calls k _ _ t197 _ _ y204 7 1 t207 t208 t209 _ ?side1 ?side2 ?side3 ?side4 A5.out).mono ?_); (case side1 => repeat (first | exact (Kd.R_reads' HO199.out).2.2 | (with_reducible refine Kd.C_alloc ?_ _) | (with_reducible refine Kd.C_drewN ?_ _) | (with_reducible refine Kd.C_drew ?_))); (case side2 => exact (Kd.R_reads' HO199.out).2.1); (case side3 => repeat (first | exact (Kd.R_reads' HO206.out).2.2 | (with_reducible refine Kd.C_alloc ?_ _) | (with_reducible refine Kd.C_drewN ?_ _) | (with_reducible refine Kd.C_drew ?_))); (case side4 => exact (Kd.R_reads' HO206.out).2.1); rintro e w22 ⟨rfl, hb⟩; refine ⟨_, rfl, ?_⟩; have n0_ := Aside0.mk (Kd.R_below (by (with_reducible repeat (first | apply Kd.R_alloc | apply Kd.R_drewN | apply Kd.R_drew)); exact HO193.out) hb); have n1_ := Aside0.mk (Kd.R_below (by (with_reducible repeat (first | apply Kd.R_alloc | apply Kd.R_drewN | apply Kd.R_drew)); exact HO199.out) hb); have n2_ := Aside0.mk (Kd.R_below (by (with_reducible repeat (first | apply Kd.R_alloc | apply Kd.R_drewN | apply Kd.R_drew)); exact HO206.out) hb); have n3_ := Aside0.mk (blk_below (g := gb196) (o := .cells #[.int .i64 t194, .int .i64 t195] 32 (0, 0)) (by (with_reducible repeat (first | refine blk_drewN ?_ _ | refine blk_drew ?_ | refine blk_alloc ?_ _)); exact BK196.out) hb); have n4_ := Aside0.mk (blk_below (g := gb203) (o := .cells #[.int .i64 t201, .int .i64 t202] 32 (0, 0)) (by (with_reducible repeat (first | refine blk_drewN ?_ _ | refine blk_drew ?_ | refine blk_alloc ?_ _)); exact BK203.out) hb); have n5_ := Aside0.mk (below_step (by repeat (first | (with_reducible first | exact HB.out | apply below_alloc | apply pw_below_drewN | apply below_drew1 | refine below_set ?_ GE196.out | refine below_set ?_ GE203.out) | exact HB.out)) hb); clear HO193; clear HO199; clear HO206; clear BK196; clear BK203; clear HB; have HO193 := n0_; have HO199 := n1_; have HO206 := n2_; have BK196 := n3_; have BK203 := n4_; have HB := n5_; clear n0_ n1_ n2_ n3_ n4_ n5_; (try clear hb); (try clear hb2); (try clear hk); (try clear hi); have hcz23_0 : w22.cell? ⟨gb196, 0, none⟩ = some (.int .i64 t194) := (blk_cell BK196.out 0).trans rfl; have hcz23_1 : w22.cell? ⟨gb196, 1, none⟩ = some (.int .i64 t195) := (blk_cell BK196.out 1).trans rfl; have hfz23_0 := blk_frozen BK196.out 0; have hfz23_1 := blk_frozen BK196.out 1; have hcz24_0 : w22.cell? ⟨gb203, 0, none⟩ = some (.int .i64 t201) := (blk_cell BK203.out 0).trans rfl; have hcz24_1 : w22.cell? ⟨gb203, 1, none⟩ = some (.int .i64 t202) := (blk_cell BK203.out 1).trans rfl; have hfz24_0 := blk_frozen BK203.out 0; have hfz24_1 := blk_frozen BK203.out 1))
     go_ret
     exact ⟨by first | rfl | (simp [errW_none, errW_some] <;> rfl) | (simp [*, errW_none, errW_some] <;> rfl), by repeat (first | (with_reducible first | exact HB.out | apply below_alloc | apply pw_below_drewN | apply below_drew1 | refine below_set ?_ GE196.out | refine below_set ?_ GE203.out) | exact HB.out)⟩
    ·rw [if_neg c9] at H
     exact absurd H (by simp)
   ·rw [if_neg c8] at H
    exact absurd H (by simp)
  ·rw [if_neg c7] at H
   exact absurd H (by simp)
 ·rw [if_neg c6] at H
  exact absurd H (by simp)

/-! ### linotypelaw23_awake: function 25 -/
def linotypelaw23_awake.f (k : Nat)  : Option (Bool) := (linotypelaw23_is.f k (⟨#[49, 32, 43, 32, 50, 32, 42, 32, 51]⟩ : ByteArray) 7).bind fun t210 => (if t210 = true then ((linotypelaw23_is.f k (⟨#[40, 49, 32, 43, 32, 50, 41, 32, 42, 32, 51]⟩ : ByteArray) 9).bind fun t211 => (if t211 = true then ((linotypelaw23_is.f k (⟨#[55, 32, 45, 32, 50, 32, 45, 32, 49]⟩ : ByteArray) 4).bind fun t212 => (if t212 = true then ((linotypelaw23_is.f k (⟨#[45, 32, 49, 32, 62, 62, 32, 54, 48]⟩ : ByteArray) 15).bind fun t213 => (if t213 = true then ((linotypelaw23_is.f k (⟨#[120, 32, 43, 32, 36]⟩ : ByteArray) 12).bind fun t214 => (if t214 = true then ((linotypelaw23_fails.f k (⟨#[49, 32, 43]⟩ : ByteArray) 4 2).bind fun t215 => (some t215)) else (none))) else (none))) else (none))) else (none))) else (none))
theorem linotypelaw23_awake.mono : ∀ k, LeO (linotypelaw23_awake.f k ) (linotypelaw23_awake.f (k + 1) ) := by
 intro  k
 unfold linotypelaw23_awake.f
 repeat' first
   | (with_reducible exact linotypelaw23_fails.mono _ _ _ _)
   | (with_reducible exact linotypelaw23_is.mono _ _ _)
   | (with_reducible exact LeO.refl _)
   | (with_reducible exact LeO.none _)
   | (with_reducible refine LeO.ite ?_ ?_)
   | (with_reducible refine LeO.bind ?_ (fun _ => ?_))
   | exact linotypelaw23_fails.mono _ _ _ _
   | exact linotypelaw23_is.mono _ _ _
   | exact LeO.none _
   | refine LeO.ite ?_ ?_
   | refine LeO.bind ?_ (fun _ => ?_)
set_option maxHeartbeats 8000000 in
set_option maxRecDepth 100000 in
theorem linotypelaw23_awake.calls (k : Nat)  (r : Bool) (w : World) (h : linotypelaw23_awake.f k  = some r) :
  Calls Tryd.prog 25 #[] w fun e w' => e = .returned (.bool r) ∧ Below w.heap.size w w' := by
 have HB := Aside0.mk (Below.refl w.heap.size w)
 have H : ((linotypelaw23_is.f k (⟨#[49, 32, 43, 32, 50, 32, 42, 32, 51]⟩ : ByteArray) 7).bind fun t210 => (if t210 = true then ((linotypelaw23_is.f k (⟨#[40, 49, 32, 43, 32, 50, 41, 32, 42, 32, 51]⟩ : ByteArray) 9).bind fun t211 => (if t211 = true then ((linotypelaw23_is.f k (⟨#[55, 32, 45, 32, 50, 32, 45, 32, 49]⟩ : ByteArray) 4).bind fun t212 => (if t212 = true then ((linotypelaw23_is.f k (⟨#[45, 32, 49, 32, 62, 62, 32, 54, 48]⟩ : ByteArray) 15).bind fun t213 => (if t213 = true then ((linotypelaw23_is.f k (⟨#[120, 32, 43, 32, 36]⟩ : ByteArray) 12).bind fun t214 => (if t214 = true then ((linotypelaw23_fails.f k (⟨#[49, 32, 43]⟩ : ByteArray) 4 2).bind fun t215 => (some t215)) else (none))) else (none))) else (none))) else (none))) else (none))) = some r := h
 clear h
 replace H := Option.bind_eq_some_iff.mp H
 obtain ⟨t210, A10, H⟩ := H
 replace H : (if t210 = true then ((linotypelaw23_is.f k (⟨#[40, 49, 32, 43, 32, 50, 41, 32, 42, 32, 51]⟩ : ByteArray) 9).bind fun t211 => (if t211 = true then ((linotypelaw23_is.f k (⟨#[55, 32, 45, 32, 50, 32, 45, 32, 49]⟩ : ByteArray) 4).bind fun t212 => (if t212 = true then ((linotypelaw23_is.f k (⟨#[45, 32, 49, 32, 62, 62, 32, 54, 48]⟩ : ByteArray) 15).bind fun t213 => (if t213 = true then ((linotypelaw23_is.f k (⟨#[120, 32, 43, 32, 36]⟩ : ByteArray) 12).bind fun t214 => (if t214 = true then ((linotypelaw23_fails.f k (⟨#[49, 32, 43]⟩ : ByteArray) 4 2).bind fun t215 => (some t215)) else (none))) else (none))) else (none))) else (none))) else (none)) = some r := H
 have A1 := Aside0.mk A10
 clear A10
 by_cases c2 : t210 = true
 ·subst c2
  have H1 : ((linotypelaw23_is.f k (⟨#[40, 49, 32, 43, 32, 50, 41, 32, 42, 32, 51]⟩ : ByteArray) 9).bind fun t211 => (if t211 = true then ((linotypelaw23_is.f k (⟨#[55, 32, 45, 32, 50, 32, 45, 32, 49]⟩ : ByteArray) 4).bind fun t212 => (if t212 = true then ((linotypelaw23_is.f k (⟨#[45, 32, 49, 32, 62, 62, 32, 54, 48]⟩ : ByteArray) 15).bind fun t213 => (if t213 = true then ((linotypelaw23_is.f k (⟨#[120, 32, 43, 32, 36]⟩ : ByteArray) 12).bind fun t214 => (if t214 = true then ((linotypelaw23_fails.f k (⟨#[49, 32, 43]⟩ : ByteArray) 4 2).bind fun t215 => (some t215)) else (none))) else (none))) else (none))) else (none))) = some r := by rw [if_pos rfl] at H; exact H
  clear H
  have H := H1
  clear H1
  replace H := Option.bind_eq_some_iff.mp H
  obtain ⟨t211, A30, H⟩ := H
  replace H : (if t211 = true then ((linotypelaw23_is.f k (⟨#[55, 32, 45, 32, 50, 32, 45, 32, 49]⟩ : ByteArray) 4).bind fun t212 => (if t212 = true then ((linotypelaw23_is.f k (⟨#[45, 32, 49, 32, 62, 62, 32, 54, 48]⟩ : ByteArray) 15).bind fun t213 => (if t213 = true then ((linotypelaw23_is.f k (⟨#[120, 32, 43, 32, 36]⟩ : ByteArray) 12).bind fun t214 => (if t214 = true then ((linotypelaw23_fails.f k (⟨#[49, 32, 43]⟩ : ByteArray) 4 2).bind fun t215 => (some t215)) else (none))) else (none))) else (none))) else (none)) = some r := H
  have A3 := Aside0.mk A30
  clear A30
  by_cases c4 : t211 = true
  ·subst c4
   have H1 : ((linotypelaw23_is.f k (⟨#[55, 32, 45, 32, 50, 32, 45, 32, 49]⟩ : ByteArray) 4).bind fun t212 => (if t212 = true then ((linotypelaw23_is.f k (⟨#[45, 32, 49, 32, 62, 62, 32, 54, 48]⟩ : ByteArray) 15).bind fun t213 => (if t213 = true then ((linotypelaw23_is.f k (⟨#[120, 32, 43, 32, 36]⟩ : ByteArray) 12).bind fun t214 => (if t214 = true then ((linotypelaw23_fails.f k (⟨#[49, 32, 43]⟩ : ByteArray) 4 2).bind fun t215 => (some t215)) else (none))) else (none))) else (none))) = some r := by rw [if_pos rfl] at H; exact H
   clear H
   have H := H1
   clear H1
   replace H := Option.bind_eq_some_iff.mp H
   obtain ⟨t212, A50, H⟩ := H
   replace H : (if t212 = true then ((linotypelaw23_is.f k (⟨#[45, 32, 49, 32, 62, 62, 32, 54, 48]⟩ : ByteArray) 15).bind fun t213 => (if t213 = true then ((linotypelaw23_is.f k (⟨#[120, 32, 43, 32, 36]⟩ : ByteArray) 12).bind fun t214 => (if t214 = true then ((linotypelaw23_fails.f k (⟨#[49, 32, 43]⟩ : ByteArray) 4 2).bind fun t215 => (some t215)) else (none))) else (none))) else (none)) = some r := H
   have A5 := Aside0.mk A50
   clear A50
   by_cases c6 : t212 = true
   ·subst c6
    have H1 : ((linotypelaw23_is.f k (⟨#[45, 32, 49, 32, 62, 62, 32, 54, 48]⟩ : ByteArray) 15).bind fun t213 => (if t213 = true then ((linotypelaw23_is.f k (⟨#[120, 32, 43, 32, 36]⟩ : ByteArray) 12).bind fun t214 => (if t214 = true then ((linotypelaw23_fails.f k (⟨#[49, 32, 43]⟩ : ByteArray) 4 2).bind fun t215 => (some t215)) else (none))) else (none))) = some r := by rw [if_pos rfl] at H; exact H
    clear H
    have H := H1
    clear H1
    replace H := Option.bind_eq_some_iff.mp H
    obtain ⟨t213, A70, H⟩ := H
    replace H : (if t213 = true then ((linotypelaw23_is.f k (⟨#[120, 32, 43, 32, 36]⟩ : ByteArray) 12).bind fun t214 => (if t214 = true then ((linotypelaw23_fails.f k (⟨#[49, 32, 43]⟩ : ByteArray) 4 2).bind fun t215 => (some t215)) else (none))) else (none)) = some r := H
    have A7 := Aside0.mk A70
    clear A70
    by_cases c8 : t213 = true
    ·subst c8
     have H1 : ((linotypelaw23_is.f k (⟨#[120, 32, 43, 32, 36]⟩ : ByteArray) 12).bind fun t214 => (if t214 = true then ((linotypelaw23_fails.f k (⟨#[49, 32, 43]⟩ : ByteArray) 4 2).bind fun t215 => (some t215)) else (none))) = some r := by rw [if_pos rfl] at H; exact H
     clear H
     have H := H1
     clear H1
     replace H := Option.bind_eq_some_iff.mp H
     obtain ⟨t214, A90, H⟩ := H
     replace H : (if t214 = true then ((linotypelaw23_fails.f k (⟨#[49, 32, 43]⟩ : ByteArray) 4 2).bind fun t215 => (some t215)) else (none)) = some r := H
     have A9 := Aside0.mk A90
     clear A90
     by_cases c10 : t214 = true
     ·subst c10
      have H1 : ((linotypelaw23_fails.f k (⟨#[49, 32, 43]⟩ : ByteArray) 4 2).bind fun t215 => (some t215)) = some r := by rw [if_pos rfl] at H; exact H
      clear H
      have H := H1
      clear H1
      replace H := Option.bind_eq_some_iff.mp H
      obtain ⟨t215, A110, H⟩ := H
      replace H : (some t215) = some r := H
      have A11 := Aside0.mk A110
      clear A110
      obtain rfl := Option.some.inj H
      go_enter Tryd.func25, Tryd.ntmps25
      go_wp2_with (first | ((with_reducible refine gate_callee (f := 44) rfl ?_); refine goesL_ (some 1) rfl rfl Tryd.func44 (by kernel_rfl) rfl #[.string (⟨#[49, 32, 43, 32, 50, 32, 42, 32, 51]⟩ : ByteArray), .int .i64 7] rfl (by (try simp only [List.map_toArray, List.map_cons, List.map_nil]); first | done | rfl | (simp only [List.length_drop, List.length_take]; rfl)) ?_; (with_reducible refine (linotypelaw23_is.calls k (⟨#[49, 32, 43, 32, 50, 32, 42, 32, 51]⟩ : ByteArray) 7 true _ A1.out).mono ?_); rintro e w12 ⟨rfl, hb⟩; refine ⟨_, rfl, ?_⟩; have n0_ := Aside0.mk (below_step (by repeat (first | (with_reducible first | exact HB.out | apply below_alloc | apply pw_below_drewN | apply below_drew1) | exact HB.out)) hb); clear HB; have HB := n0_; clear n0_; (try clear hb); (try clear hb2); (try clear hk); (try clear hi)) | (go_at_call 44; (with_reducible refine (linotypelaw23_is.calls k (⟨#[40, 49, 32, 43, 32, 50, 41, 32, 42, 32, 51]⟩ : ByteArray) 9 true _ A3.out).mono ?_); rintro e w13 ⟨rfl, hb⟩; have n0_ := Aside0.mk (below_step (by repeat (first | (with_reducible first | exact HB.out | apply below_alloc | apply pw_below_drewN | apply below_drew1) | exact HB.out)) hb); clear HB; have HB := n0_; clear n0_; (try clear hb); (try clear hb2); (try clear hk); (try clear hi)) | (go_at_call 44; (with_reducible refine (linotypelaw23_is.calls k (⟨#[55, 32, 45, 32, 50, 32, 45, 32, 49]⟩ : ByteArray) 4 true _ A5.out).mono ?_); rintro e w14 ⟨rfl, hb⟩; have n0_ := Aside0.mk (below_step (by repeat (first | (with_reducible first | exact HB.out | apply below_alloc | apply pw_below_drewN | apply below_drew1) | exact HB.out)) hb); clear HB; have HB := n0_; clear n0_; (try clear hb); (try clear hb2); (try clear hk); (try clear hi)) | (go_at_call 44; (with_reducible refine (linotypelaw23_is.calls k (⟨#[45, 32, 49, 32, 62, 62, 32, 54, 48]⟩ : ByteArray) 15 true _ A7.out).mono ?_); rintro e w15 ⟨rfl, hb⟩; have n0_ := Aside0.mk (below_step (by repeat (first | (with_reducible first | exact HB.out | apply below_alloc | apply pw_below_drewN | apply below_drew1) | exact HB.out)) hb); clear HB; have HB := n0_; clear n0_; (try clear hb); (try clear hb2); (try clear hk); (try clear hi)) | (go_at_call 44; (with_reducible refine (linotypelaw23_is.calls k (⟨#[120, 32, 43, 32, 36]⟩ : ByteArray) 12 true _ A9.out).mono ?_); rintro e w16 ⟨rfl, hb⟩; have n0_ := Aside0.mk (below_step (by repeat (first | (with_reducible first | exact HB.out | apply below_alloc | apply pw_below_drewN | apply below_drew1) | exact HB.out)) hb); clear HB; have HB := n0_; clear n0_; (try clear hb); (try clear hb2); (try clear hk); (try clear hi)) | (go_at_call 26; (with_reducible refine (linotypelaw23_fails.calls k (⟨#[49, 32, 43]⟩ : ByteArray) 4 2 t215 _ A11.out).mono ?_); rintro e w17 ⟨rfl, hb⟩; have n0_ := Aside0.mk (below_step (by repeat (first | (with_reducible first | exact HB.out | apply below_alloc | apply pw_below_drewN | apply below_drew1) | exact HB.out)) hb); clear HB; have HB := n0_; clear n0_; (try clear hb); (try clear hb2); (try clear hk); (try clear hi)))
      go_ret
      exact ⟨by first | rfl | (simp [errW_none, errW_some] <;> rfl) | (simp [*, errW_none, errW_some] <;> rfl), by repeat (first | (with_reducible first | exact HB.out | apply below_alloc | apply pw_below_drewN | apply below_drew1) | exact HB.out)⟩
     ·replace c10 := Bool.eq_false_iff.mpr c10
      subst c10
      have H1 : (none) = some r := by rw [if_neg (show ¬ (false = true) by decide)] at H; exact H
      clear H
      have H := H1
      clear H1
      exact absurd H (by simp)
    ·replace c8 := Bool.eq_false_iff.mpr c8
     subst c8
     have H1 : (none) = some r := by rw [if_neg (show ¬ (false = true) by decide)] at H; exact H
     clear H
     have H := H1
     clear H1
     exact absurd H (by simp)
   ·replace c6 := Bool.eq_false_iff.mpr c6
    subst c6
    have H1 : (none) = some r := by rw [if_neg (show ¬ (false = true) by decide)] at H; exact H
    clear H
    have H := H1
    clear H1
    exact absurd H (by simp)
  ·replace c4 := Bool.eq_false_iff.mpr c4
   subst c4
   have H1 : (none) = some r := by rw [if_neg (show ¬ (false = true) by decide)] at H; exact H
   clear H
   have H := H1
   clear H1
   exact absurd H (by simp)
 ·replace c2 := Bool.eq_false_iff.mpr c2
  subst c2
  have H1 : (none) = some r := by rw [if_neg (show ¬ (false = true) by decide)] at H; exact H
  clear H
  have H := H1
  clear H1
  exact absurd H (by simp)

end Go.Proofs.YtjabjooephellaaDoor.XE
