-- PRINTED by print.py (a twelfth state) out of the translation. Not trusted: Lean checks it.
import Derived.Test.YtjabjooephellaaXBx0
import Derived.Test.YtjabjooephellaaXBx8
namespace Go.Proofs.Ytjabjooephellaa.XB
open Go.RowKit Go.Proofs.YtjabjooephellaaW.PrintWords Go.Proofs.YtjabjooephellaaW.PrintLast Go.Proofs.YtjabjooephellaaW.PrintMore
attribute [local go_sem] max2_int min2_int max_two min_two max_three min_three max_four min_four   -- for this text's walks alone
set_option linter.unusedVariables false
set_option linter.unusedSimpArgs false

/-! ### expr_Eval: function 20 -/
def EB (w : World) (b : Nat) (v : List Int) : Prop := w.heap[b]? = some (.cells (v.map (Value.int .i64)).toArray 72 (0, 0)) ∧ v.length = 200
section
variable {w w1 : World} {b : Nat} {v : List Int}
theorem EB.lt (h : EB w b v) : b < w.heap.size := blk_lt h.1
theorem EB.below (h : EB w b v) (hb : Below w.heap.size w w1) : EB w1 b v := ⟨(hb.block _ h.lt).trans h.1, h.2⟩
theorem EB.alloc (h : EB w b v) (o : Obj) : EB (w.alloc o) b v := ⟨blk_alloc h.1 o, h.2⟩
theorem EB.drewN (h : EB w b v) (n : Nat) : EB (w.drewN n) b v := h
theorem EB.drew (h : EB w b v) : EB w.drew b v := h
theorem EB.cell (h : EB w b v) (i : Int) (h0 : 0 ≤ i) (h1 : i < 200) : w.cell? ⟨b, i.toNat, none⟩ = some (.int .i64 (rdI v i)) := by
 refine (blk_cell h.1 i.toNat).trans ?_
 have hl : i.toNat < v.length := by rw [h.2]; omega
 unfold rdI rdOf
 simp [List.getElem?_eq_getElem hl, List.getD]
theorem EB.free (h : EB w b v) (i : Nat) : w.frozen? ⟨b, i, none⟩ = false := blk_frozen h.1 i
theorem EB.set (h : EB w b v) (i : Int) (x : Int) : EB (w.setCell ⟨b, i.toNat, none⟩ (.int .i64 x)) b (v.set i.toNat x) := by
 refine ⟨?_, by rw [List.length_set]; exact h.2⟩
 have z := blk_set h.1 i.toNat (.int .i64 x)
 rw [z]
 simp [List.map_set]
end
def lookR (l : List S53) (s : ByteArray) : Nat → Int → Int → Int
 | 0, _, at_ => at_
 | k + 1, i, at_ => lookR l s k (i + 1) (if (rd_T53 l i).f0.toList = s.toList then i else at_)
def evL (K : Nat) (x : List S48) (l : List S53) (here start : Int) : Nat → Int → List Int → Bool → Option (Int × Bool × Int)
 | 0, _, _, _ => none
 | k + 1, i, v, hg => if i < (x.length : Int) then (
   if (rd_T48 x i).f0 = 1 then evL K x l here start k (i + 1) (v.set i.toNat (rd_T48 x i).f1) hg
   else if (rd_T48 x i).f0 = 2 then (
    if lookR l (rd_T48 x i).f2 l.length 0 (-1) < 0 then some (0, false, 6)
    else if lookR l (rd_T48 x i).f2 l.length 0 (-1) < (l.length : Int) then evL K x l here start k (i + 1) (v.set i.toNat (rd_T53 l (lookR l (rd_T48 x i).f2 l.length 0 (-1))).f1) (hg || (rd_T53 l (lookR l (rd_T48 x i).f2 l.length 0 (-1))).f2)
    else none)
   else if (rd_T48 x i).f0 = 3 then evL K x l here start k (i + 1) (v.set i.toNat here) true
   else if (rd_T48 x i).f0 = 4 then evL K x l here start k (i + 1) (v.set i.toNat start) true
   else if 0 ≤ (rd_T48 x i).f3 ∧ (rd_T48 x i).f3 < 200 then (
    if (rd_T48 x i).f0 = 5 then evL K x l here start k (i + 1) (v.set i.toNat (wrap64 (-(rdI v (rd_T48 x i).f3)))) hg
    else if (rd_T48 x i).f0 = 6 then evL K x l here start k (i + 1) (v.set i.toNat (bits BinOp.xor IntKind.i64 (-1) (rdI v (rd_T48 x i).f3))) hg
    else if 0 ≤ (rd_T48 x i).f4 ∧ (rd_T48 x i).f4 < 200 then
     ((expr_two.f K (rd_T48 x i).f0 (rdI v (rd_T48 x i).f3) (rdI v (rd_T48 x i).f4)).bind fun p => if p.2 = 0 then evL K x l here start k (i + 1) (v.set i.toNat p.1) hg else some (0, false, p.2))
    else none)
   else none)
  else if 0 < x.length then some (rdI v ((x.length : Int) - 1), hg, 0) else none
def expr_Eval.f (k : Nat) (l0 : List S48) (l1 : List S53) (a2 a3 : Int) : Option (Int × Bool × Int) :=
 if (l1.length : Int) < 4611686018427387904 then ((expr_Check.f k l0).bind fun e => if e = 0 then evL k l0 l1 a2 a3 (l0.length + 1) 0 (List.replicate 200 0) false else some (0, false, e)) else none
theorem two_quiet {k : Nat} {a b c r e : Int} (h : expr_two.f k a b c = some (r, e)) (w : World) (n : Nat) :
  Calls Try.prog 35 #[.int .i64 a, .int .i64 b, .int .i64 c] (w.drewN n) fun e' w'' => e' = .returned (.tuple #[.int .i64 r, .int .i64 e]) ∧ ∃ m, w'' = w.drewN m := by
 refine Calls.quiet_of ((expr_two.calls k a b c r e _ h).mono ?_)
 rintro e' w3 ⟨he, hd⟩
 obtain ⟨nd, rfl⟩ := hd
 exact ⟨he, nd, rfl⟩
theorem chk_short {k : Nat} {l0 : List S48} (h : expr_Check.f k l0 = some 0) : (l0.length : Int) ≤ 200 := by
 unfold expr_Check.f at h
 by_cases c : 200 < (l0.length : Int)
 ·rw [if_pos c] at h
  exact absurd (Option.some.inj h) (by decide)
 ·omega
set_option maxHeartbeats 8000000 in
set_option maxRecDepth 100000 in
theorem expr_Eval.calls (k : Nat) (A0 : Option Addr) (c0 : Nat) (l0 : List S48) (A1 : Option Addr) (c1 : Nat) (l1 : List S53) (a2 a3 : Int) (r1 : Int) (r2 : Bool) (r3 : Int) (w : World) (hr0 : Kd.C k48 w A0 l0.length l0) (hc0 : l0.length ≤ c0) (hr1 : Kd.C k53 w A1 l1.length l1) (hc1 : l1.length ≤ c1) (h : expr_Eval.f k l0 l1 a2 a3 = some (r1, r2, r3)) :
  Calls Try.prog 20 #[.slice A0 l0.length c0, .slice A1 l1.length c1, .int .i64 a2, .int .i64 a3] w fun e w' => e = .returned (.tuple #[.int .i64 r1, .bool r2, .int .i64 r3]) ∧ Below w.heap.size w w' := by
 have hu := Try.underlying48
 have hu53 := Try.underlying53
 have hu72 := Try.underlying72
 unfold expr_Eval.f at h
 by_cases hl1 : (l1.length : Int) < 4611686018427387904
 case neg => rw [if_neg hl1] at h; exact absurd h (by simp)
 rw [if_pos hl1] at h
 have HL1 := Aside0.mk hl1
 clear hl1
 obtain ⟨ee, hchk, h⟩ := Option.bind_eq_some_iff.1 h
 by_cases d1 : ee = 0
 ·rw [if_pos d1] at h
  subst d1
  have hlen := chk_short hchk
  have HK := Aside0.mk hchk
  have HH := Aside0.mk h
  have HC0 := Aside0.mk hr0
  have HC1 := Aside0.mk hr1
  clear h hr0 hr1 hchk
  go_enter Try.func20, Try.ntmps20
  go_wp2_with (first | (go_at_call 18; refine (expr_Check.calls k A0 c0 l0 0 w HC0.out hc0 HK.out).mono ?_; rintro e w1 ⟨rfl, hb⟩; have B1 := Aside0.mk hb; clear hb) | ((with_reducible refine gate_dst (N := 12) rfl ?_); refine box_event ?hg (N := 12) ?hd (cs := ((List.replicate 200 0).map (Value.int .i64)).toArray) (t := 72) ?hr ?_; (case hd => rfl); (case hg => rfl); (case hr => kernel_rfl); intro bb hg w2 hbox hb; have B2 := Aside0.mk (below_step B1.out hb); have GE := Aside0.mk (show w.heap.size ≤ bb from by rw [hg]; exact B1.out.size); have E2 : Aside0 (EB w2 bb (List.replicate 200 0)) := ⟨⟨hbox, List.length_replicate⟩⟩; clear hg hbox hb))
  go_loopg [13, 28] (l0.length + 1) (fun kq v13 v28 w' => ∃ (v : List Int) (hg : Bool) (i : Int), v13 = .bool hg ∧ v28 = .int .i64 i ∧ Aside0 (evL k l0 l1 a2 a3 kq i v hg = some (r1, r2, r3)) ∧ 0 ≤ i ∧ i ≤ (l0.length : Int) ∧ Aside0 (EB w' bb v) ∧ Aside0 (Below w.heap.size w w'))
  case atStart => exact ⟨_, _, _, rfl, rfl, HH, by omega, by omega, E2, B2⟩
  case round =>
   clear HH E2 B2 B1 HK
   try clear p2
   obtain ⟨v, hg, i, rfl, rfl, HA, hi0, hi1, HE, HB⟩ := hrel
   cases gk with
   | zero => exact absurd HA.out (by simp [evL])
   | succ k1 =>
    have hA := HA.out
    clear HA
    rw [evL] at hA
    by_cases c2 : i < (l0.length : Int)
    ·rw [if_pos c2] at hA
     have c2b : decide (i < (l0.length : Int)) = true := decide_eq_true c2
     obtain ⟨ad, ead, t0, t1, t2, t3, t4⟩ := at_T48 (Kd.C_below HC0.out HB.out) i hi0 c2
     cases ead
     have hp := eq_true hi0
     have hq := eq_true c2
     have hq2 : (i < 200) = True := eq_true (by omega)
     have hi2 : i < 200 := by omega
     generalize hn : rd_T48 l0 i = n at hA t0 t1 t2 t3 t4
     clear hn
     have hB1 := Aside0.mk (below_step HB.out (below_alloc (Below.refl wr.heap.size wr) (.cells #[.int .i64 n.f0, .int .i64 n.f1, .string n.f2, .int .i64 n.f3, .int .i64 n.f4] 48)))
     have hE1 := Aside0.mk (HE.out.alloc (.cells #[.int .i64 n.f0, .int .i64 n.f1, .string n.f2, .int .i64 n.f3, .int .i64 n.f4] 48))
     have y0 := HE.out.alloc (.cells #[.int .i64 n.f0, .int .i64 n.f1, .string n.f2, .int .i64 n.f3, .int .i64 n.f4] 48) |>.cell i hi0 hi2
     have y1 := HE.out.alloc (.cells #[.int .i64 n.f0, .int .i64 n.f1, .string n.f2, .int .i64 n.f3, .int .i64 n.f4] 48) |>.free i.toNat
     by_cases e1 : n.f0 = 1
     ·rw [if_pos e1] at hA
      have e1b : (n.f0 == 1) = true := by simp [e1]
      have HA := Aside0.mk hA
      clear hA e1
      go_wp2_with fail
      go_roundg k1
      case measure => omega
      case rel => exact ⟨_, _, i + 1, rfl, rfl, HA, by omega, by omega, ⟨hE1.out.set i _⟩, ⟨below_set hB1.out GE.out⟩⟩
     ·rw [if_neg e1] at hA
      have e1b : (n.f0 == 1) = false := by simp [e1]
      clear e1
      by_cases e2 : n.f0 = 2
      ·rw [if_pos e2] at hA
       have e2b : (n.f0 == 2) = true := by simp [e2]
       have HA := Aside0.mk hA
       clear hA e2
       have N0 := Aside0.mk (blk_new wr (.cells #[.int .i64 n.f0, .int .i64 n.f1, .string n.f2, .int .i64 n.f3, .int .i64 n.f4] 48))
       go_wp2_with fail
       go_loopg [16, 65] l1.length (fun kq2 v16 v65 w' => ∃ (at_ i2 : Int), v16 = .int .i64 at_ ∧ v65 = .int .i64 i2 ∧ Aside0 (lookR l1 n.f2 kq2 i2 at_ = lookR l1 n.f2 l1.length 0 (-1)) ∧ (kq2 : Int) + i2 = (l1.length : Int) ∧ 0 ≤ i2 ∧ -1 ≤ at_ ∧ Aside0 (EB w' bb v) ∧ Aside0 (Below w.heap.size w w') ∧ Aside0 (w'.heap[wr.heap.size]? = some (.cells #[.int .i64 n.f0, .int .i64 n.f1, .string n.f2, .int .i64 n.f3, .int .i64 n.f4] 48)))
       case atStart => exact ⟨-1, 0, rfl, rfl, ⟨rfl⟩, by omega, by omega, by omega, hE1, hB1, N0⟩
       case round =>
        clear hE1 hB1 N0 y0 y1 HE HB t0 t1 t2 t3 t4
        try clear p2
        obtain ⟨at_, i2, rfl, rfl, HL, hk2, hi20, hat, HE, HB, HN⟩ := hrel
        skip
        cases gk with
        | zero =>
         have c8b : decide (i2 < (l1.length : Int)) = false := decide_eq_false (by omega)
         have hz := HL.out
         simp only [lookR] at hz
         have hA := HA.out
         rw [← hz] at hA
         have yn0 := HE.out.cell i hi0 hi2
         have yn1 := HE.out.free i.toNat
         by_cases g1 : at_ < 0
         ·rw [if_pos g1] at hA
          simp only [Option.some.injEq, Prod.mk.injEq] at hA
          obtain ⟨rfl, rfl, rfl⟩ := hA
          have g1b : decide (at_ < 0) = true := decide_eq_true g1
          clear HA HL hz
          go_wp2
          refine bodyPost_ret (results_list (rs := [.tmp 8, .tmp 9, .tmp 10]) rfl (by simp) (.tmp (.tmp (.tmp .nil)))) rfl ?_
          exact ⟨by rfl, by first | exact HB.out | exact pw_below_drewN HB.out _⟩
         ·rw [if_neg g1] at hA
          have g1b : decide (at_ < 0) = false := decide_eq_false g1
          by_cases g2 : at_ < (l1.length : Int)
          ·rw [if_pos g2] at hA
           obtain ⟨ad2, ead2, s0, s1, s2⟩ := at_T53 (Kd.C_below HC1.out HB.out) at_ (by omega) g2
           obtain ⟨ad3, ead3, _, s5, s6⟩ := at_T53 (Kd.C_below HC1.out (show Below w.heap.size w (wr.setCell ⟨bb, i.toNat, none⟩ (.int .i64 (rd_T53 l1 at_).f1)) from below_set HB.out GE.out)) at_ (by omega) g2
           cases ead2
           cases ead3
           have g3 := eq_true (show 0 ≤ at_ by omega)
           have g4 := eq_true g2
           generalize rd_T53 l1 at_ = sy at hA s0 s1 s2 s5 s6
           have HA' := Aside0.mk hA
           clear HA HL hz hA g1 g2
           cases hg with
           | true =>
            go_wp2_with fail
            clear s0 c8b hk2 hat hi20 e1b e2b c2b
            go_big_region
            go_wp2_with fail
            go_roundg k1
            case measure => omega
            case rel => exact ⟨_, _, i + 1, rfl, rfl, HA', by omega, by omega, ⟨HE.out.set i _⟩, ⟨below_drew (below_set HB.out GE.out)⟩⟩
           | false =>
            go_wp2_with fail
            clear s0 c8b hk2 hat hi20 e1b e2b c2b
            go_big_region
            go_wp2_with fail
            go_roundg k1
            case measure => omega
            case rel => exact ⟨_, _, i + 1, rfl, rfl, HA', by omega, by omega, ⟨HE.out.set i _⟩, ⟨below_drew (below_set HB.out GE.out)⟩⟩
          ·rw [if_neg g2] at hA
           exact absurd hA (by simp)
        | succ k2 =>
         have g0 : i2 < (l1.length : Int) := by omega
         have c8b : decide (i2 < (l1.length : Int)) = true := decide_eq_true g0
         have hz := HL.out
         simp only [lookR] at hz
         obtain ⟨ad2, ead2, s0, s1, s2⟩ := at_T53 (Kd.C_below HC1.out HB.out) i2 hi20 g0
         cases ead2
         have hw1 : Go.RowKit.wrap64 (i2 + 1) = i2 + 1 := by have := HL1.out; unfold Go.RowKit.wrap64; omega
         have g3 := eq_true hi20
         have g4 := eq_true g0
         generalize rd_T53 l1 i2 = q at hz s0 s1 s2
         have hBq := Aside0.mk (below_step HB.out (below_alloc (Below.refl wr.heap.size wr) (.cells #[.string q.f0, .int .i64 q.f1, .bool q.f2] 53)))
         have hEq := Aside0.mk (HE.out.alloc (.cells #[.string q.f0, .int .i64 q.f1, .bool q.f2] 53))
         have hNq := Aside0.mk (blk_alloc HN.out (.cells #[.string q.f0, .int .i64 q.f1, .bool q.f2] 53))
         have q2 := (blk_cell hNq.out 2).trans rfl
         by_cases g5 : q.f0.toList = n.f2.toList
         ·rw [if_pos g5] at hz
          have g5b : (q.f0.toList == n.f2.toList) = true := beq_iff_eq.mpr g5
          have HZ := Aside0.mk hz
          clear hz HL g5
          go_wp2_with fail
          go_roundg k2
          case measure => omega
          case rel => exact ⟨i2, i2 + 1, rfl, by rw [hw1], HZ, by omega, by omega, by omega, hEq, hBq, hNq⟩
         ·rw [if_neg g5] at hz
          have g5b : (q.f0.toList == n.f2.toList) = false := beq_eq_false_iff_ne.mpr g5
          have HZ := Aside0.mk hz
          clear hz HL g5
          go_wp2_with fail
          go_roundg k2
          case measure => omega
          case rel => exact ⟨at_, i2 + 1, rfl, by rw [hw1], HZ, by omega, by omega, by omega, hEq, hBq, hNq⟩
      ·rw [if_neg e2] at hA
       have e2b : (n.f0 == 2) = false := by simp [e2]
       clear e2
       by_cases e3 : n.f0 = 3
       ·rw [if_pos e3] at hA
        have e3b : (n.f0 == 3) = true := by simp [e3]
        have HA := Aside0.mk hA
        clear hA e3
        go_wp2_with fail
        go_roundg k1
        case measure => omega
        case rel => exact ⟨_, _, i + 1, rfl, rfl, HA, by omega, by omega, ⟨hE1.out.set i _⟩, ⟨below_set hB1.out GE.out⟩⟩
       ·rw [if_neg e3] at hA
        have e3b : (n.f0 == 3) = false := by simp [e3]
        clear e3
        by_cases e4 : n.f0 = 4
        ·rw [if_pos e4] at hA
         have e4b : (n.f0 == 4) = true := by simp [e4]
         have HA := Aside0.mk hA
         clear hA e4
         go_wp2_with fail
         go_roundg k1
         case measure => omega
         case rel => exact ⟨_, _, i + 1, rfl, rfl, HA, by omega, by omega, ⟨hE1.out.set i _⟩, ⟨below_set hB1.out GE.out⟩⟩
        ·rw [if_neg e4] at hA
         have e4b : (n.f0 == 4) = false := by simp [e4]
         clear e4
         by_cases b5 : 0 ≤ n.f3 ∧ n.f3 < 200
         ·rw [if_pos b5] at hA
          obtain ⟨b0, b1⟩ := b5
          by_cases e5 : n.f0 = 5
          ·rw [if_pos e5] at hA
           have e5b : (n.f0 == 5) = true := by simp [e5]
           have HA := Aside0.mk hA
           clear hA e5
           have y3 := HE.out.alloc (.cells #[.int .i64 n.f0, .int .i64 n.f1, .string n.f2, .int .i64 n.f3, .int .i64 n.f4] 48) |>.cell n.f3 b0 b1
           go_wp2_with fail
           go_roundg k1
           case measure => omega
           case rel => exact ⟨_, _, i + 1, rfl, rfl, HA, by omega, by omega, ⟨hE1.out.set i _⟩, ⟨below_set hB1.out GE.out⟩⟩
          ·rw [if_neg e5] at hA
           have e5b : (n.f0 == 5) = false := by simp [e5]
           clear e5
           by_cases e6 : n.f0 = 6
           ·rw [if_pos e6] at hA
            have e6b : (n.f0 == 6) = true := by simp [e6]
            have HA := Aside0.mk hA
            clear hA e6
            have y3 := HE.out.alloc (.cells #[.int .i64 n.f0, .int .i64 n.f1, .string n.f2, .int .i64 n.f3, .int .i64 n.f4] 48) |>.cell n.f3 b0 b1
            go_wp2_with fail
            go_roundg k1
            case measure => omega
            case rel => exact ⟨_, _, i + 1, rfl, rfl, HA, by omega, by omega, ⟨hE1.out.set i _⟩, ⟨below_set hB1.out GE.out⟩⟩
           ·rw [if_neg e6] at hA
            have e6b : (n.f0 == 6) = false := by simp [e6]
            clear e6
            by_cases b4 : 0 ≤ n.f4 ∧ n.f4 < 200
            ·rw [if_pos b4] at hA
             obtain ⟨b2, b3⟩ := b4
             obtain ⟨p, hp2, hA⟩ := Option.bind_eq_some_iff.1 hA
             have HP := Aside0.mk hp2
             clear hp2
             have y3 := HE.out.alloc (.cells #[.int .i64 n.f0, .int .i64 n.f1, .string n.f2, .int .i64 n.f3, .int .i64 n.f4] 48) |>.cell n.f3 b0 b1
             have y4 := HE.out.alloc (.cells #[.int .i64 n.f0, .int .i64 n.f1, .string n.f2, .int .i64 n.f3, .int .i64 n.f4] 48) |>.cell n.f4 b2 b3
             have b0p := eq_true b0
             have b1p := eq_true b1
             have b2p := eq_true b2
             have b3p := eq_true b3
             by_cases e7 : p.2 = 0
             ·rw [if_pos e7] at hA
              have e7b : (p.2 == 0) = true := by simp [e7]
              have HA := Aside0.mk hA
              clear hA e7
              go_wp2_with fail
              go_quiet (first | (go_at_call 35; exact two_quiet HP.out _ _))
              go_wp2_with fail
              go_roundg k1
              case measure => omega
              case rel => exact ⟨_, _, i + 1, rfl, rfl, HA, by omega, by omega, ⟨(hE1.out.drewN _).set i _⟩, ⟨below_set (pw_below_drewN hB1.out _) GE.out⟩⟩
             ·rw [if_neg e7] at hA
              have e7b : (p.2 == 0) = false := by simp [e7]
              simp only [Option.some.injEq, Prod.mk.injEq] at hA
              obtain ⟨rfl, rfl, rfl⟩ := hA
              clear e7
              go_wp2_with fail
              go_quiet (first | (go_at_call 35; exact two_quiet HP.out _ _))
              go_wp2
              refine bodyPost_ret (results_list (rs := [.tmp 8, .tmp 9, .tmp 10]) rfl (by simp) (.tmp (.tmp (.tmp .nil)))) rfl ?_
              exact ⟨by rfl, pw_below_drewN hB1.out _⟩
            ·rw [if_neg b4] at hA
             exact absurd hA (by simp)
         ·rw [if_neg b5] at hA
          exact absurd hA (by simp)
    ·rw [if_neg c2] at hA
     have c2b : decide (i < (l0.length : Int)) = false := decide_eq_false c2
     by_cases c9 : 0 < l0.length
     ·rw [if_pos c9] at hA
      simp only [Option.some.injEq, Prod.mk.injEq] at hA
      obtain ⟨rfl, rfl, rfl⟩ := hA
      have y3 := HE.out.cell ((l0.length : Int) - 1) (by omega) (by omega)
      have y4 : wr.cell? ⟨bb, l0.length - 1, none⟩ = some (.int .i64 (rdI v ((l0.length : Int) - 1))) := by rw [show l0.length - 1 = ((l0.length : Int) - 1).toNat by omega]; exact y3
      have hwr : IntKind.i64.wrap ((l0.length : Int) - 1) = (l0.length : Int) - 1 := by rw [i64_w]; unfold Go.RowKit.wrap64; omega
      have z0 : (0 ≤ (l0.length : Int) - 1) = True := eq_true (by omega)
      have z1 : ((l0.length : Int) - 1 < 200) = True := eq_true (by omega)
      go_wp2
      refine bodyPost_ret (results_list (rs := [.tmp 8, .tmp 9, .tmp 10]) rfl (by simp) (.tmp (.tmp (.tmp .nil)))) rfl ?_
      exact ⟨by rfl, by first | exact HB.out | exact pw_below_drewN HB.out _⟩
     ·rw [if_neg c9] at hA
      exact absurd hA (by simp)
 ·rw [if_neg d1] at h
  simp only [Option.some.injEq, Prod.mk.injEq] at h
  obtain ⟨rfl, rfl, rfl⟩ := h
  have d1b : (ee == 0) = false := by simp [d1]
  have HK := Aside0.mk hchk
  clear hchk d1
  go_enter Try.func20, Try.ntmps20
  go_wp2_with (go_at_call 18; refine (expr_Check.calls k A0 c0 l0 ee w hr0 hc0 HK.out).mono ?_; rintro e w1 ⟨rfl, hb⟩; have B1 := Aside0.mk hb; clear hb)
  refine bodyPost_ret (results_list (rs := [.tmp 8, .tmp 9, .tmp 10]) rfl (by simp) (.tmp (.tmp (.tmp .nil)))) rfl ?_
  exact ⟨by rfl, by first | exact B1.out | exact pw_below_drewN B1.out _⟩
theorem evL_mono (K : Nat) (x : List S48) (l : List S53) (here start : Int) : ∀ k i v hg, LeO (evL K x l here start k i v hg) (evL (K + 1) x l here start k i v hg)
 | 0, _, _, _ => LeO.refl _
 | k + 1, i, v, hg => by
  rw [evL, evL]
  repeat' first
   | exact LeO.refl _
   | exact expr_two.mono _ _ _ _
   | exact evL_mono K x l here start k _ _ _
   | refine LeO.ite ?_ ?_
   | refine LeO.bind ?_ (fun _ => ?_)
theorem expr_Eval.mono : ∀ l0 l1 a2 a3 k, LeO (expr_Eval.f k l0 l1 a2 a3) (expr_Eval.f (k + 1) l0 l1 a2 a3) := by
 intro l0 l1 a2 a3 k
 unfold expr_Eval.f
 exact LeO.ite (LeO.bind (expr_Check.mono _ _) (fun _ => LeO.ite (evL_mono k l0 l1 a2 a3 _ _ _ _) (LeO.refl _))) (LeO.refl _)

/-! ### expr_sign: function 64 -/
def signR (op : Int) : ByteArray :=
 if op = 3 then ⟨#[36]⟩ else if op = 4 then ⟨#[36, 36]⟩ else if op = 5 then ⟨#[45]⟩ else if op = 6 then ⟨#[126]⟩ else if op = 7 then ⟨#[42]⟩ else if op = 8 then ⟨#[47]⟩ else if op = 9 then ⟨#[37]⟩ else if op = 10 then ⟨#[43]⟩ else if op = 11 then ⟨#[45]⟩ else if op = 12 then ⟨#[60, 60]⟩ else if op = 13 then ⟨#[62, 62]⟩ else if op = 14 then ⟨#[38]⟩ else if op = 15 then ⟨#[94]⟩ else if op = 16 then ⟨#[124]⟩ else ⟨#[]⟩
def exSignsA : Array Value := #[.string ⟨#[]⟩, .string ⟨#[]⟩, .string ⟨#[]⟩, .string ⟨#[36]⟩, .string ⟨#[36, 36]⟩, .string ⟨#[45]⟩, .string ⟨#[126]⟩, .string ⟨#[42]⟩, .string ⟨#[47]⟩, .string ⟨#[37]⟩, .string ⟨#[43]⟩, .string ⟨#[45]⟩, .string ⟨#[60, 60]⟩, .string ⟨#[62, 62]⟩, .string ⟨#[38]⟩, .string ⟨#[94]⟩, .string ⟨#[124]⟩]
def exStrA : Array Value := #[.int .i64 6, .int .i64 6, .int .i64 6, .int .i64 5, .int .i64 5, .int .i64 4, .int .i64 4, .int .i64 3, .int .i64 2, .int .i64 1]
def strR (op : Int) : Int := if op ≤ 9 then 6 else if op ≤ 11 then 5 else if op ≤ 13 then 4 else if op = 14 then 3 else if op = 15 then 2 else 1
theorem exSign_i3 (w : World) : (Instr.index 114 (.agg exSignsA) (.int .i64 3)).run Try.prog w = .ok (.string (signR 3)) w := by kernel_rfl
theorem exSign_i4 (w : World) : (Instr.index 114 (.agg exSignsA) (.int .i64 4)).run Try.prog w = .ok (.string (signR 4)) w := by kernel_rfl
theorem exSign_i5 (w : World) : (Instr.index 114 (.agg exSignsA) (.int .i64 5)).run Try.prog w = .ok (.string (signR 5)) w := by kernel_rfl
theorem exSign_i6 (w : World) : (Instr.index 114 (.agg exSignsA) (.int .i64 6)).run Try.prog w = .ok (.string (signR 6)) w := by kernel_rfl
theorem exSign_i7 (w : World) : (Instr.index 114 (.agg exSignsA) (.int .i64 7)).run Try.prog w = .ok (.string (signR 7)) w := by kernel_rfl
theorem exSign_i8 (w : World) : (Instr.index 114 (.agg exSignsA) (.int .i64 8)).run Try.prog w = .ok (.string (signR 8)) w := by kernel_rfl
theorem exSign_i9 (w : World) : (Instr.index 114 (.agg exSignsA) (.int .i64 9)).run Try.prog w = .ok (.string (signR 9)) w := by kernel_rfl
theorem exSign_i10 (w : World) : (Instr.index 114 (.agg exSignsA) (.int .i64 10)).run Try.prog w = .ok (.string (signR 10)) w := by kernel_rfl
theorem exSign_i11 (w : World) : (Instr.index 114 (.agg exSignsA) (.int .i64 11)).run Try.prog w = .ok (.string (signR 11)) w := by kernel_rfl
theorem exSign_i12 (w : World) : (Instr.index 114 (.agg exSignsA) (.int .i64 12)).run Try.prog w = .ok (.string (signR 12)) w := by kernel_rfl
theorem exSign_i13 (w : World) : (Instr.index 114 (.agg exSignsA) (.int .i64 13)).run Try.prog w = .ok (.string (signR 13)) w := by kernel_rfl
theorem exSign_i14 (w : World) : (Instr.index 114 (.agg exSignsA) (.int .i64 14)).run Try.prog w = .ok (.string (signR 14)) w := by kernel_rfl
theorem exSign_i15 (w : World) : (Instr.index 114 (.agg exSignsA) (.int .i64 15)).run Try.prog w = .ok (.string (signR 15)) w := by kernel_rfl
theorem exSign_i16 (w : World) : (Instr.index 114 (.agg exSignsA) (.int .i64 16)).run Try.prog w = .ok (.string (signR 16)) w := by kernel_rfl
theorem exStr_i7 (w : World) : (Instr.index 107 (.agg exStrA) (.int .i64 0)).run Try.prog w = .ok (.int .i64 (strR 7)) w := by kernel_rfl
theorem exStr_i8 (w : World) : (Instr.index 107 (.agg exStrA) (.int .i64 1)).run Try.prog w = .ok (.int .i64 (strR 8)) w := by kernel_rfl
theorem exStr_i9 (w : World) : (Instr.index 107 (.agg exStrA) (.int .i64 2)).run Try.prog w = .ok (.int .i64 (strR 9)) w := by kernel_rfl
theorem exStr_i10 (w : World) : (Instr.index 107 (.agg exStrA) (.int .i64 3)).run Try.prog w = .ok (.int .i64 (strR 10)) w := by kernel_rfl
theorem exStr_i11 (w : World) : (Instr.index 107 (.agg exStrA) (.int .i64 4)).run Try.prog w = .ok (.int .i64 (strR 11)) w := by kernel_rfl
theorem exStr_i12 (w : World) : (Instr.index 107 (.agg exStrA) (.int .i64 5)).run Try.prog w = .ok (.int .i64 (strR 12)) w := by kernel_rfl
theorem exStr_i13 (w : World) : (Instr.index 107 (.agg exStrA) (.int .i64 6)).run Try.prog w = .ok (.int .i64 (strR 13)) w := by kernel_rfl
theorem exStr_i14 (w : World) : (Instr.index 107 (.agg exStrA) (.int .i64 7)).run Try.prog w = .ok (.int .i64 (strR 14)) w := by kernel_rfl
theorem exStr_i15 (w : World) : (Instr.index 107 (.agg exStrA) (.int .i64 8)).run Try.prog w = .ok (.int .i64 (strR 15)) w := by kernel_rfl
theorem exStr_i16 (w : World) : (Instr.index 107 (.agg exStrA) (.int .i64 9)).run Try.prog w = .ok (.int .i64 (strR 16)) w := by kernel_rfl
theorem exSign_idx (op : Int) (h0 : 3 ≤ op) (h1 : op ≤ 16) (w : World) : (Instr.index 114 (.agg exSignsA) (.int .i64 op)).run Try.prog w = .ok (.string (signR op)) w := by
 have hc : op = 3 ∨ op = 4 ∨ op = 5 ∨ op = 6 ∨ op = 7 ∨ op = 8 ∨ op = 9 ∨ op = 10 ∨ op = 11 ∨ op = 12 ∨ op = 13 ∨ op = 14 ∨ op = 15 ∨ op = 16 := by omega
 rcases hc with rfl | rfl | rfl | rfl | rfl | rfl | rfl | rfl | rfl | rfl | rfl | rfl | rfl | rfl
 ·exact exSign_i3 w
 ·exact exSign_i4 w
 ·exact exSign_i5 w
 ·exact exSign_i6 w
 ·exact exSign_i7 w
 ·exact exSign_i8 w
 ·exact exSign_i9 w
 ·exact exSign_i10 w
 ·exact exSign_i11 w
 ·exact exSign_i12 w
 ·exact exSign_i13 w
 ·exact exSign_i14 w
 ·exact exSign_i15 w
 ·exact exSign_i16 w
theorem exStr_idx (op : Int) (h0 : 7 ≤ op) (h1 : op ≤ 16) (w : World) : (Instr.index 107 (.agg exStrA) (.int .i64 (op - 7))).run Try.prog w = .ok (.int .i64 (strR op)) w := by
 have hc : op = 7 ∨ op = 8 ∨ op = 9 ∨ op = 10 ∨ op = 11 ∨ op = 12 ∨ op = 13 ∨ op = 14 ∨ op = 15 ∨ op = 16 := by omega
 rcases hc with rfl | rfl | rfl | rfl | rfl | rfl | rfl | rfl | rfl | rfl
 ·exact exStr_i7 w
 ·exact exStr_i8 w
 ·exact exStr_i9 w
 ·exact exStr_i10 w
 ·exact exStr_i11 w
 ·exact exStr_i12 w
 ·exact exStr_i13 w
 ·exact exStr_i14 w
 ·exact exStr_i15 w
 ·exact exStr_i16 w
set_option maxHeartbeats 2000000 in
set_option maxRecDepth 100000 in
theorem rd_sign (w : World) (op : Int) (h0 : 3 ≤ op) (h1 : op ≤ 16) :
  Calls Try.prog 64 #[.int .i64 op] w fun e w' => e = .returned (.string (signR op)) ∧ Drawn0 w w' := by
 have hi := exSign_idx op h0 h1
 unfold exSignsA at hi
 clear h0 h1
 go_enter Try.func64, Try.ntmps64
 go_wp2
 repeat (go_quiet (fail); try go_wp2)
 go_ret
 exact ⟨rfl, by repeat (first | exact Drawn0.refl _ | apply Drawn0.step)⟩
def expr_sign.f (a0 : Int) : Option ByteArray := if 3 ≤ a0 ∧ a0 ≤ 16 then some (signR a0) else none
theorem expr_sign.calls (a0 : Int) (r : ByteArray) (w : World) (h : expr_sign.f a0 = some r) :
  Calls Try.prog 64 #[.int .i64 a0] w fun e w' => e = .returned (.string r) ∧ Drawn0 w w' := by
 unfold expr_sign.f at h
 by_cases c : 3 ≤ a0 ∧ a0 ≤ 16
 ·rw [if_pos c] at h
  obtain rfl := Option.some.inj h
  exact rd_sign w a0 c.1 c.2
 ·rw [if_neg c] at h
  exact absurd h (by simp)

end Go.Proofs.Ytjabjooephellaa.XB
