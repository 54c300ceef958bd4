-- PRINTED by print.py (a twelfth state) out of the translation. Not trusted: Lean checks it.
import Derived.Test.YtjabjooephellaaXBx0
import Derived.Test.YtjabjooephellaaXBx7
namespace Go.Proofs.Ytjabjooephellaa.XB
open Go.RowKit Go.Proofs.YtjabjooephellaaW.PrintWords Go.Proofs.YtjabjooephellaaW.PrintLast Go.Proofs.YtjabjooephellaaW.PrintMore
attribute [local go_sem] max2_int min2_int max_two min_two max_three min_three max_four min_four   -- for this text's walks alone
set_option linter.unusedVariables false
set_option linter.unusedSimpArgs false

/-! ### expr_Check: function 18 -/
theorem dr_heap {w w1 : World} {i : Nat} {o : Obj} (hd : Drawn0 w w1) (h : w.heap[i]? = some o) : w1.heap[i]? = some o := by obtain ⟨n, rfl⟩ := hd; exact h
def opsV (op : Int) : Int := if op < 1 then -1 else if 16 < op then -1 else if op ≤ 4 then 0 else if op ≤ 6 then 1 else 2
theorem operands_f (op : Int) : expr_operands.f 1 op = some (opsV op) := by
 unfold expr_operands.f opsV
 by_cases c1 : op < 1
 ·rw [if_pos c1, if_pos c1]; rfl
 ·rw [if_neg c1, if_neg c1]
  by_cases c2 : 16 < op
  ·have e : decide (op > 16) = true := decide_eq_true c2
   rw [e, if_pos c2]; rfl
  ·have e : decide (op > 16) = false := decide_eq_false c2
   rw [e, if_neg c2]
   simp only [expr_operands.j0]
   rw [if_neg (by decide)]
   split
   ·rfl
   ·split <;> rfl
theorem opsV_of (op : Int) : opsV op = -1 ∨ opsV op = 0 ∨ opsV op = 1 ∨ opsV op = 2 := by
 unfold opsV
 repeat (first | omega | split)
theorem rd_operands (op : Int) (w : World) : Calls Try.prog 32 #[.int .i64 op] w fun e w' => e = .returned (.int .i64 (opsV op)) ∧ Drawn0 w w' := expr_operands.calls 1 op _ w (operands_f op)
/-- What stands open behind the operands of a node. -/
def rdI (st : List Int) (i : Int) : Int := rdOf 0 st i
def ownA (st : List Int) (k : Int) : Int := if k = 1 then rdI st ((st.length : Int) - 1) else if k = 2 then rdI st ((st.length : Int) - 2) else 0
def ownB (st : List Int) (k : Int) : Int := if k = 2 then rdI st ((st.length : Int) - 1) else 0
def leafK (K : Nat) (n : S48) : Option Bool := expr_leaf.f K n.f0 n.f1 n.f2 n.f3 n.f4
def chkL (K : Nat) (x : List S48) : Nat → Int → List Int → Option Int
 | 0, _, _ => none
 | k + 1, i, st => if i < (x.length : Int) then (
   if opsV (rd_T48 x i).f0 < 0 then some 2 else (leafK K (rd_T48 x i)).bind fun lf =>
   if lf = true then (
    if (st.length : Int) < opsV (rd_T48 x i).f0 then some 2 else
    if ownA st (opsV (rd_T48 x i).f0) = (rd_T48 x i).f3 ∧ ownB st (opsV (rd_T48 x i).f0) = (rd_T48 x i).f4 then chkL K x k (i + 1) (st.take (st.length - (opsV (rd_T48 x i).f0).toNat) ++ [i]) else some 2)
   else some 2)
  else if st.length = 1 then some 0 else some 2
theorem drop_last1 (st : List Int) (h : 1 ≤ st.length) : st.drop (st.length - 1) = [rdOf 0 st ((st.length : Int) - 1)] := by
 have e : ((st.length : Int) - 1).toNat = st.length - 1 := by omega
 unfold rdOf
 rw [e, List.drop_eq_getElem_cons (by omega : st.length - 1 < st.length), List.drop_eq_nil_of_le (by omega)]
 simp [List.getD, List.getElem?_eq_getElem (by omega : st.length - 1 < st.length)]
theorem drop_last2 (st : List Int) (h : 2 ≤ st.length) : st.drop (st.length - 2) = [rdOf 0 st ((st.length : Int) - 2), rdOf 0 st ((st.length : Int) - 1)] := by
 have e : ((st.length : Int) - 2).toNat = st.length - 2 := by omega
 have e1 : st.length - 2 + 1 = st.length - 1 := by omega
 rw [List.drop_eq_getElem_cons (by omega : st.length - 2 < st.length), e1, drop_last1 st (by omega)]
 congr 1
 unfold rdOf
 rw [e]
 simp [List.getD, List.getElem?_eq_getElem (by omega : st.length - 2 < st.length)]
theorem own_cs (st : List Int) (kk : Int) (h0 : 0 ≤ kk) (h2 : kk ≤ 2) (hn : kk ≤ (st.length : Int)) : splice [Value.int .i64 0, Value.int .i64 0] 0 ((st.drop ((st.length : Int) - kk).toNat).map (Value.int .i64)) = [Value.int .i64 (ownA st kk), Value.int .i64 (ownB st kk)] := by
 have hc : kk = 0 ∨ kk = 1 ∨ kk = 2 := by omega
 rcases hc with rfl | rfl | rfl
 ·have e : ((st.length : Int) - 0).toNat = st.length := by omega
  rw [e, List.drop_length]
  rfl
 ·have e : ((st.length : Int) - 1).toNat = st.length - 1 := by omega
  rw [e, drop_last1 st (by omega)]
  rfl
 ·have e : ((st.length : Int) - 2).toNat = st.length - 2 := by omega
  rw [e, drop_last2 st (by omega)]
  rfl
def expr_Check.f (k : Nat) (l0 : List S48) : Option Int := if 200 < (l0.length : Int) then some 3 else chkL k l0 (l0.length + 1) 0 []
theorem infoInt : (Try.prog.info? 3).map (·.size) = some 1 := by kernel_rfl
theorem eq70 (w : World) (a b c d : Int) : (Op.equalIn 10000 70 (.agg #[.int .i64 a, .int .i64 b]) (.agg #[.int .i64 c, .int .i64 d])).run Try.prog w = .ok (a == c && b == d) w := by
 have hc : Try.prog.cellsOf 3 = 1 := by kernel_rfl
 obtain ⟨i, hi⟩ : ∃ i, Try.prog.info? 3 = some i := by
  have z := infoInt
  cases hq : Try.prog.info? 3 with
  | none => rw [hq] at z; exact absurd z (by simp)
  | some i => exact ⟨i, rfl⟩
 rw [run_equalIn_array (P := Try.prog) (w := w) 9999 #[.int .i64 a, .int .i64 b] #[.int .i64 c, .int .i64 d] Try.underlying70 hi, hc]
 have hr : List.range 2 = [0, 1] := rfl
 rw [hr]
 simp only [Op.eqItems]
 go_simp
 by_cases h1 : a = c <;> by_cases h2 : b = d <;> simp [h1, h2]
theorem infoIntZ : (Try.prog.info? 3).map (fun i => (i.zero, i.size, i.bytes)) = some (some (.int .i64 0), 1, 8) := by kernel_rfl
theorem chk_src {w : World} {base : Nat} {ok : Nat → Prop} {A3 : Option Addr} {c3 : Nat} {st : List Int} (h : Kd.R (Kd.int .i64) 3 w base ok (.slice A3 st.length c3) st) (kk : Int) (h0 : 0 ≤ kk) (hn : kk ≤ (st.length : Int)) (hp : 0 < ((st.drop ((st.length : Int) - kk).toNat).map (Value.int .i64)).length) :
  ∃ ad, (if c3 = ((st.length : Int) - kk).toNat then A3 else Option.map (fun x => x.add ((st.length : Int) - kk).toNat) A3) = some ad ∧ ∀ j v, ((st.drop ((st.length : Int) - kk).toNat).map (Value.int .i64))[j]? = some v → w.cell? (ad.add j) = some v := by
 simp only [List.length_map, List.length_drop] at hp
 obtain ⟨g, cap, hv, hb, hlt, _⟩ := Kd.R_form h (by omega)
 injection hv with hA hl hcap
 subst hA hcap
 have hc := (Kd.R_reads' h).2.1
 rw [if_neg (by omega)]
 refine ⟨_, rfl, fun j v hv => ?_⟩
 rw [List.getElem?_map, List.getElem?_drop] at hv
 obtain ⟨x, hx, rfl⟩ := Option.map_eq_some_iff.1 hv
 obtain ⟨hj, hxe⟩ := List.getElem?_eq_some_iff.1 hx
 have z := (Kd.R_cell 0 h (((((st.length : Int) - kk).toNat + j : Nat)) : Int) (by omega) (by omega)).1
 rw [Int.toNat_natCast] at z
 have e : rdOf 0 st (((((st.length : Int) - kk).toNat + j : Nat)) : Int) = x := by
  unfold rdOf
  rw [Int.toNat_natCast, List.getD, hx]
  rfl
 rw [e] at z
 have e2 : ∀ m j : Nat, ((⟨g, 0, none⟩ : Addr).add m).add j = ⟨g, m + j, none⟩ := by intro m j; cases m <;> cases j <;> simp [Addr.add]
 rw [e2]
 exact z
set_option maxHeartbeats 4000000 in
set_option maxRecDepth 100000 in
theorem expr_Check.calls (k : Nat) (A0 : Option Addr) (c0 : Nat) (l0 : List S48) (r : Int) (w : World) (hr0 : Kd.C k48 w A0 l0.length l0) (hc0 : l0.length ≤ c0) (h : expr_Check.f k l0 = some r) :
  Calls Try.prog 18 #[.slice A0 l0.length c0] w fun e w' => e = .returned (.int .i64 r) ∧ Below w.heap.size w w' := by
 have hu := Try.underlying48
 have hu70 := Try.underlying70
 unfold expr_Check.f at h
 by_cases c1 : 200 < (l0.length : Int)
 ·rw [if_pos c1] at h
  obtain rfl := Option.some.inj h
  have c1b : decide (200 < (l0.length : Int)) = true := decide_eq_true c1
  clear c1
  go_enter Try.func18, Try.ntmps18
  go_wp2
  go_ret
  exact ⟨rfl, by first | exact Below.refl _ _ | exact pw_below_drewN (Below.refl _ _) _⟩
 ·rw [if_neg c1] at h
  have c1b : decide (200 < (l0.length : Int)) = false := decide_eq_false c1
  have hlen : (l0.length : Int) ≤ 200 := by omega
  clear c1
  have HH := Aside0.mk h
  have HC0 := Aside0.mk hr0
  clear h hr0
  go_enter Try.func18, Try.ntmps18
  go_wp2
  go_loopg [3, 13] (l0.length + 1) (fun kq v3 v13 w' => ∃ (st : List Int) (i : Int), v13 = .int .i64 i ∧ Aside0 (chkL k l0 kq i st = some r) ∧ 0 ≤ i ∧ i ≤ (l0.length : Int) ∧ (st.length : Int) ≤ i ∧ Aside0 (Kd.R (Kd.int .i64) 3 w' w.heap.size (fun _ => True) v3 st) ∧ Aside0 (Below w.heap.size w w'))
  case atStart => exact ⟨[], 0, rfl, HH, by omega, by omega, by simp, ⟨Kd.R_nil _ _ _ _ _⟩, ⟨by first | exact Below.refl _ _ | exact pw_below_drewN (Below.refl _ _) _⟩⟩
  case round =>
   clear HH
   try clear p2
   obtain ⟨st, i, rfl, HA, hi0, hi1, hst, HR, HB⟩ := hrel
   obtain ⟨A3, c3, rfl⟩ := Kd.R_slice HR.out
   have hcap := (Kd.R_reads' HR.out).2.1
   cases gk with
   | zero => exact absurd HA.out (by simp [chkL])
   | succ k1 =>
    have hA := HA.out
    clear HA
    simp only [chkL] at hA
    by_cases c2 : i < (l0.length : Int)
    ·rw [if_pos c2] at hA
     have c2b : decide (i < (l0.length : Int)) = true := decide_eq_true c2
     obtain ⟨ad, ead, t0, t1, t2, t3, t4⟩ := at_T48 (Kd.C_below HC0.out HB.out) i hi0 c2
     cases ead
     have hp := eq_true hi0
     have hq := eq_true c2
     have hB1 := Aside0.mk (below_alloc (Below.refl wr.heap.size wr) (.cells #[.int .i64 (rd_T48 l0 i).f0, .int .i64 (rd_T48 l0 i).f1, .string (rd_T48 l0 i).f2, .int .i64 (rd_T48 l0 i).f3, .int .i64 (rd_T48 l0 i).f4] 48))
     generalize hn : rd_T48 l0 i = n at hA t0 t1 t2 t3 t4 hB1
     have N0 := Aside0.mk (blk_new wr (.cells #[.int .i64 n.f0, .int .i64 n.f1, .string n.f2, .int .i64 n.f3, .int .i64 n.f4] 48))
     clear hn
     have hov := opsV_of n.f0
     have HOP := Aside0.mk (fun w1 => rd_operands n.f0 w1)
     generalize opsV n.f0 = kk at hA hov HOP
     by_cases c4 : kk < 0
     ·rw [if_pos c4] at hA
      have c4b : decide (kk < 0) = true := decide_eq_true c4
      obtain rfl := Option.some.inj hA
      clear hA
      go_wp2_with (first | (go_at_call 32; refine (HOP.out _).mono ?_; rintro e w1 ⟨rfl, hd⟩; have X1 := Aside0.mk (dr_heap hd N0.out); have B1 := Aside0.mk (below_step hB1.out (Drawn0.below hd)); have q0 := (blk_cell X1.out 0).trans rfl; have q1 := (blk_cell X1.out 1).trans rfl; have q2 := (blk_cell X1.out 2).trans rfl; have q3 := (blk_cell X1.out 3).trans rfl; have q4 := (blk_cell X1.out 4).trans rfl; clear hd))
      go_ret
      exact ⟨rfl, by first | exact below_step HB.out B2.out | exact pw_below_drewN (below_step HB.out B2.out) _ | exact below_step HB.out B1.out | exact pw_below_drewN (below_step HB.out B1.out) _⟩
     ·rw [if_neg c4] at hA
      obtain ⟨lf, hlf, hA⟩ := Option.bind_eq_some_iff.1 hA
      have c4b : decide (kk < 0) = false := decide_eq_false c4
      have HLF := Aside0.mk hlf
      clear hlf
      cases lf with
      | false =>
       rw [if_neg (by decide)] at hA
       obtain rfl := Option.some.inj hA
       clear hA
       go_wp2_with (first | (go_at_call 32; refine (HOP.out _).mono ?_; rintro e w1 ⟨rfl, hd⟩; have X1 := Aside0.mk (dr_heap hd N0.out); have B1 := Aside0.mk (below_step hB1.out (Drawn0.below hd)); have q0 := (blk_cell X1.out 0).trans rfl; have q1 := (blk_cell X1.out 1).trans rfl; have q2 := (blk_cell X1.out 2).trans rfl; have q3 := (blk_cell X1.out 3).trans rfl; have q4 := (blk_cell X1.out 4).trans rfl; clear hd) | (go_at_call 33; refine (expr_leaf.calls k n.f0 n.f1 n.f2 n.f3 n.f4 false _ HLF.out).mono ?_; rintro e w2 ⟨rfl, hb⟩; have B2 := Aside0.mk (below_step B1.out hb); have X2 := Aside0.mk ((hb.block _ (blk_lt X1.out)).trans X1.out); have HR2 := Aside0.mk (Kd.R_below HR.out B2.out); clear hb))
       go_ret
       exact ⟨rfl, by first | exact below_step HB.out B2.out | exact pw_below_drewN (below_step HB.out B2.out) _ | exact below_step HB.out B1.out | exact pw_below_drewN (below_step HB.out B1.out) _⟩
      | true =>
       rw [if_pos rfl] at hA
       by_cases c5 : (st.length : Int) < kk
       ·rw [if_pos c5] at hA
        have c5b : decide ((st.length : Int) < kk) = true := decide_eq_true c5
        obtain rfl := Option.some.inj hA
        clear hA
        go_wp2_with (first | (go_at_call 32; refine (HOP.out _).mono ?_; rintro e w1 ⟨rfl, hd⟩; have X1 := Aside0.mk (dr_heap hd N0.out); have B1 := Aside0.mk (below_step hB1.out (Drawn0.below hd)); have q0 := (blk_cell X1.out 0).trans rfl; have q1 := (blk_cell X1.out 1).trans rfl; have q2 := (blk_cell X1.out 2).trans rfl; have q3 := (blk_cell X1.out 3).trans rfl; have q4 := (blk_cell X1.out 4).trans rfl; clear hd) | (go_at_call 33; refine (expr_leaf.calls k n.f0 n.f1 n.f2 n.f3 n.f4 true _ HLF.out).mono ?_; rintro e w2 ⟨rfl, hb⟩; have B2 := Aside0.mk (below_step B1.out hb); have X2 := Aside0.mk ((hb.block _ (blk_lt X1.out)).trans X1.out); have HR2 := Aside0.mk (Kd.R_below HR.out B2.out); clear hb))
        go_ret
        exact ⟨rfl, by first | exact below_step HB.out B2.out | exact pw_below_drewN (below_step HB.out B2.out) _ | exact below_step HB.out B1.out | exact pw_below_drewN (below_step HB.out B1.out) _⟩
       ·rw [if_neg c5] at hA
        have c5b : decide ((st.length : Int) < kk) = false := decide_eq_false c5
        by_cases c6 : ownA st kk = n.f3 ∧ ownB st kk = n.f4
        ·rw [if_pos c6] at hA
         have hA' := Aside0.mk hA
         have hab : (ownA st kk == n.f3 && ownB st kk == n.f4) = true := by rw [c6.1, c6.2]; simp
         clear hA c6
         go_wp2_with (first | (go_at_call 32; refine (HOP.out _).mono ?_; rintro e w1 ⟨rfl, hd⟩; have X1 := Aside0.mk (dr_heap hd N0.out); have B1 := Aside0.mk (below_step hB1.out (Drawn0.below hd)); have q0 := (blk_cell X1.out 0).trans rfl; have q1 := (blk_cell X1.out 1).trans rfl; have q2 := (blk_cell X1.out 2).trans rfl; have q3 := (blk_cell X1.out 3).trans rfl; have q4 := (blk_cell X1.out 4).trans rfl; clear hd) | (go_at_call 33; refine (expr_leaf.calls k n.f0 n.f1 n.f2 n.f3 n.f4 true _ HLF.out).mono ?_; rintro e w2 ⟨rfl, hb⟩; have B2 := Aside0.mk (below_step B1.out hb); have X2 := Aside0.mk ((hb.block _ (blk_lt X1.out)).trans X1.out); have HR2 := Aside0.mk (Kd.R_below HR.out B2.out); clear hb))
         have hk0 : 0 ≤ kk := by omega
         have hk2 : kk ≤ 2 := by omega
         have hkn : kk ≤ (st.length : Int) := by omega
         have hwr : IntKind.i64.wrap ((st.length : Int) - kk) = (st.length : Int) - kk := by rw [i64_w]; unfold Go.RowKit.wrap64; omega
         have hle : ((st.length : Int) - kk ≤ (st.length : Int)) = True := eq_true (by omega)
         have hOC := Aside0.mk (own_cs st kk hk0 hk2 hkn)
         generalize ownA st kk = oa at hab hOC
         generalize ownB st kk = ob at hab hOC
         have HSRC : Aside0 (0 < ((st.drop ((st.length : Int) - kk).toNat).map (Value.int .i64)).length → ∃ ad, (if c3 = ((st.length : Int) - kk).toNat then A3 else Option.map (fun x => x.add ((st.length : Int) - kk).toNat) A3) = some ad ∧ ∀ j v, ((st.drop ((st.length : Int) - kk).toNat).map (Value.int .i64))[j]? = some v → (w2.alloc (.cells #[.int .i64 0, .int .i64 0] 70)).drew.cell? (ad.add j) = some v) := ⟨chk_src (Kd.R_drew (Kd.R_alloc HR2.out _)) kk hk0 hkn⟩
         have HG := Aside0.mk (blk_new w2 (.cells #[.int .i64 0, .int .i64 0] 70))
         have HBB := Aside0.mk (below_alloc (Below.refl w2.heap.size w2) (.cells #[.int .i64 0, .int .i64 0] 70))
         have HCL : Aside0 (((st.drop ((st.length : Int) - kk).toNat).map (Value.int .i64)).length = Nat.min (st.length - ((st.length : Int) - kk).toNat) 2) := ⟨by rw [List.length_map, List.length_drop]; exact (Nat.min_eq_left (by omega)).symm⟩
         have HFIT : Aside0 (0 + ((st.drop ((st.length : Int) - kk).toNat).map (Value.int .i64)).length ≤ [Value.int .i64 0, Value.int .i64 0].length) := ⟨by rw [List.length_map, List.length_drop, List.length_cons, List.length_cons, List.length_nil]; omega⟩
         go_region_law (refine step_copy_splice rfl (.tmp 35) (.tmp 41) 37 37 rfl 3 Try.underlying37 infoInt (some ⟨w2.heap.size, 0, none⟩) (if c3 = ((st.length : Int) - kk).toNat then A3 else Option.map (fun x => x.add ((st.length : Int) - kk).toNat) A3) 2 2 (st.length - ((st.length : Int) - kk).toNat) (c3 - ((st.length : Int) - kk).toNat) (by first | (go_simp; done) | (go_simp; rfl)) (by first | (go_simp; done) | (go_simp; rfl)) w2.heap.size 0 [.int .i64 0, .int .i64 0] 70 HG.out ((st.drop ((st.length : Int) - kk).toNat).map (Value.int .i64)) HCL.out (fun hp => ⟨rfl, HSRC.out hp⟩) HFIT.out ?O w2.heap.size w2 (below_drew HBB.out) (Nat.le_refl _) ?_; (case O => intro v hv; obtain ⟨x, _, rfl⟩ := List.mem_map.1 hv; rfl); intro w3 hg3 hb3; have B3 := Aside0.mk hb3; have G3 := Aside0.mk (show w3.heap[w2.heap.size]? = some (.cells #[.int .i64 oa, .int .i64 ob] 70) from by have z := hg3; rw [hOC.out] at z; exact z); have X3 := Aside0.mk ((hb3.block _ (blk_lt X2.out)).trans X2.out); have z0 := (blk_cell G3.out 0).trans rfl; have z1 := (blk_cell G3.out 1).trans rfl; have r3 := (blk_cell X3.out 3).trans rfl; have r4 := (blk_cell X3.out 4).trans rfl; clear hg3 hb3; generalize (if c3 = ((st.length : Int) - kk).toNat then A3 else Option.map (fun x => x.add ((st.length : Int) - kk).toNat) A3) = SP)
         have heq := eq70 w3 oa ob n.f3 n.f4
         rw [hab] at heq
         have hmm : ((st.length : Int) - kk).toNat = st.length - kk.toNat := by omega
         have hA2 := hA'.out
         rw [← hmm] at hA2
         have HA2 := Aside0.mk hA2
         have HR3 := Aside0.mk (Kd.R_take (m := ((st.length : Int) - kk).toNat) (Kd.R_below HR2.out B3.out) (by omega))
         have HW3 := Aside0.mk (below_step (below_step HB.out B2.out) B3.out)
         have hmc : (((st.length : Int) - kk) ≤ (c3 : Int)) = True := eq_true (by omega)
         have hm0 : (0 ≤ (st.length : Int) - kk) = True := eq_true (by omega)
         have HLT : Aside0 (((st.take ((st.length : Int) - kk).toNat).length + 1) * 8 ≤ 140737488355328) := ⟨by rw [List.length_take]; omega⟩
         have HLL : Aside0 (((st.take ((st.length : Int) - kk).toNat ++ [i]).length : Int) ≤ i + 1) := ⟨by rw [List.length_append, List.length_take, List.length_singleton]; omega⟩
         clear hA2 hA' hmm
         go_wp2_with (first | ((with_reducible refine gate_builtin (b := .append) (xs := #[.tmp 55, .tmp 57]) rfl ?_); at_builtin; refine Kd.R_append (Kd.int .i64) (w0 := w) w.heap.size rfl (.tmp 55) (.tmp 57) 37 3 (.int .i64 0) 8 rfl Try.underlying37 infoIntZ rfl (by decide) (by omega) (.slice A3 ((st.length : Int) - kk).toNat c3) (st.take ((st.length : Int) - kk).toNat) i [.int .i64 i] (fun _ => True) (fun _ => False) rfl (by first | (go_simp; done) | (go_simp; rfl)) rfl (fun _ hk => hk.elim) (fun _ _ => trivial) ?aO ?aB ?aS HLT.out ?_; (case aO => exact HR3.out); (case aB => exact HW3.out); (case aS => exact HW3.out.size); intro v5 w5 ho hb hg hat; have HR5 := Aside0.mk ho; have HB5 := Aside0.mk hb; clear ho hb hg hat))
         go_roundg k1
         case measure => omega
         case rel => exact ⟨_, i + 1, rfl, HA2, by omega, by omega, HLL.out, HR5, HB5⟩
        ·rw [if_neg c6] at hA
         obtain rfl := Option.some.inj hA
         clear hA
         have hab : (ownA st kk == n.f3 && ownB st kk == n.f4) = false := by rw [Bool.eq_false_iff]; intro z; apply c6; simpa using z
         clear c6
         go_wp2_with (first | (go_at_call 32; refine (HOP.out _).mono ?_; rintro e w1 ⟨rfl, hd⟩; have X1 := Aside0.mk (dr_heap hd N0.out); have B1 := Aside0.mk (below_step hB1.out (Drawn0.below hd)); have q0 := (blk_cell X1.out 0).trans rfl; have q1 := (blk_cell X1.out 1).trans rfl; have q2 := (blk_cell X1.out 2).trans rfl; have q3 := (blk_cell X1.out 3).trans rfl; have q4 := (blk_cell X1.out 4).trans rfl; clear hd) | (go_at_call 33; refine (expr_leaf.calls k n.f0 n.f1 n.f2 n.f3 n.f4 true _ HLF.out).mono ?_; rintro e w2 ⟨rfl, hb⟩; have B2 := Aside0.mk (below_step B1.out hb); have X2 := Aside0.mk ((hb.block _ (blk_lt X1.out)).trans X1.out); have HR2 := Aside0.mk (Kd.R_below HR.out B2.out); clear hb))
         have hk0 : 0 ≤ kk := by omega
         have hk2 : kk ≤ 2 := by omega
         have hkn : kk ≤ (st.length : Int) := by omega
         have hwr : IntKind.i64.wrap ((st.length : Int) - kk) = (st.length : Int) - kk := by rw [i64_w]; unfold Go.RowKit.wrap64; omega
         have hle : ((st.length : Int) - kk ≤ (st.length : Int)) = True := eq_true (by omega)
         have hOC := Aside0.mk (own_cs st kk hk0 hk2 hkn)
         generalize ownA st kk = oa at hab hOC
         generalize ownB st kk = ob at hab hOC
         have HSRC : Aside0 (0 < ((st.drop ((st.length : Int) - kk).toNat).map (Value.int .i64)).length → ∃ ad, (if c3 = ((st.length : Int) - kk).toNat then A3 else Option.map (fun x => x.add ((st.length : Int) - kk).toNat) A3) = some ad ∧ ∀ j v, ((st.drop ((st.length : Int) - kk).toNat).map (Value.int .i64))[j]? = some v → (w2.alloc (.cells #[.int .i64 0, .int .i64 0] 70)).drew.cell? (ad.add j) = some v) := ⟨chk_src (Kd.R_drew (Kd.R_alloc HR2.out _)) kk hk0 hkn⟩
         have HG := Aside0.mk (blk_new w2 (.cells #[.int .i64 0, .int .i64 0] 70))
         have HBB := Aside0.mk (below_alloc (Below.refl w2.heap.size w2) (.cells #[.int .i64 0, .int .i64 0] 70))
         have HCL : Aside0 (((st.drop ((st.length : Int) - kk).toNat).map (Value.int .i64)).length = Nat.min (st.length - ((st.length : Int) - kk).toNat) 2) := ⟨by rw [List.length_map, List.length_drop]; exact (Nat.min_eq_left (by omega)).symm⟩
         have HFIT : Aside0 (0 + ((st.drop ((st.length : Int) - kk).toNat).map (Value.int .i64)).length ≤ [Value.int .i64 0, Value.int .i64 0].length) := ⟨by rw [List.length_map, List.length_drop, List.length_cons, List.length_cons, List.length_nil]; omega⟩
         go_region_law (refine step_copy_splice rfl (.tmp 35) (.tmp 41) 37 37 rfl 3 Try.underlying37 infoInt (some ⟨w2.heap.size, 0, none⟩) (if c3 = ((st.length : Int) - kk).toNat then A3 else Option.map (fun x => x.add ((st.length : Int) - kk).toNat) A3) 2 2 (st.length - ((st.length : Int) - kk).toNat) (c3 - ((st.length : Int) - kk).toNat) (by first | (go_simp; done) | (go_simp; rfl)) (by first | (go_simp; done) | (go_simp; rfl)) w2.heap.size 0 [.int .i64 0, .int .i64 0] 70 HG.out ((st.drop ((st.length : Int) - kk).toNat).map (Value.int .i64)) HCL.out (fun hp => ⟨rfl, HSRC.out hp⟩) HFIT.out ?O w2.heap.size w2 (below_drew HBB.out) (Nat.le_refl _) ?_; (case O => intro v hv; obtain ⟨x, _, rfl⟩ := List.mem_map.1 hv; rfl); intro w3 hg3 hb3; have B3 := Aside0.mk hb3; have G3 := Aside0.mk (show w3.heap[w2.heap.size]? = some (.cells #[.int .i64 oa, .int .i64 ob] 70) from by have z := hg3; rw [hOC.out] at z; exact z); have X3 := Aside0.mk ((hb3.block _ (blk_lt X2.out)).trans X2.out); have z0 := (blk_cell G3.out 0).trans rfl; have z1 := (blk_cell G3.out 1).trans rfl; have r3 := (blk_cell X3.out 3).trans rfl; have r4 := (blk_cell X3.out 4).trans rfl; clear hg3 hb3; generalize (if c3 = ((st.length : Int) - kk).toNat then A3 else Option.map (fun x => x.add ((st.length : Int) - kk).toNat) A3) = SP)
         have heq := eq70 w3 oa ob n.f3 n.f4
         rw [hab] at heq
         have HW3 := Aside0.mk (below_step (below_step HB.out B2.out) B3.out)
         go_wp2
         go_ret
         exact ⟨rfl, by first | exact HW3.out | exact pw_below_drewN HW3.out _⟩
    ·rw [if_neg c2] at hA
     have c2b : decide (i < (l0.length : Int)) = false := decide_eq_false c2
     by_cases c7 : st.length = 1
     ·rw [if_pos c7] at hA
      obtain rfl := Option.some.inj hA
      have c7b : ((st.length : Int) == 1) = true := by simp [c7]
      clear hA c7
      go_wp2
      go_ret
      exact ⟨rfl, by first | exact HB.out | exact pw_below_drewN HB.out _⟩
     ·rw [if_neg c7] at hA
      obtain rfl := Option.some.inj hA
      have c7b : ((st.length : Int) == 1) = false := beq_eq_false_iff_ne.mpr (by omega)
      clear hA c7
      go_wp2
      go_ret
      exact ⟨rfl, by first | exact HB.out | exact pw_below_drewN HB.out _⟩
theorem chkL_mono (K : Nat) (x : List S48) : ∀ k i st, LeO (chkL K x k i st) (chkL (K + 1) x k i st)
 | 0, _, _ => LeO.refl _
 | k + 1, i, st => by
  rw [chkL, chkL]
  repeat' first
   | exact LeO.refl _
   | exact expr_leaf.mono _ _ _ _ _ _
   | exact chkL_mono K x k _ _
   | refine LeO.ite ?_ ?_
   | refine LeO.bind ?_ (fun _ => ?_)
theorem expr_Check.mono : ∀ l0 k, LeO (expr_Check.f k l0) (expr_Check.f (k + 1) l0) := by
 intro l0 k
 unfold expr_Check.f
 exact LeO.ite (LeO.refl _) (chkL_mono k l0 _ _ _)

/-! ### expr_shift: function 50 -/
def expr_shift.f (a0 : Int) (a1 : Int) (a2 : Bool) : Option (Int × Int) := if a1 < 0 then (some (0, 5)) else (if a2 = true then (if 0 ≤ (IntKind.u64.wrap (a1)) then (some (wrap64 (shl .u64 (IntKind.u64.wrap (a0)) (IntKind.u64.wrap (a1))), 0)) else (none)) else (if 0 ≤ (IntKind.u64.wrap (a1)) then (some (wrap64 (shr .u64 (IntKind.u64.wrap (a0)) (IntKind.u64.wrap (a1))), 0)) else (none)))
set_option maxHeartbeats 8000000 in
set_option maxRecDepth 100000 in
theorem expr_shift.calls (a0 : Int) (a1 : Int) (a2 : Bool) (r1 : Int) (r2 : Int) (w : World) (h : expr_shift.f a0 a1 a2 = some (r1, r2)) :
  Calls Try.prog 50 #[.int .i64 a0, .int .i64 a1, .bool a2] w fun e w' => e = .returned (.tuple #[.int .i64 r1, .int .i64 r2]) ∧ Drawn0 w w' := by
 have H : (if a1 < 0 then (some (0, 5)) else (if a2 = true then (if 0 ≤ (IntKind.u64.wrap (a1)) then (some (wrap64 (shl .u64 (IntKind.u64.wrap (a0)) (IntKind.u64.wrap (a1))), 0)) else (none)) else (if 0 ≤ (IntKind.u64.wrap (a1)) then (some (wrap64 (shr .u64 (IntKind.u64.wrap (a0)) (IntKind.u64.wrap (a1))), 0)) else (none)))) = some (r1, r2) := h
 clear h
 by_cases c4 : a1 < 0
 ·rw [if_pos c4] at H
  have c4b0 : decide (a1 < 0) = true := decide_eq_true c4
  clear c4
  simp only [Option.some.injEq, Prod.mk.injEq] at H
  obtain ⟨rfl, rfl⟩ := H
  go_enter Try.func50, Try.ntmps50
  go_wp2
  go_ret2
  exact ⟨by first | rfl | (simp; done) | (simp [*]; done), by repeat (first | exact Drawn0.refl _ | apply Drawn0.step)⟩
 ·rw [if_neg c4] at H
  have c4b0 : decide (a1 < 0) = false := decide_eq_false c4
  clear c4
  by_cases c5 : a2 = true
  ·subst c5
   have H1 : (if 0 ≤ (IntKind.u64.wrap (a1)) then (some (wrap64 (shl .u64 (IntKind.u64.wrap (a0)) (IntKind.u64.wrap (a1))), 0)) else (none)) = some (r1, r2) := by rw [if_pos rfl] at H; exact H
   clear H
   have H := H1
   clear H1
   obtain ⟨ji6, hji6⟩ : ∃ j_ : Int, (IntKind.u64.wrap (a1)) = j_ := ⟨_, rfl⟩
   replace H : (if 0 ≤ (ji6) then (some (wrap64 (shl .u64 (IntKind.u64.wrap (a0)) (ji6)), 0)) else (none)) = some (r1, r2) := by first | (rw [hji6] at H; exact H) | (simp only [hji6] at H ⊢; exact H)
   by_cases c7 : 0 ≤ (ji6)
   ·rw [if_pos c7] at H
    have c7b0 := eq_true c7
    have c7b1 : decide (0 ≤ (ji6)) = true := decide_eq_true c7
    clear c7
    obtain ⟨ji8, hji8⟩ : ∃ j_ : Int, (shl .u64 (IntKind.u64.wrap (a0)) (ji6)) = j_ := ⟨_, rfl⟩
    replace H : (some (wrap64 (ji8), 0)) = some (r1, r2) := by first | (rw [hji8] at H; exact H) | (simp only [hji8] at H ⊢; exact H)
    have hji8_ : (IntKind.u64.wrap ((IntKind.u64.wrap (a0)) * 2 ^ min (ji6).toNat 64)) = ji8 := hji8
    have hji8z : (ji6) ≤ 64 → (IntKind.u64.wrap ((IntKind.u64.wrap (a0)) * 2 ^ (ji6).toNat)) = ji8 := shl_small hji8
    simp only [Option.some.injEq, Prod.mk.injEq] at H
    obtain ⟨rfl, rfl⟩ := H
    go_enter Try.func50, Try.ntmps50
    go_wp2
    go_ret2
    exact ⟨by first | rfl | (simp; done) | (simp only [← hji6, ← hji8] <;> (first | rfl | simp)) | (simp [*]; done), by repeat (first | exact Drawn0.refl _ | apply Drawn0.step)⟩
   ·rw [if_neg c7] at H
    exact absurd H (by simp)
  ·replace c5 := Bool.eq_false_iff.mpr c5
   subst c5
   have H1 : (if 0 ≤ (IntKind.u64.wrap (a1)) then (some (wrap64 (shr .u64 (IntKind.u64.wrap (a0)) (IntKind.u64.wrap (a1))), 0)) else (none)) = some (r1, r2) := by rw [if_neg (show ¬ (false = true) by decide)] at H; exact H
   clear H
   have H := H1
   clear H1
   obtain ⟨ji9, hji9⟩ : ∃ j_ : Int, (IntKind.u64.wrap (a1)) = j_ := ⟨_, rfl⟩
   replace H : (if 0 ≤ (ji9) then (some (wrap64 (shr .u64 (IntKind.u64.wrap (a0)) (ji9)), 0)) else (none)) = some (r1, r2) := by first | (rw [hji9] at H; exact H) | (simp only [hji9] at H ⊢; exact H)
   by_cases c10 : 0 ≤ (ji9)
   ·rw [if_pos c10] at H
    have c10b0 := eq_true c10
    have c10b1 : decide (0 ≤ (ji9)) = true := decide_eq_true c10
    clear c10
    obtain ⟨ji11, hji11⟩ : ∃ j_ : Int, (shr .u64 (IntKind.u64.wrap (a0)) (ji9)) = j_ := ⟨_, rfl⟩
    replace H : (some (wrap64 (ji11), 0)) = some (r1, r2) := by first | (rw [hji11] at H; exact H) | (simp only [hji11] at H ⊢; exact H)
    have hji11_ : ((IntKind.u64.wrap (a0)) / 2 ^ min (ji9).toNat 64) = ji11 := hji11
    have hji11z : (ji9) ≤ 64 → ((IntKind.u64.wrap (a0)) / 2 ^ (ji9).toNat) = ji11 := shr_small hji11
    simp only [Option.some.injEq, Prod.mk.injEq] at H
    obtain ⟨rfl, rfl⟩ := H
    go_enter Try.func50, Try.ntmps50
    go_wp2
    go_ret2
    exact ⟨by first | rfl | (simp; done) | (simp only [← hji9, ← hji11] <;> (first | rfl | simp)) | (simp [*]; done), by repeat (first | exact Drawn0.refl _ | apply Drawn0.step)⟩
   ·rw [if_neg c10] at H
    exact absurd H (by simp)

/-! ### expr_two: function 35 -/
mutual
def expr_two.j0 : Nat → Int → Int → Int → Bool → Option (Int × Int)
 | 0, _, _, _, _ => none
 | k + 1, x0, x1, x2, x17 => if x17 = true then (some (0, 5)) else (if x0 = 7 then (some (wrap64 (x1 * x2), 0)) else (if x0 = 8 then (if x2 = 0 then (none) else (some (wrap64 (Int.tdiv x1 x2), 0))) else (if x0 = 9 then (if x2 = 0 then (none) else (some (Int.tmod x1 x2, 0))) else (if x0 = 10 then (some (wrap64 (x1 + x2), 0)) else (if x0 = 11 then (some (wrap64 (x1 - x2), 0)) else (if x0 = 12 then (expr_two.j1 k x0 x1 x2 x0 (x0 == 12)) else (expr_two.j1 k x0 x1 x2 x0 (x0 == 13))))))))
def expr_two.j1 : Nat → Int → Int → Int → Int → Bool → Option (Int × Int)
 | 0, _, _, _, _, _ => none
 | k + 1, x0, x1, x2, x18, x44 => if x44 = true then ((expr_shift.f x1 x2 (x0 == 12)).bind fun bt163 => (some (bt163.1, bt163.2))) else (if x18 = 14 then (some (Go.bits .and .i64 x1 x2, 0)) else (if x18 = 15 then (some (Go.bits .xor .i64 x1 x2, 0)) else (some (Go.bits .or .i64 x1 x2, 0))))
end
def expr_two.f (k : Nat) (a0 : Int) (a1 : Int) (a2 : Int) : Option (Int × Int) := if a0 = 8 then (expr_two.j0 k a0 a1 a2 (a2 == 0)) else (if a0 = 9 then (expr_two.j0 k a0 a1 a2 (a2 == 0)) else (expr_two.j0 k a0 a1 a2 false))
theorem expr_two.mono_l : ∀ k, (∀ y0 y1 y2 y3, LeO (expr_two.j0 k y0 y1 y2 y3) (expr_two.j0 (k + 1) y0 y1 y2 y3)) ∧ (∀ y0 y1 y2 y3 y4, LeO (expr_two.j1 k y0 y1 y2 y3 y4) (expr_two.j1 (k + 1) y0 y1 y2 y3 y4))
 | 0 => ⟨fun _ _ _ _ r h => by simp [expr_two.j0] at h, fun _ _ _ _ _ r h => by simp [expr_two.j1] at h⟩
 | k + 1 => by
  obtain ⟨ih0, ih1⟩ := expr_two.mono_l k
  refine ⟨?_, ?_⟩
  ·intro y0 y1 y2 y3
   unfold expr_two.j0
   repeat' first
   | (with_reducible exact ih0 _ _ _ _)
   | (with_reducible exact ih1 _ _ _ _ _)
   | (with_reducible exact LeO.refl _)
   | (with_reducible exact LeO.none _)
   | (with_reducible refine LeO.ite ?_ ?_)
   | (with_reducible refine LeO.bind ?_ (fun _ => ?_))
   | exact ih0 _ _ _ _
   | exact ih1 _ _ _ _ _
   | exact LeO.none _
   | refine LeO.ite ?_ ?_
   | refine LeO.bind ?_ (fun _ => ?_)
  ·intro y0 y1 y2 y3 y4
   unfold expr_two.j1
   repeat' first
   | (with_reducible exact ih0 _ _ _ _)
   | (with_reducible exact ih1 _ _ _ _ _)
   | (with_reducible exact LeO.refl _)
   | (with_reducible exact LeO.none _)
   | (with_reducible refine LeO.ite ?_ ?_)
   | (with_reducible refine LeO.bind ?_ (fun _ => ?_))
   | exact ih0 _ _ _ _
   | exact ih1 _ _ _ _ _
   | exact LeO.none _
   | refine LeO.ite ?_ ?_
   | refine LeO.bind ?_ (fun _ => ?_)
theorem expr_two.mono : ∀ a0 a1 a2 k, LeO (expr_two.f k a0 a1 a2) (expr_two.f (k + 1) a0 a1 a2) := by
 intro a0 a1 a2 k
 obtain ⟨ih0, ih1⟩ := expr_two.mono_l k
 unfold expr_two.f
 repeat' first
   | (with_reducible exact ih0 _ _ _ _)
   | (with_reducible exact ih1 _ _ _ _ _)
   | (with_reducible exact LeO.refl _)
   | (with_reducible exact LeO.none _)
   | (with_reducible refine LeO.ite ?_ ?_)
   | (with_reducible refine LeO.bind ?_ (fun _ => ?_))
   | exact ih0 _ _ _ _
   | exact ih1 _ _ _ _ _
   | exact LeO.none _
   | refine LeO.ite ?_ ?_
   | refine LeO.bind ?_ (fun _ => ?_)
set_option maxHeartbeats 8000000 in
set_option maxRecDepth 100000 in
theorem expr_two.calls (k : Nat) (a0 : Int) (a1 : Int) (a2 : Int) (r1 : Int) (r2 : Int) (w : World) (h : expr_two.f k a0 a1 a2 = some (r1, r2)) :
  Calls Try.prog 35 #[.int .i64 a0, .int .i64 a1, .int .i64 a2] w fun e w' => e = .returned (.tuple #[.int .i64 r1, .int .i64 r2]) ∧ Drawn0 w w' := by
 have H : (if a0 = 8 then (expr_two.j0 k a0 a1 a2 (a2 == 0)) else (if a0 = 9 then (expr_two.j0 k a0 a1 a2 (a2 == 0)) else (expr_two.j0 k a0 a1 a2 false))) = some (r1, r2) := h
 clear h
 have HC4 := Aside0.mk H
 clear H
 go_enter Try.func35, Try.ntmps35
 go_upto_region 1 with (fail)
 go_cut [17] (fun v17 wc => ∃ (kq : Nat) (x17_3 : Bool), v17 = .bool x17_3 ∧ Aside0 (expr_two.j0 kq a0 a1 a2 x17_3 = some (r1, r2)) ∧ Aside0 (kq ≤ k) ∧ Drawn0 w wc)
 case first =>
  have H := HC4.out
  clear HC4
  by_cases c5 : a0 = 8
  ·rw [if_pos c5] at H
   have c5b0 : (a0 == 8) = true := beq_iff_eq.mpr c5
   have c5b1 : (a0 != 8) = false := bne_eq_false_iff_eq.mpr c5
   clear c5
   (first | rw [c5b0] | (simp only [i64_w, i32_w]; rw [c5b0]) | skip)
   have H' := Aside0.mk H
   clear H
   go_wp2
   go_meet
   case rel => exact ⟨_, ((a2 == 0)), (by first | rfl | (simp; done) | (simp [*]; done)), H', ⟨by first | omega | exact Nat.le_refl _⟩, by repeat (first | exact Drawn0.refl _ | apply Drawn0.step)⟩
  ·rw [if_neg c5] at H
   have c5b0 : (a0 == 8) = false := beq_eq_false_iff_ne.mpr c5
   have c5b1 : (a0 != 8) = true := bne_iff_ne.mpr c5
   (first | rw [c5b0] | (simp only [i64_w, i32_w]; rw [c5b0]) | skip)
   by_cases c6 : a0 = 9
   ·rw [if_pos c6] at H
    have c6b0 : (a0 == 9) = true := beq_iff_eq.mpr c6
    have c6b1 : (a0 != 9) = false := bne_eq_false_iff_eq.mpr c6
    clear c6
    have H' := Aside0.mk H
    clear H
    go_wp2
    go_meet
    case rel => exact ⟨_, ((a2 == 0)), (by first | rfl | (simp; done) | (simp [*]; done)), H', ⟨by first | omega | exact Nat.le_refl _⟩, by repeat (first | exact Drawn0.refl _ | apply Drawn0.step)⟩
   ·rw [if_neg c6] at H
    have c6b0 : (a0 == 9) = false := beq_eq_false_iff_ne.mpr c6
    have c6b1 : (a0 != 9) = true := bne_iff_ne.mpr c6
    have H' := Aside0.mk H
    clear H
    go_wp2
    go_meet
    case rel => exact ⟨_, (false), (by first | rfl | (simp; done) | (simp [*]; done)), H', ⟨by first | omega | exact Nat.le_refl _⟩, by repeat (first | exact Drawn0.refl _ | apply Drawn0.step)⟩
 case rest =>
  clear HC4
  try clear p2
  try clear c3
  try clear c5
  try clear c5b0
  try clear c5b1
  try clear c6
  try clear c6b0
  try clear c6b1
  obtain ⟨kq, x17_3, rfl, HA, HJ3, ⟨mc3, rfl⟩⟩ := hcut
  cases kq with
  | zero => exact absurd HA.out (by simp [expr_two.j0])
  | succ kj3 =>
   have H := HA.out
   clear HA
   simp only [expr_two.j0] at H
   by_cases c7 : x17_3 = true
   ·subst c7
    have H1 : (some (0, 5)) = some (r1, r2) := by rw [if_pos rfl] at H; exact H
    clear H
    have H := H1
    clear H1
    simp only [Option.some.injEq, Prod.mk.injEq] at H
    obtain ⟨rfl, rfl⟩ := H
    go_wp2
    go_ret2
    exact ⟨by first | rfl | (simp; done) | (simp [*]; done), by repeat (first | exact Drawn0.refl _ | apply Drawn0.step)⟩
   ·replace c7 := Bool.eq_false_iff.mpr c7
    subst c7
    have H1 : (if a0 = 7 then (some (wrap64 (a1 * a2), 0)) else (if a0 = 8 then (if a2 = 0 then (none) else (some (wrap64 (Int.tdiv a1 a2), 0))) else (if a0 = 9 then (if a2 = 0 then (none) else (some (Int.tmod a1 a2, 0))) else (if a0 = 10 then (some (wrap64 (a1 + a2), 0)) else (if a0 = 11 then (some (wrap64 (a1 - a2), 0)) else (if a0 = 12 then (expr_two.j1 kj3 a0 a1 a2 a0 (a0 == 12)) else (expr_two.j1 kj3 a0 a1 a2 a0 (a0 == 13)))))))) = some (r1, r2) := by rw [if_neg (show ¬ (false = true) by decide)] at H; exact H
    clear H
    have H := H1
    clear H1
    by_cases c8 : a0 = 7
    ·rw [if_pos c8] at H
     have c8b0 : (a0 == 7) = true := beq_iff_eq.mpr c8
     have c8b1 : (a0 != 7) = false := bne_eq_false_iff_eq.mpr c8
     clear c8
     simp only [Option.some.injEq, Prod.mk.injEq] at H
     obtain ⟨rfl, rfl⟩ := H
     go_wp2
     go_ret2
     exact ⟨by first | rfl | (simp; done) | (simp [*]; done), by repeat (first | exact Drawn0.refl _ | apply Drawn0.step)⟩
    ·rw [if_neg c8] at H
     have c8b0 : (a0 == 7) = false := beq_eq_false_iff_ne.mpr c8
     have c8b1 : (a0 != 7) = true := bne_iff_ne.mpr c8
     by_cases c9 : a0 = 8
     ·rw [if_pos c9] at H
      have c9b0 : (a0 == 8) = true := beq_iff_eq.mpr c9
      have c9b1 : (a0 != 8) = false := bne_eq_false_iff_eq.mpr c9
      clear c9
      by_cases c10 : a2 = 0
      ·rw [if_pos c10] at H
       exact absurd H (by simp)
      ·rw [if_neg c10] at H
       have c10b0 : (a2 == 0) = false := beq_eq_false_iff_ne.mpr c10
       have c10b1 : (a2 != 0) = true := bne_iff_ne.mpr c10
       simp only [Option.some.injEq, Prod.mk.injEq] at H
       obtain ⟨rfl, rfl⟩ := H
       go_wp2
       go_ret2
       exact ⟨by first | rfl | (simp; done) | (simp [*]; done), by repeat (first | exact Drawn0.refl _ | apply Drawn0.step)⟩
     ·rw [if_neg c9] at H
      have c9b0 : (a0 == 8) = false := beq_eq_false_iff_ne.mpr c9
      have c9b1 : (a0 != 8) = true := bne_iff_ne.mpr c9
      by_cases c11 : a0 = 9
      ·rw [if_pos c11] at H
       have c11b0 : (a0 == 9) = true := beq_iff_eq.mpr c11
       have c11b1 : (a0 != 9) = false := bne_eq_false_iff_eq.mpr c11
       clear c11
       by_cases c12 : a2 = 0
       ·rw [if_pos c12] at H
        exact absurd H (by simp)
       ·rw [if_neg c12] at H
        have c12b0 : (a2 == 0) = false := beq_eq_false_iff_ne.mpr c12
        have c12b1 : (a2 != 0) = true := bne_iff_ne.mpr c12
        simp only [Option.some.injEq, Prod.mk.injEq] at H
        obtain ⟨rfl, rfl⟩ := H
        go_wp2
        go_ret2
        exact ⟨by first | rfl | (simp; done) | (simp [*]; done), by repeat (first | exact Drawn0.refl _ | apply Drawn0.step)⟩
      ·rw [if_neg c11] at H
       have c11b0 : (a0 == 9) = false := beq_eq_false_iff_ne.mpr c11
       have c11b1 : (a0 != 9) = true := bne_iff_ne.mpr c11
       by_cases c13 : a0 = 10
       ·rw [if_pos c13] at H
        have c13b0 : (a0 == 10) = true := beq_iff_eq.mpr c13
        have c13b1 : (a0 != 10) = false := bne_eq_false_iff_eq.mpr c13
        clear c13
        simp only [Option.some.injEq, Prod.mk.injEq] at H
        obtain ⟨rfl, rfl⟩ := H
        go_wp2
        go_ret2
        exact ⟨by first | rfl | (simp; done) | (simp [*]; done), by repeat (first | exact Drawn0.refl _ | apply Drawn0.step)⟩
       ·rw [if_neg c13] at H
        have c13b0 : (a0 == 10) = false := beq_eq_false_iff_ne.mpr c13
        have c13b1 : (a0 != 10) = true := bne_iff_ne.mpr c13
        by_cases c14 : a0 = 11
        ·rw [if_pos c14] at H
         have c14b0 : (a0 == 11) = true := beq_iff_eq.mpr c14
         have c14b1 : (a0 != 11) = false := bne_eq_false_iff_eq.mpr c14
         clear c14
         simp only [Option.some.injEq, Prod.mk.injEq] at H
         obtain ⟨rfl, rfl⟩ := H
         go_wp2
         go_ret2
         exact ⟨by first | rfl | (simp; done) | (simp [*]; done), by repeat (first | exact Drawn0.refl _ | apply Drawn0.step)⟩
        ·rw [if_neg c14] at H
         have c14b0 : (a0 == 11) = false := beq_eq_false_iff_ne.mpr c14
         have c14b1 : (a0 != 11) = true := bne_iff_ne.mpr c14
         have HC15 := Aside0.mk H
         clear H
         go_upto_if 44 with (fail)
         go_cut [44] (fun v44 wc => ∃ (kq : Nat) (x44_14 : Bool), v44 = .bool x44_14 ∧ Aside0 (expr_two.j1 kq a0 a1 a2 a0 x44_14 = some (r1, r2)) ∧ Aside0 (kq ≤ kj3) ∧ Drawn0 w wc)
         case first =>
          have H := HC15.out
          clear HC15
          by_cases c16 : a0 = 12
          ·rw [if_pos c16] at H
           have c16b0 : (a0 == 12) = true := beq_iff_eq.mpr c16
           have c16b1 : (a0 != 12) = false := bne_eq_false_iff_eq.mpr c16
           clear c16
           (first | rw [c16b0] | (simp only [i64_w, i32_w]; rw [c16b0]) | skip)
           have H' := Aside0.mk H
           clear H
           go_wp2
           go_meet
           case rel => exact ⟨_, ((a0 == 12)), (by first | rfl | (simp; done) | (simp [*]; done)), H', ⟨by have := HJ3.out; first | omega | exact Nat.le_refl _⟩, by repeat (first | exact Drawn0.refl _ | apply Drawn0.step)⟩
          ·rw [if_neg c16] at H
           have c16b0 : (a0 == 12) = false := beq_eq_false_iff_ne.mpr c16
           have c16b1 : (a0 != 12) = true := bne_iff_ne.mpr c16
           (first | rw [c16b0] | (simp only [i64_w, i32_w]; rw [c16b0]) | skip)
           have H' := Aside0.mk H
           clear H
           go_wp2
           go_meet
           case rel => exact ⟨_, ((a0 == 13)), (by first | rfl | (simp; done) | (simp [*]; done)), H', ⟨by have := HJ3.out; first | omega | exact Nat.le_refl _⟩, by repeat (first | exact Drawn0.refl _ | apply Drawn0.step)⟩
         case rest =>
          clear HC15
          try clear c1
          try clear p2
          try clear c3
          try clear c5
          try clear c5b0
          try clear c5b1
          try clear c6
          try clear c6b0
          try clear c6b1
          try clear p6
          try clear c7
          try clear c8
          try clear c8b0
          try clear c8b1
          try clear c9
          try clear c9b0
          try clear c9b1
          try clear c10
          try clear c10b0
          try clear c10b1
          try clear c11
          try clear c11b0
          try clear c11b1
          try clear c12
          try clear c12b0
          try clear c12b1
          try clear c13
          try clear c13b0
          try clear c13b1
          try clear c14
          try clear c14b0
          try clear c14b1
          try clear c16
          try clear c16b0
          try clear c16b1
          try clear p2
          obtain ⟨kq, x44_14, rfl, HA, HJ14, ⟨mc14, rfl⟩⟩ := hcut
          cases kq with
          | zero => exact absurd HA.out (by simp [expr_two.j1])
          | succ kj14 =>
           have H := HA.out
           clear HA
           simp only [expr_two.j1] at H
           by_cases c17 : x44_14 = true
           ·subst c17
            have H1 : ((expr_shift.f a1 a2 (a0 == 12)).bind fun bt163 => (some (bt163.1, bt163.2))) = some (r1, r2) := by rw [if_pos rfl] at H; exact H
            clear H
            have H := H1
            clear H1
            replace H := Option.bind_eq_some_iff.mp H
            obtain ⟨⟨t163, t164⟩, A180, H⟩ := H
            replace H : (some (t163, t164)) = some (r1, r2) := H
            have A18 := Aside0.mk A180
            clear A180
            simp only [Option.some.injEq, Prod.mk.injEq] at H
            obtain ⟨rfl, rfl⟩ := H
            go_wp2_with (first | ((with_reducible refine gate_callee (f := 50) rfl ?_); refine goesL_ (some 51) rfl rfl Try.func50 (by kernel_rfl) rfl #[.int .i64 a1, .int .i64 a2, .bool (a0 == 12)] rfl (by (try simp only [List.map_toArray, List.map_cons, List.map_nil]); first | done | rfl | (simp only [List.length_drop, List.length_take]; rfl)) ?_; (with_reducible refine (expr_shift.calls a1 a2 (a0 == 12) t163 t164 _ A18.out).mono ?_); rintro e w' ⟨rfl, ⟨nd, rfl⟩⟩; refine ⟨_, rfl, ?_⟩))
            go_ret2
            exact ⟨by first | rfl | (simp; done) | (simp [*]; done), by repeat (first | exact Drawn0.refl _ | apply Drawn0.step)⟩
           ·replace c17 := Bool.eq_false_iff.mpr c17
            subst c17
            have H1 : (if a0 = 14 then (some (Go.bits .and .i64 a1 a2, 0)) else (if a0 = 15 then (some (Go.bits .xor .i64 a1 a2, 0)) else (some (Go.bits .or .i64 a1 a2, 0)))) = some (r1, r2) := by rw [if_neg (show ¬ (false = true) by decide)] at H; exact H
            clear H
            have H := H1
            clear H1
            by_cases c19 : a0 = 14
            ·rw [if_pos c19] at H
             have c19b0 : (a0 == 14) = true := beq_iff_eq.mpr c19
             have c19b1 : (a0 != 14) = false := bne_eq_false_iff_eq.mpr c19
             clear c19
             simp only [Option.some.injEq, Prod.mk.injEq] at H
             obtain ⟨rfl, rfl⟩ := H
             go_wp2
             go_ret2
             exact ⟨by first | rfl | (simp; done) | (simp [*]; done), by repeat (first | exact Drawn0.refl _ | apply Drawn0.step)⟩
            ·rw [if_neg c19] at H
             have c19b0 : (a0 == 14) = false := beq_eq_false_iff_ne.mpr c19
             have c19b1 : (a0 != 14) = true := bne_iff_ne.mpr c19
             by_cases c20 : a0 = 15
             ·rw [if_pos c20] at H
              have c20b0 : (a0 == 15) = true := beq_iff_eq.mpr c20
              have c20b1 : (a0 != 15) = false := bne_eq_false_iff_eq.mpr c20
              clear c20
              simp only [Option.some.injEq, Prod.mk.injEq] at H
              obtain ⟨rfl, rfl⟩ := H
              go_wp2
              go_ret2
              exact ⟨by first | rfl | (simp; done) | (simp [*]; done), by repeat (first | exact Drawn0.refl _ | apply Drawn0.step)⟩
             ·rw [if_neg c20] at H
              have c20b0 : (a0 == 15) = false := beq_eq_false_iff_ne.mpr c20
              have c20b1 : (a0 != 15) = true := bne_iff_ne.mpr c20
              simp only [Option.some.injEq, Prod.mk.injEq] at H
              obtain ⟨rfl, rfl⟩ := H
              go_wp2
              go_ret2
              exact ⟨by first | rfl | (simp; done) | (simp [*]; done), by repeat (first | exact Drawn0.refl _ | apply Drawn0.step)⟩

end Go.Proofs.Ytjabjooephellaa.XB
