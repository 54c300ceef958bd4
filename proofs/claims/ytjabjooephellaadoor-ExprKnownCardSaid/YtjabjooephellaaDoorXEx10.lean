-- PRINTED by print.py (a twelfth state) out of the translation. Not trusted: Lean checks it.
import Derived.Test.YtjabjooephellaaDoorXEx0
import Derived.Test.YtjabjooephellaaDoorXEx3
import Derived.Test.YtjabjooephellaaDoorXEx5
import Derived.Test.YtjabjooephellaaDoorXEx9
namespace Go.Proofs.YtjabjooephellaaDoor.XE
open Go.RowKit Go.Proofs.YtjabjooephellaaDoorW.PrintWords Go.Proofs.YtjabjooephellaaDoorW.PrintLast Go.Proofs.YtjabjooephellaaDoorW.PrintMore
attribute [local go_sem] max2_int min2_int max_two min_two max_three min_three max_four min_four   -- for this text's walks alone
set_option linter.unusedVariables false
set_option linter.unusedSimpArgs false

/-! ### expr_Parse: function 21 -/
structure RSt where
 at_ : Int
 depth : Int
 out : List S47
 e : Int
 ea : Int
abbrev RMax : Int := 4611686018427387904
def RD (w0 w : World) (g : Nat) (A : Option Addr) (c : Nat) (toks : List S37) (s : RSt) (v : Value) : Prop :=
 w.heap[g]? = some (.cells #[.slice A toks.length c, .int .i64 s.at_, .int .i64 s.depth, v, .int .i64 s.e, .int .i64 s.ea] 73 (0, 0)) ∧ w0.heap.size ≤ g ∧ Kd.R k47 47 w w0.heap.size (fun _ => True) v s.out ∧ Below w0.heap.size w0 w
/-- What a method leaves alone: all but the reader's block and its nodes' row; and where that row may lie then. -/
def RKeep (w w' : World) (g : Nat) (v v' : Value) : Prop := KeepBut w w' g v.ownBlock ∧ (v'.ownBlock = v.ownBlock ∨ ∃ b, v'.ownBlock = some b ∧ w.heap.size ≤ b)
theorem RKeep.refl (w : World) (g : Nat) (v : Value) : RKeep w w g v v := ⟨KeepBut.refl _ _ _, .inl rfl⟩
theorem RKeep.trans {w w1 w2 : World} {g : Nat} {v v1 v2 : Value} (h : RKeep w w1 g v v1) (k : RKeep w1 w2 g v1 v2) : RKeep w w2 g v v2 := by
 refine ⟨KeepBut.trans h.1 k.1 (by rcases h.2 with e | ⟨b, e, hb⟩; exact .inl e; exact .inr ⟨b, e, hb⟩), ?_⟩
 rcases k.2 with e | ⟨b, e, hb⟩
 ·rw [e]; exact h.2
 ·exact .inr ⟨b, e, Nat.le_trans h.1.1 hb⟩
theorem RKeep.of_none {w w1 : World} {g : Nat} {v : Value} (h : KeepBut w w1 g none) : RKeep w w1 g v v := ⟨⟨h.1, fun i hi hg _ => h.2 i hi hg (by simp)⟩, .inl rfl⟩
section
variable {w0 w w1 : World} {g : Nat} {A : Option Addr} {c : Nat} {toks : List S37} {s : RSt} {v : Value}
theorem RD.drewN (h : RD w0 w g A c toks s v) (n : Nat) : RD w0 (w.drewN n) g A c toks s v := ⟨h.1, h.2.1, Kd.R_drewN h.2.2.1 n, pw_below_drewN h.2.2.2 n⟩
theorem RD.drawn (h : RD w0 w g A c toks s v) (hd : Drawn0 w w1) : RD w0 w1 g A c toks s v := by obtain ⟨n, rfl⟩ := hd; exact h.drewN n
theorem drawn_keep (hd : Drawn0 w w1) (v : Value) : RKeep w w1 g v v := by
 obtain ⟨n, rfl⟩ := hd
 exact RKeep.of_none ⟨Nat.le_refl _, fun i _ _ _ => rfl⟩
theorem RD.lt (h : RD w0 w g A c toks s v) : g < w.heap.size := blk_lt h.1
theorem RD.cell (h : RD w0 w g A c toks s v) : w.cell? ⟨g, 0, none⟩ = some (.slice A toks.length c) ∧ w.cell? ⟨g, 1, none⟩ = some (.int .i64 s.at_) ∧ w.cell? ⟨g, 2, none⟩ = some (.int .i64 s.depth) ∧ w.cell? ⟨g, 3, none⟩ = some v ∧ w.cell? ⟨g, 4, none⟩ = some (.int .i64 s.e) ∧ w.cell? ⟨g, 5, none⟩ = some (.int .i64 s.ea) :=
 ⟨(blk_cell h.1 0).trans rfl, (blk_cell h.1 1).trans rfl, (blk_cell h.1 2).trans rfl, (blk_cell h.1 3).trans rfl, (blk_cell h.1 4).trans rfl, (blk_cell h.1 5).trans rfl⟩
theorem RD.free (h : RD w0 w g A c toks s v) : w.frozen? ⟨g, 0, none⟩ = false ∧ w.frozen? ⟨g, 1, none⟩ = false ∧ w.frozen? ⟨g, 2, none⟩ = false ∧ w.frozen? ⟨g, 3, none⟩ = false ∧ w.frozen? ⟨g, 4, none⟩ = false ∧ w.frozen? ⟨g, 5, none⟩ = false :=
 ⟨blk_frozen h.1 0, blk_frozen h.1 1, blk_frozen h.1 2, blk_frozen h.1 3, blk_frozen h.1 4, blk_frozen h.1 5⟩
theorem RD.ownne (h : RD w0 w g A c toks s v) : some g ≠ v.ownBlock := Kd.R_ne h.2.2.1 h.1 (by decide)
end
def failR (s : RSt) (e a : Int) : RSt := if s.e = 0 then { s with e := e, ea := a } else s

set_option maxHeartbeats 1000000 in
set_option maxRecDepth 100000 in
theorem rd_ok (w0 w : World) (g : Nat) (A : Option Addr) (c : Nat) (toks : List S37) (s : RSt) (v : Value) (h : RD w0 w g A c toks s v) :
  Calls Tryd.prog 40 #[.pointer (some ⟨g, 0, none⟩)] w fun e w' => e = .returned (.bool (s.e == 0)) ∧ Drawn0 w w' := by
 obtain ⟨h0, h1, h2, h3, h4, h5⟩ := h.cell
 have H := Aside0.mk h
 clear h
 go_enter Tryd.func40, Tryd.ntmps40
 go_wp2
 repeat (go_quiet (fail); try go_wp2)
 go_ret
 exact ⟨rfl, by repeat (first | exact Drawn0.refl _ | apply Drawn0.step)⟩
theorem RD.set_fault {w0 w : World} {g : Nat} {A : Option Addr} {c : Nat} {toks : List S37} {s : RSt} {v : Value} (h : RD w0 w g A c toks s v) (e ea : Int) :
  RD w0 ((w.setCell ⟨g, 4, none⟩ (.int .i64 e)).setCell ⟨g, 5, none⟩ (.int .i64 ea)) g A c toks { s with e := e, ea := ea } v := by
 have b1 := blk_set h.1 4 (.int .i64 e)
 have b2 := blk_set b1 5 (.int .i64 ea)
 exact ⟨b2, h.2.1, Kd.R_set (Kd.R_set h.2.2.1 h.1 (by decide) 4 _) b1 (by decide) 5 _, below_set (below_set h.2.2.2 h.2.1) h.2.1⟩
theorem keep_fault (w : World) (g : Nat) (x y : Value) (v : Value) : RKeep w ((w.setCell ⟨g, 4, none⟩ x).setCell ⟨g, 5, none⟩ y) g v v := RKeep.of_none (((KeepBut.refl w g none).set_ 4 x).set_ 5 y)
set_option maxHeartbeats 1000000 in
set_option maxRecDepth 100000 in
theorem rd_fail (w0 w : World) (g : Nat) (A : Option Addr) (c : Nat) (toks : List S37) (s : RSt) (v : Value) (e a : Int) (h : RD w0 w g A c toks s v) :
  Calls Tryd.prog 82 #[.pointer (some ⟨g, 0, none⟩), .int .i64 e, .int .i64 a] w fun e1 w' => e1 = .returned (.tuple #[]) ∧ RD w0 w' g A c toks (failR s e a) v ∧ RKeep w w' g v v := by
 have hu := Tryd.underlying32
 obtain ⟨h0, h1, h2, h3, h4, h5⟩ := h.cell
 obtain ⟨f0, f1, f2, f3, f4, f5⟩ := h.free
 by_cases he : s.e = 0
 ·have hb : (s.e == 0) = true := by simp [he]
  have hfr : failR s e a = { s with e := e, ea := a } := by unfold failR; rw [if_pos he]
  have H := Aside0.mk h
  have HF := Aside0.mk hfr
  clear h he hfr
  go_enter Tryd.func82, Tryd.ntmps82
  go_wp2_with (go_at_call 40; refine (rd_ok w0 _ g A c toks s v H.out).mono ?_; rintro e w1 ⟨rfl, ⟨nd, rfl⟩⟩)
  repeat (go_quiet (fail); try go_wp2)
  go_end0
  rw [HF.out]
  exact ⟨rfl, (H.out.drewN _).set_fault e a, RKeep.trans (drawn_keep ⟨⟨_, rfl⟩⟩ v) (keep_fault _ g _ _ v)⟩
 ·have hb : (s.e == 0) = false := by simp [he]
  have hfr : failR s e a = s := by unfold failR; rw [if_neg he]
  have H := Aside0.mk h
  have HF := Aside0.mk hfr
  clear h he hfr
  go_enter Tryd.func82, Tryd.ntmps82
  go_wp2_with (go_at_call 40; refine (rd_ok w0 _ g A c toks s v H.out).mono ?_; rintro e w1 ⟨rfl, ⟨nd, rfl⟩⟩)
  go_end0
  rw [HF.out]
  exact ⟨rfl, H.out.drewN _, drawn_keep ⟨⟨_, rfl⟩⟩ v⟩
def tokS (toks : List S37) (s : RSt) : ByteArray := if s.at_ < (toks.length : Int) ∧ (rd_T37 toks s.at_).f0 = 4 then (rd_T37 toks s.at_).f2 else ⟨#[]⟩
set_option maxHeartbeats 2000000 in
set_option maxRecDepth 100000 in
theorem rd_next (w0 w : World) (g : Nat) (A : Option Addr) (c : Nat) (toks : List S37) (hC : Kd.C k37 w0 A toks.length toks) (s : RSt) (v : Value) (h : RD w0 w g A c toks s v) (hat : 0 ≤ s.at_) :
  Calls Tryd.prog 79 #[.pointer (some ⟨g, 0, none⟩)] w fun e w' => e = .returned (.string (tokS toks s)) ∧ Drawn0 w w' := by
 obtain ⟨h0, h1, h2, h3, h4, h5⟩ := h.cell
 have hCw := Kd.C_below hC h.2.2.2
 have hu := Tryd.underlying37
 by_cases c1 : s.at_ < (toks.length : Int)
 ·have t1 : decide (s.at_ < (toks.length : Int)) = true := decide_eq_true c1
  have t2 : decide (0 ≤ s.at_) = true := decide_eq_true hat
  obtain ⟨ad, ead, k0, k1, k2, k3⟩ := at_T37 hCw s.at_ hat c1
  cases ead
  have p := eq_true hat
  have q := eq_true c1
  by_cases c2 : (rd_T37 toks s.at_).f0 = 4
  ·have t3 : ((rd_T37 toks s.at_).f0 == 4) = true := by simp [c2]
   have HS := Aside0.mk (show tokS toks s = (rd_T37 toks s.at_).f2 from if_pos ⟨c1, c2⟩)
   clear c1 c2 h hC hCw
   go_enter Tryd.func79, Tryd.ntmps79
   go_wp2
   repeat (go_quiet (fail); try go_wp2)
   go_ret
   exact ⟨by rw [HS.out]; rfl, by repeat (first | exact Drawn0.refl _ | apply Drawn0.step)⟩
  ·have t3 : ((rd_T37 toks s.at_).f0 == 4) = false := by simp [c2]
   have HS := Aside0.mk (show tokS toks s = ⟨#[]⟩ from if_neg (fun z => c2 z.2))
   clear c1 c2 h hC hCw
   go_enter Tryd.func79, Tryd.ntmps79
   go_wp2
   repeat (go_quiet (fail); try go_wp2)
   go_ret
   exact ⟨by rw [HS.out]; rfl, by repeat (first | exact Drawn0.refl _ | apply Drawn0.step)⟩
 ·have t1 : decide (s.at_ < (toks.length : Int)) = false := decide_eq_false c1
  have HS := Aside0.mk (show tokS toks s = ⟨#[]⟩ from if_neg (fun z => c1 z.1))
  clear c1 h hC hCw
  go_enter Tryd.func79, Tryd.ntmps79
  go_wp2
  repeat (go_quiet (fail); try go_wp2)
  go_ret
  exact ⟨by rw [HS.out]; rfl, by repeat (first | exact Drawn0.refl _ | apply Drawn0.step)⟩
def addR (s : RSt) (n : S47) (a : Int) : Int × RSt :=
 let s1 := if 200 ≤ s.out.length then failR s 3 a else s
 let s2 := if s1.e = 0 then { s1 with out := s1.out ++ [n] } else s1
 ((s2.out.length : Int) - 1, s2)
theorem infoNode : (Tryd.prog.info? 47).map (fun i => (i.zero, i.size, i.bytes)) = some (some (.agg #[.int .i64 0, .int .i64 0, .string ⟨#[]⟩, .int .i64 0, .int .i64 0]), 5, 48) := by kernel_rfl
section
variable {w0 w : World} {g : Nat} {A : Option Addr} {c : Nat} {toks : List S37} {s : RSt} {v : Value}
theorem RD.alloc (h : RD w0 w g A c toks s v) (o : Obj) : RD w0 (w.alloc o) g A c toks s v :=
 ⟨blk_alloc h.1 o, h.2.1, Kd.R_alloc h.2.2.1 o, below_alloc h.2.2.2 o⟩
theorem alloc_keep (w : World) (g : Nat) (o : Obj) (v : Value) : RKeep w (w.alloc o) g v v := RKeep.of_none (KeepBut.of_below (below_alloc (Below.refl _ _) o) g none)
theorem RD.len (h : RD w0 w g A c toks s v) : ∃ Av cv, v = .slice Av s.out.length cv ∧ s.out.length ≤ cv ∧ s.out.length ≤ 9223372036854775807 := by
 obtain ⟨Av, cv, rfl⟩ := Kd.R_slice h.2.2.1
 have z := Kd.R_reads' h.2.2.1
 exact ⟨Av, cv, rfl, z.2.1, z.2.2.2.1⟩
theorem RD.appended {w1 : World} {v1 : Value} {x : S47} (h : RD w0 w g A c toks s v) (hR : Kd.R k47 47 w1 w0.heap.size (fun _ => True) v1 (s.out ++ [x])) (hb : Below w0.heap.size w0 w1) (hg : w.grownBy w1 v.ownBlock) :
  RD w0 (w1.setCell ⟨g, 3, none⟩ v1) g A c toks { s with out := s.out ++ [x] } v1 := by
 have b1 := blk_grown h.1 hg h.ownne
 exact ⟨blk_set b1 3 v1, h.2.1, Kd.R_set hR b1 (by decide) 3 _, below_set hb h.2.1⟩
end
theorem append_keep {w w1 : World} {g : Nat} {v v1 : Value} (hg : w.grownBy w1 v.ownBlock) (hat : v1.ownBlock = v.ownBlock ∨ ∃ b, v1.ownBlock = some b ∧ w.heap.size ≤ b) : RKeep w (w1.setCell ⟨g, 3, none⟩ v1) g v v1 := ⟨(KeepBut.of_grown hg g).set_ 3 v1, hat⟩
theorem drawn_heap {w w1 : World} {i : Nat} {o : Obj} (hd : Drawn0 w w1) (h : w.heap[i]? = some o) : w1.heap[i]? = some o := by obtain ⟨n, rfl⟩ := hd; exact h
set_option maxHeartbeats 2000000 in
set_option maxRecDepth 100000 in
theorem rd_add (w0 w : World) (g : Nat) (A : Option Addr) (c : Nat) (toks : List S37) (s : RSt) (v : Value) (n : S47) (a : Int) (h : RD w0 w g A c toks s v) :
  Calls Tryd.prog 58 #[.pointer (some ⟨g, 0, none⟩), .agg #[.int .i64 n.f0, .int .i64 n.f1, .string n.f2, .int .i64 n.f3, .int .i64 n.f4], .int .i64 a] w fun e w' => ∃ v', e = .returned (.int .i64 (addR s n a).1) ∧ RD w0 w' g A c toks (addR s n a).2 v' ∧ RKeep w w' g v v' := by
 have hu := Tryd.underlying47
 obtain ⟨Av, cv, rfl, hcv, hlen⟩ := h.len
 obtain ⟨h0, h1, h2, h3, h4, h5⟩ := h.cell
 obtain ⟨f0, f1, f2, f3, f4, f5⟩ := h.free
 have hlt := h.lt
 by_cases c1 : 200 ≤ s.out.length
 ·have t1 : decide ((200 : Int) ≤ (s.out.length : Int)) = true := decide_eq_true (by omega)
  have he1 : ((failR s 3 a).e == 0) = false := by unfold failR; split <;> simp_all
  have hl1 : (failR s 3 a).out = s.out := by unfold failR; split <;> rfl
  have hadd : addR s n a = ((s.out.length : Int) - 1, failR s 3 a) := by
   unfold addR
   simp only [if_pos c1]
   rw [if_neg (by simpa using he1), hl1]
  have HA := Aside0.mk hadd
  have HL := Aside0.mk hl1
  have H := Aside0.mk h
  clear h hadd c1 hl1
  go_enter Tryd.func58, Tryd.ntmps58
  go_wp2_with (first | (go_at_call 82; refine (rd_fail w0 _ g A c toks s _ 3 a (H.out.alloc _)).mono ?_; rintro e w1 ⟨rfl, hd, hk⟩; have H1 := Aside0.mk hd; have K1 := Aside0.mk hk; obtain ⟨_, _, _, k3, _, _⟩ := hd.cell; clear hd hk) | (go_at_call 40; refine (rd_ok w0 _ g A c toks (failR s 3 a) _ H1.out).mono ?_; rintro e w2 ⟨rfl, ⟨nd, rfl⟩⟩))
  repeat (go_quiet (fail); try go_wp2)
  go_ret
  rw [HA.out]
  exact ⟨_, rfl, H1.out.drewN _, RKeep.trans (alloc_keep w g _ _) (RKeep.trans K1.out (drawn_keep ⟨⟨_, rfl⟩⟩ _))⟩
 ·have t1 : decide ((200 : Int) ≤ (s.out.length : Int)) = false := decide_eq_false (by omega)
  by_cases c2 : s.e = 0
  ·have he1 : (s.e == 0) = true := by simp [c2]
   have hadd : addR s n a = (((s.out ++ [n]).length : Int) - 1, { s with out := s.out ++ [n] }) := by
    unfold addR
    simp only [if_neg c1, if_pos c2]
   have hll : (s.out ++ [n]).length = s.out.length + 1 := by simp
   have hlb : s.out.length < 200 := by omega
   have HA := Aside0.mk hadd
   have HL := Aside0.mk hll
   have H := Aside0.mk h
   clear h hadd c1 c2 hll
   go_enter Tryd.func58, Tryd.ntmps58
   go_wp2_with (go_at_call 40; refine (rd_ok w0 _ g A c toks s _ (H.out.alloc _)).mono ?_; rintro e w2 ⟨rfl, hd⟩; have HD := Aside0.mk hd; have H2 := Aside0.mk ((H.out.alloc _).drawn hd); obtain ⟨g0, g1, g2, g3, g4, g5⟩ := H2.out.cell; obtain ⟨q0, q1, q2, q3, q4, q5⟩ := H2.out.free; have y3 := (H2.out.alloc (.cells #[.int .i64 n.f0, .int .i64 n.f1, .string n.f2, .int .i64 n.f3, .int .i64 n.f4] 47)).cell.2.2.2.1; have X := Aside0.mk (drawn_heap hd (blk_new w (.cells #[.int .i64 n.f0, .int .i64 n.f1, .string n.f2, .int .i64 n.f3, .int .i64 n.f4] 47 : Obj))); have x0 := (blk_cell X.out 0).trans rfl; have x1 := (blk_cell X.out 1).trans rfl; have x2 := (blk_cell X.out 2).trans rfl; have x3 := (blk_cell X.out 3).trans rfl; have x4 := (blk_cell X.out 4).trans rfl; clear hd)
   go_region_law (refine Kd.R_append_step k47 (w0 := w0) (W := w2.drew) w0.heap.size (by rfl) (.tmp 22) (.tmp 24) 43 47 (.agg #[.int .i64 0, .int .i64 0, .string ⟨#[]⟩, .int .i64 0, .int .i64 0]) 48 rfl Tryd.underlying43 infoNode rfl (by decide) (by decide) (.slice Av s.out.length cv) s.out n [.int .i64 n.f0, .int .i64 n.f1, .string n.f2, .int .i64 n.f3, .int .i64 n.f4] (fun _ => True) (fun _ => False) (by rfl) (by rfl) ?aP (fun _ hk => hk.elim) ?aF ?aO ?aB ?aL ?aS ?_; (case aP => exact k47_mkM _ _ _ n); (case aF => exact fun _ _ => trivial); (case aO => exact Kd.R_drewN H2.out.2.2.1 1); (case aB => exact pw_below_drewN H2.out.2.2.2 1); (case aL => exact H2.out.2.2.2.size); (case aS => omega); intro v1 w1 hR hB hg hat; have HR := Aside0.mk hR; have HBB := Aside0.mk hB; have HG := Aside0.mk hg; have HT := Aside0.mk hat; have B1 := Aside0.mk (blk_grown (blk_drew H2.out.1) hg H2.out.ownne); have z3 := blk_frozen B1.out 3; have k3 : w1.cell? ⟨g, 3, none⟩ = some (.slice Av s.out.length cv) := (blk_cell B1.out 3).trans rfl; obtain ⟨A1, cc1, rfl⟩ := Kd.R_slice hR; clear hR hB hg hat)
   all_goals go_wp2
   all_goals repeat (go_quiet (fail); try go_wp2)
   all_goals go_ret
   all_goals rw [HA.out]
   all_goals refine ⟨.slice A1 (s.out ++ [n]).length cc1, by simp, ?_⟩
   all_goals rw [← HL.out]
   all_goals exact ⟨(H2.out.drewN 1).appended HR.out HBB.out HG.out, RKeep.trans (alloc_keep w g _ _) (RKeep.trans (drawn_keep HD.out _) (RKeep.trans (drawn_keep ⟨⟨1, rfl⟩⟩ _) (append_keep HG.out HT.out)))⟩
  ·have he1 : (s.e == 0) = false := by simp [c2]
   have hadd : addR s n a = ((s.out.length : Int) - 1, s) := by
    unfold addR
    simp only [if_neg c1, if_neg c2]
   have HA := Aside0.mk hadd
   have H := Aside0.mk h
   clear h hadd c1 c2
   go_enter Tryd.func58, Tryd.ntmps58
   go_wp2_with (go_at_call 40; refine (rd_ok w0 _ g A c toks s _ (H.out.alloc _)).mono ?_; rintro e w2 ⟨rfl, ⟨nd, rfl⟩⟩)
   repeat (go_quiet (fail); try go_wp2)
   go_ret
   rw [HA.out]
   exact ⟨_, rfl, (H.out.alloc _).drewN _, RKeep.trans (alloc_keep w g _ _) (drawn_keep ⟨⟨_, rfl⟩⟩ _)⟩
def stepR (s : RSt) (n : S47) : Int × RSt := addR { s with at_ := s.at_ + 1 } n s.at_
section
variable {w0 w : World} {g : Nat} {A : Option Addr} {c : Nat} {toks : List S37} {s : RSt} {v : Value}
theorem RD.set_at (h : RD w0 w g A c toks s v) (a : Int) : RD w0 (w.setCell ⟨g, 1, none⟩ (.int .i64 a)) g A c toks { s with at_ := a } v := by
 have b1 := blk_set h.1 1 (.int .i64 a)
 exact ⟨b1, h.2.1, Kd.R_set h.2.2.1 h.1 (by decide) 1 _, below_set h.2.2.2 h.2.1⟩
theorem RD.set_depth (h : RD w0 w g A c toks s v) (a : Int) : RD w0 (w.setCell ⟨g, 2, none⟩ (.int .i64 a)) g A c toks { s with depth := a } v := by
 have b1 := blk_set h.1 2 (.int .i64 a)
 exact ⟨b1, h.2.1, Kd.R_set h.2.2.1 h.1 (by decide) 2 _, below_set h.2.2.2 h.2.1⟩
end
theorem keep_set (w : World) (g j : Nat) (x v : Value) : RKeep w (w.setCell ⟨g, j, none⟩ x) g v v := RKeep.of_none ((KeepBut.refl w g none).set_ j x)
set_option maxHeartbeats 2000000 in
set_option maxRecDepth 100000 in
theorem rd_step (w0 w : World) (g : Nat) (A : Option Addr) (c : Nat) (toks : List S37) (s : RSt) (v : Value) (n : S47) (h : RD w0 w g A c toks s v) (h0 : 0 ≤ s.at_) (hM : s.at_ < RMax) :
  Calls Tryd.prog 78 #[.pointer (some ⟨g, 0, none⟩), .agg #[.int .i64 n.f0, .int .i64 n.f1, .string n.f2, .int .i64 n.f3, .int .i64 n.f4]] w fun e w' => ∃ v', e = .returned (.int .i64 (stepR s n).1) ∧ RD w0 w' g A c toks (stepR s n).2 v' ∧ RKeep w w' g v v' := by
 have hu := Tryd.underlying47
 obtain ⟨k0, k1, k2, k3, k4, k5⟩ := h.cell
 obtain ⟨f0, f1, f2, f3, f4, f5⟩ := h.free
 have hlt := h.lt
 have hM' : s.at_ < 4611686018427387904 := hM
 have hwr : IntKind.i64.wrap s.at_ = s.at_ := by rw [i64_w]; unfold Go.RowKit.wrap64; omega
 have H := Aside0.mk ((h.set_at (s.at_ + 1)).alloc (.cells #[.int .i64 n.f0, .int .i64 n.f1, .string n.f2, .int .i64 n.f3, .int .i64 n.f4] 47))
 clear h hM
 go_enter Tryd.func78, Tryd.ntmps78
 go_wp2
 go_region_with (go_at_call 58; (try rw [hwr]); refine (rd_add w0 _ g A c toks { s with at_ := s.at_ + 1 } v n s.at_ (H.out.drewN 1)).mono ?_; rintro e w1 ⟨v1, rfl, hd, hk⟩; have H1 := Aside0.mk hd; have K1 := Aside0.mk hk; clear hd hk)
 all_goals go_wp2
 all_goals go_ret
 all_goals exact ⟨_, rfl, H1.out, RKeep.trans (keep_set w g 1 _ _) (RKeep.trans (alloc_keep _ g _ _) (RKeep.trans (drawn_keep ⟨⟨1, rfl⟩⟩ _) K1.out))⟩
def opFrom (s : ByteArray) : Nat → Int → Int × Int
 | 0, _ => (0, 0)
 | k + 1, op => if op ≤ 16 then (if s.toList = (signR op).toList then (op, strR op) else opFrom s k (op + 1)) else (0, 0)
def opR (s : ByteArray) : Int × Int := opFrom s 11 7
set_option maxHeartbeats 2000000 in
set_option maxRecDepth 100000 in
theorem rd_operator (w0 w : World) (g : Nat) (A : Option Addr) (c : Nat) (toks : List S37) (hC : Kd.C k37 w0 A toks.length toks) (s : RSt) (v : Value) (h : RD w0 w g A c toks s v) (hat : 0 ≤ s.at_) :
  Calls Tryd.prog 57 #[.pointer (some ⟨g, 0, none⟩)] w fun e w' => e = .returned (.tuple #[.int .i64 (opR (tokS toks s)).1, .int .i64 (opR (tokS toks s)).2]) ∧ Drawn0 w w' := by
 have HN := Aside0.mk (rd_next w0 w g A c toks hC s v h hat)
 clear h hC hat
 generalize hst : tokS toks s = st at HN ⊢
 clear hst
 have H0 := Aside0.mk (show opFrom st 11 7 = opR st from rfl)
 go_enter Tryd.func57, Tryd.ntmps57
 go_wp2_with (go_at_call 79; refine (HN.out).mono ?_; rintro e w1 ⟨rfl, hd⟩; have HD := Aside0.mk hd; clear hd)
 go_loopg [5] 11 (fun kq v5 w' => ∃ x5 : Int, v5 = .int .i64 x5 ∧ Aside0 (opFrom st kq x5 = opR st) ∧ (kq : Int) + x5 = 18 ∧ 7 ≤ x5 ∧ Drawn0 w w')
 case atStart => exact ⟨7, rfl, H0, by omega, by omega, HD.out⟩
 case round =>
  clear H0 HD HN
  try clear p2
  obtain ⟨x5, rfl, HA, hk, h7, ⟨m1, rfl⟩⟩ := hrel
  cases gk with
  | zero =>
   have c1 : decide (x5 ≤ 16) = false := decide_eq_false (by omega)
   have H := HA.out
   simp only [opFrom] at H
   have H' := Aside0.mk H
   clear H HA
   go_wp2
   go_ret2
   rw [← H'.out]
   exact ⟨rfl, by repeat (first | exact Drawn0.refl _ | apply Drawn0.step)⟩
  | succ k1 =>
   have H := HA.out
   clear HA
   simp only [opFrom] at H
   by_cases c1 : x5 ≤ 16
   ·rw [if_pos c1] at H
    have c1b : decide (x5 ≤ 16) = true := decide_eq_true c1
    by_cases c2 : st.toList = (signR x5).toList
    ·rw [if_pos c2] at H
     have c2b : (st.toList == (signR x5).toList) = true := beq_iff_eq.mpr c2
     have hi := exStr_idx x5 h7 c1
     unfold exStrA at hi
     have H' := Aside0.mk H
     clear H
     go_wp2_with (go_at_call 62; refine (rd_sign _ x5 (by omega) c1).mono ?_; rintro e w2 ⟨rfl, ⟨m2, rfl⟩⟩)
     repeat (go_quiet (fail); try go_wp2)
     go_ret2
     rw [← H'.out]
     exact ⟨rfl, by repeat (first | exact Drawn0.refl _ | apply Drawn0.step)⟩
    ·rw [if_neg c2] at H
     have c2b : (st.toList == (signR x5).toList) = false := beq_eq_false_iff_ne.mpr c2
     have H' := Aside0.mk H
     clear H
     go_wp2_with (go_at_call 62; refine (rd_sign _ x5 (by omega) c1).mono ?_; rintro e w2 ⟨rfl, ⟨m2, rfl⟩⟩)
     repeat (go_quiet (fail); try go_wp2)
     go_roundg k1
     case measure => omega
     case rel => exact ⟨x5 + 1, rfl, H', by omega, by omega, by repeat (first | exact Drawn0.refl _ | apply Drawn0.step)⟩
   ·rw [if_neg c1] at H
    have c1b : decide (x5 ≤ 16) = false := decide_eq_false c1
    have H' := Aside0.mk H
    clear H
    go_wp2
    go_ret2
    rw [← H'.out]
    exact ⟨rfl, by repeat (first | exact Drawn0.refl _ | apply Drawn0.step)⟩
def withinR (read : RSt → Option (Int × RSt)) (s : RSt) : Option (Int × RSt) :=
 if s.depth = 50 then some (0, failR s 3 s.at_) else if s.e = 0 then (if 0 ≤ s.at_ ∧ s.at_ < RMax ∧ 0 ≤ s.depth ∧ s.depth < RMax then (read { s with depth := s.depth + 1, at_ := s.at_ + 1 }).bind fun q => (if 0 ≤ q.2.depth ∧ q.2.depth ≤ RMax then some (q.1, { q.2 with depth := q.2.depth - 1 }) else none) else none) else some (0, s)
theorem failR_e (s : RSt) (a b : Int) (h : a ≠ 0) : (failR s a b).e ≠ 0 := by unfold failR; split <;> simp_all
set_option maxHeartbeats 2000000 in
set_option maxRecDepth 100000 in
theorem rd_within_one (w0 w : World) (g : Nat) (A : Option Addr) (c : Nat) (toks : List S37) (s : RSt) (v : Value) (read : RSt → Option (Int × RSt)) (h : RD w0 w g A c toks s v) (r : Int × RSt) (hr : withinR read s = some r)
  (hread : ∀ w1 s1 q, RD w0 w1 g A c toks s1 v → RKeep w w1 g v v → read s1 = some q → Calls Tryd.prog 56 #[.pointer (some ⟨g, 0, none⟩)] w1 fun e w2 => ∃ v2, e = .returned (.int .i64 q.1) ∧ RD w0 w2 g A c toks q.2 v2 ∧ RKeep w1 w2 g v v2) :
  Calls Tryd.prog 80 #[.pointer (some ⟨g, 0, none⟩), .func (.func 56) #[.pointer (some ⟨g, 0, none⟩)] #[]] w fun e w' => ∃ v', e = .returned (.int .i64 r.1) ∧ RD w0 w' g A c toks r.2 v' ∧ RKeep w w' g v v' := by
 obtain ⟨k0, k1, k2, k3, k4, k5⟩ := h.cell
 obtain ⟨f0, f1, f2, f3, f4, f5⟩ := h.free
 unfold withinR at hr
 by_cases c1 : s.depth = 50
 ·rw [if_pos c1] at hr
  obtain rfl := Option.some.inj hr
  have c1b : (s.depth == 50) = true := by simp [c1]
  have he : ((failR s 3 s.at_).e == 0) = false := beq_eq_false_iff_ne.mpr (failR_e s 3 s.at_ (by decide))
  have H := Aside0.mk h
  clear h hr hread
  clear c1
  go_enter Tryd.func80, Tryd.ntmps80
  go_wp2_with (first | (go_at_call 82; refine (rd_fail w0 _ g A c toks s v 3 s.at_ H.out).mono ?_; rintro e w1 ⟨rfl, hd, hk⟩; have H1 := Aside0.mk hd; have K1 := Aside0.mk hk; clear hd hk) | (go_at_call 40; refine (rd_ok w0 _ g A c toks (failR s 3 s.at_) v H1.out).mono ?_; rintro e w2 ⟨rfl, ⟨nd, rfl⟩⟩))
  repeat (go_quiet (fail); try go_wp2)
  go_ret
  exact ⟨v, rfl, H1.out.drewN _, RKeep.trans K1.out (drawn_keep ⟨⟨_, rfl⟩⟩ _)⟩
 ·rw [if_neg c1] at hr
  have c1b : (s.depth == 50) = false := by simp [c1]
  by_cases c2 : s.e = 0
  ·rw [if_pos c2] at hr
   have c2b : (s.e == 0) = true := by simp [c2]
   by_cases c3 : 0 ≤ s.at_ ∧ s.at_ < RMax ∧ 0 ≤ s.depth ∧ s.depth < RMax
   ·rw [if_pos c3] at hr
    obtain ⟨q, hq, hr⟩ := Option.bind_eq_some_iff.1 hr
    by_cases c4 : 0 ≤ q.2.depth ∧ q.2.depth ≤ RMax
    ·rw [if_pos c4] at hr
     obtain rfl := Option.some.inj hr
     obtain ⟨a1, a2, a3, a4⟩ := c3
     obtain ⟨a5, a6⟩ := c4
     have b2 : s.at_ < 4611686018427387904 := a2
     have b4 : s.depth < 4611686018427387904 := a4
     have b6 : q.2.depth ≤ 4611686018427387904 := a6
     have H := Aside0.mk h
     have HC := Aside0.mk hread
     have HQ := Aside0.mk hq
     clear h hr hread hq a2 a4 a6 c1 c2
     go_enter Tryd.func80, Tryd.ntmps80
     go_wp2_with (first | (go_at_call 40; refine (rd_ok w0 _ g A c toks s v H.out).mono ?_; rintro e w1 ⟨rfl, hd⟩; have H1 := Aside0.mk (H.out.drawn hd); have D1 := Aside0.mk hd; obtain ⟨i0, i1, i2, i3, i4, i5⟩ := H1.out.cell; obtain ⟨z0, z1, z2, z3, z4, z5⟩ := H1.out.free; clear hd) | (go_at_call 56; refine (HC.out _ _ q ((H1.out.set_depth (s.depth + 1)).set_at (s.at_ + 1)) (RKeep.trans (drawn_keep D1.out v) (RKeep.trans (keep_set _ g 2 _ _) (keep_set _ g 1 _ _))) HQ.out).mono ?_; rintro e w2 ⟨v2, rfl, hd, hk⟩; have H2 := Aside0.mk hd; have K2 := Aside0.mk hk; obtain ⟨j0, j1, j2, j3, j4, j5⟩ := H2.out.cell; obtain ⟨y0, y1, y2, y3, y4, y5⟩ := H2.out.free; clear hd hk))
     repeat (go_quiet (fail); try go_wp2)
     go_ret
     exact ⟨v2, rfl, H2.out.set_depth _, RKeep.trans (drawn_keep D1.out v) (RKeep.trans (keep_set _ g 2 _ _) (RKeep.trans (keep_set _ g 1 _ _) (RKeep.trans K2.out (keep_set _ g 2 _ _))))⟩
    ·rw [if_neg c4] at hr
     exact absurd hr (by simp)
   ·rw [if_neg c3] at hr
    exact absurd hr (by simp)
  ·rw [if_neg c2] at hr
   obtain rfl := Option.some.inj hr
   have c2b : (s.e == 0) = false := by simp [c2]
   have H := Aside0.mk h
   clear h hr hread
   go_enter Tryd.func80, Tryd.ntmps80
   go_wp2_with (go_at_call 40; refine (rd_ok w0 _ g A c toks s v H.out).mono ?_; rintro e w1 ⟨rfl, ⟨nd, rfl⟩⟩)
   go_ret
   exact ⟨v, rfl, H.out.drewN _, drawn_keep ⟨⟨_, rfl⟩⟩ _⟩
set_option maxHeartbeats 2000000 in
set_option maxRecDepth 100000 in
theorem rd_within_par (w0 w : World) (g : Nat) (b : Nat) (A : Option Addr) (c : Nat) (toks : List S37) (s : RSt) (v : Value) (read : RSt → Option (Int × RSt)) (h : RD w0 w g A c toks s v) (r : Int × RSt) (hr : withinR read s = some r)
  (hread : ∀ w1 s1 q, RD w0 w1 g A c toks s1 v → RKeep w w1 g v v → read s1 = some q → Calls Tryd.prog 81 #[.pointer (some ⟨b, 0, none⟩)] w1 fun e w2 => ∃ v2, e = .returned (.int .i64 q.1) ∧ RD w0 w2 g A c toks q.2 v2 ∧ RKeep w1 w2 g v v2) :
  Calls Tryd.prog 80 #[.pointer (some ⟨g, 0, none⟩), .func (.func 81) #[] #[.pointer (some ⟨b, 0, none⟩)]] w fun e w' => ∃ v', e = .returned (.int .i64 r.1) ∧ RD w0 w' g A c toks r.2 v' ∧ RKeep w w' g v v' := by
 obtain ⟨k0, k1, k2, k3, k4, k5⟩ := h.cell
 obtain ⟨f0, f1, f2, f3, f4, f5⟩ := h.free
 unfold withinR at hr
 by_cases c1 : s.depth = 50
 ·rw [if_pos c1] at hr
  obtain rfl := Option.some.inj hr
  have c1b : (s.depth == 50) = true := by simp [c1]
  have he : ((failR s 3 s.at_).e == 0) = false := beq_eq_false_iff_ne.mpr (failR_e s 3 s.at_ (by decide))
  have H := Aside0.mk h
  clear h hr hread
  clear c1
  go_enter Tryd.func80, Tryd.ntmps80
  go_wp2_with (first | (go_at_call 82; refine (rd_fail w0 _ g A c toks s v 3 s.at_ H.out).mono ?_; rintro e w1 ⟨rfl, hd, hk⟩; have H1 := Aside0.mk hd; have K1 := Aside0.mk hk; clear hd hk) | (go_at_call 40; refine (rd_ok w0 _ g A c toks (failR s 3 s.at_) v H1.out).mono ?_; rintro e w2 ⟨rfl, ⟨nd, rfl⟩⟩))
  repeat (go_quiet (fail); try go_wp2)
  go_ret
  exact ⟨v, rfl, H1.out.drewN _, RKeep.trans K1.out (drawn_keep ⟨⟨_, rfl⟩⟩ _)⟩
 ·rw [if_neg c1] at hr
  have c1b : (s.depth == 50) = false := by simp [c1]
  by_cases c2 : s.e = 0
  ·rw [if_pos c2] at hr
   have c2b : (s.e == 0) = true := by simp [c2]
   by_cases c3 : 0 ≤ s.at_ ∧ s.at_ < RMax ∧ 0 ≤ s.depth ∧ s.depth < RMax
   ·rw [if_pos c3] at hr
    obtain ⟨q, hq, hr⟩ := Option.bind_eq_some_iff.1 hr
    by_cases c4 : 0 ≤ q.2.depth ∧ q.2.depth ≤ RMax
    ·rw [if_pos c4] at hr
     obtain rfl := Option.some.inj hr
     obtain ⟨a1, a2, a3, a4⟩ := c3
     obtain ⟨a5, a6⟩ := c4
     have b2 : s.at_ < 4611686018427387904 := a2
     have b4 : s.depth < 4611686018427387904 := a4
     have b6 : q.2.depth ≤ 4611686018427387904 := a6
     have H := Aside0.mk h
     have HC := Aside0.mk hread
     have HQ := Aside0.mk hq
     clear h hr hread hq a2 a4 a6 c1 c2
     go_enter Tryd.func80, Tryd.ntmps80
     go_wp2_with (first | (go_at_call 40; refine (rd_ok w0 _ g A c toks s v H.out).mono ?_; rintro e w1 ⟨rfl, hd⟩; have H1 := Aside0.mk (H.out.drawn hd); have D1 := Aside0.mk hd; obtain ⟨i0, i1, i2, i3, i4, i5⟩ := H1.out.cell; obtain ⟨z0, z1, z2, z3, z4, z5⟩ := H1.out.free; clear hd) | (go_at_call 81; refine (HC.out _ _ q ((H1.out.set_depth (s.depth + 1)).set_at (s.at_ + 1)) (RKeep.trans (drawn_keep D1.out v) (RKeep.trans (keep_set _ g 2 _ _) (keep_set _ g 1 _ _))) HQ.out).mono ?_; rintro e w2 ⟨v2, rfl, hd, hk⟩; have H2 := Aside0.mk hd; have K2 := Aside0.mk hk; obtain ⟨j0, j1, j2, j3, j4, j5⟩ := H2.out.cell; obtain ⟨y0, y1, y2, y3, y4, y5⟩ := H2.out.free; clear hd hk))
     repeat (go_quiet (fail); try go_wp2)
     go_ret
     exact ⟨v2, rfl, H2.out.set_depth _, RKeep.trans (drawn_keep D1.out v) (RKeep.trans (keep_set _ g 2 _ _) (RKeep.trans (keep_set _ g 1 _ _) (RKeep.trans K2.out (keep_set _ g 2 _ _))))⟩
    ·rw [if_neg c4] at hr
     exact absurd hr (by simp)
   ·rw [if_neg c3] at hr
    exact absurd hr (by simp)
  ·rw [if_neg c2] at hr
   obtain rfl := Option.some.inj hr
   have c2b : (s.e == 0) = false := by simp [c2]
   have H := Aside0.mk h
   clear h hr hread
   go_enter Tryd.func80, Tryd.ntmps80
   go_wp2_with (go_at_call 40; refine (rd_ok w0 _ g A c toks s v H.out).mono ?_; rintro e w1 ⟨rfl, ⟨nd, rfl⟩⟩)
   go_ret
   exact ⟨v, rfl, H.out.drewN _, drawn_keep ⟨⟨_, rfl⟩⟩ _⟩
inductive RM where
 | one : RM
 | climb : Int → RM
 | loop : Int → Int → RM
def nodeR (op n : Int) (s : ByteArray) (l r : Int) : S47 := ⟨op, n, s, l, r⟩
def add2R (self : RM → RSt → Option (Int × RSt)) (op a : Int) (s : RSt) : Option (Int × RSt) := (withinR (self .one) s).bind fun q => some (addR q.2 (nodeR op 0 ⟨#[]⟩ q.1 0) a)
def shutR (toks : List S37) (s : RSt) : RSt := if (tokS toks s).toList = [41] then { s with at_ := s.at_ + 1 } else { failR s 4 s.at_ with at_ := s.at_ + 1 }
def parR (toks : List S37) (self : RM → RSt → Option (Int × RSt)) (s : RSt) : Option (Int × RSt) := (self (.climb 0) s).bind fun q => if 0 ≤ q.2.at_ ∧ q.2.at_ < RMax then some (q.1, shutR toks q.2) else none
def signOneR (toks : List S37) (self : RM → RSt → Option (Int × RSt)) (s : RSt) : Option (Int × RSt) :=
 if (tokS toks s).toList = [36] then some (stepR s (nodeR 3 0 ⟨#[]⟩ 0 0)) else if (tokS toks s).toList = [36, 36] then some (stepR s (nodeR 4 0 ⟨#[]⟩ 0 0)) else if (tokS toks s).toList = [40] then withinR (parR toks self) s else if (tokS toks s).toList = [43] then withinR (self .one) s else if (tokS toks s).toList = [45] then add2R self 5 s.at_ s else if (tokS toks s).toList = [126] then add2R self 6 s.at_ s else some (0, failR s 4 s.at_)
def oneR (K : Nat) (toks : List S37) (self : RM → RSt → Option (Int × RSt)) (s : RSt) : Option (Int × RSt) :=
 if s.e = 0 then (if 0 ≤ s.at_ ∧ s.at_ < RMax then (if s.at_ < (toks.length : Int) then (if (rd_T37 toks s.at_).f0 = 2 then some (stepR s (nodeR 1 (rd_T37 toks s.at_).f1 ⟨#[]⟩ 0 0)) else if (rd_T37 toks s.at_).f0 = 1 then ((token_Name.f K (rd_T37 toks s.at_).f2).bind fun b => if b = true then some (stepR s (nodeR 2 0 (rd_T37 toks s.at_).f2 0 0)) else signOneR toks self s) else signOneR toks self s) else signOneR toks self s) else none) else some (0, s)
def rdR (K : Nat) (toks : List S37) : Nat → RM → RSt → Option (Int × RSt)
 | 0, _, _ => none
 | k + 1, .one, s => oneR K toks (rdR K toks k) s
 | k + 1, .climb least, s => (rdR K toks k .one s).bind fun q => rdR K toks k (.loop least q.1) q.2
 | k + 1, .loop least n, s => if s.e = 0 then (if 0 ≤ s.at_ ∧ s.at_ < RMax then (if (opR (tokS toks s)).1 = 0 then some (n, s) else if (opR (tokS toks s)).2 < least then some (n, s) else (rdR K toks k (.climb ((opR (tokS toks s)).2 + 1)) { s with at_ := s.at_ + 1 }).bind fun q => rdR K toks k (.loop least (addR q.2 (nodeR (opR (tokS toks s)).1 0 ⟨#[]⟩ n q.1) s.at_).1) (addR q.2 (nodeR (opR (tokS toks s)).1 0 ⟨#[]⟩ n q.1) s.at_).2) else none) else some (n, s)
/-- What a method of the reader does, as a contract: 'F' by these arguments makes 'r' of 's'. -/
def RDoes (w0 : World) (g : Nat) (A : Option Addr) (c : Nat) (toks : List S37) (F : Nat) (args : Array Value) (w : World) (v : Value) (r : Int × RSt) : Prop :=
 Calls Tryd.prog F args w fun e w' => ∃ v', e = .returned (.int .i64 r.1) ∧ RD w0 w' g A c toks r.2 v' ∧ RKeep w w' g v v'
set_option maxHeartbeats 2000000 in
set_option maxRecDepth 100000 in
theorem rd_add2 (w0 w : World) (g : Nat) (A : Option Addr) (c : Nat) (toks : List S37) (s : RSt) (v : Value) (self : RM → RSt → Option (Int × RSt)) (op a : Int) (h : RD w0 w g A c toks s v) (r : Int × RSt) (hr : add2R self op a s = some r)
  (hself : ∀ w1 s1 v1 q, RD w0 w1 g A c toks s1 v1 → self .one s1 = some q → RDoes w0 g A c toks 56 #[.pointer (some ⟨g, 0, none⟩)] w1 v1 q) :
  RDoes w0 g A c toks 83 #[.pointer (some ⟨g, 0, none⟩), .int .i64 op, .int .i64 a] w v r := by
 unfold RDoes
 have hmf : ∀ (fn : Fn) (first cap : Array Value) (w : World), (Instr.makeFunc fn first cap).run Tryd.prog w = .ok (.func fn first cap) w := fun _ _ _ _ => rfl
 have hu := Tryd.underlying47
 obtain ⟨q, hq, hr⟩ := Option.bind_eq_some_iff.1 hr
 obtain rfl := Option.some.inj hr
 have HW := Aside0.mk (rd_within_one w0 w g A c toks s v _ h q hq (fun w1 s1 q1 h1 _ hq1 => hself w1 s1 v q1 h1 hq1))
 have H := Aside0.mk h
 clear h hq hr hself
 go_enter Tryd.func83, Tryd.ntmps83
 go_wp2_with (first | (go_at_call 80; refine (HW.out).mono ?_; rintro e w1 ⟨v1, rfl, hd, hk⟩; have H1 := Aside0.mk hd; have K1 := Aside0.mk hk; clear hd hk) | (go_at_call 58; refine (rd_add w0 _ g A c toks q.2 v1 (nodeR op 0 ⟨#[]⟩ q.1 0) a H1.out).mono ?_; rintro e w2 ⟨v2, rfl, hd, hk⟩; have H2 := Aside0.mk hd; have K2 := Aside0.mk hk; clear hd hk))
 repeat (go_quiet (fail); try go_wp2)
 go_ret
 exact ⟨_, rfl, H2.out, RKeep.trans K1.out K2.out⟩
set_option maxHeartbeats 2000000 in
set_option maxRecDepth 100000 in
theorem rd_par (w0 w : World) (g b : Nat) (A : Option Addr) (c : Nat) (toks : List S37) (hC : Kd.C k37 w0 A toks.length toks) (s : RSt) (v : Value) (self : RM → RSt → Option (Int × RSt)) (h : RD w0 w g A c toks s v) (hb : w.heap[b]? = some (.cells #[.pointer (some ⟨g, 0, none⟩)] 71 (0, 0))) (r : Int × RSt) (hr : parR toks self s = some r)
  (hself : ∀ w1 s1 v1 q, RD w0 w1 g A c toks s1 v1 → self (.climb 0) s1 = some q → RDoes w0 g A c toks 39 #[.pointer (some ⟨g, 0, none⟩), .int .i64 0] w1 v1 q) :
  RDoes w0 g A c toks 81 #[.pointer (some ⟨b, 0, none⟩)] w v r := by
 have hbg : b ≠ g := blk_ne hb h.1 (by decide)
 have hbv := Kd.R_ne h.2.2.1 hb (by decide)
 obtain ⟨q, hq, hr⟩ := Option.bind_eq_some_iff.1 hr
 by_cases c1 : 0 ≤ q.2.at_ ∧ q.2.at_ < RMax
 ·rw [if_pos c1] at hr
  obtain rfl := Option.some.inj hr
  obtain ⟨a1, a2⟩ := c1
  have a3 : q.2.at_ < 4611686018427387904 := a2
  have hc := hself w s v q h hq
  unfold RDoes at hc ⊢
  have HS := Aside0.mk hc
  have kb := (blk_cell hb 0).trans rfl
  have HB := Aside0.mk hb
  have H := Aside0.mk h
  have HCC := Aside0.mk hC
  clear h hq hr hself a2 hc hb hC
  by_cases c2 : (tokS toks q.2).toList = [41]
  ·have c2b : ((tokS toks q.2).toList == [41]) = true := beq_iff_eq.mpr c2
   have HF := Aside0.mk (show shutR toks q.2 = { q.2 with at_ := q.2.at_ + 1 } from if_pos c2)
   clear c2
   go_enter Tryd.func81, Tryd.ntmps81
   go_wp2_with (first | (go_at_call 39; refine (HS.out).mono ?_; rintro e w1 ⟨v1, rfl, hd, hk⟩; have H1 := Aside0.mk hd; have K1 := Aside0.mk hk; have B1 := Aside0.mk (hk.1.blk HB.out hbg hbv); clear hd hk; have kb1 := (blk_cell B1.out 0).trans rfl) | (go_at_call 79; refine (rd_next w0 _ g A c toks HCC.out q.2 v1 H1.out a1).mono ?_; rintro e w2 ⟨rfl, hd⟩; have D2 := Aside0.mk hd; have H2 := Aside0.mk (H1.out.drawn hd); have kb2 := (blk_cell (drawn_heap hd B1.out) 0).trans rfl; obtain ⟨j0, j1, j2, j3, j4, j5⟩ := H2.out.cell; obtain ⟨y0, y1, y2, y3, y4, y5⟩ := H2.out.free; clear hd))
   repeat (go_quiet (fail); try go_wp2)
   go_ret
   rw [HF.out]
   exact ⟨_, rfl, H2.out.set_at _, RKeep.trans K1.out (RKeep.trans (drawn_keep D2.out _) (keep_set _ g 1 _ _))⟩
  ·have c2b : ((tokS toks q.2).toList == [41]) = false := beq_eq_false_iff_ne.mpr c2
   have hat : (failR q.2 4 q.2.at_).at_ = q.2.at_ := by unfold failR; split <;> rfl
   have HF := Aside0.mk (show shutR toks q.2 = { failR q.2 4 q.2.at_ with at_ := q.2.at_ + 1 } from if_neg c2)
   clear c2
   go_enter Tryd.func81, Tryd.ntmps81
   go_wp2_with (first | (go_at_call 39; refine (HS.out).mono ?_; rintro e w1 ⟨v1, rfl, hd, hk⟩; have H1 := Aside0.mk hd; have K1 := Aside0.mk hk; have B1 := Aside0.mk (hk.1.blk HB.out hbg hbv); clear hd hk; have kb1 := (blk_cell B1.out 0).trans rfl) | (go_at_call 79; refine (rd_next w0 _ g A c toks HCC.out q.2 v1 H1.out a1).mono ?_; rintro e w2 ⟨rfl, hd⟩; have D2 := Aside0.mk hd; have H2 := Aside0.mk (H1.out.drawn hd); have B2 := Aside0.mk (drawn_heap hd B1.out); have kb2 := (blk_cell B2.out 0).trans rfl; obtain ⟨j0, j1, j2, j3, j4, j5⟩ := H2.out.cell; obtain ⟨y0, y1, y2, y3, y4, y5⟩ := H2.out.free; clear hd))
   go_region_with (go_at_call 82; refine (rd_fail w0 _ g A c toks q.2 v1 4 q.2.at_ (H2.out.drewN 1)).mono ?_; rintro e w3 ⟨rfl, hd, hk⟩; have H3 := Aside0.mk hd; have K3 := Aside0.mk hk; have kb3 := (blk_cell (hk.1.blk (blk_drew B2.out) hbg (Kd.R_ne H1.out.2.2.1 B1.out (by decide))) 0).trans rfl; obtain ⟨l0, l1, l2, l3, l4, l5⟩ := H3.out.cell; rw [hat] at l1; obtain ⟨x0, x1, x2, x3, x4, x5⟩ := H3.out.free; clear hd hk)
   all_goals go_wp2
   all_goals go_ret
   all_goals rw [HF.out]
   all_goals exact ⟨_, rfl, H3.out.set_at _, RKeep.trans K1.out (RKeep.trans (drawn_keep D2.out _) (RKeep.trans (drawn_keep ⟨⟨1, rfl⟩⟩ _) (RKeep.trans K3.out (keep_set _ g 1 _ _))))⟩
 ·rw [if_neg c1] at hr
  exact absurd hr (by simp)
section
variable {w0 w : World} {g : Nat} {A : Option Addr} {c : Nat} {toks : List S37} {s : RSt} {v : Value}
theorem RD.far (h : RD w0 w g A c toks s v) {b : Nat} {cs : Array Value} (hb : w.heap[b]? = some (.cells cs 37 (0, 0))) (h0 : w0.heap.size ≤ b) (j : Nat) (x : Value) : RD w0 (w.setCell ⟨b, j, none⟩ x) g A c toks s v :=
 ⟨(Below.heap_setCell w ⟨b, j, none⟩ x g (blk_ne h.1 hb (by decide))).trans h.1, h.2.1, Kd.R_set h.2.2.1 hb (by decide) j x, below_set h.2.2.2 h0⟩
theorem RD.tokW (h : RD w0 w g A c toks s v) (f0 f1 f3 : Int) (f2 : ByteArray) : RD w0 (((((w.alloc (.cells #[.int .i64 0, .int .i64 0, .string ⟨#[]⟩, .int .i64 0] 37)).setCell ⟨w.heap.size, 0, none⟩ (.int .i64 f0)).setCell ⟨w.heap.size, 1, none⟩ (.int .i64 f1)).setCell ⟨w.heap.size, 2, none⟩ (.string f2)).setCell ⟨w.heap.size, 3, none⟩ (.int .i64 f3)) g A c toks s v := by
 have h0 : w0.heap.size ≤ w.heap.size := h.2.2.2.size
 have b0 := blk_new w (.cells #[.int .i64 0, .int .i64 0, .string ⟨#[]⟩, .int .i64 0] 37)
 have b1 := blk_set b0 0 (.int .i64 f0)
 have b2 := blk_set b1 1 (.int .i64 f1)
 have b3 := blk_set b2 2 (.string f2)
 exact ((((h.alloc _).far b0 h0 0 _).far b1 h0 1 _).far b2 h0 2 _).far b3 h0 3 _
theorem tokW_blk {b : Nat} {o : Obj} (hb : w.heap[b]? = some o) (f0 f1 f3 : Int) (f2 : ByteArray) : (((((w.alloc (.cells #[.int .i64 0, .int .i64 0, .string ⟨#[]⟩, .int .i64 0] 37)).setCell ⟨w.heap.size, 0, none⟩ (.int .i64 f0)).setCell ⟨w.heap.size, 1, none⟩ (.int .i64 f1)).setCell ⟨w.heap.size, 2, none⟩ (.string f2)).setCell ⟨w.heap.size, 3, none⟩ (.int .i64 f3)).heap[b]? = some o := by
 have hl := blk_lt hb
 have hne : b ≠ w.heap.size := by omega
 exact (Below.heap_setCell _ ⟨w.heap.size, 3, none⟩ _ b hne).trans ((Below.heap_setCell _ ⟨w.heap.size, 2, none⟩ _ b hne).trans ((Below.heap_setCell _ ⟨w.heap.size, 1, none⟩ _ b hne).trans ((Below.heap_setCell _ ⟨w.heap.size, 0, none⟩ _ b hne).trans (blk_alloc hb _))))
theorem far_keep {w w1 : World} {g : Nat} {v : Value} (h : RKeep w w1 g v v) (b : Nat) (hb : w.heap.size ≤ b) (j : Nat) (x : Value) : RKeep w (w1.setCell ⟨b, j, none⟩ x) g v v :=
 ⟨⟨by simpa [World.setCell] using h.1.1, fun i hi hg hr => (Below.heap_setCell w1 ⟨b, j, none⟩ x i (by show i ≠ b; omega)).trans (h.1.2 i hi hg hr)⟩, .inl rfl⟩
theorem tokW_keep (w : World) (g : Nat) (v : Value) (f0 f1 f3 : Int) (f2 : ByteArray) : RKeep w (((((w.alloc (.cells #[.int .i64 0, .int .i64 0, .string ⟨#[]⟩, .int .i64 0] 37)).setCell ⟨w.heap.size, 0, none⟩ (.int .i64 f0)).setCell ⟨w.heap.size, 1, none⟩ (.int .i64 f1)).setCell ⟨w.heap.size, 2, none⟩ (.string f2)).setCell ⟨w.heap.size, 3, none⟩ (.int .i64 f3)) g v v :=
 far_keep (far_keep (far_keep (far_keep (alloc_keep w g _ v) _ (Nat.le_refl _) 0 _) _ (Nat.le_refl _) 1 _) _ (Nat.le_refl _) 2 _) _ (Nat.le_refl _) 3 _
end

set_option maxHeartbeats 16000000 in
set_option maxRecDepth 100000 in
theorem rd_one (w0 w : World) (g : Nat) (A : Option Addr) (c : Nat) (toks : List S37) (hC : Kd.C k37 w0 A toks.length toks) (s : RSt) (v : Value) (K : Nat) (self : RM → RSt → Option (Int × RSt)) (h : RD w0 w g A c toks s v) (r : Int × RSt) (hr : oneR K toks self s = some r)
  (hone : ∀ w1 s1 v1 q, RD w0 w1 g A c toks s1 v1 → self .one s1 = some q → RDoes w0 g A c toks 56 #[.pointer (some ⟨g, 0, none⟩)] w1 v1 q)
  (hclimb : ∀ w1 s1 v1 q, RD w0 w1 g A c toks s1 v1 → self (.climb 0) s1 = some q → RDoes w0 g A c toks 39 #[.pointer (some ⟨g, 0, none⟩), .int .i64 0] w1 v1 q) :
  RDoes w0 g A c toks 56 #[.pointer (some ⟨g, 0, none⟩)] w v r := by
 have hmf : ∀ (fn : Fn) (first cap : Array Value) (w : World), (Instr.makeFunc fn first cap).run Tryd.prog w = .ok (.func fn first cap) w := fun _ _ _ _ => rfl
 have hu := Tryd.underlying47
 have hu2 := Tryd.underlying37
 have hlt := h.lt
 unfold oneR at hr
 have h' := h.alloc (.cells #[.pointer (some ⟨g, 0, none⟩)] 71)
 have hx := blk_new w (.cells #[.pointer (some ⟨g, 0, none⟩)] 71)
 have HO := Aside0.mk hone
 have HL := Aside0.mk hclimb
 clear hone hclimb
 by_cases c1 : s.e = 0
 ·rw [if_pos c1] at hr
  have c1b : (s.e == 0) = true := by simp [c1]
  by_cases c2 : 0 ≤ s.at_ ∧ s.at_ < RMax
  ·rw [if_pos c2] at hr
   obtain ⟨a1, a2⟩ := c2
   by_cases c3 : s.at_ < (toks.length : Int)
   ·rw [if_pos c3] at hr
    have c3b : decide (s.at_ < (toks.length : Int)) = true := decide_eq_true c3
    by_cases c4 : (rd_T37 toks s.at_).f0 = 2
    ·rw [if_pos c4] at hr
     obtain rfl := Option.some.inj hr
     have c4b : ((rd_T37 toks s.at_).f0 == 2) = true := by simp [c4]
     clear c4
     have hp := eq_true a1
     have hq := eq_true c3
     have H := Aside0.mk h'
     have X := Aside0.mk hx
     have HCC := Aside0.mk hC
     have HR := Aside0.mk hr
     unfold RDoes
     clear h h' hx hr hC c1
     go_enter Tryd.func56, Tryd.ntmps56
     go_wp2_with (first | (go_at_call 40; refine (rd_ok w0 _ g A c toks s v H.out).mono ?_; rintro e w1 ⟨rfl, hd⟩; have H1 := Aside0.mk (H.out.drawn hd); have D1 := Aside0.mk hd; have X1 := Aside0.mk (drawn_heap hd X.out); obtain ⟨k0, k1, k2, k3, k4, k5⟩ := H1.out.cell; have kb : w1.cell? ⟨w.heap.size, 0, none⟩ = some (.pointer (some ⟨g, 0, none⟩)) := (blk_cell X1.out 0).trans rfl; obtain ⟨ad, ead, t0, t1, t2, t3⟩ := at_T37 (Kd.C_below HCC.out H1.out.2.2.2) s.at_ a1 c3; cases ead; clear hd))
     go_quiet (fail)
     go_wp2
     have HZ := Aside0.mk ((H1.out.drewN (nq + 1)).alloc (.cells #[.int .i64 0, .int .i64 0, .string ⟨#[]⟩, .int .i64 0] 37))
     obtain ⟨m0, m1, m2, m3, m4, m5⟩ := HZ.out.cell
     have hlt1 := H1.out.lt
     have blt1 := blk_lt X1.out
     have kbz : ((w1.drewN (nq + 1)).alloc (.cells #[.int .i64 0, .int .i64 0, .string ⟨#[]⟩, .int .i64 0] 37)).cell? ⟨w.heap.size, 0, none⟩ = some (.pointer (some ⟨g, 0, none⟩)) := (blk_cell (blk_alloc (w := w1.drewN (nq + 1)) X1.out (.cells #[.int .i64 0, .int .i64 0, .string ⟨#[]⟩, .int .i64 0] 37)) 0).trans rfl
     obtain ⟨ad2, ead2, u0, u1, u2, u3⟩ := at_T37 (Kd.C_below HCC.out HZ.out.2.2.2) s.at_ a1 c3
     cases ead2
     have N1 := Aside0.mk (blk_new (w1.drewN (nq + 1)) (.cells #[.int .i64 0, .int .i64 0, .string ⟨#[]⟩, .int .i64 0] 37))
     have HT := Aside0.mk ((H1.out.drewN (nq + 1)).tokW (rd_T37 toks s.at_).f0 (rd_T37 toks s.at_).f1 (rd_T37 toks s.at_).f3 (rd_T37 toks s.at_).f2)
     have KT := Aside0.mk (RKeep.trans (alloc_keep w g (.cells #[.pointer (some ⟨g, 0, none⟩)] 71) v) (RKeep.trans (drawn_keep D1.out v) (RKeep.trans (drawn_keep ⟨⟨nq + 1, rfl⟩⟩ v) (tokW_keep (w1.drewN (nq + 1)) g v (rd_T37 toks s.at_).f0 (rd_T37 toks s.at_).f1 (rd_T37 toks s.at_).f3 (rd_T37 toks s.at_).f2))))
     have XT := Aside0.mk (tokW_blk (w := w1.drewN (nq + 1)) X1.out (rd_T37 toks s.at_).f0 (rd_T37 toks s.at_).f1 (rd_T37 toks s.at_).f3 (rd_T37 toks s.at_).f2)
     have n0 : ((w1.drewN (nq + 1)).alloc (.cells #[.int .i64 0, .int .i64 0, .string ⟨#[]⟩, .int .i64 0] 37)).cell? ⟨w1.heap.size, 0, none⟩ = some (.int .i64 0) := (blk_cell N1.out 0).trans rfl
     have o0 : ((w1.drewN (nq + 1)).alloc (.cells #[.int .i64 0, .int .i64 0, .string ⟨#[]⟩, .int .i64 0] 37)).frozen? ⟨w1.heap.size, 0, none⟩ = false := blk_frozen N1.out 0
     have n1 : ((w1.drewN (nq + 1)).alloc (.cells #[.int .i64 0, .int .i64 0, .string ⟨#[]⟩, .int .i64 0] 37)).cell? ⟨w1.heap.size, 1, none⟩ = some (.int .i64 0) := (blk_cell N1.out 1).trans rfl
     have o1 : ((w1.drewN (nq + 1)).alloc (.cells #[.int .i64 0, .int .i64 0, .string ⟨#[]⟩, .int .i64 0] 37)).frozen? ⟨w1.heap.size, 1, none⟩ = false := blk_frozen N1.out 1
     have n2 : ((w1.drewN (nq + 1)).alloc (.cells #[.int .i64 0, .int .i64 0, .string ⟨#[]⟩, .int .i64 0] 37)).cell? ⟨w1.heap.size, 2, none⟩ = some (.string ⟨#[]⟩) := (blk_cell N1.out 2).trans rfl
     have o2 : ((w1.drewN (nq + 1)).alloc (.cells #[.int .i64 0, .int .i64 0, .string ⟨#[]⟩, .int .i64 0] 37)).frozen? ⟨w1.heap.size, 2, none⟩ = false := blk_frozen N1.out 2
     have n3 : ((w1.drewN (nq + 1)).alloc (.cells #[.int .i64 0, .int .i64 0, .string ⟨#[]⟩, .int .i64 0] 37)).cell? ⟨w1.heap.size, 3, none⟩ = some (.int .i64 0) := (blk_cell N1.out 3).trans rfl
     have o3 : ((w1.drewN (nq + 1)).alloc (.cells #[.int .i64 0, .int .i64 0, .string ⟨#[]⟩, .int .i64 0] 37)).frozen? ⟨w1.heap.size, 3, none⟩ = false := blk_frozen N1.out 3
     go_region
     go_wp2_with (first | (go_at_call 78; refine (rd_step w0 _ g (some ad) c toks s v (nodeR 1 (rd_T37 toks s.at_).f1 ⟨#[]⟩ 0 0) ?R a1 a2).mono ?_; (case R => first | exact HT.out | exact HT.out.drewN _); rintro e w9 ⟨v9, rfl, hd, hk⟩; have H9 := Aside0.mk hd; have K9 := Aside0.mk hk; clear hd hk))
     repeat (go_quiet (fail); try go_wp2)
     go_ret
     exact ⟨_, rfl, H9.out, RKeep.trans KT.out (by first | exact K9.out | exact RKeep.trans (drawn_keep ⟨⟨_, rfl⟩⟩ v) K9.out)⟩
    ·rw [if_neg c4] at hr
     have c4b : ((rd_T37 toks s.at_).f0 == 2) = false := by simp [c4]
     clear c4
     by_cases c5 : (rd_T37 toks s.at_).f0 = 1
     ·rw [if_pos c5] at hr
      have c5b : ((rd_T37 toks s.at_).f0 == 1) = true := by simp [c5]
      clear c5
      obtain ⟨nb, hnm, hr⟩ := Option.bind_eq_some_iff.1 hr
      have HNM := Aside0.mk hnm
      clear hnm
      cases nb with
      | true =>
       rw [if_pos rfl] at hr
       obtain rfl := Option.some.inj hr
       have hp := eq_true a1
       have hq := eq_true c3
       have H := Aside0.mk h'
       have X := Aside0.mk hx
       have HCC := Aside0.mk hC
       have HR := Aside0.mk hr
       unfold RDoes
       clear h h' hx hr hC c1
       go_enter Tryd.func56, Tryd.ntmps56
       go_wp2_with (first | (go_at_call 40; refine (rd_ok w0 _ g A c toks s v H.out).mono ?_; rintro e w1 ⟨rfl, hd⟩; have H1 := Aside0.mk (H.out.drawn hd); have D1 := Aside0.mk hd; have X1 := Aside0.mk (drawn_heap hd X.out); obtain ⟨k0, k1, k2, k3, k4, k5⟩ := H1.out.cell; have kb : w1.cell? ⟨w.heap.size, 0, none⟩ = some (.pointer (some ⟨g, 0, none⟩)) := (blk_cell X1.out 0).trans rfl; obtain ⟨ad, ead, t0, t1, t2, t3⟩ := at_T37 (Kd.C_below HCC.out H1.out.2.2.2) s.at_ a1 c3; cases ead; clear hd))
       go_quiet (fail)
       go_wp2
       have HZ := Aside0.mk ((H1.out.drewN (nq + 1)).alloc (.cells #[.int .i64 0, .int .i64 0, .string ⟨#[]⟩, .int .i64 0] 37))
       obtain ⟨m0, m1, m2, m3, m4, m5⟩ := HZ.out.cell
       have hlt1 := H1.out.lt
       have blt1 := blk_lt X1.out
       have kbz : ((w1.drewN (nq + 1)).alloc (.cells #[.int .i64 0, .int .i64 0, .string ⟨#[]⟩, .int .i64 0] 37)).cell? ⟨w.heap.size, 0, none⟩ = some (.pointer (some ⟨g, 0, none⟩)) := (blk_cell (blk_alloc (w := w1.drewN (nq + 1)) X1.out (.cells #[.int .i64 0, .int .i64 0, .string ⟨#[]⟩, .int .i64 0] 37)) 0).trans rfl
       obtain ⟨ad2, ead2, u0, u1, u2, u3⟩ := at_T37 (Kd.C_below HCC.out HZ.out.2.2.2) s.at_ a1 c3
       cases ead2
       have N1 := Aside0.mk (blk_new (w1.drewN (nq + 1)) (.cells #[.int .i64 0, .int .i64 0, .string ⟨#[]⟩, .int .i64 0] 37))
       have HT := Aside0.mk ((H1.out.drewN (nq + 1)).tokW (rd_T37 toks s.at_).f0 (rd_T37 toks s.at_).f1 (rd_T37 toks s.at_).f3 (rd_T37 toks s.at_).f2)
       have KT := Aside0.mk (RKeep.trans (alloc_keep w g (.cells #[.pointer (some ⟨g, 0, none⟩)] 71) v) (RKeep.trans (drawn_keep D1.out v) (RKeep.trans (drawn_keep ⟨⟨nq + 1, rfl⟩⟩ v) (tokW_keep (w1.drewN (nq + 1)) g v (rd_T37 toks s.at_).f0 (rd_T37 toks s.at_).f1 (rd_T37 toks s.at_).f3 (rd_T37 toks s.at_).f2))))
       have XT := Aside0.mk (tokW_blk (w := w1.drewN (nq + 1)) X1.out (rd_T37 toks s.at_).f0 (rd_T37 toks s.at_).f1 (rd_T37 toks s.at_).f3 (rd_T37 toks s.at_).f2)
       have n0 : ((w1.drewN (nq + 1)).alloc (.cells #[.int .i64 0, .int .i64 0, .string ⟨#[]⟩, .int .i64 0] 37)).cell? ⟨w1.heap.size, 0, none⟩ = some (.int .i64 0) := (blk_cell N1.out 0).trans rfl
       have o0 : ((w1.drewN (nq + 1)).alloc (.cells #[.int .i64 0, .int .i64 0, .string ⟨#[]⟩, .int .i64 0] 37)).frozen? ⟨w1.heap.size, 0, none⟩ = false := blk_frozen N1.out 0
       have n1 : ((w1.drewN (nq + 1)).alloc (.cells #[.int .i64 0, .int .i64 0, .string ⟨#[]⟩, .int .i64 0] 37)).cell? ⟨w1.heap.size, 1, none⟩ = some (.int .i64 0) := (blk_cell N1.out 1).trans rfl
       have o1 : ((w1.drewN (nq + 1)).alloc (.cells #[.int .i64 0, .int .i64 0, .string ⟨#[]⟩, .int .i64 0] 37)).frozen? ⟨w1.heap.size, 1, none⟩ = false := blk_frozen N1.out 1
       have n2 : ((w1.drewN (nq + 1)).alloc (.cells #[.int .i64 0, .int .i64 0, .string ⟨#[]⟩, .int .i64 0] 37)).cell? ⟨w1.heap.size, 2, none⟩ = some (.string ⟨#[]⟩) := (blk_cell N1.out 2).trans rfl
       have o2 : ((w1.drewN (nq + 1)).alloc (.cells #[.int .i64 0, .int .i64 0, .string ⟨#[]⟩, .int .i64 0] 37)).frozen? ⟨w1.heap.size, 2, none⟩ = false := blk_frozen N1.out 2
       have n3 : ((w1.drewN (nq + 1)).alloc (.cells #[.int .i64 0, .int .i64 0, .string ⟨#[]⟩, .int .i64 0] 37)).cell? ⟨w1.heap.size, 3, none⟩ = some (.int .i64 0) := (blk_cell N1.out 3).trans rfl
       have o3 : ((w1.drewN (nq + 1)).alloc (.cells #[.int .i64 0, .int .i64 0, .string ⟨#[]⟩, .int .i64 0] 37)).frozen? ⟨w1.heap.size, 3, none⟩ = false := blk_frozen N1.out 3
       go_region
       go_wp2_with (first | (go_at_call 20; refine (token_Name.calls K (rd_T37 toks s.at_).f2 true _ HNM.out).mono ?_; rintro e w7 ⟨rfl, ⟨nd, rfl⟩⟩) | (go_at_call 78; refine (rd_step w0 _ g (some ad) c toks s v (nodeR 2 0 (rd_T37 toks s.at_).f2 0 0) ?R a1 a2).mono ?_; (case R => first | exact HT.out | exact HT.out.drewN _); rintro e w9 ⟨v9, rfl, hd, hk⟩; have H9 := Aside0.mk hd; have K9 := Aside0.mk hk; clear hd hk))
       repeat (go_quiet (fail); try go_wp2)
       go_ret
       exact ⟨_, rfl, H9.out, RKeep.trans KT.out (by first | exact K9.out | exact RKeep.trans (drawn_keep ⟨⟨_, rfl⟩⟩ v) K9.out)⟩
      | false =>
       rw [if_neg (by decide)] at hr
       have hp := eq_true a1
       have hq := eq_true c3
       have H := Aside0.mk h'
       have X := Aside0.mk hx
       have HCC := Aside0.mk hC
       have HR := Aside0.mk hr
       unfold RDoes
       clear h h' hx hr hC c1
       go_enter Tryd.func56, Tryd.ntmps56
       go_wp2_with (first | (go_at_call 40; refine (rd_ok w0 _ g A c toks s v H.out).mono ?_; rintro e w1 ⟨rfl, hd⟩; have H1 := Aside0.mk (H.out.drawn hd); have D1 := Aside0.mk hd; have X1 := Aside0.mk (drawn_heap hd X.out); obtain ⟨k0, k1, k2, k3, k4, k5⟩ := H1.out.cell; have kb : w1.cell? ⟨w.heap.size, 0, none⟩ = some (.pointer (some ⟨g, 0, none⟩)) := (blk_cell X1.out 0).trans rfl; obtain ⟨ad, ead, t0, t1, t2, t3⟩ := at_T37 (Kd.C_below HCC.out H1.out.2.2.2) s.at_ a1 c3; cases ead; clear hd))
       go_quiet (fail)
       go_wp2
       have HZ := Aside0.mk ((H1.out.drewN (nq + 1)).alloc (.cells #[.int .i64 0, .int .i64 0, .string ⟨#[]⟩, .int .i64 0] 37))
       obtain ⟨m0, m1, m2, m3, m4, m5⟩ := HZ.out.cell
       have hlt1 := H1.out.lt
       have blt1 := blk_lt X1.out
       have kbz : ((w1.drewN (nq + 1)).alloc (.cells #[.int .i64 0, .int .i64 0, .string ⟨#[]⟩, .int .i64 0] 37)).cell? ⟨w.heap.size, 0, none⟩ = some (.pointer (some ⟨g, 0, none⟩)) := (blk_cell (blk_alloc (w := w1.drewN (nq + 1)) X1.out (.cells #[.int .i64 0, .int .i64 0, .string ⟨#[]⟩, .int .i64 0] 37)) 0).trans rfl
       obtain ⟨ad2, ead2, u0, u1, u2, u3⟩ := at_T37 (Kd.C_below HCC.out HZ.out.2.2.2) s.at_ a1 c3
       cases ead2
       have N1 := Aside0.mk (blk_new (w1.drewN (nq + 1)) (.cells #[.int .i64 0, .int .i64 0, .string ⟨#[]⟩, .int .i64 0] 37))
       have HT := Aside0.mk ((H1.out.drewN (nq + 1)).tokW (rd_T37 toks s.at_).f0 (rd_T37 toks s.at_).f1 (rd_T37 toks s.at_).f3 (rd_T37 toks s.at_).f2)
       have KT := Aside0.mk (RKeep.trans (alloc_keep w g (.cells #[.pointer (some ⟨g, 0, none⟩)] 71) v) (RKeep.trans (drawn_keep D1.out v) (RKeep.trans (drawn_keep ⟨⟨nq + 1, rfl⟩⟩ v) (tokW_keep (w1.drewN (nq + 1)) g v (rd_T37 toks s.at_).f0 (rd_T37 toks s.at_).f1 (rd_T37 toks s.at_).f3 (rd_T37 toks s.at_).f2))))
       have XT := Aside0.mk (tokW_blk (w := w1.drewN (nq + 1)) X1.out (rd_T37 toks s.at_).f0 (rd_T37 toks s.at_).f1 (rd_T37 toks s.at_).f3 (rd_T37 toks s.at_).f2)
       have n0 : ((w1.drewN (nq + 1)).alloc (.cells #[.int .i64 0, .int .i64 0, .string ⟨#[]⟩, .int .i64 0] 37)).cell? ⟨w1.heap.size, 0, none⟩ = some (.int .i64 0) := (blk_cell N1.out 0).trans rfl
       have o0 : ((w1.drewN (nq + 1)).alloc (.cells #[.int .i64 0, .int .i64 0, .string ⟨#[]⟩, .int .i64 0] 37)).frozen? ⟨w1.heap.size, 0, none⟩ = false := blk_frozen N1.out 0
       have n1 : ((w1.drewN (nq + 1)).alloc (.cells #[.int .i64 0, .int .i64 0, .string ⟨#[]⟩, .int .i64 0] 37)).cell? ⟨w1.heap.size, 1, none⟩ = some (.int .i64 0) := (blk_cell N1.out 1).trans rfl
       have o1 : ((w1.drewN (nq + 1)).alloc (.cells #[.int .i64 0, .int .i64 0, .string ⟨#[]⟩, .int .i64 0] 37)).frozen? ⟨w1.heap.size, 1, none⟩ = false := blk_frozen N1.out 1
       have n2 : ((w1.drewN (nq + 1)).alloc (.cells #[.int .i64 0, .int .i64 0, .string ⟨#[]⟩, .int .i64 0] 37)).cell? ⟨w1.heap.size, 2, none⟩ = some (.string ⟨#[]⟩) := (blk_cell N1.out 2).trans rfl
       have o2 : ((w1.drewN (nq + 1)).alloc (.cells #[.int .i64 0, .int .i64 0, .string ⟨#[]⟩, .int .i64 0] 37)).frozen? ⟨w1.heap.size, 2, none⟩ = false := blk_frozen N1.out 2
       have n3 : ((w1.drewN (nq + 1)).alloc (.cells #[.int .i64 0, .int .i64 0, .string ⟨#[]⟩, .int .i64 0] 37)).cell? ⟨w1.heap.size, 3, none⟩ = some (.int .i64 0) := (blk_cell N1.out 3).trans rfl
       have o3 : ((w1.drewN (nq + 1)).alloc (.cells #[.int .i64 0, .int .i64 0, .string ⟨#[]⟩, .int .i64 0] 37)).frozen? ⟨w1.heap.size, 3, none⟩ = false := blk_frozen N1.out 3
       go_region
       go_wp2_with (first | (go_at_call 20; refine (token_Name.calls K (rd_T37 toks s.at_).f2 false _ HNM.out).mono ?_; rintro e w7 ⟨rfl, ⟨nd, rfl⟩⟩))
       have HN := HT
       have KN := KT
       have XN := XT
       clear HT KT XT
       refine (rd_next w0 _ g (some ad) c toks HCC.out s v ?R a1).mono ?_
       case R => first | exact HN.out | exact HN.out.drewN _
       rintro e w3 ⟨rfl, hd⟩
       have H3 : Aside0 (RD w0 w3 g (some ad) c toks s v) := ⟨by first | exact HN.out.drawn hd | exact (HN.out.drewN _).drawn hd⟩
       have K3 : Aside0 (RKeep w w3 g v v) := ⟨by first | exact RKeep.trans KN.out (drawn_keep hd v) | exact RKeep.trans KN.out (RKeep.trans (drawn_keep ⟨⟨_, rfl⟩⟩ v) (drawn_keep hd v))⟩
       have X3 : Aside0 (w3.heap[w.heap.size]? = some (.cells #[.pointer (some ⟨g, 0, none⟩)] 71 (0, 0))) := ⟨by obtain ⟨n9, rfl⟩ := hd; exact XN.out⟩
       clear hd
       try clear hp hq
       try clear m0 m1 m2 m3 m4 m5 n0 n1 n2 n3 o0 o1 o2 o3 kbz u0 u1 u2 u3 t0 t1 t2 t3 k0 k1 k2 k3 k4 k5 kb
       obtain ⟨j0, j1, j2, j3, j4, j5⟩ := H3.out.cell
       have kb3 : w3.cell? ⟨w.heap.size, 0, none⟩ = some (.pointer (some ⟨g, 0, none⟩)) := (blk_cell X3.out 0).trans rfl
       have hbg : w.heap.size ≠ g := by omega
       have hbv := Kd.R_ne H3.out.2.2.1 X3.out (by decide)
       have hr := HR.out
       clear HR
       unfold signOneR at hr
       by_cases e0 : (tokS toks s).toList = [36]
       ·rw [if_pos e0] at hr
        have eb0 : ((tokS toks s).toList == [36]) = true := beq_iff_eq.mpr e0
        clear e0
        obtain rfl := Option.some.inj hr
        clear hr
        go_wp2_with (go_at_call 78; refine (rd_step w0 _ g (some ad) c toks s v (nodeR 3 0 ⟨#[]⟩ 0 0) H3.out a1 a2).mono ?_; rintro e w9 ⟨v9, rfl, hd, hk⟩; have H9 := Aside0.mk hd; have K9 := Aside0.mk hk; clear hd hk)
        repeat (go_quiet (fail); try go_wp2)
        go_ret
        exact ⟨_, rfl, H9.out, RKeep.trans K3.out K9.out⟩
       ·rw [if_neg e0] at hr
        have eb0 : ((tokS toks s).toList == [36]) = false := beq_eq_false_iff_ne.mpr e0
        clear e0
        by_cases e1 : (tokS toks s).toList = [36, 36]
        ·rw [if_pos e1] at hr
         have eb1 : ((tokS toks s).toList == [36, 36]) = true := beq_iff_eq.mpr e1
         clear e1
         obtain rfl := Option.some.inj hr
         clear hr
         go_wp2_with (go_at_call 78; refine (rd_step w0 _ g (some ad) c toks s v (nodeR 4 0 ⟨#[]⟩ 0 0) H3.out a1 a2).mono ?_; rintro e w9 ⟨v9, rfl, hd, hk⟩; have H9 := Aside0.mk hd; have K9 := Aside0.mk hk; clear hd hk)
         repeat (go_quiet (fail); try go_wp2)
         go_ret
         exact ⟨_, rfl, H9.out, RKeep.trans K3.out K9.out⟩
        ·rw [if_neg e1] at hr
         have eb1 : ((tokS toks s).toList == [36, 36]) = false := beq_eq_false_iff_ne.mpr e1
         clear e1
         by_cases e2 : (tokS toks s).toList = [40]
         ·rw [if_pos e2] at hr
          have eb2 : ((tokS toks s).toList == [40]) = true := beq_iff_eq.mpr e2
          clear e2
          have H5 := Aside0.mk hr
          clear hr
          go_wp2_with (go_at_call 80; refine (rd_within_par w0 _ g w.heap.size (some ad) c toks s v (parR toks self) H3.out r H5.out (fun w9 s9 q9 hw9 hk9 hq9 => rd_par w0 w9 g w.heap.size (some ad) c toks HCC.out s9 v self hw9 (hk9.1.blk X3.out hbg hbv) q9 hq9 HL.out)).mono ?_; rintro e w9 ⟨v9, rfl, hd, hk⟩; have H9 := Aside0.mk hd; have K9 := Aside0.mk hk; clear hd hk)
          repeat (go_quiet (fail); try go_wp2)
          go_ret
          exact ⟨_, rfl, H9.out, RKeep.trans K3.out K9.out⟩
         ·rw [if_neg e2] at hr
          have eb2 : ((tokS toks s).toList == [40]) = false := beq_eq_false_iff_ne.mpr e2
          clear e2
          by_cases e3 : (tokS toks s).toList = [43]
          ·rw [if_pos e3] at hr
           have eb3 : ((tokS toks s).toList == [43]) = true := beq_iff_eq.mpr e3
           clear e3
           have H5 := Aside0.mk hr
           clear hr
           go_wp2_with (go_at_call 80; refine (rd_within_one w0 _ g (some ad) c toks s v (self .one) H3.out r H5.out (fun w9 s9 q9 hw9 _ hq9 => HO.out w9 s9 v q9 hw9 hq9)).mono ?_; rintro e w9 ⟨v9, rfl, hd, hk⟩; have H9 := Aside0.mk hd; have K9 := Aside0.mk hk; clear hd hk)
           repeat (go_quiet (fail); try go_wp2)
           go_ret
           exact ⟨_, rfl, H9.out, RKeep.trans K3.out K9.out⟩
          ·rw [if_neg e3] at hr
           have eb3 : ((tokS toks s).toList == [43]) = false := beq_eq_false_iff_ne.mpr e3
           clear e3
           by_cases e4 : (tokS toks s).toList = [45]
           ·rw [if_pos e4] at hr
            have eb4 : ((tokS toks s).toList == [45]) = true := beq_iff_eq.mpr e4
            clear e4
            have H5 := Aside0.mk hr
            clear hr
            go_wp2_with (go_at_call 83; refine (rd_add2 w0 _ g (some ad) c toks s v self 5 s.at_ H3.out r H5.out HO.out).mono ?_; rintro e w9 ⟨v9, rfl, hd, hk⟩; have H9 := Aside0.mk hd; have K9 := Aside0.mk hk; clear hd hk)
            repeat (go_quiet (fail); try go_wp2)
            go_ret
            exact ⟨_, rfl, H9.out, RKeep.trans K3.out K9.out⟩
           ·rw [if_neg e4] at hr
            have eb4 : ((tokS toks s).toList == [45]) = false := beq_eq_false_iff_ne.mpr e4
            clear e4
            by_cases e5 : (tokS toks s).toList = [126]
            ·rw [if_pos e5] at hr
             have eb5 : ((tokS toks s).toList == [126]) = true := beq_iff_eq.mpr e5
             clear e5
             have H5 := Aside0.mk hr
             clear hr
             go_wp2_with (go_at_call 83; refine (rd_add2 w0 _ g (some ad) c toks s v self 6 s.at_ H3.out r H5.out HO.out).mono ?_; rintro e w9 ⟨v9, rfl, hd, hk⟩; have H9 := Aside0.mk hd; have K9 := Aside0.mk hk; clear hd hk)
             repeat (go_quiet (fail); try go_wp2)
             go_ret
             exact ⟨_, rfl, H9.out, RKeep.trans K3.out K9.out⟩
            ·rw [if_neg e5] at hr
             have eb5 : ((tokS toks s).toList == [126]) = false := beq_eq_false_iff_ne.mpr e5
             clear e5
             obtain rfl := Option.some.inj hr
             clear hr
             go_wp2
             go_region_with (go_at_call 82; refine (rd_fail w0 _ g (some ad) c toks s v 4 s.at_ (H3.out.drewN 1)).mono ?_; rintro e w9 ⟨rfl, hd, hk⟩; have H9 := Aside0.mk hd; have K9 := Aside0.mk hk; clear hd hk)
             all_goals go_wp2
             all_goals go_ret
             all_goals first | exact ⟨_, rfl, H9.out, RKeep.trans K3.out (RKeep.trans (drawn_keep ⟨⟨1, rfl⟩⟩ v) K9.out)⟩ | exact ⟨rfl, _, H9.out, RKeep.trans K3.out (RKeep.trans (drawn_keep ⟨⟨1, rfl⟩⟩ v) K9.out)⟩
     ·rw [if_neg c5] at hr
      have c5b : ((rd_T37 toks s.at_).f0 == 1) = false := by simp [c5]
      clear c5
      have hp := eq_true a1
      have hq := eq_true c3
      have H := Aside0.mk h'
      have X := Aside0.mk hx
      have HCC := Aside0.mk hC
      have HR := Aside0.mk hr
      unfold RDoes
      clear h h' hx hr hC c1
      go_enter Tryd.func56, Tryd.ntmps56
      go_wp2_with (first | (go_at_call 40; refine (rd_ok w0 _ g A c toks s v H.out).mono ?_; rintro e w1 ⟨rfl, hd⟩; have H1 := Aside0.mk (H.out.drawn hd); have D1 := Aside0.mk hd; have X1 := Aside0.mk (drawn_heap hd X.out); obtain ⟨k0, k1, k2, k3, k4, k5⟩ := H1.out.cell; have kb : w1.cell? ⟨w.heap.size, 0, none⟩ = some (.pointer (some ⟨g, 0, none⟩)) := (blk_cell X1.out 0).trans rfl; obtain ⟨ad, ead, t0, t1, t2, t3⟩ := at_T37 (Kd.C_below HCC.out H1.out.2.2.2) s.at_ a1 c3; cases ead; clear hd))
      go_quiet (fail)
      go_wp2
      have HZ := Aside0.mk ((H1.out.drewN (nq + 1)).alloc (.cells #[.int .i64 0, .int .i64 0, .string ⟨#[]⟩, .int .i64 0] 37))
      obtain ⟨m0, m1, m2, m3, m4, m5⟩ := HZ.out.cell
      have hlt1 := H1.out.lt
      have blt1 := blk_lt X1.out
      have kbz : ((w1.drewN (nq + 1)).alloc (.cells #[.int .i64 0, .int .i64 0, .string ⟨#[]⟩, .int .i64 0] 37)).cell? ⟨w.heap.size, 0, none⟩ = some (.pointer (some ⟨g, 0, none⟩)) := (blk_cell (blk_alloc (w := w1.drewN (nq + 1)) X1.out (.cells #[.int .i64 0, .int .i64 0, .string ⟨#[]⟩, .int .i64 0] 37)) 0).trans rfl
      obtain ⟨ad2, ead2, u0, u1, u2, u3⟩ := at_T37 (Kd.C_below HCC.out HZ.out.2.2.2) s.at_ a1 c3
      cases ead2
      have N1 := Aside0.mk (blk_new (w1.drewN (nq + 1)) (.cells #[.int .i64 0, .int .i64 0, .string ⟨#[]⟩, .int .i64 0] 37))
      have HT := Aside0.mk ((H1.out.drewN (nq + 1)).tokW (rd_T37 toks s.at_).f0 (rd_T37 toks s.at_).f1 (rd_T37 toks s.at_).f3 (rd_T37 toks s.at_).f2)
      have KT := Aside0.mk (RKeep.trans (alloc_keep w g (.cells #[.pointer (some ⟨g, 0, none⟩)] 71) v) (RKeep.trans (drawn_keep D1.out v) (RKeep.trans (drawn_keep ⟨⟨nq + 1, rfl⟩⟩ v) (tokW_keep (w1.drewN (nq + 1)) g v (rd_T37 toks s.at_).f0 (rd_T37 toks s.at_).f1 (rd_T37 toks s.at_).f3 (rd_T37 toks s.at_).f2))))
      have XT := Aside0.mk (tokW_blk (w := w1.drewN (nq + 1)) X1.out (rd_T37 toks s.at_).f0 (rd_T37 toks s.at_).f1 (rd_T37 toks s.at_).f3 (rd_T37 toks s.at_).f2)
      have n0 : ((w1.drewN (nq + 1)).alloc (.cells #[.int .i64 0, .int .i64 0, .string ⟨#[]⟩, .int .i64 0] 37)).cell? ⟨w1.heap.size, 0, none⟩ = some (.int .i64 0) := (blk_cell N1.out 0).trans rfl
      have o0 : ((w1.drewN (nq + 1)).alloc (.cells #[.int .i64 0, .int .i64 0, .string ⟨#[]⟩, .int .i64 0] 37)).frozen? ⟨w1.heap.size, 0, none⟩ = false := blk_frozen N1.out 0
      have n1 : ((w1.drewN (nq + 1)).alloc (.cells #[.int .i64 0, .int .i64 0, .string ⟨#[]⟩, .int .i64 0] 37)).cell? ⟨w1.heap.size, 1, none⟩ = some (.int .i64 0) := (blk_cell N1.out 1).trans rfl
      have o1 : ((w1.drewN (nq + 1)).alloc (.cells #[.int .i64 0, .int .i64 0, .string ⟨#[]⟩, .int .i64 0] 37)).frozen? ⟨w1.heap.size, 1, none⟩ = false := blk_frozen N1.out 1
      have n2 : ((w1.drewN (nq + 1)).alloc (.cells #[.int .i64 0, .int .i64 0, .string ⟨#[]⟩, .int .i64 0] 37)).cell? ⟨w1.heap.size, 2, none⟩ = some (.string ⟨#[]⟩) := (blk_cell N1.out 2).trans rfl
      have o2 : ((w1.drewN (nq + 1)).alloc (.cells #[.int .i64 0, .int .i64 0, .string ⟨#[]⟩, .int .i64 0] 37)).frozen? ⟨w1.heap.size, 2, none⟩ = false := blk_frozen N1.out 2
      have n3 : ((w1.drewN (nq + 1)).alloc (.cells #[.int .i64 0, .int .i64 0, .string ⟨#[]⟩, .int .i64 0] 37)).cell? ⟨w1.heap.size, 3, none⟩ = some (.int .i64 0) := (blk_cell N1.out 3).trans rfl
      have o3 : ((w1.drewN (nq + 1)).alloc (.cells #[.int .i64 0, .int .i64 0, .string ⟨#[]⟩, .int .i64 0] 37)).frozen? ⟨w1.heap.size, 3, none⟩ = false := blk_frozen N1.out 3
      go_region
      go_wp2_with fail
      have HN := HT
      have KN := KT
      have XN := XT
      clear HT KT XT
      refine (rd_next w0 _ g (some ad) c toks HCC.out s v ?R a1).mono ?_
      case R => first | exact HN.out | exact HN.out.drewN _
      rintro e w3 ⟨rfl, hd⟩
      have H3 : Aside0 (RD w0 w3 g (some ad) c toks s v) := ⟨by first | exact HN.out.drawn hd | exact (HN.out.drewN _).drawn hd⟩
      have K3 : Aside0 (RKeep w w3 g v v) := ⟨by first | exact RKeep.trans KN.out (drawn_keep hd v) | exact RKeep.trans KN.out (RKeep.trans (drawn_keep ⟨⟨_, rfl⟩⟩ v) (drawn_keep hd v))⟩
      have X3 : Aside0 (w3.heap[w.heap.size]? = some (.cells #[.pointer (some ⟨g, 0, none⟩)] 71 (0, 0))) := ⟨by obtain ⟨n9, rfl⟩ := hd; exact XN.out⟩
      clear hd
      try clear hp hq
      try clear m0 m1 m2 m3 m4 m5 n0 n1 n2 n3 o0 o1 o2 o3 kbz u0 u1 u2 u3 t0 t1 t2 t3 k0 k1 k2 k3 k4 k5 kb
      obtain ⟨j0, j1, j2, j3, j4, j5⟩ := H3.out.cell
      have kb3 : w3.cell? ⟨w.heap.size, 0, none⟩ = some (.pointer (some ⟨g, 0, none⟩)) := (blk_cell X3.out 0).trans rfl
      have hbg : w.heap.size ≠ g := by omega
      have hbv := Kd.R_ne H3.out.2.2.1 X3.out (by decide)
      have hr := HR.out
      clear HR
      unfold signOneR at hr
      by_cases e0 : (tokS toks s).toList = [36]
      ·rw [if_pos e0] at hr
       have eb0 : ((tokS toks s).toList == [36]) = true := beq_iff_eq.mpr e0
       clear e0
       obtain rfl := Option.some.inj hr
       clear hr
       go_wp2_with (go_at_call 78; refine (rd_step w0 _ g (some ad) c toks s v (nodeR 3 0 ⟨#[]⟩ 0 0) H3.out a1 a2).mono ?_; rintro e w9 ⟨v9, rfl, hd, hk⟩; have H9 := Aside0.mk hd; have K9 := Aside0.mk hk; clear hd hk)
       repeat (go_quiet (fail); try go_wp2)
       go_ret
       exact ⟨_, rfl, H9.out, RKeep.trans K3.out K9.out⟩
      ·rw [if_neg e0] at hr
       have eb0 : ((tokS toks s).toList == [36]) = false := beq_eq_false_iff_ne.mpr e0
       clear e0
       by_cases e1 : (tokS toks s).toList = [36, 36]
       ·rw [if_pos e1] at hr
        have eb1 : ((tokS toks s).toList == [36, 36]) = true := beq_iff_eq.mpr e1
        clear e1
        obtain rfl := Option.some.inj hr
        clear hr
        go_wp2_with (go_at_call 78; refine (rd_step w0 _ g (some ad) c toks s v (nodeR 4 0 ⟨#[]⟩ 0 0) H3.out a1 a2).mono ?_; rintro e w9 ⟨v9, rfl, hd, hk⟩; have H9 := Aside0.mk hd; have K9 := Aside0.mk hk; clear hd hk)
        repeat (go_quiet (fail); try go_wp2)
        go_ret
        exact ⟨_, rfl, H9.out, RKeep.trans K3.out K9.out⟩
       ·rw [if_neg e1] at hr
        have eb1 : ((tokS toks s).toList == [36, 36]) = false := beq_eq_false_iff_ne.mpr e1
        clear e1
        by_cases e2 : (tokS toks s).toList = [40]
        ·rw [if_pos e2] at hr
         have eb2 : ((tokS toks s).toList == [40]) = true := beq_iff_eq.mpr e2
         clear e2
         have H5 := Aside0.mk hr
         clear hr
         go_wp2_with (go_at_call 80; refine (rd_within_par w0 _ g w.heap.size (some ad) c toks s v (parR toks self) H3.out r H5.out (fun w9 s9 q9 hw9 hk9 hq9 => rd_par w0 w9 g w.heap.size (some ad) c toks HCC.out s9 v self hw9 (hk9.1.blk X3.out hbg hbv) q9 hq9 HL.out)).mono ?_; rintro e w9 ⟨v9, rfl, hd, hk⟩; have H9 := Aside0.mk hd; have K9 := Aside0.mk hk; clear hd hk)
         repeat (go_quiet (fail); try go_wp2)
         go_ret
         exact ⟨_, rfl, H9.out, RKeep.trans K3.out K9.out⟩
        ·rw [if_neg e2] at hr
         have eb2 : ((tokS toks s).toList == [40]) = false := beq_eq_false_iff_ne.mpr e2
         clear e2
         by_cases e3 : (tokS toks s).toList = [43]
         ·rw [if_pos e3] at hr
          have eb3 : ((tokS toks s).toList == [43]) = true := beq_iff_eq.mpr e3
          clear e3
          have H5 := Aside0.mk hr
          clear hr
          go_wp2_with (go_at_call 80; refine (rd_within_one w0 _ g (some ad) c toks s v (self .one) H3.out r H5.out (fun w9 s9 q9 hw9 _ hq9 => HO.out w9 s9 v q9 hw9 hq9)).mono ?_; rintro e w9 ⟨v9, rfl, hd, hk⟩; have H9 := Aside0.mk hd; have K9 := Aside0.mk hk; clear hd hk)
          repeat (go_quiet (fail); try go_wp2)
          go_ret
          exact ⟨_, rfl, H9.out, RKeep.trans K3.out K9.out⟩
         ·rw [if_neg e3] at hr
          have eb3 : ((tokS toks s).toList == [43]) = false := beq_eq_false_iff_ne.mpr e3
          clear e3
          by_cases e4 : (tokS toks s).toList = [45]
          ·rw [if_pos e4] at hr
           have eb4 : ((tokS toks s).toList == [45]) = true := beq_iff_eq.mpr e4
           clear e4
           have H5 := Aside0.mk hr
           clear hr
           go_wp2_with (go_at_call 83; refine (rd_add2 w0 _ g (some ad) c toks s v self 5 s.at_ H3.out r H5.out HO.out).mono ?_; rintro e w9 ⟨v9, rfl, hd, hk⟩; have H9 := Aside0.mk hd; have K9 := Aside0.mk hk; clear hd hk)
           repeat (go_quiet (fail); try go_wp2)
           go_ret
           exact ⟨_, rfl, H9.out, RKeep.trans K3.out K9.out⟩
          ·rw [if_neg e4] at hr
           have eb4 : ((tokS toks s).toList == [45]) = false := beq_eq_false_iff_ne.mpr e4
           clear e4
           by_cases e5 : (tokS toks s).toList = [126]
           ·rw [if_pos e5] at hr
            have eb5 : ((tokS toks s).toList == [126]) = true := beq_iff_eq.mpr e5
            clear e5
            have H5 := Aside0.mk hr
            clear hr
            go_wp2_with (go_at_call 83; refine (rd_add2 w0 _ g (some ad) c toks s v self 6 s.at_ H3.out r H5.out HO.out).mono ?_; rintro e w9 ⟨v9, rfl, hd, hk⟩; have H9 := Aside0.mk hd; have K9 := Aside0.mk hk; clear hd hk)
            repeat (go_quiet (fail); try go_wp2)
            go_ret
            exact ⟨_, rfl, H9.out, RKeep.trans K3.out K9.out⟩
           ·rw [if_neg e5] at hr
            have eb5 : ((tokS toks s).toList == [126]) = false := beq_eq_false_iff_ne.mpr e5
            clear e5
            obtain rfl := Option.some.inj hr
            clear hr
            go_wp2
            go_region_with (go_at_call 82; refine (rd_fail w0 _ g (some ad) c toks s v 4 s.at_ (H3.out.drewN 1)).mono ?_; rintro e w9 ⟨rfl, hd, hk⟩; have H9 := Aside0.mk hd; have K9 := Aside0.mk hk; clear hd hk)
            all_goals go_wp2
            all_goals go_ret
            all_goals first | exact ⟨_, rfl, H9.out, RKeep.trans K3.out (RKeep.trans (drawn_keep ⟨⟨1, rfl⟩⟩ v) K9.out)⟩ | exact ⟨rfl, _, H9.out, RKeep.trans K3.out (RKeep.trans (drawn_keep ⟨⟨1, rfl⟩⟩ v) K9.out)⟩
   ·rw [if_neg c3] at hr
    have c3b : decide (s.at_ < (toks.length : Int)) = false := decide_eq_false c3
    clear c3
    have H := Aside0.mk h'
    have X := Aside0.mk hx
    have HCC := Aside0.mk hC
    have HR := Aside0.mk hr
    unfold RDoes
    clear h h' hx hr hC c1
    go_enter Tryd.func56, Tryd.ntmps56
    go_wp2_with (first | (go_at_call 40; refine (rd_ok w0 _ g A c toks s v H.out).mono ?_; rintro e w1 ⟨rfl, hd⟩; have H1 := Aside0.mk (H.out.drawn hd); have D1 := Aside0.mk hd; have X1 := Aside0.mk (drawn_heap hd X.out); obtain ⟨k0, k1, k2, k3, k4, k5⟩ := H1.out.cell; have kb : w1.cell? ⟨w.heap.size, 0, none⟩ = some (.pointer (some ⟨g, 0, none⟩)) := (blk_cell X1.out 0).trans rfl; clear hd))
    go_quiet (fail)
    go_wp2_with fail
    have HN := H1
    have KN := Aside0.mk (RKeep.trans (alloc_keep w g (.cells #[.pointer (some ⟨g, 0, none⟩)] 71) v) (drawn_keep D1.out v))
    have XN := X1
    refine (rd_next w0 _ g A c toks HCC.out s v ?R a1).mono ?_
    case R => first | exact HN.out | exact HN.out.drewN _
    rintro e w3 ⟨rfl, hd⟩
    have H3 : Aside0 (RD w0 w3 g A c toks s v) := ⟨by first | exact HN.out.drawn hd | exact (HN.out.drewN _).drawn hd⟩
    have K3 : Aside0 (RKeep w w3 g v v) := ⟨by first | exact RKeep.trans KN.out (drawn_keep hd v) | exact RKeep.trans KN.out (RKeep.trans (drawn_keep ⟨⟨_, rfl⟩⟩ v) (drawn_keep hd v))⟩
    have X3 : Aside0 (w3.heap[w.heap.size]? = some (.cells #[.pointer (some ⟨g, 0, none⟩)] 71 (0, 0))) := ⟨by obtain ⟨n9, rfl⟩ := hd; exact XN.out⟩
    clear hd
    try clear hp hq
    try clear m0 m1 m2 m3 m4 m5 n0 n1 n2 n3 o0 o1 o2 o3 kbz u0 u1 u2 u3 t0 t1 t2 t3 k0 k1 k2 k3 k4 k5 kb
    obtain ⟨j0, j1, j2, j3, j4, j5⟩ := H3.out.cell
    have kb3 : w3.cell? ⟨w.heap.size, 0, none⟩ = some (.pointer (some ⟨g, 0, none⟩)) := (blk_cell X3.out 0).trans rfl
    have hbg : w.heap.size ≠ g := by omega
    have hbv := Kd.R_ne H3.out.2.2.1 X3.out (by decide)
    have hr := HR.out
    clear HR
    unfold signOneR at hr
    by_cases e0 : (tokS toks s).toList = [36]
    ·rw [if_pos e0] at hr
     have eb0 : ((tokS toks s).toList == [36]) = true := beq_iff_eq.mpr e0
     clear e0
     obtain rfl := Option.some.inj hr
     clear hr
     go_wp2_with (go_at_call 78; refine (rd_step w0 _ g A c toks s v (nodeR 3 0 ⟨#[]⟩ 0 0) H3.out a1 a2).mono ?_; rintro e w9 ⟨v9, rfl, hd, hk⟩; have H9 := Aside0.mk hd; have K9 := Aside0.mk hk; clear hd hk)
     repeat (go_quiet (fail); try go_wp2)
     go_ret
     exact ⟨_, rfl, H9.out, RKeep.trans K3.out K9.out⟩
    ·rw [if_neg e0] at hr
     have eb0 : ((tokS toks s).toList == [36]) = false := beq_eq_false_iff_ne.mpr e0
     clear e0
     by_cases e1 : (tokS toks s).toList = [36, 36]
     ·rw [if_pos e1] at hr
      have eb1 : ((tokS toks s).toList == [36, 36]) = true := beq_iff_eq.mpr e1
      clear e1
      obtain rfl := Option.some.inj hr
      clear hr
      go_wp2_with (go_at_call 78; refine (rd_step w0 _ g A c toks s v (nodeR 4 0 ⟨#[]⟩ 0 0) H3.out a1 a2).mono ?_; rintro e w9 ⟨v9, rfl, hd, hk⟩; have H9 := Aside0.mk hd; have K9 := Aside0.mk hk; clear hd hk)
      repeat (go_quiet (fail); try go_wp2)
      go_ret
      exact ⟨_, rfl, H9.out, RKeep.trans K3.out K9.out⟩
     ·rw [if_neg e1] at hr
      have eb1 : ((tokS toks s).toList == [36, 36]) = false := beq_eq_false_iff_ne.mpr e1
      clear e1
      by_cases e2 : (tokS toks s).toList = [40]
      ·rw [if_pos e2] at hr
       have eb2 : ((tokS toks s).toList == [40]) = true := beq_iff_eq.mpr e2
       clear e2
       have H5 := Aside0.mk hr
       clear hr
       go_wp2_with (go_at_call 80; refine (rd_within_par w0 _ g w.heap.size A c toks s v (parR toks self) H3.out r H5.out (fun w9 s9 q9 hw9 hk9 hq9 => rd_par w0 w9 g w.heap.size A c toks HCC.out s9 v self hw9 (hk9.1.blk X3.out hbg hbv) q9 hq9 HL.out)).mono ?_; rintro e w9 ⟨v9, rfl, hd, hk⟩; have H9 := Aside0.mk hd; have K9 := Aside0.mk hk; clear hd hk)
       repeat (go_quiet (fail); try go_wp2)
       go_ret
       exact ⟨_, rfl, H9.out, RKeep.trans K3.out K9.out⟩
      ·rw [if_neg e2] at hr
       have eb2 : ((tokS toks s).toList == [40]) = false := beq_eq_false_iff_ne.mpr e2
       clear e2
       by_cases e3 : (tokS toks s).toList = [43]
       ·rw [if_pos e3] at hr
        have eb3 : ((tokS toks s).toList == [43]) = true := beq_iff_eq.mpr e3
        clear e3
        have H5 := Aside0.mk hr
        clear hr
        go_wp2_with (go_at_call 80; refine (rd_within_one w0 _ g A c toks s v (self .one) H3.out r H5.out (fun w9 s9 q9 hw9 _ hq9 => HO.out w9 s9 v q9 hw9 hq9)).mono ?_; rintro e w9 ⟨v9, rfl, hd, hk⟩; have H9 := Aside0.mk hd; have K9 := Aside0.mk hk; clear hd hk)
        repeat (go_quiet (fail); try go_wp2)
        go_ret
        exact ⟨_, rfl, H9.out, RKeep.trans K3.out K9.out⟩
       ·rw [if_neg e3] at hr
        have eb3 : ((tokS toks s).toList == [43]) = false := beq_eq_false_iff_ne.mpr e3
        clear e3
        by_cases e4 : (tokS toks s).toList = [45]
        ·rw [if_pos e4] at hr
         have eb4 : ((tokS toks s).toList == [45]) = true := beq_iff_eq.mpr e4
         clear e4
         have H5 := Aside0.mk hr
         clear hr
         go_wp2_with (go_at_call 83; refine (rd_add2 w0 _ g A c toks s v self 5 s.at_ H3.out r H5.out HO.out).mono ?_; rintro e w9 ⟨v9, rfl, hd, hk⟩; have H9 := Aside0.mk hd; have K9 := Aside0.mk hk; clear hd hk)
         repeat (go_quiet (fail); try go_wp2)
         go_ret
         exact ⟨_, rfl, H9.out, RKeep.trans K3.out K9.out⟩
        ·rw [if_neg e4] at hr
         have eb4 : ((tokS toks s).toList == [45]) = false := beq_eq_false_iff_ne.mpr e4
         clear e4
         by_cases e5 : (tokS toks s).toList = [126]
         ·rw [if_pos e5] at hr
          have eb5 : ((tokS toks s).toList == [126]) = true := beq_iff_eq.mpr e5
          clear e5
          have H5 := Aside0.mk hr
          clear hr
          go_wp2_with (go_at_call 83; refine (rd_add2 w0 _ g A c toks s v self 6 s.at_ H3.out r H5.out HO.out).mono ?_; rintro e w9 ⟨v9, rfl, hd, hk⟩; have H9 := Aside0.mk hd; have K9 := Aside0.mk hk; clear hd hk)
          repeat (go_quiet (fail); try go_wp2)
          go_ret
          exact ⟨_, rfl, H9.out, RKeep.trans K3.out K9.out⟩
         ·rw [if_neg e5] at hr
          have eb5 : ((tokS toks s).toList == [126]) = false := beq_eq_false_iff_ne.mpr e5
          clear e5
          obtain rfl := Option.some.inj hr
          clear hr
          go_wp2
          go_region_with (go_at_call 82; refine (rd_fail w0 _ g A c toks s v 4 s.at_ (H3.out.drewN 1)).mono ?_; rintro e w9 ⟨rfl, hd, hk⟩; have H9 := Aside0.mk hd; have K9 := Aside0.mk hk; clear hd hk)
          all_goals go_wp2
          all_goals go_ret
          all_goals first | exact ⟨_, rfl, H9.out, RKeep.trans K3.out (RKeep.trans (drawn_keep ⟨⟨1, rfl⟩⟩ v) K9.out)⟩ | exact ⟨rfl, _, H9.out, RKeep.trans K3.out (RKeep.trans (drawn_keep ⟨⟨1, rfl⟩⟩ v) K9.out)⟩
  ·rw [if_neg c2] at hr
   exact absurd hr (by simp)
 ·rw [if_neg c1] at hr
  obtain rfl := Option.some.inj hr
  have c1b : (s.e == 0) = false := by simp [c1]
  have H := Aside0.mk h'
  unfold RDoes
  clear h h' hx hr HO HL hC c1
  go_enter Tryd.func56, Tryd.ntmps56
  go_wp2_with (go_at_call 40; refine (rd_ok w0 _ g A c toks s v H.out).mono ?_; rintro e w1 ⟨rfl, ⟨nd, rfl⟩⟩)
  go_ret
  exact ⟨v, rfl, H.out.drewN _, RKeep.trans (alloc_keep w g _ _) (drawn_keep ⟨⟨_, rfl⟩⟩ _)⟩
theorem opFrom_str (s : ByteArray) : ∀ (k : Nat) (op : Int), 0 ≤ (opFrom s k op).2 ∧ (opFrom s k op).2 ≤ 6 := by
 intro k
 induction k with
 | zero => intro op; exact ⟨by simp [opFrom], by simp [opFrom]⟩
 | succ k ih =>
  intro op
  simp only [opFrom]
  split
  ·split
   ·unfold strR
    exact ⟨by simp only []; repeat (first | omega | split), by simp only []; repeat (first | omega | split)⟩
   ·exact ih _
  ·exact ⟨by decide, by decide⟩
set_option maxHeartbeats 8000000 in
set_option maxRecDepth 100000 in
theorem rd_climb (w0 w : World) (g : Nat) (A : Option Addr) (c : Nat) (toks : List S37) (hC : Kd.C k37 w0 A toks.length toks) (s : RSt) (v : Value) (K k : Nat) (least : Int) (h : RD w0 w g A c toks s v) (r : Int × RSt) (hr : rdR K toks (k + 1) (.climb least) s = some r)
  (hone : ∀ w1 s1 v1 q, RD w0 w1 g A c toks s1 v1 → rdR K toks k .one s1 = some q → RDoes w0 g A c toks 56 #[.pointer (some ⟨g, 0, none⟩)] w1 v1 q)
  (hclimb : ∀ k', k' < k → ∀ w1 s1 v1 least q, RD w0 w1 g A c toks s1 v1 → rdR K toks k' (.climb least) s1 = some q → RDoes w0 g A c toks 39 #[.pointer (some ⟨g, 0, none⟩), .int .i64 least] w1 v1 q) :
  RDoes w0 g A c toks 39 #[.pointer (some ⟨g, 0, none⟩), .int .i64 least] w v r := by
 have hu := Tryd.underlying47
 simp only [rdR] at hr
 obtain ⟨q0, hq0, hr⟩ := Option.bind_eq_some_iff.1 hr
 have H1 := Aside0.mk (hone w s v q0 h hq0)
 have HL := Aside0.mk hclimb
 have HCC := Aside0.mk hC
 have HR := Aside0.mk hr
 have H := Aside0.mk h
 unfold RDoes
 clear h hr hone hclimb hC hq0
 go_enter Tryd.func39, Tryd.ntmps39
 go_wp2_with (go_at_call 56; refine (H1.out).mono ?_; rintro e w1 ⟨v1, rfl, hd, hk⟩; have HD := Aside0.mk hd; have HK := Aside0.mk hk; clear hd hk)
 go_loopg [5] k (fun kq v5 w' => ∃ (x5 : Int) (s' : RSt) (v' : Value), v5 = .int .i64 x5 ∧ Aside0 (rdR K toks kq (.loop least x5) s' = some r) ∧ kq ≤ k ∧ Aside0 (RD w0 w' g A c toks s' v') ∧ Aside0 (RKeep w w' g v v'))
 case atStart => exact ⟨_, _, _, rfl, HR, Nat.le_refl _, HD, HK⟩
 case round =>
  clear HR HD HK H1
  try clear p2
  obtain ⟨x5, s', v', rfl, HA, hkk, HD, HK⟩ := hrel
  cases gk with
  | zero => exact absurd HA.out (by simp [rdR])
  | succ k1 =>
   have hA := HA.out
   clear HA
   simp only [rdR] at hA
   by_cases c1 : s'.e = 0
   ·rw [if_pos c1] at hA
    have c1b : (s'.e == 0) = true := by simp [c1]
    by_cases c2 : 0 ≤ s'.at_ ∧ s'.at_ < RMax
    ·rw [if_pos c2] at hA
     obtain ⟨a1, a2⟩ := c2
     have a3 : s'.at_ < 4611686018427387904 := a2
     have hs := opFrom_str (tokS toks s') 11 7
     have HOP : Aside0 (∀ w1, RD w0 w1 g A c toks s' v' → Calls Tryd.prog 57 #[.pointer (some ⟨g, 0, none⟩)] w1 fun e w' => e = .returned (.tuple #[.int .i64 (opR (tokS toks s')).1, .int .i64 (opR (tokS toks s')).2]) ∧ Drawn0 w1 w') := ⟨fun w1 h1 => rd_operator w0 w1 g A c toks HCC.out s' v' h1 a1⟩
     change 0 ≤ (opR (tokS toks s')).2 ∧ (opR (tokS toks s')).2 ≤ 6 at hs
     obtain ⟨b1, b2⟩ := hs
     generalize (opR (tokS toks s')).1 = op at hA HOP b1 b2
     generalize (opR (tokS toks s')).2 = st at hA HOP b1 b2
     by_cases c3 : op = 0
     ·rw [if_pos c3] at hA
      obtain rfl := Option.some.inj hA
      have c3b : (op == 0) = true := by simp [c3]
      clear c3 c1 a1 a2 a3 b1 b2 hkk hA
      go_wp2_with (first | (go_at_call 40; refine (rd_ok w0 _ g A c toks s' v' HD.out).mono ?_; rintro e w2 ⟨rfl, hd⟩; have H2 := Aside0.mk (HD.out.drawn hd); have D2 := Aside0.mk hd; clear hd) | (go_at_call 57; refine (HOP.out _ H2.out).mono ?_; rintro e w3 ⟨rfl, ⟨n3, rfl⟩⟩))
      repeat (go_quiet (fail); try go_wp2)
      go_ret
      first | exact ⟨v', rfl, by first | exact H2.out.drewN _ | exact (H2.out.drewN _).drewN _, RKeep.trans HK.out (RKeep.trans (drawn_keep D2.out _) (by first | exact drawn_keep ⟨⟨_, rfl⟩⟩ _ | exact RKeep.trans (drawn_keep ⟨⟨_, rfl⟩⟩ _) (drawn_keep ⟨⟨_, rfl⟩⟩ _)))⟩ | exact ⟨rfl, v', by first | exact H2.out.drewN _ | exact (H2.out.drewN _).drewN _, RKeep.trans HK.out (RKeep.trans (drawn_keep D2.out _) (by first | exact drawn_keep ⟨⟨_, rfl⟩⟩ _ | exact RKeep.trans (drawn_keep ⟨⟨_, rfl⟩⟩ _) (drawn_keep ⟨⟨_, rfl⟩⟩ _)))⟩
     ·rw [if_neg c3] at hA
      have c3b : (op == 0) = false := by simp [c3]
      by_cases c4 : st < least
      ·rw [if_pos c4] at hA
       obtain rfl := Option.some.inj hA
       have c4b : decide (st < least) = true := decide_eq_true c4
       clear c3 c1 a1 a2 a3 b1 b2 hkk hA c4
       go_wp2_with (first | (go_at_call 40; refine (rd_ok w0 _ g A c toks s' v' HD.out).mono ?_; rintro e w2 ⟨rfl, hd⟩; have H2 := Aside0.mk (HD.out.drawn hd); have D2 := Aside0.mk hd; clear hd) | (go_at_call 57; refine (HOP.out _ H2.out).mono ?_; rintro e w3 ⟨rfl, ⟨n3, rfl⟩⟩))
       repeat (go_quiet (fail); try go_wp2)
       go_ret
       first | exact ⟨v', rfl, by first | exact H2.out.drewN _ | exact (H2.out.drewN _).drewN _, RKeep.trans HK.out (RKeep.trans (drawn_keep D2.out _) (by first | exact drawn_keep ⟨⟨_, rfl⟩⟩ _ | exact RKeep.trans (drawn_keep ⟨⟨_, rfl⟩⟩ _) (drawn_keep ⟨⟨_, rfl⟩⟩ _)))⟩ | exact ⟨rfl, v', by first | exact H2.out.drewN _ | exact (H2.out.drewN _).drewN _, RKeep.trans HK.out (RKeep.trans (drawn_keep D2.out _) (by first | exact drawn_keep ⟨⟨_, rfl⟩⟩ _ | exact RKeep.trans (drawn_keep ⟨⟨_, rfl⟩⟩ _) (drawn_keep ⟨⟨_, rfl⟩⟩ _)))⟩
      ·rw [if_neg c4] at hA
       obtain ⟨q, hq, hA⟩ := Option.bind_eq_some_iff.1 hA
       have c4b : decide (st < least) = false := decide_eq_false c4
       have hwr : IntKind.i64.wrap s'.at_ = s'.at_ := by rw [i64_w]; unfold Go.RowKit.wrap64; omega
       have HQ := Aside0.mk hq
       have HA := Aside0.mk hA
       have HI := Aside0.mk (HL.out k1 (by omega))
       have HKK := Aside0.mk hkk
       clear c3 c1 hA c4 hq HL hkk
       go_wp2_with (first | (go_at_call 40; refine (rd_ok w0 _ g A c toks s' v' HD.out).mono ?_; rintro e w2 ⟨rfl, hd⟩; have H2 := Aside0.mk (HD.out.drawn hd); have D2 := Aside0.mk hd; clear hd) | (go_at_call 57; refine (HOP.out _ H2.out).mono ?_; rintro e w3 ⟨rfl, hd⟩; have H3 := Aside0.mk (H2.out.drawn hd); have D3 := Aside0.mk hd; clear hd; obtain ⟨k0, k1_, k2, k3, k4, k5⟩ := H3.out.cell; obtain ⟨y0, y1, y2, y3, y4, y5⟩ := H3.out.free) | (go_at_call 39; refine (HI.out _ { s' with at_ := s'.at_ + 1 } v' (st + 1) q (H3.out.set_at _) HQ.out).mono ?_; rintro e w4 ⟨v4, rfl, hd, hk⟩; have H4 := Aside0.mk hd; have K4 := Aside0.mk hk; clear hd hk) | (go_at_call 58; (try rw [hwr]); refine (rd_add w0 _ g A c toks q.2 v4 (nodeR op 0 ⟨#[]⟩ x5 q.1) s'.at_ H4.out).mono ?_; rintro e w5 ⟨v5, rfl, hd, hk⟩; have H5 := Aside0.mk hd; have K5 := Aside0.mk hk; clear hd hk))
       repeat (go_quiet (fail); try go_wp2)
       go_roundg k1
       case measure => omega
       case rel => exact ⟨_, _, _, rfl, HA, by have := HKK.out; omega, H5, ⟨RKeep.trans HK.out (RKeep.trans (drawn_keep D2.out _) (RKeep.trans (drawn_keep D3.out _) (RKeep.trans (keep_set _ g 1 _ _) (RKeep.trans K4.out K5.out))))⟩⟩
    ·rw [if_neg c2] at hA
     exact absurd hA (by simp)
   ·rw [if_neg c1] at hA
    obtain rfl := Option.some.inj hA
    have c1b : (s'.e == 0) = false := by simp [c1]
    clear c1 hA hkk
    go_wp2_with (go_at_call 40; refine (rd_ok w0 _ g A c toks s' v' HD.out).mono ?_; rintro e w2 ⟨rfl, hd⟩; have H2 := Aside0.mk (HD.out.drawn hd); have D2 := Aside0.mk hd; clear hd)
    repeat (go_quiet (fail); try go_wp2)
    go_ret
    first | exact ⟨v', rfl, by first | exact H2.out | exact H2.out.drewN _, RKeep.trans HK.out (by first | exact drawn_keep D2.out _ | exact RKeep.trans (drawn_keep D2.out _) (drawn_keep ⟨⟨_, rfl⟩⟩ _))⟩ | exact ⟨rfl, v', by first | exact H2.out | exact H2.out.drewN _, RKeep.trans HK.out (by first | exact drawn_keep D2.out _ | exact RKeep.trans (drawn_keep D2.out _) (drawn_keep ⟨⟨_, rfl⟩⟩ _))⟩
/-- reader.one and reader.climb, each as many calls deep as told. -/
theorem rd_all (w0 : World) (g : Nat) (A : Option Addr) (c : Nat) (toks : List S37) (hC : Kd.C k37 w0 A toks.length toks) (K : Nat) : ∀ k : Nat,
  (∀ w s v q, RD w0 w g A c toks s v → rdR K toks k .one s = some q → RDoes w0 g A c toks 56 #[.pointer (some ⟨g, 0, none⟩)] w v q) ∧
  (∀ w s v least q, RD w0 w g A c toks s v → rdR K toks k (.climb least) s = some q → RDoes w0 g A c toks 39 #[.pointer (some ⟨g, 0, none⟩), .int .i64 least] w v q) := by
 intro k
 induction k using Nat.strongRecOn with
 | ind k ih =>
  cases k with
  | zero => exact ⟨fun _ _ _ _ _ h => absurd h (by simp [rdR]), fun _ _ _ _ _ _ h => absurd h (by simp [rdR])⟩
  | succ k =>
   refine ⟨fun w s v q h hq => ?_, fun w s v least q h hq => ?_⟩
   ·exact rd_one w0 w g A c toks hC s v K (rdR K toks k) h q (by rw [← hq]; rfl) (fun w1 s1 v1 q1 h1 e1 => (ih k (Nat.lt_succ_self k)).1 w1 s1 v1 q1 h1 e1) (fun w1 s1 v1 q1 h1 e1 => (ih k (Nat.lt_succ_self k)).2 w1 s1 v1 0 q1 h1 e1)
   ·exact rd_climb w0 w g A c toks hC s v K k least h q hq (fun w1 s1 v1 q1 h1 e1 => (ih k (Nat.lt_succ_self k)).1 w1 s1 v1 q1 h1 e1) (fun k' hk w1 s1 v1 l1 q1 h1 e1 => (ih k' (by omega)).2 w1 s1 v1 l1 q1 h1 e1)
def expr_Parse.f (k : Nat) (a0 : List S37) (a1 : Int) : Option (List S47 × Int × Int × Int) :=
 if a1 < 0 ∨ (a0.length : Int) < a1 then some ([], 0, 2, 0) else (rdR k a0 k (.climb 0) ⟨a1, 0, [], 0, 0⟩).bind fun q => if q.2.e = 0 then some (q.2.out, q.2.at_, 0, 0) else some ([], 0, q.2.e, q.2.ea)
set_option maxHeartbeats 4000000 in
set_option maxRecDepth 100000 in
theorem expr_Parse.calls (k : Nat) (A0 : Option Addr) (c0 : Nat) (a0 : List S37) (a1 : Int) (r1 : List S47) (r2 r3 r4 : Int) (w : World) (hr0 : Kd.C k37 w A0 a0.length a0) (hc0 : a0.length ≤ c0) (h : expr_Parse.f k a0 a1 = some (r1, r2, r3, r4)) :
  Calls Tryd.prog 21 #[.slice A0 a0.length c0, .int .i64 a1] w fun e w' => ∃ v0_ : Value, e = .returned (.tuple #[v0_, .int .i64 r2, .agg #[.int .i64 r3, .int .i64 r4]]) ∧ Kd.R k47 47 w' w.heap.size (fun _ => True) v0_ r1 ∧ Below w.heap.size w w' := by
 have hu27 := Tryd.underlying32
 unfold expr_Parse.f at h
 have hB := Aside0.mk (below_alloc (Below.refl w.heap.size w) (.cells #[.int .i64 0, .int .i64 0] 32))
 have b0 := blk_new w (.cells #[.int .i64 0, .int .i64 0] 32)
 by_cases c1 : a1 < 0 ∨ (a0.length : Int) < a1
 ·rw [if_pos c1] at h
  simp only [Option.some.injEq, Prod.mk.injEq] at h
  obtain ⟨rfl, rfl, rfl, rfl⟩ := h
  have hX := Aside0.mk b0
  by_cases c2 : a1 < 0
  ·have c2b : decide (a1 < 0) = true := decide_eq_true c2
   clear c1 c2 b0
   go_enter Tryd.func21, Tryd.ntmps21
   go_wp2
   refine bodyPost_ret (results_list (rs := [.tmp 4, .tmp 5, .cell 6 32]) rfl (by simp) (.tmp (.tmp (.cell w.heap.size 32 #[.int .i64 2, .int .i64 0] (0, 0) _ rfl (blk_new w _) hu27 rfl (by kernel_rfl) .nil)))) rfl ?_
   exact ⟨_, by rfl, Kd.R_nil _ _ _ _ _, below_alloc (Below.refl w.heap.size w) _⟩
  ·have c3 : (a0.length : Int) < a1 := by omega
   have c2b : decide (a1 < 0) = false := decide_eq_false c2
   have c3b : decide ((a0.length : Int) < a1) = true := decide_eq_true c3
   clear c1 c2 b0 c3
   go_enter Tryd.func21, Tryd.ntmps21
   go_wp2
   refine bodyPost_ret (results_list (rs := [.tmp 4, .tmp 5, .cell 6 32]) rfl (by simp) (.tmp (.tmp (.cell w.heap.size 32 #[.int .i64 2, .int .i64 0] (0, 0) _ rfl (blk_new w _) hu27 rfl (by kernel_rfl) .nil)))) rfl ?_
   exact ⟨_, by rfl, Kd.R_nil _ _ _ _ _, below_alloc (Below.refl w.heap.size w) _⟩
 ·rw [if_neg c1] at h
  obtain ⟨q, hq, h⟩ := Option.bind_eq_some_iff.1 h
  have c2b : decide (a1 < 0) = false := decide_eq_false (by omega)
  have c3b : decide ((a0.length : Int) < a1) = false := decide_eq_false (by omega)
  have b1 := blk_alloc b0 (.cells #[.slice A0 a0.length c0, .int .i64 a1, .int .i64 0, .slice none 0 0, .int .i64 0, .int .i64 0] 73)
  have b2 := blk_new (w.alloc (.cells #[.int .i64 0, .int .i64 0] 32)) (.cells #[.slice A0 a0.length c0, .int .i64 a1, .int .i64 0, .slice none 0 0, .int .i64 0, .int .i64 0] 73)
  have hgs : (w.alloc (.cells #[.int .i64 0, .int .i64 0] 32)).heap.size = w.heap.size + 1 := Array.size_push _
  rw [hgs] at b2
  have hR : RD w ((w.alloc (.cells #[.int .i64 0, .int .i64 0] 32)).alloc (.cells #[.slice A0 a0.length c0, .int .i64 a1, .int .i64 0, .slice none 0 0, .int .i64 0, .int .i64 0] 73)) (w.heap.size + 1) A0 c0 a0 ⟨a1, 0, [], 0, 0⟩ (.slice none 0 0) :=
   ⟨b2, by omega, Kd.R_nil _ _ _ _ _, below_alloc hB.out _⟩
  have hbg : w.heap.size ≠ (w.heap.size + 1) := by omega
  have hcl := (rd_all w (w.heap.size + 1) A0 c0 a0 hr0 k k).2 _ _ _ 0 q hR hq
  have HCL := Aside0.mk hcl
  have HX := Aside0.mk b1
  have hbn : some w.heap.size ≠ (Value.slice none 0 0).ownBlock := by simp [Value.ownBlock]
  have HBN := Aside0.mk hbn
  clear hR hcl b0 b1 b2 hq hgs c1 hbn
  unfold RDoes at HCL
  have HBG := Aside0.mk hbg
  clear hbg
  by_cases c4 : q.2.e = 0
  ·rw [if_pos c4] at h
   simp only [Option.some.injEq, Prod.mk.injEq] at h
   obtain ⟨rfl, rfl, rfl, rfl⟩ := h
   have c4b : (q.2.e == 0) = true := by simp [c4]
   clear c4
   go_enter Tryd.func21, Tryd.ntmps21
   go_wp2_with (first | (go_at_call 39; refine (HCL.out).mono ?_; rintro e w1 ⟨v1, rfl, hd, hk⟩; have H1 := Aside0.mk hd; have X1 := Aside0.mk (hk.1.blk HX.out HBG.out HBN.out); clear hd hk) | (go_at_call 40; refine (rd_ok w _ _ A0 c0 a0 q.2 v1 H1.out).mono ?_; rintro e w2 ⟨rfl, hd⟩; have H2 := Aside0.mk (H1.out.drawn hd); have X2 := Aside0.mk (drawn_heap hd X1.out); clear hd; obtain ⟨k0, k1, k2, k3, k4, k5⟩ := H2.out.cell; have y0 : w2.cell? ⟨w.heap.size, 0, none⟩ = some (.int .i64 0) := (blk_cell X2.out 0).trans rfl; have y1 : w2.cell? ⟨w.heap.size, 1, none⟩ = some (.int .i64 0) := (blk_cell X2.out 1).trans rfl; have x0 := blk_frozen X2.out 0; have x1 := blk_frozen X2.out 1))
   go_region
   all_goals go_wp2
   all_goals (refine bodyPost_ret (results_list (rs := [.tmp 4, .tmp 5, .cell 6 32]) rfl (by simp) (.tmp (.tmp (.cell w.heap.size 32 #[.int .i64 0, .int .i64 0] (0, 0) _ rfl (by refine blk_put (cs := #[.int .i64 0, .int .i64 0]) ?_ 1 _ rfl; refine blk_put (cs := #[.int .i64 0, .int .i64 0]) ?_ 0 _ rfl; exact X2.out) hu27 rfl (by kernel_rfl) .nil)))) rfl ?_)
   all_goals exact ⟨_, by rfl, Kd.R_set (Kd.R_set (Kd.R_drewN H2.out.2.2.1 _) X2.out (by decide) 0 _) (blk_set X2.out 0 _) (by decide) 1 _, below_set (below_set (pw_below_drewN H2.out.2.2.2 _) (Nat.le_refl _)) (Nat.le_refl _)⟩
  ·rw [if_neg c4] at h
   simp only [Option.some.injEq, Prod.mk.injEq] at h
   obtain ⟨rfl, rfl, rfl, rfl⟩ := h
   have c4b : (q.2.e == 0) = false := by simp [c4]
   clear c4
   go_enter Tryd.func21, Tryd.ntmps21
   go_wp2_with (first | (go_at_call 39; refine (HCL.out).mono ?_; rintro e w1 ⟨v1, rfl, hd, hk⟩; have H1 := Aside0.mk hd; have X1 := Aside0.mk (hk.1.blk HX.out HBG.out HBN.out); clear hd hk) | (go_at_call 40; refine (rd_ok w _ _ A0 c0 a0 q.2 v1 H1.out).mono ?_; rintro e w2 ⟨rfl, hd⟩; have H2 := Aside0.mk (H1.out.drawn hd); have X2 := Aside0.mk (drawn_heap hd X1.out); clear hd; obtain ⟨k0, k1, k2, k3, k4, k5⟩ := H2.out.cell; have y0 : w2.cell? ⟨w.heap.size, 0, none⟩ = some (.int .i64 0) := (blk_cell X2.out 0).trans rfl; have y1 : w2.cell? ⟨w.heap.size, 1, none⟩ = some (.int .i64 0) := (blk_cell X2.out 1).trans rfl; have x0 := blk_frozen X2.out 0; have x1 := blk_frozen X2.out 1))
   go_region
   all_goals go_wp2
   all_goals (refine bodyPost_ret (results_list (rs := [.tmp 4, .tmp 5, .cell 6 32]) rfl (by simp) (.tmp (.tmp (.cell w.heap.size 32 #[.int .i64 q.2.e, .int .i64 q.2.ea] (0, 0) _ rfl (by refine blk_put (cs := #[.int .i64 q.2.e, .int .i64 0]) ?_ 1 _ rfl; refine blk_put (cs := #[.int .i64 0, .int .i64 0]) ?_ 0 _ rfl; exact X2.out) hu27 rfl (by kernel_rfl) .nil)))) rfl ?_)
   all_goals exact ⟨_, by rfl, Kd.R_nil _ _ _ _ _, below_set (below_set (pw_below_drewN H2.out.2.2.2 _) (Nat.le_refl _)) (Nat.le_refl _)⟩
section
variable {toks : List S37} {self self' : RM → RSt → Option (Int × RSt)}
theorem withinR_mono {f f' : RSt → Option (Int × RSt)} (h : ∀ s, LeO (f s) (f' s)) (s : RSt) : LeO (withinR f s) (withinR f' s) := by
 unfold withinR
 repeat' first
  | exact LeO.refl _
  | exact h _
  | refine LeO.ite ?_ ?_
  | refine LeO.bind ?_ (fun _ => ?_)
theorem add2R_mono (h : ∀ m s, LeO (self m s) (self' m s)) (op a : Int) (s : RSt) : LeO (add2R self op a s) (add2R self' op a s) := by
 unfold add2R
 exact LeO.bind (withinR_mono (h .one) s) (fun _ => LeO.refl _)
theorem parR_mono (h : ∀ m s, LeO (self m s) (self' m s)) (s : RSt) : LeO (parR toks self s) (parR toks self' s) := by
 unfold parR
 exact LeO.bind (h _ _) (fun _ => LeO.refl _)
theorem signOneR_mono (h : ∀ m s, LeO (self m s) (self' m s)) (s : RSt) : LeO (signOneR toks self s) (signOneR toks self' s) := by
 unfold signOneR
 repeat' first
  | exact LeO.refl _
  | exact withinR_mono (h .one) _
  | exact withinR_mono (parR_mono h) _
  | exact add2R_mono h _ _ _
  | refine LeO.ite ?_ ?_
theorem oneR_mono (K : Nat) (h : ∀ m s, LeO (self m s) (self' m s)) (s : RSt) : LeO (oneR K toks self s) (oneR (K + 1) toks self' s) := by
 unfold oneR
 repeat' first
  | exact LeO.refl _
  | exact token_Name.mono _ _
  | exact signOneR_mono h _
  | refine LeO.ite ?_ ?_
  | refine LeO.bind ?_ (fun _ => ?_)
theorem rdR_mono (K : Nat) : ∀ k m s, LeO (rdR K toks k m s) (rdR (K + 1) toks (k + 1) m s)
 | 0, _, _ => fun r h => by simp [rdR] at h
 | k + 1, .one, s => oneR_mono K (rdR_mono K k) s
 | k + 1, .climb least, s => by
  simp only [rdR]
  exact LeO.bind (rdR_mono K k _ _) (fun _ => rdR_mono K k _ _)
 | k + 1, .loop least n, s => by
  rw [rdR, rdR]
  repeat' first
   | exact LeO.refl _
   | exact rdR_mono K k _ _
   | refine LeO.ite ?_ ?_
   | refine LeO.bind ?_ (fun _ => ?_)
end
theorem expr_Parse.mono : ∀ a0 a1 k, LeO (expr_Parse.f k a0 a1) (expr_Parse.f (k + 1) a0 a1) := by
 intro a0 a1 k
 unfold expr_Parse.f
 exact LeO.ite (LeO.refl _) (LeO.bind (rdR_mono k k _ _) (fun _ => LeO.refl _))

end Go.Proofs.YtjabjooephellaaDoor.XE
