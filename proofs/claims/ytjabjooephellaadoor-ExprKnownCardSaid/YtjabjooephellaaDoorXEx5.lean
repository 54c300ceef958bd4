-- PRINTED by print.py (a twelfth state) out of the translation. Not trusted: Lean checks it.
import Derived.Test.YtjabjooephellaaDoorXEx0
import Derived.Test.YtjabjooephellaaDoorXEx3
import Derived.Test.YtjabjooephellaaDoorXEx4
namespace Go.Proofs.YtjabjooephellaaDoor.XE
open Go.RowKit Go.Proofs.YtjabjooephellaaDoorW.PrintWords Go.Proofs.YtjabjooephellaaDoorW.PrintLast Go.Proofs.YtjabjooephellaaDoorW.PrintMore
attribute [local go_sem] max2_int min2_int max_two min_two max_three min_three max_four min_four   -- for this text's walks alone
set_option linter.unusedVariables false
set_option linter.unusedSimpArgs false

/-! ### strconv_FormatUint_49: function 49 -/
/-- What the table of math/bits holds (the variable's block), in a world: of bytes, by their places. -/
def TabAt (w : World) : Prop := 3 < w.heap.size ∧ w.cell? ⟨3, 15, none⟩ = some (.int .u8 4)
theorem tab_below {w w' : World} (h : TabAt w) (hb : Below w.heap.size w w') : TabAt w' :=
 ⟨Nat.lt_of_lt_of_le h.1 hb.size, (hb.cell (p := ⟨3, 15, none⟩) h.1).trans h.2⟩
theorem bits_tz (w : World) (hT : TabAt w) : Calls Tryd.prog 108 #[.int .u64 16] w fun e w' => e = .returned (.int .i64 4) ∧ w' = w := by
 have hc := hT.2
 have e1 : IntKind.u64.wrap (-16) = 18446744073709551600 := by decide +kernel
 have e2 : bits .and .u64 16 18446744073709551600 = 16 := by decide +kernel
 have e3 : IntKind.u64.wrap (16 * 285870213051353865) = 4573923408821661840 := by decide +kernel
 have e4 : (4573923408821661840 : Int) / 2 ^ 58 = 15 := by decide +kernel
 go_enter Tryd.func108, Tryd.ntmps108
 go_wp2
 go_ret
 exact ⟨rfl, rfl⟩
theorem bits_tzu (w : World) (hT : TabAt w) : Calls Tryd.prog 103 #[.int .u64 16] w fun e w' => e = .returned (.int .i64 4) ∧ Drawn0 w w' := by
 go_enter Tryd.func103, Tryd.ntmps103
 go_wp2_with (go_at_call 108; refine (bits_tz w hT).mono ?_; rintro e w' ⟨rfl, rfl⟩)
 go_ret
 exact ⟨rfl, Drawn0.refl _⟩
theorem pow_two (w : World) : Calls Tryd.prog 102 #[.int .i64 16] w fun e w' => e = .returned (.bool true) ∧ w' = w := by
 have e1 : bits .and .i64 16 15 = 0 := by decide +kernel
 go_enter Tryd.func102, Tryd.ntmps102
 go_wp2
 go_ret
 exact ⟨rfl, rfl⟩
/-- The block of the digits: 65 bytes. -/
def HX (w : World) (b : Nat) (v : List Int) : Prop := w.heap[b]? = some (.cells (v.map (Value.int .u8)).toArray 133 (0, 0)) ∧ v.length = 65
section
variable {w w1 : World} {b : Nat} {v : List Int}
theorem HX.lt (h : HX w b v) : b < w.heap.size := blk_lt h.1
theorem HX.below (h : HX w b v) (hb : Below w.heap.size w w1) : HX w1 b v := ⟨(hb.block _ h.lt).trans h.1, h.2⟩
theorem HX.cell (h : HX w b v) (i : Nat) (h1 : i < 65) : w.cell? ⟨b, i, none⟩ = some (.int .u8 (v.getD i 0)) := by
 refine (blk_cell h.1 i).trans ?_
 have hl : i < v.length := by rw [h.2]; omega
 simp [List.getElem?_eq_getElem hl, List.getD]
theorem HX.free (h : HX w b v) (i : Nat) : w.frozen? ⟨b, i, none⟩ = false := blk_frozen h.1 i
theorem HX.set (h : HX w b v) (i : Nat) (x : Int) : HX (w.setCell ⟨b, i, none⟩ (.int .u8 x)) b (v.set i x) := by
 refine ⟨?_, by rw [List.length_set]; exact h.2⟩
 have z := blk_set h.1 i (.int .u8 x)
 rw [z]
 simp [List.map_set]
end
def hxD : ByteArray := ⟨#[48, 49, 50, 51, 52, 53, 54, 55, 56, 57, 97, 98, 99, 100, 101, 102, 103, 104, 105, 106, 107, 108, 109, 110, 111, 112, 113, 114, 115, 116, 117, 118, 119, 120, 121, 122]⟩
def hexL : Nat → Int → List Int → List Int
 | 0, _, acc => acc
 | k + 1, u, acc => if 16 ≤ u then hexL k (u / 16) (bt hxD (u % 16) :: acc) else bt hxD u :: acc
theorem u64_and15 (x : Int) (h₀ : 0 ≤ x) (h₁ : x < 18446744073709551616) : bits .and .u64 x 15 = x % 16 := bits_mask .u64 64 (by decide) (fun n h0 h1 => by rw [IntKind.wrap_u64]; omega) 4 (by decide) x h₀ h₁
theorem hx_step (x : Int) (k : Nat) (h0 : 16 ≤ x) (h1 : x < 16 ^ (k + 1)) : x / 16 < 16 ^ k ∧ 1 ≤ k := by
 refine ⟨?_, ?_⟩
 ·rw [Int.pow_succ] at h1
  exact Int.ediv_lt_of_lt_mul (by decide) h1
 ·rcases k with _ | k
  ·simp at h1; omega
  ·omega
theorem hx_set (n : Nat) (acc : List Int) (x : Int) (h : n + 1 + acc.length = 65) : (List.replicate (n + 1) 0 ++ acc).set n x = List.replicate n 0 ++ x :: acc := by
 rw [List.replicate_succ', List.append_assoc, List.set_append_right _ _ (by simp)]
 simp
theorem pow16_le (k : Nat) (h : k ≤ 16) : (16 : Int) ^ k ≤ 18446744073709551616 := by
 have hc : k = 0 ∨ k = 1 ∨ k = 2 ∨ k = 3 ∨ k = 4 ∨ k = 5 ∨ k = 6 ∨ k = 7 ∨ k = 8 ∨ k = 9 ∨ k = 10 ∨ k = 11 ∨ k = 12 ∨ k = 13 ∨ k = 14 ∨ k = 15 ∨ k = 16 := by omega
 rcases hc with rfl | rfl | rfl | rfl | rfl | rfl | rfl | rfl | rfl | rfl | rfl | rfl | rfl | rfl | rfl | rfl | rfl <;> decide
theorem hx_slice (bb n : Nat) (hn : n < 65) (w : World) : (Instr.sliceAt 133 (.pointer (some ⟨bb, 0, none⟩)) (some (.int .i64 (n : Int))) none none).run Tryd.prog w = .ok (.slice (some ⟨bb, n, none⟩) (65 - n) (65 - n)) w := by
 have ha : Tryd.prog.arrayLen 133 = 65 := by kernel_rfl
 have he : Tryd.prog.elem 133 = 5 := by kernel_rfl
 have hu : Tryd.prog.underlying 133 = some (.array (Tryd.prog.arrayLen 133) (Tryd.prog.elem 133)) := by kernel_rfl
 have hs : ∀ w, (sizeOf 5).run Tryd.prog w = .ok 1 w := fun _ => by kernel_rfl
 rw [run_sliceAt_array_l (P := Tryd.prog) w 133 ⟨bb, 0, none⟩ hu .i64 (n : Int) (by omega) (by rw [ha]; omega), ha, he, hs]
 unfold slicedAt
 simp only [Int.toNat_natCast, Result.andThen]
 rw [if_neg (by omega)]
 have e2 : (⟨bb, 0, none⟩ : Addr).add (n * 1) = ⟨bb, n, none⟩ := by cases n <;> simp [Addr.add]
 rw [e2]
theorem hx_conv (w : World) (bb n : Nat) (ds : List Int) (hn : n + ds.length = 65) (h : HX w bb (List.replicate n 0 ++ ds)) : (convert 55 9 (.slice (some ⟨bb, n, none⟩) (65 - n) (65 - n))).run Tryd.prog w = .ok (.string (strOfNums ds)) w := by
 refine run_convert_bytes_arg w 55 5 Tryd.underlying55 Tryd.underlying5 bb n (65 - n) (65 - n) ds (by omega) (fun i hi => ?_) 9 Tryd.underlying9
 rw [h.cell (n + i) (by omega)]
 congr 2
 simp only [List.getD_eq_getElem?_getD]
 rw [List.getElem?_append_right (by simp)]
 simp
set_option maxHeartbeats 4000000 in
set_option maxRecDepth 100000 in
theorem hex_bits (u : Int) (h0 : 0 ≤ u) (h1 : u < 18446744073709551616) (w : World) (hT : TabAt w) :
  Calls Tryd.prog 90 #[.slice none 0 0, .int .u64 u, .int .i64 16, .bool false, .bool false] w fun e w' => e = .returned (.tuple #[.slice none 0 0, .string (strOfNums (hexL 16 u []))]) ∧ Below w.heap.size w w' := by
 have hu133 := Tryd.underlying133
 have HT := Aside0.mk hT
 have HU1 := Aside0.mk h1
 clear hT h1
 go_enter Tryd.func90, Tryd.ntmps90
 go_wp2_with (first | ((with_reducible refine gate_dst (N := 12) rfl ?_); refine box_event ?hg (N := 12) ?hd (cs := ((List.replicate 65 0).map (Value.int .u8)).toArray) (t := 133) ?hr ?_; (case hd => rfl); (case hg => rfl); (case hr => kernel_rfl); intro bb hg w2 hbox hb; have B2 := Aside0.mk hb; have GE := Aside0.mk (show w.heap.size ≤ bb from by rw [hg]; exact Nat.le_refl _); have E2 : Aside0 (HX w2 bb (List.replicate 65 0)) := ⟨⟨hbox, List.length_replicate⟩⟩; clear hg hbox hb) | (go_at_call 102; refine (pow_two _).mono ?_; rintro e w' ⟨rfl, rfl⟩) | (go_at_call 103; refine (bits_tzu _ (tab_below HT.out B2.out)).mono ?_; rintro e w' ⟨rfl, ⟨nd, rfl⟩⟩))
 go_loopg [1, 13] 16 (fun kq v1 v13 w' => ∃ (x : Int) (ds : List Int) (m : Nat), v1 = .int .u64 x ∧ v13 = .int .i64 (m : Int) ∧ Aside0 (hexL kq x ds = hexL 16 u []) ∧ 0 ≤ x ∧ Aside0 (x < 16 ^ kq) ∧ 1 ≤ kq ∧ kq + ds.length ≤ 16 ∧ m + ds.length = 65 ∧ Aside0 (HX w' bb (List.replicate m 0 ++ ds)) ∧ Aside0 (Below w.heap.size w w'))
 case atStart => exact ⟨u, [], 65, rfl, rfl, ⟨rfl⟩, h0, HU1, by decide, by decide, by decide, ⟨by rw [List.append_nil]; exact E2.out⟩, ⟨by repeat (first | exact B2.out | apply pw_below_drewN)⟩⟩
 case round =>
  clear E2 B2
  try clear p2
  obtain ⟨x, ds, m, rfl, rfl, HA, hx0, HX1, hk1, hkl, hml, HE, HB⟩ := hrel
  obtain ⟨n, rfl⟩ : ∃ n, m = n + 1 := ⟨m - 1, by omega⟩
  cases gk with
  | zero => omega
  | succ k1 =>
   have hA := HA.out
   clear HA
   rw [hexL] at hA
   have hx64 : x < 18446744073709551616 := by
    exact Int.lt_of_lt_of_le HX1.out (pow16_le (k1 + 1) (by omega))
   have hw : IntKind.i64.wrap (((n + 1 : Nat) : Int) - 1) = (n : Int) := by rw [i64_w]; unfold Go.RowKit.wrap64; omega
   have hq := eq_true (show (0 : Int) ≤ (n : Int) by omega)
   have hq2 := eq_true (show (n : Int) < 65 by omega)
   have hfr := HE.out.free n
   have hce := HE.out.cell n (by omega)
   by_cases c1 : 16 ≤ x
   ·rw [if_pos c1] at hA
    have c1b : decide (16 ≤ x) = true := decide_eq_true c1
    have hst := hx_step x k1 c1 HX1.out
    have hand := u64_and15 x hx0 hx64
    have HA := Aside0.mk hA
    have HX2 := Aside0.mk hst.1
    have hk2 := hst.2
    clear hA hst c1 HX1 hx64
    have hm0 := Int.emod_nonneg x (show (16 : Int) ≠ 0 by decide)
    have hm1 := Int.emod_lt_of_pos x (show (0 : Int) < 16 by decide)
    have hat : ∀ h : (x % 16).toNat < (⟨#[48, 49, 50, 51, 52, 53, 54, 55, 56, 57, 97, 98, 99, 100, 101, 102, 103, 104, 105, 106, 107, 108, 109, 110, 111, 112, 113, 114, 115, 116, 117, 118, 119, 120, 121, 122]⟩ : ByteArray).size, (((⟨#[48, 49, 50, 51, 52, 53, 54, 55, 56, 57, 97, 98, 99, 100, 101, 102, 103, 104, 105, 106, 107, 108, 109, 110, 111, 112, 113, 114, 115, 116, 117, 118, 119, 120, 121, 122]⟩ : ByteArray)[(x % 16).toNat]'h).toNat : Int) = bt hxD (x % 16) := bt_at hxD (x % 16)
    have hr0 := eq_true hm0
    have hr1 := eq_true (show x % 16 < 36 by omega)
    go_wp2_with fail
    go_roundg k1
    case measure => omega
    case rel => exact ⟨x / 16, bt hxD (x % 16) :: ds, n, rfl, rfl, HA, by omega, HX2, hk2, by rw [List.length_cons]; omega, by rw [List.length_cons]; omega, ⟨by have z := HE.out.set n (bt hxD (x % 16)); rw [hx_set n ds _ (by omega)] at z; exact z⟩, ⟨below_set HB.out GE.out⟩⟩
   ·rw [if_neg c1] at hA
    have c1b : decide (16 ≤ x) = false := decide_eq_false c1
    have hat : ∀ h : x.toNat < (⟨#[48, 49, 50, 51, 52, 53, 54, 55, 56, 57, 97, 98, 99, 100, 101, 102, 103, 104, 105, 106, 107, 108, 109, 110, 111, 112, 113, 114, 115, 116, 117, 118, 119, 120, 121, 122]⟩ : ByteArray).size, (((⟨#[48, 49, 50, 51, 52, 53, 54, 55, 56, 57, 97, 98, 99, 100, 101, 102, 103, 104, 105, 106, 107, 108, 109, 110, 111, 112, 113, 114, 115, 116, 117, 118, 119, 120, 121, 122]⟩ : ByteArray)[x.toNat]'h).toNat : Int) = bt hxD x := bt_at hxD x
    have hr1 := eq_true (show x < 36 by omega)
    have hsl := hx_slice bb n (by omega)
    have hcv := hx_conv _ bb n (bt hxD x :: ds) (by simp; omega) (by have z := HE.out.set n (bt hxD x); rw [hx_set n ds _ (by omega)] at z; exact z)
    go_wp2_with fail
    refine bodyPost_ret (results_list (rs := [.tmp 10, .tmp 11]) rfl (by simp) (.tmp (.tmp .nil))) rfl ?_
    exact ⟨by rw [← hA]; rfl, below_set HB.out GE.out⟩
def hexU (u : Int) : ByteArray := strOfNums (hexL 16 u [])
theorem hexL_size : ∀ (k : Nat) (u : Int) (acc : List Int), (hexL k u acc).length ≤ k + acc.length := by
 intro k
 induction k with
 | zero => intro u acc; simp [hexL]
 | succ k ih =>
  intro u acc
  rw [hexL]
  split
  ·refine Nat.le_trans (ih _ _) ?_
   rw [List.length_cons]; omega
  ·rw [List.length_cons]; omega
theorem hexU_size (u : Int) : (hexU u).size ≤ 16 := by
 unfold hexU
 rw [strOfNums_size]
 exact Nat.le_trans (hexL_size 16 u []) (by simp)
theorem hex_69 (u : Int) (h0 : 0 ≤ u) (h1 : u < 18446744073709551616) (w : World) (hT : TabAt w) :
  Calls Tryd.prog 69 #[.int .u64 u, .int .i64 16] w fun e w' => e = .returned (.string (hexU u)) ∧ Below w.heap.size w w' := by
 have H := hex_bits u h0 h1 w hT
 unfold hexU
 generalize strOfNums (hexL 16 u []) = s at H
 have HH := Aside0.mk H
 clear H
 go_enter Tryd.func69, Tryd.ntmps69
 go_wp2_with (go_at_call 90; refine (HH.out).mono ?_; rintro e w1 ⟨rfl, hb⟩; have B1 := Aside0.mk hb; clear hb)
 go_ret
 exact ⟨rfl, by repeat (first | exact B1.out | apply pw_below_drewN)⟩
def strconv_FormatUint.f (a0 : Int) (a1 : Int) : Option ByteArray := if a1 = 16 ∧ 0 ≤ a0 ∧ a0 < 18446744073709551616 then some (hexU a0) else none
theorem strconv_FormatUint.calls (a0 a1 : Int) (r : ByteArray) (w : World) (hT : TabAt w) (h : strconv_FormatUint.f a0 a1 = some r) :
  Calls Tryd.prog 49 #[.int .u64 a0, .int .i64 a1] w fun e w' => e = .returned (.string r) ∧ Below w.heap.size w w' := by
 unfold strconv_FormatUint.f at h
 by_cases c : a1 = 16 ∧ 0 ≤ a0 ∧ a0 < 18446744073709551616
 ·rw [if_pos c] at h
  obtain ⟨rfl, h0, h1⟩ := c
  obtain rfl := Option.some.inj h
  have H := hex_69 a0 h0 h1 w hT
  generalize hexU a0 = s at H
  have HH := Aside0.mk H
  clear H h h0 h1
  go_enter Tryd.func49, Tryd.ntmps49
  go_wp2_with (go_at_call 69; refine (HH.out).mono ?_; rintro e w1 ⟨rfl, hb⟩; have B1 := Aside0.mk hb; clear hb)
  go_ret
  exact ⟨rfl, by repeat (first | exact B1.out | apply pw_below_drewN)⟩
 ·rw [if_neg c] at h
  exact absurd h (by simp)

/-! ### token_word: function 30 -/
def token_word.f (a0 a1 : Int) (a2 : ByteArray) (a3 : Int) : Option ByteArray :=
 if a2.size ≤ 1000000000 then some (if a0 = 2 then (⟨#[48, 120]⟩ : ByteArray) ++ hexU (IntKind.u64.wrap a1) else if a0 = 3 then (⟨#[34]⟩ : ByteArray) ++ a2 ++ (⟨#[34]⟩ : ByteArray) else a2) else none
set_option maxHeartbeats 4000000 in
set_option maxRecDepth 100000 in
theorem token_word.calls (a0 a1 : Int) (a2 : ByteArray) (a3 : Int) (r : ByteArray) (w : World) (hT : TabAt w) (h : token_word.f a0 a1 a2 a3 = some r) :
  Calls Tryd.prog 30 #[.agg #[.int .i64 a0, .int .i64 a1, .string a2, .int .i64 a3]] w fun e w' => e = .returned (.string r) ∧ Below w.heap.size w w' := by
 have hu := Tryd.underlying37
 unfold token_word.f at h
 by_cases hs : a2.size ≤ 1000000000
 case neg => rw [if_neg hs] at h; exact absurd h (by simp)
 rw [if_pos hs] at h
 obtain rfl := Option.some.inj h
 have HT := Aside0.mk hT
 clear h hT
 by_cases c1 : a0 = 2
 ·subst c1
  rw [if_pos rfl]
  have h0 : 0 ≤ IntKind.u64.wrap a1 := by rw [IntKind.wrap_u64]; omega
  have h1 : IntKind.u64.wrap a1 < 18446744073709551616 := by rw [IntKind.wrap_u64]; omega
  have hF : strconv_FormatUint.f (IntKind.u64.wrap a1) 16 = some (hexU (IntKind.u64.wrap a1)) := by unfold strconv_FormatUint.f; rw [if_pos ⟨rfl, h0, h1⟩]
  have hz := hexU_size (IntKind.u64.wrap a1)
  generalize hexU (IntKind.u64.wrap a1) = s at hF hz
  have HF := Aside0.mk hF
  have hcat : (9223372036854775807 < 2 + s.size) = False := eq_false (by omega)
  clear hF h0 h1 hz hs
  go_enter Tryd.func30, Tryd.ntmps30
  go_wp2_with (first | ((with_reducible refine gate_dst (N := 1) rfl ?_); refine box_event ?hg (N := 1) ?hd (cs := #[.int .i64 2, .int .i64 a1, .string a2, .int .i64 a3]) (t := 37) ?hr ?_; (case hd => rfl); (case hg => rfl); (case hr => first | (go_simp; done) | (go_simp; rfl)); intro gb hg w5 hbox hb; have B1 := Aside0.mk hb; have q0 := (blk_cell hbox 0).trans rfl; have q1 := (blk_cell hbox 1).trans rfl; have q2 := (blk_cell hbox 2).trans rfl; clear hb hbox hg) | (go_at_call 49; (refine (strconv_FormatUint.calls _ _ _ _ ?sideT HF.out).mono ?_); (case sideT => exact tab_below HT.out B1.out); rintro e w6 ⟨rfl, hb⟩; have B2 := Aside0.mk (below_step B1.out hb); clear hb))
  go_ret
  exact ⟨rfl, by repeat (first | exact B2.out | apply pw_below_drewN)⟩
 ·rw [if_neg c1]
  have c1b : (a0 == 2) = false := by simp [c1]
  by_cases c2 : a0 = 3
  ·subst c2
   rw [if_pos rfl]
   have hcat : (9223372036854775807 < 1 + a2.size) = False := eq_false (by omega)
   have hcat2 : (9223372036854775807 < 1 + a2.size + 1) = False := eq_false (by omega)
   clear hs c1
   go_enter Tryd.func30, Tryd.ntmps30
   go_wp2_with (first | ((with_reducible refine gate_dst (N := 1) rfl ?_); refine box_event ?hg (N := 1) ?hd (cs := #[.int .i64 3, .int .i64 a1, .string a2, .int .i64 a3]) (t := 37) ?hr ?_; (case hd => rfl); (case hg => rfl); (case hr => first | (go_simp; done) | (go_simp; rfl)); intro gb hg w5 hbox hb; have B1 := Aside0.mk hb; have q0 := (blk_cell hbox 0).trans rfl; have q1 := (blk_cell hbox 1).trans rfl; have q2 := (blk_cell hbox 2).trans rfl; clear hb hbox hg))
   go_ret
   exact ⟨rfl, by repeat (first | exact B1.out | apply pw_below_drewN)⟩
  ·rw [if_neg c2]
   have c2b : (a0 == 3) = false := by simp [c2]
   clear hs c1 c2
   go_enter Tryd.func30, Tryd.ntmps30
   go_wp2_with (first | ((with_reducible refine gate_dst (N := 1) rfl ?_); refine box_event ?hg (N := 1) ?hd (cs := #[.int .i64 a0, .int .i64 a1, .string a2, .int .i64 a3]) (t := 37) ?hr ?_; (case hd => rfl); (case hg => rfl); (case hr => first | (go_simp; done) | (go_simp; rfl)); intro gb hg w5 hbox hb; have B1 := Aside0.mk hb; have q0 := (blk_cell hbox 0).trans rfl; have q1 := (blk_cell hbox 1).trans rfl; have q2 := (blk_cell hbox 2).trans rfl; clear hb hbox hg))
   go_ret
   exact ⟨rfl, by repeat (first | exact B1.out | apply pw_below_drewN)⟩

/-! ### token_Join: function 9 -/
theorem bld_size : (Tryd.prog.info? 57).map (·.size) = some 2 := by kernel_rfl
theorem bld_lies : liesAt Tryd.prog Tryd.prog.depth 57 (2 / Tryd.prog.cellsOf 57) 0 57 1 = true := by kernel_rfl
theorem bld_byte : (Tryd.prog.info? 5).map (fun i => (i.zero, i.size, i.bytes)) = some (some (.int .u8 0), 1, 1) := by kernel_rfl
set_option maxHeartbeats 1000000 in
set_option maxRecDepth 100000 in
theorem bld_check_used (b : Nat) (w : World) (h0 : w.cell? ⟨b, 0, none⟩ = some (.pointer (some ⟨b, 0, none⟩))) :
  Calls Tryd.prog 48 #[.pointer (some ⟨b, 0, none⟩)] w fun e w' => e = .returned (.tuple #[]) ∧ w' = w := by
 obtain ⟨j, hj, _⟩ := Option.map_eq_some_iff.1 bld_size
 go_enter Tryd.func48, Tryd.ntmps48
 go_wp2
 rw [Lib.run_neq_ptr_same w _ Tryd.underlying54 hj]
 go_wp2
 go_end0
 exact ⟨rfl, rfl⟩
set_option maxHeartbeats 1000000 in
set_option maxRecDepth 100000 in
theorem bld_check_fresh (b : Nat) (w : World) (h0 : w.cell? ⟨b, 0, none⟩ = some (.pointer none)) (hsh : w.shape? b = some (57, 2)) (hfz : w.frozen? ⟨b, 0, none⟩ = false) :
  Calls Tryd.prog 48 #[.pointer (some ⟨b, 0, none⟩)] w fun e w' => e = .returned (.tuple #[]) ∧ w' = w.setCell ⟨b, 0, none⟩ (.pointer (some ⟨b, 0, none⟩)) := by
 obtain ⟨j, hj, hjs⟩ := Option.map_eq_some_iff.1 bld_size
 go_enter Tryd.func48, Tryd.ntmps48
 go_wp2
 rw [Lib.run_to_unsafe w ⟨b, 0, none⟩ Tryd.underlying54 Tryd.underlying103 hj (by rw [hjs]; decide) hsh (Nat.zero_lt_succ 1)]
 simp only [Result.andThen]
 rw [Oper.upon_value]
 go_wp2
 rw [run_callFunc_extern Tryd.func68 (by kernel_rfl) (by kernel_rfl) (by kernel_rfl) (e := Extern.AbiNoEscape.same) (by kernel_rfl)]
 rw [Lib.run_noEscape]
 simp only [Result.andThen]
 rw [Oper.upon_value]
 go_wp2
 rw [Lib.run_from_unsafe w ⟨b, 0, none⟩ Tryd.underlying103 Tryd.underlying54 hj hsh bld_lies]
 simp only [Result.andThen]
 rw [Oper.upon_value]
 go_wp2
 go_end0
 exact ⟨rfl, rfl⟩
theorem bld_kind {w : World} {B : Nat} {e : TypeId} {v : Value} {n : Nat} {xs : List Value} (h : w.ownsRow B e 1 v n xs) : ∀ g, v.ownBlock = some g → ∃ c fz, w.heap[g]? = some (.cells c e fz) := by
 intro g hg
 rcases h.2 with ⟨rfl, _⟩ | ⟨g', cap, cur, rfl, _, hgg, _⟩
 ·simp [Value.ownBlock] at hg
 ·simp [Value.ownBlock] at hg
  subst hg
  exact ⟨cur, _, hgg⟩
theorem bld_check (B b : Nat) (bs : List Value) (w : World) (h : Lib.IsBuilder 57 5 B b bs w) :
  Calls Tryd.prog 48 #[.pointer (some ⟨b, 0, none⟩)] w fun e w' => e = .returned (.tuple #[]) ∧ (Lib.BuilderAt 57 5 B b (.pointer (some ⟨b, 0, none⟩)) bs w' ∧ Below B w w' ∧ Lib.OthersKept 5 (some b) w w') := by
 rcases h with h | h
 ·refine (bld_check_fresh b w h.cell0 h.shape h.frozen0).mono ?_
  rintro e w' ⟨rfl, rfl⟩
  exact ⟨rfl, h.used _, (Below.refl B w).setCell (p := ⟨b, 0, none⟩) h.1 _, (Lib.OthersKept.refl 5 (some b) w).setCell ⟨b, 0, none⟩ rfl _⟩
 ·refine (bld_check_used b w h.cell0).mono ?_
  rintro e w' ⟨rfl, rfl⟩
  exact ⟨rfl, h, Below.refl B _, Lib.OthersKept.refl _ _ _⟩
set_option maxHeartbeats 2000000 in
set_option maxRecDepth 100000 in
theorem bld_byte_calls (B b : Nat) (bs : List Value) (c : Int) (w : World) (h : Lib.IsBuilder 57 5 B b bs w) (hlen : bs.length + 1 ≤ 140737488355328) (hBw : B ≤ w.heap.size) :
  Calls Tryd.prog 28 #[.pointer (some ⟨b, 0, none⟩), .int .u8 c] w fun e w' => e = .returned .nilIface ∧ (Lib.BuilderAt 57 5 B b (.pointer (some ⟨b, 0, none⟩)) (bs ++ [.int .u8 c]) w' ∧ Below B w w' ∧ Lib.OthersKept 5 (some b) w w') := by
 obtain ⟨i0, hi, hz0, hz1, hz2⟩ := info_parts bld_byte
 go_enter Tryd.func28, Tryd.ntmps28
 go_wp2_with (go_at_call 48; refine (bld_check B b bs _ h).mono ?_)
 rintro e w1 ⟨rfl, h1, hb1, hk1⟩
 obtain ⟨hB, v, hbk, hown, hne⟩ := h1
 have c0 : w1.cell? ⟨b, 0, none⟩ = some (.pointer (some ⟨b, 0, none⟩)) := by rw [Lib.cell_of_heap hbk]; rfl
 have c1 : w1.cell? ⟨b, 1, none⟩ = some v := by rw [Lib.cell_of_heap hbk]; rfl
 go_wp2_with (at_builtin; refine wpList_append_own _ rfl _ _ 55 rfl B 5 i0 (.int .u8 0) 1 1 Tryd.underlying55 hi hz0 hz1 hz2 rfl (by decide) _ _ _ rfl (hown.alloc _) ⟨w1.heap.size, 0, none⟩ 1 1 [.int .u8 c] rfl rfl ?c1 ?c2 ?c3 ?c4 ?c5 ?_)
 case c1 =>
  intro j u hj
  match j, hj with
  | 0, hj => simp at hj; subst hj; simp [Addr.add]
 case c2 => intro u hu; simp at hu; subst hu; rfl
 case c3 => unfold maxLen; omega
 case c4 => omega
 case c5 => have := hb1.size; simp; omega
 intro v' w2 hown' hgrow _
 have hlt : b < w1.heap.size := by
  rcases Nat.lt_or_ge b w1.heap.size with h' | h'
  ·exact h'
  ·simp [Array.getElem?_eq_none h'] at hbk
 have hb2 : w2.heap[b]? = some (.cells #[.pointer (some ⟨b, 0, none⟩), v] 57 (0, 0)) := by
  rw [hgrow.block b (by simp; omega) (fun e => hne e.symm), Lib.alloc_old w1 _ b hlt]
  exact hbk
 have d0 : w2.cell? ⟨b, 0, none⟩ = some (.pointer (some ⟨b, 0, none⟩)) := by rw [Lib.cell_of_heap hb2]; rfl
 have d1 : w2.cell? ⟨b, 1, none⟩ = some v := by rw [Lib.cell_of_heap hb2]; rfl
 have f1 : w2.frozen? ⟨b, 1, none⟩ = false := Lib.frozen_of_heap hb2 1
 obtain ⟨g, cap, rfl⟩ : ∃ g cap, v' = .slice (some ⟨g, 0, none⟩) (bs.length + 1) cap := by
  rcases hown'.2 with ⟨_, h0⟩ | ⟨g, cap, cur, hv, _⟩
  ·omega
  ·exact ⟨g, cap, hv⟩
 have hkind := bld_kind (hown.alloc (.cells #[.int .u8 c] 5))
 go_wp2
 go_ret
 refine ⟨rfl, ?_, ?_, ?_⟩
 ·exact Lib.BuilderAt.put (T := 57) (e := 5) hB hb2 (bs' := bs ++ [.int .u8 c]) (by simpa using hown') (by decide)
 ·exact ((hb1.alloc (by have := hb1.size; omega) _).grown hgrow (by have := hb1.size; simp; omega) (fun k hk => (hown.lt k hk).1)).setCell (p := ⟨b, 1, none⟩) hB _
 ·exact ((hk1.alloc _).grown hgrow hkind).setCell ⟨b, 1, none⟩ rfl _
set_option maxHeartbeats 2000000 in
set_option maxRecDepth 100000 in
theorem bld_str_calls (B b : Nat) (bs : List Value) (s : ByteArray) (w : World) (h : Lib.IsBuilder 57 5 B b bs w) (hlen : bs.length + s.size ≤ 140737488355328) (hBw : B ≤ w.heap.size) :
  Calls Tryd.prog 29 #[.pointer (some ⟨b, 0, none⟩), .string s] w fun e w' => e = .returned (.tuple #[.int .i64 s.size, .nilIface]) ∧ (Lib.BuilderAt 57 5 B b (.pointer (some ⟨b, 0, none⟩)) (bs ++ Lib.strCells s) w' ∧ Below B w w') := by
 obtain ⟨i0, hi, hz0, hz1, hz2⟩ := info_parts bld_byte
 go_enter Tryd.func29, Tryd.ntmps29
 go_wp2_with (go_at_call 48; refine (bld_check B b bs _ h).mono ?_)
 rintro e w1 ⟨rfl, h1, hb1, hk1⟩
 obtain ⟨hB, v, hbk, hown, hne⟩ := h1
 have c0 : w1.cell? ⟨b, 0, none⟩ = some (.pointer (some ⟨b, 0, none⟩)) := by rw [Lib.cell_of_heap hbk]; rfl
 have c1 : w1.cell? ⟨b, 1, none⟩ = some v := by rw [Lib.cell_of_heap hbk]; rfl
 go_wp2_with (at_builtin; refine Lib.wpList_append_own_string _ rfl _ _ 55 9 rfl B 5 i0 Tryd.underlying55 Tryd.underlying9 hi hz0 hz1 hz2 _ _ _ rfl hown s rfl ?c3 ?c4 ?c5 ?_)
 case c3 => unfold maxLen; omega
 case c4 => omega
 case c5 => have := hb1.size; omega
 intro v' w2 hown' hgrow _
 have hlt : b < w1.heap.size := by
  rcases Nat.lt_or_ge b w1.heap.size with h' | h'
  ·exact h'
  ·simp [Array.getElem?_eq_none h'] at hbk
 have hb2 : w2.heap[b]? = some (.cells #[.pointer (some ⟨b, 0, none⟩), v] 57 (0, 0)) := by
  rw [hgrow.block b hlt (fun e => hne e.symm)]
  exact hbk
 have d0 : w2.cell? ⟨b, 0, none⟩ = some (.pointer (some ⟨b, 0, none⟩)) := by rw [Lib.cell_of_heap hb2]; rfl
 have d1 : w2.cell? ⟨b, 1, none⟩ = some v := by rw [Lib.cell_of_heap hb2]; rfl
 have f1 : w2.frozen? ⟨b, 1, none⟩ = false := Lib.frozen_of_heap hb2 1
 obtain ⟨ao, n', cap, rfl⟩ : ∃ ao n' cap, v' = .slice ao n' cap := by
  rcases hown'.2 with ⟨hv, _⟩ | ⟨g, cap, cur, hv, _⟩
  ·exact ⟨_, _, _, hv⟩
  ·exact ⟨_, _, _, hv⟩
 go_wp2
 go_ret2
 refine ⟨rfl, ?_, ?_⟩
 ·exact Lib.BuilderAt.put (T := 57) (e := 5) hB hb2 (bs' := bs ++ Lib.strCells s) (by simpa [Lib.strCells_length] using hown') (by decide)
 ·exact (hb1.grown hgrow (by have := hb1.size; omega) (fun k hk => (hown.lt k hk).1)).setCell (p := ⟨b, 1, none⟩) hB _
def joinM (k : Nat) (l0 : List S37) : Nat → Int → Option Bool
 | 0, _ => none
 | q + 1, i => if i < (l0.length : Int) then ((token_may.f k (rd_T37 l0 i).f0 (rd_T37 l0 i).f1 (rd_T37 l0 i).f2 (rd_T37 l0 i).f3).bind fun b => if b = true then joinM k l0 q (i + 1) else some false) else some true
def joinB (i : Int) (bs : List UInt8) : List UInt8 := if 0 < i then bs ++ [32] else bs
def joinW (l0 : List S37) : Nat → Int → List UInt8 → Option (ByteArray × Int)
 | 0, _, _ => none
 | q + 1, i, bs => if i < (l0.length : Int) then ((token_word.f (rd_T37 l0 i).f0 (rd_T37 l0 i).f1 (rd_T37 l0 i).f2 (rd_T37 l0 i).f3).bind fun s => if 1000 < (joinB i bs ++ s.data.toList).length then some ((⟨#[]⟩ : ByteArray), (3 : Int)) else joinW l0 q (i + 1) (joinB i bs ++ s.data.toList)) else some ((⟨bs.toArray⟩ : ByteArray), (0 : Int))
def token_Join.f (k : Nat) (l0 : List S37) : Option (ByteArray × Int) :=
 if l0.length < 4611686018427387904 then ((joinM k l0 (l0.length + 1) 0).bind fun b => if b = true then joinW l0 (l0.length + 1) 0 [] else some ((⟨#[]⟩ : ByteArray), (2 : Int))) else none
theorem joinM_mono (k : Nat) (l0 : List S37) : ∀ (q : Nat) (i : Int), LeO (joinM k l0 q i) (joinM (k + 1) l0 q i)
 | 0, _ => LeO.none _
 | q + 1, i => by
  unfold joinM
  refine LeO.ite ?_ (LeO.refl _)
  refine LeO.bind (token_may.mono _ _ _ _ _) (fun b => ?_)
  exact LeO.ite (joinM_mono k l0 q (i + 1)) (LeO.refl _)
theorem token_Join.mono : ∀ l0 k, LeO (token_Join.f k l0) (token_Join.f (k + 1) l0) := by
 intro l0 k
 unfold token_Join.f
 refine LeO.ite ?_ (LeO.refl _)
 exact LeO.bind (joinM_mono k l0 _ _) (fun _ => LeO.refl _)
theorem word_size {a0 a1 : Int} {a2 : ByteArray} {a3 : Int} {s : ByteArray} (h : token_word.f a0 a1 a2 a3 = some s) : s.size ≤ 1000000002 := by
 unfold token_word.f at h
 by_cases hs : a2.size ≤ 1000000000
 ·rw [if_pos hs] at h
  obtain rfl := Option.some.inj h
  have hz := hexU_size (IntKind.u64.wrap a1)
  have e0 : (⟨#[48, 120]⟩ : ByteArray).size = 2 := rfl
  have e1 : (⟨#[34]⟩ : ByteArray).size = 1 := rfl
  split
  ·rw [ByteArray.size_append]; omega
  ·split
   ·rw [ByteArray.size_append, ByteArray.size_append]; omega
   ·omega
 ·rw [if_neg hs] at h
  exact absurd h (by simp)
theorem isb_step {T e : TypeId} {B b : Nat} {bs : List Value} {w w' : World} (h : Lib.IsBuilder T e B b bs w) (hb : Below w.heap.size w w') : Lib.IsBuilder T e B b bs w' := by
 have key : ∀ p, Lib.BuilderAt T e B b p bs w → Lib.BuilderAt T e B b p bs w' := by
  rintro p ⟨hB, v, hbk, hown, hne⟩
  have hlt : b < w.heap.size := (Array.getElem?_eq_some_iff.1 hbk).1
  refine ⟨hB, v, (hb.block b hlt).trans hbk, ⟨hown.1, ?_⟩, hne⟩
  rcases hown.2 with hh | ⟨g, cap, cur, hv, h1, h2, h3⟩
  ·exact .inl hh
  ·exact .inr ⟨g, cap, cur, hv, h1, (hb.block g (Array.getElem?_eq_some_iff.1 h2).1).trans h2, h3⟩
 exact h.imp (key _) (key _)
theorem isb_fresh (T e : TypeId) (B : Nat) (w : World) (hB : B ≤ w.heap.size) : Lib.IsBuilder T e B w.heap.size (Lib.byteCells []) (w.alloc (.cells #[.pointer none, .slice none 0 0] T)) := by
 rcases Lib.fresh_isBuilder T e w with h | h
 ·obtain ⟨_, v, hbk, hown, hne⟩ := h
  refine .inl ⟨hB, v, hbk, ⟨hown.1, ?_⟩, hne⟩
  rcases hown.2 with hh | ⟨g, cap, cur, hv, h1, h2⟩
  ·exact .inl hh
  ·exact .inr ⟨g, cap, cur, hv, Nat.le_trans hB h1, h2⟩
 ·obtain ⟨_, v, hbk, hown, hne⟩ := h
  refine .inr ⟨hB, v, hbk, ⟨hown.1, ?_⟩, hne⟩
  rcases hown.2 with hh | ⟨g, cap, cur, hv, h1, h2⟩
  ·exact .inl hh
  ·exact .inr ⟨g, cap, cur, hv, Nat.le_trans hB h1, h2⟩
theorem byteCells_snoc (bs : List UInt8) : Lib.byteCells bs ++ [.int .u8 32] = Lib.byteCells (bs ++ [32]) := by simp [Lib.byteCells]
theorem byteCells_str (bs : List UInt8) (s : ByteArray) : Lib.byteCells bs ++ Lib.strCells s = Lib.byteCells (bs ++ s.data.toList) := by simp [Lib.byteCells, Lib.strCells]
set_option maxHeartbeats 4000000 in
set_option maxRecDepth 100000 in
theorem token_Join.calls (k : Nat) (A0 : Option Addr) (c0 : Nat) (l0 : List S37) (r1 : ByteArray) (r2 : Int) (w : World) (hr0 : Kd.C k37 w A0 l0.length l0) (hc0 : l0.length ≤ c0) (hT : TabAt w) (h : token_Join.f k l0 = some (r1, r2)) :
  Calls Tryd.prog 9 #[.slice A0 l0.length c0] w fun e w' => e = .returned (.tuple #[.string r1, .int .i64 r2]) ∧ Below w.heap.size w w' := by
 have hu := Tryd.underlying37
 have huB := Tryd.underlying57
 unfold token_Join.f at h
 by_cases hs : l0.length < 4611686018427387904
 case neg => rw [if_neg hs] at h; exact absurd h (by simp)
 rw [if_pos hs] at h
 obtain ⟨bm, hm, h⟩ := Option.bind_eq_some_iff.1 h
 have HT := Aside0.mk hT
 have HC0 := Aside0.mk hr0
 have HM := Aside0.mk hm
 have HJ := Aside0.mk h
 clear h hm hr0 hT
 go_enter Tryd.func9, Tryd.ntmps9
 go_wp2
 go_loopg [11] (l0.length + 1) (fun kq v11 w' => ∃ (i : Int), v11 = .int .i64 i ∧ Aside0 (joinM k l0 kq i = some bm) ∧ 0 ≤ i ∧ i ≤ (l0.length : Int) ∧ Aside0 (Below w.heap.size w w'))
 case atStart => exact ⟨0, rfl, HM, by omega, by omega, ⟨by first | exact Below.refl _ _ | exact pw_below_drewN (Below.refl _ _) _⟩⟩
 case round =>
  clear HM
  try clear p2
  obtain ⟨i, rfl, HA, hi0, hi1, HB⟩ := hrel
  cases gk with
  | zero => exact absurd HA.out (by simp [joinM])
  | succ k1 =>
   have hA := HA.out
   clear HA
   simp only [joinM] at hA
   by_cases c2 : i < (l0.length : Int)
   ·rw [if_pos c2] at hA
    have c2b : decide (i < (l0.length : Int)) = true := decide_eq_true c2
    obtain ⟨ad, ead, t0, t1, t2, t3⟩ := at_T37 (Kd.C_below HC0.out HB.out) i hi0 c2
    cases ead
    have hp := eq_true hi0
    have hq := eq_true c2
    have hB1 := Aside0.mk (below_alloc (Below.refl wr.heap.size wr) (.cells #[.int .i64 (rd_T37 l0 i).f0, .int .i64 (rd_T37 l0 i).f1, .string (rd_T37 l0 i).f2, .int .i64 (rd_T37 l0 i).f3] 37))
    generalize hn : rd_T37 l0 i = n at hA t0 t1 t2 t3 hB1
    clear hn
    obtain ⟨b, hb0, hA⟩ := Option.bind_eq_some_iff.1 hA
    have HMAY := Aside0.mk hb0
    clear hb0
    have hw1 : IntKind.i64.wrap (i + 1) = i + 1 := by rw [i64_w]; unfold Go.RowKit.wrap64; omega
    cases b with
    | false =>
     rw [if_neg (by decide)] at hA
     obtain rfl := Option.some.inj hA
     have hJ := HJ.out
     rw [if_neg (by decide)] at hJ
     cases hJ
     clear hA HJ
     go_wp2_with (first | (go_at_call 27; refine (token_may.calls k n.f0 n.f1 n.f2 n.f3 false _ HMAY.out).mono ?_; rintro e w1 ⟨rfl, hb⟩; have B1 := Aside0.mk (below_step hB1.out hb); clear hb))
     go_ret2
     exact ⟨rfl, by repeat (first | exact below_step HB.out B1.out | apply pw_below_drewN)⟩
    | true =>
     rw [if_pos rfl] at hA
     have HA := Aside0.mk hA
     clear hA
     go_wp2_with (first | (go_at_call 27; refine (token_may.calls k n.f0 n.f1 n.f2 n.f3 true _ HMAY.out).mono ?_; rintro e w1 ⟨rfl, hb⟩; have B1 := Aside0.mk (below_step hB1.out hb); clear hb))
     go_roundg k1
     case measure => omega
     case rel => exact ⟨i + 1, rfl, HA, by omega, by omega, ⟨by repeat (first | exact below_step HB.out B1.out | apply pw_below_drewN)⟩⟩
   ·rw [if_neg c2] at hA
    obtain rfl := Option.some.inj hA
    clear hA
    have c2b : decide (i < (l0.length : Int)) = false := decide_eq_false c2
    have hJ : joinW l0 (l0.length + 1) 0 [] = some (r1, r2) := HJ.out
    clear HJ
    have HJ := Aside0.mk hJ
    clear hJ hi0 hi1 c2
    have HI0 := Aside0.mk (isb_fresh 57 5 w.heap.size wr HB.out.size)
    have HB0 := Aside0.mk (below_alloc HB.out (.cells #[.pointer none, .slice none 0 0] 57))
    have hbkl : w.heap.size ≤ wr.heap.size := HB.out.size
    go_wp2
    generalize hbk : wr.heap.size = bk at HI0
    go_loopg [21] (l0.length + 1) (fun kq v21 w' => ∃ (i : Int) (bs : List UInt8), v21 = .int .i64 i ∧ Aside0 (joinW l0 kq i bs = some (r1, r2)) ∧ 0 ≤ i ∧ i ≤ (l0.length : Int) ∧ bs.length ≤ 1000 ∧ Aside0 (Lib.IsBuilder 57 5 w.heap.size bk (Lib.byteCells bs) w') ∧ Aside0 (Below w.heap.size w w'))
    case atStart => exact ⟨0, [], rfl, HJ, by omega, by omega, by simp, HI0, ⟨(by repeat (first | exact HB0.out | apply pw_below_drewN))⟩⟩
    case round =>
     clear HJ HI0 HB0 HB hbk hbkl c2b
     try clear p2
     obtain ⟨i, bs, rfl, HA, hi0, hi1, hbl, HI, HB⟩ := hrel
     cases gk with
     | zero => exact absurd HA.out (by simp [joinW])
     | succ k2 =>
      have hA := HA.out
      clear HA
      simp only [joinW] at hA
      by_cases c2 : i < (l0.length : Int)
      ·rw [if_pos c2] at hA
       have c2b : decide (i < (l0.length : Int)) = true := decide_eq_true c2
       obtain ⟨ad, ead, t0, t1, t2, t3⟩ := at_T37 (Kd.C_below HC0.out HB.out) i hi0 c2
       cases ead
       have hp := eq_true hi0
       have hq := eq_true c2
       generalize hn : rd_T37 l0 i = n at hA t0 t1 t2 t3
       clear hn
       have N0 := Aside0.mk (blk_new wr (.cells #[.int .i64 n.f0, .int .i64 n.f1, .string n.f2, .int .i64 n.f3] 37))
       have HB1 := Aside0.mk (below_alloc HB.out (.cells #[.int .i64 n.f0, .int .i64 n.f1, .string n.f2, .int .i64 n.f3] 37))
       have HI1 := Aside0.mk (isb_step HI.out (below_alloc (Below.refl wr.heap.size wr) (.cells #[.int .i64 n.f0, .int .i64 n.f1, .string n.f2, .int .i64 n.f3] 37)))
       have hbn : bk ≠ wr.heap.size := by rcases HI.out with hz | hz <;> exact Nat.ne_of_lt hz.lt
       obtain ⟨s, hs0, hA⟩ := Option.bind_eq_some_iff.1 hA
       have hsz := word_size hs0
       have HW := Aside0.mk hs0
       clear hs0
       have hw1 : IntKind.i64.wrap (i + 1) = i + 1 := by rw [i64_w]; unfold Go.RowKit.wrap64; omega
       have hss : s.data.toList.length = s.size := by simp
       by_cases c5 : 0 < i
       ·have c5b : decide (0 < i) = true := decide_eq_true c5
        have ej : joinB i bs = bs ++ [32] := if_pos c5
        rw [ej] at hA
        clear ej c5
        obtain ⟨b2, hb2⟩ : ∃ b2, b2 = bs ++ [32] := ⟨_, rfl⟩
        rw [← hb2] at hA
        have hl2 : b2.length ≤ 1001 := by rw [hb2]; rw [List.length_append]; simp; omega
        obtain ⟨b3, hb3⟩ : ∃ b3, b3 = b2 ++ s.data.toList := ⟨_, rfl⟩
        rw [← hb3] at hA
        have HB23 := Aside0.mk hb3
        have HB12 := Aside0.mk hb2
        clear hb2 hb3
        by_cases c4 : 1000 < b3.length
        ·rw [if_pos c4] at hA
         have c4b : decide (1000 < ((Lib.byteCells b3).length : Int)) = true := decide_eq_true (by rw [Lib.byteCells_length]; omega)
         cases hA
         go_wp2_with (first | (go_at_call 28; refine (bld_byte_calls w.heap.size bk (Lib.byteCells bs) 32 _ HI1.out ?l1 ?l2).mono ?_; (case l1 => rw [Lib.byteCells_length]; omega); (case l2 => exact HB1.out.size); rintro e w1 ⟨rfl, hx, hb, hk⟩; have HI2 := Aside0.mk (show Lib.IsBuilder 57 5 w.heap.size bk (Lib.byteCells b2) w1 from .inr (by rw [HB12.out, ← byteCells_snoc]; exact hx)); have HB2 := Aside0.mk (HB1.out.trans hb); have X1 := Aside0.mk (hk _ _ N0.out (fun e => hbn (Option.some.inj e).symm) (fun c fz e => by injection e with _ e2 _; exact absurd e2 (by decide))); have q0 := (blk_cell X1.out 0).trans rfl; have q1 := (blk_cell X1.out 1).trans rfl; have q2 := (blk_cell X1.out 2).trans rfl; have q3 := (blk_cell X1.out 3).trans rfl; clear hx hb hk) | (go_at_call 30; refine (token_word.calls n.f0 n.f1 n.f2 n.f3 s _ ?l3 HW.out).mono ?_; (case l3 => exact tab_below HT.out (by repeat (first | exact HB2.out | apply pw_below_drewN))); rintro e w2 ⟨rfl, hb⟩; have HI3 := Aside0.mk (isb_step HI2.out hb); have HB3 := Aside0.mk (below_step (by repeat (first | exact HB2.out | apply pw_below_drewN)) hb); clear hb) | (go_at_call 29; refine (bld_str_calls w.heap.size bk (Lib.byteCells b2) s _ HI3.out ?l4 ?l5).mono ?_; (case l4 => rw [Lib.byteCells_length]; omega); (case l5 => exact HB3.out.size); rintro e w3 ⟨rfl, hx, hb⟩; have HI4 := Aside0.mk (show Lib.IsBuilder 57 5 w.heap.size bk (Lib.byteCells b3) w3 from .inr (by rw [HB23.out, ← byteCells_str]; exact hx)); have HB4 := Aside0.mk (HB3.out.trans hb); clear hx hb) | (go_at_call 31; refine (Tryd.Builder_Len w.heap.size bk (Lib.byteCells b3) _ HI4.out).mono ?_; rintro e w4 ⟨rfl, rfl⟩))
         go_ret2
         exact ⟨rfl, by repeat (first | exact HB4.out | apply pw_below_drewN)⟩
        ·rw [if_neg c4] at hA
         have c4b : decide (1000 < ((Lib.byteCells b3).length : Int)) = false := decide_eq_false (by rw [Lib.byteCells_length]; omega)
         have HA := Aside0.mk hA
         clear hA
         go_wp2_with (first | (go_at_call 28; refine (bld_byte_calls w.heap.size bk (Lib.byteCells bs) 32 _ HI1.out ?l1 ?l2).mono ?_; (case l1 => rw [Lib.byteCells_length]; omega); (case l2 => exact HB1.out.size); rintro e w1 ⟨rfl, hx, hb, hk⟩; have HI2 := Aside0.mk (show Lib.IsBuilder 57 5 w.heap.size bk (Lib.byteCells b2) w1 from .inr (by rw [HB12.out, ← byteCells_snoc]; exact hx)); have HB2 := Aside0.mk (HB1.out.trans hb); have X1 := Aside0.mk (hk _ _ N0.out (fun e => hbn (Option.some.inj e).symm) (fun c fz e => by injection e with _ e2 _; exact absurd e2 (by decide))); have q0 := (blk_cell X1.out 0).trans rfl; have q1 := (blk_cell X1.out 1).trans rfl; have q2 := (blk_cell X1.out 2).trans rfl; have q3 := (blk_cell X1.out 3).trans rfl; clear hx hb hk) | (go_at_call 30; refine (token_word.calls n.f0 n.f1 n.f2 n.f3 s _ ?l3 HW.out).mono ?_; (case l3 => exact tab_below HT.out (by repeat (first | exact HB2.out | apply pw_below_drewN))); rintro e w2 ⟨rfl, hb⟩; have HI3 := Aside0.mk (isb_step HI2.out hb); have HB3 := Aside0.mk (below_step (by repeat (first | exact HB2.out | apply pw_below_drewN)) hb); clear hb) | (go_at_call 29; refine (bld_str_calls w.heap.size bk (Lib.byteCells b2) s _ HI3.out ?l4 ?l5).mono ?_; (case l4 => rw [Lib.byteCells_length]; omega); (case l5 => exact HB3.out.size); rintro e w3 ⟨rfl, hx, hb⟩; have HI4 := Aside0.mk (show Lib.IsBuilder 57 5 w.heap.size bk (Lib.byteCells b3) w3 from .inr (by rw [HB23.out, ← byteCells_str]; exact hx)); have HB4 := Aside0.mk (HB3.out.trans hb); clear hx hb) | (go_at_call 31; refine (Tryd.Builder_Len w.heap.size bk (Lib.byteCells b3) _ HI4.out).mono ?_; rintro e w4 ⟨rfl, rfl⟩))
         go_roundg k2
         case measure => omega
         case rel => exact ⟨i + 1, b3, rfl, HA, by omega, by omega, by omega, HI4, ⟨by repeat (first | exact HB4.out | apply pw_below_drewN)⟩⟩
       ·have c5b : decide (0 < i) = false := decide_eq_false c5
        have ej : joinB i bs = bs := if_neg c5
        rw [ej] at hA
        clear ej c5
        obtain ⟨b2, hb2⟩ : ∃ b2, b2 = bs := ⟨_, rfl⟩
        rw [← hb2] at hA
        have hl2 : b2.length ≤ 1001 := by rw [hb2]; omega
        obtain ⟨b3, hb3⟩ : ∃ b3, b3 = b2 ++ s.data.toList := ⟨_, rfl⟩
        rw [← hb3] at hA
        have HB23 := Aside0.mk hb3
        have HB12 := Aside0.mk hb2
        have HI2 : Aside0 (Lib.IsBuilder 57 5 w.heap.size bk (Lib.byteCells b2) (wr.alloc (.cells #[.int .i64 n.f0, .int .i64 n.f1, .string n.f2, .int .i64 n.f3] 37))) := ⟨by rw [hb2]; exact HI1.out⟩
        have HB2 := HB1
        have q0 := (blk_cell N0.out 0).trans rfl; have q1 := (blk_cell N0.out 1).trans rfl; have q2 := (blk_cell N0.out 2).trans rfl; have q3 := (blk_cell N0.out 3).trans rfl
        clear hb2 hb3
        by_cases c4 : 1000 < b3.length
        ·rw [if_pos c4] at hA
         have c4b : decide (1000 < ((Lib.byteCells b3).length : Int)) = true := decide_eq_true (by rw [Lib.byteCells_length]; omega)
         cases hA
         go_wp2_with (first | (go_at_call 30; refine (token_word.calls n.f0 n.f1 n.f2 n.f3 s _ ?l3 HW.out).mono ?_; (case l3 => exact tab_below HT.out (by repeat (first | exact HB2.out | apply pw_below_drewN))); rintro e w2 ⟨rfl, hb⟩; have HI3 := Aside0.mk (isb_step HI2.out hb); have HB3 := Aside0.mk (below_step (by repeat (first | exact HB2.out | apply pw_below_drewN)) hb); clear hb) | (go_at_call 29; refine (bld_str_calls w.heap.size bk (Lib.byteCells b2) s _ HI3.out ?l4 ?l5).mono ?_; (case l4 => rw [Lib.byteCells_length]; omega); (case l5 => exact HB3.out.size); rintro e w3 ⟨rfl, hx, hb⟩; have HI4 := Aside0.mk (show Lib.IsBuilder 57 5 w.heap.size bk (Lib.byteCells b3) w3 from .inr (by rw [HB23.out, ← byteCells_str]; exact hx)); have HB4 := Aside0.mk (HB3.out.trans hb); clear hx hb) | (go_at_call 31; refine (Tryd.Builder_Len w.heap.size bk (Lib.byteCells b3) _ HI4.out).mono ?_; rintro e w4 ⟨rfl, rfl⟩))
         go_ret2
         exact ⟨rfl, by repeat (first | exact HB4.out | apply pw_below_drewN)⟩
        ·rw [if_neg c4] at hA
         have c4b : decide (1000 < ((Lib.byteCells b3).length : Int)) = false := decide_eq_false (by rw [Lib.byteCells_length]; omega)
         have HA := Aside0.mk hA
         clear hA
         go_wp2_with (first | (go_at_call 30; refine (token_word.calls n.f0 n.f1 n.f2 n.f3 s _ ?l3 HW.out).mono ?_; (case l3 => exact tab_below HT.out (by repeat (first | exact HB2.out | apply pw_below_drewN))); rintro e w2 ⟨rfl, hb⟩; have HI3 := Aside0.mk (isb_step HI2.out hb); have HB3 := Aside0.mk (below_step (by repeat (first | exact HB2.out | apply pw_below_drewN)) hb); clear hb) | (go_at_call 29; refine (bld_str_calls w.heap.size bk (Lib.byteCells b2) s _ HI3.out ?l4 ?l5).mono ?_; (case l4 => rw [Lib.byteCells_length]; omega); (case l5 => exact HB3.out.size); rintro e w3 ⟨rfl, hx, hb⟩; have HI4 := Aside0.mk (show Lib.IsBuilder 57 5 w.heap.size bk (Lib.byteCells b3) w3 from .inr (by rw [HB23.out, ← byteCells_str]; exact hx)); have HB4 := Aside0.mk (HB3.out.trans hb); clear hx hb) | (go_at_call 31; refine (Tryd.Builder_Len w.heap.size bk (Lib.byteCells b3) _ HI4.out).mono ?_; rintro e w4 ⟨rfl, rfl⟩))
         go_roundg k2
         case measure => omega
         case rel => exact ⟨i + 1, b3, rfl, HA, by omega, by omega, by omega, HI4, ⟨by repeat (first | exact HB4.out | apply pw_below_drewN)⟩⟩
      ·rw [if_neg c2] at hA
       have c2b : decide (i < (l0.length : Int)) = false := decide_eq_false c2
       cases hA
       go_wp2_with (first | (go_at_call 32; refine (Tryd.Builder_String_any w.heap.size bk bs _ HI.out ?l6).mono ?_; (case l6 => exact HB.out.size); rintro e w1 ⟨rfl, hb⟩; have B1 := Aside0.mk (HB.out.trans hb); clear hb))
       go_ret2
       exact ⟨rfl, by repeat (first | exact B1.out | apply pw_below_drewN)⟩

/-! ### token_text_1: function 73 -/
def token_text_1.f (a0 : Int) : Option (Bool) := (token_plain.f a0).bind fun t113 => (if t113 = true then (some (a0 != 34)) else (some false))
set_option maxHeartbeats 8000000 in
set_option maxRecDepth 100000 in
theorem token_text_1.calls (a0 : Int) (r : Bool) (w : World) (h : token_text_1.f a0 = some r) :
  Calls Tryd.prog 73 #[.int .u8 a0] w fun e w' => e = .returned (.bool r) ∧ Drawn0 w w' := by
 have H : ((token_plain.f a0).bind fun t113 => (if t113 = true then (some (a0 != 34)) else (some false))) = some r := h
 clear h
 replace H := Option.bind_eq_some_iff.mp H
 obtain ⟨t113, A20, H⟩ := H
 replace H : (if t113 = true then (some (a0 != 34)) else (some false)) = some r := H
 have A2 := Aside0.mk A20
 clear A20
 by_cases c3 : t113 = true
 ·subst c3
  have H1 : (some (a0 != 34)) = some r := by rw [if_pos rfl] at H; exact H
  clear H
  have H := H1
  clear H1
  obtain rfl := Option.some.inj H
  go_enter Tryd.func73, Tryd.ntmps73
  go_wp2_with (first | ((with_reducible refine gate_callee (f := 45) rfl ?_); refine goesL_ (some 4) rfl rfl Tryd.func45 (by kernel_rfl) rfl #[.int .u8 a0] rfl (by (try simp only [List.map_toArray, List.map_cons, List.map_nil]); first | done | rfl | (simp only [List.length_drop, List.length_take]; rfl)) ?_; (with_reducible refine (token_plain.calls a0 true _ A2.out).mono ?_); rintro e w' ⟨rfl, ⟨nd, rfl⟩⟩; refine ⟨_, rfl, ?_⟩))
  go_ret
  exact ⟨by first | rfl | (simp; done) | (simp [*]; done), by repeat (first | exact Drawn0.refl _ | apply Drawn0.step)⟩
 ·replace c3 := Bool.eq_false_iff.mpr c3
  subst c3
  have H1 : (some false) = some r := by rw [if_neg (show ¬ (false = true) by decide)] at H; exact H
  clear H
  have H := H1
  clear H1
  obtain rfl := Option.some.inj H
  go_enter Tryd.func73, Tryd.ntmps73
  go_wp2_with (first | ((with_reducible refine gate_callee (f := 45) rfl ?_); refine goesL_ (some 4) rfl rfl Tryd.func45 (by kernel_rfl) rfl #[.int .u8 a0] rfl (by (try simp only [List.map_toArray, List.map_cons, List.map_nil]); first | done | rfl | (simp only [List.length_drop, List.length_take]; rfl)) ?_; (with_reducible refine (token_plain.calls a0 false _ A2.out).mono ?_); rintro e w' ⟨rfl, ⟨nd, rfl⟩⟩; refine ⟨_, rfl, ?_⟩))
  go_ret
  exact ⟨by first | rfl | (simp; done) | (simp [*]; done), by repeat (first | exact Drawn0.refl _ | apply Drawn0.step)⟩

/-! ### token_run_text: function 135 -/
def token_run_text.l0 : Nat → ByteArray → Int → Int → Option (Int)
 | 0, _, _, _ => none
 | k + 1, x0, x7, x8 => if x8 < x7 then (if 0 ≤ x8 then (if x8 < (x0.size : Int) then ((token_text_1.f (bt x0 x8)).bind fun t114 => (if t114 = true then (token_run_text.l0 k x0 x7 (wrap64 (x8 + 1))) else (some x8))) else (none)) else (none)) else (some (x0.size : Int))
def token_run_text.f (k : Nat) (a0 : ByteArray) : Option (Int) := token_run_text.l0 k a0 (a0.size : Int) 0
theorem token_run_text.mono_l : ∀ k, (∀ y0 y1 y2, LeO (token_run_text.l0 k y0 y1 y2) (token_run_text.l0 (k + 1) y0 y1 y2))
 | 0 => fun _ _ _ r h => by simp [token_run_text.l0] at h
 | k + 1 => by
  have ih0 := token_run_text.mono_l k
  ·intro y0 y1 y2
   unfold token_run_text.l0
   repeat' first
   | (with_reducible exact ih0 _ _ _)
   | (with_reducible exact LeO.refl _)
   | (with_reducible exact LeO.none _)
   | (with_reducible refine LeO.ite ?_ ?_)
   | (with_reducible refine LeO.bind ?_ (fun _ => ?_))
   | exact ih0 _ _ _
   | exact LeO.none _
   | refine LeO.ite ?_ ?_
   | refine LeO.bind ?_ (fun _ => ?_)
theorem token_run_text.mono : ∀ a0 k, LeO (token_run_text.f k a0) (token_run_text.f (k + 1) a0) := by
 intro a0 k
 have ih0 := token_run_text.mono_l k
 unfold token_run_text.f
 repeat' first
   | (with_reducible exact ih0 _ _ _)
   | (with_reducible exact LeO.refl _)
   | (with_reducible exact LeO.none _)
   | (with_reducible refine LeO.ite ?_ ?_)
   | (with_reducible refine LeO.bind ?_ (fun _ => ?_))
   | exact ih0 _ _ _
   | exact LeO.none _
   | refine LeO.ite ?_ ?_
   | refine LeO.bind ?_ (fun _ => ?_)
set_option maxHeartbeats 8000000 in
set_option maxRecDepth 100000 in
theorem token_run_text.calls (k : Nat) (a0 : ByteArray) (r : Int) (w : World) (h : token_run_text.f k a0 = some r) :
  Calls Tryd.prog 37 #[.string a0, .func (.func 73) #[] #[]] w fun e w' => e = .returned (.int .i64 r) ∧ Drawn0 w w' := by
 have H : (token_run_text.l0 k a0 (a0.size : Int) 0) = some r := h
 clear h
 have H' := Aside0.mk H
 clear H
 go_enter Tryd.func37, Tryd.ntmps37
 go_wp2
 go_loopg [8] k (fun kq v8 w' => ∃ (x8_1 : Int), v8 = .int .i64 x8_1 ∧ Aside0 (token_run_text.l0 kq a0 (a0.size : Int) x8_1 = some r) ∧ Aside0 (kq ≤ k) ∧ Drawn0 w w')
 case atStart => exact ⟨(0), (by first | rfl | (simp; done) | (simp [*]; done)), H', ⟨Nat.le_refl _⟩, by repeat (first | exact Drawn0.refl _ | apply Drawn0.step)⟩
 case round =>
  clear H'
  try clear c1
  obtain ⟨x8_1, rfl, HA, HK1, ⟨m1, rfl⟩⟩ := hrel
  cases gk with
  | zero => exact absurd HA.out (by simp [token_run_text.l0])
  | succ k1 =>
   have H := HA.out
   clear HA
   simp only [token_run_text.l0] at H
   by_cases c2 : x8_1 < (a0.size : Int)
   ·rw [if_pos c2] at H
    have c2b0 : decide (x8_1 < (a0.size : Int)) = true := decide_eq_true c2
    clear c2
    by_cases c3 : 0 ≤ x8_1
    ·rw [if_pos c3] at H
     have c3b0 : decide (0 ≤ x8_1) = true := decide_eq_true c3
     clear c3
     by_cases c4 : x8_1 < (a0.size : Int)
     ·rw [if_pos c4] at H
      have c4b0 : decide (x8_1 < (a0.size : Int)) = true := decide_eq_true c4
      clear c4
      replace H := Option.bind_eq_some_iff.mp H
      obtain ⟨t114, A60, H⟩ := H
      replace H : (if t114 = true then (token_run_text.l0 k1 a0 (a0.size : Int) (wrap64 (x8_1 + 1))) else (some x8_1)) = some r := H
      have A6 := Aside0.mk A60
      clear A60
      by_cases c7 : t114 = true
      ·subst c7
       have H1 : (token_run_text.l0 k1 a0 (a0.size : Int) (wrap64 (x8_1 + 1))) = some r := by rw [if_pos rfl] at H; exact H
       clear H
       have H := H1
       clear H1
       have H' := Aside0.mk H
       clear H
       have p5 : 0 ≤ (x8_1 : Int) := of_decide_eq_true (by first | (with_reducible assumption) | assumption)
       have q5 : x8_1 < (a0.size : Int) := of_decide_eq_true (by first | (with_reducible assumption) | assumption)
       have hx5 := bt_at a0 x8_1
       replace p5 := eq_true p5
       replace q5 := eq_true q5
       go_wp2_with (first | (go_at_call 73; (with_reducible refine (token_text_1.calls (bt a0 x8_1) true _ A6.out).mono ?_); rintro e w' ⟨rfl, ⟨nd, rfl⟩⟩; skip))
       go_roundg k1
       case measure => have := HK1.out; omega
       case rel => exact ⟨(wrap64 (x8_1 + 1)), (by first | rfl | (simp; done) | (simp [*]; done)), H', ⟨by have := HK1.out; omega⟩, by repeat (first | exact Drawn0.refl _ | apply Drawn0.step)⟩
      ·replace c7 := Bool.eq_false_iff.mpr c7
       subst c7
       have H1 : (some x8_1) = some r := by rw [if_neg (show ¬ (false = true) by decide)] at H; exact H
       clear H
       have H := H1
       clear H1
       obtain rfl := Option.some.inj H
       have p5 : 0 ≤ (x8_1 : Int) := of_decide_eq_true (by first | (with_reducible assumption) | assumption)
       have q5 : x8_1 < (a0.size : Int) := of_decide_eq_true (by first | (with_reducible assumption) | assumption)
       have hx5 := bt_at a0 x8_1
       replace p5 := eq_true p5
       replace q5 := eq_true q5
       go_wp2_with (first | (go_at_call 73; (with_reducible refine (token_text_1.calls (bt a0 x8_1) false _ A6.out).mono ?_); rintro e w' ⟨rfl, ⟨nd, rfl⟩⟩; skip))
       go_ret
       exact ⟨by first | rfl | (simp; done) | (simp [*]; done), by repeat (first | exact Drawn0.refl _ | apply Drawn0.step)⟩
     ·rw [if_neg c4] at H
      exact absurd H (by simp)
    ·rw [if_neg c3] at H
     exact absurd H (by simp)
   ·rw [if_neg c2] at H
    have c2b0 : decide (x8_1 < (a0.size : Int)) = false := decide_eq_false c2
    clear c2
    obtain rfl := Option.some.inj H
    go_wp2
    go_ret
    exact ⟨by first | rfl | (simp; done) | (simp [*]; done), by repeat (first | exact Drawn0.refl _ | apply Drawn0.step)⟩

/-! ### token_text: function 53 -/
def token_text.f (k : Nat) (a0 : ByteArray) (a1 : Int) : Option (Int × Int × ByteArray × Int × Int × Int × Int) := if 1 ≤ (a0.size : Int) then ((token_run_text.f k (a0.extract 1 a0.size)).bind fun t117 => (if (wrap64 (1 + t117)) = (a0.size : Int) then (some (0, 0, (⟨#[]⟩ : ByteArray), 0, 0, 4, wrap64 (a1 + (wrap64 (1 + t117))))) else (if 0 ≤ (wrap64 (1 + t117)) then (if (wrap64 (1 + t117)) < (a0.size : Int) then (if (bt a0 (wrap64 (1 + t117))) = 34 then (if 1 ≤ (wrap64 (1 + t117)) then (if (wrap64 (1 + t117)) ≤ (a0.size : Int) then (some (3, 0, a0.extract 1 ((wrap64 (1 + t117)) : Int).toNat, a1, wrap64 ((wrap64 (1 + t117)) + 1), 0, 0)) else (none)) else (none)) else (some (0, 0, (⟨#[]⟩ : ByteArray), 0, 0, 4, wrap64 (a1 + (wrap64 (1 + t117)))))) else (none)) else (none)))) else (none)
theorem token_text.mono : ∀ a0 a1 k, LeO (token_text.f k a0 a1) (token_text.f (k + 1) a0 a1) := by
 intro a0 a1 k
 unfold token_text.f
 repeat' first
   | (with_reducible exact token_run_text.mono _ _)
   | (with_reducible exact LeO.refl _)
   | (with_reducible exact LeO.none _)
   | (with_reducible refine LeO.ite ?_ ?_)
   | (with_reducible refine LeO.bind ?_ (fun _ => ?_))
   | exact token_run_text.mono _ _
   | exact LeO.none _
   | refine LeO.ite ?_ ?_
   | refine LeO.bind ?_ (fun _ => ?_)
set_option maxHeartbeats 8000000 in
set_option maxRecDepth 100000 in
theorem token_text.calls (k : Nat) (a0 : ByteArray) (a1 : Int) (r1 : Int) (r2 : Int) (r3 : ByteArray) (r4 : Int) (r5 : Int) (r6 : Int) (r7 : Int) (w : World) (h : token_text.f k a0 a1 = some (r1, r2, r3, r4, r5, r6, r7)) :
  Calls Tryd.prog 53 #[.string a0, .int .i64 a1] w fun e w' => e = .returned (.tuple #[.agg #[.int .i64 r1, .int .i64 r2, .string r3, .int .i64 r4], .int .i64 r5, .agg #[.int .i64 r6, .int .i64 r7]]) ∧ Below w.heap.size w w' := by
 have hu37 := Tryd.underlying37
 have hu32 := Tryd.underlying32
 have HB := Aside0.mk (Below.refl w.heap.size w)
 have H : (if 1 ≤ (a0.size : Int) then ((token_run_text.f k (a0.extract 1 a0.size)).bind fun t117 => (if (wrap64 (1 + t117)) = (a0.size : Int) then (some (0, 0, (⟨#[]⟩ : ByteArray), 0, 0, 4, wrap64 (a1 + (wrap64 (1 + t117))))) else (if 0 ≤ (wrap64 (1 + t117)) then (if (wrap64 (1 + t117)) < (a0.size : Int) then (if (bt a0 (wrap64 (1 + t117))) = 34 then (if 1 ≤ (wrap64 (1 + t117)) then (if (wrap64 (1 + t117)) ≤ (a0.size : Int) then (some (3, 0, a0.extract 1 ((wrap64 (1 + t117)) : Int).toNat, a1, wrap64 ((wrap64 (1 + t117)) + 1), 0, 0)) else (none)) else (none)) else (some (0, 0, (⟨#[]⟩ : ByteArray), 0, 0, 4, wrap64 (a1 + (wrap64 (1 + t117)))))) else (none)) else (none)))) else (none)) = some (r1, r2, r3, r4, r5, r6, r7) := h
 clear h
 by_cases c3 : 1 ≤ (a0.size : Int)
 ·rw [if_pos c3] at H
  have c3b0 := eq_true c3
  have c3b1 : decide (1 ≤ (a0.size : Int)) = true := decide_eq_true c3
  clear c3
  replace H := Option.bind_eq_some_iff.mp H
  obtain ⟨t117, A40, H⟩ := H
  replace H : (if (wrap64 (1 + t117)) = (a0.size : Int) then (some (0, 0, (⟨#[]⟩ : ByteArray), 0, 0, 4, wrap64 (a1 + (wrap64 (1 + t117))))) else (if 0 ≤ (wrap64 (1 + t117)) then (if (wrap64 (1 + t117)) < (a0.size : Int) then (if (bt a0 (wrap64 (1 + t117))) = 34 then (if 1 ≤ (wrap64 (1 + t117)) then (if (wrap64 (1 + t117)) ≤ (a0.size : Int) then (some (3, 0, a0.extract 1 ((wrap64 (1 + t117)) : Int).toNat, a1, wrap64 ((wrap64 (1 + t117)) + 1), 0, 0)) else (none)) else (none)) else (some (0, 0, (⟨#[]⟩ : ByteArray), 0, 0, 4, wrap64 (a1 + (wrap64 (1 + t117)))))) else (none)) else (none))) = some (r1, r2, r3, r4, r5, r6, r7) := H
  have A4 := Aside0.mk A40
  clear A40
  by_cases c5 : (wrap64 (1 + t117)) = (a0.size : Int)
  ·rw [if_pos c5] at H
   have c5b0 : ((wrap64 (1 + t117)) == (a0.size : Int)) = true := beq_iff_eq.mpr c5
   have c5b1 : ((wrap64 (1 + t117)) != (a0.size : Int)) = false := bne_eq_false_iff_eq.mpr c5
   clear c5
   simp only [Option.some.injEq, Prod.mk.injEq] at H
   obtain ⟨rfl, rfl, rfl, rfl, rfl, rfl, rfl⟩ := H
   go_enter Tryd.func53, Tryd.ntmps53
   go_wp2_with (first | ((with_reducible refine gate_dst (N := 4) rfl ?_); refine box_event ?hg (N := 4) ?hd (cs := #[.int .i64 0, .int .i64 0, .string (⟨#[]⟩ : ByteArray), .int .i64 0]) (t := 37) ?hr ?_; (case hd => rfl); (case hg => rfl); (case hr => first | (go_simp; done) | (go_simp; rfl)); intro gb115 hg w6 hbox hb; have n0_ := Aside0.mk (below_step (by repeat (first | (with_reducible first | exact HB.out | apply below_alloc | apply pw_below_drewN | apply below_drew1) | exact HB.out)) hb); have n1_ := Aside0.mk (hbox); have n2_ := Aside0.mk ((by rw [hg]; exact (below_size (by repeat (first | (with_reducible first | exact HB.out | apply below_alloc | apply pw_below_drewN | apply below_drew1) | exact HB.out))) : w.heap.size ≤ gb115)); have n3_ := Aside0.mk ((by rw [hg]; exact (below_size (by repeat (first | (with_reducible first | exact HB.out | apply below_alloc | apply pw_below_drewN | apply below_drew1) | exact HB.out))) : w.heap.size ≤ gb115)); clear HB; have HB := n0_; have BK115 := n1_; have GW115 := n2_; have GE115 := n3_; clear n0_ n1_ n2_ n3_; clear hb hbox hg) | ((with_reducible refine gate_dst (N := 6) rfl ?_); refine box_event ?hg (N := 6) ?hd (cs := #[.int .i64 0, .int .i64 0]) (t := 32) ?hr ?_; (case hd => rfl); (case hg => rfl); (case hr => first | (go_simp; done) | (go_simp; rfl)); intro gb116 hg w7 hbox hb; have n0_ := Aside0.mk (blk_below (g := gb115) (o := .cells #[.int .i64 0, .int .i64 0, .string (⟨#[]⟩ : ByteArray), .int .i64 0] 37 (0, 0)) (by (with_reducible repeat (first | refine blk_drewN ?_ _ | refine blk_drew ?_ | refine blk_alloc ?_ _)); exact BK115.out) hb); have n1_ := Aside0.mk (below_step (by repeat (first | (with_reducible first | exact HB.out | apply below_alloc | apply pw_below_drewN | apply below_drew1 | refine below_set ?_ GE115.out) | exact HB.out)) hb); have n2_ := Aside0.mk (hbox); have n3_ := Aside0.mk ((by rw [hg]; exact (below_size (by repeat (first | (with_reducible first | exact HB.out | apply below_alloc | apply pw_below_drewN | apply below_drew1 | refine below_set ?_ GE115.out) | exact HB.out))) : w.heap.size ≤ gb116)); have n4_ := Aside0.mk ((by rw [hg]; exact (below_size (by repeat (first | (with_reducible first | exact HB.out | apply below_alloc | apply pw_below_drewN | apply below_drew1 | refine below_set ?_ GE115.out) | exact HB.out))) : w.heap.size ≤ gb116)); have n5_ := Aside0.mk ((by rw [hg]; exact Nat.ne_of_lt (blk_lt (g := gb115) (o := .cells #[.int .i64 0, .int .i64 0, .string (⟨#[]⟩ : ByteArray), .int .i64 0] 37 (0, 0)) (by (with_reducible repeat (first | refine blk_drewN ?_ _ | refine blk_drew ?_ | refine blk_alloc ?_ _)); exact BK115.out)) : gb115 ≠ gb116)); have n6_ := Aside0.mk ((by rw [hg]; exact Nat.ne_of_gt (blk_lt (g := gb115) (o := .cells #[.int .i64 0, .int .i64 0, .string (⟨#[]⟩ : ByteArray), .int .i64 0] 37 (0, 0)) (by (with_reducible repeat (first | refine blk_drewN ?_ _ | refine blk_drew ?_ | refine blk_alloc ?_ _)); exact BK115.out)) : gb116 ≠ gb115)); clear BK115; clear HB; have BK115 := n0_; have HB := n1_; have BK116 := n2_; have GW116 := n3_; have GE116 := n4_; have NB115_116 := n5_; have NB116_115 := n6_; clear n0_ n1_ n2_ n3_ n4_ n5_ n6_; clear hb hbox hg) | (go_at_call 37; (with_reducible refine (token_run_text.calls k (a0.extract 1 a0.size) t117 _ A4.out).mono ?_); rintro e w' ⟨rfl, ⟨nd, rfl⟩⟩; skip; (try (rw [drewN_self w7]; generalize hq_ : World.drewN w7 _ = w7; have n0_ : Aside0 (w7.heap[gb115]? = some (.cells #[.int .i64 0, .int .i64 0, .string (⟨#[]⟩ : ByteArray), .int .i64 0] 37 (0, 0))) := ⟨by rw [← hq_]; exact (by (with_reducible repeat (first | refine blk_drewN ?_ _ | refine blk_drew ?_ | refine blk_alloc ?_ _)); exact BK115.out)⟩; have n1_ : Aside0 (w7.heap[gb116]? = some (.cells #[.int .i64 0, .int .i64 0] 32 (0, 0))) := ⟨by rw [← hq_]; exact (by (with_reducible repeat (first | refine blk_drewN ?_ _ | refine blk_drew ?_ | refine blk_alloc ?_ _)); exact BK116.out)⟩; have n2_ : Aside0 (Below w.heap.size w w7) := ⟨by rw [← hq_]; exact (by repeat (first | (with_reducible first | exact HB.out | apply below_alloc | apply pw_below_drewN | apply below_drew1 | refine below_set ?_ GE115.out | refine below_set ?_ GE116.out) | exact HB.out))⟩; clear BK115 BK116 HB hq_; have BK115 := n0_; have BK116 := n1_; have HB := n2_; clear n0_ n1_ n2_)); have hnb8 := NB115_116.out; have hnc8 := NB116_115.out; have hcz9_0 : w7.cell? ⟨gb115, 0, none⟩ = some (.int .i64 0) := (blk_cell BK115.out 0).trans rfl; have hcz9_1 : w7.cell? ⟨gb115, 1, none⟩ = some (.int .i64 0) := (blk_cell BK115.out 1).trans rfl; have hcz9_2 : w7.cell? ⟨gb115, 2, none⟩ = some (.string (⟨#[]⟩ : ByteArray)) := (blk_cell BK115.out 2).trans rfl; have hcz9_3 : w7.cell? ⟨gb115, 3, none⟩ = some (.int .i64 0) := (blk_cell BK115.out 3).trans rfl; have hfz9_0 := blk_frozen BK115.out 0; have hfz9_1 := blk_frozen BK115.out 1; have hfz9_2 := blk_frozen BK115.out 2; have hfz9_3 := blk_frozen BK115.out 3; have hcz10_0 : w7.cell? ⟨gb116, 0, none⟩ = some (.int .i64 0) := (blk_cell BK116.out 0).trans rfl; have hcz10_1 : w7.cell? ⟨gb116, 1, none⟩ = some (.int .i64 0) := (blk_cell BK116.out 1).trans rfl; have hfz10_0 := blk_frozen BK116.out 0; have hfz10_1 := blk_frozen BK116.out 1))
   refine bodyPost_ret (results_list (rs := [.cell 4 37, .tmp 5, .cell 6 32]) rfl (by simp) (.cell gb115 37 #[.int .i64 0, .int .i64 0, .string (⟨#[]⟩ : ByteArray), .int .i64 0] (0, 0) _ rfl (by (with_reducible repeat (first | refine blk_drewN ?_ _ | refine blk_drew ?_ | refine blk_alloc ?_ _)); refine blk_far ?_ NB115_116.out _; (with_reducible repeat (first | refine blk_drewN ?_ _ | refine blk_drew ?_ | refine blk_alloc ?_ _)); refine blk_far ?_ NB115_116.out _; (with_reducible repeat (first | refine blk_drewN ?_ _ | refine blk_drew ?_ | refine blk_alloc ?_ _)); refine blk_put (cs := #[.int .i64 0, .int .i64 0, .string (⟨#[]⟩ : ByteArray), .int .i64 0]) ?_ 3 _ rfl; (with_reducible repeat (first | refine blk_drewN ?_ _ | refine blk_drew ?_ | refine blk_alloc ?_ _)); refine blk_put (cs := #[.int .i64 0, .int .i64 0, .string (⟨#[]⟩ : ByteArray), .int .i64 0]) ?_ 2 _ rfl; (with_reducible repeat (first | refine blk_drewN ?_ _ | refine blk_drew ?_ | refine blk_alloc ?_ _)); refine blk_put (cs := #[.int .i64 0, .int .i64 0, .string (⟨#[]⟩ : ByteArray), .int .i64 0]) ?_ 1 _ rfl; (with_reducible repeat (first | refine blk_drewN ?_ _ | refine blk_drew ?_ | refine blk_alloc ?_ _)); refine blk_put (cs := #[.int .i64 0, .int .i64 0, .string (⟨#[]⟩ : ByteArray), .int .i64 0]) ?_ 0 _ rfl; (with_reducible repeat (first | refine blk_drewN ?_ _ | refine blk_drew ?_ | refine blk_alloc ?_ _)); exact BK115.out) Tryd.underlying37 rfl (by kernel_rfl) (.tmp (.cell gb116 32 #[.int .i64 4, .int .i64 (wrap64 (a1 + (wrap64 (1 + t117))))] (0, 0) _ rfl (by (with_reducible repeat (first | refine blk_drewN ?_ _ | refine blk_drew ?_ | refine blk_alloc ?_ _)); refine blk_put (cs := #[.int .i64 4, .int .i64 0]) ?_ 1 _ rfl; (with_reducible repeat (first | refine blk_drewN ?_ _ | refine blk_drew ?_ | refine blk_alloc ?_ _)); refine blk_put (cs := #[.int .i64 0, .int .i64 0]) ?_ 0 _ rfl; (with_reducible repeat (first | refine blk_drewN ?_ _ | refine blk_drew ?_ | refine blk_alloc ?_ _)); refine blk_far ?_ NB116_115.out _; (with_reducible repeat (first | refine blk_drewN ?_ _ | refine blk_drew ?_ | refine blk_alloc ?_ _)); refine blk_far ?_ NB116_115.out _; (with_reducible repeat (first | refine blk_drewN ?_ _ | refine blk_drew ?_ | refine blk_alloc ?_ _)); refine blk_far ?_ NB116_115.out _; (with_reducible repeat (first | refine blk_drewN ?_ _ | refine blk_drew ?_ | refine blk_alloc ?_ _)); refine blk_far ?_ NB116_115.out _; (with_reducible repeat (first | refine blk_drewN ?_ _ | refine blk_drew ?_ | refine blk_alloc ?_ _)); exact BK116.out) Tryd.underlying32 rfl (by kernel_rfl) .nil)))) rfl ?_
   exact ⟨by first | rfl | (simp [errW_none, errW_some] <;> rfl) | (simp [*, errW_none, errW_some] <;> rfl), by repeat (first | (with_reducible first | exact HB.out | apply below_alloc | apply pw_below_drewN | apply below_drew1 | refine below_set ?_ GE115.out | refine below_set ?_ GE116.out) | exact HB.out)⟩
  ·rw [if_neg c5] at H
   have c5b0 : ((wrap64 (1 + t117)) == (a0.size : Int)) = false := beq_eq_false_iff_ne.mpr c5
   have c5b1 : ((wrap64 (1 + t117)) != (a0.size : Int)) = true := bne_iff_ne.mpr c5
   obtain ⟨ji11, hji11⟩ : ∃ j_ : Int, (wrap64 (1 + t117)) = j_ := ⟨_, rfl⟩
   replace H : (if 0 ≤ (ji11) then (if (ji11) < (a0.size : Int) then (if (bt a0 (ji11)) = 34 then (if 1 ≤ (ji11) then (if (ji11) ≤ (a0.size : Int) then (some (3, 0, a0.extract 1 ((ji11) : Int).toNat, a1, wrap64 ((ji11) + 1), 0, 0)) else (none)) else (none)) else (some (0, 0, (⟨#[]⟩ : ByteArray), 0, 0, 4, wrap64 (a1 + (ji11))))) else (none)) else (none)) = some (r1, r2, r3, r4, r5, r6, r7) := by first | (rw [hji11] at H; exact H) | (simp only [hji11] at H ⊢; exact H)
   (try rw [hji11] at c5b0)
   (try rw [hji11] at c5b1)
   (try rw [hji11] at A4)
   have hji11w : (IntKind.i64.wrap (1 + t117)) = ji11 := (i64_w _).trans hji11
   by_cases c12 : 0 ≤ (ji11)
   ·rw [if_pos c12] at H
    have c12b0 : decide (0 ≤ (ji11)) = true := decide_eq_true c12
    clear c12
    by_cases c13 : (ji11) < (a0.size : Int)
    ·rw [if_pos c13] at H
     have c13b0 : decide ((ji11) < (a0.size : Int)) = true := decide_eq_true c13
     clear c13
     by_cases c15 : (bt a0 (ji11)) = 34
     ·rw [if_pos c15] at H
      have c15b0 : ((bt a0 (ji11)) == 34) = true := beq_iff_eq.mpr c15
      have c15b1 : ((bt a0 (ji11)) != 34) = false := bne_eq_false_iff_eq.mpr c15
      clear c15
      by_cases c16 : 1 ≤ (ji11)
      ·rw [if_pos c16] at H
       have c16b0 := eq_true c16
       have c16b1 : decide (1 ≤ (ji11)) = true := decide_eq_true c16
       clear c16
       by_cases c17 : (ji11) ≤ (a0.size : Int)
       ·rw [if_pos c17] at H
        have c17b0 := eq_true c17
        have c17b1 : decide ((ji11) ≤ (a0.size : Int)) = true := decide_eq_true c17
        clear c17
        simp only [Option.some.injEq, Prod.mk.injEq] at H
        obtain ⟨rfl, rfl, rfl, rfl, rfl, rfl, rfl⟩ := H
        go_enter Tryd.func53, Tryd.ntmps53
        go_wp2_with (first | ((with_reducible refine gate_dst (N := 4) rfl ?_); refine box_event ?hg (N := 4) ?hd (cs := #[.int .i64 0, .int .i64 0, .string (⟨#[]⟩ : ByteArray), .int .i64 0]) (t := 37) ?hr ?_; (case hd => rfl); (case hg => rfl); (case hr => first | (go_simp; done) | (go_simp; rfl)); intro gb115 hg w18 hbox hb; have n0_ := Aside0.mk (below_step (by repeat (first | (with_reducible first | exact HB.out | apply below_alloc | apply pw_below_drewN | apply below_drew1) | exact HB.out)) hb); have n1_ := Aside0.mk (hbox); have n2_ := Aside0.mk ((by rw [hg]; exact (below_size (by repeat (first | (with_reducible first | exact HB.out | apply below_alloc | apply pw_below_drewN | apply below_drew1) | exact HB.out))) : w.heap.size ≤ gb115)); have n3_ := Aside0.mk ((by rw [hg]; exact (below_size (by repeat (first | (with_reducible first | exact HB.out | apply below_alloc | apply pw_below_drewN | apply below_drew1) | exact HB.out))) : w.heap.size ≤ gb115)); clear HB; have HB := n0_; have BK115 := n1_; have GW115 := n2_; have GE115 := n3_; clear n0_ n1_ n2_ n3_; clear hb hbox hg) | ((with_reducible refine gate_dst (N := 6) rfl ?_); refine box_event ?hg (N := 6) ?hd (cs := #[.int .i64 0, .int .i64 0]) (t := 32) ?hr ?_; (case hd => rfl); (case hg => rfl); (case hr => first | (go_simp; done) | (go_simp; rfl)); intro gb116 hg w19 hbox hb; have n0_ := Aside0.mk (blk_below (g := gb115) (o := .cells #[.int .i64 0, .int .i64 0, .string (⟨#[]⟩ : ByteArray), .int .i64 0] 37 (0, 0)) (by (with_reducible repeat (first | refine blk_drewN ?_ _ | refine blk_drew ?_ | refine blk_alloc ?_ _)); exact BK115.out) hb); have n1_ := Aside0.mk (below_step (by repeat (first | (with_reducible first | exact HB.out | apply below_alloc | apply pw_below_drewN | apply below_drew1 | refine below_set ?_ GE115.out) | exact HB.out)) hb); have n2_ := Aside0.mk (hbox); have n3_ := Aside0.mk ((by rw [hg]; exact (below_size (by repeat (first | (with_reducible first | exact HB.out | apply below_alloc | apply pw_below_drewN | apply below_drew1 | refine below_set ?_ GE115.out) | exact HB.out))) : w.heap.size ≤ gb116)); have n4_ := Aside0.mk ((by rw [hg]; exact (below_size (by repeat (first | (with_reducible first | exact HB.out | apply below_alloc | apply pw_below_drewN | apply below_drew1 | refine below_set ?_ GE115.out) | exact HB.out))) : w.heap.size ≤ gb116)); have n5_ := Aside0.mk ((by rw [hg]; exact Nat.ne_of_lt (blk_lt (g := gb115) (o := .cells #[.int .i64 0, .int .i64 0, .string (⟨#[]⟩ : ByteArray), .int .i64 0] 37 (0, 0)) (by (with_reducible repeat (first | refine blk_drewN ?_ _ | refine blk_drew ?_ | refine blk_alloc ?_ _)); exact BK115.out)) : gb115 ≠ gb116)); have n6_ := Aside0.mk ((by rw [hg]; exact Nat.ne_of_gt (blk_lt (g := gb115) (o := .cells #[.int .i64 0, .int .i64 0, .string (⟨#[]⟩ : ByteArray), .int .i64 0] 37 (0, 0)) (by (with_reducible repeat (first | refine blk_drewN ?_ _ | refine blk_drew ?_ | refine blk_alloc ?_ _)); exact BK115.out)) : gb116 ≠ gb115)); clear BK115; clear HB; have BK115 := n0_; have HB := n1_; have BK116 := n2_; have GW116 := n3_; have GE116 := n4_; have NB115_116 := n5_; have NB116_115 := n6_; clear n0_ n1_ n2_ n3_ n4_ n5_ n6_; clear hb hbox hg) | (go_at_call 37; (with_reducible refine (token_run_text.calls k (a0.extract 1 a0.size) t117 _ A4.out).mono ?_); rintro e w' ⟨rfl, ⟨nd, rfl⟩⟩; skip; (try (rw [drewN_self w19]; generalize hq_ : World.drewN w19 _ = w19; have n0_ : Aside0 (w19.heap[gb115]? = some (.cells #[.int .i64 0, .int .i64 0, .string (⟨#[]⟩ : ByteArray), .int .i64 0] 37 (0, 0))) := ⟨by rw [← hq_]; exact (by (with_reducible repeat (first | refine blk_drewN ?_ _ | refine blk_drew ?_ | refine blk_alloc ?_ _)); exact BK115.out)⟩; have n1_ : Aside0 (w19.heap[gb116]? = some (.cells #[.int .i64 0, .int .i64 0] 32 (0, 0))) := ⟨by rw [← hq_]; exact (by (with_reducible repeat (first | refine blk_drewN ?_ _ | refine blk_drew ?_ | refine blk_alloc ?_ _)); exact BK116.out)⟩; have n2_ : Aside0 (Below w.heap.size w w19) := ⟨by rw [← hq_]; exact (by repeat (first | (with_reducible first | exact HB.out | apply below_alloc | apply pw_below_drewN | apply below_drew1 | refine below_set ?_ GE115.out | refine below_set ?_ GE116.out) | exact HB.out))⟩; clear BK115 BK116 HB hq_; have BK115 := n0_; have BK116 := n1_; have HB := n2_; clear n0_ n1_ n2_)); have p14 : 0 ≤ ((ji11) : Int) := of_decide_eq_true (by first | (with_reducible assumption) | assumption); have q14 : (ji11) < (a0.size : Int) := of_decide_eq_true (by first | (with_reducible assumption) | assumption); have hx14 := bt_at a0 (ji11); replace p14 := eq_true p14; replace q14 := eq_true q14; have hnb20 := NB115_116.out; have hnc20 := NB116_115.out; have hcz21_0 : w19.cell? ⟨gb115, 0, none⟩ = some (.int .i64 0) := (blk_cell BK115.out 0).trans rfl; have hcz21_1 : w19.cell? ⟨gb115, 1, none⟩ = some (.int .i64 0) := (blk_cell BK115.out 1).trans rfl; have hcz21_2 : w19.cell? ⟨gb115, 2, none⟩ = some (.string (⟨#[]⟩ : ByteArray)) := (blk_cell BK115.out 2).trans rfl; have hcz21_3 : w19.cell? ⟨gb115, 3, none⟩ = some (.int .i64 0) := (blk_cell BK115.out 3).trans rfl; have hfz21_0 := blk_frozen BK115.out 0; have hfz21_1 := blk_frozen BK115.out 1; have hfz21_2 := blk_frozen BK115.out 2; have hfz21_3 := blk_frozen BK115.out 3; have hcz22_0 : w19.cell? ⟨gb116, 0, none⟩ = some (.int .i64 0) := (blk_cell BK116.out 0).trans rfl; have hcz22_1 : w19.cell? ⟨gb116, 1, none⟩ = some (.int .i64 0) := (blk_cell BK116.out 1).trans rfl; have hfz22_0 := blk_frozen BK116.out 0; have hfz22_1 := blk_frozen BK116.out 1))
        refine bodyPost_ret (results_list (rs := [.cell 4 37, .tmp 5, .cell 6 32]) rfl (by simp) (.cell gb115 37 #[.int .i64 3, .int .i64 0, .string (a0.extract 1 ((ji11) : Int).toNat), .int .i64 a1] (0, 0) _ rfl (by (with_reducible repeat (first | refine blk_drewN ?_ _ | refine blk_drew ?_ | refine blk_alloc ?_ _)); refine blk_far ?_ NB115_116.out _; (with_reducible repeat (first | refine blk_drewN ?_ _ | refine blk_drew ?_ | refine blk_alloc ?_ _)); refine blk_far ?_ NB115_116.out _; (with_reducible repeat (first | refine blk_drewN ?_ _ | refine blk_drew ?_ | refine blk_alloc ?_ _)); refine blk_put (cs := #[.int .i64 3, .int .i64 0, .string (a0.extract 1 ((ji11) : Int).toNat), .int .i64 0]) ?_ 3 _ rfl; (with_reducible repeat (first | refine blk_drewN ?_ _ | refine blk_drew ?_ | refine blk_alloc ?_ _)); refine blk_put (cs := #[.int .i64 3, .int .i64 0, .string (⟨#[]⟩ : ByteArray), .int .i64 0]) ?_ 2 _ rfl; (with_reducible repeat (first | refine blk_drewN ?_ _ | refine blk_drew ?_ | refine blk_alloc ?_ _)); refine blk_put (cs := #[.int .i64 3, .int .i64 0, .string (⟨#[]⟩ : ByteArray), .int .i64 0]) ?_ 1 _ rfl; (with_reducible repeat (first | refine blk_drewN ?_ _ | refine blk_drew ?_ | refine blk_alloc ?_ _)); refine blk_put (cs := #[.int .i64 0, .int .i64 0, .string (⟨#[]⟩ : ByteArray), .int .i64 0]) ?_ 0 _ rfl; (with_reducible repeat (first | refine blk_drewN ?_ _ | refine blk_drew ?_ | refine blk_alloc ?_ _)); exact BK115.out) Tryd.underlying37 rfl (by kernel_rfl) (.tmp (.cell gb116 32 #[.int .i64 0, .int .i64 0] (0, 0) _ rfl (by (with_reducible repeat (first | refine blk_drewN ?_ _ | refine blk_drew ?_ | refine blk_alloc ?_ _)); refine blk_put (cs := #[.int .i64 0, .int .i64 0]) ?_ 1 _ rfl; (with_reducible repeat (first | refine blk_drewN ?_ _ | refine blk_drew ?_ | refine blk_alloc ?_ _)); refine blk_put (cs := #[.int .i64 0, .int .i64 0]) ?_ 0 _ rfl; (with_reducible repeat (first | refine blk_drewN ?_ _ | refine blk_drew ?_ | refine blk_alloc ?_ _)); refine blk_far ?_ NB116_115.out _; (with_reducible repeat (first | refine blk_drewN ?_ _ | refine blk_drew ?_ | refine blk_alloc ?_ _)); refine blk_far ?_ NB116_115.out _; (with_reducible repeat (first | refine blk_drewN ?_ _ | refine blk_drew ?_ | refine blk_alloc ?_ _)); refine blk_far ?_ NB116_115.out _; (with_reducible repeat (first | refine blk_drewN ?_ _ | refine blk_drew ?_ | refine blk_alloc ?_ _)); refine blk_far ?_ NB116_115.out _; (with_reducible repeat (first | refine blk_drewN ?_ _ | refine blk_drew ?_ | refine blk_alloc ?_ _)); exact BK116.out) Tryd.underlying32 rfl (by kernel_rfl) .nil)))) rfl ?_
        exact ⟨by first | rfl | (simp [errW_none, errW_some] <;> rfl) | (simp only [← hji11]; first | rfl | (simp [errW_none, errW_some] <;> rfl)) | (simp [*, errW_none, errW_some] <;> rfl), by repeat (first | (with_reducible first | exact HB.out | apply below_alloc | apply pw_below_drewN | apply below_drew1 | refine below_set ?_ GE115.out | refine below_set ?_ GE116.out) | exact HB.out)⟩
       ·rw [if_neg c17] at H
        exact absurd H (by simp)
      ·rw [if_neg c16] at H
       exact absurd H (by simp)
     ·rw [if_neg c15] at H
      have c15b0 : ((bt a0 (ji11)) == 34) = false := beq_eq_false_iff_ne.mpr c15
      have c15b1 : ((bt a0 (ji11)) != 34) = true := bne_iff_ne.mpr c15
      simp only [Option.some.injEq, Prod.mk.injEq] at H
      obtain ⟨rfl, rfl, rfl, rfl, rfl, rfl, rfl⟩ := H
      go_enter Tryd.func53, Tryd.ntmps53
      go_wp2_with (first | ((with_reducible refine gate_dst (N := 4) rfl ?_); refine box_event ?hg (N := 4) ?hd (cs := #[.int .i64 0, .int .i64 0, .string (⟨#[]⟩ : ByteArray), .int .i64 0]) (t := 37) ?hr ?_; (case hd => rfl); (case hg => rfl); (case hr => first | (go_simp; done) | (go_simp; rfl)); intro gb115 hg w23 hbox hb; have n0_ := Aside0.mk (below_step (by repeat (first | (with_reducible first | exact HB.out | apply below_alloc | apply pw_below_drewN | apply below_drew1) | exact HB.out)) hb); have n1_ := Aside0.mk (hbox); have n2_ := Aside0.mk ((by rw [hg]; exact (below_size (by repeat (first | (with_reducible first | exact HB.out | apply below_alloc | apply pw_below_drewN | apply below_drew1) | exact HB.out))) : w.heap.size ≤ gb115)); have n3_ := Aside0.mk ((by rw [hg]; exact (below_size (by repeat (first | (with_reducible first | exact HB.out | apply below_alloc | apply pw_below_drewN | apply below_drew1) | exact HB.out))) : w.heap.size ≤ gb115)); clear HB; have HB := n0_; have BK115 := n1_; have GW115 := n2_; have GE115 := n3_; clear n0_ n1_ n2_ n3_; clear hb hbox hg) | ((with_reducible refine gate_dst (N := 6) rfl ?_); refine box_event ?hg (N := 6) ?hd (cs := #[.int .i64 0, .int .i64 0]) (t := 32) ?hr ?_; (case hd => rfl); (case hg => rfl); (case hr => first | (go_simp; done) | (go_simp; rfl)); intro gb116 hg w24 hbox hb; have n0_ := Aside0.mk (blk_below (g := gb115) (o := .cells #[.int .i64 0, .int .i64 0, .string (⟨#[]⟩ : ByteArray), .int .i64 0] 37 (0, 0)) (by (with_reducible repeat (first | refine blk_drewN ?_ _ | refine blk_drew ?_ | refine blk_alloc ?_ _)); exact BK115.out) hb); have n1_ := Aside0.mk (below_step (by repeat (first | (with_reducible first | exact HB.out | apply below_alloc | apply pw_below_drewN | apply below_drew1 | refine below_set ?_ GE115.out) | exact HB.out)) hb); have n2_ := Aside0.mk (hbox); have n3_ := Aside0.mk ((by rw [hg]; exact (below_size (by repeat (first | (with_reducible first | exact HB.out | apply below_alloc | apply pw_below_drewN | apply below_drew1 | refine below_set ?_ GE115.out) | exact HB.out))) : w.heap.size ≤ gb116)); have n4_ := Aside0.mk ((by rw [hg]; exact (below_size (by repeat (first | (with_reducible first | exact HB.out | apply below_alloc | apply pw_below_drewN | apply below_drew1 | refine below_set ?_ GE115.out) | exact HB.out))) : w.heap.size ≤ gb116)); have n5_ := Aside0.mk ((by rw [hg]; exact Nat.ne_of_lt (blk_lt (g := gb115) (o := .cells #[.int .i64 0, .int .i64 0, .string (⟨#[]⟩ : ByteArray), .int .i64 0] 37 (0, 0)) (by (with_reducible repeat (first | refine blk_drewN ?_ _ | refine blk_drew ?_ | refine blk_alloc ?_ _)); exact BK115.out)) : gb115 ≠ gb116)); have n6_ := Aside0.mk ((by rw [hg]; exact Nat.ne_of_gt (blk_lt (g := gb115) (o := .cells #[.int .i64 0, .int .i64 0, .string (⟨#[]⟩ : ByteArray), .int .i64 0] 37 (0, 0)) (by (with_reducible repeat (first | refine blk_drewN ?_ _ | refine blk_drew ?_ | refine blk_alloc ?_ _)); exact BK115.out)) : gb116 ≠ gb115)); clear BK115; clear HB; have BK115 := n0_; have HB := n1_; have BK116 := n2_; have GW116 := n3_; have GE116 := n4_; have NB115_116 := n5_; have NB116_115 := n6_; clear n0_ n1_ n2_ n3_ n4_ n5_ n6_; clear hb hbox hg) | (go_at_call 37; (with_reducible refine (token_run_text.calls k (a0.extract 1 a0.size) t117 _ A4.out).mono ?_); rintro e w' ⟨rfl, ⟨nd, rfl⟩⟩; skip; (try (rw [drewN_self w24]; generalize hq_ : World.drewN w24 _ = w24; have n0_ : Aside0 (w24.heap[gb115]? = some (.cells #[.int .i64 0, .int .i64 0, .string (⟨#[]⟩ : ByteArray), .int .i64 0] 37 (0, 0))) := ⟨by rw [← hq_]; exact (by (with_reducible repeat (first | refine blk_drewN ?_ _ | refine blk_drew ?_ | refine blk_alloc ?_ _)); exact BK115.out)⟩; have n1_ : Aside0 (w24.heap[gb116]? = some (.cells #[.int .i64 0, .int .i64 0] 32 (0, 0))) := ⟨by rw [← hq_]; exact (by (with_reducible repeat (first | refine blk_drewN ?_ _ | refine blk_drew ?_ | refine blk_alloc ?_ _)); exact BK116.out)⟩; have n2_ : Aside0 (Below w.heap.size w w24) := ⟨by rw [← hq_]; exact (by repeat (first | (with_reducible first | exact HB.out | apply below_alloc | apply pw_below_drewN | apply below_drew1 | refine below_set ?_ GE115.out | refine below_set ?_ GE116.out) | exact HB.out))⟩; clear BK115 BK116 HB hq_; have BK115 := n0_; have BK116 := n1_; have HB := n2_; clear n0_ n1_ n2_)); have p14 : 0 ≤ ((ji11) : Int) := of_decide_eq_true (by first | (with_reducible assumption) | assumption); have q14 : (ji11) < (a0.size : Int) := of_decide_eq_true (by first | (with_reducible assumption) | assumption); have hx14 := bt_at a0 (ji11); replace p14 := eq_true p14; replace q14 := eq_true q14; have hnb25 := NB115_116.out; have hnc25 := NB116_115.out; have hcz26_0 : w24.cell? ⟨gb115, 0, none⟩ = some (.int .i64 0) := (blk_cell BK115.out 0).trans rfl; have hcz26_1 : w24.cell? ⟨gb115, 1, none⟩ = some (.int .i64 0) := (blk_cell BK115.out 1).trans rfl; have hcz26_2 : w24.cell? ⟨gb115, 2, none⟩ = some (.string (⟨#[]⟩ : ByteArray)) := (blk_cell BK115.out 2).trans rfl; have hcz26_3 : w24.cell? ⟨gb115, 3, none⟩ = some (.int .i64 0) := (blk_cell BK115.out 3).trans rfl; have hfz26_0 := blk_frozen BK115.out 0; have hfz26_1 := blk_frozen BK115.out 1; have hfz26_2 := blk_frozen BK115.out 2; have hfz26_3 := blk_frozen BK115.out 3; have hcz27_0 : w24.cell? ⟨gb116, 0, none⟩ = some (.int .i64 0) := (blk_cell BK116.out 0).trans rfl; have hcz27_1 : w24.cell? ⟨gb116, 1, none⟩ = some (.int .i64 0) := (blk_cell BK116.out 1).trans rfl; have hfz27_0 := blk_frozen BK116.out 0; have hfz27_1 := blk_frozen BK116.out 1))
      refine bodyPost_ret (results_list (rs := [.cell 4 37, .tmp 5, .cell 6 32]) rfl (by simp) (.cell gb115 37 #[.int .i64 0, .int .i64 0, .string (⟨#[]⟩ : ByteArray), .int .i64 0] (0, 0) _ rfl (by (with_reducible repeat (first | refine blk_drewN ?_ _ | refine blk_drew ?_ | refine blk_alloc ?_ _)); refine blk_far ?_ NB115_116.out _; (with_reducible repeat (first | refine blk_drewN ?_ _ | refine blk_drew ?_ | refine blk_alloc ?_ _)); refine blk_far ?_ NB115_116.out _; (with_reducible repeat (first | refine blk_drewN ?_ _ | refine blk_drew ?_ | refine blk_alloc ?_ _)); refine blk_put (cs := #[.int .i64 0, .int .i64 0, .string (⟨#[]⟩ : ByteArray), .int .i64 0]) ?_ 3 _ rfl; (with_reducible repeat (first | refine blk_drewN ?_ _ | refine blk_drew ?_ | refine blk_alloc ?_ _)); refine blk_put (cs := #[.int .i64 0, .int .i64 0, .string (⟨#[]⟩ : ByteArray), .int .i64 0]) ?_ 2 _ rfl; (with_reducible repeat (first | refine blk_drewN ?_ _ | refine blk_drew ?_ | refine blk_alloc ?_ _)); refine blk_put (cs := #[.int .i64 0, .int .i64 0, .string (⟨#[]⟩ : ByteArray), .int .i64 0]) ?_ 1 _ rfl; (with_reducible repeat (first | refine blk_drewN ?_ _ | refine blk_drew ?_ | refine blk_alloc ?_ _)); refine blk_put (cs := #[.int .i64 0, .int .i64 0, .string (⟨#[]⟩ : ByteArray), .int .i64 0]) ?_ 0 _ rfl; (with_reducible repeat (first | refine blk_drewN ?_ _ | refine blk_drew ?_ | refine blk_alloc ?_ _)); exact BK115.out) Tryd.underlying37 rfl (by kernel_rfl) (.tmp (.cell gb116 32 #[.int .i64 4, .int .i64 (wrap64 (a1 + (ji11)))] (0, 0) _ rfl (by (with_reducible repeat (first | refine blk_drewN ?_ _ | refine blk_drew ?_ | refine blk_alloc ?_ _)); refine blk_put (cs := #[.int .i64 4, .int .i64 0]) ?_ 1 _ rfl; (with_reducible repeat (first | refine blk_drewN ?_ _ | refine blk_drew ?_ | refine blk_alloc ?_ _)); refine blk_put (cs := #[.int .i64 0, .int .i64 0]) ?_ 0 _ rfl; (with_reducible repeat (first | refine blk_drewN ?_ _ | refine blk_drew ?_ | refine blk_alloc ?_ _)); refine blk_far ?_ NB116_115.out _; (with_reducible repeat (first | refine blk_drewN ?_ _ | refine blk_drew ?_ | refine blk_alloc ?_ _)); refine blk_far ?_ NB116_115.out _; (with_reducible repeat (first | refine blk_drewN ?_ _ | refine blk_drew ?_ | refine blk_alloc ?_ _)); refine blk_far ?_ NB116_115.out _; (with_reducible repeat (first | refine blk_drewN ?_ _ | refine blk_drew ?_ | refine blk_alloc ?_ _)); refine blk_far ?_ NB116_115.out _; (with_reducible repeat (first | refine blk_drewN ?_ _ | refine blk_drew ?_ | refine blk_alloc ?_ _)); exact BK116.out) Tryd.underlying32 rfl (by kernel_rfl) .nil)))) rfl ?_
      exact ⟨by first | rfl | (simp [errW_none, errW_some] <;> rfl) | (simp only [← hji11]; first | rfl | (simp [errW_none, errW_some] <;> rfl)) | (simp [*, errW_none, errW_some] <;> rfl), by repeat (first | (with_reducible first | exact HB.out | apply below_alloc | apply pw_below_drewN | apply below_drew1 | refine below_set ?_ GE115.out | refine below_set ?_ GE116.out) | exact HB.out)⟩
    ·rw [if_neg c13] at H
     exact absurd H (by simp)
   ·rw [if_neg c12] at H
    exact absurd H (by simp)
 ·rw [if_neg c3] at H
  exact absurd H (by simp)

end Go.Proofs.YtjabjooephellaaDoor.XE
